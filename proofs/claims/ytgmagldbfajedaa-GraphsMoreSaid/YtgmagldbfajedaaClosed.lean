/-
  The closed facts on the program's head: they are met by the head's signs as a list, not by String.toList on the literal (which costs the kernel 9 GB).
-/
import Derived.Test.YtgmagldbfajedaaOpened
import Derived.OpenShut
namespace Go.Proofs.Ytgmagldbfajedaa

theorem head_words {s : String} {l : List Char} (h : s = String.ofList l) (hf : ((behindMainWord (wordsSigns l)).head? == some "cut".toList) = true) :
    ((behindMainWord (wordsSigns s.toList)).head? == some "cut".toList) = true := by
  subst h; rw [String.toList_ofList]; exact hf

set_option maxRecDepth 100000 in
theorem head_cut : ((behindMainWord (wordsSigns Try.prog.initOrder.toList)).head? == some "cut".toList) = true := head_words (s := Try.prog.initOrder) rfl (by kernel_rfl)

theorem head_form : ∃ r, behindMainWord (wordsSigns Try.prog.initOrder.toList) = "cut".toList :: r := by
  have h := head_cut
  cases hw : behindMainWord (wordsSigns Try.prog.initOrder.toList) with
  | nil => rw [hw] at h; simp at h
  | cons c r =>
    rw [hw] at h
    simp only [List.head?_cons, beq_iff_eq, Option.some.injEq] at h
    exact ⟨r, by rw [h]⟩

theorem strip_cut (r : List (List Char)) : stripLifts liftWords ("cut".toList :: r) = ([], "cut".toList :: r) := by
  unfold liftWords
  simp [stripLifts]

/-! Over any program: with the given one in the place of P the kernel opens her. -/

theorem lifts_of_head {P : Program} {r : List (List Char)} (hr : behindMainWord (wordsSigns P.initOrder.toList) = "cut".toList :: r) : P.headLifts = [] := by
  unfold Program.headLifts
  rw [hr, strip_cut]; simp

theorem make_of_head {P : Program} {r : List (List Char)} (hr : behindMainWord (wordsSigns P.initOrder.toList) = "cut".toList :: r) : P.make = some .cut := by
  unfold Program.make
  rw [hr]; simp

theorem final_of_head {P : Program} {r : List (List Char)} (hr : behindMainWord (wordsSigns P.initOrder.toList) = "cut".toList :: r) : P.liftsFinal = false := by
  have h := lifts_of_head hr
  unfold Program.liftsFinal
  rw [hr, h]; simp

theorem enter_of_head {P : Program} {r : List (List Char)} (hr : behindMainWord (wordsSigns P.initOrder.toList) = "cut".toList :: r) (h1 : P.laysLater = false) (h2 : P.bearsReflect = false) (h3 : P.doorFits [] = true) : P.mayEnter = true := by
  unfold Program.mayEnter
  rw [hr]
  simp only [strip_cut, h1, h2, h3]
  simp

theorem closed_make : Try.prog.make = some .cut := by
  obtain ⟨r, hr⟩ := head_form
  exact make_of_head hr

theorem closed_lifts : Try.prog.liftsFinal = false := by
  obtain ⟨r, hr⟩ := head_form
  exact final_of_head hr

theorem closed_later : Try.prog.laysLater = false := by kernel_rfl
theorem closed_reflect : Try.prog.bearsReflect = false := by kernel_rfl
theorem closed_door : Try.prog.doorFits [] = true := by kernel_rfl

theorem closed_enter : Try.prog.mayEnter = true := by
  obtain ⟨r, hr⟩ := head_form
  exact enter_of_head hr closed_later closed_reflect closed_door
end Go.Proofs.Ytgmagldbfajedaa
