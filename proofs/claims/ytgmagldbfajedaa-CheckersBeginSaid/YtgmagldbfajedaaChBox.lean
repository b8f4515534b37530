/-
  One text out of: PlChk, ChBox. Plain Lean: what the statements of the chapter 23 ask of a plan. What is known of nodes, as it lies: an array of 32 structs of four flags in a box (KnBox); a struct stored into it.
-/
import Derived.Test.YtgmagldbfajedaaPlEnd
import Derived.Test.YtgmagldbfajedaaPlMem
import Derived.Test.YtgmagldbfajedaaBt
namespace Go.Proofs.Ytgmagldbfajedaa
namespace Pl
open Gr Od Co

/-- What the check tells: of any graph, room and steps. -/
def chkF (g : List Gr.Node) (room : Int) (l : List (Int × Int)) : Int × Bool := match shapes g with
  | none => (0, false)
  | some s => if room < 0 ∨ 1048576 < room then (0, false) else runC g (fun u => nth (bytesOf g s) u) room 0 (kn0 g) l

theorem chk_some {g : List Gr.Node} {s : List (List Int)} (h : shapes g = some s) {room : Int} (hr : 0 ≤ room ∧ room ≤ 1048576) (l : List (Int × Int)) : chkF g room l = runC g (fun u => nth (bytesOf g s) u) room 0 (kn0 g) l := by
  unfold chkF
  rw [h]
  simp only
  rw [if_neg (by omega)]

theorem fold_at : ∀ (l : List Int) (pk : Int), l.foldl mx pk = pk ∨ l.foldl mx pk ∈ l
  | [], _ => .inl rfl
  | x :: r, pk => by
    rw [List.foldl_cons]
    rcases fold_at r (mx pk x) with h | h
    · rw [h]
      unfold mx
      split
      · exact .inr (by simp)
      · exact .inl rfl
    · exact .inr (by simp [h])

section
variable {g : List Gr.Node} {s : List (List Int)} {room : Int} {l : List (Int × Int)}

/-- It passes in as much room as it takes, and in more. -/
theorem plan_pass (hs : shapes g = some s) (H : Plan g s room l) {m : Int} (hm : 0 ≤ m ∧ m ≤ 1048576) (hp : peakF (fun u => nth (bytesOf g s) u) (fun _ => 0) 0 0 l ≤ m) : chkF g m l = (0, true) := by
  obtain ⟨K, hK, he⟩ := H.run
  rw [chk_some hs hm, runC_ok l 0 _ K hK ?_, if_pos he]
  intro x hx
  rw [plan_peakF H] at hp
  exact Int.le_trans ((fold_ge _ 0).2 x hx) hp
/-- It does not pass in less. -/
theorem plan_over (hs : shapes g = some s) (H : Plan g s room l) {m : Int} (hm : 0 ≤ m ∧ m ≤ 1048576) (hp : m < peakF (fun u => nth (bytesOf g s) u) (fun _ => 0) 0 0 l) : (chkF g m l).2 = false := by
  rw [chk_some hs hm]
  refine runC_over l 0 _ ?_
  rw [plan_peakF H] at hp
  rcases fold_at (useds g (fun u => nth (bytesOf g s) u) (kn0 g) l) 0 with h | h
  · rw [h] at hp; omega
  · exact ⟨_, h, hp⟩

theorem plan_pos (_ : shapes g = some s) (H : Plan g s room l) : 0 < l.length := by
  obtain ⟨x, hx, _⟩ := H.peak
  cases l with
  | nil => simp [useds] at hx
  | cons a r => simp

theorem split_at {n : Nat} (hn : n < l.length) : l = l.take n ++ stepN l n :: l.drop (n + 1) := by
  have h : l.drop n = stepN l n :: l.drop (n + 1) := by
    rw [List.drop_eq_getElem_cons hn]
    congr 1
    unfold stepN; rw [List.getD_eq_getElem?_getD, List.getElem?_eq_getElem hn]; rfl
  rw [← h, List.take_append_drop]
theorem take_next {n : Nat} (hn : n < l.length) : l.take (n + 1) = l.take n ++ [stepN l n] := by
  rw [List.take_add_one, List.getElem?_eq_getElem hn]
  unfold stepN; rw [List.getD_eq_getElem?_getD, List.getElem?_eq_getElem hn]; rfl

/-- A beginning passes up to its end. -/
theorem plan_begin (hs : shapes g = some s) (H : Plan g s room l) (hm : 0 ≤ room ∧ room ≤ 1048576) {n : Nat} (hn : n < l.length) : (chkF g room (l.take n)).2 = true ∨ (chkF g room (l.take n)).1 = (n : Int) := by
  obtain ⟨K, hK, _⟩ := H.run
  have hK' := hK
  have hu := H.us
  rw [split_at hn] at hK' hu
  obtain ⟨K1, h1, _⟩ := (okRun_append _ _ _ _).1 hK'
  rw [chk_some hs hm, runC_ok (l.take n) 0 _ K1 h1 (fun x hx => hu x (by rw [useds_append _ _ _ _ h1]; simp only [List.mem_append]; exact .inl hx))]
  split
  · exact .inl rfl
  · right
    show ((0 + (l.take n).length : Nat) : Int) = n
    rw [List.length_take]
    omega
theorem plan_twice (hs : shapes g = some s) (H : Plan g s room l) (hm : 0 ≤ room ∧ room ≤ 1048576) {n : Nat} (hn : n < l.length) : chkF g room (l.take (n + 1) ++ [stepN l n] ++ l.drop (n + 1)) = (((n + 1 : Nat) : Int), false) := by
  obtain ⟨K, hK, _⟩ := H.run
  have hu := H.us
  rw [split_at hn] at hK hu
  rw [chk_some hs hm, take_next hn, List.append_assoc, List.singleton_append, check_twice hK hu, List.length_take]
  congr 3
  omega
theorem plan_less (hs : shapes g = some s) (H : Plan g s room l) (hm : 0 ≤ room ∧ room ≤ 1048576) {n : Nat} (hn : n < l.length) (hk : (stepN l n).1 = 1 ∨ (stepN l n).1 = 2) : (chkF g room (l.take n ++ l.drop (n + 1))).2 = false := by
  obtain ⟨K, hK, he⟩ := H.run
  have hu := H.us
  rw [split_at hn] at hK hu
  rw [chk_some hs hm]
  exact check_less hK he hu hk
end
end Pl
end Go.Proofs.Ytgmagldbfajedaa

namespace Go.Proofs.Ytgmagldbfajedaa
open Go.RowKit

/-- Four cells, stored. -/
def four (w : World) (B o : Nat) (v0 v1 v2 v3 : Value) : World := (((w.setCell ⟨B, o, none⟩ v0).setCell ⟨B, o + 1, none⟩ v1).setCell ⟨B, o + 2, none⟩ v2).setCell ⟨B, o + 3, none⟩ v3

theorem four_other (w : World) {B o A p : Nat} (h : A ≠ B ∨ p < o ∨ o + 3 < p) (v0 v1 v2 v3 : Value) : (four w B o v0 v1 v2 v3).cell? ⟨A, p, none⟩ = w.cell? ⟨A, p, none⟩ := by
  have hne : ∀ k, k < 4 → (⟨A, p, none⟩ : Addr) ≠ ⟨B, o + k, none⟩ := fun k hk e => by
    have h1 := congrArg Addr.block e
    have h2 := congrArg Addr.off e
    simp only at h1 h2
    omega
  unfold four
  rw [World.cell?_setCell_other _ _ _ _ (by first | exact hne 3 (by omega) | exact (hne 3 (by omega)).symm), World.cell?_setCell_other _ _ _ _ (by first | exact hne 2 (by omega) | exact (hne 2 (by omega)).symm),
    World.cell?_setCell_other _ _ _ _ (by first | exact hne 1 (by omega) | exact (hne 1 (by omega)).symm), World.cell?_setCell_other _ _ _ _ (by first | exact hne 0 (by omega) | exact (hne 0 (by omega)).symm)]
theorem four_same (w : World) {B o : Nat} {u0 u1 u2 u3 : Value} (h0 : w.cell? ⟨B, o, none⟩ = some u0) (h1 : w.cell? ⟨B, o + 1, none⟩ = some u1) (h2 : w.cell? ⟨B, o + 2, none⟩ = some u2) (h3 : w.cell? ⟨B, o + 3, none⟩ = some u3) (v0 v1 v2 v3 : Value) :
    (four w B o v0 v1 v2 v3).cell? ⟨B, o, none⟩ = some v0 ∧ (four w B o v0 v1 v2 v3).cell? ⟨B, o + 1, none⟩ = some v1 ∧ (four w B o v0 v1 v2 v3).cell? ⟨B, o + 2, none⟩ = some v2 ∧ (four w B o v0 v1 v2 v3).cell? ⟨B, o + 3, none⟩ = some v3 := by
  unfold four
  refine ⟨?_, ?_, ?_, ?_⟩
  · rw [set_off _ (by omega), set_off _ (by omega), set_off _ (by omega)]
    exact World.cell?_setCell_same _ _ _ h0
  · rw [set_off _ (by omega), set_off _ (by omega)]
    exact World.cell?_setCell_same _ _ _ ((set_off _ (by omega) _).trans h1)
  · rw [set_off _ (by omega)]
    exact World.cell?_setCell_same _ _ _ ((set_off _ (by omega) _).trans ((set_off _ (by omega) _).trans h2))
  · exact World.cell?_setCell_same _ _ _ ((set_off _ (by omega) _).trans ((set_off _ (by omega) _).trans ((set_off _ (by omega) _).trans h3)))
theorem four_below {base : Nat} {w0 w : World} (h : Below base w0 w) {B : Nat} (hB : base ≤ B) (o : Nat) (v0 v1 v2 v3 : Value) : Below base w0 (four w B o v0 v1 v2 v3) :=
  below_setCell (below_setCell (below_setCell (below_setCell h B _ _ hB) B _ _ hB) B _ _ hB) B _ _ hB
theorem four_frozen (w : World) (B o : Nat) (v0 v1 v2 v3 : Value) (p : Addr) : (four w B o v0 v1 v2 v3).frozen? p = w.frozen? p := by
  unfold four
  simp only [World.frozen?_setCell]
theorem four_size (w : World) (B o : Nat) (v0 v1 v2 v3 : Value) : (four w B o v0 v1 v2 v3).heap.size = w.heap.size := by unfold four; simp [World.setCell]

/-- The nodes' flags lie in the block B. -/
structure KnBox (w : World) (B : Nat) (K : Nat → Pl.Kn) : Prop where
  lt : B < w.heap.size
  fr : ∀ o, o < 128 → w.frozen? ⟨B, o, none⟩ = false
  at_ : ∀ v, v < 32 → w.cell? ⟨B, v * 4, none⟩ = some (.bool (K v).inn) ∧ w.cell? ⟨B, v * 4 + 1, none⟩ = some (.bool (K v).asked) ∧ w.cell? ⟨B, v * 4 + 2, none⟩ = some (.bool (K v).disk) ∧ w.cell? ⟨B, v * 4 + 3, none⟩ = some (.bool (K v).src)
theorem KnBox.below {w w' : World} {B : Nat} {K : Nat → Pl.Kn} (h : KnBox w B K) (hb : Below w.heap.size w w') : KnBox w' B K :=
  ⟨Nat.lt_of_lt_of_le h.lt hb.size, fun o ho => (hb.frozen (p := ⟨B, o, none⟩) h.lt).trans (h.fr o ho), fun v hv => by
    obtain ⟨h0, h1, h2, h3⟩ := h.at_ v hv
    exact ⟨(hb.cell (p := ⟨B, _, none⟩) h.lt).trans h0, (hb.cell (p := ⟨B, _, none⟩) h.lt).trans h1, (hb.cell (p := ⟨B, _, none⟩) h.lt).trans h2, (hb.cell (p := ⟨B, _, none⟩) h.lt).trans h3⟩⟩
theorem KnBox.set {w : World} {B : Nat} {K : Nat → Pl.Kn} (h : KnBox w B K) {v : Nat} (hv : v < 32) (k : Pl.Kn) : KnBox (four w B (v * 4) (.bool k.inn) (.bool k.asked) (.bool k.disk) (.bool k.src)) B (Pl.upd K v k) := by
  obtain ⟨h0, h1, h2, h3⟩ := h.at_ v hv
  refine ⟨by rw [four_size]; exact h.lt, fun o ho => by rw [four_frozen]; exact h.fr o ho, fun u hu => ?_⟩
  by_cases c : u = v
  · subst c
    rw [Pl.upd_at]
    exact four_same w h0 h1 h2 h3 _ _ _ _
  · rw [Pl.upd_ne _ _ _ c]
    obtain ⟨g0, g1, g2, g3⟩ := h.at_ u hu
    refine ⟨?_, ?_, ?_, ?_⟩
    · rw [four_other w (by omega)]; exact g0
    · rw [four_other w (by omega)]; exact g1
    · rw [four_other w (by omega)]; exact g2
    · rw [four_other w (by omega)]; exact g3
theorem KnBox.congr {w : World} {B : Nat} {K K' : Nat → Pl.Kn} (h : KnBox w B K) (e : ∀ v, v < 32 → K v = K' v) : KnBox w B K' :=
  ⟨h.lt, h.fr, fun v hv => by rw [← e v hv]; exact h.at_ v hv⟩
end Go.Proofs.Ytgmagldbfajedaa
