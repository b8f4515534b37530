/-
  What graphs.Shapes calls, besides shape: contracts shapes1_any (its test), clipG_any; look-ups of a kind that is none; plain lemmas for its loop.
-/
import Derived.Test.YtgmagldbfajedaaGrShape
import Derived.Test.YtgmagldbfajedaaGrKinds4
import Derived.Test.YtgmagldbfajedaaEvWithin
namespace Go.Proofs.Ytgmagldbfajedaa
open Go.RowKit Go.MapKept

theorem clipG_any (a : Option Addr) (len cap : Nat) (w : World) (h1 : len ≤ cap) (h2 : cap ≤ 9223372036854775807) (h3 : a = none → len = 0 ∧ cap = 0) :
    Calls Try.prog 74 #[.slice a len cap] w fun e w' => e = .returned (.slice a len len) ∧ w = w' := by
  cases a with
  | none =>
    obtain ⟨rfl, rfl⟩ := h3 rfl
    go_enter Try.func74, Try.ntmps74
    go_wp2
    go_ret
    exact ⟨rfl, rfl⟩
  | some x =>
    clear h3
    go_enter Try.func74, Try.ntmps74
    go_wp2
    go_ret
    exact ⟨rfl, rfl⟩

/-- Is a number that of no node ahead? -/
def outK (k : Nat) (n : Int) : Bool := decide (n < 0) || decide ((k : Int) ≤ n)

theorem shapes1_any (g k : Nat) (n : Int) (w : World) (hc : w.cell? ⟨g, 0, none⟩ = some (.int .i64 k)) : Calls Try.prog 71 #[.int .i64 n, .pointer (some ⟨g, 0, none⟩)] w fun e w' => e = .returned (.bool (outK k n)) ∧ w' = w := by
  by_cases c : n < 0
  · have d1 : decide (n < 0) = true := decide_eq_true c
    have HR := Lib.hid (show outK k n = true by unfold outK; rw [d1]; rfl)
    go_enter Try.func71, Try.ntmps71
    go_wp2
    go_ret
    exact ⟨by rw [HR.out]; rfl, rfl⟩
  · have d1 : decide (n < 0) = false := decide_eq_false c
    have HR := Lib.hid (show outK k n = decide ((k : Int) ≤ n) by unfold outK; rw [d1]; rfl)
    go_enter Try.func71, Try.ntmps71
    go_wp2
    go_ret
    exact ⟨by rw [HR.out]; rfl, rfl⟩

theorem okIn_any (x : Gr.Node) (k : Nat) : Gr.okIn x k = !anyB (outK k) x.inn := by
  unfold Gr.okIn anyB
  rw [Bool.eq_iff_iff]
  simp only [List.all_eq_true, Bool.and_eq_true, decide_eq_true_eq, Bool.not_eq_true', List.any_eq_false, outK, Bool.or_eq_true]
  constructor
  · intro h v hv hn
    have := h v hv
    omega
  · intro h v hv
    have := h v hv
    omega

theorem predAt_out (g k : Nat) (B : World) (hg : g < B.heap.size) (hc : B.cell? ⟨g, 0, none⟩ = some (.int .i64 k)) : PredAt 71 #[.pointer (some ⟨g, 0, none⟩)] (outK k) B := fun w hw x _ _ =>
  (shapes1_any g k x w ((hw.cell (p := ⟨g, 0, none⟩) hg).trans hc)).mono fun e w' ⟨he, hw'⟩ => ⟨he, by rw [hw']; exact Below.refl _ _⟩

theorem run_zero100 (w : World) : (zeroValue 100).run Try.prog w = .ok (.agg #[.int .i64 0, .int .i64 0, .int .i64 0, .int .i64 0, .int .i64 0, .int .i64 0]) w := Try.zeroValue100 w

/-- What is looked up where there is no such kind. -/
theorem KindsMap.absent {w : World} {r : Nat} (h : KindsMap w r) {k : Int} (hk : Gr.kindOf k = none) :
    (Instr.lookup 95 (.map (some r)) (.int .u8 k) true).run Try.prog w = .ok (.tuple #[.agg #[.int .i64 0, .int .i64 0, .int .i64 0, .int .i64 0, .int .i64 0, .int .i64 0], .bool false]) w := by
  obtain ⟨es, clock, h1, h2, h3⟩ := h
  have hkey := isKey_u8 k
  rcases findNow_spec hkey es.toList 0 (fun e he => by obtain ⟨j, _, hj, _⟩ := h2 e he; rw [hj]; exact isKey_u8 j) with ⟨hf, _⟩ | ⟨j, e, hf, hj, he⟩
  · simp [Instr.lookup, run_underlying Try.under95, Go.MapKept.run_getObj_map h1, run_checkKey Try.under44 hkey, run_findKey Try.under44 hf, Result.andThen, run_zero100]
  · obtain ⟨k', kd', hk1, hk2, hv⟩ := h2 e (List.mem_of_getElem? hj)
    rw [he] at hk1
    simp only [Value.int.injEq, true_and] at hk1
    subst hk1
    rw [hk] at hk2
    cases hk2

namespace Gr
theorem inputs_snoc (g : List Node) (k : Nat) (hk : k < g.length) : inputs (g.take (k + 1)) = inputs (g.take k) + if (nodeN g k).kind = 1 then 1 else 0 := by
  rw [List.take_succ_eq_append_getElem hk, inputs_append, nodeN_eq g k hk]; rfl
theorem shapes_fail {g : List Node} {k : Nat} (hk : k < g.length) {M : List (List Int)} (h : run [] (g.take k) = some M) (hs : step M (nodeN g k) = none) : shapes g = none := by
  have := run_fail hk h (by rw [← nodeN_eq g k hk]; exact hs)
  unfold shapes
  split
  · rfl
  · rw [this]
theorem run_more' {g : List Node} {k : Nat} (hk : k < g.length) {M : List (List Int)} {s : List Int} (h : run [] (g.take k) = some M) (hs : step M (nodeN g k) = some s) : run [] (g.take (k + 1)) = some (M ++ [s]) :=
  run_more hk h (by rw [← nodeN_eq g k hk]; exact hs)
end Gr
end Go.Proofs.Ytgmagldbfajedaa
