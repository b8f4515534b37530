/-
  Plain Lean: what the law GraphsMore says; small literals.
-/
import Derived.Test.YtgmagldbfajedaaGrAheadLaw
namespace Go.Proofs.Ytgmagldbfajedaa
open Go.RowKit

namespace Gr
theorem run_all {g : List Node} {s : List (List Int)} (h : shapes g = some s) : ∀ t ∈ s, chk t = true := run_chk _ _ _ (shapes_iff.1 h).2.1 (fun _ h => by cases h)
theorem more_relu {g : List Node} {s : List (List Int)} (h : shapes g = some s) (r : Nat) (hr : r < g.length) : shapes (g ++ [⟨5, [r], [], 0, 0⟩]) = if g.length < 32 then some (s ++ [rowL s r]) else none := by
  have hl := shapes_len h
  have e : step s ⟨5, [r], [], 0, 0⟩ = some (rowL s r) := by
    rw [step_relu (run_all h)]
    simp only
    rw [if_pos ⟨by omega, by omega, trivial⟩, rowAt_nat]
  rw [shapes_snoc h (by simp) (by simp), e]
theorem more_shift {g : List Node} {s : List (List Int)} (h : shapes g = some s) (r : Nat) (hr : r < g.length) (by_ : Int) : (shapes (g ++ [⟨6, [r], [], by_, 0⟩])).isSome = (decide (g.length < 32) && decide (0 ≤ by_) && decide (by_ ≤ 31)) := by
  have hl := shapes_len h
  rw [shapes_snoc h (by simp) (by simp), step_shift (run_all h) r by_ (by omega) (by omega)]
  by_cases c : g.length < 32
  · rw [if_pos c]
    by_cases c1 : 0 ≤ by_ ∧ by_ ≤ 31
    · rw [if_pos c1]; simp [c, c1.1, c1.2]
    · rw [if_neg c1]
      by_cases c2 : 0 ≤ by_
      · have : ¬ by_ ≤ 31 := fun h => c1 ⟨c2, h⟩
        simp [c, c2, this]
      · simp [c, c2]
  · rw [if_neg c]; simp [c]
theorem more_bad {g : List Node} {s : List (List Int)} (h : shapes g = some s) (inn : List Int) (n : Int) (hb : ∀ k, inn = [k] → ¬ (0 ≤ k ∧ k < s.length ∧ n = 0)) : shapes (g ++ [⟨5, inn, [], n, 0⟩]) = none := by
  rw [shapes_snoc h (by simp) (by simp), step_relu (run_all h)]
  match inn, hb with
  | [], _ => simp
  | [k], hb => simp only; rw [if_neg (hb k rfl)]; simp
  | a :: b :: r, _ => simp
end Gr

theorem ints_k (w : World) (k : Int) (h : -9223372036854775808 ≤ k ∧ k ≤ 9223372036854775807) : Ints (w.alloc (.cells #[.int .i64 k] 3)) (some ⟨w.heap.size, 0, none⟩) 1 1 [k] :=
  ints_lits w _ [k] rfl (by simp) (fun n hn => by simp at hn; subst hn; exact h)
theorem ints_kb (w : World) (b : Nat) (hb : b = w.heap.size) (k : Int) (h : -9223372036854775808 ≤ k ∧ k ≤ 9223372036854775807) : Ints (w.alloc (.cells #[.int .i64 k] 3)) (some ⟨b, 0, none⟩) 1 1 [k] :=
  ints_lits w b [k] hb (by simp) (fun n hn => by simp at hn; subst hn; exact h)
theorem ints_kk (w : World) (k m : Int) (h : -9223372036854775808 ≤ k ∧ k ≤ 9223372036854775807) (h2 : -9223372036854775808 ≤ m ∧ m ≤ 9223372036854775807) : Ints (w.alloc (.cells #[.int .i64 k, .int .i64 m] 3)) (some ⟨w.heap.size, 0, none⟩) 2 2 [k, m] :=
  ints_lits w _ [k, m] rfl (by simp) (fun n hn => by simp at hn; rcases hn with rfl | rfl <;> assumption)
theorem nodeV_lit2 {w : World} {ai sa : Option Addr} {li ci ls cs : Nat} {kd n pad : Int} {inn shp : List Int} (hi : Ints w ai li ci inn) (hs : Ints w sa ls cs shp) (h1 : li ≤ 1000) (h2 : ls ≤ 1000) (h3 : 0 ≤ kd ∧ kd ≤ 255) (h4 : -9223372036854775808 ≤ n ∧ n ≤ 9223372036854775807) (h5 : -1000 ≤ pad ∧ pad ≤ 1000) :
    NodeV w ai li ci sa ls cs ⟨kd, inn, shp, n, pad⟩ := ⟨hi, hs, by omega, by omega, h3, h4, ⟨by simp only; omega, by simp only; omega⟩⟩

end Go.Proofs.Ytgmagldbfajedaa
