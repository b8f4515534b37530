/-
  Plain Lean: what a node takes in comes, step by step (first, second, waits from a place of the list on); the lists stay short.
-/
import Derived.Test.YtgmagldbfajedaaPlSmall
namespace Go.Proofs.Ytgmagldbfajedaa
namespace Pl
open Gr Od Co
variable {E : Env} {nx pin : List Int} {br : Int → List Int → St → St × Bool} {st : St} {u : Int} {r : List Int}

theorem first_in (h : hasB st.inn u = true ∨ hasB st.disk u = true) : first E nx br pin (u :: r) st = first E nx br pin r st := by
  conv => lhs; unfold first
  rw [if_pos h]
theorem first_out (h1 : hasB st.inn u = false) (h2 : hasB st.disk u = false) : first E nx br pin (u :: r) st = if (br u pin st).2 = false then ((br u pin st).1, false) else
    if (makes E nx u (pin ++ (nodeN E.g u.toNat).inn) (br u pin st).1).2 = false then ((makes E nx u (pin ++ (nodeN E.g u.toNat).inn) (br u pin st).1).1, false) else
    first E nx br pin r (takeS 3 u (makes E nx u (pin ++ (nodeN E.g u.toNat).inn) (br u pin st).1).1) := by
  conv => lhs; unfold first
  rw [if_neg (by rw [h1, h2]; simp)]
theorem second_in {A : List Int} (h : hasB st.inn u = true) : second E nx pin (u :: r) st A = second E nx pin r st A := by
  conv => lhs; unfold second
  rw [if_pos h]
theorem second_out {A : List Int} (h : hasB st.inn u = false) : second E nx pin (u :: r) st A = if (makes E nx u pin st).2 = false then ((makes E nx u pin st).1, A, false) else second E nx pin r (takeS 1 u (makes E nx u pin st).1) (A ++ [u]) := by
  conv => lhs; unfold second
  rw [if_neg (by rw [h]; simp)]
theorem waits_cons (st : St) : waits (u :: r) st = waits r (stepS 2 u st) := rfl

theorem first_le1 {n : Nat} (hb : ∀ u p st, 0 ≤ u ∧ u < (n : Int) → Grew n st (br u p st).1) (hr : ∀ v ∈ u :: r, 0 ≤ v ∧ v < (n : Int)) (h1 : hasB st.inn u = false) (h2 : hasB st.disk u = false) : (br u pin st).1.l.length ≤ (first E nx br pin (u :: r) st).1.l.length := by
  have hu := hr u (by simp)
  have hr2 : ∀ v ∈ r, 0 ≤ v ∧ v < (n : Int) := fun v hv => hr v (by simp [hv])
  rw [first_out h1 h2]
  split
  · exact Nat.le_refl _
  · split
    · exact len_evicts E nx _ _
    · exact Nat.le_trans (len_evicts E nx _ _) ((grew_take 3 u _ hu).trans (grew_first E nx br hb pin r _ hr2)).2
theorem first_le2 {n : Nat} (hb : ∀ u p st, 0 ≤ u ∧ u < (n : Int) → Grew n st (br u p st).1) (hr : ∀ v ∈ u :: r, 0 ≤ v ∧ v < (n : Int)) (h1 : hasB st.inn u = false) (h2 : hasB st.disk u = false) (h3 : (br u pin st).2 = true) :
    (makes E nx u (pin ++ (nodeN E.g u.toNat).inn) (br u pin st).1).1.l.length ≤ (first E nx br pin (u :: r) st).1.l.length := by
  have hu := hr u (by simp)
  have hr2 : ∀ v ∈ r, 0 ≤ v ∧ v < (n : Int) := fun v hv => hr v (by simp [hv])
  rw [first_out h1 h2, if_neg (by rw [h3]; simp)]
  split
  · exact Nat.le_refl _
  · exact ((grew_take 3 u _ hu).trans (grew_first E nx br hb pin r _ hr2)).2
theorem second_le {n : Nat} {A : List Int} (hr : ∀ v ∈ u :: r, 0 ≤ v ∧ v < (n : Int)) (h : hasB st.inn u = false) : (makes E nx u pin st).1.l.length ≤ (second E nx pin (u :: r) st A).1.l.length := by
  have hu := hr u (by simp)
  have hr2 : ∀ v ∈ r, 0 ≤ v ∧ v < (n : Int) := fun v hv => hr v (by simp [hv])
  rw [second_out h]
  split
  · exact Nat.le_refl _
  · exact ((grew_take 1 u _ hu).trans (grew_second E nx pin r _ _ hr2)).2
theorem drop_mem {l : List Int} {k : Nat} {v : Int} (h : v ∈ l.drop k) : v ∈ l := List.mem_of_mem_drop h
end Pl
end Go.Proofs.Ytgmagldbfajedaa
