/-
  Plain Lean: shapes joined, step by step; lists that hold each number once.
-/
import Derived.Test.YtgmagldbfajedaaGrGrid
namespace Go.Proofs.Ytgmagldbfajedaa
namespace Gr

/-- A shape within a round: longer, as soon as the direction has been passed. -/
def midJ (along : Int) (s x : List Int) (k : Nat) : List Int := if along < (k : Int) then longer along s x else s

theorem longer_length (along : Int) (s x : List Int) : (longer along s x).length = s.length := by unfold longer; simp
theorem midJ_length (along : Int) (s x : List Int) (k : Nat) : (midJ along s x k).length = s.length := by
  unfold midJ; split
  · exact longer_length _ _ _
  · rfl
theorem midJ_zero {along : Int} (h : 0 ≤ along) (s x : List Int) : midJ along s x 0 = s := by unfold midJ; rw [if_neg (by omega)]
theorem midJ_end {along : Int} {s : List Int} (h : along < s.length) (x : List Int) : midJ along s x s.length = longer along s x := by unfold midJ; rw [if_pos h]
theorem midJ_eq {along : Int} {k : Nat} (h : (k : Int) = along) (s x : List Int) : midJ along s x k = s ∧ midJ along s x (k + 1) = s.set k (nth s k + nth x k) := by
  unfold midJ longer
  subst h
  exact ⟨if_neg (by omega), by rw [if_pos (by omega)]; rfl⟩
theorem midJ_ne {along : Int} {k : Nat} (h : (k : Int) ≠ along) (s x : List Int) : midJ along s x (k + 1) = midJ along s x k := by
  unfold midJ
  by_cases c : along < (k : Int)
  · rw [if_pos c, if_pos (by omega)]
  · rw [if_neg c, if_neg (by omega)]
theorem midJ_nth {along : Int} {k : Nat} (h0 : 0 ≤ along) (h : (k : Int) ≠ along) (s x : List Int) : nth (midJ along s x k) k = nth s k := by
  unfold midJ
  split
  · unfold longer nth
    simp only [List.getD_eq_getElem?_getD, List.getElem?_set]
    rw [if_neg (by omega)]
  · rfl

theorem joinF_bad {along : Int} {s x : List Int} {r : List (List Int)} (h : x.length ≠ s.length ∨ (s.length : Int) ≤ along) : joinF along s (x :: r) = [] := by
  unfold joinF; rw [if_pos h]
theorem joinF_unfit {along : Int} {s x : List Int} {r : List (List Int)} {k : Nat} (hk : k < s.length) (h : (k : Int) ≠ along) (hv : nth s k ≠ nth x k) : joinF along s (x :: r) = [] := by
  unfold joinF
  split
  · rfl
  · rw [if_neg]
    intro hf
    unfold fits at hf
    rw [List.all_eq_true] at hf
    have := hf k (List.mem_range.2 hk)
    simp only [Bool.or_eq_true, decide_eq_true_eq] at this
    rcases this with h1 | h1
    · exact h h1
    · exact hv h1
theorem joinF_fit {along : Int} {s x : List Int} {r : List (List Int)} (hl : x.length = s.length) (ha : along < s.length) (h : ∀ k, k < s.length → (k : Int) ≠ along → nth s k = nth x k) :
    joinF along s (x :: r) = joinF along (longer along s x) r := by
  conv => lhs; unfold joinF
  rw [if_neg (by omega), if_pos]
  unfold fits
  rw [List.all_eq_true]
  intro k hk
  rw [List.mem_range] at hk
  by_cases c : (k : Int) = along
  · simp [c]
  · simp [h k hk c]
theorem joinF_nil {along : Int} {s : List Int} : joinF along s [] = if (s.length : Int) ≤ along then [] else s := by unfold joinF; rfl

theorem longer_bounds {along M : Int} {s x : List Int} (ha0 : 0 ≤ along) (ha : along < s.length) (hl : x.length = s.length) (hs : ∀ v ∈ s, 1 ≤ v ∧ v ≤ M) (hx : ∀ v ∈ x, 1 ≤ v ∧ v ≤ 64) : ∀ v ∈ longer along s x, 1 ≤ v ∧ v ≤ M + 64 := by
  intro v hv
  unfold longer at hv
  have h1 := hs _ (nth_mem s along.toNat (by omega))
  have h2 := hx _ (nth_mem x along.toNat (by omega))
  rcases List.mem_or_eq_of_mem_set hv with h | h
  · have := hs v h; omega
  · omega

theorem perm_range : ∀ (n : Nat) (l : List Int), l.length = n → (∀ i : Nat, i < n → (i : Int) ∈ l) → ∀ x ∈ l, 0 ≤ x ∧ x < n
  | 0, l, hl, _, x, hx => by rw [List.eq_nil_of_length_eq_zero hl] at hx; cases hx
  | n + 1, l, hl, h, x, hx => by
    have hn := h n (by omega)
    by_cases e : x = n
    · omega
    · have h1 := perm_range n (l.erase n) (by rw [List.length_erase_of_mem hn]; omega) (fun i hi => (List.mem_erase_of_ne (by omega)).2 (h i (by omega))) x ((List.mem_erase_of_ne e).2 hx)
      omega

theorem order_range {l : List Int} (h : order l = true) : l.length ≤ 4 ∧ ∀ x ∈ l, 0 ≤ x ∧ x < l.length := by
  unfold order at h
  simp only [Bool.and_eq_true, List.all_eq_true, List.mem_range, decide_eq_true_eq] at h
  exact ⟨h.2, perm_range l.length l rfl fun i hi => (hasB_iff l i).1 (h.1 i hi)⟩

end Gr
end Go.Proofs.Ytgmagldbfajedaa
