/-
  Plain Lean, no program: lists of integers by their places, behind names of their own.
-/
namespace Go.Proofs.Ytgmagldbfajedaa

/-- The element at a place. -/
def nth (l : List Int) (i : Nat) : Int := l.getD i 0
/-- Does a list hold a number? -/
def hasB (l : List Int) (v : Int) : Bool := l.contains v

theorem nth_eq (l : List Int) (i : Nat) (h : i < l.length) : nth l i = l[i] := by
  unfold nth; rw [List.getD_eq_getElem?_getD, List.getElem?_eq_getElem h]; rfl
theorem nth_mem (l : List Int) (i : Nat) (h : i < l.length) : nth l i ∈ l := by rw [nth_eq l i h]; exact List.getElem_mem h
theorem take_snoc (l : List Int) (k : Nat) (hk : k < l.length) : l.take (k + 1) = l.take k ++ [nth l k] := by
  rw [List.take_succ_eq_append_getElem hk, nth_eq l k hk]
theorem hasB_iff (l : List Int) (v : Int) : hasB l v = true ↔ v ∈ l := by unfold hasB; simp
theorem hasB_false (l : List Int) (v : Int) : hasB l v = false ↔ ¬ v ∈ l := by unfold hasB; simp
theorem hasB_nil (v : Int) : hasB [] v = false := rfl
theorem hasB_snoc (l : List Int) (v : Int) (k : Nat) (hk : k < l.length) (h : hasB (l.take k) v = false) (hv : nth l k ≠ v) : hasB (l.take (k + 1)) v = false := by
  rw [hasB_false] at h ⊢
  rw [take_snoc l k hk]
  simp only [List.mem_append, List.mem_singleton]
  rintro (h1 | h1)
  · exact h h1
  · exact hv h1.symm
theorem hasB_hit (l : List Int) (v : Int) (k : Nat) (hk : k < l.length) (hv : nth l k = v) : hasB l v = true := by
  rw [hasB_iff, ← hv]; exact nth_mem l k hk
theorem hasB_all (l : List Int) (v : Int) (k : Nat) (hk : l.length ≤ k) (h : hasB (l.take k) v = false) : hasB l v = false := by
  rwa [List.take_of_length_le hk] at h

/-- Is a test met somewhere? -/
def anyB (p : Int → Bool) (l : List Int) : Bool := l.any p
theorem anyB_nil (p : Int → Bool) : anyB p [] = false := rfl
theorem anyB_hit (p : Int → Bool) (l : List Int) (k : Nat) (hk : k < l.length) (h : p (nth l k) = true) : anyB p l = true := by
  unfold anyB; rw [List.any_eq_true]; exact ⟨_, nth_mem l k hk, h⟩
theorem anyB_snoc (p : Int → Bool) (l : List Int) (k : Nat) (hk : k < l.length) (h : anyB p (l.take k) = false) (h1 : p (nth l k) = false) : anyB p (l.take (k + 1)) = false := by
  unfold anyB at *; rw [take_snoc l k hk, List.any_append, h]; simp [h1]
theorem anyB_all (p : Int → Bool) (l : List Int) (k : Nat) (hk : l.length ≤ k) (h : anyB p (l.take k) = false) : anyB p l = false := by
  rwa [List.take_of_length_le hk] at h

end Go.Proofs.Ytgmagldbfajedaa
