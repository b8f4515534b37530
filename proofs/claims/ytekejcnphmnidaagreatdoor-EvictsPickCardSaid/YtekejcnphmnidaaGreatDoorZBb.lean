/-
  One text out of: StPlain, StBase, Clip.
-/
import Derived.Sort.LotA
import Derived.Shelf.SlSortCmp.QuietGrown
import Derived.BigRegion
import Derived.Test.YtekejcnphmnidaaGreatDoorZBa
/- StPlain: Plain Lean, no program: the stable sort of Go's library (zsortanyfunc.go: stableCmpFunc, symMergeCmpFunc, rotateCmpFunc, swapRangeCmpFunc) as functions over an array, and that it sorts.
-/
namespace Go.Proofs.YtekejcnphmnidaaGreatDoor
namespace St
open Go.Sort
variable {α : Type} [Inhabited α]

/-- The first place where a test fails, by halving. -/
def bs (p : Nat → Bool) (i j : Nat) : Nat := if i < j then (if p ((i + j) / 2) then bs p ((i + j) / 2 + 1) j else bs p i ((i + j) / 2)) else i
termination_by j - i
decreasing_by all_goals omega

/-- 'for k := ..; r rounds; k++ { swap k, k+1 }'. -/
def upSw : Nat → Nat → Array α → Array α
  | _, 0, d => d
  | k, r + 1, d => upSw (k + 1) r (swp d k (k + 1))
/-- 'for k := ..; r rounds; k-- { swap k, k-1 }'. -/
def dnSw : Nat → Nat → Array α → Array α
  | _, 0, d => d
  | k, r + 1, d => dnSw (k - 1) r (swp d k (k - 1))
/-- swapRange: from round i on, r rounds. -/
def swR (a b : Nat) : Nat → Nat → Array α → Array α
  | _, 0, d => d
  | i, r + 1, d => swR a b (i + 1) r (swp d (a + i) (b + i))
/-- rotate's loop; f: fuel. -/
def rotL (m : Nat) : Nat → Nat → Nat → Array α → Array α
  | 0, _, _, d => d
  | f + 1, i, j, d =>
    if i = j then swR (m - i) m 0 i d
    else if j < i then rotL m f (i - j) j (swR (m - i) m 0 j d)
    else rotL m f i (j - i) (swR (m - i) (m + j - i) 0 i d)
def rotate (d : Array α) (a m b : Nat) : Array α := rotL m (b - a) (m - a) (b - m) d

section
variable (lt : α → α → Bool)

def p1 (d : Array α) (a : Nat) (h : Nat) : Bool := lt d[h]! d[a]!
def p2 (d : Array α) (m : Nat) (h : Nat) : Bool := !lt d[m]! d[h]!
def p3 (d : Array α) (p : Nat) (c : Nat) : Bool := !lt d[p - c]! d[c]!

/-- Where the search of symMerge begins and ends, and what it finds. -/
def smStart (a m b : Nat) : Nat := if (a + b) / 2 < m then (a + b) / 2 + m - b else a
def smEnd (a m b : Nat) : Nat := if (a + b) / 2 < m then (a + b) / 2 else m
def smAt (d : Array α) (a m b : Nat) : Nat := bs (p3 lt d ((a + b) / 2 + m - 1)) (smStart a m b) (smEnd a m b)

def smRot (d : Array α) (a m b : Nat) : Array α :=
  if smAt lt d a m b < m ∧ m < (a + b) / 2 + m - smAt lt d a m b then rotate d (smAt lt d a m b) m ((a + b) / 2 + m - smAt lt d a m b) else d

/-- symMerge; f: fuel. -/
def symF : Nat → Array α → Nat → Nat → Nat → Array α
  | 0, d, _, _, _ => d
  | f + 1, d, a, m, b =>
    if m = a + 1 then upSw a (bs (p1 lt d a) m b - 1 - a) d
    else if b = m + 1 then dnSw m (m - bs (p2 lt d m) a m) d
    else
      let s := smAt lt d a m b
      let d1 := smRot lt d a m b
      let d2 := if a < s ∧ s < (a + b) / 2 then symF f d1 a s ((a + b) / 2) else d1
      if (a + b) / 2 < (a + b) / 2 + m - s ∧ (a + b) / 2 + m - s < b then symF f d2 ((a + b) / 2) ((a + b) / 2 + m - s) b else d2

/-- 'for b <= n { insertionSort(a, b); a = b; b += 20 }', then the rest. -/
def blocks : Nat → Nat → Array α → Array α
  | 0, a, d => insertionSort lt d a d.size
  | f + 1, a, d => if a + 20 ≤ d.size then blocks f (a + 20) (insertionSort lt d a (a + 20)) else insertionSort lt d a d.size
/-- one round over all pairs of blocks of a size. -/
def pairs (z : Nat) : Nat → Nat → Array α → Array α
  | 0, _, d => d
  | f + 1, a, d =>
    if a + 2 * z ≤ d.size then pairs z f (a + 2 * z) (symF lt d.size d a (a + z) (a + 2 * z))
    else if a + z < d.size then symF lt d.size d a (a + z) d.size else d
def merges : Nat → Nat → Array α → Array α
  | 0, _, d => d
  | f + 1, z, d => if z < d.size then merges f (2 * z) (pairs lt z (d.size + 1) 0 d) else d
def stable (d : Array α) : Array α := merges lt d.size 20 (blocks lt d.size 0 d)
end

/-! ### Halving -/

theorem bs_spec (p : Nat → Bool) (i0 j0 : Nat) : ∀ n i j, j - i ≤ n → i0 ≤ i → i ≤ j → j ≤ j0 → (i = i0 ∨ p (i - 1) = true) → (j = j0 ∨ p j = false) →
    i ≤ bs p i j ∧ bs p i j ≤ j ∧ (bs p i j = i0 ∨ p (bs p i j - 1) = true) ∧ (bs p i j = j0 ∨ p (bs p i j) = false) := by
  intro n
  induction n with
  | zero =>
    intro i j hn h0 h1 h2 h3 h4
    obtain rfl : i = j := by omega
    rw [bs, if_neg (by omega)]
    exact ⟨Nat.le_refl _, Nat.le_refl _, h3, h4⟩
  | succ n ih =>
    intro i j hn h0 h1 h2 h3 h4
    rw [bs]
    split
    · split
      · rename_i hp
        obtain ⟨a, b, c, d⟩ := ih ((i + j) / 2 + 1) j (by omega) (by omega) (by omega) h2 (.inr (by simpa using hp)) h4
        exact ⟨by omega, b, c, d⟩
      · rename_i hp
        obtain ⟨a, b, c, d⟩ := ih i ((i + j) / 2) (by omega) h0 (by omega) (by omega) h3 (.inr (by simpa using hp))
        exact ⟨a, by omega, c, d⟩
    · obtain rfl : i = j := by omega
      exact ⟨Nat.le_refl _, Nat.le_refl _, h3, h4⟩

theorem bs_all (p : Nat → Bool) (i j : Nat) (h : i ≤ j) : i ≤ bs p i j ∧ bs p i j ≤ j ∧ (bs p i j = i ∨ p (bs p i j - 1) = true) ∧ (bs p i j = j ∨ p (bs p i j) = false) :=
  bs_spec p i j (j - i) i j (Nat.le_refl _) (Nat.le_refl _) h (Nat.le_refl _) (.inl rfl) (.inl rfl)

/-! ### What moves -/

theorem upSw_get (r : Nat) : ∀ (k : Nat) (d : Array α), k + r < d.size → (upSw k r d).size = d.size ∧ ∀ t, (upSw k r d)[t]! = if k ≤ t ∧ t < k + r then d[t + 1]! else if t = k + r then d[k]! else d[t]! := by
  induction r with
  | zero => intro k d _; refine ⟨rfl, fun t => ?_⟩; unfold upSw; rw [if_neg (by omega)]; split <;> simp_all
  | succ r ih =>
    intro k d h
    obtain ⟨h1, h2⟩ := ih (k + 1) (swp d k (k + 1)) (by rw [swp_size]; omega)
    refine ⟨by unfold upSw; rw [h1, swp_size], fun t => ?_⟩
    unfold upSw
    rw [h2, swp_get d (by omega) (by omega), swp_get d (by omega) (by omega), swp_get d (by omega) (by omega)]
    repeat' split
    all_goals first | rfl | omega | (congr 1; omega) | skip
    all_goals (exfalso; omega)

theorem dnSw_get (r : Nat) : ∀ (k : Nat) (d : Array α), k < d.size → r ≤ k → (dnSw k r d).size = d.size ∧ ∀ t, (dnSw k r d)[t]! = if k - r < t ∧ t ≤ k then d[t - 1]! else if t = k - r then d[k]! else d[t]! := by
  induction r with
  | zero => intro k d _ _; refine ⟨rfl, fun t => ?_⟩; unfold dnSw; rw [if_neg (by omega)]; split <;> simp_all
  | succ r ih =>
    intro k d h hr
    obtain ⟨h1, h2⟩ := ih (k - 1) (swp d k (k - 1)) (by rw [swp_size]; omega) (by omega)
    refine ⟨by unfold dnSw; rw [h1, swp_size], fun t => ?_⟩
    unfold dnSw
    rw [h2, swp_get d (by omega) (by omega), swp_get d (by omega) (by omega), swp_get d (by omega) (by omega)]
    repeat' split
    all_goals first | rfl | omega | (congr 1; omega) | skip
    all_goals (exfalso; omega)

theorem swR_get (a b : Nat) (r : Nat) : ∀ (i : Nat) (d : Array α), a + i + r ≤ b + i → b + i + r ≤ d.size → (swR a b i r d).size = d.size ∧
    ∀ t, (swR a b i r d)[t]! = if a + i ≤ t ∧ t < a + i + r then d[t - a + b]! else if b + i ≤ t ∧ t < b + i + r then d[t - b + a]! else d[t]! := by
  induction r with
  | zero => intro i d _ _; refine ⟨rfl, fun t => ?_⟩; unfold swR; rw [if_neg (by omega), if_neg (by omega)]
  | succ r ih =>
    intro i d h1 h2
    obtain ⟨h3, h4⟩ := ih (i + 1) (swp d (a + i) (b + i)) (by omega) (by rw [swp_size]; omega)
    refine ⟨by unfold swR; rw [h3, swp_size], fun t => ?_⟩
    unfold swR
    rw [h4, swp_get d (by omega) (by omega), swp_get d (by omega) (by omega), swp_get d (by omega) (by omega)]
    repeat' split
    all_goals first | rfl | omega | (congr 1; omega) | skip
    all_goals (exfalso; omega)

/-- [m - i, m) and [m, m + j) are exchanged. -/
theorem rotL_get (m : Nat) (f : Nat) : ∀ (i j : Nat) (d : Array α), i + j ≤ f → 0 < i → 0 < j → i ≤ m → m + j ≤ d.size → (rotL m f i j d).size = d.size ∧
    ∀ t, (rotL m f i j d)[t]! = if m - i ≤ t ∧ t < m - i + j then d[t + i]! else if m - i + j ≤ t ∧ t < m + j then d[t - j]! else d[t]! := by
  induction f with
  | zero => intro i j d h hi; omega
  | succ f ih =>
    intro i j d h hi hj him hs
    unfold rotL
    split
    · rename_i e
      subst e
      obtain ⟨h1, h2⟩ := swR_get (m - i) m i 0 d (by omega) (by omega)
      refine ⟨h1, fun t => ?_⟩
      rw [h2]
      repeat' split
      all_goals first | rfl | omega | (congr 1; omega) | skip
      all_goals (exfalso; omega)
    · split
      · obtain ⟨h1, h2⟩ := swR_get (m - i) m j 0 d (by omega) (by omega)
        obtain ⟨h3, h4⟩ := ih (i - j) j (swR (m - i) m 0 j d) (by omega) (by omega) hj (by omega) (by rw [h1]; exact hs)
        refine ⟨by rw [h3, h1], fun t => ?_⟩
        rw [h4, h2, h2, h2]
        repeat' split
        all_goals first | rfl | omega | (congr 1; omega) | skip
        all_goals (exfalso; omega)
      · obtain ⟨h1, h2⟩ := swR_get (m - i) (m + j - i) i 0 d (by omega) (by omega)
        obtain ⟨h3, h4⟩ := ih i (j - i) (swR (m - i) (m + j - i) 0 i d) (by omega) hi (by omega) him (by rw [h1]; omega)
        refine ⟨by rw [h3, h1], fun t => ?_⟩
        rw [h4, h2, h2, h2]
        repeat' split
        all_goals first | rfl | omega | (congr 1; omega) | skip
        all_goals (exfalso; omega)

theorem rotate_get (d : Array α) (a m b : Nat) (ham : a < m) (hmb : m < b) (hb : b ≤ d.size) : (rotate d a m b).size = d.size ∧
    ∀ t, (rotate d a m b)[t]! = if a ≤ t ∧ t < a + (b - m) then d[t + (m - a)]! else if a + (b - m) ≤ t ∧ t < b then d[t - (b - m)]! else d[t]! := by
  obtain ⟨h1, h2⟩ := rotL_get m (b - a) (m - a) (b - m) d (by omega) (by omega) (by omega) (by omega) (by omega)
  refine ⟨h1, fun t => ?_⟩
  unfold rotate
  rw [h2]
  repeat' split
  all_goals first | rfl | omega | (congr 1; omega) | skip
  all_goals (exfalso; omega)

/-! ### .. is a permutation -/

theorem upSw_perm (a b r : Nat) : ∀ (k : Nat) (d : Array α), a ≤ k → k + r < b → b ≤ d.size → PermIn a b d (upSw k r d) := by
  induction r with
  | zero => intro k d _ _ _; exact permIn_refl _ _ _
  | succ r ih =>
    intro k d h1 h2 h3
    exact permIn_trans _ _ _ _ _ (swp_permIn d a b k (k + 1) h1 (by omega) (by omega) (by omega) h3) (ih (k + 1) _ (by omega) (by omega) (by rw [swp_size]; exact h3))

theorem dnSw_perm (a b r : Nat) : ∀ (k : Nat) (d : Array α), k < b → a + r ≤ k → b ≤ d.size → PermIn a b d (dnSw k r d) := by
  induction r with
  | zero => intro k d _ _ _; exact permIn_refl _ _ _
  | succ r ih =>
    intro k d h1 h2 h3
    exact permIn_trans _ _ _ _ _ (swp_permIn d a b k (k - 1) (by omega) h1 (by omega) (by omega) h3) (ih (k - 1) _ (by omega) (by omega) (by rw [swp_size]; exact h3))

theorem swR_perm (lo hi a b r : Nat) : ∀ (i : Nat) (d : Array α), lo ≤ a + i → lo ≤ b + i → a + i + r ≤ hi → b + i + r ≤ hi → hi ≤ d.size → PermIn lo hi d (swR a b i r d) := by
  induction r with
  | zero => intro i d _ _ _ _ _; exact permIn_refl _ _ _
  | succ r ih =>
    intro i d h1 h2 h3 h4 h5
    exact permIn_trans _ _ _ _ _ (swp_permIn d lo hi (a + i) (b + i) h1 (by omega) h2 (by omega) h5) (ih (i + 1) _ (by omega) (by omega) (by omega) (by omega) (by rw [swp_size]; exact h5))

theorem PermIn.size_eq {a b : Nat} {d d' : Array α} (h : PermIn a b d d') : d'.size = d.size := h.1

theorem rotL_perm (lo hi m f : Nat) : ∀ (i j : Nat) (d : Array α), lo + i ≤ m → m + j ≤ hi → hi ≤ d.size → PermIn lo hi d (rotL m f i j d) := by
  induction f with
  | zero => intro i j d _ _ _; exact permIn_refl _ _ _
  | succ f ih =>
    intro i j d h1 h2 h3
    unfold rotL
    split
    · exact swR_perm lo hi _ _ _ 0 d (by omega) (by omega) (by omega) (by omega) h3
    · split
      · have hp := swR_perm lo hi (m - i) m j 0 d (by omega) (by omega) (by omega) (by omega) h3
        exact permIn_trans _ _ _ _ _ hp (ih _ _ _ (by omega) (by omega) (by rw [hp.1]; exact h3))
      · have hp := swR_perm lo hi (m - i) (m + j - i) i 0 d (by omega) (by omega) (by omega) (by omega) h3
        exact permIn_trans _ _ _ _ _ hp (ih _ _ _ (by omega) (by omega) (by rw [hp.1]; exact h3))

theorem rotate_perm (lo hi : Nat) (d : Array α) (a m b : Nat) (h1 : lo ≤ a) (h2 : a ≤ m) (h3 : m ≤ b) (h4 : b ≤ hi) (h5 : hi ≤ d.size) : PermIn lo hi d (rotate d a m b) :=
  rotL_perm lo hi m _ _ _ d (by omega) (by omega) h5

/-! ### symMerge sorts -/
section
variable {lt : α → α → Bool}

theorem swo_le_trans {β : Type} {l : β → β → Bool} (h : SWO l) {x y z : β} (h1 : l y x = false) (h2 : l z y = false) : l z x = false := h.ntrans z y x h2 h1
theorem swo_lt_le {β : Type} {l : β → β → Bool} (h : SWO l) {x y z : β} (h1 : l x y = true) (h2 : l z y = false) : l x z = true := by
  cases h3 : l x z with
  | true => rfl
  | false => rw [h.ntrans x z y h3 h2] at h1; cases h1

theorem SortedIn.le (hS : SWO lt) {a b : Nat} {d : Array α} (h : SortedIn lt a b d) {i j : Nat} (h1 : a ≤ i) (h2 : i ≤ j) (h3 : j < b) : lt d[j]! d[i]! = false := by
  rcases Nat.lt_or_eq_of_le h2 with h4 | rfl
  · exact h i j h1 h4 h3
  · exact hS.irrefl _

theorem sym_one (hS : SWO lt) (d : Array α) (a b : Nat) (h1 : a + 1 < b) (hb : b ≤ d.size) (hs : SortedIn lt (a + 1) b d) :
    SortedIn lt a b (upSw a (bs (p1 lt d a) (a + 1) b - 1 - a) d) := by
  obtain ⟨k1, k2, k3, k4⟩ := bs_all (p1 lt d a) (a + 1) b (by omega)
  generalize bs (p1 lt d a) (a + 1) b = s at *
  obtain ⟨_, hg⟩ := upSw_get (s - 1 - a) a d (by omega)
  simp only [p1] at k3 k4
  intro i j hai hij hjb
  rw [hg, hg]
  by_cases hi : i < s - 1
  · rw [if_pos (show a ≤ i ∧ i < a + (s - 1 - a) by omega)]
    have k3' : lt d[s - 1]! d[a]! = true := k3.resolve_left (by omega)
    by_cases hj : j < s - 1
    · rw [if_pos (show a ≤ j ∧ j < a + (s - 1 - a) by omega)]
      exact hs _ _ (by omega) (by omega) (by omega)
    · rw [if_neg (by omega)]
      by_cases hj2 : j = a + (s - 1 - a)
      · rw [if_pos hj2]
        have h5 : lt d[s - 1]! d[i + 1]! = false := SortedIn.le hS hs (by omega) (by omega) (by omega)
        cases h6 : lt d[a]! d[i + 1]! with
        | false => rfl
        | true => rw [hS.trans _ _ _ k3' h6] at h5; cases h5
      · rw [if_neg hj2]
        exact hs _ _ (by omega) (by omega) (by omega)
  · rw [if_neg (show ¬ (a ≤ i ∧ i < a + (s - 1 - a)) by omega), if_neg (show ¬ (a ≤ j ∧ j < a + (s - 1 - a)) by omega)]
    rw [if_neg (show ¬ j = a + (s - 1 - a) by omega)]
    by_cases hi2 : i = a + (s - 1 - a)
    · rw [if_pos hi2]
      have k4' : lt d[s]! d[a]! = false := k4.resolve_left (by omega)
      exact swo_le_trans hS k4' (SortedIn.le hS hs (by omega) (by omega) (by omega))
    · rw [if_neg hi2]
      exact hs _ _ (by omega) (by omega) (by omega)

theorem sym_last (hS : SWO lt) (d : Array α) (a m : Nat) (h1 : a < m) (hb : m + 1 ≤ d.size) (hs : SortedIn lt a m d) :
    SortedIn lt a (m + 1) (dnSw m (m - bs (p2 lt d m) a m) d) := by
  obtain ⟨k1, k2, k3, k4⟩ := bs_all (p2 lt d m) a m (by omega)
  generalize bs (p2 lt d m) a m = s at *
  obtain ⟨_, hg⟩ := dnSw_get (m - s) m d (by omega) (by omega)
  simp only [p2, Bool.not_eq_true', Bool.not_eq_false'] at k3 k4
  intro i j hai hij hjb
  rw [hg, hg]
  by_cases hi : i < s
  · rw [if_neg (show ¬ (m - (m - s) < i ∧ i ≤ m) by omega), if_neg (show ¬ i = m - (m - s) by omega)]
    have k3' : lt d[m]! d[s - 1]! = false := k3.resolve_left (by omega)
    by_cases hj : j < s
    · rw [if_neg (show ¬ (m - (m - s) < j ∧ j ≤ m) by omega), if_neg (show ¬ j = m - (m - s) by omega)]
      exact hs _ _ (by omega) (by omega) (by omega)
    · by_cases hj2 : j = s
      · rw [if_neg (show ¬ (m - (m - s) < j ∧ j ≤ m) by omega), if_pos (show j = m - (m - s) by omega)]
        exact swo_le_trans hS (SortedIn.le hS hs (by omega) (by omega) (by omega)) k3'
      · rw [if_pos (show (m - (m - s) < j ∧ j ≤ m) by omega)]
        exact hs _ _ (by omega) (by omega) (by omega)
  · by_cases hi2 : i = s
    · rw [if_neg (show ¬ (m - (m - s) < i ∧ i ≤ m) by omega), if_pos (show i = m - (m - s) by omega), if_pos (show (m - (m - s) < j ∧ j ≤ m) by omega)]
      have k4' : lt d[m]! d[s]! = true := k4.resolve_left (by omega)
      have h5 : lt d[j - 1]! d[s]! = false := SortedIn.le hS hs (by omega) (by omega) (by omega)
      cases h6 : lt d[j - 1]! d[m]! with
      | false => rfl
      | true => rw [hS.trans _ _ _ h6 k4'] at h5; cases h5
    · rw [if_pos (show (m - (m - s) < i ∧ i ≤ m) by omega), if_pos (show (m - (m - s) < j ∧ j ≤ m) by omega)]
      exact hs _ _ (by omega) (by omega) (by omega)

/-- Behind the rotation: what stands where, and that nothing of the second half is less than anything of the first one. -/
theorem smRot_spec (hS : SWO lt) (d : Array α) (a m b : Nat) (h1 : a + 1 < m) (h2 : m + 1 < b) (hb : b ≤ d.size) (hs1 : SortedIn lt a m d) (hs2 : SortedIn lt m b d) :
    a ≤ smAt lt d a m b ∧ smAt lt d a m b ≤ (a + b) / 2 ∧ smAt lt d a m b ≤ m ∧ (a + b) / 2 + m - smAt lt d a m b ≤ b ∧
    PermIn a b d (smRot lt d a m b) ∧
    (∀ i j, a ≤ i → i < (a + b) / 2 → (a + b) / 2 ≤ j → j < b → lt (smRot lt d a m b)[j]! (smRot lt d a m b)[i]! = false) ∧
    SortedIn lt a (smAt lt d a m b) (smRot lt d a m b) ∧ SortedIn lt (smAt lt d a m b) ((a + b) / 2) (smRot lt d a m b) ∧
    SortedIn lt ((a + b) / 2) ((a + b) / 2 + m - smAt lt d a m b) (smRot lt d a m b) ∧ SortedIn lt ((a + b) / 2 + m - smAt lt d a m b) b (smRot lt d a m b) := by
  have hst : smStart a m b ≤ smEnd a m b := by unfold smStart smEnd; split <;> omega
  obtain ⟨k1, k2, k3, k4⟩ := bs_all (p3 lt d ((a + b) / 2 + m - 1)) (smStart a m b) (smEnd a m b) hst
  change smStart a m b ≤ smAt lt d a m b at k1
  change smAt lt d a m b ≤ smEnd a m b at k2
  change smAt lt d a m b = smStart a m b ∨ p3 lt d ((a + b) / 2 + m - 1) (smAt lt d a m b - 1) = true at k3
  change smAt lt d a m b = smEnd a m b ∨ p3 lt d ((a + b) / 2 + m - 1) (smAt lt d a m b) = false at k4
  have hget : ∀ t, (smRot lt d a m b)[t]! = if smAt lt d a m b ≤ t ∧ t < (a + b) / 2 then d[t + (m - smAt lt d a m b)]! else if (a + b) / 2 ≤ t ∧ t < (a + b) / 2 + m - smAt lt d a m b then d[t - ((a + b) / 2 - smAt lt d a m b)]! else d[t]! := by
    have hle : smEnd a m b ≤ (a + b) / 2 ∧ smEnd a m b ≤ m := by unfold smEnd; split <;> omega
    have hge : a ≤ smStart a m b ∧ (a + b) / 2 + m - smStart a m b ≤ b := by unfold smStart; split <;> omega
    intro t
    unfold smRot
    split
    · obtain ⟨_, hr⟩ := rotate_get d (smAt lt d a m b) m ((a + b) / 2 + m - smAt lt d a m b) (by omega) (by omega) (by omega)
      rw [hr]
      repeat' split
      all_goals first | rfl | omega | (congr 1; omega) | skip
      all_goals (exfalso; omega)
    · repeat' split
      all_goals first | rfl | omega | (congr 1; omega) | skip
      all_goals (exfalso; omega)
  have hperm : PermIn a b d (smRot lt d a m b) := by
    have hle : smEnd a m b ≤ (a + b) / 2 ∧ smEnd a m b ≤ m := by unfold smEnd; split <;> omega
    have hge : a ≤ smStart a m b ∧ (a + b) / 2 + m - smStart a m b ≤ b := by unfold smStart; split <;> omega
    unfold smRot
    split
    · exact rotate_perm a b d _ _ _ (by omega) (by omega) (by omega) (by omega) hb
    · exact permIn_refl _ _ _
  generalize smRot lt d a m b = d1 at *
  generalize smAt lt d a m b = s at *
  simp only [p3, Bool.not_eq_true', Bool.not_eq_false'] at k3 k4
  generalize hmid : (a + b) / 2 = mid at *
  have hmid1 : 2 * mid ≤ a + b ∧ a + b ≤ 2 * mid + 1 := by omega
  have hle : smEnd a m b ≤ mid ∧ smEnd a m b ≤ m := by unfold smEnd; split <;> omega
  have hge : a ≤ smStart a m b ∧ mid + m - smStart a m b ≤ b := by unfold smStart; split <;> omega
  refine ⟨by omega, by omega, by omega, by omega, hperm, ?_, ?_, ?_, ?_, ?_⟩
  · intro i j hai him hmj hjb
    rw [hget, hget]
    rw [if_neg (show ¬ (s ≤ j ∧ j < mid) by omega)]
    by_cases hi : i < s
    · rw [if_neg (show ¬ (s ≤ i ∧ i < mid) by omega), if_neg (show ¬ (mid ≤ i ∧ i < mid + m - s) by omega)]
      by_cases hj : j < mid + m - s
      · rw [if_pos ⟨hmj, hj⟩]
        exact hs1 _ _ hai (by omega) (by omega)
      · rw [if_neg (by omega)]
        have hne : ¬ s = smStart a m b := by
          intro e
          have : smStart a m b = a ∨ mid + m - smStart a m b = b := by
            unfold smStart; split
            · right; omega
            · left; rfl
          omega
        have k3' := k3.resolve_left hne
        rw [show mid + m - 1 - (s - 1) = mid + m - s from by omega] at k3'
        exact swo_le_trans hS (swo_le_trans hS (SortedIn.le hS hs1 hai (by omega) (by omega)) k3') (SortedIn.le hS hs2 (by omega) (by omega) hjb)
    · rw [if_pos (show s ≤ i ∧ i < mid by omega)]
      by_cases hj : j < mid + m - s
      · rw [if_pos ⟨hmj, hj⟩]
        have hne : ¬ s = smEnd a m b := by
          intro e
          have : smEnd a m b = mid ∨ smEnd a m b = m := by
            unfold smEnd; split
            · left; omega
            · right; rfl
          omega
        have k4' := k4.resolve_left hne
        have h5 : lt d[mid + m - 1 - s]! d[i + (m - s)]! = false := SortedIn.le hS hs2 (by omega) (by omega) (by omega)
        have h6 : lt d[j - (mid - s)]! d[s]! = false := SortedIn.le hS hs1 (by omega) (by omega) (by omega)
        cases h7 : lt d[j - (mid - s)]! d[i + (m - s)]! with
        | false => rfl
        | true => rw [hS.trans _ _ _ (swo_lt_le hS k4' h6) h7] at h5; cases h5
      · rw [if_neg (by omega)]
        exact hs2 _ _ (by omega) (by omega) hjb
  · intro i j hai hij hjs
    rw [hget, hget, if_neg (show ¬ (s ≤ i ∧ i < mid) by omega), if_neg (show ¬ (s ≤ j ∧ j < mid) by omega), if_neg (by omega), if_neg (by omega)]
    exact hs1 _ _ hai hij (by omega)
  · intro i j hai hij hjs
    rw [hget, hget, if_pos (show (s ≤ i ∧ i < mid) by omega), if_pos (show (s ≤ j ∧ j < mid) by omega)]
    exact hs2 _ _ (by omega) (by omega) (by omega)
  · intro i j hai hij hjs
    rw [hget, hget, if_neg (show ¬ (s ≤ i ∧ i < mid) by omega), if_neg (show ¬ (s ≤ j ∧ j < mid) by omega), if_pos (by omega), if_pos (by omega)]
    exact hs1 _ _ (by omega) (by omega) (by omega)
  · intro i j hai hij hjs
    rw [hget, hget, if_neg (show ¬ (s ≤ i ∧ i < mid) by omega), if_neg (show ¬ (s ≤ j ∧ j < mid) by omega), if_neg (by omega), if_neg (by omega)]
    exact hs2 _ _ (by omega) hij hjs

theorem SortedIn.of_eq {a b : Nat} {d d' : Array α} (h : SortedIn lt a b d) (he : ∀ i, a ≤ i → i < b → d'[i]! = d[i]!) : SortedIn lt a b d' := by
  intro i j h1 h2 h3
  rw [he i h1 (by omega), he j (by omega) h3]
  exact h i j h1 h2 h3

theorem symF_spec (hS : SWO lt) : ∀ (f : Nat) (d : Array α) (a m b : Nat), b ≤ a + f → a < m → m < b → b ≤ d.size → SortedIn lt a m d → SortedIn lt m b d →
    PermIn a b d (symF lt f d a m b) ∧ SortedIn lt a b (symF lt f d a m b) := by
  intro f
  induction f with
  | zero => intro d a m b h1 h2 h3; omega
  | succ f ih =>
    intro d a m b h1 h2 h3 hb hs1 hs2
    unfold symF
    split
    · rename_i e
      subst e
      obtain ⟨k1, k2, _, _⟩ := bs_all (p1 lt d a) (a + 1) b (by omega)
      exact ⟨upSw_perm a b _ a d (Nat.le_refl _) (by omega) hb, sym_one hS d a b h3 hb hs2⟩
    · rename_i hne
      split
      · rename_i e
        subst e
        obtain ⟨k1, k2, _, _⟩ := bs_all (p2 lt d m) a m (by omega)
        exact ⟨dnSw_perm a (m + 1) _ m d (by omega) (by omega) hb, sym_last hS d a m h2 hb hs1⟩
      · rename_i hne2
        obtain ⟨g1, g2, g3, g4, hp, hx, q1, q2, q3, q4⟩ := smRot_spec hS d a m b (by omega) (by omega) hb hs1 hs2
        generalize smRot lt d a m b = d1 at *
        generalize smAt lt d a m b = s at *
        have hmid1 : 2 * ((a + b) / 2) ≤ a + b ∧ a + b ≤ 2 * ((a + b) / 2) + 1 := by omega
        generalize (a + b) / 2 = mid at *
        have hz1 : d1.size = d.size := hp.1
        have st2 : PermIn a mid d1 (if a < s ∧ s < mid then symF lt f d1 a s mid else d1) ∧ SortedIn lt a mid (if a < s ∧ s < mid then symF lt f d1 a s mid else d1) := by
          split
          · exact ih d1 a s mid (by omega) (by omega) (by omega) (by omega) q1 q2
          · refine ⟨permIn_refl _ _ _, ?_⟩
            by_cases hs : s = a
            · subst hs; exact q2
            · obtain rfl : s = mid := by omega
              exact q1
        show PermIn a b d (if mid < mid + m - s ∧ mid + m - s < b then symF lt f (if a < s ∧ s < mid then symF lt f d1 a s mid else d1) mid (mid + m - s) b else (if a < s ∧ s < mid then symF lt f d1 a s mid else d1)) ∧
          SortedIn lt a b (if mid < mid + m - s ∧ mid + m - s < b then symF lt f (if a < s ∧ s < mid then symF lt f d1 a s mid else d1) mid (mid + m - s) b else (if a < s ∧ s < mid then symF lt f d1 a s mid else d1))
        generalize (if a < s ∧ s < mid then symF lt f d1 a s mid else d1) = d2 at *
        obtain ⟨p2', s2⟩ := st2
        have hz2 : d2.size = d1.size := p2'.1
        have e2 : ∀ i, mid ≤ i → d2[i]! = d1[i]! := fun i hi => p2'.2.1 i (.inr hi)
        have q3' : SortedIn lt mid (mid + m - s) d2 := SortedIn.of_eq q3 fun i hi _ => e2 i hi
        have q4' : SortedIn lt (mid + m - s) b d2 := SortedIn.of_eq q4 fun i hi _ => e2 i (by omega)
        have st3 : PermIn mid b d2 (if mid < mid + m - s ∧ mid + m - s < b then symF lt f d2 mid (mid + m - s) b else d2) ∧ SortedIn lt mid b (if mid < mid + m - s ∧ mid + m - s < b then symF lt f d2 mid (mid + m - s) b else d2) := by
          split
          · exact ih d2 mid (mid + m - s) b (by omega) (by omega) (by omega) (by omega) q3' q4'
          · refine ⟨permIn_refl _ _ _, ?_⟩
            by_cases hs : mid + m - s = b
            · rw [hs] at q3'; exact q3'
            · have : mid + m - s = mid := by omega
              rw [this] at q4'; exact q4'
        generalize (if mid < mid + m - s ∧ mid + m - s < b then symF lt f d2 mid (mid + m - s) b else d2) = d3 at *
        obtain ⟨p3', s3⟩ := st3
        have e3 : ∀ i, i < mid → d3[i]! = d2[i]! := fun i hi => p3'.2.1 i (.inl hi)
        refine ⟨permIn_trans _ _ _ _ _ hp (permIn_trans _ _ _ _ _ (permIn_mono d1 d2 a mid a b (Nat.le_refl _) (by omega) (by omega) p2') (permIn_mono d2 d3 mid b a b (by omega) (Nat.le_refl _) (by omega) p3')), ?_⟩
        have c1 : ∀ i, a ≤ i → i < mid → ∀ j, mid ≤ j → j < b → lt d1[j]! d2[i]! = false := by
          refine permIn_all d1 d2 a mid (fun x => ∀ j, mid ≤ j → j < b → lt d1[j]! x = false) (by omega) p2' ?_
          intro i h4 h5 j h6 h7
          exact hx i j h4 h5 h6 h7
        have c2 : ∀ j, mid ≤ j → j < b → ∀ i, a ≤ i → i < mid → lt d3[j]! d2[i]! = false := by
          refine permIn_all d2 d3 mid b (fun y => ∀ i, a ≤ i → i < mid → lt y d2[i]! = false) (by omega) p3' ?_
          intro j h4 h5 i h6 h7
          rw [e2 j h4]
          exact c1 i h6 h7 j h4 h5
        intro i j h4 h5 h6
        by_cases hj : j < mid
        · rw [e3 i (by omega), e3 j hj]; exact s2 i j h4 h5 hj
        · by_cases hi : i < mid
          · rw [e3 i hi]; exact c2 j (by omega) h6 i h4 hi
          · exact s3 i j (by omega) h5 h6

/-! ### stable sorts -/

/-- Each aligned block of a size is sorted. -/
def Blk (lt : α → α → Bool) (z : Nat) (d : Array α) : Prop := ∀ k, SortedIn lt (k * z) (min (k * z + z) d.size) d

theorem blocks_spec (hS : SWO lt) : ∀ (f k : Nat) (d : Array α), d.size ≤ k * 20 + f → k * 20 ≤ d.size → (∀ k', k' < k → SortedIn lt (k' * 20) (k' * 20 + 20) d) →
    PermIn 0 d.size d (blocks lt f (k * 20) d) ∧ Blk lt 20 (blocks lt f (k * 20) d) := by
  have last : ∀ (k : Nat) (d : Array α), d.size < k * 20 + 20 → k * 20 ≤ d.size → (∀ k', k' < k → SortedIn lt (k' * 20) (k' * 20 + 20) d) →
      PermIn 0 d.size d (insertionSort lt d (k * 20) d.size) ∧ Blk lt 20 (insertionSort lt d (k * 20) d.size) := by
    intro k d h1 h2 h3
    obtain ⟨hp, hs⟩ := insertionSort_holds hS d (k * 20) d.size h2 (Nat.le_refl _)
    refine ⟨permIn_mono _ _ _ _ _ _ (Nat.zero_le _) (Nat.le_refl _) (Nat.le_refl _) hp, ?_⟩
    intro k'
    rw [hp.1]
    by_cases h : k' < k
    · have := SortedIn.of_eq (h3 k' h) (d' := insertionSort lt d (k * 20) d.size) fun i _ hi => hp.2.1 i (.inl (by omega))
      intro i j h4 h5 h6
      exact this i j h4 h5 (by omega)
    · intro i j h4 h5 h6
      exact hs i j (by omega) h5 (by omega)
  intro f
  induction f with
  | zero =>
    intro k d h1 h2 h3
    unfold blocks
    exact last k d (by omega) h2 h3
  | succ f ih =>
    intro k d h1 h2 h3
    unfold blocks
    split
    · rename_i hle
      obtain ⟨hp, hs⟩ := insertionSort_holds hS d (k * 20) (k * 20 + 20) (by omega) hle
      have hz := hp.1
      have := ih (k + 1) (insertionSort lt d (k * 20) (k * 20 + 20)) (by omega) (by omega) (by
        intro k' hk'
        by_cases h : k' < k
        · exact SortedIn.of_eq (h3 k' h) fun i _ hi => hp.2.1 i (.inl (by omega))
        · obtain rfl : k' = k := by omega
          exact hs)
      rw [show (k + 1) * 20 = k * 20 + 20 by omega, hz] at this
      exact ⟨permIn_trans _ _ _ _ _ (permIn_mono _ _ _ _ _ _ (Nat.zero_le _) hle (Nat.le_refl _) hp) this.1, this.2⟩
    · exact last k d (by omega) h2 h3

theorem pairs_spec (hS : SWO lt) (z : Nat) (hz0 : 0 < z) : ∀ (f k : Nat) (d : Array α), d.size < k * (2 * z) + f → (∀ k', k' < k → SortedIn lt (k' * (2 * z)) (min (k' * (2 * z) + 2 * z) d.size) d) →
    (∀ k', 2 * k ≤ k' → SortedIn lt (k' * z) (min (k' * z + z) d.size) d) →
    PermIn 0 d.size d (pairs lt z f (k * (2 * z)) d) ∧ Blk lt (2 * z) (pairs lt z f (k * (2 * z)) d) := by
  intro f
  induction f with
  | zero =>
    intro k d h1 h2 h3
    unfold pairs
    refine ⟨permIn_refl _ _ _, fun k' => ?_⟩
    by_cases h : k' < k
    · exact h2 k' h
    · intro i j h4 h5 h6
      have : k * (2 * z) ≤ k' * (2 * z) := Nat.mul_le_mul_right _ (by omega)
      omega
  | succ f ih =>
    intro k d h1 h2 h3
    have ea : 2 * k * z = k * (2 * z) := by rw [Nat.mul_comm 2 k, Nat.mul_assoc]
    have eb : (2 * k + 1) * z = k * (2 * z) + z := by rw [Nat.add_mul, ea, Nat.one_mul]
    have r1 := h3 (2 * k) (Nat.le_refl _)
    have r2 := h3 (2 * k + 1) (by omega)
    rw [ea] at r1
    rw [eb] at r2
    unfold pairs
    split
    · rename_i hle
      rw [show min (k * (2 * z) + z) d.size = k * (2 * z) + z by omega] at r1
      rw [show min (k * (2 * z) + z + z) d.size = k * (2 * z) + 2 * z by omega] at r2
      obtain ⟨hp, hs⟩ := symF_spec hS d.size d (k * (2 * z)) (k * (2 * z) + z) (k * (2 * z) + 2 * z) (by omega) (by omega) (by omega) hle r1 r2
      generalize symF lt d.size d (k * (2 * z)) (k * (2 * z) + z) (k * (2 * z) + 2 * z) = d' at *
      have hz := hp.1
      have ek : (k + 1) * (2 * z) = k * (2 * z) + 2 * z := by rw [Nat.add_mul, Nat.one_mul]
      have := ih (k + 1) d' (by omega) (by
        intro k' hk'
        rw [hz]
        by_cases h : k' < k
        · have hm : (k' + 1) * (2 * z) ≤ k * (2 * z) := Nat.mul_le_mul_right _ (by omega)
          rw [Nat.add_mul, Nat.one_mul] at hm
          exact SortedIn.of_eq (h2 k' h) fun i _ hi => hp.2.1 i (.inl (by omega))
        · obtain rfl : k' = k := by omega
          intro i j h4 h5 h6
          exact hs i j h4 h5 (by omega)) (by
        intro k' hk'
        rw [hz]
        have hm : (2 * k + 2) * z ≤ k' * z := Nat.mul_le_mul_right _ (by omega)
        rw [Nat.add_mul, ea] at hm
        exact SortedIn.of_eq (h3 k' (by omega)) fun i hi _ => hp.2.1 i (.inr (by omega)))
      rw [ek, hz] at this
      exact ⟨permIn_trans _ _ _ _ _ (permIn_mono _ _ _ _ _ _ (Nat.zero_le _) hle (Nat.le_refl _) hp) this.1, this.2⟩
    · rename_i hgt
      split
      · rename_i hlt
        rw [show min (k * (2 * z) + z) d.size = k * (2 * z) + z by omega] at r1
        rw [show min (k * (2 * z) + z + z) d.size = d.size by omega] at r2
        obtain ⟨hp, hs⟩ := symF_spec hS d.size d (k * (2 * z)) (k * (2 * z) + z) d.size (by omega) (by omega) hlt (Nat.le_refl _) r1 r2
        generalize symF lt d.size d (k * (2 * z)) (k * (2 * z) + z) d.size = d' at *
        refine ⟨permIn_mono _ _ _ _ _ _ (Nat.zero_le _) (Nat.le_refl _) (Nat.le_refl _) hp, fun k' => ?_⟩
        rw [hp.1]
        by_cases h : k' < k
        · have hm : (k' + 1) * (2 * z) ≤ k * (2 * z) := Nat.mul_le_mul_right _ (by omega)
          rw [Nat.add_mul, Nat.one_mul] at hm
          exact SortedIn.of_eq (h2 k' h) fun i _ hi => hp.2.1 i (.inl (by omega))
        · intro i j h4 h5 h6
          have : k * (2 * z) ≤ k' * (2 * z) := Nat.mul_le_mul_right _ (by omega)
          exact hs i j (by omega) h5 (by omega)
      · refine ⟨permIn_refl _ _ _, fun k' => ?_⟩
        by_cases h : k' < k
        · exact h2 k' h
        · intro i j h4 h5 h6
          have : k * (2 * z) ≤ k' * (2 * z) := Nat.mul_le_mul_right _ (by omega)
          exact r1 i j (by omega) h5 (by omega)

theorem merges_spec (hS : SWO lt) : ∀ (f z : Nat) (d : Array α), 0 < z → d.size ≤ z + f → Blk lt z d → PermIn 0 d.size d (merges lt f z d) ∧ SortedIn lt 0 d.size (merges lt f z d) := by
  have done : ∀ (z : Nat) (d : Array α), d.size ≤ z → Blk lt z d → SortedIn lt 0 d.size d := fun z d h hb => by
    have := hb 0
    rwa [Nat.zero_mul, Nat.zero_add, Nat.min_eq_right h] at this
  intro f
  induction f with
  | zero =>
    intro z d h0 h1 hb
    unfold merges
    exact ⟨permIn_refl _ _ _, done z d (by omega) hb⟩
  | succ f ih =>
    intro z d h0 h1 hb
    unfold merges
    split
    · obtain ⟨hp, hb'⟩ := pairs_spec hS z h0 (d.size + 1) 0 d (by omega) (fun k' hk' => by omega) (fun k' _ => hb k')
      rw [Nat.zero_mul] at hp hb'
      have hz := hp.1
      have := ih (2 * z) _ (by omega) (by omega) hb'
      rw [hz] at this
      exact ⟨permIn_trans _ _ _ _ _ hp this.1, this.2⟩
    · exact ⟨permIn_refl _ _ _, done z d (by omega) hb⟩

theorem stable_spec (hS : SWO lt) (d : Array α) : PermIn 0 d.size d (stable lt d) ∧ SortedIn lt 0 d.size (stable lt d) := by
  unfold stable
  obtain ⟨hp, hb⟩ := blocks_spec hS d.size 0 d (by omega) (by omega) (fun k' hk' => by omega)
  rw [Nat.zero_mul] at hp hb
  have hz := hp.1
  have := merges_spec hS d.size 20 _ (by omega) (by omega) hb
  rw [hz] at this
  exact ⟨permIn_trans _ _ _ _ _ hp this.1, this.2⟩
end

end St
end Go.Proofs.YtekejcnphmnidaaGreatDoor

/- StBase: slices.SortStableFunc: vocabulary (SV, CmpOk) and swapRange.
-/
namespace Go.Proofs.YtekejcnphmnidaaGreatDoor
open Go.RowKit Go.Sort

abbrev ei (x : Int) : Value := .int .i64 x

/-- Every block but one is as it was. -/
structure But (blk : Nat) (w w' : World) : Prop where
  os : w'.os = w.os
  tape : w'.tape = w.tape
  output : w'.output = w.output
  size : w.heap.size ≤ w'.heap.size
  block : ∀ k, k < w.heap.size → k ≠ blk → w'.heap[k]? = w.heap[k]?
theorem But.refl (blk : Nat) (w : World) : But blk w w := ⟨rfl, rfl, rfl, Nat.le_refl _, fun _ _ _ => rfl⟩
theorem But.trans {blk : Nat} {a b c : World} (h : But blk a b) (k : But blk b c) : But blk a c :=
  ⟨k.os.trans h.os, k.tape.trans h.tape, k.output.trans h.output, Nat.le_trans h.size k.size, fun i hi hn => (k.block i (Nat.lt_of_lt_of_le hi h.size) hn).trans (h.block i hi hn)⟩
theorem But.of_below {blk : Nat} {a b : World} (h : Below a.heap.size a b) : But blk a b := ⟨h.os, h.tape, h.output, h.size, fun k hk _ => h.block k hk⟩
theorem But.setCell {blk : Nat} {a b : World} (h : But blk a b) (o : Nat) (v : Value) : But blk a (b.setCell ⟨blk, o, none⟩ v) :=
  h.trans ⟨rfl, rfl, rfl, by simp [World.setCell], fun k hk hn => Below.heap_setCell _ _ _ _ hn⟩
theorem But.drew {blk : Nat} {a b : World} (h : But blk a b) : But blk a b.drew := h.trans ⟨rfl, rfl, rfl, Nat.le_refl _, fun _ _ _ => rfl⟩
theorem But.cell {blk : Nat} {w w' : World} (h : But blk w w') {p : Addr} (hp : p.block < w.heap.size) (hn : p.block ≠ blk) : w'.cell? p = w.cell? p := World.cell?_of_block (w := w) (h.block p.block hp hn)
theorem But.ints {blk : Nat} {w w' : World} (h : But blk w w') {b off len cap : Nat} {l : List Int} (hI : Ints w (some ⟨b, off, none⟩) len cap l) (hn : b ≠ blk) : Ints w' (some ⟨b, off, none⟩) len cap l :=
  ⟨hI.le, hI.cap_le, hI.length, hI.wf, fun h0 => by
    obtain ⟨b', off', e, hlt, hc⟩ := hI.at_ h0
    simp only [Option.some.injEq, Addr.mk.injEq] at e
    obtain ⟨rfl, rfl, _⟩ := e
    exact ⟨b, off, rfl, Nat.lt_of_lt_of_le hlt h.size, fun i hi => (h.cell (p := ⟨b, off + i, none⟩) hlt hn).trans (hc i hi)⟩⟩

/-- A world of the sort: the row holds d, all else is as it was at w0. -/
structure SV (blk off n : Nat) (dom : Int → Prop) (w0 : World) (d : Array Int) (w : World) : Prop where
  size : d.size = n
  dom : ∀ i, i < n → dom d[i]!
  holds : Holds ei w blk off d
  but : But blk w0 w
  lt : blk < w.heap.size

/-- What is asked of the comparison. -/
def CmpOk (g : Nat) (cb : Array Value) (cf : Int → Int → Int) (dom : Int → Prop) (blk : Nat) (w0 : World) : Prop :=
  ∀ w, But blk w0 w → ∀ x y, dom x → dom y → Calls Tryz.prog g (#[.int .i64 x, .int .i64 y] ++ cb) w fun e w' => e = .returned (.int .i64 (cf x y)) ∧ More w w'

section
variable {blk off n : Nat} {dom : Int → Prop} {w0 w : World} {d : Array Int}

theorem SV.below (h : SV blk off n dom w0 d w) {w' : World} (hb : Below w.heap.size w w') : SV blk off n dom w0 d w' :=
  ⟨h.size, h.dom, fun j hj => ⟨(hb.cell (p := ⟨blk, off + j, none⟩) h.lt).trans (h.holds j hj).1, (hb.frozen (p := ⟨blk, off + j, none⟩) h.lt).trans (h.holds j hj).2⟩,
    h.but.trans (But.of_below hb), Nat.lt_of_lt_of_le h.lt hb.size⟩
theorem SV.more (h : SV blk off n dom w0 d w) {w' : World} (hm : More w w') : SV blk off n dom w0 d w' := h.below hm.below
theorem SV.drew (h : SV blk off n dom w0 d w) : SV blk off n dom w0 d w.drew := h.more (More.refl _).drew
theorem SV.c1 (h : SV blk off n dom w0 d w) (i : Nat) (hi : i < n) : w.cell? ⟨blk, off + i, none⟩ = some (.int .i64 d[i]!) := (h.holds i (by rw [h.size]; exact hi)).1
theorem SV.f1 (h : SV blk off n dom w0 d w) (i : Nat) (hi : i < n) : w.frozen? ⟨blk, off + i, none⟩ = false := (h.holds i (by rw [h.size]; exact hi)).2
theorem SV.cl (h : SV blk off n dom w0 d w) (i : Nat) (hi : i < n) (q : Nat) (os : Array Obj) : (grow (w.drewN q) os).cell? ⟨blk, off + i, none⟩ = some (.int .i64 d[i]!) := (h.more ⟨q, os, rfl⟩).c1 i hi
theorem SV.c2 (h : SV blk off n dom w0 d w) (i j : Nat) (hi : i < n) (hj : j < n) (v : Value) : ∃ u, (w.setCell ⟨blk, off + i, none⟩ v).cell? ⟨blk, off + j, none⟩ = some u := by
  by_cases e : i = j
  · subst e; exact ⟨v, World.cell?_setCell_same _ _ _ (h.c1 i hi)⟩
  · exact ⟨_, (World.cell?_setCell_other _ _ _ _ (by intro e'; simp only [Addr.mk.injEq] at e'; omega)).trans (h.c1 j hj)⟩

theorem SV.swap (h : SV blk off n dom w0 d w) (i j : Nat) (hi : i < n) (hj : j < n) :
    SV blk off n dom w0 (swp d i j) ((w.setCell ⟨blk, off + i, none⟩ (.int .i64 d[j]!)).setCell ⟨blk, off + j, none⟩ (.int .i64 d[i]!)) := by
  have hz := h.size
  have g : ∀ k, (swp d i j)[k]! = if k = j then d[i]! else if k = i then d[j]! else d[k]! := fun k => swp_get d (by omega) (by omega) k
  refine ⟨by rw [swp_size]; exact hz, fun k hk => ?_, fun k hk => ?_, (h.but.setCell _ _).setCell _ _, by simp [World.setCell]; exact h.lt⟩
  · rw [g]; split
    · exact h.dom i hi
    · split
      · exact h.dom j hj
      · exact h.dom k hk
  · rw [swp_size, hz] at hk
    refine ⟨?_, by rw [World.frozen?_setCell, World.frozen?_setCell]; exact h.f1 k hk⟩
    rw [g]
    by_cases e : k = j
    · subst e
      obtain ⟨u, hu⟩ := h.c2 i k hi hk (.int .i64 d[k]!)
      rw [World.cell?_setCell_same _ _ _ hu, if_pos rfl]
    · rw [World.cell?_setCell_other _ _ _ _ (by intro e'; simp only [Addr.mk.injEq] at e'; omega), if_neg e]
      by_cases e2 : k = i
      · subst e2
        rw [World.cell?_setCell_same _ _ _ (h.c1 k hk), if_pos rfl]
      · rw [World.cell?_setCell_other _ _ _ _ (by intro e'; simp only [Addr.mk.injEq] at e'; omega), if_neg e2]
        exact h.c1 k hk

theorem SV.cmp {g : Nat} {cb : Array Value} {cf : Int → Int → Int} (h : SV blk off n dom w0 d w) (hc : CmpOk g cb cf dom blk w0) (x y : Int) (hx : dom x) (hy : dom y) (q : Nat) (os : Array Obj) :
    Calls Tryz.prog g (#[.int .i64 x, .int .i64 y] ++ cb) (grow (w.drewN q) os) fun e w' => e = .returned (.int .i64 (cf x y)) ∧ ∃ q' os', w' = grow ((grow (w.drewN q) os).drewN q') os' :=
  hc _ (h.more ⟨q, os, rfl⟩).but x y hx hy
end

end Go.Proofs.YtekejcnphmnidaaGreatDoor

/- Clip: slices.Clip of a slice of ints: contract clip_any (its result is the slice itself, with its length as capacity).
-/
namespace Go.Proofs.YtekejcnphmnidaaGreatDoor
open Go.RowKit

theorem clip_any (a : Option Addr) (len cap : Nat) (w : World) (h1 : len ≤ cap) (h2 : cap ≤ 9223372036854775807) (h3 : a = none → len = 0 ∧ cap = 0) :
    Calls Tryz.prog 56 #[.slice a len cap] w fun e w' => e = .returned (.slice a len len) ∧ w = w' := by
  cases a with
  | none =>
    obtain ⟨rfl, rfl⟩ := h3 rfl
    go_enter Tryz.func56, Tryz.ntmps56
    go_wp2
    go_ret
    exact ⟨rfl, rfl⟩
  | some x =>
    clear h3
    go_enter Tryz.func56, Tryz.ntmps56
    go_wp2
    go_ret
    exact ⟨rfl, rfl⟩

theorem But.intsO {blk : Nat} {w w' : World} (h : But blk w w') {a : Option Addr} {len cap : Nat} {l : List Int} (hI : Ints w a len cap l) (hn : ∀ b off, a = some ⟨b, off, none⟩ → b < w.heap.size → b ≠ blk) : Ints w' a len cap l :=
  ⟨hI.le, hI.cap_le, hI.length, hI.wf, fun h0 => by
    obtain ⟨b', off', e, hlt, hc⟩ := hI.at_ h0
    exact ⟨b', off', e, Nat.lt_of_lt_of_le hlt h.size, fun i hi => (h.cell (p := ⟨b', off' + i, none⟩) hlt (hn b' off' e hlt)).trans (hc i hi)⟩⟩

theorem But.below {blk B : Nat} {w w' : World} (h : But blk w w') (hB : B ≤ blk) (hs : B ≤ w.heap.size) : Below B w w' := ⟨h.os, h.tape, h.output, h.size, fun k hk => h.block k (by omega) (by omega)⟩

/-- A row of integers is a world of the sort. -/
theorem sv_start {w : World} {g len cap : Nat} {l : List Int} {dom : Int → Prop} (hI : Ints w (some ⟨g, 0, none⟩) len cap l) (hg : g < w.heap.size) (hf : ∀ i, i < cap → w.frozen? ⟨g, i, none⟩ = false) (hd : ∀ x ∈ l, dom x) :
    SV g 0 len dom w l.toArray w := by
  have hz : l.toArray.size = len := by simpa using hI.length
  have hget : ∀ i, i < len → l.toArray[i]! = nth l i := fun i hi => by
    have : i < l.length := by rw [hI.length]; exact hi
    rw [nth_eq l i this, getElem!_pos _ i (by simpa using this)]; simp
  refine ⟨hz, fun i hi => ?_, fun j hj => ?_, But.refl _ _, hg⟩
  · rw [hget i hi]; exact hd _ (nth_mem l i (by rw [hI.length]; exact hi))
  · rw [hz] at hj
    obtain ⟨b, off, e, _, hc⟩ := hI.at_ (by omega)
    simp only [Option.some.injEq, Addr.mk.injEq] at e
    obtain ⟨rfl, rfl, _⟩ := e
    have := hI.le
    refine ⟨?_, by rw [Nat.zero_add]; exact hf j (by omega)⟩
    rw [hget j hj]; exact hc j hj

theorem sv_ints {w0 w : World} {g len cap : Nat} {d : Array Int} {dom : Int → Prop} (S : SV g 0 len dom w0 d w) (hle : len ≤ cap) (hcap : cap ≤ 9223372036854775807) (hd : ∀ x, dom x → -9223372036854775808 ≤ x ∧ x ≤ 9223372036854775807) :
    Ints w (some ⟨g, 0, none⟩) len cap d.toList := by
  have hz := S.size
  refine ⟨hle, hcap, by simpa using hz, fun x hx => ?_, fun _ => ⟨g, 0, rfl, S.lt, fun i hi => ?_⟩⟩
  · obtain ⟨i, hi, rfl⟩ := List.getElem_of_mem hx
    have hi' : i < d.size := by simpa using hi
    have := S.dom i (by omega)
    rw [getElem!_pos d i hi'] at this
    simpa using hd _ this
  · rw [S.c1 i hi]
    have hi' : i < d.size := by omega
    rw [nth_eq _ i (by simpa using hi'), getElem!_pos d i hi']; simp

end Go.Proofs.YtekejcnphmnidaaGreatDoor
