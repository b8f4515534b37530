/-
  Plain Lean: what the laws of chapter 12 say of uses and of next.
-/
import Derived.Test.YtgmagldbfajedaaBo
namespace Go.Proofs.Ytgmagldbfajedaa
namespace Od
open Gr

theorem hasB_eq (l : List Int) (v : Int) (k : Nat) : hasB (l.take k) v = false ↔ ∀ j, j < k → j < l.length → nth l j ≠ v := by
  rw [hasB_false]
  constructor
  · intro h j h1 h2 he
    refine h ?_
    rw [← he, nth_eq l j h2, List.mem_take_iff_getElem]
    exact ⟨j, by omega, rfl⟩
  · intro h hm
    rw [List.mem_take_iff_getElem] at hm
    obtain ⟨j, hj, he⟩ := hm
    exact h j (by omega) (by omega) (by rw [nth_eq l j (by omega)]; exact he)
theorem okB_iff {n : Nat} {l : List Int} : okB n l = true ↔ (∀ v ∈ l, 0 ≤ v ∧ v < (n : Int)) ∧ l.Nodup := by
  constructor
  · intro h
    refine ⟨fun v hv => ?_, ?_⟩
    · obtain ⟨i, hi, rfl⟩ := List.getElem_of_mem hv
      have := okB_at h hi
      rw [← nth_eq l i hi]; exact ⟨this.1, this.2.1⟩
    · rw [List.nodup_iff_pairwise_ne, List.pairwise_iff_getElem]
      intro i j hi hj hij he
      have h1 := (okB_at h hj).2.2
      rw [hasB_eq] at h1
      refine h1 i hij (by omega) ?_
      rw [nth_eq l i (by omega), nth_eq l j hj]
      exact he
  · rintro ⟨h1, h2⟩
    refine okB_all fun i hi => ?_
    have := h1 _ (nth_mem l i hi)
    refine ⟨this.1, this.2, (hasB_eq _ _ _).2 fun j hj hjl he => ?_⟩
    rw [List.nodup_iff_pairwise_ne, List.pairwise_iff_getElem] at h2
    refine h2 j i hjl hi hj ?_
    rw [← nth_eq l j hjl, ← nth_eq l i hi, he]
theorem okB_take {n : Nat} {l : List Int} (k : Nat) (h : okB n l = true) : okB n (l.take k) = true := by
  rw [okB_iff] at h ⊢
  exact ⟨fun v hv => h.1 v (List.mem_of_mem_take hv), h.2.sublist (List.take_sublist _ _)⟩
theorem okB_drop {n : Nat} {l : List Int} (k : Nat) (h : okB n l = true) : okB n (l.drop k) = true := by
  rw [okB_iff] at h ⊢
  exact ⟨fun v hv => h.1 v (List.mem_of_mem_drop hv), h.2.sublist (List.drop_sublist _ _)⟩
theorem okB_rev {n : Nat} {l : List Int} : okB n l.reverse = okB n l := by
  have e : l.reverse.Nodup ↔ l.Nodup := by
    rw [List.nodup_iff_pairwise_ne, List.nodup_iff_pairwise_ne, List.pairwise_reverse]
    constructor <;> exact fun h => h.imp (fun h => Ne.symm h)
  rw [Bool.eq_iff_iff, okB_iff, okB_iff, e]
  simp
theorem may_take {g : List Gr.Node} {l : List Int} (k : Nat) (h : mayB g l = true) : mayB g (l.take k) = true := by
  unfold mayB at h ⊢
  rw [Bool.and_eq_true] at h ⊢
  exact ⟨h.1, okB_take k h.2⟩
theorem may_drop {g : List Gr.Node} {l : List Int} (k : Nat) (h : mayB g l = true) : mayB g (l.drop k) = true := by
  unfold mayB at h ⊢
  rw [Bool.and_eq_true] at h ⊢
  exact ⟨h.1, okB_drop k h.2⟩
theorem may_rev (g : List Gr.Node) (l : List Int) : mayB g l.reverse = mayB g l := by unfold mayB; rw [okB_rev]

/-- How often a node is taken in. -/
def cntN (g : List Gr.Node) (n : Nat) (x : Int) : Int := ((nodeN g x.toNat).inn.count (n : Int) : Nat)
def cnt (g : List Gr.Node) (n : Nat) : List Int → Int
  | [] => 0
  | x :: r => cntN g n x + cnt g n r
theorem cntN_nonneg (g : List Gr.Node) (n : Nat) (x : Int) : 0 ≤ cntN g n x := by unfold cntN; omega
theorem cnt_nonneg (g : List Gr.Node) (n : Nat) : ∀ l, 0 ≤ cnt g n l
  | [] => Int.le_refl 0
  | x :: r => by have := cnt_nonneg g n r; have := cntN_nonneg g n x; simp only [cnt]; omega
theorem cnt_append (g : List Gr.Node) (n : Nat) : ∀ a b, cnt g n (a ++ b) = cnt g n a + cnt g n b
  | [], b => by simp [cnt]
  | x :: r, b => by simp only [List.cons_append, cnt]; rw [cnt_append g n r b]; omega
theorem cnt_rev (g : List Gr.Node) (n : Nat) : ∀ l, cnt g n l.reverse = cnt g n l
  | [] => rfl
  | x :: r => by rw [List.reverse_cons, cnt_append, cnt_rev g n r]; simp only [cnt]; omega

theorem nth_set (o : List Int) (i j : Nat) (v : Int) (hj : j < o.length) : nth (o.set i v) j = if i = j then v else nth o j := by
  rw [nth_eq _ j (by simpa using hj), nth_eq o j hj, List.getElem_set]
theorem bump_nth (n : Nat) : ∀ (r o : List Int), n < o.length → (∀ v ∈ r, 0 ≤ v) → nth (r.foldl bump1 o) n = nth o n + ((r.count (n : Int) : Nat) : Int)
  | [], o, _, _ => by simp
  | x :: r, o, hn, hr => by
    obtain ⟨m, rfl⟩ : ∃ m : Nat, x = (m : Int) := ⟨x.toNat, by have := hr x (by simp); omega⟩
    rw [List.foldl_cons, bump_nth n r _ (by rw [bump1_length]; exact hn) (fun v hv => hr v (by simp [hv]))]
    unfold bump1
    rw [Int.toNat_natCast, nth_set _ _ _ _ hn, List.count_cons]
    by_cases c : m = n
    · subst c; simp; omega
    · have c2 : ¬ (m : Int) = (n : Int) := by omega
      rw [if_neg c]; simp [c2]
/-- What is asked of the nodes an order names. -/
def InnAt (g : List Gr.Node) (l : List Int) : Prop := ∀ x ∈ l, 0 ≤ x ∧ x < g.length ∧ (nodeN g x.toNat).inn.length ≤ 4 ∧ ∀ v ∈ (nodeN g x.toNat).inn, 0 ≤ v ∧ v < x
theorem may_inAt {g : List Gr.Node} {l : List Int} (h : mayB g l = true) : InnAt g l := by
  intro x hx
  obtain ⟨_, _, h1⟩ := may_parts h
  obtain ⟨i, hi, rfl⟩ := List.getElem_of_mem hx
  obtain ⟨h2, h3⟩ := h1 i hi
  rw [nth_eq l i hi] at h2 h3
  obtain ⟨h4, h5⟩ := may_inn h (n := (l[i]).toNat) (by omega)
  exact ⟨h2, h3, h4, fun v hv => by have := h5 v hv; omega⟩
theorem uses_fold_nth {g : List Gr.Node} (n : Nat) : ∀ (l o : List Int), n < o.length → InnAt g l → nth (l.foldl (usesN g) o) n = nth o n + cnt g n l
  | [], o, _, _ => by simp [cnt]
  | x :: r, o, hn, hr => by
    rw [List.foldl_cons, uses_fold_nth n r _ (by rw [usesN_length]; exact hn) (fun v hv => hr v (by simp [hv]))]
    unfold usesN
    rw [bump_nth n _ _ hn (fun v hv => ((hr x (by simp)).2.2.2 v hv).1)]
    simp only [cnt, cntN]; omega
theorem nth_rep (n i : Nat) (v : Int) (h : i < n) : nth (List.replicate n v) i = v := by rw [nth_eq _ i (by simpa using h)]; simp
theorem uses_nth {g : List Gr.Node} {l : List Int} (h : mayB g l = true) {n : Nat} (hn : n < g.length) : nth (uses g l) n = cnt g n l := by
  unfold uses
  rw [uses_fold_nth n l _ (by simpa using hn) (may_inAt h), nth_rep _ _ _ hn]; omega

/-- How many are taken in by all of them. -/
def tot (g : List Gr.Node) : List Int → Int
  | [] => 0
  | x :: r => ((nodeN g x.toNat).inn.length : Nat) + tot g r
theorem tot_append (g : List Gr.Node) : ∀ a b, tot g (a ++ b) = tot g a + tot g b
  | [], b => by simp [tot]
  | x :: r, b => by simp only [List.cons_append, tot]; rw [tot_append g r b]; omega
theorem cnt_le_tot (g : List Gr.Node) (n : Nat) : ∀ l, cnt g n l ≤ tot g l
  | [] => Int.le_refl 0
  | x :: r => by
    have := cnt_le_tot g n r
    have h2 : (nodeN g x.toNat).inn.count (n : Int) ≤ (nodeN g x.toNat).inn.length := List.count_le_length
    simp only [cnt, tot, cntN]; omega
theorem tot_le {g : List Gr.Node} : ∀ {l : List Int}, InnAt g l → 0 ≤ tot g l ∧ tot g l ≤ 4 * (l.length : Int)
  | [], _ => by simp [tot]
  | x :: r, h => by
    have h1 := tot_le (l := r) (fun v hv => h v (by simp [hv]))
    have h2 := (h x (by simp)).2.2.1
    simp only [tot, List.length_cons]; omega
theorem sumL_bump : ∀ (r o : List Int), (∀ v ∈ r, 0 ≤ v ∧ v < (o.length : Int)) → sumL (r.foldl bump1 o) = sumL o + r.length
  | [], o, _ => by simp
  | x :: r, o, h => by
    have hx := h x (by simp)
    rw [List.foldl_cons, sumL_bump r _ (fun v hv => by rw [bump1_length]; exact h v (by simp [hv]))]
    unfold bump1
    rw [sumL_set _ _ _ (by omega)]
    simp only [List.length_cons]; omega
theorem sumL_uses_fold {g : List Gr.Node} : ∀ (l o : List Int), o.length = g.length → InnAt g l → sumL (l.foldl (usesN g) o) = sumL o + tot g l
  | [], o, _, _ => by simp [tot]
  | x :: r, o, hl, h => by
    have hx := h x (by simp)
    rw [List.foldl_cons, sumL_uses_fold r _ (by rw [usesN_length]; exact hl) (fun v hv => h v (by simp [hv]))]
    unfold usesN
    rw [sumL_bump _ _ (fun v hv => by have := hx.2.2.2 v hv; omega)]
    simp only [tot]; omega
theorem sumL_rep0 : ∀ n : Nat, sumL (List.replicate n 0) = 0
  | 0 => rfl
  | n + 1 => by rw [List.replicate_succ, sumL, sumL_rep0 n]; rfl
theorem sumL_uses {g : List Gr.Node} {l : List Int} (h : mayB g l = true) : sumL (uses g l) = tot g l := by
  unfold uses
  rw [sumL_uses_fold l _ (by simp) (may_inAt h), sumL_rep0]; omega
theorem sumL_append : ∀ a b, sumL (a ++ b) = sumL a + sumL b
  | [], b => by simp [sumL]
  | x :: r, b => by simp only [List.cons_append, sumL]; rw [sumL_append r b]; omega
theorem sumL_take_snoc (l : List Int) (k : Nat) (hk : k < l.length) : sumL (l.take (k + 1)) = sumL (l.take k) + nth l k := by
  rw [take_snoc l k hk, sumL_append]; simp [sumL]
theorem tot_take_snoc (g : List Gr.Node) (l : List Int) (k : Nat) (hk : k < l.length) : tot g (l.take (k + 1)) = tot g (l.take k) + ((nodeN g (nth l k).toNat).inn.length : Nat) := by
  rw [take_snoc l k hk, tot_append]; simp [tot]

/-- Does the node at a place take a node in? -/
def takes (g : List Gr.Node) (l : List Int) (i : Nat) (n : Nat) : Bool := hasB (nodeN g (nth l i).toNat).inn (n : Int)
theorem put_nth (i : Int) (n : Nat) : ∀ (r o : List Int), n < o.length → (∀ v ∈ r, 0 ≤ v) → nth (r.foldl (put1 i) o) n = if hasB r (n : Int) = true then i else nth o n
  | [], o, _, _ => by simp [hasB]
  | x :: r, o, hn, hr => by
    obtain ⟨m, rfl⟩ : ∃ m : Nat, x = (m : Int) := ⟨x.toNat, by have := hr x (by simp); omega⟩
    rw [List.foldl_cons, put_nth i n r _ (by rw [put1_length]; exact hn) (fun v hv => hr v (by simp [hv]))]
    unfold put1
    rw [Int.toNat_natCast, nth_set _ _ _ _ hn]
    by_cases c : hasB r (n : Int) = true
    · have : hasB ((m : Int) :: r) (n : Int) = true := by rw [hasB_iff] at c ⊢; simp [c]
      rw [if_pos c, if_pos this]
    · rw [if_neg c]
      by_cases d : m = n
      · subst d
        have : hasB ((m : Int) :: r) (m : Int) = true := by rw [hasB_iff]; simp
        rw [if_pos rfl, if_pos this]
      · have : ¬ hasB ((m : Int) :: r) (n : Int) = true := by
          rw [hasB_iff] at c ⊢
          simp only [List.mem_cons, not_or]
          exact ⟨by omega, c⟩
        rw [if_neg d, if_neg this]
theorem nextD_step {g : List Gr.Node} {l : List Int} (h : mayB g l = true) {n s : Nat} (hn : n < g.length) (hs : s < l.length) :
    nth (nextD g l (s + 1)) n = if takes g l (l.length - 1 - s) n = true then ((l.length - 1 - s : Nat) : Int) else nth (nextD g l s) n := by
  conv => lhs; unfold nextD
  unfold nextN takes
  have hi := may_inAt h _ (nth_mem l (l.length - 1 - s) (by omega))
  rw [put_nth _ n _ _ (by rw [nextD_length]; exact hn) (fun v hv => (hi.2.2.2 v hv).1)]
theorem nextD_first {g : List Gr.Node} {l : List Int} (h : mayB g l = true) {n : Nat} (hn : n < g.length) : ∀ s, s ≤ l.length →
    (nth (nextD g l s) n = -1 ∧ ∀ i, l.length - s ≤ i → i < l.length → takes g l i n = false) ∨
    ∃ i, l.length - s ≤ i ∧ i < l.length ∧ nth (nextD g l s) n = (i : Int) ∧ takes g l i n = true ∧ ∀ j, l.length - s ≤ j → j < i → takes g l j n = false
  | 0, _ => by
    left
    refine ⟨?_, fun i h1 h2 => by omega⟩
    unfold nextD
    exact nth_rep _ _ _ hn
  | s + 1, hs => by
    rw [nextD_step h hn (by omega)]
    by_cases c : takes g l (l.length - 1 - s) n = true
    · right
      rw [if_pos c]
      exact ⟨l.length - 1 - s, by omega, by omega, rfl, c, fun j h1 h2 => by omega⟩
    · rw [if_neg c]
      have c2 : takes g l (l.length - 1 - s) n = false := by simpa using c
      rcases nextD_first h hn s (by omega) with ⟨h1, h2⟩ | ⟨i, h1, h2, h3, h4, h5⟩
      · left
        refine ⟨h1, fun i h3 h4 => ?_⟩
        by_cases d : i = l.length - 1 - s
        · subst d; exact c2
        · exact h2 i (by omega) h4
      · right
        refine ⟨i, by omega, h2, h3, h4, fun j h6 h7 => ?_⟩
        by_cases d : j = l.length - 1 - s
        · subst d; exact c2
        · exact h5 j (by omega) h7

theorem takes_cntN {g : List Gr.Node} {l : List Int} {i n : Nat} : takes g l i n = true ↔ 0 < cntN g n (nth l i) := by
  unfold takes cntN
  rw [hasB_iff, ← List.count_pos_iff]
  omega
theorem cnt_zero {g : List Gr.Node} {n : Nat} : ∀ {l : List Int}, (∀ i, i < l.length → takes g l i n = false) → cnt g n l = 0
  | [], _ => rfl
  | x :: r, h => by
    have h0 := h 0 (by simp)
    have h1 : ¬ 0 < cntN g n (nth (x :: r) 0) := fun c => by rw [takes_cntN.2 c] at h0; cases h0
    have e0 : nth (x :: r) 0 = x := by unfold nth; simp
    rw [e0] at h1
    have h2 := cnt_zero (g := g) (n := n) (l := r) (fun i hi => by
      have := h (i + 1) (by simpa using hi)
      unfold takes at this ⊢
      have e : nth (x :: r) (i + 1) = nth r i := by unfold nth; simp
      rwa [e] at this)
    have := cntN_nonneg g n x
    simp only [cnt]; omega
theorem cnt_ge {g : List Gr.Node} {n : Nat} : ∀ {l : List Int} {i : Nat}, i < l.length → cntN g n (nth l i) ≤ cnt g n l
  | [], i, h => by simp at h
  | x :: r, 0, _ => by
    have := cnt_nonneg g n r
    have e0 : nth (x :: r) 0 = x := by unfold nth; simp
    rw [e0]; simp only [cnt]; omega
  | x :: r, i + 1, h => by
    have e : nth (x :: r) (i + 1) = nth r i := by unfold nth; simp
    have := cnt_ge (g := g) (n := n) (l := r) (i := i) (by simpa using h)
    have := cntN_nonneg g n x
    rw [e]; simp only [cnt]; omega
theorem cnt_ge2 {g : List Gr.Node} {n : Nat} : ∀ {l : List Int} {i j : Nat}, i < j → j < l.length → cntN g n (nth l i) + cntN g n (nth l j) ≤ cnt g n l
  | [], i, j, _, h => by simp at h
  | x :: r, 0, j + 1, _, h => by
    have e0 : nth (x :: r) 0 = x := by unfold nth; simp
    have e : nth (x :: r) (j + 1) = nth r j := by unfold nth; simp
    have := cnt_ge (g := g) (n := n) (l := r) (i := j) (by simpa using h)
    rw [e0, e]; simp only [cnt]; omega
  | x :: r, i + 1, j + 1, hij, h => by
    have e1 : nth (x :: r) (i + 1) = nth r i := by unfold nth; simp
    have e : nth (x :: r) (j + 1) = nth r j := by unfold nth; simp
    have := cnt_ge2 (g := g) (n := n) (l := r) (i := i) (j := j) (by omega) (by simpa using h)
    have := cntN_nonneg g n x
    rw [e1, e]; simp only [cnt]; omega
theorem nth_rev (l : List Int) (i : Nat) (h : i < l.length) : nth l.reverse i = nth l (l.length - 1 - i) := by
  rw [nth_eq _ i (by simpa using h), nth_eq l _ (by omega), List.getElem_reverse]
theorem takes_rev (g : List Gr.Node) (l : List Int) (i n : Nat) (h : i < l.length) : takes g l.reverse i n = takes g l (l.length - 1 - i) n := by unfold takes; rw [nth_rev l i h]

/-- Next from the beginning on, at a place but the last one. -/
theorem next_nth {g : List Gr.Node} (l : List Int) (at_ : Int) {n : Nat} (hn : n < g.length - 1) : nth (next g l at_) n = nth (nextD g l ((l.length : Int) - 1 - at_).toNat) n := by
  unfold next
  rw [nth_set _ _ _ _ (by rw [nextD_length]; omega), if_neg (by omega)]
theorem next_length (g : List Gr.Node) (l : List Int) (at_ : Int) : (next g l at_).length = g.length := by unfold next; rw [List.length_set, nextD_length]
theorem next_last {g : List Gr.Node} (l : List Int) (at_ : Int) (hn : 0 < g.length) : nth (next g l at_) (g.length - 1) = l.length := by
  unfold next
  rw [nth_set _ _ _ _ (by rw [nextD_length]; omega), if_pos rfl]

/-- The law of uses: at each node but the last one. -/
theorem uses_next {g : List Gr.Node} {l : List Int} (h : mayB g l = true) {n : Nat} (hn : n < g.length - 1) : (0 < nth (uses g l) n) ↔ (0 ≤ nth (next g l (-1)) n) := by
  rw [uses_nth h (by omega), next_nth l _ hn, show ((l.length : Int) - 1 - -1).toNat = l.length by omega]
  rcases nextD_first h (n := n) (by omega) l.length (Nat.le_refl _) with ⟨h1, h2⟩ | ⟨i, h1, h2, h3, h4, h5⟩
  · rw [h1, cnt_zero (fun i hi => h2 i (by omega) hi)]; omega
  · rw [h3]
    have := takes_cntN.1 h4
    have := cnt_ge (g := g) (n := n) h2
    omega
theorem uses_parts {g : List Gr.Node} {l : List Int} (h : mayB g l = true) (k : Nat) {n : Nat} (hn : n < g.length) : nth (uses g l) n = nth (uses g (l.take k)) n + nth (uses g (l.drop k)) n := by
  rw [uses_nth h hn, uses_nth (may_take k h) hn, uses_nth (may_drop k h) hn, ← cnt_append, List.take_append_drop]
theorem uses_bound {g : List Gr.Node} {l : List Int} (h : mayB g l = true) {n : Nat} (hn : n < g.length) : 0 ≤ nth (uses g l) n ∧ nth (uses g l) n ≤ 4 * (l.length : Int) := by
  rw [uses_nth h hn]
  have h1 := cnt_nonneg g n l
  have h2 := cnt_le_tot g n l
  have h3 := tot_le (may_inAt h)
  omega
/-- The law of the order turned round. -/
theorem uses_rev {g : List Gr.Node} {l : List Int} (h : mayB g l = true) : uses g l.reverse = uses g l := by
  have h2 : mayB g l.reverse = true := by rw [may_rev]; exact h
  apply List.ext_getElem
  · rw [uses_length, uses_length]
  · intro i h3 h4
    rw [← nth_eq _ i h3, ← nth_eq _ i h4, uses_nth h2 (by rw [uses_length] at h4; exact h4), uses_nth h (by rw [uses_length] at h4; exact h4), cnt_rev]
theorem next_rev {g : List Gr.Node} {l : List Int} (h : mayB g l = true) {n : Nat} (hn : n < g.length - 1) :
    ((nth (next g l (-1)) n < 0) ↔ (nth (next g l.reverse (-1)) n < 0)) ∧ (nth (uses g l) n = 1 → nth (next g l (-1)) n + nth (next g l.reverse (-1)) n = (l.length : Int) - 1) := by
  have h2 : mayB g l.reverse = true := by rw [may_rev]; exact h
  rw [uses_nth h (by omega), next_nth l _ hn, next_nth l.reverse _ hn, show ((l.length : Int) - 1 - -1).toNat = l.length by omega, show ((l.reverse.length : Int) - 1 - -1).toNat = l.reverse.length by omega]
  have hlr : l.reverse.length = l.length := List.length_reverse
  rcases nextD_first h (n := n) (by omega) l.length (Nat.le_refl _) with ⟨h1, h3⟩ | ⟨i, h1, h3, h4, h5, h6⟩
  · rcases nextD_first h2 (n := n) (by omega) l.reverse.length (Nat.le_refl _) with ⟨k1, k3⟩ | ⟨j, k1, k3, k4, k5, k6⟩
    · rw [h1, k1, cnt_zero (fun i hi => h3 i (by omega) hi)]
      exact ⟨Iff.rfl, fun c => by omega⟩
    · rw [hlr] at k3
      rw [takes_rev _ _ _ _ k3, h3 _ (by omega) (by omega)] at k5
      cases k5
  · rcases nextD_first h2 (n := n) (by omega) l.reverse.length (Nat.le_refl _) with ⟨k1, k3⟩ | ⟨j, k1, k3, k4, k5, k6⟩
    · have := k3 (l.length - 1 - i) (by omega) (by omega)
      rw [takes_rev _ _ _ _ (by omega), show l.length - 1 - (l.length - 1 - i) = i by omega, h5] at this
      cases this
    · rw [h4, k4]
      rw [hlr] at k3
      rw [takes_rev _ _ _ _ k3] at k5
      refine ⟨by omega, fun c => ?_⟩
      have e1 := takes_cntN.1 h5
      have e2 := takes_cntN.1 k5
      rcases Nat.lt_trichotomy i (l.length - 1 - j) with d | d | d
      · have := cnt_ge2 (g := g) (n := n) (l := l) d (by omega); omega
      · omega
      · have := cnt_ge2 (g := g) (n := n) (l := l) d h3; omega
/-- The law of next: from one place on, and from the next one. -/
theorem next_step {g : List Gr.Node} {l : List Int} (h : mayB g l = true) (r : Nat) (hr : r < l.length) {n : Nat} (hn : n < g.length - 1) :
    (takes g l r n = true → nth (next g l ((r : Int) - 1)) n = r) ∧ (takes g l r n = false → nth (next g l ((r : Int) - 1)) n = nth (next g l r) n ∧ nth (next g l ((r : Int) - 1)) n ≠ r) ∧ ¬ (0 ≤ nth (next g l r) n ∧ nth (next g l r) n ≤ r) := by
  rw [next_nth l _ hn, next_nth l _ hn, show ((l.length : Int) - 1 - ((r : Int) - 1)).toNat = (l.length - 1 - r) + 1 by omega, show ((l.length : Int) - 1 - (r : Int)).toNat = l.length - 1 - r by omega, nextD_step h (by omega) (by omega), show l.length - 1 - (l.length - 1 - r) = r by omega]
  have key : nth (nextD g l (l.length - 1 - r)) n = -1 ∨ (r : Int) < nth (nextD g l (l.length - 1 - r)) n := by
    rcases nextD_first h (n := n) (by omega) (l.length - 1 - r) (by omega) with ⟨h1, _⟩ | ⟨i, h1, h3, h4, _⟩
    · exact .inl h1
    · right; omega
  refine ⟨fun c => by rw [if_pos c], fun c => ?_, by omega⟩
  rw [if_neg (by rw [c]; exact Bool.false_ne_true)]
  exact ⟨rfl, by omega⟩
end Od
end Go.Proofs.Ytgmagldbfajedaa
