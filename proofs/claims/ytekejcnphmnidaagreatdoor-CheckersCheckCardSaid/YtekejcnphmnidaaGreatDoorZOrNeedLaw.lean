import Derived.Test.YtekejcnphmnidaaGreatDoorZBo
namespace Go.Proofs.YtekejcnphmnidaaGreatDoor
namespace Od
open Gr
theorem hasB_eq (l : List Int) (v : Int) (k : Nat) : hasB (l.take k) v = false ↔ ∀ j, j < k → j < l.length → nth l j ≠ v := by
  rw [hasB_false]
  constructor
  · intro h j h1 h2 he
    refine h ?_
    rw [← he, nth_eq l j h2, List.mem_take_iff_getElem]
    exact ⟨j, by omega, rfl⟩
  · intro h hm
    rw [List.mem_take_iff_getElem] at hm
    obtain ⟨j, hj, he⟩ := hm
    exact h j (by omega) (by omega) (by rw [nth_eq l j (by omega)]; exact he)
theorem okB_iff {n : Nat} {l : List Int} : okB n l = true ↔ (∀ v ∈ l, 0 ≤ v ∧ v < (n : Int)) ∧ l.Nodup := by
  constructor
  · intro h
    refine ⟨fun v hv => ?_, ?_⟩
    · obtain ⟨i, hi, rfl⟩ := List.getElem_of_mem hv
      have := okB_at h hi
      rw [← nth_eq l i hi]; exact ⟨this.1, this.2.1⟩
    · rw [List.nodup_iff_pairwise_ne, List.pairwise_iff_getElem]
      intro i j hi hj hij he
      have h1 := (okB_at h hj).2.2
      rw [hasB_eq] at h1
      refine h1 i hij (by omega) ?_
      rw [nth_eq l i (by omega), nth_eq l j hj]
      exact he
  · rintro ⟨h1, h2⟩
    refine okB_all fun i hi => ?_
    have := h1 _ (nth_mem l i hi)
    refine ⟨this.1, this.2, (hasB_eq _ _ _).2 fun j hj hjl he => ?_⟩
    rw [List.nodup_iff_pairwise_ne, List.pairwise_iff_getElem] at h2
    refine h2 j i hjl hi hj ?_
    rw [← nth_eq l j hjl, ← nth_eq l i hi, he]
theorem nth_set (o : List Int) (i j : Nat) (v : Int) (hj : j < o.length) : nth (o.set i v) j = if i = j then v else nth o j := by
  rw [nth_eq _ j (by simpa using hj), nth_eq o j hj, List.getElem_set]
def InnAt (g : List Gr.Node) (l : List Int) : Prop := ∀ x ∈ l, 0 ≤ x ∧ x < g.length ∧ (nodeN g x.toNat).inn.length ≤ 4 ∧ ∀ v ∈ (nodeN g x.toNat).inn, 0 ≤ v ∧ v < x
theorem may_inAt {g : List Gr.Node} {l : List Int} (h : mayB g l = true) : InnAt g l := by
  intro x hx
  obtain ⟨_, _, h1⟩ := may_parts h
  obtain ⟨i, hi, rfl⟩ := List.getElem_of_mem hx
  obtain ⟨h2, h3⟩ := h1 i hi
  rw [nth_eq l i hi] at h2 h3
  obtain ⟨h4, h5⟩ := may_inn h (n := (l[i]).toNat) (by omega)
  exact ⟨h2, h3, h4, fun v hv => by have := h5 v hv; omega⟩
theorem nth_rep (n i : Nat) (v : Int) (h : i < n) : nth (List.replicate n v) i = v := by rw [nth_eq _ i (by simpa using h)]; simp
def takes (g : List Gr.Node) (l : List Int) (i : Nat) (n : Nat) : Bool := hasB (nodeN g (nth l i).toNat).inn (n : Int)
theorem put_nth (i : Int) (n : Nat) : ∀ (r o : List Int), n < o.length → (∀ v ∈ r, 0 ≤ v) → nth (r.foldl (put1 i) o) n = if hasB r (n : Int) = true then i else nth o n
  | [], o, _, _ => by simp [hasB]
  | x :: r, o, hn, hr => by
    obtain ⟨m, rfl⟩ : ∃ m : Nat, x = (m : Int) := ⟨x.toNat, by have := hr x (by simp); omega⟩
    rw [List.foldl_cons, put_nth i n r _ (by rw [put1_length]; exact hn) (fun v hv => hr v (by simp [hv]))]
    unfold put1
    rw [Int.toNat_natCast, nth_set _ _ _ _ hn]
    by_cases c : hasB r (n : Int) = true
    · have : hasB ((m : Int) :: r) (n : Int) = true := by rw [hasB_iff] at c ⊢; simp [c]
      rw [if_pos c, if_pos this]
    · rw [if_neg c]
      by_cases d : m = n
      · subst d
        have : hasB ((m : Int) :: r) (m : Int) = true := by rw [hasB_iff]; simp
        rw [if_pos rfl, if_pos this]
      · have : ¬ hasB ((m : Int) :: r) (n : Int) = true := by
          rw [hasB_iff] at c ⊢
          simp only [List.mem_cons, not_or]
          exact ⟨by omega, c⟩
        rw [if_neg d, if_neg this]
theorem nextD_step {g : List Gr.Node} {l : List Int} (h : mayB g l = true) {n s : Nat} (hn : n < g.length) (hs : s < l.length) :
    nth (nextD g l (s + 1)) n = if takes g l (l.length - 1 - s) n = true then ((l.length - 1 - s : Nat) : Int) else nth (nextD g l s) n := by
  conv => lhs; unfold nextD
  unfold nextN takes
  have hi := may_inAt h _ (nth_mem l (l.length - 1 - s) (by omega))
  rw [put_nth _ n _ _ (by rw [nextD_length]; exact hn) (fun v hv => (hi.2.2.2 v hv).1)]
theorem nextD_first {g : List Gr.Node} {l : List Int} (h : mayB g l = true) {n : Nat} (hn : n < g.length) : ∀ s, s ≤ l.length →
    (nth (nextD g l s) n = -1 ∧ ∀ i, l.length - s ≤ i → i < l.length → takes g l i n = false) ∨
    ∃ i, l.length - s ≤ i ∧ i < l.length ∧ nth (nextD g l s) n = (i : Int) ∧ takes g l i n = true ∧ ∀ j, l.length - s ≤ j → j < i → takes g l j n = false
  | 0, _ => by
    left
    refine ⟨?_, fun i h1 h2 => by omega⟩
    unfold nextD
    exact nth_rep _ _ _ hn
  | s + 1, hs => by
    rw [nextD_step h hn (by omega)]
    by_cases c : takes g l (l.length - 1 - s) n = true
    · right
      rw [if_pos c]
      exact ⟨l.length - 1 - s, by omega, by omega, rfl, c, fun j h1 h2 => by omega⟩
    · rw [if_neg c]
      have c2 : takes g l (l.length - 1 - s) n = false := by simpa using c
      rcases nextD_first h hn s (by omega) with ⟨h1, h2⟩ | ⟨i, h1, h2, h3, h4, h5⟩
      · left
        refine ⟨h1, fun i h3 h4 => ?_⟩
        by_cases d : i = l.length - 1 - s
        · subst d; exact c2
        · exact h2 i (by omega) h4
      · right
        refine ⟨i, by omega, h2, h3, h4, fun j h6 h7 => ?_⟩
        by_cases d : j = l.length - 1 - s
        · subst d; exact c2
        · exact h5 j (by omega) h7
theorem next_nth {g : List Gr.Node} (l : List Int) (at_ : Int) {n : Nat} (hn : n < g.length - 1) : nth (next g l at_) n = nth (nextD g l ((l.length : Int) - 1 - at_).toNat) n := by
  unfold next
  rw [nth_set _ _ _ _ (by rw [nextD_length]; omega), if_neg (by omega)]
theorem next_length (g : List Gr.Node) (l : List Int) (at_ : Int) : (next g l at_).length = g.length := by unfold next; rw [List.length_set, nextD_length]
theorem next_last {g : List Gr.Node} (l : List Int) (at_ : Int) (hn : 0 < g.length) : nth (next g l at_) (g.length - 1) = l.length := by
  unfold next
  rw [nth_set _ _ _ _ (by rw [nextD_length]; omega), if_pos rfl]
end Od
end Go.Proofs.YtekejcnphmnidaaGreatDoor

namespace Go.Proofs.YtekejcnphmnidaaGreatDoor
namespace Od
open Gr
structure Grown (g : List Gr.Node) (len : Nat) (o q r : List Int) : Prop where
  ln : q.length = len
  nn : ∀ v ∈ q, 0 ≤ v
  mono : ∀ i, i < len → nth o i ≤ nth q i
  hit : ∀ v ∈ r, 0 < nth q v.toNat
  closed : ∀ i, i < len → nth o i = 0 → 0 < nth q i → ∀ v ∈ (nodeN g i).inn, 0 < nth q v.toNat
  taken : ∀ i, i < len → nth o i = 0 → 0 < nth q i → (i : Int) ∈ r ∨ ∃ j, j < len ∧ nth o j = 0 ∧ 0 < nth q j ∧ (i : Int) ∈ (nodeN g j).inn
theorem Grown.cons {g : List Gr.Node} {len : Nat} {o q1 q : List Int} {x : Int} {r : List Int} (hx : 0 ≤ x ∧ x < (len : Int)) (ho : ∀ i, i < len → 0 ≤ nth o i) (hI : InnOk g len) (h1 : Grown g len o q1 [x]) (h2 : Grown g len q1 q r) : Grown g len o q (x :: r) := by
  have hq1 : ∀ i, i < len → 0 ≤ nth q1 i := fun i hi => h1.nn _ (nth_mem q1 i (by rw [h1.ln]; exact hi))
  refine ⟨h2.ln, h2.nn, fun i hi => Int.le_trans (h1.mono i hi) (h2.mono i hi), ?_, ?_, ?_⟩
  · intro v hv
    rcases List.mem_cons.1 hv with rfl | hv
    · have := h1.hit v (by simp)
      have := h2.mono v.toNat (by omega)
      omega
    · exact h2.hit v hv
  · intro i hi h0 hp v hv
    have hvi := (hI i hi).2 v hv
    by_cases c : nth q1 i = 0
    · exact h2.closed i hi c hp v hv
    · have hp1 : 0 < nth q1 i := by have := hq1 i hi; omega
      have := h1.closed i hi h0 hp1 v hv
      have := h2.mono v.toNat (by omega)
      omega
  · intro i hi h0 hp
    by_cases c : nth q1 i = 0
    · rcases h2.taken i hi c hp with h | ⟨j, hj, hj0, hjp, hm⟩
      · left; simp [h]
      · right
        refine ⟨j, hj, ?_, hjp, hm⟩
        have := h1.mono j hj
        have := ho j hj
        omega
    · have hp1 : 0 < nth q1 i := by have := hq1 i hi; omega
      rcases h1.taken i hi h0 hp1 with h | ⟨j, hj, hj0, hjp, hm⟩
      · left; simp at h; simp [h]
      · right
        refine ⟨j, hj, hj0, ?_, hm⟩
        have := h2.mono j hj
        omega
theorem needF_grown {g : List Gr.Node} {len : Nat} (hI : InnOk g len) : ∀ (f n : Nat) (o : List Int), n < f → n < len → o.length = len → (∀ v ∈ o, 0 ≤ v) → Grown g len o (needF g f n o) [(n : Int)]
  | 0, n, o, hf, _, _, _ => by omega
  | f + 1, n, o, hf, hn, hl, hp => by
    have hno : n < o.length := by omega
    have hl1 : (bump1 o (n : Int)).length = len := by rw [bump1_length]; exact hl
    have hp1 := bump1_nonneg hno hp
    have h0 := hp _ (nth_mem o n hno)
    have hbn : ∀ i, i < len → nth (bump1 o (n : Int)) i = if n = i then nth o n + 1 else nth o i := by
      intro i hi
      unfold bump1
      rw [Int.toNat_natCast, nth_set _ _ _ _ (by omega)]
    unfold needF
    rw [Int.toNat_natCast, bump1_nth hno]
    by_cases c : 1 < nth o n + 1
    · rw [if_pos c]
      refine ⟨hl1, hp1, fun i hi => ?_, fun v hv => ?_, fun i hi hz hpi => ?_, fun i hi hz hpi => ?_⟩
      · rw [hbn i hi]; split
        · rename_i d; subst d; omega
        · omega
      · simp at hv; subst hv; rw [Int.toNat_natCast, hbn n hn, if_pos rfl]; omega
      · rw [hbn i hi] at hpi
        split at hpi
        · rename_i d; subst d; omega
        · omega
      · rw [hbn i hi] at hpi
        split at hpi
        · rename_i d; subst d; omega
        · omega
    · rw [if_neg c]
      have hz : nth o n = 0 := by omega
      obtain ⟨hi1, hi2⟩ := hI n hn
      have key : ∀ (r : List Int) (q : List Int), (∀ v ∈ r, 0 ≤ v ∧ v < (n : Int)) → q.length = len → (∀ v ∈ q, 0 ≤ v) → Grown g len q (r.foldl (fun q k => needF g f k q) q) r := by
        intro r
        induction r with
        | nil =>
          intro q _ hq1 hq2
          exact ⟨hq1, hq2, fun i _ => Int.le_refl _, (fun v hv => by cases hv), (fun i _ h1 h2 => by simp only [List.foldl_nil] at h2; omega), (fun i _ h1 h2 => by simp only [List.foldl_nil] at h2; omega)⟩
        | cons x r ih =>
          intro q hr hq1 hq2
          obtain ⟨hx0, hx1⟩ := hr x (by simp)
          obtain ⟨m, rfl⟩ : ∃ m : Nat, x = (m : Int) := ⟨x.toNat, by omega⟩
          have k1 := needF_grown hI f m q (by omega) (by omega) hq1 hq2
          have k2 := ih (needF g f m q) (fun v hv => hr v (by simp [hv])) k1.ln k1.nn
          rw [List.foldl_cons]
          exact Grown.cons ⟨by omega, by omega⟩ (fun i hi => hq2 _ (nth_mem q i (by omega))) hI k1 k2
      have hG := key (nodeN g n).inn (bump1 o n) hi2 hl1 hp1
      generalize (nodeN g n).inn.foldl (fun q k => needF g f k q) (bump1 o n) = q at hG ⊢
      have hn1 : 0 < nth q n := by
        have := hG.mono n hn
        rw [hbn n hn, if_pos rfl] at this
        omega
      refine ⟨hG.ln, hG.nn, fun i hi => ?_, fun v hv => ?_, fun i hi hzi hpi => ?_, fun i hi hzi hpi => ?_⟩
      · have := hG.mono i hi
        rw [hbn i hi] at this
        split at this
        · rename_i d; subst d; omega
        · omega
      · simp at hv; subst hv; rw [Int.toNat_natCast]; exact hn1
      · by_cases d : n = i
        · subst d; exact hG.hit
        · exact hG.closed i hi (by rw [hbn i hi, if_neg d]; exact hzi) hpi
      · by_cases d : n = i
        · left; subst d; simp
        · rcases hG.taken i hi (by rw [hbn i hi, if_neg d]; exact hzi) hpi with h | ⟨j, hj, hj0, hjp, hm⟩
          · exact .inr ⟨n, hn, hz, hn1, h⟩
          · refine .inr ⟨j, hj, ?_, hjp, hm⟩
            rw [hbn j hj] at hj0
            split at hj0
            · omega
            · exact hj0
structure Need (g : List Gr.Node) (o : List Int) : Prop where
  pos : 0 < g.length
  ln : o.length = g.length
  root : 0 < nth o (g.length - 1)
  closed : ∀ i, i < g.length → 0 < nth o i → ∀ v ∈ (nodeN g i).inn, 0 < nth o v.toNat
  taken : ∀ i, i < g.length → 0 < nth o i → i = g.length - 1 ∨ ∃ j, i < j ∧ j < g.length ∧ 0 < nth o j ∧ (i : Int) ∈ (nodeN g j).inn
theorem need_of {g : List Gr.Node} (h0 : 0 < g.length) (hI : InnOk g g.length) : Need g (needed g) := by
  have h := needF_grown hI (g.length + 1) (g.length - 1) (List.replicate g.length 0) (by omega) (by omega) (by simp) (fun v hv => by have := List.eq_of_mem_replicate hv; omega)
  have e : needF g (g.length + 1) ((g.length - 1 : Nat) : Int) (List.replicate g.length 0) = needed g := by
    unfold needed; rw [show ((g.length - 1 : Nat) : Int) = (g.length : Int) - 1 by omega]
  rw [e] at h
  refine ⟨h0, h.ln, ?_, fun i hi hp => h.closed i hi (nth_rep _ _ _ hi) hp, fun i hi hp => ?_⟩
  · have := h.hit ((g.length - 1 : Nat) : Int) (by simp)
    rwa [Int.toNat_natCast] at this
  · rcases h.taken i hi (nth_rep _ _ _ hi) hp with h1 | ⟨j, hj, _, hjp, hm⟩
    · left; simp at h1; omega
    · right
      have := (hI j hj).2 _ hm
      exact ⟨j, by omega, hj, hjp, hm⟩
theorem placesF_iff : ∀ (l : List Int) (i : Nat) (v : Int), v ∈ placesF i l ↔ ∃ k, k < l.length ∧ 0 < nth l k ∧ v = ((i + k : Nat) : Int)
  | [], _, v => by simp [placesF]
  | x :: r, i, v => by
    have ih := placesF_iff r (i + 1) v
    have e0 : nth (x :: r) 0 = x := by unfold nth; simp
    have eS : ∀ k, nth (x :: r) (k + 1) = nth r k := fun k => by unfold nth; simp
    have sh : (∃ k, k < (x :: r).length ∧ 0 < nth (x :: r) k ∧ v = ((i + k : Nat) : Int)) ↔ ((0 < x ∧ v = (i : Int)) ∨ ∃ k, k < r.length ∧ 0 < nth r k ∧ v = ((i + 1 + k : Nat) : Int)) := by
      constructor
      · rintro ⟨k, h1, h2, h3⟩
        cases k with
        | zero => left; rw [e0] at h2; exact ⟨h2, by omega⟩
        | succ k => right; rw [eS] at h2; exact ⟨k, by simpa using h1, h2, by omega⟩
      · rintro (⟨h1, h2⟩ | ⟨k, h1, h2, h3⟩)
        · exact ⟨0, by simp, by rw [e0]; exact h1, by omega⟩
        · exact ⟨k + 1, by simpa using h1, by rw [eS]; exact h2, by omega⟩
    rw [sh, ← ih]
    simp only [placesF]
    split
    · rename_i c; simp [c]
    · rename_i c; simp [c]
theorem placesF_congr : ∀ (a b : List Int) (i : Nat), a.length = b.length → (∀ k, k < a.length → (0 < nth a k ↔ 0 < nth b k)) → placesF i a = placesF i b
  | [], [], _, _, _ => rfl
  | [], y :: s, _, h, _ => by simp at h
  | x :: r, [], _, h, _ => by simp at h
  | x :: r, y :: s, i, h, hk => by
    have ih := placesF_congr r s (i + 1) (by simpa using h) (fun k hl => by
      have := hk (k + 1) (by simpa using hl)
      have e1 : nth (x :: r) (k + 1) = nth r k := by unfold nth; simp
      have e2 : nth (y :: s) (k + 1) = nth s k := by unfold nth; simp
      rwa [e1, e2] at this)
    have h0 := hk 0 (by simp)
    have e1 : nth (x :: r) 0 = x := by unfold nth; simp
    have e2 : nth (y :: s) 0 = y := by unfold nth; simp
    rw [e1, e2] at h0
    simp only [placesF]
    rw [ih]
    by_cases c : 0 < x
    · rw [if_pos c, if_pos (h0.1 c)]
    · rw [if_neg c, if_neg (fun d => c (h0.2 d))]
theorem mem_nth {l : List Int} {v : Int} (h : v ∈ l) : ∃ i, i < l.length ∧ nth l i = v := by
  obtain ⟨i, hi, rfl⟩ := List.getElem_of_mem h
  exact ⟨i, hi, nth_eq l i hi⟩
theorem ord_iff {g : List Gr.Node} {n : Nat} (hn : Need g (needed g)) : (n : Int) ∈ ordOf g ↔ n < g.length ∧ 0 < nth (needed g) n := by
  unfold ordOf
  rw [placesF_iff, hn.ln]
  constructor
  · rintro ⟨k, h1, h2, h3⟩
    have : n = k := by omega
    subst this; exact ⟨h1, h2⟩
  · rintro ⟨h1, h2⟩; exact ⟨n, h1, h2, by omega⟩
theorem ord_at {g : List Gr.Node} (hn : Need g (needed g)) {i : Nat} (hi : i < (ordOf g).length) : ∃ n : Nat, nth (ordOf g) i = (n : Int) ∧ n < g.length ∧ 0 < nth (needed g) n := by
  have h := nth_mem (ordOf g) i hi
  have h2 := placesF_mem _ _ _ h
  obtain ⟨n, hk⟩ : ∃ n : Nat, nth (ordOf g) i = (n : Int) := ⟨(nth (ordOf g) i).toNat, by omega⟩
  rw [hk] at h
  exact ⟨n, hk, (ord_iff hn).1 h⟩
theorem down_ind {P : Nat → Prop} (N : Nat) (h : ∀ i, i < N → (∀ j, i < j → j < N → P j) → P i) : ∀ i, i < N → P i := by
  have : ∀ d i, i < N → N - i ≤ d → P i := by
    intro d
    induction d with
    | zero => intro i h1 h2; omega
    | succ d ih => intro i h1 h2; exact h i h1 (fun j h3 h4 => ih j h4 (by omega))
  exact fun i hi => this N i hi (by omega)
end Od
end Go.Proofs.YtekejcnphmnidaaGreatDoor

