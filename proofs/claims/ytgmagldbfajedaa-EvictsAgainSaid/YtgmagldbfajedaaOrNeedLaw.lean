/-
  Plain Lean: what the laws of chapter 12 say of the nodes that are needed.
-/
import Derived.Test.YtgmagldbfajedaaOrLaws
namespace Go.Proofs.Ytgmagldbfajedaa
namespace Od
open Gr

/-- Of the numbers o come the numbers q: those of r are hit; what is new has all that it takes in, and is in r or taken in by a new one. -/
structure Grown (g : List Gr.Node) (len : Nat) (o q r : List Int) : Prop where
  ln : q.length = len
  nn : ∀ v ∈ q, 0 ≤ v
  mono : ∀ i, i < len → nth o i ≤ nth q i
  hit : ∀ v ∈ r, 0 < nth q v.toNat
  closed : ∀ i, i < len → nth o i = 0 → 0 < nth q i → ∀ v ∈ (nodeN g i).inn, 0 < nth q v.toNat
  taken : ∀ i, i < len → nth o i = 0 → 0 < nth q i → (i : Int) ∈ r ∨ ∃ j, j < len ∧ nth o j = 0 ∧ 0 < nth q j ∧ (i : Int) ∈ (nodeN g j).inn

theorem Grown.cons {g : List Gr.Node} {len : Nat} {o q1 q : List Int} {x : Int} {r : List Int} (hx : 0 ≤ x ∧ x < (len : Int)) (ho : ∀ i, i < len → 0 ≤ nth o i) (hI : InnOk g len) (h1 : Grown g len o q1 [x]) (h2 : Grown g len q1 q r) : Grown g len o q (x :: r) := by
  have hq1 : ∀ i, i < len → 0 ≤ nth q1 i := fun i hi => h1.nn _ (nth_mem q1 i (by rw [h1.ln]; exact hi))
  refine ⟨h2.ln, h2.nn, fun i hi => Int.le_trans (h1.mono i hi) (h2.mono i hi), ?_, ?_, ?_⟩
  · intro v hv
    rcases List.mem_cons.1 hv with rfl | hv
    · have := h1.hit v (by simp)
      have := h2.mono v.toNat (by omega)
      omega
    · exact h2.hit v hv
  · intro i hi h0 hp v hv
    have hvi := (hI i hi).2 v hv
    by_cases c : nth q1 i = 0
    · exact h2.closed i hi c hp v hv
    · have hp1 : 0 < nth q1 i := by have := hq1 i hi; omega
      have := h1.closed i hi h0 hp1 v hv
      have := h2.mono v.toNat (by omega)
      omega
  · intro i hi h0 hp
    by_cases c : nth q1 i = 0
    · rcases h2.taken i hi c hp with h | ⟨j, hj, hj0, hjp, hm⟩
      · left; simp [h]
      · right
        refine ⟨j, hj, ?_, hjp, hm⟩
        have := h1.mono j hj
        have := ho j hj
        omega
    · have hp1 : 0 < nth q1 i := by have := hq1 i hi; omega
      rcases h1.taken i hi h0 hp1 with h | ⟨j, hj, hj0, hjp, hm⟩
      · left; simp at h; simp [h]
      · right
        refine ⟨j, hj, hj0, ?_, hm⟩
        have := h2.mono j hj
        omega

theorem needF_grown {g : List Gr.Node} {len : Nat} (hI : InnOk g len) : ∀ (f n : Nat) (o : List Int), n < f → n < len → o.length = len → (∀ v ∈ o, 0 ≤ v) → Grown g len o (needF g f n o) [(n : Int)]
  | 0, n, o, hf, _, _, _ => by omega
  | f + 1, n, o, hf, hn, hl, hp => by
    have hno : n < o.length := by omega
    have hl1 : (bump1 o (n : Int)).length = len := by rw [bump1_length]; exact hl
    have hp1 := bump1_nonneg hno hp
    have h0 := hp _ (nth_mem o n hno)
    have hbn : ∀ i, i < len → nth (bump1 o (n : Int)) i = if n = i then nth o n + 1 else nth o i := by
      intro i hi
      unfold bump1
      rw [Int.toNat_natCast, nth_set _ _ _ _ (by omega)]
    unfold needF
    rw [Int.toNat_natCast, bump1_nth hno]
    by_cases c : 1 < nth o n + 1
    · rw [if_pos c]
      refine ⟨hl1, hp1, fun i hi => ?_, fun v hv => ?_, fun i hi hz hpi => ?_, fun i hi hz hpi => ?_⟩
      · rw [hbn i hi]; split
        · rename_i d; subst d; omega
        · omega
      · simp at hv; subst hv; rw [Int.toNat_natCast, hbn n hn, if_pos rfl]; omega
      · rw [hbn i hi] at hpi
        split at hpi
        · rename_i d; subst d; omega
        · omega
      · rw [hbn i hi] at hpi
        split at hpi
        · rename_i d; subst d; omega
        · omega
    · rw [if_neg c]
      have hz : nth o n = 0 := by omega
      obtain ⟨hi1, hi2⟩ := hI n hn
      have key : ∀ (r : List Int) (q : List Int), (∀ v ∈ r, 0 ≤ v ∧ v < (n : Int)) → q.length = len → (∀ v ∈ q, 0 ≤ v) → Grown g len q (r.foldl (fun q k => needF g f k q) q) r := by
        intro r
        induction r with
        | nil =>
          intro q _ hq1 hq2
          exact ⟨hq1, hq2, fun i _ => Int.le_refl _, (fun v hv => by cases hv), (fun i _ h1 h2 => by simp only [List.foldl_nil] at h2; omega), (fun i _ h1 h2 => by simp only [List.foldl_nil] at h2; omega)⟩
        | cons x r ih =>
          intro q hr hq1 hq2
          obtain ⟨hx0, hx1⟩ := hr x (by simp)
          obtain ⟨m, rfl⟩ : ∃ m : Nat, x = (m : Int) := ⟨x.toNat, by omega⟩
          have k1 := needF_grown hI f m q (by omega) (by omega) hq1 hq2
          have k2 := ih (needF g f m q) (fun v hv => hr v (by simp [hv])) k1.ln k1.nn
          rw [List.foldl_cons]
          exact Grown.cons ⟨by omega, by omega⟩ (fun i hi => hq2 _ (nth_mem q i (by omega))) hI k1 k2
      have hG := key (nodeN g n).inn (bump1 o n) hi2 hl1 hp1
      generalize (nodeN g n).inn.foldl (fun q k => needF g f k q) (bump1 o n) = q at hG ⊢
      have hn1 : 0 < nth q n := by
        have := hG.mono n hn
        rw [hbn n hn, if_pos rfl] at this
        omega
      refine ⟨hG.ln, hG.nn, fun i hi => ?_, fun v hv => ?_, fun i hi hzi hpi => ?_, fun i hi hzi hpi => ?_⟩
      · have := hG.mono i hi
        rw [hbn i hi] at this
        split at this
        · rename_i d; subst d; omega
        · omega
      · simp at hv; subst hv; rw [Int.toNat_natCast]; exact hn1
      · by_cases d : n = i
        · subst d; exact hG.hit
        · exact hG.closed i hi (by rw [hbn i hi, if_neg d]; exact hzi) hpi
      · by_cases d : n = i
        · left; subst d; simp
        · rcases hG.taken i hi (by rw [hbn i hi, if_neg d]; exact hzi) hpi with h | ⟨j, hj, hj0, hjp, hm⟩
          · exact .inr ⟨n, hn, hz, hn1, h⟩
          · refine .inr ⟨j, hj, ?_, hjp, hm⟩
            rw [hbn j hj] at hj0
            split at hj0
            · omega
            · exact hj0

/-- What is needed: the last one; with a node all that it takes in; and nothing that is not taken in. -/
structure Need (g : List Gr.Node) (o : List Int) : Prop where
  pos : 0 < g.length
  ln : o.length = g.length
  root : 0 < nth o (g.length - 1)
  closed : ∀ i, i < g.length → 0 < nth o i → ∀ v ∈ (nodeN g i).inn, 0 < nth o v.toNat
  taken : ∀ i, i < g.length → 0 < nth o i → i = g.length - 1 ∨ ∃ j, i < j ∧ j < g.length ∧ 0 < nth o j ∧ (i : Int) ∈ (nodeN g j).inn
theorem need_of {g : List Gr.Node} (h0 : 0 < g.length) (hI : InnOk g g.length) : Need g (needed g) := by
  have h := needF_grown hI (g.length + 1) (g.length - 1) (List.replicate g.length 0) (by omega) (by omega) (by simp) (fun v hv => by have := List.eq_of_mem_replicate hv; omega)
  have e : needF g (g.length + 1) ((g.length - 1 : Nat) : Int) (List.replicate g.length 0) = needed g := by
    unfold needed; rw [show ((g.length - 1 : Nat) : Int) = (g.length : Int) - 1 by omega]
  rw [e] at h
  refine ⟨h0, h.ln, ?_, fun i hi hp => h.closed i hi (nth_rep _ _ _ hi) hp, fun i hi hp => ?_⟩
  · have := h.hit ((g.length - 1 : Nat) : Int) (by simp)
    rwa [Int.toNat_natCast] at this
  · rcases h.taken i hi (nth_rep _ _ _ hi) hp with h1 | ⟨j, hj, _, hjp, hm⟩
    · left; simp at h1; omega
    · right
      have := (hI j hj).2 _ hm
      exact ⟨j, by omega, hj, hjp, hm⟩

/-- The places that are above nothing, as a list. -/
theorem placesF_iff : ∀ (l : List Int) (i : Nat) (v : Int), v ∈ placesF i l ↔ ∃ k, k < l.length ∧ 0 < nth l k ∧ v = ((i + k : Nat) : Int)
  | [], _, v => by simp [placesF]
  | x :: r, i, v => by
    have ih := placesF_iff r (i + 1) v
    have e0 : nth (x :: r) 0 = x := by unfold nth; simp
    have eS : ∀ k, nth (x :: r) (k + 1) = nth r k := fun k => by unfold nth; simp
    have sh : (∃ k, k < (x :: r).length ∧ 0 < nth (x :: r) k ∧ v = ((i + k : Nat) : Int)) ↔ ((0 < x ∧ v = (i : Int)) ∨ ∃ k, k < r.length ∧ 0 < nth r k ∧ v = ((i + 1 + k : Nat) : Int)) := by
      constructor
      · rintro ⟨k, h1, h2, h3⟩
        cases k with
        | zero => left; rw [e0] at h2; exact ⟨h2, by omega⟩
        | succ k => right; rw [eS] at h2; exact ⟨k, by simpa using h1, h2, by omega⟩
      · rintro (⟨h1, h2⟩ | ⟨k, h1, h2, h3⟩)
        · exact ⟨0, by simp, by rw [e0]; exact h1, by omega⟩
        · exact ⟨k + 1, by simpa using h1, by rw [eS]; exact h2, by omega⟩
    rw [sh, ← ih]
    simp only [placesF]
    split
    · rename_i c; simp [c]
    · rename_i c; simp [c]
theorem placesF_rise : ∀ (l : List Int) (i : Nat), (placesF i l).Pairwise (· < ·)
  | [], _ => by simp [placesF]
  | x :: r, i => by
    have ih := placesF_rise r (i + 1)
    simp only [placesF]
    split
    · refine List.pairwise_cons.2 ⟨fun v hv => ?_, ih⟩
      have := placesF_mem r (i + 1) v hv
      omega
    · exact ih
theorem placesF_congr : ∀ (a b : List Int) (i : Nat), a.length = b.length → (∀ k, k < a.length → (0 < nth a k ↔ 0 < nth b k)) → placesF i a = placesF i b
  | [], [], _, _, _ => rfl
  | [], y :: s, _, h, _ => by simp at h
  | x :: r, [], _, h, _ => by simp at h
  | x :: r, y :: s, i, h, hk => by
    have ih := placesF_congr r s (i + 1) (by simpa using h) (fun k hl => by
      have := hk (k + 1) (by simpa using hl)
      have e1 : nth (x :: r) (k + 1) = nth r k := by unfold nth; simp
      have e2 : nth (y :: s) (k + 1) = nth s k := by unfold nth; simp
      rwa [e1, e2] at this)
    have h0 := hk 0 (by simp)
    have e1 : nth (x :: r) 0 = x := by unfold nth; simp
    have e2 : nth (y :: s) 0 = y := by unfold nth; simp
    rw [e1, e2] at h0
    simp only [placesF]
    rw [ih]
    by_cases c : 0 < x
    · rw [if_pos c, if_pos (h0.1 c)]
    · rw [if_neg c, if_neg (fun d => c (h0.2 d))]
theorem rise_nth {l : List Int} (h : l.Pairwise (· < ·)) {i j : Nat} (hij : i < j) (hj : j < l.length) : nth l i < nth l j := by
  rw [nth_eq l i (by omega), nth_eq l j hj]
  exact List.pairwise_iff_getElem.1 h i j (by omega) hj hij
theorem rise_lt {l : List Int} (h : l.Pairwise (· < ·)) {i j : Nat} (hi : i < l.length) (hj : j < l.length) (hij : nth l i < nth l j) : i < j := by
  rcases Nat.lt_trichotomy i j with d | d | d
  · exact d
  · subst d; omega
  · have := rise_nth h d hi; omega
theorem mem_nth {l : List Int} {v : Int} (h : v ∈ l) : ∃ i, i < l.length ∧ nth l i = v := by
  obtain ⟨i, hi, rfl⟩ := List.getElem_of_mem h
  exact ⟨i, hi, nth_eq l i hi⟩

/-- The list of what is needed: rising. -/
theorem ord_rise (g : List Gr.Node) : (ordOf g).Pairwise (· < ·) := placesF_rise _ _
theorem ord_iff {g : List Gr.Node} {n : Nat} (hn : Need g (needed g)) : (n : Int) ∈ ordOf g ↔ n < g.length ∧ 0 < nth (needed g) n := by
  unfold ordOf
  rw [placesF_iff, hn.ln]
  constructor
  · rintro ⟨k, h1, h2, h3⟩
    have : n = k := by omega
    subst this; exact ⟨h1, h2⟩
  · rintro ⟨h1, h2⟩; exact ⟨n, h1, h2, by omega⟩
theorem ord_at {g : List Gr.Node} (hn : Need g (needed g)) {i : Nat} (hi : i < (ordOf g).length) : ∃ n : Nat, nth (ordOf g) i = (n : Int) ∧ n < g.length ∧ 0 < nth (needed g) n := by
  have h := nth_mem (ordOf g) i hi
  have h2 := placesF_mem _ _ _ h
  obtain ⟨n, hk⟩ : ∃ n : Nat, nth (ordOf g) i = (n : Int) := ⟨(nth (ordOf g) i).toNat, by omega⟩
  rw [hk] at h
  exact ⟨n, hk, (ord_iff hn).1 h⟩
theorem ord_pos {g : List Gr.Node} (hn : Need g (needed g)) : 0 < (ordOf g).length := by
  have := (ord_iff (n := g.length - 1) hn).2 ⟨by have := hn.pos; omega, hn.root⟩
  exact List.length_pos_of_mem this
theorem ord_last {g : List Gr.Node} (hn : Need g (needed g)) : nth (ordOf g) ((ordOf g).length - 1) = (g.length : Int) - 1 := by
  have hp := ord_pos hn
  have hg := hn.pos
  obtain ⟨n, h1, h2, _⟩ := ord_at hn (i := (ordOf g).length - 1) (by omega)
  obtain ⟨i, hi, h3⟩ := mem_nth ((ord_iff (n := g.length - 1) hn).2 ⟨by omega, hn.root⟩)
  rcases Nat.lt_or_ge i ((ordOf g).length - 1) with d | d
  · have := rise_nth (ord_rise g) d (by omega)
    omega
  · have : i = (ordOf g).length - 1 := by omega
    subst this
    omega
/-- A node stands behind what it takes in. -/
theorem ord_inn {g : List Gr.Node} (hI : InnOk g g.length) (hn : Need g (needed g)) {i : Nat} (hi : i < (ordOf g).length) {v : Int} (hv : v ∈ (nodeN g (nth (ordOf g) i).toNat).inn) : hasB ((ordOf g).take i) v = true := by
  obtain ⟨n, h1, h2, h3⟩ := ord_at hn hi
  rw [h1, Int.toNat_natCast] at hv
  have hb := (hI n h2).2 v hv
  have hc := hn.closed n h2 h3 v hv
  obtain ⟨m, rfl⟩ : ∃ m : Nat, v = (m : Int) := ⟨v.toNat, by omega⟩
  rw [Int.toNat_natCast] at hc
  obtain ⟨j, hj, h4⟩ := mem_nth ((ord_iff hn).2 ⟨by omega, hc⟩)
  have hji := rise_lt (ord_rise g) hj hi (by omega)
  rw [hasB_iff, List.mem_take_iff_getElem]
  exact ⟨j, by omega, by rw [← nth_eq _ _ hj]; exact h4⟩
/-- Each but the last one is taken in by one behind it. -/
theorem ord_taken {g : List Gr.Node} (hn : Need g (needed g)) {i : Nat} (hi : i < (ordOf g).length - 1) : ∃ k, i < k ∧ k < (ordOf g).length ∧ hasB (nodeN g (nth (ordOf g) k).toNat).inn (nth (ordOf g) i) = true := by
  obtain ⟨n, h1, h2, h3⟩ := ord_at hn (i := i) (by omega)
  have hl := ord_last hn
  have hri := rise_nth (ord_rise g) hi (by omega)
  rcases hn.taken n h2 h3 with h | ⟨j, hj1, hj2, hj3, hj4⟩
  · have := hn.pos; omega
  · obtain ⟨k, hk, h4⟩ := mem_nth ((ord_iff hn).2 ⟨hj2, hj3⟩)
    refine ⟨k, rise_lt (ord_rise g) (by omega) hk (by omega), hk, ?_⟩
    rw [h4, h1, Int.toNat_natCast, hasB_iff]
    exact hj4

/-- A node more, which takes one in. -/
def more1 (g : List Gr.Node) (k : Int) : List Gr.Node := g ++ [⟨5, [k], [], 0, 0⟩]
theorem nodeN_more {g : List Gr.Node} {x : Gr.Node} {j : Nat} (h : j < g.length) : nodeN (g ++ [x]) j = nodeN g j := by
  exact nodeN_append_left g [x] j h
theorem nodeN_new {g : List Gr.Node} {x : Gr.Node} : nodeN (g ++ [x]) g.length = x := by
  simp [nodeN]
theorem more1_length (g : List Gr.Node) (k : Int) : (more1 g k).length = g.length + 1 := by unfold more1; simp
theorem innOk_more {g : List Gr.Node} {k : Nat} (hk : k < g.length) (hI : InnOk g g.length) : InnOk (more1 g k) (more1 g k).length := by
  intro n hn
  rw [more1_length] at hn
  by_cases c : n < g.length
  · unfold more1; rw [nodeN_more c]; exact hI n c
  · have : n = g.length := by omega
    subst this
    unfold more1; rw [nodeN_new]
    refine ⟨by simp, fun v hv => ?_⟩
    simp at hv; omega
theorem need_more_at {g : List Gr.Node} {k : Nat} (_ : k < g.length) (_ : InnOk g g.length) (hM : Need (more1 g k) (needed (more1 g k))) :
    0 < nth (needed (more1 g k)) k ∧ ∀ i, i < g.length → 0 < nth (needed (more1 g k)) i → i = k ∨ ∃ j, i < j ∧ j < g.length ∧ 0 < nth (needed (more1 g k)) j ∧ (i : Int) ∈ (nodeN g j).inn := by
  have hl := more1_length g k
  constructor
  · have := hM.closed g.length (by omega) (by have := hM.root; rwa [hl, show g.length + 1 - 1 = g.length by omega] at this) (k : Int) (by unfold more1; rw [nodeN_new]; simp)
    rwa [Int.toNat_natCast] at this
  · intro i hi hp
    rcases hM.taken i (by omega) hp with h | ⟨j, h1, h2, h3, h4⟩
    · omega
    · by_cases c : j < g.length
      · right
        unfold more1 at h4; rw [nodeN_more c] at h4
        exact ⟨j, h1, c, h3, h4⟩
      · have : j = g.length := by omega
        subst this
        left
        unfold more1 at h4; rw [nodeN_new] at h4
        simp at h4; omega
theorem down_ind {P : Nat → Prop} (N : Nat) (h : ∀ i, i < N → (∀ j, i < j → j < N → P j) → P i) : ∀ i, i < N → P i := by
  have : ∀ d i, i < N → N - i ≤ d → P i := by
    intro d
    induction d with
    | zero => intro i h1 h2; omega
    | succ d ih => intro i h1 h2; exact h i h1 (fun j h3 h4 => ih j h4 (by omega))
  exact fun i hi => this N i hi (by omega)
theorem need_more_le {g : List Gr.Node} {k : Nat} (hk : k < g.length) (hI : InnOk g g.length) (hM : Need (more1 g k) (needed (more1 g k))) : ∀ i, i < g.length → 0 < nth (needed (more1 g k)) i → i ≤ k :=
  down_ind g.length fun i hi ih hp => by
    rcases (need_more_at hk hI hM).2 i hi hp with h | ⟨j, h1, h2, h3, _⟩
    · omega
    · have := ih j h1 h2 h3; omega
theorem need_more_sub {g : List Gr.Node} {k : Nat} (hk : k < g.length) (hI : InnOk g g.length) (hG : Need g (needed g)) (hM : Need (more1 g k) (needed (more1 g k))) (hkn : 0 < nth (needed g) k) : ∀ i, i < g.length → 0 < nth (needed (more1 g k)) i → 0 < nth (needed g) i :=
  down_ind g.length fun i hi ih hp => by
    rcases (need_more_at hk hI hM).2 i hi hp with h | ⟨j, h1, h2, h3, h4⟩
    · subst h; exact hkn
    · have := hG.closed j h2 (ih j h1 h2 h3) _ h4
      rwa [Int.toNat_natCast] at this
theorem need_more_sup {g : List Gr.Node} (hI : InnOk g g.length) (hG : Need g (needed g)) (hM : Need (more1 g ((g.length - 1 : Nat) : Int)) (needed (more1 g ((g.length - 1 : Nat) : Int)))) : ∀ i, i < g.length → 0 < nth (needed g) i → 0 < nth (needed (more1 g ((g.length - 1 : Nat) : Int))) i :=
  down_ind g.length fun i hi ih hp => by
    have hp0 := hG.pos
    rcases hG.taken i hi hp with h | ⟨j, h1, h2, h3, h4⟩
    · have := (need_more_at (k := g.length - 1) (by omega) hI hM).1
      rw [h]; exact this
    · have := hM.closed j (by rw [more1_length]; omega) (ih j h1 h2 h3) (i : Int) (by unfold more1; rw [nodeN_more h2]; exact h4)
      rwa [Int.toNat_natCast] at this

/-- What is needed with the node more: all but the last one. -/
theorem ord_more_last {g : List Gr.Node} {k : Nat} (hk : k < g.length) (hI : InnOk g g.length) (hM : Need (more1 g k) (needed (more1 g k))) :
    2 ≤ (ordOf (more1 g k)).length ∧ nth (ordOf (more1 g k)) ((ordOf (more1 g k)).length - 1) = g.length ∧ nth (ordOf (more1 g k)) ((ordOf (more1 g k)).length - 2) = k := by
  have hl := ord_last hM
  have hp := ord_pos hM
  rw [more1_length] at hl
  obtain ⟨j, hj, h1⟩ := mem_nth ((ord_iff hM).2 ⟨by rw [more1_length]; omega, (need_more_at hk hI hM).1⟩)
  have hj2 : j ≠ (ordOf (more1 g k)).length - 1 := fun c => by rw [c] at h1; omega
  refine ⟨by omega, by omega, ?_⟩
  obtain ⟨n, h2, h3, h4⟩ := ord_at hM (i := (ordOf (more1 g k)).length - 2) (by omega)
  have h5 := rise_nth (ord_rise (more1 g k)) (i := (ordOf (more1 g k)).length - 2) (j := (ordOf (more1 g k)).length - 1) (by omega) (by omega)
  have h6 := need_more_le hk hI hM n (by omega) h4
  rcases Nat.lt_or_ge j ((ordOf (more1 g k)).length - 2) with d | d
  · have := rise_nth (ord_rise (more1 g k)) d (by omega); omega
  · have : j = (ordOf (more1 g k)).length - 2 := by omega
    subst this; omega
theorem ord_more_in {g : List Gr.Node} {k : Nat} (hk : k < g.length) (hI : InnOk g g.length) (hG : Need g (needed g)) (hM : Need (more1 g k) (needed (more1 g k))) (hkn : hasB (ordOf g) (k : Int) = true) {i : Nat} (hi : i < (ordOf (more1 g k)).length - 1) : hasB (ordOf g) (nth (ordOf (more1 g k)) i) = true := by
  rw [hasB_iff] at hkn ⊢
  have hkp := ((ord_iff hG).1 hkn).2
  obtain ⟨n, h2, h3, h4⟩ := ord_at hM (i := i) (by omega)
  have h5 := rise_nth (ord_rise (more1 g k)) hi (by omega)
  have h6 := (ord_more_last hk hI hM).2.1
  have hn : n < g.length := by omega
  rw [h2]
  exact (ord_iff hG).2 ⟨hn, need_more_sub hk hI hG hM hkp n hn h4⟩
theorem ord_more_root {g : List Gr.Node} (hI : InnOk g g.length) (hG : Need g (needed g)) (hM : Need (more1 g ((g.length - 1 : Nat) : Int)) (needed (more1 g ((g.length - 1 : Nat) : Int)))) :
    (ordOf (more1 g ((g.length - 1 : Nat) : Int))).take ((ordOf (more1 g ((g.length - 1 : Nat) : Int))).length - 1) = ordOf g := by
  have hp := hG.pos
  have hln := hM.ln
  rw [more1_length] at hln
  have hr := hM.root
  rw [more1_length, show g.length + 1 - 1 = g.length by omega] at hr
  have e : ordOf (more1 g ((g.length - 1 : Nat) : Int)) = placesF 0 ((needed (more1 g ((g.length - 1 : Nat) : Int))).take g.length) ++ [(g.length : Int)] := by
    have := placesF_snoc (l := needed (more1 g ((g.length - 1 : Nat) : Int))) (k := g.length) (by omega)
    rw [List.take_of_length_le (by omega), if_pos hr] at this
    exact this
  rw [e]
  simp only [List.length_append, List.length_cons, List.length_nil, Nat.add_sub_cancel, Nat.zero_add, List.take_left']
  refine placesF_congr _ _ 0 (by rw [List.length_take, hG.ln]; omega) fun i hi => ?_
  rw [List.length_take] at hi
  have hi2 : i < g.length := by omega
  have e2 : nth ((needed (more1 g ((g.length - 1 : Nat) : Int))).take g.length) i = nth (needed (more1 g ((g.length - 1 : Nat) : Int))) i := by
    rw [nth_eq _ i (by rw [List.length_take]; omega), nth_eq _ i (by omega), List.getElem_take]
  rw [e2]
  exact ⟨fun h => need_more_sub (by omega) hI hG hM hG.root i hi2 h, fun h => need_more_sup hI hG hM i hi2 h⟩
end Od
end Go.Proofs.Ytgmagldbfajedaa
