import Derived.Orders
import Derived.WalkKit
import Derived.StillTail
namespace Go.Proofs.YtekejcnphmnidaaGreatDoor
theorem filter_lt (p q : Nat → Bool) (h : ∀ x, q x = true → p x = true) (i : Nat) (hp : p i = true) (hq : q i = false) : ∀ l : List Nat, i ∈ l → (l.filter q).length < (l.filter p).length
  | [], hi => by cases hi
  | x :: r, hi => by
    have hle : ∀ m : List Nat, (m.filter q).length ≤ (m.filter p).length := fun m => by
      induction m with
      | nil => exact Nat.le_refl _
      | cons y s ih =>
        simp only [List.filter_cons]
        split
        · rw [if_pos (h y (by assumption))]; simp only [List.length_cons]; omega
        · split
          · simp only [List.length_cons]; omega
          · exact ih
    rcases List.mem_cons.1 hi with rfl | hm
    · simp only [List.filter_cons, hp, hq, if_true, if_false, Bool.false_eq_true, List.length_cons]
      have := hle r
      omega
    · have ih := filter_lt p q h i hp hq r hm
      simp only [List.filter_cons]
      split
      · rw [if_pos (h x (by assumption))]; simp only [List.length_cons]; omega
      · split
        · simp only [List.length_cons]; omega
        · exact ih
def left (n : Nat) (listed : Array Bool) : Nat := ((List.range n).filter fun i => !listed.getD i true).length
theorem mem_ready2 {md : Region.Mode} {ops : Array Oper} {listed : Array Bool} {i : Nat} (h : i ∈ Region.ready md ops listed) :
    i < ops.size ∧ listed.getD i true = false ∧ ∀ o, ops[i]? = some o → ∀ e ∈ o.after, Region.binds md e = true → listed.getD e.on false = true := by
  unfold Region.ready at h
  rw [List.mem_filter, List.mem_range] at h
  obtain ⟨h1, h2⟩ := h
  rw [Bool.and_eq_true] at h2
  obtain ⟨h2, h3⟩ := h2
  refine ⟨h1, by simpa using h2, fun o ho e he hb => ?_⟩
  rw [ho] at h3
  simp only [Option.map_some, Option.getD_some, Array.all_eq_true_iff_forall_mem] at h3
  have := h3 e he
  rw [hb] at this
  simpa using this
theorem wpAny_inv {P : Program} {md : Region.Mode} {ops : Array Oper} {Q : Exit → Act → World → Prop} (Inv : Array Bool → Act → World → Prop)
    (hstep : ∀ listed a w, listed.size = ops.size → Inv listed a w → ∀ i ∈ Region.ready md ops listed, wpOp P ops Q i (Inv (listed.setIfInBounds i true)) a w)
    (hend : ∀ listed a w, listed.size = ops.size → Inv listed a w → Region.ready md ops listed = [] → Q .normal a w) :
    ∀ fuel listed a w, left ops.size listed ≤ fuel → listed.size = ops.size → Inv listed a w → wpAny P md ops Q fuel listed a w := by
  intro fuel
  induction fuel with
  | zero =>
    intro listed a w hf hz hI
    have hr : Region.ready md ops listed = [] := by
      refine List.eq_nil_iff_forall_not_mem.2 fun i hi => ?_
      obtain ⟨h1, h2, _⟩ := mem_ready2 hi
      have h3 : (List.range ops.size).filter (fun i => !listed.getD i true) = [] := List.eq_nil_of_length_eq_zero (by unfold left at hf; omega)
      have h4 : i ∈ (List.range ops.size).filter (fun i => !listed.getD i true) := List.mem_filter.2 ⟨List.mem_range.2 h1, by simp only [h2, Bool.not_false]⟩
      rw [h3] at h4
      cases h4
    exact ⟨hr, hend listed a w hz hI hr⟩
  | succ fuel ih =>
    intro listed a w hf hz hI
    refine ⟨fun hr => hend listed a w hz hI hr, fun i hi => ?_⟩
    obtain ⟨h1, h2, _⟩ := mem_ready2 hi
    refine wpOp_mono (fun a' w' hI' => ih (listed.setIfInBounds i true) a' w' ?_ (by simpa using hz) hI') (hstep listed a w hz hI i hi)
    have hlt : left ops.size (listed.setIfInBounds i true) < left ops.size listed := by
      unfold left
      refine filter_lt _ _ (fun x hx => ?_) i (by simp only [h2, Bool.not_false]) ?_ _ (List.mem_range.2 h1)
      · by_cases hxi : i = x
        · subst hxi; simp only [h2, Bool.not_false]
        · simp only [Bool.not_eq_true', Array.getD_eq_getD_getElem?] at hx ⊢
          rw [Array.getElem?_setIfInBounds_ne hxi] at hx
          exact hx
      · have : i < listed.size := by omega
        simp [Array.getD_eq_getD_getElem?, this]
    omega
theorem all_up {md : Region.Mode} {ops : Array Oper} {listed : Array Bool} (hr : Region.ready md ops listed = []) (hz : listed.size = ops.size)
    (hd : ∀ i, i < ops.size → ((ops[i]?).map (·.after.all fun e => decide (e.on < i))).getD false = true) : ∀ i, i < ops.size → listed.getD i false = true := by
  intro i
  induction i using Nat.strongRecOn with
  | ind i ih =>
    intro hi
    apply Classical.byContradiction
    intro hn
    have hm : i ∈ Region.ready md ops listed := by
      unfold Region.ready
      rw [List.mem_filter, List.mem_range]
      refine ⟨hi, ?_⟩
      have h0 : listed.getD i true = false := by
        have hil : i < listed.size := by omega
        simp only [Array.getD_eq_getD_getElem?, Array.getElem?_eq_getElem hil, Option.getD_some] at hn ⊢
        simpa using hn
      have h1 := hd i hi
      rw [Array.getElem?_eq_getElem hi] at h1 ⊢
      simp only [Option.map_some, Option.getD_some, Array.all_eq_true_iff_forall_mem, decide_eq_true_eq, h0, Bool.not_false, Bool.true_and] at h1 ⊢
      intro e he
      have := ih e.on (h1 e he) (by have := h1 e he; omega)
      rw [this]; simp
    rw [hr] at hm
    cases hm
theorem wp_region_inv {P : Program} {ops : Array Oper} {Q : Exit → Act → World → Prop} {id : Nat} {a : Act} {w : World} (Inv : Array Bool → Act → World → Prop) (hm : P.follows .mixedOrders = true)
    (hstart : Inv (Array.replicate ops.size false) a w.drew)
    (hstep : ∀ listed a w, listed.size = ops.size → Inv listed a w → ∀ i ∈ Region.ready .any ops listed, wpOp P ops Q i (Inv (listed.setIfInBounds i true)) a w)
    (hend : ∀ listed a w, listed.size = ops.size → Inv listed a w → Region.ready .any ops listed = [] → Q .normal a w) : (Code.region id ops true).wp P Q a w :=
  wp_region_any hm (wpAny_inv Inv hstep hend _ _ a w.drew (by unfold left; exact Nat.le_trans (List.length_filter_le _ _) (by simp)) (by simp) hstart)
end Go.Proofs.YtekejcnphmnidaaGreatDoor
namespace Go.Proofs.YtekejcnphmnidaaGreatDoor
def callOps (l : List Oper) (n : Nat) : Bool :=
  (List.range l.length).all fun t => match l[t]? with
    | none => false
    | some o => o.guard.isNone && (if t < n then o.after.all (fun e => decide (e.on < t)) && (List.range (n + 1)).any (fun j => decide (t < j) && Region.waitsFor .any l.toArray j t)
      else if t = n then o.after.all fun e => decide (e.on < n) || !Region.binds .any e
      else o.after.any fun e => Region.binds .any e && decide (n ≤ e.on) && decide (e.on < t))
def upTo (l : List Oper) (n : Nat) : Array Bool := (Array.range l.length).map fun i => decide (i ≤ n)
def callB (l : List Oper) (n : Nat) : Bool :=
  decide (n < l.length) && callOps l n && Region.lexB .any (l.take n).toArray && Region.noSelect l.toArray && Region.lexFrom .any l.toArray (l.length - n - 1) (n + 1) (upTo l n)
section
variable {P : Program} {l : List Oper} {n : Nat} {listed hd : Array Bool}
theorem getD_tf {a : Array Bool} {i : Nat} (hi : i < a.size) : a.getD i true = a.getD i false := by
  simp [Array.getD_eq_getD_getElem?, hi]
theorem callOps_at (h : callOps l n = true) {t : Nat} {o : Oper} (ho : l[t]? = some o) : o.guard = none ∧
    (t < n → (∀ e ∈ o.after, e.on < t) ∧ ∃ j, j ≤ n ∧ t < j ∧ Region.waitsFor .any l.toArray j t = true) ∧
    (t = n → ∀ e ∈ o.after, Region.binds .any e = true → e.on < n) ∧
    (n < t → ∃ e ∈ o.after, Region.binds .any e = true ∧ n ≤ e.on ∧ e.on < t) := by
  unfold callOps at h
  have h1 := List.all_eq_true.1 h t (List.mem_range.2 (List.getElem?_eq_some_iff.1 ho).1)
  rw [ho] at h1
  simp only [Bool.and_eq_true, Option.isNone_iff_eq_none] at h1
  obtain ⟨hg, h2⟩ := h1
  refine ⟨hg, fun ht => ?_, fun ht => ?_, fun ht => ?_⟩
  · rw [if_pos ht, Bool.and_eq_true, Array.all_eq_true_iff_forall_mem, List.any_eq_true] at h2
    obtain ⟨h3, j, hj, h4⟩ := h2
    simp only [Bool.and_eq_true, decide_eq_true_eq] at h4
    exact ⟨fun e he => of_decide_eq_true (h3 e he), j, by have := List.mem_range.1 hj; omega, h4.1, h4.2⟩
  · subst ht
    rw [if_neg (by omega), if_pos rfl, Array.all_eq_true_iff_forall_mem] at h2
    intro e he hb
    have := h2 e he
    rw [hb] at this
    simpa using this
  · rw [if_neg (by omega), if_neg (by omega), Array.any_eq_true'] at h2
    obtain ⟨e, he, h3⟩ := h2
    simp only [Bool.and_eq_true, decide_eq_true_eq] at h3
    exact ⟨e, he, h3.1.1, h3.1.2, h3.2⟩
structure Ahead (l : List Oper) (n : Nat) (listed hd : Array Bool) : Prop where
  size : listed.size = l.length
  hsize : hd.size = n
  same : ∀ i, i < n → hd.getD i true = listed.getD i true
  tail : ∀ t, n ≤ t → t < l.length → listed.getD t true = false
  closed : ∀ j o, l[j]? = some o → listed.getD j false = true → ∀ e ∈ o.after, Region.binds .any e = true → listed.getD e.on false = true
theorem Ahead.head (A : Ahead l n listed hd) (hn : n < l.length) (hB : callOps l n = true) {i : Nat} (hi : i < n) (h : i ∈ Region.ready .any l.toArray listed) : i ∈ Region.ready .any (l.take n).toArray hd := by
  obtain ⟨h1, o, ho, h2⟩ := mem_ready.1 h
  have ho' : l[i]? = some o := by simpa using ho
  refine mem_ready.2 ⟨by rw [A.same i hi]; exact h1, o, by simpa [List.getElem?_take, hi] using ho', fun e he hb => ?_⟩
  have h3 := h2 e he hb
  have h4 := ((callOps_at hB ho').2.1 hi).1 e he
  rw [← getD_tf (by rw [A.hsize]; omega), A.same _ (by omega), getD_tf (by rw [A.size]; omega)]
  exact h3
theorem Ahead.only (A : Ahead l n listed hd) (_ : n < l.length) (hB : callOps l n = true) {i : Nat} (h : i ∈ Region.ready .any l.toArray listed) : i ≤ n := by
  apply Classical.byContradiction
  intro hc
  obtain ⟨h1, o, ho, h2⟩ := mem_ready.1 h
  have ho' : l[i]? = some o := by simpa using ho
  obtain ⟨e, he, hb, hn1, hn2⟩ := (callOps_at hB ho').2.2.2 (by omega)
  have hil : i < l.length := (List.getElem?_eq_some_iff.1 ho').1
  have h3 := h2 e he hb
  have h4 := A.tail e.on hn1 (by omega)
  rw [getD_tf (by rw [A.size]; omega), h3] at h4
  cases h4
theorem Ahead.all (A : Ahead l n listed hd) (hn : n < l.length) (hB : callOps l n = true) (h : n ∈ Region.ready .any l.toArray listed) : ∀ d i, n - i = d → i < n → listed.getD i false = true := by
  intro d
  induction d using Nat.strongRecOn with
  | _ d ih =>
    intro i hd hi
    have hil : i < l.length := by omega
    obtain ⟨_, j, hj, hij, hw⟩ := (callOps_at hB (List.getElem?_eq_getElem hil)).2.1 hi
    obtain ⟨oj, hoj, e, he, hb, hon⟩ := Region.waitsFor_spec hw
    have hoj' : l[j]? = some oj := by simpa using hoj
    by_cases hjn : j = n
    · subst hjn
      obtain ⟨_, o, ho, h2⟩ := mem_ready.1 h
      have : o = oj := Option.some.inj (ho.symm.trans hoj)
      subst this
      rw [← hon]; exact h2 e he hb
    · have := ih (n - j) (by omega) j rfl (by omega)
      rw [← hon]; exact A.closed j oj hoj' this e he hb
theorem Ahead.set (A : Ahead l n listed hd) {i : Nat} (hi : i < n) (h : i ∈ Region.ready .any l.toArray listed) : Ahead l n (listed.setIfInBounds i true) (hd.setIfInBounds i true) := by
  obtain ⟨_, o, ho, h2⟩ := mem_ready.1 h
  have ho' : l[i]? = some o := by simpa using ho
  have hil : i < l.length := (List.getElem?_eq_some_iff.1 ho').1
  have key : ∀ (a : Array Bool) (k : Nat) (b : Bool), i < a.size → (a.setIfInBounds i true).getD k b = if i = k then true else a.getD k b := fun a k b hs => by
    simp only [Array.getD_eq_getD_getElem?]
    by_cases e : i = k
    · subst e; rw [Array.getElem?_setIfInBounds_self]; simp [hs]
    · rw [Array.getElem?_setIfInBounds_ne e, if_neg e]
  have hs1 : i < listed.size := by rw [A.size]; exact hil
  have hs2 : i < hd.size := by rw [A.hsize]; exact hi
  refine ⟨by simp [A.size], by simp [A.hsize], fun k hk => ?_, fun t ht htl => ?_, fun j oj hoj hl e he hb => ?_⟩
  · rw [key _ _ _ hs1, key _ _ _ hs2, A.same k hk]
  · rw [key _ _ _ hs1, if_neg (by omega)]; exact A.tail t ht htl
  · rw [key _ _ _ hs1] at hl ⊢
    split
    · rfl
    · split at hl
      · rename_i hij
        subst hij
        have : oj = o := Option.some.inj (hoj.symm.trans ho')
        subst this
        exact h2 e he hb
      · exact A.closed j oj hoj hl e he hb
theorem Ahead.back (A : Ahead l n listed hd) (hn : n < l.length) (hB : callOps l n = true) {i : Nat} (h : i ∈ Region.ready .any (l.take n).toArray hd) : i < n ∧ i ∈ Region.ready .any l.toArray listed := by
  obtain ⟨h1, o, ho, h2⟩ := mem_ready.1 h
  have hi : i < n := by
    have := (Array.getElem?_eq_some_iff.1 ho).1
    simp at this; omega
  have ho' : l[i]? = some o := by simpa [List.getElem?_take, hi] using ho
  refine ⟨hi, mem_ready.2 ⟨by rw [← A.same i hi]; exact h1, o, by simpa using ho', fun e he hb => ?_⟩⟩
  have h3 := h2 e he hb
  have h4 := ((callOps_at hB ho').2.1 hi).1 e he
  rw [← getD_tf (by rw [A.size]; omega), ← A.same _ (by omega), getD_tf (by rw [A.hsize]; omega)]
  exact h3
theorem wpAnyS_more {md : Region.Mode} {ops : Array Oper} {w : World} {Q : Act → Prop} : ∀ (f : Nat) (listed : Array Bool) (a : Act), wpAnyS P md ops w Q f listed a → wpAnyS P md ops w Q (f + 1) listed a
  | 0, _, _, h => ⟨fun _ => h.2, fun i hi => by rw [h.1] at hi; cases hi⟩
  | f + 1, _, _, h => ⟨h.1, fun i hi => stOp_mono (fun a' h' => wpAnyS_more f _ a' h') (h.2 i hi)⟩
theorem wpAnyS_plus {md : Region.Mode} {ops : Array Oper} {w : World} {Q : Act → Prop} {f : Nat} {listed : Array Bool} {a : Act} (h : wpAnyS P md ops w Q f listed a) : ∀ k, wpAnyS P md ops w Q (k + f) listed a
  | 0 => by rw [Nat.zero_add]; exact h
  | k + 1 => by rw [show k + 1 + f = k + f + 1 by omega]; exact wpAnyS_more _ _ _ (wpAnyS_plus h k)
def AtCall (P : Program) (l : List Oper) (n : Nat) (o : Oper) (Q : Exit → Act → World → Prop) (w : World) (a : Act) : Prop :=
  ∀ K : Act → World → Prop, (∀ a2 w2, wpStill P l.toArray w2 (fun a3 => Q .normal a3 w2) (l.drop (n + 1)) a2 → K a2 w2) → o.wp P a w K Q
theorem Ahead.call {w : World} {Q : Exit → Act → World → Prop} {o : Oper} (ho : l[n]? = some o) (_ : n < l.length) (hB : callOps l n = true) (hs : Region.noSelect l.toArray = true)
    (hT : Region.lexFrom .any l.toArray (l.length - n - 1) (n + 1) (upTo l n) = true) (A : Ahead l n listed hd) (hup : ∀ i, i < n → listed.getD i false = true) (h : Nat) (a : Act) (hL : AtCall P l n o Q w a) :
    wpOp P l.toArray Q n (wpAny P .any l.toArray Q (h + (l.length - n - 1)) (listed.setIfInBounds n true)) a w := by
  have heq : listed.setIfInBounds n true = upTo l n := by
    apply Array.ext_getElem?
    intro k
    unfold upTo
    by_cases hk : k < l.length
    · have hks : k < listed.size := by rw [A.size]; exact hk
      by_cases e : n = k
      · subst e
        rw [Array.getElem?_setIfInBounds_self]
        simp [hk, hks]
      · rw [Array.getElem?_setIfInBounds_ne e]
        rcases Nat.lt_or_ge k n with hlt | hge
        · have h1 := hup k hlt
          simp only [Array.getD_eq_getD_getElem?, Array.getElem?_eq_getElem hks, Option.getD_some] at h1
          rw [Array.getElem?_eq_getElem hks, h1]
          simp [hk]; omega
        · have h1 := A.tail k hge hk
          simp only [Array.getD_eq_getD_getElem?, Array.getElem?_eq_getElem hks, Option.getD_some] at h1
          rw [Array.getElem?_eq_getElem hks, h1]
          simp [hk]; omega
    · rw [Array.getElem?_eq_none (by simp [A.size]; omega), Array.getElem?_eq_none (by simp; omega)]
  rw [heq]
  have ho2 : l.toArray[n]? = some o := by simpa using ho
  have hw : Region.wanted o (yielded l.toArray a.tmps) = true := by simp [Region.wanted, (callOps_at hB ho).1]
  unfold wpOp
  rw [ho2]
  simp only [hw, if_true]
  refine .inl (hL _ fun a2 w2 h2 => ?_)
  have hlen : (l.drop (n + 1)).length = l.length - n - 1 := by simp; omega
  have h3 := wpAnyS_lex (md := .any) hs (l.drop (n + 1)) (n + 1) (upTo l n) a2 (fun j => by simp [List.getElem?_drop]) (by rw [hlen]; exact hT) h2
  rw [hlen] at h3
  exact wpAny_of_still (Q := fun a3 => Q .normal a3 w2) (fun _ h => h) _ _ _ (wpAnyS_plus h3 h)
theorem ahead_wp {w : World} {Q : Exit → Act → World → Prop} {o : Oper} (ho : l[n]? = some o) (hn : n < l.length) (hB : callOps l n = true) (hs : Region.noSelect l.toArray = true)
    (hT : Region.lexFrom .any l.toArray (l.length - n - 1) (n + 1) (upTo l n) = true) : ∀ (h : Nat) (listed hd : Array Bool) (a : Act), Ahead l n listed hd →
    wpAnyS P .any (l.take n).toArray w (AtCall P l n o Q w) h hd a → wpAny P .any l.toArray Q (h + (l.length - n - 1) + 1) listed a w := by
  have hup : ∀ (hd listed : Array Bool), Ahead l n listed hd → Region.ready .any (l.take n).toArray hd = [] → ∀ i, i < n → listed.getD i false = true := fun hd listed A hr i hi => by
    have hz : hd.size = (l.take n).toArray.size := by rw [A.hsize]; simp; omega
    have h1 := all_up hr hz (fun k hk => by
      have hk' : k < n := by simp at hk; omega
      have hkl : k < l.length := by omega
      have h2 := ((callOps_at hB (List.getElem?_eq_getElem hkl)).2.1 hk').1
      have h3 : (l.take n).toArray[k]? = some l[k] := by simp [hk', hkl]
      rw [h3]
      simp only [Option.map_some, Option.getD_some, Array.all_eq_true_iff_forall_mem, decide_eq_true_eq]
      exact h2) i (by simp; omega)
    rw [← getD_tf (by rw [A.size]; omega), ← A.same i hi, getD_tf (by rw [A.hsize]; omega)]
    exact h1
  have hmem : ∀ (hd listed : Array Bool), Ahead l n listed hd → Region.ready .any (l.take n).toArray hd = [] → n ∈ Region.ready .any l.toArray listed := fun hd listed A hr =>
    mem_ready.2 ⟨A.tail n (Nat.le_refl _) hn, o, by simpa using ho, fun e he hb => hup hd listed A hr _ ((callOps_at hB ho).2.2.1 rfl e he hb)⟩
  intro h
  induction h with
  | zero =>
    intro listed hd a A H
    obtain ⟨hr, hL⟩ := H
    have hm := hmem hd listed A hr
    refine ⟨fun h0 => (by rw [h0] at hm; cases hm), fun i hi => ?_⟩
    have hle := A.only hn hB hi
    have hin : i = n := by
      rcases Nat.lt_or_ge i n with hlt | hge
      · have h1 := (mem_ready.1 hi).1
        rw [getD_tf (by rw [A.size]; omega), hup hd listed A hr i hlt] at h1
        cases h1
      · omega
    subst hin
    exact A.call ho hn hB hs hT (hup hd listed A hr) 0 a hL
  | succ h ih =>
    intro listed hd a A H
    obtain ⟨H1, H2⟩ := H
    refine ⟨fun h0 => ?_, fun i hi => ?_⟩
    · cases hr : Region.ready .any (l.take n).toArray hd with
      | nil => have hm := hmem hd listed A hr; rw [h0] at hm; cases hm
      | cons j r =>
        have hm := (A.back hn hB (show j ∈ Region.ready .any (l.take n).toArray hd by rw [hr]; simp)).2
        rw [h0] at hm; cases hm
    · have hle := A.only hn hB hi
      rcases Nat.lt_or_ge i n with hlt | hge
      · have h1 := H2 i (A.head hn hB hlt hi)
        have hil : i < l.length := by omega
        have e1 : (l.take n).toArray[i]? = some l[i] := by simp [hlt, hil]
        have e2 : l.toArray[i]? = some l[i] := by simp [hil]
        have hg := (callOps_at hB (List.getElem?_eq_getElem hil)).1
        have h3 : stOp P l.toArray w i (wpAnyS P .any (l.take n).toArray w (AtCall P l n o Q w) h (hd.setIfInBounds i true)) a := by
          unfold stOp at h1 ⊢
          rw [e1] at h1
          rw [e2]
          simp only [Region.wanted, hg, if_true] at h1 ⊢
          exact h1
        rw [show h + 1 + (l.length - n - 1) = h + (l.length - n - 1) + 1 by omega]
        exact wpOp_of_stOp (fun a' h' => ih _ _ a' (A.set hlt hi) h') h3
      · have hin : i = n := by omega
        subst hin
        have hall := fun k hk => A.all hn hB hi (i - k) k rfl hk
        have hr : Region.ready .any (l.take i).toArray hd = [] := by
          refine List.eq_nil_iff_forall_not_mem.2 fun k hk => ?_
          obtain ⟨hk1, hk2⟩ := A.back hn hB hk
          have h1 := (mem_ready.1 hk2).1
          rw [getD_tf (by rw [A.size]; omega), hall k hk1] at h1
          cases h1
        exact A.call ho hn hB hs hT hall (h + 1) a (H1 hr)
theorem wp_region_still_call {id : Nat} {Q : Exit → Act → World → Prop} {a : Act} {w : World} (n : Nat) (hm : P.follows .mixedOrders = true) (hC : callB l n = true)
    (h : wpStill P (l.take n).toArray w.drew (fun a' => match l[n]? with | none => False | some o => AtCall P l n o Q w.drew a') (l.take n) a) : (Code.region id l.toArray true).wp P Q a w := by
  unfold callB at hC
  simp only [Bool.and_eq_true, decide_eq_true_eq] at hC
  obtain ⟨⟨⟨⟨hn, hB⟩, hx⟩, hs⟩, hT⟩ := hC
  have ho : l[n]? = some l[n] := List.getElem?_eq_getElem hn
  rw [ho] at h
  simp only at h
  unfold Region.lexB at hx
  rw [Bool.and_eq_true] at hx
  refine wp_region_any hm ?_
  have hA : Ahead l n (Array.replicate l.length false) (Array.replicate n false) :=
    ⟨by simp, by simp, fun i hi => by simp [Array.getD_eq_getD_getElem?, hi, show i < l.length by omega], fun t _ ht => by simp [Array.getD_eq_getD_getElem?, ht], fun j o _ hl => by
      simp only [Array.getD_eq_getD_getElem?, Array.getElem?_replicate] at hl
      split at hl <;> simp at hl⟩
  have hlen : (l.take n).length = n := by simp; omega
  have h1 := wpAnyS_lex (md := .any) hx.1 (l.take n) 0 (Array.replicate n false) a (fun j => by simp) (by have := hx.2; simpa [hlen] using this) h
  rw [hlen] at h1
  have h2 := ahead_wp ho hn hB hs hT n _ _ a hA h1
  have hsz : n + (l.length - n - 1) + 1 = l.toArray.size := by simp; omega
  rw [hsz] at h2
  simpa using h2
end
end Go.Proofs.YtekejcnphmnidaaGreatDoor
