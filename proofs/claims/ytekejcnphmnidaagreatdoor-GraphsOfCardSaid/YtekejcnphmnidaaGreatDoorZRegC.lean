import Derived.Test.YtekejcnphmnidaaGreatDoorZBd
import Derived.Great.Frames
namespace Go.Proofs.YtekejcnphmnidaaGreatDoor
def dstAt (l : List Oper) (i : Nat) : Option Tmp := (l[i]?).bind (·.dst)
def canonK (l : List Oper) (a0 : Act) (listed : Array Bool) (vals : Nat → Value) : Nat → Act
  | 0 => a0
  | k + 1 => if listed.getD k false = true then (canonK l a0 listed vals k).put (dstAt l k) (vals k) else canonK l a0 listed vals k
def putsK (l : List Oper) (a0 : Act) (vals : Nat → Value) : Nat → Act
  | 0 => a0
  | k + 1 => (putsK l a0 vals k).put (dstAt l k) (vals k)
def updV (vals : Nat → Value) (i : Nat) (v : Value) : Nat → Value := fun j => if j = i then v else vals j
theorem updV_at (vals : Nat → Value) (i : Nat) (v : Value) : updV vals i v i = v := if_pos rfl
theorem updV_ne (vals : Nat → Value) (i : Nat) (v : Value) {j : Nat} (h : j ≠ i) : updV vals i v j = vals j := if_neg h
theorem canon_all {l : List Oper} {a0 : Act} {listed : Array Bool} {vals : Nat → Value} : ∀ n, (∀ i, i < n → listed.getD i false = true) → canonK l a0 listed vals n = putsK l a0 vals n
  | 0, _ => rfl
  | n + 1, h => by
    unfold canonK putsK
    rw [if_pos (h n (Nat.lt_succ_self n)), canon_all n (fun i hi => h i (Nat.lt_succ_of_lt hi))]
def canonB (l : List Oper) (size : Nat) : Bool :=
  ((List.range l.length).all fun i => match l[i]? with
    | none => false
    | some o => o.guard.isNone && o.after.all (fun e => !Region.binds .any e || decide (e.on < i)) && (match o.dst with
      | none => true
      | some d => decide (d < size) && (List.range l.length).all fun j => decide (j = i) || decide (dstAt l j ≠ some d)))
section
variable {l : List Oper} {size : Nat}
theorem canonB_at (h : canonB l size = true) {i : Nat} {o : Oper} (ho : l[i]? = some o) : o.guard = none ∧ (∀ e ∈ o.after, Region.binds .any e = true → e.on < i) ∧ ∀ d, o.dst = some d → d < size ∧ ∀ j, j < l.length → j ≠ i → dstAt l j ≠ some d := by
  unfold canonB at h
  have h1 := List.all_eq_true.1 h i (List.mem_range.2 (List.getElem?_eq_some_iff.1 ho).1)
  rw [ho] at h1
  simp only [Bool.and_eq_true, Option.isNone_iff_eq_none] at h1
  obtain ⟨⟨hg, ha⟩, hd⟩ := h1
  refine ⟨hg, fun e he => ?_, fun d hdd => ?_⟩
  · rw [Array.all_eq_true_iff_forall_mem] at ha
    intro hb
    have := ha e he
    rw [hb] at this
    simpa using this
  · rw [hdd] at hd
    simp only [Bool.and_eq_true, decide_eq_true_eq, List.all_eq_true, List.mem_range, Bool.or_eq_true] at hd
    exact ⟨hd.1, fun j hj hne => (hd.2 j hj).resolve_left hne⟩
theorem getD_set {listed : Array Bool} {i k : Nat} (hi : i < listed.size) : (listed.setIfInBounds i true).getD k false = if i = k then true else listed.getD k false := by
  simp only [Array.getD_eq_getD_getElem?]
  by_cases e : i = k
  · subst e; rw [Array.getElem?_setIfInBounds_self]; simp [hi]
  · rw [Array.getElem?_setIfInBounds_ne e, if_neg e]
theorem canon_put (hB : canonB l size = true) {a0 : Act} {listed : Array Bool} {vals : Nat → Value} {i : Nat} {o : Oper} (ho : l[i]? = some o) (hi : i < listed.size) (hn : listed.getD i false = false) (v : Value) :
    ∀ k, k ≤ l.length → canonK l a0 (listed.setIfInBounds i true) (updV vals i v) k = if i < k then (canonK l a0 listed vals k).put o.dst v else canonK l a0 listed vals k
  | 0, _ => rfl
  | k + 1, hk => by
    have ih := canon_put hB (a0 := a0) (vals := vals) ho hi hn v k (by omega)
    unfold canonK
    rw [ih, getD_set hi]
    have hdi : dstAt l i = o.dst := by unfold dstAt; rw [ho]; rfl
    by_cases e : i = k
    · subst e
      rw [if_neg (Nat.lt_irrefl _), if_pos rfl, if_pos rfl, if_pos (Nat.lt_succ_self _), updV_at, hn, hdi]
      simp
    · rw [if_neg e]
      by_cases hlt : i < k
      · rw [if_pos hlt, if_pos (show i < k + 1 by omega)]
        split
        · rw [updV_ne _ _ _ (fun h => e h.symm)]
          refine Act.put_comm _ _ _ (fun d hd => ?_)
          exact ((canonB_at hB ho).2.2 d hd).2 k (by omega) (fun h => e h.symm)
        · rfl
      · rw [if_neg hlt, if_neg (show ¬ i < k + 1 by omega)]
        split
        · rw [updV_ne _ _ _ (fun h => e h.symm)]
        · rfl
theorem canon_size {a0 : Act} {listed : Array Bool} {vals : Nat → Value} : ∀ k, (canonK l a0 listed vals k).tmps.size = a0.tmps.size
  | 0 => rfl
  | k + 1 => by
    unfold canonK
    split
    · cases h : dstAt l k with
      | none => exact canon_size k
      | some d => simp [Act.put, canon_size k]
    · exact canon_size k
theorem canon_old {a0 : Act} {listed : Array Bool} {vals : Nat → Value} {t : Nat} : ∀ k, (∀ j, j < k → dstAt l j = some t → listed.getD j false = false) → (canonK l a0 listed vals k).eval (.tmp t) = a0.eval (.tmp t)
  | 0, _ => rfl
  | k + 1, h => by
    have ih := canon_old (a0 := a0) (listed := listed) (vals := vals) k (fun j hj => h j (by omega))
    unfold canonK
    split
    · rename_i hl
      cases hd : dstAt l k with
      | none => exact ih
      | some d => rw [Act.eval_put_ne _ _ _ _ (fun e => by have := h k (by omega) (by rw [hd, e]); rw [hl] at this; cases this)]; exact ih
    · exact ih
theorem canon_new (hB : canonB l size = true) {a0 : Act} (hs : a0.tmps.size = size) {listed : Array Bool} {vals : Nat → Value} {t j : Nat} (hj : dstAt l j = some t) (hl : listed.getD j false = true) : ∀ k, k ≤ l.length → j < k → (canonK l a0 listed vals k).eval (.tmp t) = vals j
  | 0, _, h => by omega
  | k + 1, hk, h => by
    obtain ⟨o, ho, hod⟩ : ∃ o, l[j]? = some o ∧ o.dst = some t := by
      unfold dstAt at hj
      cases h0 : l[j]? with
      | none => rw [h0] at hj; cases hj
      | some o => rw [h0] at hj; exact ⟨o, rfl, hj⟩
    have hB2 := (canonB_at hB ho).2.2 t hod
    unfold canonK
    by_cases e : j = k
    · subst e
      rw [if_pos hl, hj, Act.eval_put_same _ _ _ (by rw [canon_size, hs]; exact hB2.1)]
    · have ih := canon_new hB hs (vals := vals) hj hl k (by omega) (by omega)
      split
      · cases hd : dstAt l k with
        | none => exact ih
        | some d =>
          rw [Act.eval_put_ne _ _ _ _ (fun e2 => hB2.2 k (by omega) (fun h => e h.symm) (by rw [hd, e2]))]; exact ih
      · exact ih
structure Frame (l : List Oper) (a0 : Act) (listed : Array Bool) (vals : Nat → Value) (a : Act) : Prop where
  old : ∀ t, (∀ j, j < l.length → dstAt l j = some t → listed.getD j false = false) → a.eval (.tmp t) = a0.eval (.tmp t)
  new : ∀ j t, j < l.length → dstAt l j = some t → listed.getD j false = true → a.eval (.tmp t) = vals j
  defers : True
theorem all_up2 {ops : Array Oper} {listed : Array Bool} (hr : Region.ready .any ops listed = []) (hz : listed.size = ops.size)
    (hd : ∀ i o, ops[i]? = some o → ∀ e ∈ o.after, Region.binds .any e = true → e.on < i) : ∀ i, i < ops.size → listed.getD i false = true := by
  intro i
  induction i using Nat.strongRecOn with
  | ind i ih =>
    intro hi
    apply Classical.byContradiction
    intro hn
    have hm : i ∈ Region.ready .any ops listed := by
      refine mem_ready.2 ⟨?_, ops[i], Array.getElem?_eq_getElem hi, fun e he hb => ?_⟩
      · have hil : i < listed.size := by omega
        simp only [Array.getD_eq_getD_getElem?, Array.getElem?_eq_getElem hil, Option.getD_some] at hn ⊢
        simpa using hn
      · have h1 := hd i ops[i] (Array.getElem?_eq_getElem hi) e he hb
        exact ih e.on h1 (by omega)
    rw [hr] at hm
    cases hm
def depsB (o : Oper) (deps : List Nat) : Bool := deps.all fun j => o.after.any fun e => Region.binds .any e && decide (e.on = j)
def OpAt (l : List Oper) (i : Nat) (d : Option Tmp) (op : Op) (deps : List Nat) : Prop := ∃ o, l[i]? = some o ∧ o.dst = d ∧ o.op = op ∧ depsB o deps = true
theorem OpAt.dst {i : Nat} {d : Option Tmp} {op : Op} {deps : List Nat} (h : OpAt l i d op deps) : dstAt l i = d := by
  obtain ⟨o, h1, h2, _⟩ := h
  unfold dstAt; rw [h1]; exact h2
theorem OpAt.is {i : Nat} {d : Option Tmp} {op : Op} {deps : List Nat} (h : OpAt l i d op deps) {o : Oper} (ho : l[i]? = some o) {B : Nat → Bool} (hdep : ∀ e ∈ o.after, Region.binds .any e = true → B e.on = true) :
    o.dst = d ∧ o.op = op ∧ ∀ j ∈ deps, B j = true := by
  obtain ⟨o', h1, h2, h3, h4⟩ := h
  obtain rfl : o = o' := Option.some.inj (ho.symm.trans h1)
  refine ⟨h2, h3, fun j hj => ?_⟩
  unfold depsB at h4
  have h5 := List.all_eq_true.1 h4 j hj
  obtain ⟨e, he, h6⟩ := Array.any_eq_true'.1 h5
  simp only [Bool.and_eq_true, decide_eq_true_eq] at h6
  rw [← h6.2]
  exact hdep e he h6.1
theorem wp_region_canon {P : Program} {Q : Exit → Act → World → Prop} {id : Nat} {a0 : Act} {w : World} (hs : a0.tmps.size = size) (hm : P.follows .mixedOrders = true) (hB : canonB l size = true)
    (Inv : Array Bool → (Nat → Value) → World → Prop) (vals0 : Nat → Value) (hstart : Inv (Array.replicate l.length false) vals0 w.drew)
    (hstep : ∀ listed vals w a i o, listed.size = l.length → l[i]? = some o → listed.getD i false = false → (∀ e ∈ o.after, Region.binds .any e = true → listed.getD e.on false = true) → Inv listed vals w → Frame l a0 listed vals a →
      ∀ K : Act → World → Prop, (∀ v w', Inv (listed.setIfInBounds i true) (updV vals i v) w' → K (a.put o.dst v) w') → o.wp P a w K Q)
    (hend : ∀ listed vals w, (∀ i, i < l.length → listed.getD i false = true) → Inv listed vals w → Q .normal (putsK l a0 vals l.length) w) : (Code.region id l.toArray true).wp P Q a0 w := by
  refine wp_region_inv (ops := l.toArray) (fun listed a w => ∃ vals, a = canonK l a0 listed vals l.length ∧ Inv listed vals w) hm ⟨vals0, ?_, by simpa using hstart⟩ ?_ ?_
  · have : ∀ k, canonK l a0 (Array.replicate l.toArray.size false) vals0 k = a0 := fun k => by
      induction k with
      | zero => rfl
      | succ k ih =>
        unfold canonK
        rw [if_neg, ih]
        simp only [Array.getD_eq_getD_getElem?, Array.getElem?_replicate]
        split <;> simp
    exact (this _).symm
  · rintro listed a w hz ⟨vals, rfl, hI⟩ i hi
    obtain ⟨h1, h2, h3⟩ := mem_ready2 hi
    have hil : i < l.length := by simpa using h1
    have ho : l[i]? = some l[i] := List.getElem?_eq_getElem hil
    have ho2 : l.toArray[i]? = some l[i] := by simp [hil]
    have hzl : listed.size = l.length := by simpa using hz
    have hn : listed.getD i false = false := by
      simp only [Array.getD_eq_getD_getElem?, Array.getElem?_eq_getElem (show i < listed.size by omega), Option.getD_some] at h2 ⊢
      exact h2
    have hg := (canonB_at hB ho).1
    unfold wpOp
    rw [ho2]
    simp only [Region.wanted, hg, if_true]
    refine .inl (hstep listed vals w _ i l[i] hzl ho hn (h3 _ ho2) hI ⟨fun t ht => canon_old _ ht, fun j t hj hd hl => canon_new hB hs hd hl _ (Nat.le_refl _) hj, trivial⟩ _ fun v w' hI' => ⟨updV vals i v, ?_, hI'⟩)
    rw [canon_put hB ho (by omega) hn v _ (Nat.le_refl _), if_pos hil]
  · rintro listed a w hz ⟨vals, rfl, hI⟩ hr
    have hall : ∀ i, i < l.length → listed.getD i false = true := by
      have := all_up2 hr hz (fun k o hk => (canonB_at hB (i := k) (by simpa using hk)).2.1)
      simpa using this
    rw [canon_all _ hall]
    exact hend listed vals w hall hI
end
end Go.Proofs.YtekejcnphmnidaaGreatDoor
