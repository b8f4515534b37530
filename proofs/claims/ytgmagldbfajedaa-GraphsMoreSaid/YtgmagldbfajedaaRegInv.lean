/-
  A region that draws its order, by an invariant: whatever comes up next, the invariant stays (any program).
-/
import Derived.Orders
import Derived.WalkKit
namespace Go.Proofs.Ytgmagldbfajedaa

theorem filter_lt (p q : Nat → Bool) (h : ∀ x, q x = true → p x = true) (i : Nat) (hp : p i = true) (hq : q i = false) : ∀ l : List Nat, i ∈ l → (l.filter q).length < (l.filter p).length
  | [], hi => by cases hi
  | x :: r, hi => by
    have hle : ∀ m : List Nat, (m.filter q).length ≤ (m.filter p).length := fun m => by
      induction m with
      | nil => exact Nat.le_refl _
      | cons y s ih =>
        simp only [List.filter_cons]
        split
        · rw [if_pos (h y (by assumption))]; simp only [List.length_cons]; omega
        · split
          · simp only [List.length_cons]; omega
          · exact ih
    rcases List.mem_cons.1 hi with rfl | hm
    · simp only [List.filter_cons, hp, hq, if_true, if_false, Bool.false_eq_true, List.length_cons]
      have := hle r
      omega
    · have ih := filter_lt p q h i hp hq r hm
      simp only [List.filter_cons]
      split
      · rw [if_pos (h x (by assumption))]; simp only [List.length_cons]; omega
      · split
        · simp only [List.length_cons]; omega
        · exact ih

/-- How many have not come up. -/
def left (n : Nat) (listed : Array Bool) : Nat := ((List.range n).filter fun i => !listed.getD i true).length

theorem mem_ready2 {md : Region.Mode} {ops : Array Oper} {listed : Array Bool} {i : Nat} (h : i ∈ Region.ready md ops listed) :
    i < ops.size ∧ listed.getD i true = false ∧ ∀ o, ops[i]? = some o → ∀ e ∈ o.after, Region.binds md e = true → listed.getD e.on false = true := by
  unfold Region.ready at h
  rw [List.mem_filter, List.mem_range] at h
  obtain ⟨h1, h2⟩ := h
  rw [Bool.and_eq_true] at h2
  obtain ⟨h2, h3⟩ := h2
  refine ⟨h1, by simpa using h2, fun o ho e he hb => ?_⟩
  rw [ho] at h3
  simp only [Option.map_some, Option.getD_some, Array.all_eq_true_iff_forall_mem] at h3
  have := h3 e he
  rw [hb] at this
  simpa using this

theorem wpAny_inv {P : Program} {md : Region.Mode} {ops : Array Oper} {Q : Exit → Act → World → Prop} (Inv : Array Bool → Act → World → Prop)
    (hstep : ∀ listed a w, listed.size = ops.size → Inv listed a w → ∀ i ∈ Region.ready md ops listed, wpOp P ops Q i (Inv (listed.setIfInBounds i true)) a w)
    (hend : ∀ listed a w, listed.size = ops.size → Inv listed a w → Region.ready md ops listed = [] → Q .normal a w) :
    ∀ fuel listed a w, left ops.size listed ≤ fuel → listed.size = ops.size → Inv listed a w → wpAny P md ops Q fuel listed a w := by
  intro fuel
  induction fuel with
  | zero =>
    intro listed a w hf hz hI
    have hr : Region.ready md ops listed = [] := by
      refine List.eq_nil_iff_forall_not_mem.2 fun i hi => ?_
      obtain ⟨h1, h2, _⟩ := mem_ready2 hi
      have h3 : (List.range ops.size).filter (fun i => !listed.getD i true) = [] := List.eq_nil_of_length_eq_zero (by unfold left at hf; omega)
      have h4 : i ∈ (List.range ops.size).filter (fun i => !listed.getD i true) := List.mem_filter.2 ⟨List.mem_range.2 h1, by simp only [h2, Bool.not_false]⟩
      rw [h3] at h4
      cases h4
    exact ⟨hr, hend listed a w hz hI hr⟩
  | succ fuel ih =>
    intro listed a w hf hz hI
    refine ⟨fun hr => hend listed a w hz hI hr, fun i hi => ?_⟩
    obtain ⟨h1, h2, _⟩ := mem_ready2 hi
    refine wpOp_mono (fun a' w' hI' => ih (listed.setIfInBounds i true) a' w' ?_ (by simpa using hz) hI') (hstep listed a w hz hI i hi)
    have hlt : left ops.size (listed.setIfInBounds i true) < left ops.size listed := by
      unfold left
      refine filter_lt _ _ (fun x hx => ?_) i (by simp only [h2, Bool.not_false]) ?_ _ (List.mem_range.2 h1)
      · by_cases hxi : i = x
        · subst hxi; simp only [h2, Bool.not_false]
        · simp only [Bool.not_eq_true', Array.getD_eq_getD_getElem?] at hx ⊢
          rw [Array.getElem?_setIfInBounds_ne hxi] at hx
          exact hx
      · have : i < listed.size := by omega
        simp [Array.getD_eq_getD_getElem?, Array.getElem?_setIfInBounds_self, this]
    omega

/-- All have come up where none may: each waits for earlier ones alone. -/
theorem all_up {md : Region.Mode} {ops : Array Oper} {listed : Array Bool} (hr : Region.ready md ops listed = []) (hz : listed.size = ops.size)
    (hd : ∀ i, i < ops.size → ((ops[i]?).map (·.after.all fun e => decide (e.on < i))).getD false = true) : ∀ i, i < ops.size → listed.getD i false = true := by
  intro i
  induction i using Nat.strongRecOn with
  | ind i ih =>
    intro hi
    apply Classical.byContradiction
    intro hn
    have hm : i ∈ Region.ready md ops listed := by
      unfold Region.ready
      rw [List.mem_filter, List.mem_range]
      refine ⟨hi, ?_⟩
      have h0 : listed.getD i true = false := by
        have hil : i < listed.size := by omega
        simp only [Array.getD_eq_getD_getElem?, Array.getElem?_eq_getElem hil, Option.getD_some] at hn ⊢
        simpa using hn
      have h1 := hd i hi
      rw [Array.getElem?_eq_getElem hi] at h1 ⊢
      simp only [Option.map_some, Option.getD_some, Array.all_eq_true_iff_forall_mem, decide_eq_true_eq, h0, Bool.not_false, Bool.true_and] at h1 ⊢
      intro e he
      have := ih e.on (h1 e he) (by have := h1 e he; omega)
      rw [this]; simp
    rw [hr] at hm
    cases hm

theorem wp_region_inv {P : Program} {ops : Array Oper} {Q : Exit → Act → World → Prop} {id : Nat} {a : Act} {w : World} (Inv : Array Bool → Act → World → Prop) (hm : P.follows .mixedOrders = true)
    (hstart : Inv (Array.replicate ops.size false) a w.drew)
    (hstep : ∀ listed a w, listed.size = ops.size → Inv listed a w → ∀ i ∈ Region.ready .any ops listed, wpOp P ops Q i (Inv (listed.setIfInBounds i true)) a w)
    (hend : ∀ listed a w, listed.size = ops.size → Inv listed a w → Region.ready .any ops listed = [] → Q .normal a w) : (Code.region id ops true).wp P Q a w :=
  wp_region_any hm (wpAny_inv Inv hstep hend _ _ a w.drew (by unfold left; exact Nat.le_trans (List.length_filter_le _ _) (by simp)) (by simp) hstart)
end Go.Proofs.Ytgmagldbfajedaa
