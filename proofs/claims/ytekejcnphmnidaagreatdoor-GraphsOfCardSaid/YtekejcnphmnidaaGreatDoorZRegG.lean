import Derived.Test.YtekejcnphmnidaaGreatDoorZRegC
namespace Go.Proofs.YtekejcnphmnidaaGreatDoor
def strip (l : List Oper) : List Oper := l.map fun o => { o with guard := none }
section
variable {l : List Oper} {size : Nat}
theorem strip_at (i : Nat) : (strip l)[i]? = (l[i]?).map fun o => { o with guard := none } := by simp [strip]
theorem strip_length : (strip l).length = l.length := by simp [strip]
theorem dstAt_strip (i : Nat) : dstAt (strip l) i = dstAt l i := by
  unfold dstAt; rw [strip_at]; cases l[i]? <;> rfl
theorem canonK_strip (a0 : Act) (listed : Array Bool) (vals : Nat → Value) : ∀ k, canonK (strip l) a0 listed vals k = canonK l a0 listed vals k
  | 0 => rfl
  | k + 1 => by unfold canonK; rw [canonK_strip a0 listed vals k, dstAt_strip]
theorem wp_region_canonG {P : Program} {Q : Exit → Act → World → Prop} {id : Nat} {a0 : Act} {w : World} (hs : a0.tmps.size = size) (hm : P.follows .mixedOrders = true) (hB : canonB (strip l) size = true)
    (Inv : Array Bool → (Nat → Value) → World → Prop) (vals0 : Nat → Value) (hstart : Inv (Array.replicate l.length false) vals0 w.drew)
    (hstep : ∀ listed vals w a i o, listed.size = l.length → l[i]? = some o → listed.getD i false = false → (∀ e ∈ o.after, Region.binds .any e = true → listed.getD e.on false = true) → Inv listed vals w → Frame l a0 listed vals a → a.tmps.size = size →
      Region.wanted o (yielded l.toArray a.tmps) = true ∧ ∀ K : Act → World → Prop, (∀ v w', Inv (listed.setIfInBounds i true) (updV vals i v) w' → K (a.put o.dst v) w') → o.wp P a w K Q)
    (hend : ∀ listed vals w, (∀ i, i < l.length → listed.getD i false = true) → Inv listed vals w → Q .normal (putsK l a0 vals l.length) w) : (Code.region id l.toArray true).wp P Q a0 w := by
  refine wp_region_inv (ops := l.toArray) (fun listed a w => ∃ vals, a = canonK l a0 listed vals l.length ∧ Inv listed vals w) hm ⟨vals0, ?_, by simpa using hstart⟩ ?_ ?_
  · have : ∀ k, canonK l a0 (Array.replicate l.toArray.size false) vals0 k = a0 := fun k => by
      induction k with
      | zero => rfl
      | succ k ih =>
        unfold canonK
        rw [if_neg, ih]
        simp only [Array.getD_eq_getD_getElem?, Array.getElem?_replicate]
        split <;> simp
    exact (this _).symm
  · rintro listed a w hz ⟨vals, rfl, hI⟩ i hi
    obtain ⟨h1, h2, h3⟩ := mem_ready2 hi
    have hil : i < l.length := by simpa using h1
    have ho : l[i]? = some l[i] := List.getElem?_eq_getElem hil
    have ho2 : l.toArray[i]? = some l[i] := by simp [hil]
    have hos : (strip l)[i]? = some { l[i] with guard := none } := by rw [strip_at, ho]; rfl
    have hzl : listed.size = l.length := by simpa using hz
    have hn : listed.getD i false = false := by
      simp only [Array.getD_eq_getD_getElem?, Array.getElem?_eq_getElem (show i < listed.size by omega), Option.getD_some] at h2 ⊢
      exact h2
    have hF : Frame l a0 listed vals (canonK l a0 listed vals l.length) := ⟨fun t ht => by
        have := canon_old (l := strip l) (a0 := a0) (listed := listed) (vals := vals) (t := t) l.length (fun j hj hd => ht j hj (by rw [← dstAt_strip]; exact hd))
        rwa [canonK_strip] at this,
      fun j t hj hd hl => by
        have := canon_new hB hs (vals := vals) (j := j) (t := t) (by rw [dstAt_strip]; exact hd) hl l.length (by rw [strip_length]; exact Nat.le_refl _) hj
        rwa [canonK_strip] at this, trivial⟩
    have hsz : (canonK l a0 listed vals l.length).tmps.size = size := by rw [canon_size]; exact hs
    obtain ⟨hw, hstp⟩ := hstep listed vals w _ i l[i] hzl ho hn (h3 _ ho2) hI hF hsz
    unfold wpOp
    rw [ho2]
    simp only [hw, if_true]
    refine .inl (hstp _ fun v w' hI' => ⟨updV vals i v, ?_, hI'⟩)
    have := canon_put hB (a0 := a0) (vals := vals) hos (by omega) hn v l.length (by rw [strip_length]; exact Nat.le_refl _)
    rw [canonK_strip, canonK_strip, if_pos hil] at this
    exact this.symm
  · rintro listed a w hz ⟨vals, rfl, hI⟩ hr
    have hall : ∀ i, i < l.length → listed.getD i false = true := by
      have := all_up2 hr hz (fun k o hk e he hb => by
        have hk2 : (strip l)[k]? = some { o with guard := none } := by rw [strip_at, show l[k]? = some o by simpa using hk]; rfl
        exact (canonB_at hB hk2).2.1 e he hb)
      simpa using this
    rw [canon_all _ hall]
    exact hend listed vals w hall hI
end
end Go.Proofs.YtekejcnphmnidaaGreatDoor
