/-
  'free = append(append([]int(nil), free[:best]...), free[best+1:]...)': the law of that region, whatever order it draws (free_region).
-/
import Derived.Test.YtekejcnphmnidaaGreatDoorZRegC
import Derived.Test.YtekejcnphmnidaaGreatDoorZTw
import Derived.Deep.RegionLaw
namespace Go.Proofs.YtekejcnphmnidaaGreatDoor
open Go.RowKit

/-- Some ints more, behind a slice of the call's own: at the operation. -/
theorem wp_appIZ {o : Oper} {a : Act} {K : Act → World → Prop} {Q : Exit → Act → World → Prop} (W : World) (s t : Operand)
    (ho : o.op = .call { callee := .builtin .append, args := #[s, t], argTypes := #[22, 22] }) (base : Nat) (v : Value) (l l2 : List Int) (ad : Addr) (m c : Nat)
    (hown : Own base W v l) (h2 : Ints W (some ad) m c l2) (hs : a.eval s = v) (ht : a.eval t = .slice (some ad) m c) (hb : base ≤ W.heap.size) (hlen : l.length ≤ 1000000) (hlen2 : m ≤ 1000000)
    (h : ∀ v' w', Own base w' v' (l ++ l2) → Below base W w' → K (a.put o.dst v') w') : Oper.wp Tryz.prog o a W K Q := by
  obtain ⟨i0, hi, hz0, hz1, hz2⟩ := info_parts Tryz.info3
  have hl2 := h2.length
  refine wp_append_own W s t 22 ho base 3 i0 (.int .i64 0) 1 8 Tryz.underlying22 hi hz0 hz1 hz2 rfl (by decide) v l.length (l.map (Value.int .i64)) hs hown ad m c (l2.map (Value.int .i64)) ht ?_ ?_ ?_ ?_ ?_ hb ?_
  · rw [List.length_map, hl2]; omega
  · intro j u hj
    have hjl : j < l2.length := by have := (List.getElem?_eq_some_iff.1 hj).1; simpa using this
    obtain ⟨b, off, e, hlt, hc⟩ := h2.at_ (by omega)
    simp only [Option.some.injEq] at e
    subst e
    rw [Addr.add_lit, hc j (by omega), nth_eq l2 j hjl]
    rw [List.getElem?_map, List.getElem?_eq_getElem hjl] at hj
    simpa using hj
  · intro u hu; obtain ⟨x, _, rfl⟩ := List.mem_map.1 hu; rfl
  · unfold maxLen; omega
  · omega
  · intro v' w' hown' hgrow _
    refine h v' w' ?_ ((Below.refl base W).grown hgrow hb fun k hk => (Own.lt hown k hk).1)
    unfold Own
    rw [List.length_append, hl2, List.map_append]
    exact hown'

section
variable {o : Oper} {a : Act} {w : World} {K : Act → World → Prop} {Q : Exit → Act → World → Prop} {x y : Operand}
theorem wp_retZ {w' : World} {v : Value} (h : (execOp a.eval o).run Tryz.prog w = .ok (.value v) w') (hK : K (a.put o.dst v) w') : o.wp Tryz.prog a w K Q := by
  unfold Oper.wp; rw [h]; exact hK
theorem wp_mvZ {v : Value} (ho : o.op = .move x) (hv : a.eval x = v) (hK : K (a.put o.dst v) w) : o.wp Tryz.prog a w K Q := by
  refine wp_retZ ?_ hK
  clear hK
  generalize a.eval = ev at *
  unfold execOp; rw [ho]; simp [hv, go_sem]
theorem wp_asZ {v : Value} (ho : o.op = .assign x) (hv : a.eval x = v) (hK : K (a.put o.dst v) w) : o.wp Tryz.prog a w K Q := by
  refine wp_retZ ?_ hK
  clear hK
  generalize a.eval = ev at *
  unfold execOp; rw [ho]; simp [hv, go_sem]
theorem wp_addZ {n : Int} (ho : o.op = .binOp .add 3 x (.const (.int .i64 1)) 3) (hv : a.eval x = .int .i64 n) (hn : 0 ≤ n ∧ n ≤ 1000000) (hK : K (a.put o.dst (.int .i64 (n + 1))) w) : o.wp Tryz.prog a w K Q := by
  refine wp_retZ ?_ hK
  clear hK
  have h1 : a.eval (.const (.int .i64 1)) = .int .i64 1 := rfl
  have hw : IntKind.i64.wrap (n + 1) = n + 1 := IntWalk.i64_in _ (by omega)
  generalize a.eval = ev at *
  unfold execOp; rw [ho]; simp [hv, h1, hw, go_sem]
theorem wp_slHiZ {vx vy v : Value} (ho : o.op = .slice 22 x none (some y) none) (hx : a.eval x = vx) (hy : a.eval y = vy) (hr : (Instr.slice 22 vx none (some vy) none).run Tryz.prog w = .ok v w) (hK : K (a.put o.dst v) w) : o.wp Tryz.prog a w K Q := by
  refine wp_retZ ?_ hK
  clear hK
  generalize a.eval = ev at *
  unfold execOp; rw [ho]; simp [hx, hy, hr, go_sem]
theorem wp_slLoZ {vx vy v : Value} (ho : o.op = .slice 22 x (some y) none none) (hx : a.eval x = vx) (hy : a.eval y = vy) (hr : (Instr.slice 22 vx (some vy) none none).run Tryz.prog w = .ok v w) (hK : K (a.put o.dst v) w) : o.wp Tryz.prog a w K Q := by
  refine wp_retZ ?_ hK
  clear hK
  generalize a.eval = ev at *
  unfold execOp; rw [ho]; simp [hx, hy, hr, go_sem]
end

/-- The region's operations. -/
structure IsFree (l : List Oper) : Prop where
  len : l.length = 10
  k0 : OpAt l 0 (some 164) (.move (.tmp 13)) []
  k1 : OpAt l 1 (some 165) (.move (.tmp 16)) []
  k2 : OpAt l 2 (some 166) (.slice 22 (.tmp 164) none (some (.tmp 165)) none) [0, 1]
  k3 : OpAt l 3 (some 167) (.call { callee := .builtin .append, args := #[.const (.slice none 0 0), .tmp 166], argTypes := #[22, 22] }) [2]
  k4 : OpAt l 4 (some 168) (.move (.tmp 13)) []
  k5 : OpAt l 5 (some 169) (.move (.tmp 16)) []
  k6 : OpAt l 6 (some 170) (.binOp .add 3 (.tmp 169) (.const (.int .i64 1)) 3) [5]
  k7 : OpAt l 7 (some 171) (.slice 22 (.tmp 168) (some (.tmp 170)) none none) [4, 6]
  k8 : OpAt l 8 (some 172) (.call { callee := .builtin .append, args := #[.tmp 167, .tmp 171], argTypes := #[22, 22] }) [3, 7]
  k9 : OpAt l 9 (some 13) (.assign (.tmp 172)) [0, 4, 8]

section
variable {wq : World} {f t d : Value} {b : Int} {P D : List Int}
def constF (f t d : Value) (b : Int) : Nat → Option Value
  | 0 => some f | 1 => some (.int .i64 b) | 2 => some t | 4 => some f | 5 => some (.int .i64 b) | 6 => some (.int .i64 (b + 1)) | 7 => some d | _ => none
def setBZ (B : Nat → Bool) (i : Nat) : Nat → Bool := fun k => if i = k then true else B k
theorem setBZ_at (B : Nat → Bool) (i : Nat) : setBZ B i i = true := if_pos rfl
theorem setBZ_ne (B : Nat → Bool) {i k : Nat} (h : i ≠ k) : setBZ B i k = B k := if_neg h

structure InvF (wq : World) (f t d : Value) (b : Int) (P D : List Int) (B : Nat → Bool) (vals : Nat → Value) (w : World) : Prop where
  cs : ∀ i c, constF f t d b i = some c → B i = true → vals i = c
  w0 : B 3 = false → w = wq.drew
  w3 : B 3 = true → B 8 = false → Own wq.heap.size w (vals 3) P ∧ Below wq.heap.size wq w
  w8 : B 8 = true → Own wq.heap.size w (vals 8) (P ++ D) ∧ Below wq.heap.size wq w
  o : B 8 = true → B 3 = true
  v9 : B 9 = true → vals 9 = vals 8 ∧ B 8 = true
  d9 : B 9 = true → B 0 = true ∧ B 4 = true
theorem setBZ_mono {B : Nat → Bool} {i j : Nat} (h : B j = true) : setBZ B i j = true := by unfold setBZ; split; rfl; exact h
theorem InvF.pure {B : Nat → Bool} {vals : Nat → Value} {w : World} (I : InvF wq f t d b P D B vals w) {i : Nat} (hi : i ≠ 3 ∧ i ≠ 8 ∧ i ≠ 9) {c : Value} (hc : constF f t d b i = some c) : InvF wq f t d b P D (setBZ B i) (updV vals i c) w := by
  obtain ⟨h3, h8, h9⟩ := hi
  have e3 := setBZ_ne B h3
  have e8 := setBZ_ne B h8
  have e9 := setBZ_ne B h9
  have u3 := updV_ne vals i c (Ne.symm h3)
  have u8 := updV_ne vals i c (Ne.symm h8)
  have u9 := updV_ne vals i c (Ne.symm h9)
  refine ⟨fun j x hj hb => ?_, by rw [e3]; exact I.w0, by rw [e3, e8, u3]; exact I.w3, by rw [e8, u8]; exact I.w8, by rw [e3, e8]; exact I.o, by rw [e9, e8, u9, u8]; exact I.v9, fun h => by rw [e9] at h; exact ⟨setBZ_mono (I.d9 h).1, setBZ_mono (I.d9 h).2⟩⟩
  by_cases e : i = j
  · subst e; rw [updV_at]; rw [hc] at hj; cases hj; rfl
  · rw [updV_ne _ _ _ (Ne.symm e)]; rw [setBZ_ne B e] at hb; exact I.cs j x hj hb
theorem InvF.made {B : Nat → Bool} {vals : Nat → Value} {w : World} (I : InvF wq f t d b P D B vals w) {i : Nat} (hi : constF f t d b i = none) (v : Value) : ∀ j x, constF f t d b j = some x → setBZ B i j = true → updV vals i v j = x := fun j x hj hb => by
  have e : i ≠ j := fun e => by subst e; rw [hi] at hj; cases hj
  rw [updV_ne _ _ _ (Ne.symm e)]
  rw [setBZ_ne B e] at hb
  exact I.cs j x hj hb

def finF (f t d : Value) (b : Int) (v7 v8 : Value) : Nat → Value := fun i => if i = 3 then v7 else if i = 8 then v8 else if i = 9 then v8 else (constF f t d b i).getD undef

set_option maxHeartbeats 2000000 in
theorem free_region {ops : List Oper} (S : IsFree ops) {size : Nat} {Q : Exit → Act → World → Prop} {id : Nat} {a0 : Act} (hs : a0.tmps.size = size) (hB : canonB ops size = true) (e13 : a0.eval (.tmp 13) = f) (e16 : a0.eval (.tmp 16) = .int .i64 b)
    (hb : 0 ≤ b ∧ b ≤ 1000000) (ad1 : Addr) (m1 c1 : Nat) (ad2 : Addr) (m2 c2 : Nat) (ht : t = .slice (some ad1) m1 c1) (hd : d = .slice (some ad2) m2 c2)
    (hT : ∀ W, Below wq.heap.size wq W → Ints W (some ad1) m1 c1 P) (hD : ∀ W, Below wq.heap.size wq W → Ints W (some ad2) m2 c2 D) (hm1 : m1 ≤ 1000000) (hm2 : m2 ≤ 1000000) (hP : P.length ≤ 1000000)
    (hr1 : ∀ w, (Instr.slice 22 f none (some (.int .i64 b)) none).run Tryz.prog w = .ok t w) (hr2 : ∀ w, (Instr.slice 22 f (some (.int .i64 (b + 1))) none none).run Tryz.prog w = .ok d w)
    (hQ : ∀ v7 v8 W, Own wq.heap.size W v8 (P ++ D) → Below wq.heap.size wq W → Q .normal ((((((((((a0.put (some 164) f).put (some 165) (.int .i64 b)).put (some 166) t).put (some 167) v7).put (some 168) f).put (some 169) (.int .i64 b)).put (some 170) (.int .i64 (b + 1))).put (some 171) d).put (some 172) v8).put (some 13) v8) W) :
    (Code.region id ops.toArray true).wp Tryz.prog Q a0 wq := by
  have hBd : Below wq.heap.size wq wq.drew := (Below.refl _ _).drew
  refine wp_region_canon hs mixed hB (fun listed vals w => InvF wq f t d b P D (fun k => listed.getD k false) vals w) (fun _ => undef) ?_ ?_ ?_
  · have hf : ∀ k, (Array.replicate ops.length false).getD k false = false := fun k => by
      simp only [Array.getD_eq_getD_getElem?, Array.getElem?_replicate]
      split <;> simp
    simp only [hf]
    exact ⟨(fun _ _ _ h => by cases h), fun _ => rfl, fun h => (by cases h), fun h => (by cases h), fun h => (by cases h), fun h => (by cases h), fun h => (by cases h)⟩
  · intro listed vals w a i o hz ho hn hdep I hF K hK
    have hi : i < 10 := by rw [← S.len]; exact (List.getElem?_eq_some_iff.1 ho).1
    have hset : ∀ vals' w', InvF wq f t d b P D (setBZ (fun k => listed.getD k false) i) vals' w' → InvF wq f t d b P D (fun k => (listed.setIfInBounds i true).getD k false) vals' w' := fun vals' w' h => by
      have e : (fun k => (listed.setIfInBounds i true).getD k false) = setBZ (fun k => listed.getD k false) i := funext fun k => getD_set (by rw [hz, S.len]; exact hi)
      rw [e]; exact h
    have hE : ∀ j u c, j < 10 → dstAt ops j = some u → listed.getD j false = true → constF f t d b j = some c → a.eval (.tmp u) = c := fun j u c hj hd hl hc => (hF.new j u (by rw [S.len]; exact hj) hd hl).trans (I.cs j c hc hl)
    have hV : ∀ j u, j < 10 → dstAt ops j = some u → listed.getD j false = true → a.eval (.tmp u) = vals j := fun j u hj hd hl => hF.new j u (by rw [S.len]; exact hj) hd hl
    have hds : ∀ j, j < 10 → dstAt ops j = some 13 → j = 9 := fun j hj h => by
      obtain rfl | rfl | rfl | rfl | rfl | rfl | rfl | rfl | rfl | rfl : j = 0 ∨ j = 1 ∨ j = 2 ∨ j = 3 ∨ j = 4 ∨ j = 5 ∨ j = 6 ∨ j = 7 ∨ j = 8 ∨ j = 9 := by omega
      · rw [S.k0.dst] at h; cases h
      · rw [S.k1.dst] at h; cases h
      · rw [S.k2.dst] at h; cases h
      · rw [S.k3.dst] at h; cases h
      · rw [S.k4.dst] at h; cases h
      · rw [S.k5.dst] at h; cases h
      · rw [S.k6.dst] at h; cases h
      · rw [S.k7.dst] at h; cases h
      · rw [S.k8.dst] at h; cases h
      · rfl
    have hds16 : ∀ j, j < 10 → dstAt ops j ≠ some 16 := fun j hj h => by
      obtain rfl | rfl | rfl | rfl | rfl | rfl | rfl | rfl | rfl | rfl : j = 0 ∨ j = 1 ∨ j = 2 ∨ j = 3 ∨ j = 4 ∨ j = 5 ∨ j = 6 ∨ j = 7 ∨ j = 8 ∨ j = 9 := by omega
      · rw [S.k0.dst] at h; cases h
      · rw [S.k1.dst] at h; cases h
      · rw [S.k2.dst] at h; cases h
      · rw [S.k3.dst] at h; cases h
      · rw [S.k4.dst] at h; cases h
      · rw [S.k5.dst] at h; cases h
      · rw [S.k6.dst] at h; cases h
      · rw [S.k7.dst] at h; cases h
      · rw [S.k8.dst] at h; cases h
      · rw [S.k9.dst] at h; cases h
    have ev16 : a.eval (.tmp 16) = .int .i64 b := (hF.old 16 (fun j hj h => absurd h (hds16 j (by rw [← S.len]; exact hj)))).trans e16
    have ev13 : listed.getD 9 false = false → a.eval (.tmp 13) = f := fun h9 => (hF.old 13 (fun j hj h => by rw [hds j (by rw [← S.len]; exact hj) h]; exact h9)).trans e13
    have h9o : ∀ j, (j = 0 ∨ j = 4) → listed.getD j false = false → listed.getD 9 false = false := fun j hj h => by
      cases h9 : listed.getD 9 false with
      | false => rfl
      | true =>
        obtain ⟨a1, a2⟩ := I.d9 h9
        rcases hj with rfl | rfl
        · rw [h] at a1; cases a1
        · rw [h] at a2; cases a2
    obtain rfl | rfl | rfl | rfl | rfl | rfl | rfl | rfl | rfl | rfl : i = 0 ∨ i = 1 ∨ i = 2 ∨ i = 3 ∨ i = 4 ∨ i = 5 ∨ i = 6 ∨ i = 7 ∨ i = 8 ∨ i = 9 := by omega
    · obtain ⟨_, hop, hd'⟩ := S.k0.is (B := fun k => listed.getD k false) ho hdep
      exact wp_mvZ hop (ev13 (h9o 0 (.inl rfl) hn)) (hK _ _ (hset _ _ (I.pure (by decide) rfl)))
    · obtain ⟨_, hop, hd'⟩ := S.k1.is (B := fun k => listed.getD k false) ho hdep
      exact wp_mvZ hop ev16 (hK _ _ (hset _ _ (I.pure (by decide) rfl)))
    · obtain ⟨_, hop, hd'⟩ := S.k2.is (B := fun k => listed.getD k false) ho hdep
      exact wp_slHiZ hop (hE 0 164 _ (by decide) S.k0.dst (hd' 0 (by simp)) rfl) (hE 1 165 _ (by decide) S.k1.dst (hd' 1 (by simp)) rfl) (hr1 w) (hK _ _ (hset _ _ (I.pure (by decide) rfl)))
    · obtain ⟨_, hop, hd'⟩ := S.k3.is (B := fun k => listed.getD k false) ho hdep
      have h8 : listed.getD 8 false = false := by
        cases h : listed.getD 8 false with
        | false => rfl
        | true => have := I.o h; rw [hn] at this; cases this
      have h9 : listed.getD 9 false = false := by
        cases h : listed.getD 9 false with
        | false => rfl
        | true => have := (I.v9 h).2; rw [h8] at this; cases this
      obtain rfl := I.w0 hn
      refine wp_appIZ wq.drew _ _ hop wq.heap.size (.slice none 0 0) [] P ad1 m1 c1 (Own.nil _ _) (hT _ hBd) rfl ((hE 2 166 _ (by decide) S.k2.dst (hd' 2 (by simp)) rfl).trans ht) (Nat.le_refl _) (by simp) hm1 ?_
      intro v' w' hO hbel
      rw [List.nil_append] at hO
      refine hK _ _ (hset _ _ ⟨I.made rfl v', (fun h => by rw [setBZ_at] at h; cases h), fun _ _ => by rw [updV_at]; exact ⟨hO, hBd.trans hbel⟩, (fun h => by rw [setBZ_ne _ (by decide), h8] at h; cases h), (fun h => by rw [setBZ_ne _ (by decide), h8] at h; cases h), (fun h => by rw [setBZ_ne _ (by decide), h9] at h; cases h), (fun h => by rw [setBZ_ne _ (by decide), h9] at h; cases h)⟩)
    · obtain ⟨_, hop, hd'⟩ := S.k4.is (B := fun k => listed.getD k false) ho hdep
      exact wp_mvZ hop (ev13 (h9o 4 (.inr rfl) hn)) (hK _ _ (hset _ _ (I.pure (by decide) rfl)))
    · obtain ⟨_, hop, hd'⟩ := S.k5.is (B := fun k => listed.getD k false) ho hdep
      exact wp_mvZ hop ev16 (hK _ _ (hset _ _ (I.pure (by decide) rfl)))
    · obtain ⟨_, hop, hd'⟩ := S.k6.is (B := fun k => listed.getD k false) ho hdep
      exact wp_addZ hop (hE 5 169 _ (by decide) S.k5.dst (hd' 5 (by simp)) rfl) hb (hK _ _ (hset _ _ (I.pure (by decide) rfl)))
    · obtain ⟨_, hop, hd'⟩ := S.k7.is (B := fun k => listed.getD k false) ho hdep
      exact wp_slLoZ hop (hE 4 168 _ (by decide) S.k4.dst (hd' 4 (by simp)) rfl) (hE 6 170 _ (by decide) S.k6.dst (hd' 6 (by simp)) rfl) (hr2 w) (hK _ _ (hset _ _ (I.pure (by decide) rfl)))
    · obtain ⟨_, hop, hd'⟩ := S.k8.is (B := fun k => listed.getD k false) ho hdep
      have h3 : listed.getD 3 false = true := hd' 3 (by simp)
      have h9 : listed.getD 9 false = false := by
        cases h : listed.getD 9 false with
        | false => rfl
        | true => have := (I.v9 h).2; rw [hn] at this; cases this
      obtain ⟨hO3, hb3⟩ := I.w3 h3 hn
      refine wp_appIZ w _ _ hop wq.heap.size (vals 3) P D ad2 m2 c2 hO3 (hD _ hb3) (hV 3 167 (by decide) S.k3.dst h3) ((hE 7 171 _ (by decide) S.k7.dst (hd' 7 (by simp)) rfl).trans hd) hb3.size hP hm2 ?_
      intro v' w' hO hbel
      refine hK _ _ (hset _ _ ⟨I.made rfl v', (fun h => by rw [setBZ_ne _ (by decide), h3] at h; cases h), (fun _ h => by rw [setBZ_at] at h; cases h), fun _ => by rw [updV_at]; exact ⟨hO, hb3.trans hbel⟩, fun _ => by rw [setBZ_ne _ (by decide)]; exact h3, (fun h => by rw [setBZ_ne _ (by decide), h9] at h; cases h), (fun h => by rw [setBZ_ne _ (by decide), h9] at h; cases h)⟩)
    · obtain ⟨_, hop, hd'⟩ := S.k9.is (B := fun k => listed.getD k false) ho hdep
      have h8 : listed.getD 8 false = true := hd' 8 (by simp)
      refine wp_asZ hop (hV 8 172 (by decide) S.k8.dst h8) (hK _ _ (hset _ _ ⟨I.made rfl _, fun h => by rw [setBZ_ne _ (by decide)] at h; exact I.w0 h, (fun h h' => by rw [setBZ_ne _ (by decide), h8] at h'; cases h'), fun _ => by rw [updV_ne _ _ _ (by decide)]; exact I.w8 h8, fun h => by rw [setBZ_ne _ (by decide)]; exact I.o h8, fun _ => ⟨by rw [updV_at, updV_ne _ _ _ (by decide)], by rw [setBZ_ne _ (by decide)]; exact h8⟩, fun _ => ⟨by rw [setBZ_ne _ (by decide)]; exact hd' 0 (by simp), by rw [setBZ_ne _ (by decide)]; exact hd' 4 (by simp)⟩⟩))
  · intro listed vals w hall I
    have hA : ∀ i, i < 10 → listed.getD i false = true := fun i hi => hall i (by rw [S.len]; exact hi)
    obtain ⟨h8, hb8⟩ := I.w8 (hA 8 (by decide))
    have := hQ (vals 3) (vals 8) w h8 hb8
    rw [S.len]
    rw [puts_congr 10 (vals' := finF f t d b (vals 3) (vals 8)) ?_]
    · simp only [putsK, S.k0.dst, S.k1.dst, S.k2.dst, S.k3.dst, S.k4.dst, S.k5.dst, S.k6.dst, S.k7.dst, S.k8.dst, S.k9.dst]
      exact this
    · intro i hi
      right
      obtain rfl | rfl | rfl | rfl | rfl | rfl | rfl | rfl | rfl | rfl : i = 0 ∨ i = 1 ∨ i = 2 ∨ i = 3 ∨ i = 4 ∨ i = 5 ∨ i = 6 ∨ i = 7 ∨ i = 8 ∨ i = 9 := by omega
      · exact I.cs 0 _ rfl (hA 0 (by decide))
      · exact I.cs 1 _ rfl (hA 1 (by decide))
      · exact I.cs 2 _ rfl (hA 2 (by decide))
      · rfl
      · exact I.cs 4 _ rfl (hA 4 (by decide))
      · exact I.cs 5 _ rfl (hA 5 (by decide))
      · exact I.cs 6 _ rfl (hA 6 (by decide))
      · exact I.cs 7 _ rfl (hA 7 (by decide))
      · rfl
      · exact (I.v9 (hA 9 (by decide))).1
end
end Go.Proofs.YtekejcnphmnidaaGreatDoor
