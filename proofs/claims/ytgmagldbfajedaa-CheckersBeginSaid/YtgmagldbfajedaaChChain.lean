/-
  Two regions of drydocklaw23.CheckersBegin that draw their order: 'append(append(append([]api.Step(nil), l[:n+1]...), l[n]), l[n+1:]...)' and 'append(append([]api.Step(nil), l[:n]...), l[n+1:]...)': whatever order is drawn the list is that one (printed by gen_chain.py).
-/
import Derived.Test.YtgmagldbfajedaaChSteps
import Derived.Test.YtgmagldbfajedaaPlStore
namespace Go.Proofs.Ytgmagldbfajedaa
open Go.RowKit

theorem OwnL.on {base : Nat} {w w' : World} {v : Value} {l : List (Int × Int)} (h : OwnL base w v l) (hb : Below w.heap.size w w') : OwnL base w' v l := h.keep (fun k hk => hb.block k (h.lt k hk).2)
theorem StepsIn.new {w : World} {nb : Nat} {kd m : Int} (h : w.heap[nb]? = some (.cells #[.int .u8 kd, .int .i64 m] 82 (0, 0))) : StepsIn w (some ⟨nb, 0, none⟩) 1 1 [(kd, m)] := by
  refine ⟨Nat.le_refl _, by omega, rfl, fun _ => ⟨nb, 0, rfl, (Array.getElem?_eq_some_iff.1 h).1, fun i hi => ?_⟩⟩
  obtain rfl : i = 0 := by omega
  refine ⟨?_, ?_⟩ <;> (unfold World.cell?; rw [h]; rfl)
section
variable {o : Oper} {a : Act} {w : World} {K : Act → World → Prop} {Q : Exit → Act → World → Prop} {x y : Operand}
theorem wp_addE {n : Int} (ho : o.op = .binOp .add 3 x (.const (.int .i64 1)) 3) (hv : a.eval x = .int .i64 n) (hn : 0 ≤ n ∧ n ≤ 1000000) (hK : K (a.put o.dst (.int .i64 (n + 1))) w) : o.wp Try.prog a w K Q := by
  refine wp_ret ?_ hK
  clear hK
  have h1 : a.eval (.const (.int .i64 1)) = .int .i64 1 := rfl
  have hw : IntKind.i64.wrap (n + 1) = n + 1 := IntWalk.i64_in _ (by omega)
  generalize a.eval = ev at *
  unfold execOp; rw [ho]; simp [hv, h1, hw, go_sem]
theorem wp_slHi {vx vy v : Value} (ho : o.op = .slice 75 x none (some y) none) (hx : a.eval x = vx) (hy : a.eval y = vy) (hr : (Instr.slice 75 vx none (some vy) none).run Try.prog w = .ok v w) (hK : K (a.put o.dst v) w) : o.wp Try.prog a w K Q := by
  refine wp_ret ?_ hK
  clear hK
  generalize a.eval = ev at *
  unfold execOp; rw [ho]; simp [hx, hy, hr, go_sem]
theorem wp_slLo {vx vy v : Value} (ho : o.op = .slice 75 x (some y) none none) (hx : a.eval x = vx) (hy : a.eval y = vy) (hr : (Instr.slice 75 vx (some vy) none none).run Try.prog w = .ok v w) (hK : K (a.put o.dst v) w) : o.wp Try.prog a w K Q := by
  refine wp_ret ?_ hK
  clear hK
  generalize a.eval = ev at *
  unfold execOp; rw [ho]; simp [hx, hy, hr, go_sem]
theorem wp_ixE {b p ls cs k : Nat} (ho : o.op = .indexAddr 75 x y) (hx : a.eval x = .slice (some ⟨b, p, none⟩) ls cs) (hy : a.eval y = .int .i64 (k : Int)) (hk : k < ls) (hK : K (a.put o.dst (.pointer (some ⟨b, p + k * 2, none⟩))) w) : o.wp Try.prog a w K Q := by
  refine wp_ret ?_ hK
  clear hK
  have hk2 : (k : Int) < (ls : Int) := by omega
  generalize a.eval = ev at *
  unfold execOp; rw [ho]; simp [hx, hy, hk2, go_sem]
theorem wp_ldE {b p : Nat} {kd m : Int} (ho : o.op = .load 82 x) (hx : a.eval x = .pointer (some ⟨b, p, none⟩)) (h0 : w.cell? ⟨b, p, none⟩ = some (.int .u8 kd)) (h1 : w.cell? ⟨b, p + 1, none⟩ = some (.int .i64 m)) (hK : K (a.put o.dst (.agg #[.int .u8 kd, .int .i64 m])) w) : o.wp Try.prog a w K Q := by
  refine wp_ret ?_ hK
  clear hK
  generalize a.eval = ev at *
  unfold execOp; rw [ho]; simp [hx, h0, h1, go_sem]
theorem wp_bsE {kd m : Int} (ho : o.op = .buildSlice 75 1 #[(0, x)]) (hv : a.eval x = .agg #[.int .u8 kd, .int .i64 m]) (hK : K (a.put o.dst (.slice (some ⟨w.heap.size, 0, none⟩) 1 1)) (w.alloc (.cells #[.int .u8 kd, .int .i64 m] 82))) : o.wp Try.prog a w K Q := by
  refine wp_ret ?_ hK
  clear hK
  generalize a.eval = ev at *
  unfold execOp; rw [ho]; simp [hv, go_sem]
theorem wp_asE {v : Value} (ho : o.op = .assign x) (hv : a.eval x = v) (hK : K (a.put o.dst v) w) : o.wp Try.prog a w K Q := by
  refine wp_ret ?_ hK
  clear hK
  generalize a.eval = ev at *
  unfold execOp; rw [ho]; simp [hv, go_sem]
end

/-- The region's operations. -/
structure IsTw (l : List Oper) : Prop where
  len : l.length = 17
  k0 : OpAt l 0 (some 75) (.move (.tmp 10)) []
  k1 : OpAt l 1 (some 76) (.move (.tmp 12)) []
  k2 : OpAt l 2 (some 77) (.binOp .add 3 (.tmp 76) (.const (.int .i64 1)) 3) [1]
  k3 : OpAt l 3 (some 78) (.slice 75 (.tmp 75) none (some (.tmp 77)) none) [0, 2]
  k4 : OpAt l 4 (some 79) (.call { callee := .builtin .append, args := #[.const (.slice none 0 0), .tmp 78], argTypes := #[75, 75] }) [3]
  k5 : OpAt l 5 (some 80) (.move (.tmp 10)) []
  k6 : OpAt l 6 (some 81) (.move (.tmp 12)) []
  k7 : OpAt l 7 (some 82) (.indexAddr 75 (.tmp 80) (.tmp 81)) [5, 6]
  k8 : OpAt l 8 (some 83) (.load 82 (.tmp 82)) [7]
  k9 : OpAt l 9 (some 84) (.buildSlice 75 1 #[(0, .tmp 83)]) [8]
  k10 : OpAt l 10 (some 85) (.call { callee := .builtin .append, args := #[.tmp 79, .tmp 84], argTypes := #[75, 75] }) [4, 9]
  k11 : OpAt l 11 (some 86) (.move (.tmp 10)) []
  k12 : OpAt l 12 (some 87) (.move (.tmp 12)) []
  k13 : OpAt l 13 (some 88) (.binOp .add 3 (.tmp 87) (.const (.int .i64 1)) 3) [12]
  k14 : OpAt l 14 (some 89) (.slice 75 (.tmp 86) (some (.tmp 88)) none none) [11, 13]
  k15 : OpAt l 15 (some 90) (.call { callee := .builtin .append, args := #[.tmp 85, .tmp 89], argTypes := #[75, 75] }) [10, 14]
  k16 : OpAt l 16 (some 15) (.assign (.tmp 90)) [15]
/-- What the operations that make nothing leave. -/
def constTw (SL : Value) (n : Int) (TK DR PX X : Value) : Nat → Option Value
  | 0 => some SL
  | 1 => some (.int .i64 n)
  | 2 => some (.int .i64 (n + 1))
  | 3 => some TK
  | 5 => some SL
  | 6 => some (.int .i64 n)
  | 7 => some PX
  | 8 => some X
  | 11 => some SL
  | 12 => some (.int .i64 n)
  | 13 => some (.int .i64 (n + 1))
  | 14 => some DR
  | _ => none
structure InvTw (wq : World) (p q : List (Int × Int)) (kd m : Int) (SL : Value) (n : Int) (TK DR PX X : Value) (B : Nat → Bool) (vals : Nat → Value) (w : World) : Prop where
  cs : ∀ i c, constTw SL n TK DR PX X i = some c → B i = true → vals i = c
  bel : Below wq.heap.size wq w
  r10 : B 10 = true → B 4 = true
  r15 : B 15 = true → B 10 = true
  asg : B 16 = true → B 15 = true ∧ vals 16 = vals 15
  own : OwnL wq.heap.size w (pick2 (B 15) (vals 15) (pick2 (B 10) (vals 10) (pick2 (B 4) (vals 4) (.slice none 0 0)))) (pick2 (B 15) (((([] : List (Int × Int)) ++ p) ++ [(kd, m)]) ++ q) (pick2 (B 10) ((([] : List (Int × Int)) ++ p) ++ [(kd, m)]) (pick2 (B 4) (([] : List (Int × Int)) ++ p) ([] : List (Int × Int)))))
  w10 : B 10 = true → B 9 = true
  lit : B 9 = true → B 10 = false → NewS wq (.cells #[.int .u8 kd, .int .i64 m] 82 (0, 0)) (vals 9) w
section
variable {wq : World} {p q : List (Int × Int)} {kd m : Int} {SL : Value} {n : Int} {TK DR PX X : Value}
theorem InvTw.pure {B : Nat → Bool} {vals : Nat → Value} {w : World} (I : InvTw wq p q kd m SL n TK DR PX X B vals w) {i : Nat} (hi : i ≠ 4 ∧ i ≠ 10 ∧ i ≠ 15 ∧ i ≠ 9 ∧ i ≠ 16) {c : Value} (hc : constTw SL n TK DR PX X i = some c) : InvTw wq p q kd m SL n TK DR PX X (setB B i) (updV vals i c) w := by
  obtain ⟨h4, h10, h15, h9, h16⟩ := hi
  have e4 := setB_ne B h4
  have v4 := updV_ne vals i c (Ne.symm h4)
  have e10 := setB_ne B h10
  have v10 := updV_ne vals i c (Ne.symm h10)
  have e15 := setB_ne B h15
  have v15 := updV_ne vals i c (Ne.symm h15)
  have e9 := setB_ne B h9
  have v9 := updV_ne vals i c (Ne.symm h9)
  have e16 := setB_ne B h16
  have v16 := updV_ne vals i c (Ne.symm h16)
  refine ⟨fun j c' hj hb => ?_, I.bel, ?_, ?_, ?_, ?_, ?_, ?_⟩
  · by_cases e : i = j
    · subst e
      rw [updV_at]
      rw [hc] at hj; exact Option.some.inj hj
    · rw [updV_ne _ _ _ (Ne.symm e)]
      rw [setB_ne B e] at hb
      exact I.cs j c' hj hb
  · rw [e10, e4]; exact I.r10
  · rw [e15, e10]; exact I.r15
  · rw [e16, e15, v16, v15]; exact I.asg
  · rw [e4, e10, e15, v4, v10, v15]; exact I.own
  · rw [e10, e9]; exact I.w10
  · rw [e9, e10, v9]; exact I.lit
theorem tw_lo {ops : List Oper} (S : IsTw ops) {j : Nat} (hj : j < 17) {t : Nat} (ht : t = 10 ∨ t = 12) : dstAt ops j ≠ some t := by
  obtain rfl | rfl | rfl | rfl | rfl | rfl | rfl | rfl | rfl | rfl | rfl | rfl | rfl | rfl | rfl | rfl | rfl : j = 0 ∨ j = 1 ∨ j = 2 ∨ j = 3 ∨ j = 4 ∨ j = 5 ∨ j = 6 ∨ j = 7 ∨ j = 8 ∨ j = 9 ∨ j = 10 ∨ j = 11 ∨ j = 12 ∨ j = 13 ∨ j = 14 ∨ j = 15 ∨ j = 16 := by omega
  · rw [S.k0.dst]; intro e; cases e; omega
  · rw [S.k1.dst]; intro e; cases e; omega
  · rw [S.k2.dst]; intro e; cases e; omega
  · rw [S.k3.dst]; intro e; cases e; omega
  · rw [S.k4.dst]; intro e; cases e; omega
  · rw [S.k5.dst]; intro e; cases e; omega
  · rw [S.k6.dst]; intro e; cases e; omega
  · rw [S.k7.dst]; intro e; cases e; omega
  · rw [S.k8.dst]; intro e; cases e; omega
  · rw [S.k9.dst]; intro e; cases e; omega
  · rw [S.k10.dst]; intro e; cases e; omega
  · rw [S.k11.dst]; intro e; cases e; omega
  · rw [S.k12.dst]; intro e; cases e; omega
  · rw [S.k13.dst]; intro e; cases e; omega
  · rw [S.k14.dst]; intro e; cases e; omega
  · rw [S.k15.dst]; intro e; cases e; omega
  · rw [S.k16.dst]; intro e; cases e; omega
/-- What the slots hold at the end. -/
def finTw (SL : Value) (n : Int) (TK DR PX X : Value) (u4 u9 u10 u15 : Value) (i : Nat) : Value := if i = 16 then u15 else if i = 4 then u4 else if i = 9 then u9 else if i = 10 then u10 else if i = 15 then u15 else (constTw SL n TK DR PX X i).getD undef
set_option maxHeartbeats 4000000 in
theorem tw_region {ops : List Oper} (S : IsTw ops) {Q : Exit → Act → World → Prop} {id : Nat} {a0 : Act} {z : Nat} (hs : a0.tmps.size = z) (hB : canonB ops z = true) (h10 : a0.eval (.tmp 10) = SL) (h12 : a0.eval (.tmp 12) = .int .i64 n)
    (bT oT lT cT bD oD lD cD : Nat) (eT : TK = .slice (some ⟨bT, oT, none⟩) lT cT) (eD : DR = .slice (some ⟨bD, oD, none⟩) lD cD) (hT : ∀ W, Below wq.heap.size wq W → StepsIn W (some ⟨bT, oT, none⟩) lT cT p) (hD : ∀ W, Below wq.heap.size wq W → StepsIn W (some ⟨bD, oD, none⟩) lD cD q)
    (hn : 0 ≤ n ∧ n ≤ 1000000) (rT : ∀ W : World, (Instr.slice 75 SL none (some (.int .i64 (n + 1))) none).run Try.prog W = .ok TK W) (rD : ∀ W : World, (Instr.slice 75 SL (some (.int .i64 (n + 1))) none none).run Try.prog W = .ok DR W)
    (bS oS lS cS kx : Nat) (eSL : SL = .slice (some ⟨bS, oS, none⟩) lS cS) (en : n = (kx : Int)) (hkx : kx < lS) (ePX : PX = .pointer (some ⟨bS, oS + kx * 2, none⟩)) (eX : X = .agg #[.int .u8 kd, .int .i64 m]) (rL : ∀ W, Below wq.heap.size wq W → W.cell? ⟨bS, oS + kx * 2, none⟩ = some (.int .u8 kd) ∧ W.cell? ⟨bS, oS + kx * 2 + 1, none⟩ = some (.int .i64 m))
    (hlp : p.length ≤ 100000) (hlT : lT ≤ 100000) (hlD : lD ≤ 100000)
    (hQ : ∀ u4 u9 u10 u15 W, OwnL wq.heap.size W u15 (((([] : List (Int × Int)) ++ p) ++ [(kd, m)]) ++ q) → Below wq.heap.size wq W → Q .normal (putsK ops a0 (finTw SL n TK DR PX X u4 u9 u10 u15) 17) W) :
    (Code.region id ops.toArray true).wp Try.prog Q a0 wq := by
  refine wp_region_canon hs mixed hB (fun listed vals w => InvTw wq p q kd m SL n TK DR PX X (fun k => listed.getD k false) vals w) (fun _ => undef) ?_ ?_ ?_
  · have hf : ∀ k, (Array.replicate ops.length false).getD k false = false := fun k => by
      simp only [Array.getD_eq_getD_getElem?, Array.getElem?_replicate]
      split <;> simp
    simp only [hf]
    exact ⟨(fun _ _ _ h => by cases h), (Below.refl _ _).drew, fun h => (by cases h), fun h => (by cases h), fun h => (by cases h), OwnL.nil _ _, fun h => (by cases h), fun h => (by cases h)⟩
  · intro listed vals w a i o hz ho hn' hdep I hF K hK
    have hi : i < 17 := by rw [← S.len]; exact (List.getElem?_eq_some_iff.1 ho).1
    have hset' : ∀ vals' w', InvTw wq p q kd m SL n TK DR PX X (setB (fun k => listed.getD k false) i) vals' w' → InvTw wq p q kd m SL n TK DR PX X (fun k => (listed.setIfInBounds i true).getD k false) vals' w' := fun vals' w' h => by
      have e : (fun k => (listed.setIfInBounds i true).getD k false) = setB (fun k => listed.getD k false) i := funext fun k => getD_set (by rw [hz, S.len]; exact hi)
      rw [e]; exact h
    have hE' : ∀ j t c, j < 17 → dstAt ops j = some t → listed.getD j false = true → constTw SL n TK DR PX X j = some c → a.eval (.tmp t) = c := fun j t c hj hd hl hc => (hF.new j t (by rw [S.len]; exact hj) hd hl).trans (I.cs j c hc hl)
    have e10 : a.eval (.tmp 10) = SL := (hF.old 10 (fun j hj => tw_lo S (by rw [← S.len]; exact hj) (by decide))).trans h10
    have e12 : a.eval (.tmp 12) = .int .i64 n := (hF.old 12 (fun j hj => tw_lo S (by rw [← S.len]; exact hj) (by decide))).trans h12
    have hnB := hn'
    have hcs' : ∀ v, constTw SL n TK DR PX X i = none → ∀ j c, constTw SL n TK DR PX X j = some c → setB (fun k => listed.getD k false) i j = true → updV vals i v j = c := fun v hc j c hj hb => by
      have e : i ≠ j := fun e => by subst e; rw [hc] at hj; cases hj
      rw [updV_ne _ _ _ (Ne.symm e)]
      rw [setB_ne _ e] at hb
      exact I.cs j c hj hb
    generalize hBB : (fun k => listed.getD k false) = B at *
    have hb : ∀ k, listed.getD k false = B k := fun k => congrFun hBB k
    simp only [hb] at hdep hE' hnB
    have hF' : ∀ j t, j < ops.length → dstAt ops j = some t → B j = true → a.eval (.tmp t) = vals j := fun j t h1 h2 h3 => hF.new j t h1 h2 (by rw [hb]; exact h3)
    clear hn'
    obtain rfl | rfl | rfl | rfl | rfl | rfl | rfl | rfl | rfl | rfl | rfl | rfl | rfl | rfl | rfl | rfl | rfl : i = 0 ∨ i = 1 ∨ i = 2 ∨ i = 3 ∨ i = 4 ∨ i = 5 ∨ i = 6 ∨ i = 7 ∨ i = 8 ∨ i = 9 ∨ i = 10 ∨ i = 11 ∨ i = 12 ∨ i = 13 ∨ i = 14 ∨ i = 15 ∨ i = 16 := by omega
    · obtain ⟨hdst, hop, hd⟩ := S.k0.is ho hdep
      exact wp_mvE hop e10 (hK _ _ (hset' _ _ (I.pure (by decide) rfl)))
    · obtain ⟨hdst, hop, hd⟩ := S.k1.is ho hdep
      exact wp_mvE hop e12 (hK _ _ (hset' _ _ (I.pure (by decide) rfl)))
    · obtain ⟨hdst, hop, hd⟩ := S.k2.is ho hdep
      exact wp_addE hop (hE' 1 76 _ (by decide) S.k1.dst (hd 1 (by simp)) rfl) hn (hK _ _ (hset' _ _ (I.pure (by decide) rfl)))
    · obtain ⟨hdst, hop, hd⟩ := S.k3.is ho hdep
      exact wp_slHi hop (hE' 0 75 _ (by decide) S.k0.dst (hd 0 (by simp)) rfl) (hE' 2 77 _ (by decide) S.k2.dst (hd 2 (by simp)) rfl) (rT w) (hK _ _ (hset' _ _ (I.pure (by decide) rfl)))
    · obtain ⟨hdst, hop, hd⟩ := S.k4.is ho hdep
      have h10 : B 10 = false := by
        cases h : B 10 with
        | false => rfl
        | true => have := I.r10 h; rw [hnB] at this; cases this
      have h15 : B 15 = false := by
        cases h : B 15 with
        | false => rfl
        | true => have := I.r15 h; rw [h10] at this; cases this
      have h16 : B 16 = false := by
        cases h : B 16 with
        | false => rfl
        | true => have := (I.asg h).1; rw [h15] at this; cases this
      have hO := I.own
      rw [hnB, h10, h15] at hO
      simp only [pick2, Bool.false_eq_true, if_false] at hO
      have hg : o.guard = none := (canonB_at hB ho).1
      have hw : Region.wanted o (yielded ops.toArray a.tmps) = true := by simp [Region.wanted, hg]
      have := step_appLs (ops := ops.toArray) (o := o) (a := a) (K := K) (Q := Q) (E := True) wq w hg (.const (.slice none 0 0)) (.tmp 78) hop (.slice none 0 0) ([] : List (Int × Int)) p bT oT lT cT I.bel hO (hT w I.bel) rfl ((hE' 3 78 _ (by decide) S.k3.dst (hd 3 (by simp)) rfl).trans eT) (by first | (simp; done) | (simp; omega)) (by omega) (fun a' l' c' w' hO' hb' hg' => hK _ _ (hset' _ _
        ⟨hcs' _ rfl,
        hb',
        (fun h => by rw [setB_ne B (by decide), h10] at h; cases h),
        (fun h => by rw [setB_ne B (by decide), h15] at h; cases h),
        (fun h => by rw [setB_ne B (by decide), h16] at h; cases h),
        (by
          rw [setB_at, show setB B 4 10 = B 10 from setB_ne B (by decide), show setB B 4 15 = B 15 from setB_ne B (by decide), h10, h15]
          simp only [pick2, if_true, Bool.false_eq_true, if_false, updV_at]
          exact hO'),
        (fun h => by rw [setB_ne B (by decide), h10] at h; cases h),
        (fun h h' => by
          rw [setB_ne B (by decide)] at h h'
          obtain ⟨nb, m1, m2, m3⟩ := I.lit h h'
          exact ⟨nb, (by rw [updV_ne _ _ _ (by decide)]; exact m1), m2, (hg'.block nb (Array.getElem?_eq_some_iff.1 m3).1 (by simp [Value.ownBlock])).trans m3⟩)⟩))
      rw [if_pos hw] at this
      exact this
    · obtain ⟨hdst, hop, hd⟩ := S.k5.is ho hdep
      exact wp_mvE hop e10 (hK _ _ (hset' _ _ (I.pure (by decide) rfl)))
    · obtain ⟨hdst, hop, hd⟩ := S.k6.is ho hdep
      exact wp_mvE hop e12 (hK _ _ (hset' _ _ (I.pure (by decide) rfl)))
    · obtain ⟨hdst, hop, hd⟩ := S.k7.is ho hdep
      exact wp_ixE hop ((hE' 5 80 _ (by decide) S.k5.dst (hd 5 (by simp)) rfl).trans eSL) ((hE' 6 81 _ (by decide) S.k6.dst (hd 6 (by simp)) rfl).trans (congrArg _ en)) hkx (ePX ▸ (hK _ _ (hset' _ _ (I.pure (by decide) rfl))))
    · obtain ⟨hdst, hop, hd⟩ := S.k8.is ho hdep
      exact wp_ldE hop ((hE' 7 82 _ (by decide) S.k7.dst (hd 7 (by simp)) rfl).trans ePX) (rL w I.bel).1 (rL w I.bel).2 (eX ▸ (hK _ _ (hset' _ _ (I.pure (by decide) rfl))))
    · obtain ⟨hdst, hop, hd⟩ := S.k9.is ho hdep
      have h10 : B 10 = false := by
        cases h : B 10 with
        | false => rfl
        | true => have := I.w10 h; rw [hnB] at this; cases this
      refine wp_bsE hop ((hE' 8 83 _ (by decide) S.k8.dst (hd 8 (by simp)) rfl).trans eX) (hK _ _ (hset' _ _ ?_))
      have hba : Below w.heap.size w (w.alloc (.cells #[.int .u8 kd, .int .i64 m] 82)) := (Below.refl _ _).alloc (Nat.le_refl _) _
      exact ⟨hcs' _ rfl,
        I.bel.trans (hba.mono I.bel.size),
        (fun h => by rw [setB_ne B (by decide)] at h ⊢; exact I.r10 h),
        (fun h => by rw [setB_ne B (by decide)] at h ⊢; exact I.r15 h),
        (fun h => by rw [setB_ne B (by decide)] at h ⊢; rw [updV_ne _ _ _ (by decide), updV_ne _ _ _ (by decide)]; exact I.asg h),
        (by
        rw [show setB B 9 4 = B 4 from setB_ne B (by decide), show setB B 9 10 = B 10 from setB_ne B (by decide), show setB B 9 15 = B 15 from setB_ne B (by decide), show updV vals 9 (.slice (some ⟨w.heap.size, 0, none⟩) 1 1) 4 = vals 4 from updV_ne _ _ _ (by decide), show updV vals 9 (.slice (some ⟨w.heap.size, 0, none⟩) 1 1) 10 = vals 10 from updV_ne _ _ _ (by decide), show updV vals 9 (.slice (some ⟨w.heap.size, 0, none⟩) 1 1) 15 = vals 15 from updV_ne _ _ _ (by decide)]
        exact I.own.on hba),
        (fun h => by rw [setB_ne B (by decide), h10] at h; cases h),
        (fun _ _ => ⟨w.heap.size, updV_at _ _ _, I.bel.size, heap_alloc_new _ _⟩)⟩
    · obtain ⟨hdst, hop, hd⟩ := S.k10.is ho hdep
      have h15 : B 15 = false := by
        cases h : B 15 with
        | false => rfl
        | true => have := I.r15 h; rw [hnB] at this; cases this
      have h16 : B 16 = false := by
        cases h : B 16 with
        | false => rfl
        | true => have := (I.asg h).1; rw [h15] at this; cases this
      have h4 : B 4 = true := hd 4 (by simp)
      have hO := I.own
      rw [hnB, h4, h15] at hO
      simp only [pick2, if_true, Bool.false_eq_true, if_false] at hO
      have hg : o.guard = none := (canonB_at hB ho).1
      have hw : Region.wanted o (yielded ops.toArray a.tmps) = true := by simp [Region.wanted, hg]
      obtain ⟨nb, n1, n2, n3⟩ := I.lit (hd 9 (by simp)) hnB
      have := step_appLs (ops := ops.toArray) (o := o) (a := a) (K := K) (Q := Q) (E := True) wq w hg (.tmp 79) (.tmp 84) hop (vals 4) (([] : List (Int × Int)) ++ p) [(kd, m)] nb 0 1 1 I.bel hO (StepsIn.new n3) (hF' 4 79 (by rw [S.len]; omega) S.k4.dst (hd 4 (by simp))) ((hF' 9 84 (by rw [S.len]; omega) S.k9.dst (hd 9 (by simp))).trans n1) (by first | (simp; done) | (simp; omega)) (by omega) (fun a' l' c' w' hO' hb' hg' => hK _ _ (hset' _ _
        ⟨hcs' _ rfl,
        hb',
        (fun _ => by rw [setB_ne B (by decide)]; exact h4),
        (fun h => by rw [setB_ne B (by decide), h15] at h; cases h),
        (fun h => by rw [setB_ne B (by decide), h16] at h; cases h),
        (by
          rw [setB_at, show setB B 10 4 = B 4 from setB_ne B (by decide), show setB B 10 15 = B 15 from setB_ne B (by decide), h4, h15]
          simp only [pick2, if_true, Bool.false_eq_true, if_false, updV_at]
          exact hO'),
        (fun _ => by rw [setB_ne B (by decide)]; exact hd 9 (by simp)),
        (fun _ h' => by rw [setB_at] at h'; cases h')⟩))
      rw [if_pos hw] at this
      exact this
    · obtain ⟨hdst, hop, hd⟩ := S.k11.is ho hdep
      exact wp_mvE hop e10 (hK _ _ (hset' _ _ (I.pure (by decide) rfl)))
    · obtain ⟨hdst, hop, hd⟩ := S.k12.is ho hdep
      exact wp_mvE hop e12 (hK _ _ (hset' _ _ (I.pure (by decide) rfl)))
    · obtain ⟨hdst, hop, hd⟩ := S.k13.is ho hdep
      exact wp_addE hop (hE' 12 87 _ (by decide) S.k12.dst (hd 12 (by simp)) rfl) hn (hK _ _ (hset' _ _ (I.pure (by decide) rfl)))
    · obtain ⟨hdst, hop, hd⟩ := S.k14.is ho hdep
      exact wp_slLo hop (hE' 11 86 _ (by decide) S.k11.dst (hd 11 (by simp)) rfl) (hE' 13 88 _ (by decide) S.k13.dst (hd 13 (by simp)) rfl) (rD w) (hK _ _ (hset' _ _ (I.pure (by decide) rfl)))
    · obtain ⟨hdst, hop, hd⟩ := S.k15.is ho hdep
      have h16 : B 16 = false := by
        cases h : B 16 with
        | false => rfl
        | true => have := (I.asg h).1; rw [hnB] at this; cases this
      have h10 : B 10 = true := hd 10 (by simp)
      have h4 : B 4 = true := I.r10 h10
      have hO := I.own
      rw [hnB, h4, h10] at hO
      simp only [pick2, if_true, Bool.false_eq_true, if_false] at hO
      have hg : o.guard = none := (canonB_at hB ho).1
      have hw : Region.wanted o (yielded ops.toArray a.tmps) = true := by simp [Region.wanted, hg]
      have := step_appLs (ops := ops.toArray) (o := o) (a := a) (K := K) (Q := Q) (E := True) wq w hg (.tmp 85) (.tmp 89) hop (vals 10) ((([] : List (Int × Int)) ++ p) ++ [(kd, m)]) q bD oD lD cD I.bel hO (hD w I.bel) (hF' 10 85 (by rw [S.len]; omega) S.k10.dst (hd 10 (by simp))) ((hE' 14 89 _ (by decide) S.k14.dst (hd 14 (by simp)) rfl).trans eD) (by first | (simp; done) | (simp; omega)) (by omega) (fun a' l' c' w' hO' hb' hg' => hK _ _ (hset' _ _
        ⟨hcs' _ rfl,
        hb',
        (fun h => by rw [setB_ne B (by decide)] at h ⊢; exact I.r10 h),
        (fun _ => by rw [setB_ne B (by decide)]; exact h10),
        (fun h => by rw [setB_ne B (by decide), h16] at h; cases h),
        (by
          rw [setB_at, show setB B 15 4 = B 4 from setB_ne B (by decide), show setB B 15 10 = B 10 from setB_ne B (by decide), h4, h10]
          simp only [pick2, if_true, updV_at]
          exact hO'),
        (fun h => by rw [setB_ne B (by decide)] at h ⊢; exact I.w10 h),
        (fun _ h' => by rw [setB_ne B (by decide), h10] at h'; cases h')⟩))
      rw [if_pos hw] at this
      exact this
    · obtain ⟨hdst, hop, hd⟩ := S.k16.is ho hdep
      have h15 : B 15 = true := hd 15 (by simp)
      refine wp_asE hop (hF' 15 90 (by rw [S.len]; omega) S.k15.dst (hd 15 (by simp))) (hK _ _ (hset' _ _ ?_))
      exact ⟨hcs' _ rfl,
        I.bel,
        (fun h => by rw [setB_ne B (by decide)] at h ⊢; exact I.r10 h),
        (fun h => by rw [setB_ne B (by decide)] at h ⊢; exact I.r15 h),
        (fun _ => by rw [setB_ne B (by decide), updV_at, updV_ne _ _ _ (by decide)]; exact ⟨h15, rfl⟩),
        (by
        rw [show setB B 16 4 = B 4 from setB_ne B (by decide), show setB B 16 10 = B 10 from setB_ne B (by decide), show setB B 16 15 = B 15 from setB_ne B (by decide), show updV vals 16 (vals 15) 4 = vals 4 from updV_ne _ _ _ (by decide), show updV vals 16 (vals 15) 10 = vals 10 from updV_ne _ _ _ (by decide), show updV vals 16 (vals 15) 15 = vals 15 from updV_ne _ _ _ (by decide)]
        exact I.own),
        (fun h => by rw [setB_ne B (by decide)] at h ⊢; exact I.w10 h),
        (fun h h' => by rw [setB_ne B (by decide)] at h h'; rw [updV_ne _ _ _ (by decide)]; exact I.lit h h')⟩
  · intro listed vals w hall I
    have h := fun k (hk : k < 17) => hall k (by rw [S.len]; exact hk)
    have hO := I.own
    simp only [h 4 (by decide), h 10 (by decide), h 15 (by decide)] at hO
    simp only [pick2, if_true] at hO
    have := hQ (vals 4) (vals 9) (vals 10) (vals 15) w hO I.bel
    rw [S.len]
    rw [puts_congr (vals' := finTw SL n TK DR PX X (vals 4) (vals 9) (vals 10) (vals 15)) 17 (fun i hi => ?_)]
    · exact this
    · right
      by_cases c4 : i = 4
      · subst c4; rfl
      by_cases c9 : i = 9
      · subst c9; rfl
      by_cases c10 : i = 10
      · subst c10; rfl
      by_cases c15 : i = 15
      · subst c15; rfl
      by_cases c16 : i = 16
      · subst c16; exact (I.asg (h 16 (by decide))).2
      unfold finTw
      rw [if_neg c16, if_neg c4, if_neg c9, if_neg c10, if_neg c15]
      obtain ⟨c, hc⟩ : ∃ c, constTw SL n TK DR PX X i = some c := by
        obtain rfl | rfl | rfl | rfl | rfl | rfl | rfl | rfl | rfl | rfl | rfl | rfl : i = 0 ∨ i = 1 ∨ i = 2 ∨ i = 3 ∨ i = 5 ∨ i = 6 ∨ i = 7 ∨ i = 8 ∨ i = 11 ∨ i = 12 ∨ i = 13 ∨ i = 14 := by omega
        all_goals exact ⟨_, rfl⟩
      rw [hc, I.cs i c hc (h i hi)]; rfl
end

/-- The region's operations. -/
structure IsLs (l : List Oper) : Prop where
  len : l.length = 10
  k0 : OpAt l 0 (some 105) (.move (.tmp 10)) []
  k1 : OpAt l 1 (some 106) (.move (.tmp 12)) []
  k2 : OpAt l 2 (some 107) (.slice 75 (.tmp 105) none (some (.tmp 106)) none) [0, 1]
  k3 : OpAt l 3 (some 108) (.call { callee := .builtin .append, args := #[.const (.slice none 0 0), .tmp 107], argTypes := #[75, 75] }) [2]
  k4 : OpAt l 4 (some 109) (.move (.tmp 10)) []
  k5 : OpAt l 5 (some 110) (.move (.tmp 12)) []
  k6 : OpAt l 6 (some 111) (.binOp .add 3 (.tmp 110) (.const (.int .i64 1)) 3) [5]
  k7 : OpAt l 7 (some 112) (.slice 75 (.tmp 109) (some (.tmp 111)) none none) [4, 6]
  k8 : OpAt l 8 (some 113) (.call { callee := .builtin .append, args := #[.tmp 108, .tmp 112], argTypes := #[75, 75] }) [3, 7]
  k9 : OpAt l 9 (some 18) (.assign (.tmp 113)) [8]
/-- What the operations that make nothing leave. -/
def constLs (SL : Value) (n : Int) (TK DR _ _ : Value) : Nat → Option Value
  | 0 => some SL
  | 1 => some (.int .i64 n)
  | 2 => some TK
  | 4 => some SL
  | 5 => some (.int .i64 n)
  | 6 => some (.int .i64 (n + 1))
  | 7 => some DR
  | _ => none
structure InvLs (wq : World) (p q : List (Int × Int)) (kd m : Int) (SL : Value) (n : Int) (TK DR PX X : Value) (B : Nat → Bool) (vals : Nat → Value) (w : World) : Prop where
  cs : ∀ i c, constLs SL n TK DR PX X i = some c → B i = true → vals i = c
  bel : Below wq.heap.size wq w
  r8 : B 8 = true → B 3 = true
  asg : B 9 = true → B 8 = true ∧ vals 9 = vals 8
  own : OwnL wq.heap.size w (pick2 (B 8) (vals 8) (pick2 (B 3) (vals 3) (.slice none 0 0))) (pick2 (B 8) ((([] : List (Int × Int)) ++ p) ++ q) (pick2 (B 3) (([] : List (Int × Int)) ++ p) ([] : List (Int × Int))))
section
variable {wq : World} {p q : List (Int × Int)} {kd m : Int} {SL : Value} {n : Int} {TK DR PX X : Value}
theorem InvLs.pure {B : Nat → Bool} {vals : Nat → Value} {w : World} (I : InvLs wq p q kd m SL n TK DR PX X B vals w) {i : Nat} (hi : i ≠ 3 ∧ i ≠ 8 ∧ i ≠ 9) {c : Value} (hc : constLs SL n TK DR PX X i = some c) : InvLs wq p q kd m SL n TK DR PX X (setB B i) (updV vals i c) w := by
  obtain ⟨h3, h8, h9⟩ := hi
  have e3 := setB_ne B h3
  have v3 := updV_ne vals i c (Ne.symm h3)
  have e8 := setB_ne B h8
  have v8 := updV_ne vals i c (Ne.symm h8)
  have e9 := setB_ne B h9
  have v9 := updV_ne vals i c (Ne.symm h9)
  refine ⟨fun j c' hj hb => ?_, I.bel, ?_, ?_, ?_⟩
  · by_cases e : i = j
    · subst e
      rw [updV_at]
      rw [hc] at hj; exact Option.some.inj hj
    · rw [updV_ne _ _ _ (Ne.symm e)]
      rw [setB_ne B e] at hb
      exact I.cs j c' hj hb
  · rw [e8, e3]; exact I.r8
  · rw [e9, e8, v9, v8]; exact I.asg
  · rw [e3, e8, v3, v8]; exact I.own
theorem ls_lo {ops : List Oper} (S : IsLs ops) {j : Nat} (hj : j < 10) {t : Nat} (ht : t = 10 ∨ t = 12) : dstAt ops j ≠ some t := by
  obtain rfl | rfl | rfl | rfl | rfl | rfl | rfl | rfl | rfl | rfl : j = 0 ∨ j = 1 ∨ j = 2 ∨ j = 3 ∨ j = 4 ∨ j = 5 ∨ j = 6 ∨ j = 7 ∨ j = 8 ∨ j = 9 := by omega
  · rw [S.k0.dst]; intro e; cases e; omega
  · rw [S.k1.dst]; intro e; cases e; omega
  · rw [S.k2.dst]; intro e; cases e; omega
  · rw [S.k3.dst]; intro e; cases e; omega
  · rw [S.k4.dst]; intro e; cases e; omega
  · rw [S.k5.dst]; intro e; cases e; omega
  · rw [S.k6.dst]; intro e; cases e; omega
  · rw [S.k7.dst]; intro e; cases e; omega
  · rw [S.k8.dst]; intro e; cases e; omega
  · rw [S.k9.dst]; intro e; cases e; omega
/-- What the slots hold at the end. -/
def finLs (SL : Value) (n : Int) (TK DR PX X : Value) (u3 u8 : Value) (i : Nat) : Value := if i = 9 then u8 else if i = 3 then u3 else if i = 8 then u8 else (constLs SL n TK DR PX X i).getD undef
set_option maxHeartbeats 4000000 in
theorem ls_region {ops : List Oper} (S : IsLs ops) {Q : Exit → Act → World → Prop} {id : Nat} {a0 : Act} {z : Nat} (hs : a0.tmps.size = z) (hB : canonB ops z = true) (h10 : a0.eval (.tmp 10) = SL) (h12 : a0.eval (.tmp 12) = .int .i64 n)
    (bT oT lT cT bD oD lD cD : Nat) (eT : TK = .slice (some ⟨bT, oT, none⟩) lT cT) (eD : DR = .slice (some ⟨bD, oD, none⟩) lD cD) (hT : ∀ W, Below wq.heap.size wq W → StepsIn W (some ⟨bT, oT, none⟩) lT cT p) (hD : ∀ W, Below wq.heap.size wq W → StepsIn W (some ⟨bD, oD, none⟩) lD cD q)
    (hn : 0 ≤ n ∧ n ≤ 1000000) (rT : ∀ W : World, (Instr.slice 75 SL none (some (.int .i64 n)) none).run Try.prog W = .ok TK W) (rD : ∀ W : World, (Instr.slice 75 SL (some (.int .i64 (n + 1))) none none).run Try.prog W = .ok DR W)
    (hlp : p.length ≤ 100000) (hlT : lT ≤ 100000) (hlD : lD ≤ 100000)
    (hQ : ∀ u3 u8 W, OwnL wq.heap.size W u8 ((([] : List (Int × Int)) ++ p) ++ q) → Below wq.heap.size wq W → Q .normal (putsK ops a0 (finLs SL n TK DR PX X u3 u8) 10) W) :
    (Code.region id ops.toArray true).wp Try.prog Q a0 wq := by
  refine wp_region_canon hs mixed hB (fun listed vals w => InvLs wq p q 0 0 SL n TK DR PX X (fun k => listed.getD k false) vals w) (fun _ => undef) ?_ ?_ ?_
  · have hf : ∀ k, (Array.replicate ops.length false).getD k false = false := fun k => by
      simp only [Array.getD_eq_getD_getElem?, Array.getElem?_replicate]
      split <;> simp
    simp only [hf]
    exact ⟨(fun _ _ _ h => by cases h), (Below.refl _ _).drew, fun h => (by cases h), fun h => (by cases h), OwnL.nil _ _⟩
  · intro listed vals w a i o hz ho hn' hdep I hF K hK
    have hi : i < 10 := by rw [← S.len]; exact (List.getElem?_eq_some_iff.1 ho).1
    have hset' : ∀ vals' w', InvLs wq p q 0 0 SL n TK DR PX X (setB (fun k => listed.getD k false) i) vals' w' → InvLs wq p q 0 0 SL n TK DR PX X (fun k => (listed.setIfInBounds i true).getD k false) vals' w' := fun vals' w' h => by
      have e : (fun k => (listed.setIfInBounds i true).getD k false) = setB (fun k => listed.getD k false) i := funext fun k => getD_set (by rw [hz, S.len]; exact hi)
      rw [e]; exact h
    have hE' : ∀ j t c, j < 10 → dstAt ops j = some t → listed.getD j false = true → constLs SL n TK DR PX X j = some c → a.eval (.tmp t) = c := fun j t c hj hd hl hc => (hF.new j t (by rw [S.len]; exact hj) hd hl).trans (I.cs j c hc hl)
    have e10 : a.eval (.tmp 10) = SL := (hF.old 10 (fun j hj => ls_lo S (by rw [← S.len]; exact hj) (by decide))).trans h10
    have e12 : a.eval (.tmp 12) = .int .i64 n := (hF.old 12 (fun j hj => ls_lo S (by rw [← S.len]; exact hj) (by decide))).trans h12
    have hnB := hn'
    have hcs' : ∀ v, constLs SL n TK DR PX X i = none → ∀ j c, constLs SL n TK DR PX X j = some c → setB (fun k => listed.getD k false) i j = true → updV vals i v j = c := fun v hc j c hj hb => by
      have e : i ≠ j := fun e => by subst e; rw [hc] at hj; cases hj
      rw [updV_ne _ _ _ (Ne.symm e)]
      rw [setB_ne _ e] at hb
      exact I.cs j c hj hb
    generalize hBB : (fun k => listed.getD k false) = B at *
    have hb : ∀ k, listed.getD k false = B k := fun k => congrFun hBB k
    simp only [hb] at hdep hE' hnB
    have hF' : ∀ j t, j < ops.length → dstAt ops j = some t → B j = true → a.eval (.tmp t) = vals j := fun j t h1 h2 h3 => hF.new j t h1 h2 (by rw [hb]; exact h3)
    clear hn'
    obtain rfl | rfl | rfl | rfl | rfl | rfl | rfl | rfl | rfl | rfl : i = 0 ∨ i = 1 ∨ i = 2 ∨ i = 3 ∨ i = 4 ∨ i = 5 ∨ i = 6 ∨ i = 7 ∨ i = 8 ∨ i = 9 := by omega
    · obtain ⟨hdst, hop, hd⟩ := S.k0.is ho hdep
      exact wp_mvE hop e10 (hK _ _ (hset' _ _ (I.pure (by decide) rfl)))
    · obtain ⟨hdst, hop, hd⟩ := S.k1.is ho hdep
      exact wp_mvE hop e12 (hK _ _ (hset' _ _ (I.pure (by decide) rfl)))
    · obtain ⟨hdst, hop, hd⟩ := S.k2.is ho hdep
      exact wp_slHi hop (hE' 0 105 _ (by decide) S.k0.dst (hd 0 (by simp)) rfl) (hE' 1 106 _ (by decide) S.k1.dst (hd 1 (by simp)) rfl) (rT w) (hK _ _ (hset' _ _ (I.pure (by decide) rfl)))
    · obtain ⟨hdst, hop, hd⟩ := S.k3.is ho hdep
      have h8 : B 8 = false := by
        cases h : B 8 with
        | false => rfl
        | true => have := I.r8 h; rw [hnB] at this; cases this
      have h9 : B 9 = false := by
        cases h : B 9 with
        | false => rfl
        | true => have := (I.asg h).1; rw [h8] at this; cases this
      have hO := I.own
      rw [hnB, h8] at hO
      simp only [pick2, Bool.false_eq_true, if_false] at hO
      have hg : o.guard = none := (canonB_at hB ho).1
      have hw : Region.wanted o (yielded ops.toArray a.tmps) = true := by simp [Region.wanted, hg]
      have := step_appLs (ops := ops.toArray) (o := o) (a := a) (K := K) (Q := Q) (E := True) wq w hg (.const (.slice none 0 0)) (.tmp 107) hop (.slice none 0 0) ([] : List (Int × Int)) p bT oT lT cT I.bel hO (hT w I.bel) rfl ((hE' 2 107 _ (by decide) S.k2.dst (hd 2 (by simp)) rfl).trans eT) (by first | (simp; done) | (simp; omega)) (by omega) (fun a' l' c' w' hO' hb' hg' => hK _ _ (hset' _ _
        ⟨hcs' _ rfl,
        hb',
        (fun h => by rw [setB_ne B (by decide), h8] at h; cases h),
        (fun h => by rw [setB_ne B (by decide), h9] at h; cases h),
        (by
          rw [setB_at, show setB B 3 8 = B 8 from setB_ne B (by decide), h8]
          simp only [pick2, if_true, Bool.false_eq_true, if_false, updV_at]
          exact hO')⟩))
      rw [if_pos hw] at this
      exact this
    · obtain ⟨hdst, hop, hd⟩ := S.k4.is ho hdep
      exact wp_mvE hop e10 (hK _ _ (hset' _ _ (I.pure (by decide) rfl)))
    · obtain ⟨hdst, hop, hd⟩ := S.k5.is ho hdep
      exact wp_mvE hop e12 (hK _ _ (hset' _ _ (I.pure (by decide) rfl)))
    · obtain ⟨hdst, hop, hd⟩ := S.k6.is ho hdep
      exact wp_addE hop (hE' 5 110 _ (by decide) S.k5.dst (hd 5 (by simp)) rfl) hn (hK _ _ (hset' _ _ (I.pure (by decide) rfl)))
    · obtain ⟨hdst, hop, hd⟩ := S.k7.is ho hdep
      exact wp_slLo hop (hE' 4 109 _ (by decide) S.k4.dst (hd 4 (by simp)) rfl) (hE' 6 111 _ (by decide) S.k6.dst (hd 6 (by simp)) rfl) (rD w) (hK _ _ (hset' _ _ (I.pure (by decide) rfl)))
    · obtain ⟨hdst, hop, hd⟩ := S.k8.is ho hdep
      have h9 : B 9 = false := by
        cases h : B 9 with
        | false => rfl
        | true => have := (I.asg h).1; rw [hnB] at this; cases this
      have h3 : B 3 = true := hd 3 (by simp)
      have hO := I.own
      rw [hnB, h3] at hO
      simp only [pick2, if_true, Bool.false_eq_true, if_false] at hO
      have hg : o.guard = none := (canonB_at hB ho).1
      have hw : Region.wanted o (yielded ops.toArray a.tmps) = true := by simp [Region.wanted, hg]
      have := step_appLs (ops := ops.toArray) (o := o) (a := a) (K := K) (Q := Q) (E := True) wq w hg (.tmp 108) (.tmp 112) hop (vals 3) (([] : List (Int × Int)) ++ p) q bD oD lD cD I.bel hO (hD w I.bel) (hF' 3 108 (by rw [S.len]; omega) S.k3.dst (hd 3 (by simp))) ((hE' 7 112 _ (by decide) S.k7.dst (hd 7 (by simp)) rfl).trans eD) (by first | (simp; done) | (simp; omega)) (by omega) (fun a' l' c' w' hO' hb' hg' => hK _ _ (hset' _ _
        ⟨hcs' _ rfl,
        hb',
        (fun _ => by rw [setB_ne B (by decide)]; exact h3),
        (fun h => by rw [setB_ne B (by decide), h9] at h; cases h),
        (by
          rw [setB_at, show setB B 8 3 = B 3 from setB_ne B (by decide), h3]
          simp only [pick2, if_true, updV_at]
          exact hO')⟩))
      rw [if_pos hw] at this
      exact this
    · obtain ⟨hdst, hop, hd⟩ := S.k9.is ho hdep
      have h8 : B 8 = true := hd 8 (by simp)
      refine wp_asE hop (hF' 8 113 (by rw [S.len]; omega) S.k8.dst (hd 8 (by simp))) (hK _ _ (hset' _ _ ?_))
      exact ⟨hcs' _ rfl,
        I.bel,
        (fun h => by rw [setB_ne B (by decide)] at h ⊢; exact I.r8 h),
        (fun _ => by rw [setB_ne B (by decide), updV_at, updV_ne _ _ _ (by decide)]; exact ⟨h8, rfl⟩),
        (by
        rw [show setB B 9 3 = B 3 from setB_ne B (by decide), show setB B 9 8 = B 8 from setB_ne B (by decide), show updV vals 9 (vals 8) 3 = vals 3 from updV_ne _ _ _ (by decide), show updV vals 9 (vals 8) 8 = vals 8 from updV_ne _ _ _ (by decide)]
        exact I.own)⟩
  · intro listed vals w hall I
    have h := fun k (hk : k < 10) => hall k (by rw [S.len]; exact hk)
    have hO := I.own
    simp only [h 3 (by decide), h 8 (by decide)] at hO
    simp only [pick2, if_true] at hO
    have := hQ (vals 3) (vals 8) w hO I.bel
    rw [S.len]
    rw [puts_congr (vals' := finLs SL n TK DR PX X (vals 3) (vals 8)) 10 (fun i hi => ?_)]
    · exact this
    · right
      by_cases c3 : i = 3
      · subst c3; rfl
      by_cases c8 : i = 8
      · subst c8; rfl
      by_cases c9 : i = 9
      · subst c9; exact (I.asg (h 9 (by decide))).2
      unfold finLs
      rw [if_neg c9, if_neg c3, if_neg c8]
      obtain ⟨c, hc⟩ : ∃ c, constLs SL n TK DR PX X i = some c := by
        obtain rfl | rfl | rfl | rfl | rfl | rfl | rfl : i = 0 ∨ i = 1 ∨ i = 2 ∨ i = 4 ∨ i = 5 ∨ i = 6 ∨ i = 7 := by omega
        all_goals exact ⟨_, rfl⟩
      rw [hc, I.cs i c hc (h i hi)]; rfl
end
end Go.Proofs.Ytgmagldbfajedaa
