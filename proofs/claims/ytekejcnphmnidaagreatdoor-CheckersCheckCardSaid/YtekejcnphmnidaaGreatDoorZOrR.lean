import Derived.Test.YtekejcnphmnidaaGreatDoorZBkNode
import Derived.Test.YtekejcnphmnidaaGreatDoorZBh
import Derived.Deep.WholeRow
namespace Go.Proofs.YtekejcnphmnidaaGreatDoor
open Go.RowKit
section
variable {o : Oper} {a : Act} {w : World} {K : Act → World → Prop} {Q : Exit → Act → World → Prop} {x y : Operand}
theorem wp_fa56 {b : Nat} (ho : o.op = .fieldAddr 56 x 0) (hx : a.eval x = .pointer (some ⟨b, 0, none⟩)) (hK : K (a.put o.dst (.pointer (some ⟨b, 0, none⟩))) w) : o.wp Tryz.prog a w K Q := by
  refine wp_retZ ?_ hK
  clear hK
  generalize a.eval = ev at *
  unfold execOp; rw [ho]; simp [hx, go_sem]
theorem wp_ix22 {b p ls cs k : Nat} (ho : o.op = .indexAddr 22 x y) (hx : a.eval x = .slice (some ⟨b, p, none⟩) ls cs) (hy : a.eval y = .int .i64 (k : Int)) (hk : k < ls) (hK : K (a.put o.dst (.pointer (some ⟨b, p + k, none⟩))) w) : o.wp Tryz.prog a w K Q := by
  refine wp_retZ ?_ hK
  clear hK
  have hk2 : (k : Int) < (ls : Int) := by omega
  generalize a.eval = ev at *
  unfold execOp; rw [ho]; simp [hx, hy, hk2, go_sem]
theorem wp_ld103 {b p : Nat} {v0 v1 v2 v3 v4 : Value} (ho : o.op = .load 103 x) (hx : a.eval x = .pointer (some ⟨b, p, none⟩)) (h0 : w.cell? ⟨b, p, none⟩ = some v0) (h1 : w.cell? ⟨b, p + 1, none⟩ = some v1) (h2 : w.cell? ⟨b, p + 2, none⟩ = some v2) (h3 : w.cell? ⟨b, p + 3, none⟩ = some v3) (h4 : w.cell? ⟨b, p + 4, none⟩ = some v4)
    (hK : K (a.put o.dst (.agg #[v0, v1, v2, v3, v4])) w) : o.wp Tryz.prog a w K Q := by
  refine wp_retZ ?_ hK
  clear hK
  generalize a.eval = ev at *
  unfold execOp; rw [ho]; simp [hx, h0, h1, h2, h3, h4, go_sem]
theorem wp_alloc103 (ho : o.op = .alloc 103) (hK : K (a.put o.dst (.pointer (some ⟨w.heap.size, 0, none⟩))) (w.alloc (.cells #[.int .u8 0, .slice none 0 0, .slice none 0 0, .int .i64 0, .int .i64 0] 103))) : o.wp Tryz.prog a w K Q := by
  refine wp_retZ ?_ hK
  clear hK
  unfold execOp; rw [ho]; simp [go_sem]
theorem wp_st103 {w0 : World} {kd n pad : Int} {a1 a2 : Option Addr} {l1 c1 l2 c2 : Nat} (ho : o.op = .store 103 x y) (hw : w = w0.alloc (.cells #[.int .u8 0, .slice none 0 0, .slice none 0 0, .int .i64 0, .int .i64 0] 103)) (hx : a.eval x = .pointer (some ⟨w0.heap.size, 0, none⟩)) (hy : a.eval y = .agg #[.int .u8 kd, .slice a1 l1 c1, .slice a2 l2 c2, .int .i64 n, .int .i64 pad])
    (hK : K (a.put o.dst undef) (w0.alloc (.cells #[.int .u8 kd, .slice a1 l1 c1, .slice a2 l2 c2, .int .i64 n, .int .i64 pad] 103))) : o.wp Tryz.prog a w K Q := by
  subst hw
  obtain ⟨i0, hi0, hz0, hz1, hz2⟩ := info_parts Tryz.info103b
  have hr := run_storeAt_new (P := Tryz.prog) w0 103 #[.int .u8 0, .slice none 0 0, .slice none 0 0, .int .i64 0, .int .i64 0] #[.int .u8 kd, .slice a1 l1 c1, .slice a2 l2 c2, .int .i64 n, .int .i64 pad] (by rw [hi0]; simp [hz1]) rfl (by simp [Value.oneCell'])
  unfold Oper.wp execOp
  simp only [ho, hx, hy, Sem.run_bind, Sem.run_pure, Result.andThen_ok, hr]
  exact hK
end
structure IsNd (l : List Oper) (s0 sL sI sX : Tmp) : Prop where
  len : l.length = 10
  k0 : OpAt l 0 (some 24) (.fieldAddr 56 (.tmp s0) 0) []
  k1 : OpAt l 1 (some 25) (.load 54 (.tmp 24)) [0]
  k2 : OpAt l 2 (some 26) (.move (.tmp sL)) []
  k3 : OpAt l 3 (some 27) (.move (.tmp sI)) []
  k4 : OpAt l 4 (some 28) (.indexAddr 22 (.tmp 26) (.tmp 27)) [2, 3]
  k5 : OpAt l 5 (some 29) (.load 3 (.tmp 28)) [4]
  k6 : OpAt l 6 (some 30) (.indexAddr 54 (.tmp 25) (.tmp 29)) [1, 5]
  k7 : OpAt l 7 (some 31) (.load 103 (.tmp 30)) [6]
  k8 : OpAt l 8 (some sX) (.alloc 103) []
  k9 : OpAt l 9 none (.store 103 (.tmp sX) (.tmp 31)) [0, 1, 2, 3, 4, 5, 6, 7, 8]
def constNd (gb : Nat) (gs : Value) (ls : Value) (k : Nat) (bl pl : Nat) (n bn pn : Nat) (nd : Value) (nb : Nat) : Nat → Option Value
  | 0 => some (.pointer (some ⟨gb, 0, none⟩)) | 1 => some gs | 2 => some ls | 3 => some (.int .i64 (k : Int)) | 4 => some (.pointer (some ⟨bl, pl + k, none⟩)) | 5 => some (.int .i64 (n : Int)) | 6 => some (.pointer (some ⟨bn, pn + n * 5, none⟩)) | 7 => some nd | 8 => some (.pointer (some ⟨nb, 0, none⟩)) | _ => none
structure InvNd (w0 : World) (cst : Nat → Option Value) (xs : Array Value) (B : Nat → Bool) (vals : Nat → Value) (w : World) : Prop where
  cs : ∀ i c, cst i = some c → B i = true → vals i = c
  d9 : B 9 = true → ∀ j, j < 9 → B j = true
  w0_ : B 9 = false → B 8 = false → w = w0
  w8 : B 9 = false → B 8 = true → w = w0.alloc (.cells #[.int .u8 0, .slice none 0 0, .slice none 0 0, .int .i64 0, .int .i64 0] 103)
  w9 : B 9 = true → w = w0.alloc (.cells xs 103)
theorem InvNd.put {w0 : World} {cst : Nat → Option Value} {cs : Array Value} {B : Nat → Bool} {vals : Nat → Value} {w : World} (I : InvNd w0 cst cs B vals w) {i : Nat} (hi : i < 8) (hn : B i = false) {v : Value} (hc : cst i = some v) : InvNd w0 cst cs (setBZ B i) (updV vals i v) w := by
  have h9 : B 9 = false := by
    cases h : B 9 with
    | false => rfl
    | true => have := I.d9 h i (by omega); rw [hn] at this; cases this
  have e9 : setBZ B i 9 = B 9 := setBZ_ne B (by omega)
  have e8 : setBZ B i 8 = B 8 := setBZ_ne B (by omega)
  refine ⟨fun j x hj hb => ?_, fun h => (by rw [e9, h9] at h; cases h), fun h1 h2 => I.w0_ (by rw [← e9]; exact h1) (by rw [← e8]; exact h2), fun h1 h2 => I.w8 (by rw [← e9]; exact h1) (by rw [← e8]; exact h2), fun h => (by rw [e9, h9] at h; cases h)⟩
  by_cases e : i = j
  · subst e; rw [updV_at]; exact Option.some.inj (hc.symm.trans hj)
  · rw [updV_ne _ _ _ (Ne.symm e)]; rw [setBZ_ne B e] at hb; exact I.cs j x hj hb
theorem InvNd.world {w0 : World} {cst : Nat → Option Value} {cs : Array Value} {B : Nat → Bool} {vals : Nat → Value} {w : World} (I : InvNd w0 cst cs B vals w) : Below w0.heap.size w0 w := by
  cases h9 : B 9 with
  | true => rw [I.w9 h9]; exact (Below.refl _ _).alloc (Nat.le_refl _) _
  | false =>
    cases h8 : B 8 with
    | true => rw [I.w8 h9 h8]; exact (Below.refl _ _).alloc (Nat.le_refl _) _
    | false => rw [I.w0_ h9 h8]; exact Below.refl _ _
theorem nd_slots {ops : List Oper} {s0 sL sI sX : Tmp} (S : IsNd ops s0 sL sI sX) (u : Tmp) (h : [24, 25, 26, 27, 28, 29, 30, 31, sX].all (fun t => decide (t ≠ u)) = true) : ∀ j, j < 10 → dstAt ops j ≠ some u := by
  have hh : ∀ t, t ∈ [24, 25, 26, 27, 28, 29, 30, 31, sX] → t ≠ u := fun t ht => by simpa using List.all_eq_true.1 h t ht
  intro j hj e
  obtain rfl | rfl | rfl | rfl | rfl | rfl | rfl | rfl | rfl | rfl : j = 0 ∨ j = 1 ∨ j = 2 ∨ j = 3 ∨ j = 4 ∨ j = 5 ∨ j = 6 ∨ j = 7 ∨ j = 8 ∨ j = 9 := by omega
  · rw [S.k0.dst] at e; exact hh _ (by simp) (Option.some.inj e)
  · rw [S.k1.dst] at e; exact hh _ (by simp) (Option.some.inj e)
  · rw [S.k2.dst] at e; exact hh _ (by simp) (Option.some.inj e)
  · rw [S.k3.dst] at e; exact hh _ (by simp) (Option.some.inj e)
  · rw [S.k4.dst] at e; exact hh _ (by simp) (Option.some.inj e)
  · rw [S.k5.dst] at e; exact hh _ (by simp) (Option.some.inj e)
  · rw [S.k6.dst] at e; exact hh _ (by simp) (Option.some.inj e)
  · rw [S.k7.dst] at e; exact hh _ (by simp) (Option.some.inj e)
  · rw [S.k8.dst] at e; exact hh _ (by simp) (Option.some.inj e)
  · rw [S.k9.dst] at e; cases e
set_option maxHeartbeats 2000000 in
theorem nd_region {ops : List Oper} {s0 sL sI sX : Tmp} (S : IsNd ops s0 sL sI sX) {size : Nat} {Q : Exit → Act → World → Prop} {id : Nat} {a0 : Act} {wq : World} {gb lg cg k bl pl ll cl n bn pn : Nat} {kd nn pad : Int} {a1 a2 : Option Addr} {l1 c1 l2 c2 : Nat}
    (hsl0 : ([24, 25, 26, 27, 28, 29, 30, 31, sX].all (fun t => decide (t ≠ s0)) && [24, 25, 26, 27, 28, 29, 30, 31, sX].all (fun t => decide (t ≠ sL)) && [24, 25, 26, 27, 28, 29, 30, 31, sX].all (fun t => decide (t ≠ sI))) = true)
    (hs : a0.tmps.size = size) (hB : canonB ops size = true) (e0 : a0.eval (.tmp s0) = .pointer (some ⟨gb, 0, none⟩)) (eL : a0.eval (.tmp sL) = .slice (some ⟨bl, pl, none⟩) ll cl) (eI : a0.eval (.tmp sI) = .int .i64 (k : Int))
    (hg : wq.cell? ⟨gb, 0, none⟩ = some (.slice (some ⟨bn, pn, none⟩) lg cg)) (hk : k < ll) (hl : wq.cell? ⟨bl, pl + k, none⟩ = some (.int .i64 (n : Int))) (hn : n < lg)
    (h0 : wq.cell? ⟨bn, pn + n * 5, none⟩ = some (.int .u8 kd)) (h1 : wq.cell? ⟨bn, pn + n * 5 + 1, none⟩ = some (.slice a1 l1 c1)) (h2 : wq.cell? ⟨bn, pn + n * 5 + 2, none⟩ = some (.slice a2 l2 c2)) (h3 : wq.cell? ⟨bn, pn + n * 5 + 3, none⟩ = some (.int .i64 nn)) (h4 : wq.cell? ⟨bn, pn + n * 5 + 4, none⟩ = some (.int .i64 pad))
    (hQ : Q .normal (((((((((a0.put (some 24) (.pointer (some ⟨gb, 0, none⟩))).put (some 25) (.slice (some ⟨bn, pn, none⟩) lg cg)).put (some 26) (.slice (some ⟨bl, pl, none⟩) ll cl)).put (some 27) (.int .i64 (k : Int))).put (some 28) (.pointer (some ⟨bl, pl + k, none⟩))).put (some 29) (.int .i64 (n : Int))).put (some 30) (.pointer (some ⟨bn, pn + n * 5, none⟩))).put (some 31) (.agg #[.int .u8 kd, .slice a1 l1 c1, .slice a2 l2 c2, .int .i64 nn, .int .i64 pad])).put (some sX) (.pointer (some ⟨wq.heap.size, 0, none⟩))) (wq.drew.alloc (.cells #[.int .u8 kd, .slice a1 l1 c1, .slice a2 l2 c2, .int .i64 nn, .int .i64 pad] 103))) :
    (Code.region id ops.toArray true).wp Tryz.prog Q a0 wq := by
  have hsl : (∀ j, j < 10 → dstAt ops j ≠ some s0) ∧ (∀ j, j < 10 → dstAt ops j ≠ some sL) ∧ (∀ j, j < 10 → dstAt ops j ≠ some sI) := by
    simp only [Bool.and_eq_true] at hsl0
    exact ⟨nd_slots S s0 hsl0.1.1, nd_slots S sL hsl0.1.2, nd_slots S sI hsl0.2⟩
  have hBd : Below wq.heap.size wq wq.drew := (Below.refl _ _).drew
  obtain ⟨cst, hcst⟩ : ∃ c, c = constNd gb (.slice (some ⟨bn, pn, none⟩) lg cg) (.slice (some ⟨bl, pl, none⟩) ll cl) k bl pl n bn pn (.agg #[.int .u8 kd, .slice a1 l1 c1, .slice a2 l2 c2, .int .i64 nn, .int .i64 pad]) wq.drew.heap.size := ⟨_, rfl⟩
  refine wp_region_canon hs mixed hB (fun listed vals w => InvNd wq.drew cst #[.int .u8 kd, .slice a1 l1 c1, .slice a2 l2 c2, .int .i64 nn, .int .i64 pad] (fun k => listed.getD k false) vals w) (fun _ => undef) ?_ ?_ ?_
  · have hf : ∀ k, (Array.replicate ops.length false).getD k false = false := fun k => by
      simp only [Array.getD_eq_getD_getElem?, Array.getElem?_replicate]
      split <;> simp
    simp only [hf]
    exact ⟨(fun _ _ _ h => by cases h), (fun h => by cases h), fun _ _ => rfl, (fun _ h => by cases h), (fun h => by cases h)⟩
  · intro listed vals w a i o hz ho hnl hdep I hF K hK
    have hi : i < 10 := by rw [← S.len]; exact (List.getElem?_eq_some_iff.1 ho).1
    have hset : ∀ vals' w', InvNd wq.drew cst #[.int .u8 kd, .slice a1 l1 c1, .slice a2 l2 c2, .int .i64 nn, .int .i64 pad] (setBZ (fun k => listed.getD k false) i) vals' w' → InvNd wq.drew cst #[.int .u8 kd, .slice a1 l1 c1, .slice a2 l2 c2, .int .i64 nn, .int .i64 pad] (fun k => (listed.setIfInBounds i true).getD k false) vals' w' := fun vals' w' h => by
      have e : (fun k => (listed.setIfInBounds i true).getD k false) = setBZ (fun k => listed.getD k false) i := funext fun k => getD_set (by rw [hz, S.len]; exact hi)
      rw [e]; exact h
    have hE : ∀ j u c, j < 10 → dstAt ops j = some u → listed.getD j false = true → cst j = some c → a.eval (.tmp u) = c := fun j u c hj hd hl hc => (hF.new j u (by rw [S.len]; exact hj) hd hl).trans (I.cs j c hc hl)
    have ev0 : a.eval (.tmp s0) = .pointer (some ⟨gb, 0, none⟩) := (hF.old s0 (fun j hj h => absurd h (hsl.1 j (by rw [← S.len]; exact hj)))).trans e0
    have evL : a.eval (.tmp sL) = .slice (some ⟨bl, pl, none⟩) ll cl := (hF.old sL (fun j hj h => absurd h (hsl.2.1 j (by rw [← S.len]; exact hj)))).trans eL
    have evI : a.eval (.tmp sI) = .int .i64 (k : Int) := (hF.old sI (fun j hj h => absurd h (hsl.2.2 j (by rw [← S.len]; exact hj)))).trans eI
    have hW : Below wq.heap.size wq w := hBd.trans I.world
    have hc : ∀ {p : Addr} {v : Value}, wq.cell? p = some v → w.cell? p = some v := fun h => (hW.cell (World.block_lt_of_cell? wq _ h)).trans h
    have hP9 : ∀ j, j < 9 → listed.getD j false = false → listed.getD 9 false = false := fun j hj h => by
      cases h9 : listed.getD 9 false with
      | false => rfl
      | true => have := I.d9 h9 j hj; rw [h] at this; cases this
    obtain rfl | rfl | rfl | rfl | rfl | rfl | rfl | rfl | rfl | rfl : i = 0 ∨ i = 1 ∨ i = 2 ∨ i = 3 ∨ i = 4 ∨ i = 5 ∨ i = 6 ∨ i = 7 ∨ i = 8 ∨ i = 9 := by omega
    · obtain ⟨_, hop, hd'⟩ := S.k0.is (B := fun k => listed.getD k false) ho hdep
      exact wp_fa56 hop ev0 (hK _ _ (hset _ _ (I.put (by decide) hnl (by rw [hcst]; rfl))))
    · obtain ⟨_, hop, hd'⟩ := S.k1.is (B := fun k => listed.getD k false) ho hdep
      exact wp_ldNode hop (hE 0 24 _ (by decide) S.k0.dst (hd' 0 (by simp)) (by rw [hcst]; rfl)) (hc hg) (hK _ _ (hset _ _ (I.put (by decide) hnl (by rw [hcst]; rfl))))
    · obtain ⟨_, hop, hd'⟩ := S.k2.is (B := fun k => listed.getD k false) ho hdep
      exact wp_mvZ hop evL (hK _ _ (hset _ _ (I.put (by decide) hnl (by rw [hcst]; rfl))))
    · obtain ⟨_, hop, hd'⟩ := S.k3.is (B := fun k => listed.getD k false) ho hdep
      exact wp_mvZ hop evI (hK _ _ (hset _ _ (I.put (by decide) hnl (by rw [hcst]; rfl))))
    · obtain ⟨_, hop, hd'⟩ := S.k4.is (B := fun k => listed.getD k false) ho hdep
      exact wp_ix22 hop (hE 2 26 _ (by decide) S.k2.dst (hd' 2 (by simp)) (by rw [hcst]; rfl)) (hE 3 27 _ (by decide) S.k3.dst (hd' 3 (by simp)) (by rw [hcst]; rfl)) hk (hK _ _ (hset _ _ (I.put (by decide) hnl (by rw [hcst]; rfl))))
    · obtain ⟨_, hop, hd'⟩ := S.k5.is (B := fun k => listed.getD k false) ho hdep
      exact wp_ldnNode hop (hE 4 28 _ (by decide) S.k4.dst (hd' 4 (by simp)) (by rw [hcst]; rfl)) (hc hl) (hK _ _ (hset _ _ (I.put (by decide) hnl (by rw [hcst]; rfl))))
    · obtain ⟨_, hop, hd'⟩ := S.k6.is (B := fun k => listed.getD k false) ho hdep
      exact wp_ixNode hop (hE 1 25 _ (by decide) S.k1.dst (hd' 1 (by simp)) (by rw [hcst]; rfl)) (hE 5 29 _ (by decide) S.k5.dst (hd' 5 (by simp)) (by rw [hcst]; rfl)) hn (hK _ _ (hset _ _ (I.put (by decide) hnl (by rw [hcst]; rfl))))
    · obtain ⟨_, hop, hd'⟩ := S.k7.is (B := fun k => listed.getD k false) ho hdep
      exact wp_ld103 hop (hE 6 30 _ (by decide) S.k6.dst (hd' 6 (by simp)) (by rw [hcst]; rfl)) (hc h0) (hc h1) (hc h2) (hc h3) (hc h4) (hK _ _ (hset _ _ (I.put (by decide) hnl (by rw [hcst]; rfl))))
    · obtain ⟨_, hop, hd'⟩ := S.k8.is (B := fun k => listed.getD k false) ho hdep
      have h9 := hP9 8 (by decide) hnl
      have hw := I.w0_ h9 hnl
      have e9 : setBZ (fun k => listed.getD k false) 8 9 = false := by rw [setBZ_ne _ (by decide)]; exact h9
      refine wp_alloc103 hop (hK _ _ (hset _ _ ⟨fun j x hj hb => ?_, fun h => (by rw [e9] at h; cases h), fun _ h => (by rw [setBZ_at] at h; cases h), fun _ _ => by rw [hw], fun h => (by rw [e9] at h; cases h)⟩))
      by_cases e : (8 : Nat) = j
      · subst e; rw [updV_at, hw]; rw [hcst] at hj; exact Option.some.inj hj
      · rw [updV_ne _ _ _ (Ne.symm e)]; rw [setBZ_ne _ e] at hb; exact I.cs j x hj hb
    · obtain ⟨_, hop, hd'⟩ := S.k9.is (B := fun k => listed.getD k false) ho hdep
      have hall : ∀ j, j < 9 → listed.getD j false = true := fun j hj => hd' j (by simp only [List.mem_cons, List.not_mem_nil, or_false]; omega)
      refine wp_st103 hop (I.w8 hnl (hall 8 (by decide))) (hE 8 sX _ (by decide) S.k8.dst (hall 8 (by decide)) (by rw [hcst]; rfl)) (hE 7 31 _ (by decide) S.k7.dst (hall 7 (by decide)) (by rw [hcst]; rfl)) (hK _ _ (hset _ _ ⟨fun j x hj hb => ?_, fun _ j hj => ?_, fun h => (by rw [setBZ_at] at h; cases h), fun h => (by rw [setBZ_at] at h; cases h), fun _ => rfl⟩))
      · have e : (9 : Nat) ≠ j := fun e => by subst e; rw [hcst] at hj; cases hj
        rw [updV_ne _ _ _ (Ne.symm e)]; rw [setBZ_ne _ e] at hb; exact I.cs j x hj hb
      · rw [setBZ_ne _ (by omega)]; exact hall j hj
  · intro listed vals w hall I
    have hA : ∀ i, i < 10 → listed.getD i false = true := fun i hi => hall i (by rw [S.len]; exact hi)
    have hw := I.w9 (hA 9 (by decide))
    subst hw
    rw [S.len]
    have hnone : ∀ (a : Act) (v : Value), a.put none v = a := fun _ _ => rfl
    have q0 := I.cs 0 _ (by rw [hcst]; rfl) (hA 0 (by decide))
    have q1 := I.cs 1 _ (by rw [hcst]; rfl) (hA 1 (by decide))
    have q2 := I.cs 2 _ (by rw [hcst]; rfl) (hA 2 (by decide))
    have q3 := I.cs 3 _ (by rw [hcst]; rfl) (hA 3 (by decide))
    have q4 := I.cs 4 _ (by rw [hcst]; rfl) (hA 4 (by decide))
    have q5 := I.cs 5 _ (by rw [hcst]; rfl) (hA 5 (by decide))
    have q6 := I.cs 6 _ (by rw [hcst]; rfl) (hA 6 (by decide))
    have q7 := I.cs 7 _ (by rw [hcst]; rfl) (hA 7 (by decide))
    have q8 := I.cs 8 _ (by rw [hcst]; rfl) (hA 8 (by decide))
    simp only [putsK, S.k0.dst, S.k1.dst, S.k2.dst, S.k3.dst, S.k4.dst, S.k5.dst, S.k6.dst, S.k7.dst, S.k8.dst, S.k9.dst, hnone, q0, q1, q2, q3, q4, q5, q6, q7, q8]
    exact hQ
end Go.Proofs.YtekejcnphmnidaaGreatDoor
