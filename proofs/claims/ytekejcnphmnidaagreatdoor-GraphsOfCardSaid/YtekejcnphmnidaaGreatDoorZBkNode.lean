import Derived.Test.YtekejcnphmnidaaGreatDoorZBkM
import Derived.Deep.RegionLaw
import Derived.Deep.RegionHeld3
import Derived.Deep.AppendLies
import Derived.ArgAppend
import Derived.Lib.QuietBelow
namespace Go.Proofs.YtekejcnphmnidaaGreatDoor
open Go.RowKit
theorem Tryz.underlying42 : Tryz.prog.underlying 42 = some (.slice 174) := by kernel_rfl
theorem Tryz.info174 : (Tryz.prog.info? 174).map (fun i => (i.zero, i.size, i.bytes)) = some (some (.agg #[.slice none 0 0, .slice none 0 0, .int .i64 0]), 3, 56) := by kernel_rfl
theorem step_appNode {ops : Array Oper} {o : Oper} {a : Act} {K : Act → World → Prop} {Q : Exit → Act → World → Prop} {E : Prop} (W : World) (hgd : o.guard = none) (s t : Operand)
    (ho : o.op = .call { callee := .builtin .append, args := #[s, t], argTypes := #[42, 42] }) (base : Nat) (vA : Value) (m : Nat) (h : Nat → Held) (x : Held) (ax : Option Addr) (lx cx : Nat) (b : Nat)
    (hx : x.v = .slice ax lx cx) (hxl : x.lg = .slice none 0 0) (hown : Arr 174 base W vA m h) (hs : a.eval s = vA) (ht : a.eval t = .slice (some ⟨b, 0, none⟩) 1 1)
    (hnew : W.heap[b]? = some (.cells #[.slice ax lx cx, .slice none 0 0, .int .i64 x.num] 174 (0, 0))) (hb : base ≤ W.heap.size) (hlen : m ≤ 1000000)
    (hK : ∀ v' w', Arr 174 base w' v' (m + 1) (fun j => if j = m then x else h j) → W.grownBy w' vA.ownBlock → (v'.ownBlock = vA.ownBlock ∨ ∃ k, v'.ownBlock = some k ∧ W.heap.size ≤ k) → K (a.put o.dst v') w') :
    if Region.wanted o (yielded ops a.tmps) = true then Oper.wp Tryz.prog o a W K Q else E := by
  obtain ⟨i0, hi, hz0, hz1, hz2⟩ := info_parts Tryz.info174
  obtain ⟨vs, hrow, hvs⟩ := hown
  have hw : Region.wanted o (yielded ops a.tmps) = true := by simp [Region.wanted, hgd]
  rw [if_pos hw]
  obtain ⟨v', w', hr, hown', hgrow, _, hob⟩ := run_append_own_at (P := Tryz.prog) W base 42 o.type 174 i0 _ 3 56 Tryz.underlying42 hi hz0 hz1 hz2 rfl (by decide) vA m vs hrow ⟨b, 0, none⟩ 1 1 [.slice ax lx cx, .slice none 0 0, .int .i64 x.num] rfl (by
    intro j u hj
    match j, hj with
    | 0, hj => simp at hj; subst hj; simp [Addr.add, World.cell?, hnew]
    | 1, hj => simp at hj; subst hj; simp [Addr.add, World.cell?, hnew]
    | 2, hj => simp at hj; subst hj; simp [Addr.add, World.cell?, hnew]) (by
    intro u hu
    simp only [List.mem_cons, List.not_mem_nil, or_false] at hu
    rcases hu with rfl | rfl | rfl <;> rfl) (by unfold maxLen; omega) (by omega) hb
  unfold Oper.wp execOp
  simp only [ho, resolve, invoke, builtin, Sem.run_bind, Sem.run_pure, Result.andThen_ok, List.map_toArray, List.map_cons, List.map_nil, hs, ht, hr]
  refine hK v' w' ⟨vs ++ [.slice ax lx cx, .slice none 0 0, .int .i64 x.num], hown', fun i hil => ?_⟩ hgrow (hob.imp_right fun e => ⟨_, e, Nat.le_refl _⟩)
  have hvl : vs.length = m * 3 := hrow.1
  by_cases hlt : i < m
  · obtain ⟨e0, e1, e2⟩ := hvs i hlt
    simp only [if_neg (show ¬ i = m by omega)]
    refine ⟨?_, ?_, ?_⟩ <;> (rw [List.getElem?_append_left (by omega)]; assumption)
  · obtain rfl : i = m := by omega
    simp only [if_true, hx, hxl]
    refine ⟨?_, ?_, ?_⟩ <;> (rw [List.getElem?_append_right (by omega), hvl]; simp [Nat.add_sub_cancel_left])
set_option maxHeartbeats 1000000 in
set_option maxRecDepth 100000 in
theorem keepNode_any (w : World) (B : Nat) (f : Nat → Value) (n : Int) (base m : Nat) (h : Nat → Held) (x : Held) (ax : Option Addr) (lx cx : Nat) (H : Bk w B f) (hn : f 0 = .int .i64 n) (A : Arr 174 base w (f 7) m h)
    (hx : x.v = .slice ax lx cx) (hxl : x.lg = .slice none 0 0) (hxn : x.num = n + 1) (hB : B < base) (hbz : base ≤ w.heap.size) (hm : m ≤ 1000000) (h0 : 0 ≤ n) (h1 : n ≤ 1000000) :
    Calls Tryz.prog 189 #[.pointer (some ⟨B, 0, none⟩), .slice ax lx cx] w fun e w' => e = .returned (.tuple #[]) ∧ ∃ vA, Bk w' B (fun j => if j = 7 then vA else if j = 0 then .int .i64 (n + 1) else f j) ∧ Arr 174 base w' vA (m + 1) (fun j => if j = m then x else h j) ∧
      Only (fun k => k = B ∨ (f 7).ownBlock = some k) w w' ∧ (vA.ownBlock = (f 7).ownBlock ∨ ∃ k, vA.ownBlock = some k ∧ w.heap.size ≤ k) := by
  have hA := A.lt
  obtain ⟨aA, cA, hvA, _, _, _⟩ := A.at
  have H1 := H.set 0 (by omega) (.int .i64 (n + 1))
  have c0 := H.cell 0 (by omega)
  rw [hn] at c0
  have q0 := H.fr 0 (by omega)
  have A1 := A.keep (w' := w.setCell ⟨B, 0, none⟩ (.int .i64 (n + 1))) (fun k hk => Below.heap_setCell _ _ _ _ (by intro e; simp only at e; have := (hA k hk).1; omega))
  have O1 : Only (fun k => k = B ∨ (f 7).ownBlock = some k) w (w.setCell ⟨B, 0, none⟩ (.int .i64 (n + 1))) := Only.set B 0 _ (.inl rfl)
  have hz1 : (w.setCell ⟨B, 0, none⟩ (.int .i64 (n + 1))).heap.size = w.heap.size := by simp [World.setCell]
  rw [hvA] at A1 hA
  have HvA := Lib.hid hvA
  have KH1 := Lib.hid H1
  have KA1 := Lib.hid A1
  have KO1 := Lib.hid O1
  have KA := Lib.hid hA
  have hBl := H.lt
  clear H A hn A1 O1 hA hvA H1
  go_enter Tryz.func189, Tryz.ntmps189
  go_wp2_with fail
  generalize w.setCell ⟨B, 0, none⟩ (.int .i64 (n + 1)) = w1 at *
  have c0' : w1.drew.cell? ⟨B, 0, none⟩ = some (.int .i64 (n + 1)) := KH1.out.cell 0 (by omega)
  have c2' : w1.drew.cell? ⟨B, 7, none⟩ = some (.slice aA m cA) := by have := KH1.out.cell 7 (by omega); rw [← HvA.out]; exact this
  have c0w : w1.cell? ⟨B, 0, none⟩ = some (.int .i64 (n + 1)) := c0'
  have c2w : w1.cell? ⟨B, 7, none⟩ = some (.slice aA m cA) := c2'
  have hBd : Below w1.heap.size w1 w1.drew := (Below.refl _ _).drew
  have hBa : ∀ o, Below w1.heap.size w1 (w1.drew.alloc o) := fun o => hBd.alloc (Nat.le_refl _) o
  have HAa : Hid (∀ o, Arr 174 base (w1.drew.alloc o) (.slice aA m cA) m h) := fun o => KA1.out.keep (fun k hk => (hBa o).block k (by have := (KA.out k hk).2; omega))
  have HBa : Hid (∀ o, Bk (w1.drew.alloc o) B (fun j => if j = 0 then .int .i64 (n + 1) else f j)) := fun o => KH1.out.below (hBa o)
  have HOa : Hid (∀ o, Only (fun k => k = B ∨ (f 7).ownBlock = some k) w (w1.drew.alloc o)) := fun o => KO1.out.trans (Only.of_below (hBa o))
  have HZ := Lib.hid hz1
  clear c0 hBd hBa
  go_region_law (first
    | (refine step_appNode _ (by rfl) _ _ (by rfl) base (.slice aA m cA) m h x ax lx cx w.heap.size hx hxl (by exact HAa.out _) (by rfl) (by rfl) (by rw [hxn, ← hz1]; first | (show (w1.heap.push _)[w1.heap.size]? = _; simp) | simp) (by simp; omega) (by omega) ?_; intro v7 w7 hA7 hg7 hob7
       obtain ⟨a7, q7, rfl, _, _, _⟩ := hA7.at
       have y7 := ((HBa.out _).other hg7.size (hg7.block B (HBa.out _).lt (fun e => by have := (KA.out B e.symm).1; omega))).cell 7 (by omega)
       have z7 := ((HBa.out _).other hg7.size (hg7.block B (HBa.out _).lt (fun e => by have := (KA.out B e.symm).1; omega))).fr 7 (by omega)))
  all_goals
    go_returns
    have hbx := (HBa.out _).other hg7.size (hg7.block B (HBa.out _).lt (fun e => by have := (KA.out B e.symm).1; omega))
    have hset := hbx.set 7 (by omega) (.slice a7 (m + 1) q7)
    have ho7 : Only (fun k => k = B ∨ (f 7).ownBlock = some k) w w7 := (HOa.out _).trans (Only.grown hg7 (fun k hk => .inr (by rw [HvA.out]; exact hk)))
    have hne : ∀ k, Value.ownBlock (.slice a7 (m + 1) q7) = some k → k ≠ B := fun k hk e => by
      have := (hA7.lt k hk).1; omega
    refine ⟨rfl, .slice a7 (m + 1) q7, ?_, ?_, ?_, ?_⟩
    · refine ⟨hset.lt, fun j hj => ?_, hset.fr⟩
      rw [hset.cell j hj]
    · exact hA7.keep (fun k hk => Below.heap_setCell _ _ _ _ (by intro e; simp only at e; exact hne k hk e))
    · exact ho7.trans (Only.set B 7 _ (.inl rfl))
    · rw [HvA.out]
      refine hob7.imp_right fun ⟨k, hk, hz⟩ => ⟨k, hk, ?_⟩
      have h := HZ.out
      simp at hz; omega
theorem Tryz.underlying54 : Tryz.prog.underlying 54 = some (.slice 103) := by kernel_rfl
theorem Tryz.info103b : (Tryz.prog.info? 103).map (fun i => (i.zero, i.size, i.bytes)) = some (some (.agg #[.int .u8 0, .slice none 0 0, .slice none 0 0, .int .i64 0, .int .i64 0]), 5, 72) := by kernel_rfl
def mkNode (n : Int) : List Value := [.int .u8 0, .slice none 0 0, .slice none 0 0, .int .i64 (-n), .int .i64 0]
theorem markNode_any (n : Int) (w : World) (h0 : 0 ≤ n) (h1 : n ≤ 1000000000) : Calls Tryz.prog 148 #[.int .i64 n] w fun e w' => e = .returned (.agg #[.int .u8 0, .slice none 0 0, .slice none 0 0, .int .i64 (-n), .int .i64 0]) ∧ Below w.heap.size w w' := by
  go_enter Tryz.func148, Tryz.ntmps148
  go_wp2
  refine bodyPost_ret (by simp [results, go_sem]; try rfl) rfl ?_
  exact ⟨rfl, (Below.refl _ _).alloc (Nat.le_refl _) _⟩
theorem isNode_any (n : Int) (w : World) (h0 : 0 ≤ n) (h1 : n ≤ 1000000000) : Calls Tryz.prog 163 #[.agg #[.int .u8 0, .slice none 0 0, .slice none 0 0, .int .i64 (-n), .int .i64 0], .int .i64 n] w fun e w' => e = .returned (.bool true) ∧ Below w.heap.size w w' := by
  have hxx : ((-n : Int) == -n) = true := by simp
  go_enter Tryz.func163, Tryz.ntmps163
  go_wp2
  go_ret
  exact ⟨rfl, (Below.refl _ _).alloc (Nat.le_refl _) _⟩
section
variable {o : Oper} {a : Act} {w : World} {K : Act → World → Prop} {Q : Exit → Act → World → Prop} {x y : Operand}
theorem wp_faNode {b i : Nat} (hi : i = 0 ∨ i = 2) (ho : o.op = .fieldAddr 174 x i) (hx : a.eval x = .pointer (some ⟨b, 0, none⟩)) (hK : K (a.put o.dst (.pointer (some ⟨b, i, none⟩))) w) : o.wp Tryz.prog a w K Q := by
  refine wp_retZ ?_ hK
  clear hK
  generalize a.eval = ev at *
  rcases hi with rfl | rfl <;> (unfold execOp; rw [ho]; simp [hx, go_sem])
theorem wp_ldNode {p : Addr} {v : Value} (ho : o.op = .load 54 x) (hx : a.eval x = .pointer (some p)) (hc : w.cell? p = some v) (hK : K (a.put o.dst v) w) : o.wp Tryz.prog a w K Q := by
  refine wp_retZ ?_ hK
  clear hK
  generalize a.eval = ev at *
  unfold execOp; rw [ho]; simp [hx, hc, go_sem]
theorem wp_ldnNode {p : Addr} {v : Value} (ho : o.op = .load 3 x) (hx : a.eval x = .pointer (some p)) (hc : w.cell? p = some v) (hK : K (a.put o.dst v) w) : o.wp Tryz.prog a w K Q := by
  refine wp_retZ ?_ hK
  clear hK
  generalize a.eval = ev at *
  unfold execOp; rw [ho]; simp [hx, hc, go_sem]
theorem wp_ixNode {b p ls cs k : Nat} (ho : o.op = .indexAddr 54 x y) (hx : a.eval x = .slice (some ⟨b, p, none⟩) ls cs) (hy : a.eval y = .int .i64 (k : Int)) (hk : k < ls) (hK : K (a.put o.dst (.pointer (some ⟨b, p + k * 5, none⟩))) w) : o.wp Tryz.prog a w K Q := by
  refine wp_retZ ?_ hK
  clear hK
  have hk2 : (k : Int) < (ls : Int) := by omega
  generalize a.eval = ev at *
  unfold execOp; rw [ho]; simp [hx, hy, hk2, go_sem]
theorem wp_markNode {n : Int} (ho : o.op = .call { callee := .value (.func 148), args := #[x], argTypes := #[3] }) (hx : a.eval x = .int .i64 n) (h0 : 0 ≤ n) (h1 : n ≤ 1000000000) (hK : ∀ w', Below w.heap.size w w' → K (a.put o.dst (.agg #[.int .u8 0, .slice none 0 0, .slice none 0 0, .int .i64 (-n), .int .i64 0])) w') : o.wp Tryz.prog a w K Q := by
  have hf : a.eval (.func 148) = .func (.func 148) #[] #[] := rfl
  have hm : (execOp a.eval o).run Tryz.prog w = .ok (.enter 148 #[.int .i64 n]) w := by
    clear hK
    generalize a.eval = ev at *
    unfold execOp
    rw [ho]
    simp [hx, hf, go_sem]
  unfold Oper.wp
  rw [hm, Oper.upon_enter]
  refine (markNode_any n w h0 h1).mono ?_
  rintro e w' ⟨rfl, hb⟩
  exact hK w' hb
end
structure IsFillNode (l : List Oper) : Prop where
  len : l.length = 8
  k0 : OpAt l 0 (some 28) (.fieldAddr 174 (.tmp 3) 0) []
  k1 : OpAt l 1 (some 29) (.load 54 (.tmp 28)) [0]
  k2 : OpAt l 2 (some 30) (.move (.tmp 4)) []
  k3 : OpAt l 3 (some 31) (.fieldAddr 174 (.tmp 3) 2) []
  k4 : OpAt l 4 (some 32) (.load 3 (.tmp 31)) [3]
  k5 : OpAt l 5 (some 33) (.call { callee := .value (.func 148), args := #[.tmp 32], argTypes := #[3] }) [4]
  k6 : OpAt l 6 (some 34) (.indexAddr 54 (.tmp 29) (.tmp 30)) [1, 2]
  k7 : OpAt l 7 none (.store 103 (.tmp 34) (.tmp 33)) [0, 1, 2, 3, 4, 5, 6]
def constFNode (hb : Nat) (g off n cap q : Nat) (num : Int) : Nat → Option Value
  | 0 => some (.pointer (some ⟨hb, 0, none⟩)) | 1 => some (.slice (some ⟨g, off, none⟩) n cap) | 2 => some (.int .i64 (q : Int)) | 3 => some (.pointer (some ⟨hb, 2, none⟩)) | 4 => some (.int .i64 num)
  | 5 => some (.agg (mkNode num).toArray) | 6 => some (.pointer (some ⟨g, off + q * 5, none⟩)) | _ => none
set_option maxHeartbeats 2000000 in
theorem fill_regionNode {ops : List Oper} (S : IsFillNode ops) {size : Nat} {Q : Exit → Act → World → Prop} {id : Nat} {a0 : Act} {wq : World} {hb g off n cap q : Nat} {num : Int} {xs : List Value} (hs : a0.tmps.size = size) (hB : canonB ops size = true) (e3 : a0.eval (.tmp 3) = .pointer (some ⟨hb, 0, none⟩)) (e4 : a0.eval (.tmp 4) = .int .i64 (q : Int))
    (hlt : hb < wq.heap.size) (hx0 : wq.cell? ⟨hb, 0, none⟩ = some (.slice (some ⟨g, off, none⟩) n cap)) (hx2 : wq.cell? ⟨hb, 2, none⟩ = some (.int .i64 num)) (hq : q < n) (h0 : 0 ≤ num) (h1 : num ≤ 1000000000) (hrow : Row 5 wq g off n cap xs)
    (hQ : ∀ W, Below wq.heap.size wq W → Q .normal (((((((a0.put (some 28) (.pointer (some ⟨hb, 0, none⟩))).put (some 29) (.slice (some ⟨g, off, none⟩) n cap)).put (some 30) (.int .i64 (q : Int))).put (some 31) (.pointer (some ⟨hb, 2, none⟩))).put (some 32) (.int .i64 num)).put (some 33) (.agg (mkNode num).toArray)).put (some 34) (.pointer (some ⟨g, off + q * 5, none⟩))) (W.setCells g (off + q * 5) (mkNode num))) :
    (Code.region id ops.toArray true).wp Tryz.prog Q a0 wq := by
  have hBd : Below wq.heap.size wq wq.drew := (Below.refl _ _).drew
  refine wp_region_canon hs mixed hB (fun listed vals w => InvFill wq (constFNode hb g off n cap q num) g (off + q * 5) (mkNode num) (fun k => listed.getD k false) vals w) (fun _ => undef) ?_ ?_ ?_
  · have hf : ∀ k, (Array.replicate ops.length false).getD k false = false := fun k => by
      simp only [Array.getD_eq_getD_getElem?, Array.getElem?_replicate]
      split <;> simp
    simp only [hf]
    exact ⟨(fun _ _ _ h => by cases h), (fun h => by cases h), fun _ => hBd, (fun h => by cases h)⟩
  · intro listed vals w a i o hz ho hn hdep I hF K hK
    have hi : i < 8 := by rw [← S.len]; exact (List.getElem?_eq_some_iff.1 ho).1
    have hset : ∀ vals' w', InvFill wq (constFNode hb g off n cap q num) g (off + q * 5) (mkNode num) (setBZ (fun k => listed.getD k false) i) vals' w' → InvFill wq (constFNode hb g off n cap q num) g (off + q * 5) (mkNode num) (fun k => (listed.setIfInBounds i true).getD k false) vals' w' := fun vals' w' h => by
      have e : (fun k => (listed.setIfInBounds i true).getD k false) = setBZ (fun k => listed.getD k false) i := funext fun k => getD_set (by rw [hz, S.len]; exact hi)
      rw [e]; exact h
    have hE : ∀ j u c, j < 8 → dstAt ops j = some u → listed.getD j false = true → constFNode hb g off n cap q num j = some c → a.eval (.tmp u) = c := fun j u c hj hd hl hc => (hF.new j u (by rw [S.len]; exact hj) hd hl).trans (I.cs j c hc hl)
    have hds : ∀ u, u = 3 ∨ u = 4 → ∀ j, j < 8 → dstAt ops j ≠ some u := by
      rintro u (rfl | rfl) j hj h
      all_goals
        obtain rfl | rfl | rfl | rfl | rfl | rfl | rfl | rfl : j = 0 ∨ j = 1 ∨ j = 2 ∨ j = 3 ∨ j = 4 ∨ j = 5 ∨ j = 6 ∨ j = 7 := by omega
        · rw [S.k0.dst] at h; cases h
        · rw [S.k1.dst] at h; cases h
        · rw [S.k2.dst] at h; cases h
        · rw [S.k3.dst] at h; cases h
        · rw [S.k4.dst] at h; cases h
        · rw [S.k5.dst] at h; cases h
        · rw [S.k6.dst] at h; cases h
        · rw [S.k7.dst] at h; cases h
    have ev3 : a.eval (.tmp 3) = .pointer (some ⟨hb, 0, none⟩) := (hF.old 3 (fun j hj h => absurd h (hds 3 (.inl rfl) j (by rw [← S.len]; exact hj)))).trans e3
    have ev4 : a.eval (.tmp 4) = .int .i64 (q : Int) := (hF.old 4 (fun j hj h => absurd h (hds 4 (.inr rfl) j (by rw [← S.len]; exact hj)))).trans e4
    have hP7 : ∀ j, j < 7 → listed.getD j false = false → listed.getD 7 false = false := fun j hj h => by
      cases h7 : listed.getD 7 false with
      | false => rfl
      | true => have := I.d7 h7 j hj; rw [h] at this; cases this
    obtain rfl | rfl | rfl | rfl | rfl | rfl | rfl | rfl : i = 0 ∨ i = 1 ∨ i = 2 ∨ i = 3 ∨ i = 4 ∨ i = 5 ∨ i = 6 ∨ i = 7 := by omega
    · obtain ⟨_, hop, hd'⟩ := S.k0.is (B := fun k => listed.getD k false) ho hdep
      exact wp_faNode (.inl rfl) hop ev3 (hK _ _ (hset _ _ (I.put (by decide) hn rfl (fun x => x))))
    · obtain ⟨_, hop, hd'⟩ := S.k1.is (B := fun k => listed.getD k false) ho hdep
      exact wp_ldNode hop (hE 0 28 _ (by decide) S.k0.dst (hd' 0 (by simp)) rfl) (((I.pre (hP7 1 (by decide) hn)).cell (p := ⟨hb, 0, none⟩) hlt).trans hx0) (hK _ _ (hset _ _ (I.put (by decide) hn rfl (fun x => x))))
    · obtain ⟨_, hop, hd'⟩ := S.k2.is (B := fun k => listed.getD k false) ho hdep
      exact wp_mvZ hop ev4 (hK _ _ (hset _ _ (I.put (by decide) hn rfl (fun x => x))))
    · obtain ⟨_, hop, hd'⟩ := S.k3.is (B := fun k => listed.getD k false) ho hdep
      exact wp_faNode (.inr rfl) hop ev3 (hK _ _ (hset _ _ (I.put (by decide) hn rfl (fun x => x))))
    · obtain ⟨_, hop, hd'⟩ := S.k4.is (B := fun k => listed.getD k false) ho hdep
      exact wp_ldnNode hop (hE 3 31 _ (by decide) S.k3.dst (hd' 3 (by simp)) rfl) (((I.pre (hP7 4 (by decide) hn)).cell (p := ⟨hb, 2, none⟩) hlt).trans hx2) (hK _ _ (hset _ _ (I.put (by decide) hn rfl (fun x => x))))
    · obtain ⟨_, hop, hd'⟩ := S.k5.is (B := fun k => listed.getD k false) ho hdep
      have hpre := I.pre (hP7 5 (by decide) hn)
      exact wp_markNode hop (hE 4 32 _ (by decide) S.k4.dst (hd' 4 (by simp)) rfl) h0 h1 (fun w' hb' => hK _ _ (hset _ _ (I.put (by decide) hn rfl (fun _ => hpre.trans (hb'.mono hpre.size)))))
    · obtain ⟨_, hop, hd'⟩ := S.k6.is (B := fun k => listed.getD k false) ho hdep
      exact wp_ixNode hop (hE 1 29 _ (by decide) S.k1.dst (hd' 1 (by simp)) rfl) (hE 2 30 _ (by decide) S.k2.dst (hd' 2 (by simp)) rfl) hq (hK _ _ (hset _ _ (I.put (by decide) hn rfl (fun x => x))))
    · obtain ⟨_, hop, hd'⟩ := S.k7.is (B := fun k => listed.getD k false) ho hdep
      have hpre := I.pre hn
      have hr2 := hrow.keep hpre.size (hpre.block g hrow.lt)
      have hc1 : q * 5 + 5 ≤ cap * 5 := by have := hr2.le; omega
      obtain ⟨i0, hi0, hz0, hz1, hz2⟩ := info_parts Tryz.info103b
      refine wp_store_mid 103 (.tmp 34) (.tmp 33) hop g (off + q * 5) (mkNode num).toArray (hE 6 34 _ (by decide) S.k6.dst (hd' 6 (by simp)) rfl) (hE 5 33 _ (by decide) S.k5.dst (hd' 5 (by simp)) rfl) (fun j hj => ?_) (by rw [hi0]; simp [hz1, mkNode]) (by simp [mkNode, Value.oneCell']) (hK _ _ (hset _ _ (I.last hn (fun j hj => hd' j (by simp only [List.mem_cons, List.not_mem_nil, or_false]; omega)) rfl _)))
      have hj2 : j < 5 := by simpa [mkNode] using hj
      have := hr2.all (q * 5 + j) (by omega)
      rwa [← Nat.add_assoc] at this
  · intro listed vals w hall I
    have hA : ∀ i, i < 8 → listed.getD i false = true := fun i hi => hall i (by rw [S.len]; exact hi)
    obtain ⟨W, hW, rfl⟩ := I.fin (hA 7 (by decide))
    have := hQ W hW
    rw [S.len]
    have hnone : ∀ (a : Act) (v : Value), a.put none v = a := fun _ _ => rfl
    have q0 := I.cs 0 _ rfl (hA 0 (by decide))
    have q1 := I.cs 1 _ rfl (hA 1 (by decide))
    have q2 := I.cs 2 _ rfl (hA 2 (by decide))
    have q3 := I.cs 3 _ rfl (hA 3 (by decide))
    have q4 := I.cs 4 _ rfl (hA 4 (by decide))
    have q5 := I.cs 5 _ rfl (hA 5 (by decide))
    have q6 := I.cs 6 _ rfl (hA 6 (by decide))
    simp only [putsK, S.k0.dst, S.k1.dst, S.k2.dst, S.k3.dst, S.k4.dst, S.k5.dst, S.k6.dst, S.k7.dst, hnone, q0, q1, q2, q3, q4, q5, q6]
    exact this
set_option maxHeartbeats 2000000 in
set_option maxRecDepth 100000 in
theorem fillNode_any (w : World) (B : Nat) (f : Nat → Value) (base m : Nat) (h : Nat → Held) (H : Bk w B f) (A : Arr 174 base w (f 7) m h) (hR : ∀ j, j < m → RowV 5 w (h j).v (h j).n (h j).xs) (hm : m ≤ 1000000) (hlg : ∀ j, j < m → (h j).lg = .slice none 0 0)
    (hnum : ∀ j, j < m → 0 ≤ (h j).num ∧ (h j).num ≤ 1000000000) (hap : ApartV m (fun j => (h j).v)) (hB : ∀ j, j < m → (h j).v.ownBlock ≠ some B) (hA : ∀ j, j < m → ∀ k, (f 7).ownBlock = some k → (h j).v.ownBlock ≠ some k) :
    Calls Tryz.prog 67 #[.pointer (some ⟨B, 0, none⟩)] w fun e w' => e = .returned (.tuple #[]) ∧ (∀ j, j < m → RowV 5 w' (h j).v (h j).n (repl (h j).n (mkNode (h j).num))) ∧ Only (fun k => ∃ j, j < m ∧ (h j).v.ownBlock = some k) w w' := by
  obtain ⟨aA, cA, hvA, hmA, hcA, hat⟩ := A.at
  have HS : Hid (¬ (∃ j, j < m ∧ (h j).v.ownBlock = some B)) := fun ⟨j, hj, e⟩ => hB j hj e
  have KH := Lib.hid H
  have c2 := H.cell 7 (by omega)
  rw [hvA] at c2
  have hBl := H.lt
  have HAT := Lib.hid hat
  have HR0 := Lib.hid hR
  have HNUM := Lib.hid hnum
  have HLG := Lib.hid hlg
  have HLT : Hid (∀ b, (∃ j, j < m ∧ (h j).v.ownBlock = some b) → b < w.heap.size) := fun b ⟨j, hj, e⟩ => (hR j hj).lt b e
  have HAP := Lib.hid hap
  have HAA : Hid (∀ g, aA = some ⟨g, 0, none⟩ → ¬ (∃ j, j < m ∧ (h j).v.ownBlock = some g)) := fun g hg ⟨j, hj, e⟩ => hA j hj g (by rw [hvA, hg]; rfl) e
  clear H A hR hnum hlg hap hB hA hat hvA
  go_enter Tryz.func67, Tryz.ntmps67
  go_wp2
  go_loopg [2] m (fun gg i wr => ∃ k : Nat, k ≤ m ∧ m - k ≤ gg ∧ i = .int .i64 k ∧ Hid (∀ j, j < m → RowV 5 wr (h j).v (h j).n (if j < k then repl (h j).n (mkNode (h j).num) else (h j).xs)) ∧ Hid (Only (fun k => ∃ j, j < m ∧ (h j).v.ownBlock = some k) w wr))
  case atStart => exact ⟨0, Nat.zero_le _, by omega, rfl, fun j hj => by rw [if_neg (by omega)]; exact HR0.out j hj, Only.refl _ _⟩
  case round =>
    obtain ⟨k, hk, hg, rfl, HR, HO⟩ := hrel
    have c2r := (HO.out.cell hBl HS.out 7).trans c2
    by_cases hlt : k < m
    · have dkl : decide ((k : Int) < (m : Int)) = true := decide_eq_true (by omega)
      obtain ⟨gA, rfl, _, hgA, hce⟩ := HAT.out (by omega)
      obtain ⟨e0, e1, e2, _⟩ := hce k hlt
      have hns := HAA.out gA rfl
      have r0 := (HO.out.cell hgA hns (k * 3)).trans e0
      have r1 := (HO.out.cell hgA hns (k * 3 + 1)).trans e1
      have r2 := (HO.out.cell hgA hns (k * 3 + 2)).trans e2
      rw [HLG.out k hlt] at r1
      obtain ⟨aV, cV, hv, hvl, hvc, _⟩ := (HR.out k hlt).slice
      rw [hv] at r0
      have HV := Lib.hid hv
      have hn := HNUM.out k hlt
      have HLN : Hid ((h k).xs.length = (h k).n * 5) := (HR0.out k hlt).len
      have HR1 : Hid (∀ j, j < m → RowV 5 wr (h j).v (h j).n (if j < k then repl (h j).n (mkNode (h j).num) else if j = k then partK (h k).xs (mkNode (h k).num) 0 else (h j).xs)) := fun j hj => by
        have := HR.out j hj
        by_cases e : j < k
        · rw [if_pos e] at this ⊢; exact this
        · rw [if_neg e] at this ⊢
          by_cases e2 : j = k
          · subst e2; rw [if_pos rfl, partK_zero]; exact this
          · rw [if_neg e2]; exact this
      have HW1 : Hid (w.heap.size ≤ wr.heap.size) := HO.out.size
      have hb4 : Below wr.heap.size wr (wr.alloc (.cells #[.slice aV (h k).n cV, .slice none 0 0, .int .i64 (h k).num] 174)) := (Below.refl _ _).alloc (Nat.le_refl _) _
      have HR4 : Hid (∀ j, j < m → RowV 5 (wr.alloc (.cells #[.slice aV (h k).n cV, .slice none 0 0, .int .i64 (h k).num] 174)) (h j).v (h j).n (if j < k then repl (h j).n (mkNode (h j).num) else if j = k then partK (h k).xs (mkNode (h k).num) 0 else (h j).xs)) := fun j hj => (HR1.out j hj).keep hb4.size (fun b hb => hb4.block b ((HR1.out j hj).lt b hb))
      have HO4 : Hid (Only (fun k => ∃ j, j < m ∧ (h j).v.ownBlock = some k) w (wr.alloc (.cells #[.slice aV (h k).n cV, .slice none 0 0, .int .i64 (h k).num] 174))) := HO.out.trans (Only.of_below hb4)
      have X0 : Hid ((wr.alloc (.cells #[.slice aV (h k).n cV, .slice none 0 0, .int .i64 (h k).num] 174)).cell? ⟨wr.heap.size, 0, none⟩ = some (.slice aV (h k).n cV)) := by show _ = _; rw [World.cell?_alloc_at _ _ _ _ rfl]; rfl
      have X2 : Hid ((wr.alloc (.cells #[.slice aV (h k).n cV, .slice none 0 0, .int .i64 (h k).num] 174)).cell? ⟨wr.heap.size, 2, none⟩ = some (.int .i64 (h k).num)) := by show _ = _; rw [World.cell?_alloc_at _ _ _ _ rfl]; rfl
      have Z4 : Hid ((wr.alloc (.cells #[.slice aV (h k).n cV, .slice none 0 0, .int .i64 (h k).num] 174)).heap.size = wr.heap.size + 1) := by show _ = _; simp
      clear hv e0 e1 e2 hb4
      generalize hnn : (h k).n = nn at *
      generalize hmm : (h k).num = nu at *
      have HNE := Lib.hid hnn
      have HME := Lib.hid hmm
      clear hnn hmm
      go_wp2
      generalize wr.alloc (.cells #[.slice aV nn cV, .slice none 0 0, .int .i64 nu] 174) = w4 at *
      have hz4 := Z4.out
      have hw1 := HW1.out
      go_loopg [4] nn (fun gg i wv => ∃ q : Nat, q ≤ nn ∧ nn - q ≤ gg ∧ i = .int .i64 q ∧ Hid (∀ j, j < m → RowV 5 wv (h j).v (h j).n (if j < k then repl (h j).n (mkNode (h j).num) else if j = k then partK (h k).xs (mkNode nu) q else (h j).xs)) ∧ Hid (Only (fun k => ∃ j, j < m ∧ (h j).v.ownBlock = some k) w4 wv))
      case atStart => exact ⟨0, Nat.zero_le _, by omega, rfl, HR4, Only.refl _ _⟩
      case round =>
        rename World => wv
        obtain ⟨q, hq, hgq, rfl, HRv, HOv⟩ := hrel
        have hnb : ¬ (∃ j, j < m ∧ (h j).v.ownBlock = some wr.heap.size) := fun e => by have := HLT.out _ e; omega
        have x0 := (HOv.out.cell (show wr.heap.size < w4.heap.size by omega) hnb 0).trans X0.out
        have x2 := (HOv.out.cell (show wr.heap.size < w4.heap.size by omega) hnb 2).trans X2.out
        have hwz : wr.heap.size < wv.heap.size := by have := HOv.out.size; omega
        by_cases hltq : q < nn
        · have dql : decide ((q : Int) < (nn : Int)) = true := decide_eq_true (by omega)
          have hqn : q < (h k).n := by rw [HNE.out]; exact hltq
          have hrow := HRv.out k hlt
          rw [if_neg (Nat.lt_irrefl k), if_pos rfl] at hrow
          rcases hrow with ⟨_, h2, _⟩ | ⟨g, off, cap, hvk, hrk⟩
          · omega
          have hvk2 : Value.slice aV nn cV = .slice (some ⟨g, off, none⟩) nn cap := HV.out.symm.trans (by rw [hvk, HNE.out])
          cases hvk2
          have hvk3 : (h k).v = .slice (some ⟨g, off, none⟩) (h k).n cV := hvk
          rw [HNE.out] at hrk
          have HRK := Lib.hid hrk
          have HON : Hid (∀ W, Below wv.heap.size wv W → Only (fun k => ∃ j, j < m ∧ (h j).v.ownBlock = some k) w4 (W.setCells g (off + q * 5) (mkNode nu))) := fun W hW => (HOv.out.trans (Only.of_below hW)).setFarE g _ _ (.inl ⟨k, hlt, by rw [hvk3]; rfl⟩)
          have HRN : Hid (∀ W, Below wv.heap.size wv W → ∀ j, j < m → RowV 5 (W.setCells g (off + q * 5) (mkNode nu)) (h j).v (h j).n (if j < k then repl (h j).n (mkNode (h j).num) else if j = k then partK (h k).xs (mkNode nu) (q + 1) else (h j).xs)) := fun W hW j hj => by
            have hX := rows_putE (c := 5) (w := W) (X := fun j => if j < k then repl (h j).n (mkNode (h j).num) else if j = k then partK (h k).xs (mkNode nu) q else (h j).xs) (fun j hj => (HRv.out j hj).keep hW.size (fun b hb => hW.block b ((HRv.out j hj).lt b hb))) HAP.out hlt hvk3 hqn (mkNode nu) rfl j hj
            by_cases e : j = k
            · subst e
              simp only [if_pos, if_neg (Nat.lt_irrefl j)] at hX ⊢
              have hp := partK_next (h j).xs (mkNode nu) q nn hltq (by rw [HLN.out]; rfl)
              have hp2 : putAt (partK (h j).xs (mkNode nu) q) (q * 5) (mkNode nu) = partK (h j).xs (mkNode nu) (q + 1) := hp
              rw [hp2] at hX
              exact hX
            · simp only [if_neg e] at hX ⊢
              exact hX
          have hqb : (q : Int) < (nn : Int) := by omega
          clear hrk hvk hvk3
          go_wp2_with fail
          refine fill_regionNode (wq := wv) (hb := wr.heap.size) (g := g) (off := off) (n := nn) (cap := cV) (q := q) (num := nu) ⟨rfl, ⟨_, rfl, rfl, rfl, by kernel_rfl⟩, ⟨_, rfl, rfl, rfl, by kernel_rfl⟩, ⟨_, rfl, rfl, rfl, by kernel_rfl⟩, ⟨_, rfl, rfl, rfl, by kernel_rfl⟩, ⟨_, rfl, rfl, rfl, by kernel_rfl⟩, ⟨_, rfl, rfl, rfl, by kernel_rfl⟩, ⟨_, rfl, rfl, rfl, by kernel_rfl⟩, ⟨_, rfl, rfl, rfl, by kernel_rfl⟩⟩ rfl (by kernel_rfl) rfl rfl hwz x0 x2 hltq hn.1 hn.2 HRK.out ?_
          intro W hW
          simp only [Act.put, List.setIfInBounds_toArray, List.set_cons_succ, List.set_cons_zero]
          have HR9 := Lib.hid (HRN.out W hW)
          have HO9 := Lib.hid (HON.out W hW)
          clear hW
          generalize W.setCells g (off + q * 5) (mkNode nu) = w9 at *
          go_wp2
          go_roundg (nn - (q + 1))
          case measure => omega
          case rel => exact ⟨q + 1, by omega, by omega, by go_num, HR9, HO9⟩
        · have dql : decide ((q : Int) < (nn : Int)) = false := decide_eq_false (by omega)
          obtain rfl : q = nn := by omega
          have HR5 : Hid (∀ j, j < m → RowV 5 wv (h j).v (h j).n (if j < k + 1 then repl (h j).n (mkNode (h j).num) else (h j).xs)) := fun j hj => by
            have := HRv.out j hj
            by_cases e : j = k
            · subst e
              rw [if_neg (Nat.lt_irrefl j), if_pos rfl, partK_all _ _ q (by rw [HLN.out]; rfl)] at this
              rw [if_pos (by omega), HNE.out, HME.out]
              rw [HNE.out] at this
              exact this
            · rw [if_neg e] at this
              by_cases e2 : j < k
              · rw [if_pos e2] at this; rw [if_pos (by omega)]; exact this
              · rw [if_neg e2] at this; rw [if_neg (by omega)]; exact this
          have HO5 := Lib.hid (HO4.out.trans HOv.out)
          go_wp2
          go_roundg (m - (k + 1))
          case measure => omega
          case rel => exact ⟨k + 1, by omega, by omega, by go_num, HR5, HO5⟩
    · have dkl : decide ((k : Int) < (m : Int)) = false := decide_eq_false (by omega)
      obtain rfl : k = m := by omega
      go_wp2
      go_returns
      exact ⟨rfl, fun j hj => by have := HR.out j hj; rw [if_pos hj] at this; exact this, HO.out⟩
theorem wpList_pushNode {ops : Array Oper} {rest : List Oper} {o : Oper} {a : Act} {Q : Exit → Act → World → Prop} (w : World) (hgd : o.guard = none) (s t : Operand)
    (ho : o.op = .call { callee := .builtin .append, args := #[s, t], argTypes := #[54, 54] }) (v : Value) (n : Nat) (xs : List Value) (x : Int) (b : Nat)
    (hrow : RowV 5 w v n xs) (hs : a.eval s = v) (ht : a.eval t = .slice (some ⟨b, 0, none⟩) 1 1) (hb : ∀ j u, (mkNode x)[j]? = some u → w.cell? ⟨b, j, none⟩ = some u) (hlen : n ≤ 10000000)
    (hK : ∀ v' w', RowV 5 w' v' (n + 1) (xs ++ mkNode x) →
      ((∃ g off cap, v = .slice (some ⟨g, off, none⟩) n cap ∧ v' = .slice (some ⟨g, off, none⟩) (n + 1) cap ∧ n < cap ∧ w' = w.setCells g (off + n * 5) (mkNode x)) ∨ (Only (fun _ => False) w w' ∧ ∃ k, v'.ownBlock = some k ∧ w.heap.size ≤ k)) →
      wpList Tryz.prog ops Q rest (a.put o.dst v') w') :
    wpList Tryz.prog ops Q (o :: rest) a w := by
  obtain ⟨i0, hi, hz0, hz1, hz2⟩ := info_parts Tryz.info103b
  have hnews : ∀ j u, (mkNode x)[j]? = some u → w.cell? ((⟨b, 0, none⟩ : Addr).add j) = some u := fun j u hj => by rw [Addr.add_lit, Nat.zero_add]; exact hb j u hj
  have hone : ∀ u ∈ mkNode x, u.oneCell' = true := fun u hu => by
    simp only [mkNode, List.mem_cons, List.not_mem_nil, or_false] at hu
    rcases hu with rfl | rfl | rfl | rfl | rfl <;> rfl
  rcases hrow with ⟨rfl, rfl, rfl⟩ | ⟨g, off, cap, rfl, hr⟩
  · refine wpList_append_grows w hgd s t 54 ho 103 i0 _ 5 72 Tryz.underlying54 hi hz0 hz1 hz2 rfl (by decide) none 0 0 [] hs (fun _ => ⟨rfl, rfl⟩) rfl (fun b hb => by cases hb) ⟨b, 0, none⟩ 1 1 (mkNode x) ht rfl hnews hone (by omega) (by unfold maxLen; omega) (by omega) ?_
    intro v' w' hown hg
    refine hK v' w' (RowV.of_owns hown) (.inr ⟨Only.grown hg (fun k hk => by cases hk), ?_⟩)
    obtain ⟨g', cap', rfl, h1, _⟩ := hown.form (by omega)
    exact ⟨g', rfl, h1⟩
  · refine wpList_append_arg w hgd s t 54 ho 103 i0 _ 5 72 Tryz.underlying54 hi hz0 hz1 hz2 rfl (by decide) g off n cap xs hs hr.len hr.cell ⟨b, 0, none⟩ 1 1 (mkNode x) ht rfl hnews hone ?_ (by unfold maxLen; omega) (by omega) ?_ ?_
    · intro hc j hj
      have hj0 : j < 5 := by simpa [mkNode] using hj
      have := hr.all (n * 5 + j) (by omega)
      rwa [← Nat.add_assoc] at this
    · intro hc
      exact hK _ _ (.inr ⟨g, off, cap, rfl, hr.pushE (by omega) _ rfl⟩) (.inl ⟨g, off, cap, rfl, rfl, by omega, rfl⟩)
    · intro _ v' w' hown hg
      refine hK v' w' (RowV.of_owns hown) (.inr ⟨Only.grown hg (fun k hk => by cases hk), ?_⟩)
      obtain ⟨g', cap', rfl, h1, _⟩ := hown.form (by omega)
      exact ⟨g', rfl, h1⟩
theorem mkNode_cells (w : World) (n : Int) (i : Nat) (hi : i = w.heap.size) : ∀ j u, (mkNode n)[j]? = some u → (w.alloc (.cells #[.int .u8 0, .slice none 0 0, .slice none 0 0, .int .i64 (-n), .int .i64 0] 103)).cell? ⟨i, j, none⟩ = some u := fun j u hj => by
  subst hi
  rw [World.cell?_alloc_at _ _ _ _ rfl]
  rw [← hj]; simp [mkNode]
set_option maxHeartbeats 4000000 in
set_option maxRecDepth 100000 in
theorem growNode_any (w : World) (B : Nat) (f : Nat → Value) (base m : Nat) (h : Nat → Held) (H : Bk w B f) (A : Arr 174 base w (f 7) m h) (hR : ∀ j, j < m → RowV 5 w (h j).v (h j).n (repl (h j).n (mkNode (h j).num))) (hm : m ≤ 1000000) (hn : ∀ j, j < m → (h j).n ≤ 1000000)
    (hlg : ∀ j, j < m → (h j).lg = .slice none 0 0) (hnum : ∀ j, j < m → 0 ≤ (h j).num ∧ (h j).num ≤ 1000000000) (hap : ApartV m (fun j => (h j).v)) (hB : ∀ j, j < m → (h j).v.ownBlock ≠ some B) (hA : ∀ j, j < m → ∀ k, (f 7).ownBlock = some k → (h j).v.ownBlock ≠ some k) (hAB : (f 7).ownBlock ≠ some B) :
    Calls Tryz.prog 82 #[.pointer (some ⟨B, 0, none⟩)] w fun e w' => e = .returned (.tuple #[]) ∧ ∃ lgs : Nat → Value, Arr 174 base w' (f 7) m (fun j => { h j with lg := lgs j }) ∧ (∀ j, j < m → RowV 5 w' (h j).v (h j).n (repl (h j).n (mkNode (h j).num))) ∧
      (∀ j, j < m → RowV 5 w' (lgs j) ((h j).n + 40) (repl ((h j).n + 40) (mkNode (h j).num))) ∧ Only (fun b => (∃ j, j < m ∧ (h j).v.ownBlock = some b) ∨ (f 7).ownBlock = some b) w w' ∧ (∀ j, j < m → ∀ b, (lgs j).ownBlock = some b → (h j).v.ownBlock = some b ∨ w.heap.size ≤ b) := by
  obtain ⟨aA, cA, hvA, hmA, hcA, _⟩ := A.at
  have HS : Hid (¬ ((∃ j, j < m ∧ (h j).v.ownBlock = some B) ∨ (f 7).ownBlock = some B)) := fun e => by
    rcases e with ⟨j, hj, e⟩ | e
    · exact hB j hj e
    · exact hAB e
  have KH := Lib.hid H
  have c2 := H.cell 7 (by omega)
  have hBl := H.lt
  have HR0 := Lib.hid hR
  have HN := Lib.hid hn
  have HNUM := Lib.hid hnum
  have HAP := Lib.hid hap
  have HLG := Lib.hid hlg
  have HLT : Hid (∀ j, j < m → ∀ b, (h j).v.ownBlock = some b → b < w.heap.size) := fun j hj b e => (hR j hj).lt b e
  have HAL : Hid (∀ b, (f 7).ownBlock = some b → b < w.heap.size) := fun b e => (A.lt b e).2
  have HAV := Lib.hid hA
  have HBV := Lib.hid hB
  have HA0 := Lib.hid A
  have HVA := Lib.hid hvA
  have HAB := Lib.hid hAB
  rw [hvA] at c2
  clear H A hR hn hnum hlg hap hB hA hAB hvA
  go_enter Tryz.func82, Tryz.ntmps82
  go_wp2
  go_loopg [2] m (fun gg i wr => ∃ (k : Nat) (lgs : Nat → Value), k ≤ m ∧ m - k ≤ gg ∧ i = .int .i64 k ∧ Hid (Arr 174 base wr (f 7) m (fun j => if j < k then { h j with lg := lgs j } else h j)) ∧
    Hid (∀ j, j < m → RowV 5 wr (h j).v (h j).n (repl (h j).n (mkNode (h j).num))) ∧ Hid (∀ j, j < k → RowV 5 wr (lgs j) ((h j).n + 40) (repl ((h j).n + 40) (mkNode (h j).num)) ∧ ∀ b, (lgs j).ownBlock = some b → (h j).v.ownBlock = some b ∨ w.heap.size ≤ b) ∧
    Hid (Only (fun b => (∃ j, j < m ∧ (h j).v.ownBlock = some b) ∨ (f 7).ownBlock = some b) w wr))
  case atStart => exact ⟨0, fun _ => .slice none 0 0, Nat.zero_le _, by omega, rfl, HA0.out, HR0.out, fun j hj => absurd hj (Nat.not_lt_zero _), Only.refl _ _⟩
  case round =>
    obtain ⟨k, lgs, hk, hg, rfl, HAr, HR, HL, HO⟩ := hrel
    have c2r := (HO.out.cell hBl HS.out 7).trans c2
    by_cases hlt : k < m
    · have dkl : decide ((k : Int) < (m : Int)) = true := decide_eq_true (by omega)
      have hAr := HAr.out
      rw [HVA.out] at hAr
      obtain ⟨a2, c2', e2, _, _, hat⟩ := hAr.at
      cases e2
      obtain ⟨gA, rfl, _, hgA, hce⟩ := hat (by omega)
      obtain ⟨r0, r1, r2, _⟩ := hce k hlt
      rw [if_neg (Nat.lt_irrefl k)] at r0 r1 r2
      rw [HLG.out k hlt] at r1
      obtain ⟨aV, cV, hv, hvl, hvc, _⟩ := (HR.out k hlt).slice
      rw [hv] at r0
      have HV := Lib.hid hv
      have hnn := HN.out k hlt
      have hnu := HNUM.out k hlt
      have hb4 : Below wr.heap.size wr (wr.alloc (.cells #[.slice aV (h k).n cV, .slice none 0 0, .int .i64 (h k).num] 174)) := (Below.refl _ _).alloc (Nat.le_refl _) _
      have HB4 := Lib.hid hb4
      have X0 : Hid ((wr.alloc (.cells #[.slice aV (h k).n cV, .slice none 0 0, .int .i64 (h k).num] 174)).cell? ⟨wr.heap.size, 0, none⟩ = some (.slice aV (h k).n cV)) := by show _ = _; rw [World.cell?_alloc_at _ _ _ _ rfl]; rfl
      have X2 : Hid ((wr.alloc (.cells #[.slice aV (h k).n cV, .slice none 0 0, .int .i64 (h k).num] 174)).cell? ⟨wr.heap.size, 2, none⟩ = some (.int .i64 (h k).num)) := by show _ = _; rw [World.cell?_alloc_at _ _ _ _ rfl]; rfl
      have Z4 : Hid ((wr.alloc (.cells #[.slice aV (h k).n cV, .slice none 0 0, .int .i64 (h k).num] 174)).heap.size = wr.heap.size + 1) := by show _ = _; simp
      have HGA : Hid (gA < wr.heap.size) := hgA
      have HGN : Hid (¬ (h k).v.ownBlock = some gA) := HAV.out k hlt gA (by rw [HVA.out]; rfl)
      clear hv hce hat hAr hb4 hgA
      generalize hnn' : (h k).n = nn at *
      generalize hmm' : (h k).num = nu at *
      have HNE := Lib.hid hnn'
      have HME := Lib.hid hmm'
      clear hnn' hmm'
      have hw1 := HO.out.size
      go_wp2
      generalize wr.alloc (.cells #[.slice aV nn cV, .slice none 0 0, .int .i64 nu] 174) = w4 at *
      have hz4 := Z4.out
      have HRk : Hid (RowV 5 w4 (h k).v nn (repl nn (mkNode nu))) := by
        show RowV _ _ _ _ _
        have h1 := HR.out k hlt
        rw [HNE.out, HME.out] at h1
        exact h1.keep HB4.out.size (fun b hb => HB4.out.block b (h1.lt b hb))
      have hvb : ∀ b, (h k).v.ownBlock = some b → b < wr.heap.size := fun b hb => by have := HLT.out k hlt b hb; omega
      have HVB := Lib.hid hvb
      clear hvb
      go_loopg [4, 5] 40 (fun gg vL i wv => ∃ q : Nat, q ≤ 40 ∧ 40 - q ≤ gg ∧ i = .int .i64 q ∧ Hid (RowV 5 wv vL (nn + q) (repl (nn + q) (mkNode nu))) ∧ Hid (RowV 5 wv (h k).v nn (repl nn (mkNode nu))) ∧ Hid (Only (fun b => (h k).v.ownBlock = some b) w4 wv) ∧
        Hid ((∃ g off cap, (h k).v = .slice (some ⟨g, off, none⟩) nn cap ∧ vL = .slice (some ⟨g, off, none⟩) (nn + q) cap) ∨ ∀ b, vL.ownBlock = some b → w4.heap.size ≤ b))
      case atStart =>
        refine ⟨0, Nat.zero_le _, by omega, rfl, by rw [← HV.out]; exact HRk.out, HRk.out, Only.refl _ _, ?_⟩
        cases aV with
        | none => exact .inr (fun b hb => by cases hb)
        | some ad =>
          rcases HRk.out with ⟨h1, _⟩ | ⟨g, off, cap, h1, _⟩
          · rw [HV.out] at h1; cases h1
          · have h2 := HV.out.symm.trans h1
            cases h2
            exact .inl ⟨g, off, cV, h1, rfl⟩
      case round =>
        rename World => wv
        obtain ⟨q, hq, hgq, rfl, HLv, HKv, HOv, HX⟩ := hrel
        have hnb : ¬ (h k).v.ownBlock = some wr.heap.size := fun e => by have := HVB.out _ e; omega
        have x2 := (HOv.out.cell (show wr.heap.size < w4.heap.size by omega) hnb 2).trans X2.out
        obtain ⟨aL, cL, rfl, hLl, hLc, _⟩ := HLv.out.slice
        by_cases hltq : q < 40
        · have dql : decide ((q : Int) < 40) = true := decide_eq_true (by omega)
          have HRE : Hid (repl (nn + q) (mkNode nu) ++ mkNode nu = repl (nn + (q + 1)) (mkNode nu)) := by
            show _ = _
            rw [← Nat.add_assoc, repl_succ]
          have hzv := HOv.out.size
          go_wp2_with fail
          refine (markNode_any nu _ hnu.1 hnu.2).mono ?_
          rintro e w5 ⟨rfl, hbm⟩
          have hb5 : ∀ o, Below wv.heap.size wv (w5.alloc o) := fun o => hbm.alloc hbm.size o
          have HL5 : Hid (∀ o, RowV 5 (w5.alloc o) (.slice aL (nn + q) cL) (nn + q) (repl (nn + q) (mkNode nu))) := fun o => HLv.out.keep (hb5 o).size (fun b hb => (hb5 o).block b (HLv.out.lt b hb))
          have HK5 : Hid (∀ o, RowV 5 (w5.alloc o) (h k).v nn (repl nn (mkNode nu))) := fun o => HKv.out.keep (hb5 o).size (fun b hb => (hb5 o).block b (HKv.out.lt b hb))
          have HO5 : Hid (∀ o, Only (fun b => (h k).v.ownBlock = some b) w4 (w5.alloc o)) := fun o => HOv.out.trans (Only.of_below (hb5 o))
          have hzm := hbm.size
          clear hb5 hbm
          go_wp2_with (at_builtin; go_must (refine wpList_pushNode _ rfl _ _ rfl (.slice aL (nn + q) cL) (nn + q) (repl (nn + q) (mkNode nu)) nu w5.heap.size (HL5.out _) rfl rfl (mkNode_cells _ _ _ rfl) (by omega) ?_))
          intro v6 w6 hrow6 hor
          rw [HRE.out] at hrow6
          have HR6 : Hid (RowV 5 w6 v6 (nn + (q + 1)) (repl (nn + (q + 1)) (mkNode nu))) := hrow6
          have HALL : Hid (RowV 5 w6 (h k).v nn (repl nn (mkNode nu)) ∧ Only (fun b => (h k).v.ownBlock = some b) w4 w6 ∧
              ((∃ g off cap, (h k).v = .slice (some ⟨g, off, none⟩) nn cap ∧ v6 = .slice (some ⟨g, off, none⟩) (nn + (q + 1)) cap) ∨ ∀ b, v6.ownBlock = some b → w4.heap.size ≤ b)) := by
            show _ ∧ _ ∧ _
            rcases hor with ⟨g, off, cap, e1, e2, hc, rfl⟩ | ⟨ho, b6, e6, hb6⟩
            · obtain ⟨rfl, rfl⟩ := e1
              rcases HX.out with ⟨g', off', cap', e3, e4⟩ | hfar
              · cases e4
                refine ⟨?_, (HO5.out _).setFarE _ _ _ (.inl (by rw [e3]; rfl)), .inl ⟨_, _, _, e3, e2⟩⟩
                rcases HK5.out (.cells #[.int .u8 0, .slice none 0 0, .slice none 0 0, .int .i64 (-nu), .int .i64 0] 103) with ⟨h1, _⟩ | ⟨g2, off2, cap2, h1, h2⟩
                · rw [e3] at h1; cases h1
                · have h3 := e3.symm.trans h1
                  cases h3
                  exact .inr ⟨_, _, _, e3, h2.spareE ((nn + q) * 5) (by omega) _⟩
              · have hgz := hfar g rfl
                refine ⟨(HK5.out _).keep (by rw [size_setCells]; exact Nat.le_refl _) (fun b hb => heap_setCells g (by intro e; have := HVB.out b hb; omega) _ _ _), (HO5.out _).setFarE g (off + (nn + q) * 5) _ (.inr hgz), .inr (fun b hb => by rw [e2] at hb; cases hb; exact hgz)⟩
            · refine ⟨(HK5.out _).only ho (fun _ _ e => e), (HO5.out _).trans (ho.mono (fun _ _ e => e.elim)), .inr (fun b hb => ?_)⟩
              rw [e6] at hb
              cases hb
              have h1 : w5.heap.size ≤ (w5.alloc (.cells #[.int .u8 0, .slice none 0 0, .slice none 0 0, .int .i64 (-nu), .int .i64 0] 103)).heap.size := by simp
              omega
          obtain ⟨a6, c6, rfl, _, _, _⟩ := hrow6.slice
          clear hrow6 hor
          go_wp2
          go_roundg (40 - (q + 1))
          case measure => omega
          case rel => exact ⟨q + 1, by omega, by omega, by go_num, HR6, HALL.out.1, HALL.out.2.1, HALL.out.2.2⟩
        · have dql : decide ((q : Int) < 40) = false := decide_eq_false (by omega)
          obtain rfl : q = 40 := by omega
          have hwrv : wr.heap.size < wv.heap.size := by have := HOv.out.size; omega
          have HOk : Hid (Only (fun b => (h k).v.ownBlock = some b) wr wv) := (Only.of_below HB4.out).trans (HOv.out.mono (fun _ _ e => e) |> fun h => ⟨h.os, h.tape, h.output, h.size, h.block⟩)
          have HAv := Lib.hid (HAr.out.only HOk.out (fun b hb => HAV.out k hlt b hb))
          have hAv := HAv.out
          rw [HVA.out] at hAv
          obtain ⟨a3, c3, e3, _, _, hat⟩ := hAv.at
          cases e3
          obtain ⟨gA', e4, _, hgA', hce⟩ := hat (by omega)
          cases e4
          obtain ⟨y0, y1, y2, yf⟩ := hce k hlt
          have hmc : k < m := hlt
          have c2v := (HOk.out.cell (show B < wr.heap.size by omega) (HBV.out k hlt) 7).trans c2r
          have HSET := Lib.hid (hAv.setLong k hlt (.slice aL (nn + 40) cL))
          have HRv : Hid (∀ j, j < m → RowV 5 (wv.setCell ⟨gA, k * 3 + 1, none⟩ (.slice aL (nn + 40) cL)) (h j).v (h j).n (repl (h j).n (mkNode (h j).num))) := fun j hj => by
            have hj0 : RowV 5 wv (h j).v (h j).n (repl (h j).n (mkNode (h j).num)) := by
              by_cases e : j = k
              · subst e; rw [HNE.out, HME.out]; exact HKv.out
              · exact (HR.out j hj).only HOk.out (fun b hb hb2 => HAP.out j k hj hlt e b hb hb2)
            exact hj0.keep (by simp [World.setCell]) (fun b hb => Below.heap_setCell _ _ _ _ (by intro e; (try simp only at e); subst e; exact HAV.out j hj _ (by rw [HVA.out]; rfl) hb))
          have HLN : Hid (∀ j, j < k + 1 → RowV 5 (wv.setCell ⟨gA, k * 3 + 1, none⟩ (.slice aL (nn + 40) cL)) (if j = k then .slice aL (nn + 40) cL else lgs j) ((h j).n + 40) (repl ((h j).n + 40) (mkNode (h j).num)) ∧ ∀ b, (if j = k then .slice aL (nn + 40) cL else lgs j).ownBlock = some b → (h j).v.ownBlock = some b ∨ w.heap.size ≤ b) := fun j hj => by
            have hgw : gA < w.heap.size := HAL.out gA (by rw [HVA.out]; rfl)
            by_cases e : j = k
            · subst e
              rw [if_pos rfl, HNE.out, HME.out]
              have hor : ∀ b, Value.ownBlock (.slice aL (nn + 40) cL) = some b → (h j).v.ownBlock = some b ∨ wr.heap.size ≤ b := fun b hb => by
                rcases HX.out with ⟨g, off, cap, e1, e2⟩ | hfar
                · left; rw [e1]; rw [e2] at hb; exact hb
                · right; have := hfar b hb; omega
              refine ⟨HLv.out.keep (by simp [World.setCell]) (fun b hb => Below.heap_setCell _ _ _ _ (by intro e; (try simp only at e); subst e; rcases hor _ hb with h1 | h1; exact HGN.out h1; have := HGA.out; omega)), fun b hb => ?_⟩
              rcases hor b hb with h1 | h1
              · exact .inl h1
              · exact .inr (by omega)
            · rw [if_neg e]
              obtain ⟨h1, h2⟩ := HL.out j (by omega)
              have hjm : j < m := by omega
              refine ⟨(h1.only HOk.out (fun b hb hb2 => ?_)).keep (by simp [World.setCell]) (fun b hb => Below.heap_setCell _ _ _ _ (by intro e'; (try simp only at e'); subst e'; rcases h2 _ hb with h3 | h3; exact HAV.out j hjm _ (by rw [HVA.out]; rfl) h3; omega)), h2⟩
              rcases h2 b hb with h3 | h3
              · exact HAP.out j k hjm hlt e b h3 hb2
              · have := HLT.out k hlt b hb2; omega
          have HON : Hid (Only (fun b => (∃ j, j < m ∧ (h j).v.ownBlock = some b) ∨ (f 7).ownBlock = some b) w (wv.setCell ⟨gA, k * 3 + 1, none⟩ (.slice aL (nn + 40) cL))) :=
            ((HO.out.trans (HOk.out.mono (fun b _ e => .inl ⟨k, hlt, e⟩))).setFar gA (k * 3 + 1) _ (.inl (.inr (by rw [HVA.out]; rfl))))
          have HAN : Hid (Arr 174 base (wv.setCell ⟨gA, k * 3 + 1, none⟩ (.slice aL (nn + 40) cL)) (f 7) m (fun j => if j < k + 1 then { h j with lg := if j = k then .slice aL (nn + 40) cL else lgs j } else h j)) := by
            show Arr _ _ _ _ _ _
            rw [HVA.out]
            obtain ⟨xs, h1, h2⟩ := HSET.out
            refine ⟨xs, h1, fun j hj => ?_⟩
            have h3 := h2 j hj
            by_cases e : j = k
            · subst e
              simp only [if_true, if_neg (Nat.lt_irrefl j), if_pos (Nat.lt_succ_self j)] at h3 ⊢
              exact h3
            · simp only [if_neg e] at h3 ⊢
              by_cases e2 : j < k
              · simp only [if_pos e2, if_pos (Nat.lt_succ_of_lt e2)] at h3 ⊢
                exact h3
              · simp only [if_neg e2, if_neg (show ¬ j < k + 1 by omega)] at h3 ⊢
                exact h3
          clear hce hat hAv
          go_wp2
          go_roundg (m - (k + 1))
          case measure => omega
          case rel => exact ⟨k + 1, fun j => if j = k then .slice aL (nn + 40) cL else lgs j, by omega, by omega, by go_num, HAN, HRv, HLN, HON⟩
    · have dkl : decide ((k : Int) < (m : Int)) = false := decide_eq_false (by omega)
      obtain rfl : k = m := by omega
      go_wp2
      go_returns
      refine ⟨rfl, lgs, ?_, HR.out, fun j hj => (HL.out j hj).1, HO.out, fun j hj => (HL.out j hj).2⟩
      obtain ⟨xs, h1, h2⟩ := HAr.out
      refine ⟨xs, h1, fun j hj => ?_⟩
      have h3 := h2 j hj
      simp only [if_pos hj] at h3
      exact h3
set_option maxHeartbeats 4000000 in
set_option maxRecDepth 100000 in
theorem lookNode_any (w : World) (B : Nat) (f : Nat → Value) (base m : Nat) (h : Nat → Held) (H : Bk w B f) (A : Arr 174 base w (f 7) m h) (hR : ∀ j, j < m → RowV 5 w (h j).v (h j).n (repl (h j).n (mkNode (h j).num)))
    (hL : ∀ j, j < m → RowV 5 w (h j).lg ((h j).n + 40) (repl ((h j).n + 40) (mkNode (h j).num))) (hm : m ≤ 1000000) (hn : ∀ j, j < m → (h j).n ≤ 1000000) (hnum : ∀ j, j < m → 0 ≤ (h j).num ∧ (h j).num ≤ 1000000000) :
    Calls Tryz.prog 97 #[.pointer (some ⟨B, 0, none⟩)] w fun e w' => e = .returned (.bool true) ∧ Below w.heap.size w w' := by
  obtain ⟨aA, cA, hvA, hmA, hcA, hat⟩ := A.at
  have c2 := H.cell 7 (by omega)
  rw [hvA] at c2
  have hBl := H.lt
  have HAT := Lib.hid hat
  have HR := Lib.hid hR
  have HL := Lib.hid hL
  have HN := Lib.hid hn
  have HNUM := Lib.hid hnum
  clear H A hR hL hn hnum hat hvA
  go_enter Tryz.func97, Tryz.ntmps97
  go_wp2
  go_loopg [3] m (fun gg i wr => ∃ k : Nat, k ≤ m ∧ m - k ≤ gg ∧ i = .int .i64 k ∧ Hid (Below w.heap.size w wr))
  case atStart => exact ⟨0, Nat.zero_le _, by omega, rfl, Below.refl _ _⟩
  case round =>
    obtain ⟨k, hk, hg, rfl, HW⟩ := hrel
    have c2r := (HW.out.cell (p := ⟨B, 7, none⟩) hBl).trans c2
    by_cases hlt : k < m
    · have dkl : decide ((k : Int) < (m : Int)) = true := decide_eq_true (by omega)
      obtain ⟨gA, rfl, _, hgA, hce⟩ := HAT.out (by omega)
      obtain ⟨e0, e1, e2, _⟩ := hce k hlt
      have r0 := (HW.out.cell (p := ⟨gA, k * 3, none⟩) hgA).trans e0
      have r1 := (HW.out.cell (p := ⟨gA, k * 3 + 1, none⟩) hgA).trans e1
      have r2 := (HW.out.cell (p := ⟨gA, k * 3 + 2, none⟩) hgA).trans e2
      obtain ⟨aV, cV, hv, hvl, hvc, _⟩ := (HR.out k hlt).slice
      obtain ⟨aG, cG, hgv, hgl, hgc, _⟩ := (HL.out k hlt).slice
      have hnn := HN.out k hlt
      have hnu := HNUM.out k hlt
      have HV := Lib.hid hv
      have HG := Lib.hid hgv
      rw [hv] at r0
      rw [hgv] at r1
      have hb4 : Below wr.heap.size wr (wr.alloc (.cells #[.slice aV (h k).n cV, .slice aG ((h k).n + 40) cG, .int .i64 (h k).num] 174)) := (Below.refl _ _).alloc (Nat.le_refl _) _
      have HW4 : Hid (Below w.heap.size w (wr.alloc (.cells #[.slice aV (h k).n cV, .slice aG ((h k).n + 40) cG, .int .i64 (h k).num] 174))) := HW.out.trans (hb4.mono HW.out.size)
      have X0 : Hid ((wr.alloc (.cells #[.slice aV (h k).n cV, .slice aG ((h k).n + 40) cG, .int .i64 (h k).num] 174)).cell? ⟨wr.heap.size, 0, none⟩ = some (.slice aV (h k).n cV)) := by show _ = _; rw [World.cell?_alloc_at _ _ _ _ rfl]; rfl
      have X1 : Hid ((wr.alloc (.cells #[.slice aV (h k).n cV, .slice aG ((h k).n + 40) cG, .int .i64 (h k).num] 174)).cell? ⟨wr.heap.size, 1, none⟩ = some (.slice aG ((h k).n + 40) cG)) := by show _ = _; rw [World.cell?_alloc_at _ _ _ _ rfl]; rfl
      have X2 : Hid ((wr.alloc (.cells #[.slice aV (h k).n cV, .slice aG ((h k).n + 40) cG, .int .i64 (h k).num] 174)).cell? ⟨wr.heap.size, 2, none⟩ = some (.int .i64 (h k).num)) := by show _ = _; rw [World.cell?_alloc_at _ _ _ _ rfl]; rfl
      have HLk : Hid (∀ q, q < (h k).n + 40 → ∃ g off, aG = some ⟨g, off, none⟩ ∧ g < w.heap.size ∧ ∀ i u, (mkNode (h k).num)[i]? = some u → w.cell? ⟨g, off + q * 5 + i, none⟩ = some u) := fun q hq => by
        obtain ⟨g, off, cap, h1, h2, h3⟩ := RowV.atE (mk := mkNode (h k).num) (HL.out k hlt) hq
        have h4 := hgv.symm.trans h1
        cases h4
        exact ⟨g, off, rfl, h2, h3⟩
      have HVk : Hid (∀ q, q < (h k).n → ∃ g off, aV = some ⟨g, off, none⟩ ∧ g < w.heap.size ∧ ∀ i u, (mkNode (h k).num)[i]? = some u → w.cell? ⟨g, off + q * 5 + i, none⟩ = some u) := fun q hq => by
        obtain ⟨g, off, cap, h1, h2, h3⟩ := RowV.atE (mk := mkNode (h k).num) (HR.out k hlt) hq
        have h4 := hv.symm.trans h1
        cases h4
        exact ⟨g, off, rfl, h2, h3⟩
      clear hv hgv hb4 hce e0 e1 e2
      generalize (h k).n = nn at *
      generalize (h k).num = nu at *
      have hne : ((nn : Int) + 40 != (nn : Int) + 40) = false := by simp
      have hwz := HW.out.size
      have hz4 : wr.heap.size < (wr.alloc (.cells #[.slice aV nn cV, .slice aG (nn + 40) cG, .int .i64 nu] 174)).heap.size := by simp
      go_wp2
      generalize wr.alloc (.cells #[.slice aV nn cV, .slice aG (nn + 40) cG, .int .i64 nu] 174) = w4 at *
      have x0 := X0.out
      have x1 := X1.out
      have x2 := X2.out
      go_loopg [5] (nn + 40) (fun gg i wv => ∃ q : Nat, q ≤ nn + 40 ∧ nn + 40 - q ≤ gg ∧ i = .int .i64 q ∧ Hid (Below w4.heap.size w4 wv))
      case atStart => exact ⟨0, Nat.zero_le _, by omega, rfl, Below.refl _ _⟩
      case round =>
        rename World => wv
        obtain ⟨q, hq, hgq, rfl, HT⟩ := hrel
        have y0 := (HT.out.cell (p := ⟨wr.heap.size, 0, none⟩) hz4).trans x0
        have y1 := (HT.out.cell (p := ⟨wr.heap.size, 1, none⟩) hz4).trans x1
        have y2 := (HT.out.cell (p := ⟨wr.heap.size, 2, none⟩) hz4).trans x2
        have HWv : Hid (Below w.heap.size w wv) := HW4.out.trans (HT.out.mono (by omega))
        by_cases hltq : q < nn + 40
        · have dql : decide ((q : Int) < (nn : Int) + 40) = true := decide_eq_true (by omega)
          have hqb : (q : Int) < (nn : Int) + 40 := by omega
          obtain ⟨gL, oL, rfl, hgL, kL⟩ := HLk.out q hltq
          have HCQ : Hid (∀ d os, Calls Tryz.prog 163 #[.agg #[.int .u8 0, .slice none 0 0, .slice none 0 0, .int .i64 (-nu), .int .i64 0], .int .i64 nu] (Sort.grow (redrawn wv d) os) fun e w'' => e = .returned (.bool true) ∧ ∃ p : Regrown, w'' = Sort.grow (redrawn wv p.d) p.os) := fun d os => Calls.regrown_of (isNode_any nu _ hnu.1 hnu.2)
          have HEND : Hid (∀ d os, Below w4.heap.size w4 (Sort.grow (redrawn wv d) os)) := fun d os => HT.out.trans ((below_regrown wv d os).mono HT.out.size)
          have l0 := Go.cell_regrown ((HWv.out.cell (p := ⟨gL, oL + q * 5, none⟩) hgL).trans (kL 0 _ rfl))
          have l1 := Go.cell_regrown ((HWv.out.cell (p := ⟨gL, oL + q * 5 + 1, none⟩) hgL).trans (kL 1 _ rfl))
          have l2 := Go.cell_regrown ((HWv.out.cell (p := ⟨gL, oL + q * 5 + 2, none⟩) hgL).trans (kL 2 _ rfl))
          have l3 := Go.cell_regrown ((HWv.out.cell (p := ⟨gL, oL + q * 5 + 3, none⟩) hgL).trans (kL 3 _ rfl))
          have l4 := Go.cell_regrown ((HWv.out.cell (p := ⟨gL, oL + q * 5 + 4, none⟩) hgL).trans (kL 4 _ rfl))
          clear kL
          have z0 := Go.cell_regrown y0
          have z1 := Go.cell_regrown y1
          have z2 := Go.cell_regrown y2
          by_cases hqn : q < nn
          · have dqn : decide ((q : Int) < (nn : Int)) = true := decide_eq_true (by omega)
            have hqb2 : (q : Int) < (nn : Int) := by omega
            obtain ⟨gV, oV, rfl, hgV, kV⟩ := HVk.out q hqn
            have v0 := Go.cell_regrown ((HWv.out.cell (p := ⟨gV, oV + q * 5, none⟩) hgV).trans (kV 0 _ rfl))
            have v1 := Go.cell_regrown ((HWv.out.cell (p := ⟨gV, oV + q * 5 + 1, none⟩) hgV).trans (kV 1 _ rfl))
            have v2 := Go.cell_regrown ((HWv.out.cell (p := ⟨gV, oV + q * 5 + 2, none⟩) hgV).trans (kV 2 _ rfl))
            have v3 := Go.cell_regrown ((HWv.out.cell (p := ⟨gV, oV + q * 5 + 3, none⟩) hgV).trans (kV 3 _ rfl))
            have v4 := Go.cell_regrown ((HWv.out.cell (p := ⟨gV, oV + q * 5 + 4, none⟩) hgV).trans (kV 4 _ rfl))
            clear kV
            go_wp2_with fail
            refine wp_region_quiet_below mixed (by kernel_rfl) ?_
            repeat (go_big_quiet_step (exact HCQ.out _ _))
            refine wpQuiet_nil ?_
            intro _ hw'
            obtain ⟨⟨dq, osq⟩, hw''⟩ := hw'
            subst hw''
            have HEQ := Lib.hid (HEND.out dq osq)
            clear z0 z1 z2 HCQ HEND l0 l1 l2 l3 l4 v0 v1 v2 v3 v4
            generalize Sort.grow (redrawn wv dq) osq = wz at *
            go_wp2
            go_roundg (nn + 40 - (q + 1))
            case measure => omega
            case rel => exact ⟨q + 1, by omega, by omega, by go_num, HEQ⟩
          · have dqn : decide ((q : Int) < (nn : Int)) = false := decide_eq_false (by omega)
            go_wp2_with fail
            refine wp_region_quiet_below mixed (by kernel_rfl) ?_
            repeat (go_big_quiet_step (exact HCQ.out _ _))
            refine wpQuiet_nil ?_
            intro _ hw'
            obtain ⟨⟨dq, osq⟩, hw''⟩ := hw'
            subst hw''
            have HEQ := Lib.hid (HEND.out dq osq)
            clear z0 z1 z2 HCQ HEND l0 l1 l2 l3 l4
            generalize Sort.grow (redrawn wv dq) osq = wz at *
            go_wp2
            go_roundg (nn + 40 - (q + 1))
            case measure => omega
            case rel => exact ⟨q + 1, by omega, by omega, by go_num, HEQ⟩
        · have dql : decide ((q : Int) < (nn : Int) + 40) = false := decide_eq_false (by omega)
          go_wp2
          go_roundg (m - (k + 1))
          case measure => omega
          case rel => exact ⟨k + 1, by omega, by omega, by go_num, HW4.out.trans (HT.out.mono (by omega))⟩
    · have dkl : decide ((k : Int) < (m : Int)) = false := decide_eq_false (by omega)
      go_wp2
      go_ret
      exact ⟨rfl, HW.out⟩
end Go.Proofs.YtekejcnphmnidaaGreatDoor
