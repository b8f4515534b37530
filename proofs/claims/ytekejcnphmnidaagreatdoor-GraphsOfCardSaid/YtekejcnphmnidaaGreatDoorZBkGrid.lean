import Derived.Test.YtekejcnphmnidaaGreatDoorZBkV
import Derived.Deep.RegionLaw
import Derived.Deep.RegionHeld3
import Derived.Deep.AppendLies
import Derived.ArgAppend
import Derived.Lib.QuietBelow
namespace Go.Proofs.YtekejcnphmnidaaGreatDoor
open Go.RowKit
theorem Tryz.underlying49 : Tryz.prog.underlying 49 = some (.slice 207) := by kernel_rfl
theorem Tryz.info207 : (Tryz.prog.info? 207).map (fun i => (i.zero, i.size, i.bytes)) = some (some (.agg #[.slice none 0 0, .slice none 0 0, .int .i64 0]), 3, 56) := by kernel_rfl
theorem step_appGrid {ops : Array Oper} {o : Oper} {a : Act} {K : Act → World → Prop} {Q : Exit → Act → World → Prop} {E : Prop} (W : World) (hgd : o.guard = none) (s t : Operand)
    (ho : o.op = .call { callee := .builtin .append, args := #[s, t], argTypes := #[49, 49] }) (base : Nat) (vA : Value) (m : Nat) (h : Nat → Held) (x : Held) (ax : Option Addr) (lx cx : Nat) (b : Nat)
    (hx : x.v = .slice ax lx cx) (hxl : x.lg = .slice none 0 0) (hown : Arr 207 base W vA m h) (hs : a.eval s = vA) (ht : a.eval t = .slice (some ⟨b, 0, none⟩) 1 1)
    (hnew : W.heap[b]? = some (.cells #[.slice ax lx cx, .slice none 0 0, .int .i64 x.num] 207 (0, 0))) (hb : base ≤ W.heap.size) (hlen : m ≤ 1000000)
    (hK : ∀ v' w', Arr 207 base w' v' (m + 1) (fun j => if j = m then x else h j) → W.grownBy w' vA.ownBlock → (v'.ownBlock = vA.ownBlock ∨ ∃ k, v'.ownBlock = some k ∧ W.heap.size ≤ k) → K (a.put o.dst v') w') :
    if Region.wanted o (yielded ops a.tmps) = true then Oper.wp Tryz.prog o a W K Q else E := by
  obtain ⟨i0, hi, hz0, hz1, hz2⟩ := info_parts Tryz.info207
  obtain ⟨vs, hrow, hvs⟩ := hown
  have hw : Region.wanted o (yielded ops a.tmps) = true := by simp [Region.wanted, hgd]
  rw [if_pos hw]
  obtain ⟨v', w', hr, hown', hgrow, _, hob⟩ := run_append_own_at (P := Tryz.prog) W base 49 o.type 207 i0 _ 3 56 Tryz.underlying49 hi hz0 hz1 hz2 rfl (by decide) vA m vs hrow ⟨b, 0, none⟩ 1 1 [.slice ax lx cx, .slice none 0 0, .int .i64 x.num] rfl (by
    intro j u hj
    match j, hj with
    | 0, hj => simp at hj; subst hj; simp [Addr.add, World.cell?, hnew]
    | 1, hj => simp at hj; subst hj; simp [Addr.add, World.cell?, hnew]
    | 2, hj => simp at hj; subst hj; simp [Addr.add, World.cell?, hnew]) (by
    intro u hu
    simp only [List.mem_cons, List.not_mem_nil, or_false] at hu
    rcases hu with rfl | rfl | rfl <;> rfl) (by unfold maxLen; omega) (by omega) hb
  unfold Oper.wp execOp
  simp only [ho, resolve, invoke, builtin, Sem.run_bind, Sem.run_pure, Result.andThen_ok, List.map_toArray, List.map_cons, List.map_nil, hs, ht, hr]
  refine hK v' w' ⟨vs ++ [.slice ax lx cx, .slice none 0 0, .int .i64 x.num], hown', fun i hil => ?_⟩ hgrow (hob.imp_right fun e => ⟨_, e, Nat.le_refl _⟩)
  have hvl : vs.length = m * 3 := hrow.1
  by_cases hlt : i < m
  · obtain ⟨e0, e1, e2⟩ := hvs i hlt
    simp only [if_neg (show ¬ i = m by omega)]
    refine ⟨?_, ?_, ?_⟩ <;> (rw [List.getElem?_append_left (by omega)]; assumption)
  · obtain rfl : i = m := by omega
    simp only [if_true, hx, hxl]
    refine ⟨?_, ?_, ?_⟩ <;> (rw [List.getElem?_append_right (by omega), hvl]; simp [Nat.add_sub_cancel_left])
set_option maxHeartbeats 1000000 in
set_option maxRecDepth 100000 in
theorem keepGrid_any (w : World) (B : Nat) (f : Nat → Value) (n : Int) (base m : Nat) (h : Nat → Held) (x : Held) (ax : Option Addr) (lx cx : Nat) (H : Bk w B f) (hn : f 0 = .int .i64 n) (A : Arr 207 base w (f 14) m h)
    (hx : x.v = .slice ax lx cx) (hxl : x.lg = .slice none 0 0) (hxn : x.num = n + 1) (hB : B < base) (hbz : base ≤ w.heap.size) (hm : m ≤ 1000000) (h0 : 0 ≤ n) (h1 : n ≤ 1000000) :
    Calls Tryz.prog 121 #[.pointer (some ⟨B, 0, none⟩), .slice ax lx cx] w fun e w' => e = .returned (.tuple #[]) ∧ ∃ vA, Bk w' B (fun j => if j = 14 then vA else if j = 0 then .int .i64 (n + 1) else f j) ∧ Arr 207 base w' vA (m + 1) (fun j => if j = m then x else h j) ∧
      Only (fun k => k = B ∨ (f 14).ownBlock = some k) w w' ∧ (vA.ownBlock = (f 14).ownBlock ∨ ∃ k, vA.ownBlock = some k ∧ w.heap.size ≤ k) := by
  have hA := A.lt
  obtain ⟨aA, cA, hvA, _, _, _⟩ := A.at
  have H1 := H.set 0 (by omega) (.int .i64 (n + 1))
  have c0 := H.cell 0 (by omega)
  rw [hn] at c0
  have q0 := H.fr 0 (by omega)
  have A1 := A.keep (w' := w.setCell ⟨B, 0, none⟩ (.int .i64 (n + 1))) (fun k hk => Below.heap_setCell _ _ _ _ (by intro e; simp only at e; have := (hA k hk).1; omega))
  have O1 : Only (fun k => k = B ∨ (f 14).ownBlock = some k) w (w.setCell ⟨B, 0, none⟩ (.int .i64 (n + 1))) := Only.set B 0 _ (.inl rfl)
  have hz1 : (w.setCell ⟨B, 0, none⟩ (.int .i64 (n + 1))).heap.size = w.heap.size := by simp [World.setCell]
  rw [hvA] at A1 hA
  have HvA := Lib.hid hvA
  have KH1 := Lib.hid H1
  have KA1 := Lib.hid A1
  have KO1 := Lib.hid O1
  have KA := Lib.hid hA
  have hBl := H.lt
  clear H A hn A1 O1 hA hvA H1
  go_enter Tryz.func121, Tryz.ntmps121
  go_wp2_with fail
  generalize w.setCell ⟨B, 0, none⟩ (.int .i64 (n + 1)) = w1 at *
  have c0' : w1.drew.cell? ⟨B, 0, none⟩ = some (.int .i64 (n + 1)) := KH1.out.cell 0 (by omega)
  have c2' : w1.drew.cell? ⟨B, 14, none⟩ = some (.slice aA m cA) := by have := KH1.out.cell 14 (by omega); rw [← HvA.out]; exact this
  have c0w : w1.cell? ⟨B, 0, none⟩ = some (.int .i64 (n + 1)) := c0'
  have c2w : w1.cell? ⟨B, 14, none⟩ = some (.slice aA m cA) := c2'
  have hBd : Below w1.heap.size w1 w1.drew := (Below.refl _ _).drew
  have hBa : ∀ o, Below w1.heap.size w1 (w1.drew.alloc o) := fun o => hBd.alloc (Nat.le_refl _) o
  have HAa : Hid (∀ o, Arr 207 base (w1.drew.alloc o) (.slice aA m cA) m h) := fun o => KA1.out.keep (fun k hk => (hBa o).block k (by have := (KA.out k hk).2; omega))
  have HBa : Hid (∀ o, Bk (w1.drew.alloc o) B (fun j => if j = 0 then .int .i64 (n + 1) else f j)) := fun o => KH1.out.below (hBa o)
  have HOa : Hid (∀ o, Only (fun k => k = B ∨ (f 14).ownBlock = some k) w (w1.drew.alloc o)) := fun o => KO1.out.trans (Only.of_below (hBa o))
  have HZ := Lib.hid hz1
  clear c0 hBd hBa
  go_region_law (first
    | (refine step_appGrid _ (by rfl) _ _ (by rfl) base (.slice aA m cA) m h x ax lx cx w.heap.size hx hxl (by exact HAa.out _) (by rfl) (by rfl) (by rw [hxn, ← hz1]; first | (show (w1.heap.push _)[w1.heap.size]? = _; simp) | simp) (by simp; omega) (by omega) ?_; intro v7 w7 hA7 hg7 hob7
       obtain ⟨a7, q7, rfl, _, _, _⟩ := hA7.at
       have y7 := ((HBa.out _).other hg7.size (hg7.block B (HBa.out _).lt (fun e => by have := (KA.out B e.symm).1; omega))).cell 14 (by omega)
       have z7 := ((HBa.out _).other hg7.size (hg7.block B (HBa.out _).lt (fun e => by have := (KA.out B e.symm).1; omega))).fr 14 (by omega)))
  all_goals
    go_returns
    have hbx := (HBa.out _).other hg7.size (hg7.block B (HBa.out _).lt (fun e => by have := (KA.out B e.symm).1; omega))
    have hset := hbx.set 14 (by omega) (.slice a7 (m + 1) q7)
    have ho7 : Only (fun k => k = B ∨ (f 14).ownBlock = some k) w w7 := (HOa.out _).trans (Only.grown hg7 (fun k hk => .inr (by rw [HvA.out]; exact hk)))
    have hne : ∀ k, Value.ownBlock (.slice a7 (m + 1) q7) = some k → k ≠ B := fun k hk e => by
      have := (hA7.lt k hk).1; omega
    refine ⟨rfl, .slice a7 (m + 1) q7, ?_, ?_, ?_, ?_⟩
    · refine ⟨hset.lt, fun j hj => ?_, hset.fr⟩
      rw [hset.cell j hj]
    · exact hA7.keep (fun k hk => Below.heap_setCell _ _ _ _ (by intro e; simp only at e; exact hne k hk e))
    · exact ho7.trans (Only.set B 14 _ (.inl rfl))
    · rw [HvA.out]
      refine hob7.imp_right fun ⟨k, hk, hz⟩ => ⟨k, hk, ?_⟩
      have h := HZ.out
      simp at hz; omega
theorem markGrid_any (n : Int) (w : World) (h0 : 0 ≤ n) (h1 : n ≤ 1000000000) : Calls Tryz.prog 155 #[.int .i64 n] w fun e w' => e = .returned (.slice (some ⟨w.heap.size, 0, none⟩) 1 1) ∧ w' = w.alloc (.cells #[.int .i64 (-n)] 3) := by
  go_enter Tryz.func155, Tryz.ntmps155
  go_wp2
  go_ret
  exact ⟨rfl, rfl⟩
theorem isGrid_any (n : Int) (b : Nat) (w : World) (hc : w.cell? ⟨b, 0, none⟩ = some (.int .i64 (-n))) (h0 : 0 ≤ n) (h1 : n ≤ 1000000000) : Calls Tryz.prog 170 #[.slice (some ⟨b, 0, none⟩) 1 1, .int .i64 n] w fun e w' => e = .returned (.bool true) ∧ Below w.heap.size w w' := by
  have hxx : ((-n : Int) == -n) = true := by simp
  go_enter Tryz.func170, Tryz.ntmps170
  go_wp2
  go_ret
  exact ⟨rfl, Below.refl _ _⟩
section
variable {o : Oper} {a : Act} {w : World} {K : Act → World → Prop} {Q : Exit → Act → World → Prop} {x y : Operand}
theorem wp_faGrid {b i : Nat} (hi : i = 0 ∨ i = 2) (ho : o.op = .fieldAddr 207 x i) (hx : a.eval x = .pointer (some ⟨b, 0, none⟩)) (hK : K (a.put o.dst (.pointer (some ⟨b, i, none⟩))) w) : o.wp Tryz.prog a w K Q := by
  refine wp_retZ ?_ hK
  clear hK
  generalize a.eval = ev at *
  rcases hi with rfl | rfl <;> (unfold execOp; rw [ho]; simp [hx, go_sem])
theorem wp_ldGrid {p : Addr} {v : Value} (ho : o.op = .load 59 x) (hx : a.eval x = .pointer (some p)) (hc : w.cell? p = some v) (hK : K (a.put o.dst v) w) : o.wp Tryz.prog a w K Q := by
  refine wp_retZ ?_ hK
  clear hK
  generalize a.eval = ev at *
  unfold execOp; rw [ho]; simp [hx, hc, go_sem]
theorem wp_ldnGrid {p : Addr} {v : Value} (ho : o.op = .load 3 x) (hx : a.eval x = .pointer (some p)) (hc : w.cell? p = some v) (hK : K (a.put o.dst v) w) : o.wp Tryz.prog a w K Q := by
  refine wp_retZ ?_ hK
  clear hK
  generalize a.eval = ev at *
  unfold execOp; rw [ho]; simp [hx, hc, go_sem]
theorem wp_ixGrid {b p ls cs k : Nat} (ho : o.op = .indexAddr 59 x y) (hx : a.eval x = .slice (some ⟨b, p, none⟩) ls cs) (hy : a.eval y = .int .i64 (k : Int)) (hk : k < ls) (hK : K (a.put o.dst (.pointer (some ⟨b, p + k, none⟩))) w) : o.wp Tryz.prog a w K Q := by
  refine wp_retZ ?_ hK
  clear hK
  have hk2 : (k : Int) < (ls : Int) := by omega
  generalize a.eval = ev at *
  unfold execOp; rw [ho]; simp [hx, hy, hk2, go_sem]
theorem wp_stGrid {p : Addr} {q : Addr} {u : Value} {l c : Nat} (ho : o.op = .store 22 x y) (hx : a.eval x = .pointer (some p)) (hy : a.eval y = .slice (some q) l c) (hc : w.cell? p = some u) (hf : w.frozen? p = false) (hK : K (a.put o.dst undef) (w.setCell p (.slice (some q) l c))) : o.wp Tryz.prog a w K Q := by
  have hm : (execOp a.eval o).run Tryz.prog w = .ok .skip (w.setCell p (.slice (some q) l c)) := by
    clear hK
    generalize a.eval = ev at *
    unfold execOp; rw [ho]; simp [hx, hy, hc, hf, go_sem]
  unfold Oper.wp
  rw [hm]
  exact hK
theorem wp_markGrid {n : Int} (ho : o.op = .call { callee := .value (.func 155), args := #[x], argTypes := #[3] }) (hx : a.eval x = .int .i64 n) (h0 : 0 ≤ n) (h1 : n ≤ 1000000000) (hK : K (a.put o.dst (.slice (some ⟨w.heap.size, 0, none⟩) 1 1)) (w.alloc (.cells #[.int .i64 (-n)] 3))) : o.wp Tryz.prog a w K Q := by
  have hf : a.eval (.func 155) = .func (.func 155) #[] #[] := rfl
  have hm : (execOp a.eval o).run Tryz.prog w = .ok (.enter 155 #[.int .i64 n]) w := by
    clear hK
    generalize a.eval = ev at *
    unfold execOp
    rw [ho]
    simp [hx, hf, go_sem]
  unfold Oper.wp
  rw [hm, Oper.upon_enter]
  refine (markGrid_any n w h0 h1).mono ?_
  rintro e w' ⟨rfl, rfl⟩
  exact hK
end
structure InvG (wq : World) (cst : Nat → Option Value) (p : Addr) (num : Int) (B : Nat → Bool) (vals : Nat → Value) (w : World) : Prop where
  cs : ∀ i c, cst i = some c → B i = true → vals i = c
  d7 : B 7 = true → ∀ j, j < 7 → B j = true
  pre : B 7 = false → Below wq.heap.size wq w
  p5 : B 5 = false → w.heap.size = wq.heap.size
  m5 : B 7 = false → B 5 = true → wq.heap.size < w.heap.size ∧ w.cell? ⟨wq.heap.size, 0, none⟩ = some (.int .i64 (-num))
  fin : B 7 = true → ∃ w', Below wq.heap.size wq w' ∧ wq.heap.size < w'.heap.size ∧ w'.cell? ⟨wq.heap.size, 0, none⟩ = some (.int .i64 (-num)) ∧ w = w'.setCell p (.slice (some ⟨wq.heap.size, 0, none⟩) 1 1)
section
variable {wq : World} {cst : Nat → Option Value} {p : Addr} {num : Int} {B : Nat → Bool} {vals : Nat → Value} {w : World}
theorem InvG.no7 (I : InvG wq cst p num B vals w) {i : Nat} (hi : i < 7) (hn : B i = false) : B 7 = false := by
  cases h : B 7 with
  | false => rfl
  | true => have := I.d7 h i hi; rw [hn] at this; cases this
theorem InvG.put (I : InvG wq cst p num B vals w) {i : Nat} (hi : i < 7) (h5 : i ≠ 5) (hn : B i = false) {v : Value} (hc : cst i = some v) : InvG wq cst p num (setBZ B i) (updV vals i v) w := by
  have h7 := I.no7 hi hn
  have e7 : setBZ B i 7 = false := by rw [setBZ_ne B (by omega)]; exact h7
  have e5 : setBZ B i 5 = B 5 := setBZ_ne B h5
  refine ⟨fun j x hj hb => ?_, fun h => (by rw [e7] at h; cases h), fun _ => I.pre h7, fun h => I.p5 (by rw [← e5]; exact h), fun _ h => I.m5 h7 (by rw [← e5]; exact h), fun h => (by rw [e7] at h; cases h)⟩
  by_cases e : i = j
  · subst e; rw [updV_at]; exact Option.some.inj (hc.symm.trans hj)
  · rw [updV_ne _ _ _ (Ne.symm e)]; rw [setBZ_ne B e] at hb; exact I.cs j x hj hb
theorem InvG.mark (I : InvG wq cst p num B vals w) (hn : B 5 = false) (hc : cst 5 = some (.slice (some ⟨wq.heap.size, 0, none⟩) 1 1)) : InvG wq cst p num (setBZ B 5) (updV vals 5 (.slice (some ⟨w.heap.size, 0, none⟩) 1 1)) (w.alloc (.cells #[.int .i64 (-num)] 3)) := by
  have h7 := I.no7 (i := 5) (by omega) hn
  have hz := I.p5 hn
  have e7 : setBZ B 5 7 = false := by rw [setBZ_ne B (by omega)]; exact h7
  refine ⟨fun j x hj hb => ?_, fun h => (by rw [e7] at h; cases h), fun _ => (I.pre h7).alloc (by omega) _, fun h => (by rw [setBZ_at] at h; cases h), fun _ _ => ⟨by simp; omega, by rw [World.cell?_alloc_at _ _ _ _ (show _ = w.heap.size from hz.symm)]; rfl⟩, fun h => (by rw [e7] at h; cases h)⟩
  by_cases e : 5 = j
  · subst e; rw [updV_at, hz]; exact Option.some.inj (hc.symm.trans hj)
  · rw [updV_ne _ _ _ (Ne.symm e)]; rw [setBZ_ne B e] at hb; exact I.cs j x hj hb
theorem InvG.last (I : InvG wq cst p num B vals w) (hn : B 7 = false) (hall : ∀ j, j < 7 → B j = true) (h7 : cst 7 = none) (v : Value) : InvG wq cst p num (setBZ B 7) (updV vals 7 v) (w.setCell p (.slice (some ⟨wq.heap.size, 0, none⟩) 1 1)) := by
  obtain ⟨m1, m2⟩ := I.m5 hn (hall 5 (by omega))
  have e5 : setBZ B 7 5 = true := by rw [setBZ_ne B (by omega)]; exact hall 5 (by omega)
  refine ⟨fun j x hj hb => ?_, fun _ j hj => ?_, fun h => (by rw [setBZ_at] at h; cases h), fun h => (by rw [e5] at h; cases h), fun h => (by rw [setBZ_at] at h; cases h), fun _ => ⟨w, I.pre hn, m1, m2, rfl⟩⟩
  · have e : (7 : Nat) ≠ j := fun e => by subst e; rw [h7] at hj; cases hj
    rw [updV_ne _ _ _ (Ne.symm e)]; rw [setBZ_ne B e] at hb; exact I.cs j x hj hb
  · rw [setBZ_ne B (by omega)]; exact hall j hj
end
structure IsFillGrid (l : List Oper) : Prop where
  len : l.length = 8
  k0 : OpAt l 0 (some 28) (.fieldAddr 207 (.tmp 3) 0) []
  k1 : OpAt l 1 (some 29) (.load 59 (.tmp 28)) [0]
  k2 : OpAt l 2 (some 30) (.move (.tmp 4)) []
  k3 : OpAt l 3 (some 31) (.fieldAddr 207 (.tmp 3) 2) []
  k4 : OpAt l 4 (some 32) (.load 3 (.tmp 31)) [3]
  k5 : OpAt l 5 (some 33) (.call { callee := .value (.func 155), args := #[.tmp 32], argTypes := #[3] }) [4]
  k6 : OpAt l 6 (some 34) (.indexAddr 59 (.tmp 29) (.tmp 30)) [1, 2]
  k7 : OpAt l 7 none (.store 22 (.tmp 34) (.tmp 33)) [0, 1, 2, 3, 4, 5, 6]
def constFGrid (hb : Nat) (g off n cap q z : Nat) (num : Int) : Nat → Option Value
  | 0 => some (.pointer (some ⟨hb, 0, none⟩)) | 1 => some (.slice (some ⟨g, off, none⟩) n cap) | 2 => some (.int .i64 (q : Int)) | 3 => some (.pointer (some ⟨hb, 2, none⟩)) | 4 => some (.int .i64 num)
  | 5 => some (.slice (some ⟨z, 0, none⟩) 1 1) | 6 => some (.pointer (some ⟨g, off + q, none⟩)) | _ => none
set_option maxHeartbeats 2000000 in
theorem fill_regionGrid {ops : List Oper} (S : IsFillGrid ops) {size : Nat} {Q : Exit → Act → World → Prop} {id : Nat} {a0 : Act} {wq : World} {hb g off n cap q : Nat} {num : Int} {xs : List Value} (hs : a0.tmps.size = size) (hB : canonB ops size = true) (e3 : a0.eval (.tmp 3) = .pointer (some ⟨hb, 0, none⟩)) (e4 : a0.eval (.tmp 4) = .int .i64 (q : Int))
    (hlt : hb < wq.heap.size) (hx0 : wq.cell? ⟨hb, 0, none⟩ = some (.slice (some ⟨g, off, none⟩) n cap)) (hx2 : wq.cell? ⟨hb, 2, none⟩ = some (.int .i64 num)) (hq : q < n) (h0 : 0 ≤ num) (h1 : num ≤ 1000000000) (hrow : Row 1 wq g off n cap xs)
    (hQ : ∀ W, Below wq.heap.size wq W → wq.heap.size < W.heap.size → W.cell? ⟨wq.heap.size, 0, none⟩ = some (.int .i64 (-num)) → Q .normal (((((((a0.put (some 28) (.pointer (some ⟨hb, 0, none⟩))).put (some 29) (.slice (some ⟨g, off, none⟩) n cap)).put (some 30) (.int .i64 (q : Int))).put (some 31) (.pointer (some ⟨hb, 2, none⟩))).put (some 32) (.int .i64 num)).put (some 33) (.slice (some ⟨wq.heap.size, 0, none⟩) 1 1)).put (some 34) (.pointer (some ⟨g, off + q, none⟩))) (W.setCell ⟨g, off + q, none⟩ (.slice (some ⟨wq.heap.size, 0, none⟩) 1 1))) :
    (Code.region id ops.toArray true).wp Tryz.prog Q a0 wq := by
  have hBd : Below wq.heap.size wq wq.drew := (Below.refl _ _).drew
  refine wp_region_canon hs mixed hB (fun listed vals w => InvG wq (constFGrid hb g off n cap q wq.heap.size num) ⟨g, off + q, none⟩ num (fun k => listed.getD k false) vals w) (fun _ => undef) ?_ ?_ ?_
  · have hf : ∀ k, (Array.replicate ops.length false).getD k false = false := fun k => by
      simp only [Array.getD_eq_getD_getElem?, Array.getElem?_replicate]
      split <;> simp
    simp only [hf]
    exact ⟨(fun _ _ _ h => by cases h), (fun h => by cases h), fun _ => hBd, fun _ => rfl, (fun _ h => by cases h), (fun h => by cases h)⟩
  · intro listed vals w a i o hz ho hn hdep I hF K hK
    have hi : i < 8 := by rw [← S.len]; exact (List.getElem?_eq_some_iff.1 ho).1
    have hset : ∀ vals' w', InvG wq (constFGrid hb g off n cap q wq.heap.size num) ⟨g, off + q, none⟩ num (setBZ (fun k => listed.getD k false) i) vals' w' → InvG wq (constFGrid hb g off n cap q wq.heap.size num) ⟨g, off + q, none⟩ num (fun k => (listed.setIfInBounds i true).getD k false) vals' w' := fun vals' w' h => by
      have e : (fun k => (listed.setIfInBounds i true).getD k false) = setBZ (fun k => listed.getD k false) i := funext fun k => getD_set (by rw [hz, S.len]; exact hi)
      rw [e]; exact h
    have hE : ∀ j u c, j < 8 → dstAt ops j = some u → listed.getD j false = true → constFGrid hb g off n cap q wq.heap.size num j = some c → a.eval (.tmp u) = c := fun j u c hj hd hl hc => (hF.new j u (by rw [S.len]; exact hj) hd hl).trans (I.cs j c hc hl)
    have hds : ∀ u, u = 3 ∨ u = 4 → ∀ j, j < 8 → dstAt ops j ≠ some u := by
      rintro u (rfl | rfl) j hj h
      all_goals
        obtain rfl | rfl | rfl | rfl | rfl | rfl | rfl | rfl : j = 0 ∨ j = 1 ∨ j = 2 ∨ j = 3 ∨ j = 4 ∨ j = 5 ∨ j = 6 ∨ j = 7 := by omega
        · rw [S.k0.dst] at h; cases h
        · rw [S.k1.dst] at h; cases h
        · rw [S.k2.dst] at h; cases h
        · rw [S.k3.dst] at h; cases h
        · rw [S.k4.dst] at h; cases h
        · rw [S.k5.dst] at h; cases h
        · rw [S.k6.dst] at h; cases h
        · rw [S.k7.dst] at h; cases h
    have ev3 : a.eval (.tmp 3) = .pointer (some ⟨hb, 0, none⟩) := (hF.old 3 (fun j hj h => absurd h (hds 3 (.inl rfl) j (by rw [← S.len]; exact hj)))).trans e3
    have ev4 : a.eval (.tmp 4) = .int .i64 (q : Int) := (hF.old 4 (fun j hj h => absurd h (hds 4 (.inr rfl) j (by rw [← S.len]; exact hj)))).trans e4
    have hP7 : ∀ j, j < 7 → listed.getD j false = false → listed.getD 7 false = false := fun j hj h => by
      cases h7 : listed.getD 7 false with
      | false => rfl
      | true => have := I.d7 h7 j hj; rw [h] at this; cases this
    obtain rfl | rfl | rfl | rfl | rfl | rfl | rfl | rfl : i = 0 ∨ i = 1 ∨ i = 2 ∨ i = 3 ∨ i = 4 ∨ i = 5 ∨ i = 6 ∨ i = 7 := by omega
    · obtain ⟨_, hop, hd'⟩ := S.k0.is (B := fun k => listed.getD k false) ho hdep
      exact wp_faGrid (.inl rfl) hop ev3 (hK _ _ (hset _ _ (I.put (by decide) (by decide) hn rfl)))
    · obtain ⟨_, hop, hd'⟩ := S.k1.is (B := fun k => listed.getD k false) ho hdep
      exact wp_ldGrid hop (hE 0 28 _ (by decide) S.k0.dst (hd' 0 (by simp)) rfl) (((I.pre (hP7 1 (by decide) hn)).cell (p := ⟨hb, 0, none⟩) hlt).trans hx0) (hK _ _ (hset _ _ (I.put (by decide) (by decide) hn rfl)))
    · obtain ⟨_, hop, hd'⟩ := S.k2.is (B := fun k => listed.getD k false) ho hdep
      exact wp_mvZ hop ev4 (hK _ _ (hset _ _ (I.put (by decide) (by decide) hn rfl)))
    · obtain ⟨_, hop, hd'⟩ := S.k3.is (B := fun k => listed.getD k false) ho hdep
      exact wp_faGrid (.inr rfl) hop ev3 (hK _ _ (hset _ _ (I.put (by decide) (by decide) hn rfl)))
    · obtain ⟨_, hop, hd'⟩ := S.k4.is (B := fun k => listed.getD k false) ho hdep
      exact wp_ldnGrid hop (hE 3 31 _ (by decide) S.k3.dst (hd' 3 (by simp)) rfl) (((I.pre (hP7 4 (by decide) hn)).cell (p := ⟨hb, 2, none⟩) hlt).trans hx2) (hK _ _ (hset _ _ (I.put (by decide) (by decide) hn rfl)))
    · obtain ⟨_, hop, hd'⟩ := S.k5.is (B := fun k => listed.getD k false) ho hdep
      exact wp_markGrid hop (hE 4 32 _ (by decide) S.k4.dst (hd' 4 (by simp)) rfl) h0 h1 (hK _ _ (hset _ _ (I.mark hn rfl)))
    · obtain ⟨_, hop, hd'⟩ := S.k6.is (B := fun k => listed.getD k false) ho hdep
      exact wp_ixGrid hop (hE 1 29 _ (by decide) S.k1.dst (hd' 1 (by simp)) rfl) (hE 2 30 _ (by decide) S.k2.dst (hd' 2 (by simp)) rfl) hq (hK _ _ (hset _ _ (I.put (by decide) (by decide) hn rfl)))
    · obtain ⟨_, hop, hd'⟩ := S.k7.is (B := fun k => listed.getD k false) ho hdep
      have hpre := I.pre hn
      have hr2 := hrow.keep hpre.size (hpre.block g hrow.lt)
      have hc1 : q < cap := by have := hr2.le; omega
      obtain ⟨h3, h4⟩ := hr2.all q (by omega)
      obtain ⟨u, hu⟩ := Option.isSome_iff_exists.1 h3
      have hall7 : ∀ j, j < 7 → listed.getD j false = true := fun j hj => hd' j (by simp; omega)
      exact wp_stGrid hop (hE 6 34 _ (by decide) S.k6.dst (hd' 6 (by simp)) rfl) (hE 5 33 _ (by decide) S.k5.dst (hd' 5 (by simp)) rfl) hu h4 (hK _ _ (hset _ _ (I.last hn hall7 rfl _)))
  · intro listed vals w hall I
    have hA : ∀ i, i < 8 → listed.getD i false = true := fun i hi => hall i (by rw [S.len]; exact hi)
    obtain ⟨W, hW, hW2, hW3, rfl⟩ := I.fin (hA 7 (by decide))
    have := hQ W hW hW2 hW3
    rw [S.len]
    have hnone : ∀ (a : Act) (v : Value), a.put none v = a := fun _ _ => rfl
    have q0 := I.cs 0 _ rfl (hA 0 (by decide))
    have q1 := I.cs 1 _ rfl (hA 1 (by decide))
    have q2 := I.cs 2 _ rfl (hA 2 (by decide))
    have q3 := I.cs 3 _ rfl (hA 3 (by decide))
    have q4 := I.cs 4 _ rfl (hA 4 (by decide))
    have q5 := I.cs 5 _ rfl (hA 5 (by decide))
    have q6 := I.cs 6 _ rfl (hA 6 (by decide))
    simp only [putsK, S.k0.dst, S.k1.dst, S.k2.dst, S.k3.dst, S.k4.dst, S.k5.dst, S.k6.dst, S.k7.dst, hnone, q0, q1, q2, q3, q4, q5, q6]
    exact this
set_option maxHeartbeats 2000000 in
set_option maxRecDepth 100000 in
theorem fillGrid_any (w : World) (B : Nat) (f : Nat → Value) (base m : Nat) (h : Nat → Held) (H : Bk w B f) (A : Arr 207 base w (f 14) m h) (lo : Nat) (hlo : lo ≤ w.heap.size) (hbl : ∀ j, j < m → ∀ b, (h j).v.ownBlock = some b → b < lo) (hR : ∀ j, j < m → RowV 1 w (h j).v (h j).n (h j).xs) (hm : m ≤ 1000000) (hlg : ∀ j, j < m → (h j).lg = .slice none 0 0)
    (hnum : ∀ j, j < m → 0 ≤ (h j).num ∧ (h j).num ≤ 1000000000) (hap : ApartV m (fun j => (h j).v)) (hB : ∀ j, j < m → (h j).v.ownBlock ≠ some B) (hA : ∀ j, j < m → ∀ k, (f 14).ownBlock = some k → (h j).v.ownBlock ≠ some k) :
    Calls Tryz.prog 74 #[.pointer (some ⟨B, 0, none⟩)] w fun e w' => e = .returned (.tuple #[]) ∧ (∀ j, j < m → RowP lo w' (h j).v (h j).n (h j).num (h j).n) ∧ Only (fun k => ∃ j, j < m ∧ (h j).v.ownBlock = some k) w w' := by
  obtain ⟨aA, cA, hvA, hmA, hcA, hat⟩ := A.at
  have HS : Hid (¬ (∃ j, j < m ∧ (h j).v.ownBlock = some B)) := fun ⟨j, hj, e⟩ => hB j hj e
  have KH := Lib.hid H
  have c2 := H.cell 14 (by omega)
  rw [hvA] at c2
  have hBl := H.lt
  have HAT := Lib.hid hat
  have HR0 := Lib.hid hR
  have HNUM := Lib.hid hnum
  have HLG := Lib.hid hlg
  have HLT : Hid (∀ b, (∃ j, j < m ∧ (h j).v.ownBlock = some b) → b < w.heap.size) := fun b ⟨j, hj, e⟩ => (hR j hj).lt b e
  have HAP := Lib.hid hap
  have HAA : Hid (∀ g, aA = some ⟨g, 0, none⟩ → ¬ (∃ j, j < m ∧ (h j).v.ownBlock = some g)) := fun g hg ⟨j, hj, e⟩ => hA j hj g (by rw [hvA, hg]; rfl) e
  have HBL := Lib.hid hbl
  clear H A hR hnum hlg hap hB hA hat hvA hbl
  go_enter Tryz.func74, Tryz.ntmps74
  go_wp2
  go_loopg [2] m (fun gg i wr => ∃ k : Nat, k ≤ m ∧ m - k ≤ gg ∧ i = .int .i64 k ∧ Hid (∀ j, j < m → RowP lo wr (h j).v (h j).n (h j).num (if j < k then (h j).n else 0)) ∧ Hid (Only (fun k => ∃ j, j < m ∧ (h j).v.ownBlock = some k) w wr))
  case atStart => exact ⟨0, Nat.zero_le _, by omega, rfl, fun j hj => by rw [if_neg (by omega)]; exact RowP.of (HR0.out j hj) _, Only.refl _ _⟩
  case round =>
    obtain ⟨k, hk, hg, rfl, HR, HO⟩ := hrel
    have c2r := (HO.out.cell hBl HS.out 14).trans c2
    by_cases hlt : k < m
    · have dkl : decide ((k : Int) < (m : Int)) = true := decide_eq_true (by omega)
      obtain ⟨gA, rfl, _, hgA, hce⟩ := HAT.out (by omega)
      obtain ⟨e0, e1, e2, _⟩ := hce k hlt
      have hns := HAA.out gA rfl
      have r0 := (HO.out.cell hgA hns (k * 3)).trans e0
      have r1 := (HO.out.cell hgA hns (k * 3 + 1)).trans e1
      have r2 := (HO.out.cell hgA hns (k * 3 + 2)).trans e2
      rw [HLG.out k hlt] at r1
      obtain ⟨aV, cV, hv, hvl, hvc, _⟩ := (HR.out k hlt).slice
      rw [hv] at r0
      have HV := Lib.hid hv
      have hn := HNUM.out k hlt
      have HR1 : Hid (∀ j, j < m → RowP lo wr (h j).v (h j).n (h j).num (if j < k then (h j).n else if j = k then 0 else 0)) := fun j hj => by
        have := HR.out j hj
        by_cases e : j < k
        · rw [if_pos e] at this ⊢; exact this
        · rw [if_neg e] at this ⊢
          rw [ite_self]; exact this
      have HW1 : Hid (w.heap.size ≤ wr.heap.size) := HO.out.size
      have hb4 : Below wr.heap.size wr (wr.alloc (.cells #[.slice aV (h k).n cV, .slice none 0 0, .int .i64 (h k).num] 207)) := (Below.refl _ _).alloc (Nat.le_refl _) _
      have HR4 : Hid (∀ j, j < m → RowP lo (wr.alloc (.cells #[.slice aV (h k).n cV, .slice none 0 0, .int .i64 (h k).num] 207)) (h j).v (h j).n (h j).num (if j < k then (h j).n else if j = k then 0 else 0)) := fun j hj => (HR1.out j hj).below hb4
      have HO4 : Hid (Only (fun k => ∃ j, j < m ∧ (h j).v.ownBlock = some k) w (wr.alloc (.cells #[.slice aV (h k).n cV, .slice none 0 0, .int .i64 (h k).num] 207))) := HO.out.trans (Only.of_below hb4)
      have X0 : Hid ((wr.alloc (.cells #[.slice aV (h k).n cV, .slice none 0 0, .int .i64 (h k).num] 207)).cell? ⟨wr.heap.size, 0, none⟩ = some (.slice aV (h k).n cV)) := by show _ = _; rw [World.cell?_alloc_at _ _ _ _ rfl]; rfl
      have X2 : Hid ((wr.alloc (.cells #[.slice aV (h k).n cV, .slice none 0 0, .int .i64 (h k).num] 207)).cell? ⟨wr.heap.size, 2, none⟩ = some (.int .i64 (h k).num)) := by show _ = _; rw [World.cell?_alloc_at _ _ _ _ rfl]; rfl
      have Z4 : Hid ((wr.alloc (.cells #[.slice aV (h k).n cV, .slice none 0 0, .int .i64 (h k).num] 207)).heap.size = wr.heap.size + 1) := by show _ = _; simp
      clear hv e0 e1 e2 hb4
      generalize hnn : (h k).n = nn at *
      generalize hmm : (h k).num = nu at *
      have HNE := Lib.hid hnn
      have HME := Lib.hid hmm
      clear hnn hmm
      go_wp2
      generalize wr.alloc (.cells #[.slice aV nn cV, .slice none 0 0, .int .i64 nu] 207) = w4 at *
      have hz4 := Z4.out
      have hw1 := HW1.out
      go_loopg [4] nn (fun gg i wv => ∃ q : Nat, q ≤ nn ∧ nn - q ≤ gg ∧ i = .int .i64 q ∧ Hid (∀ j, j < m → RowP lo wv (h j).v (h j).n (h j).num (if j < k then (h j).n else if j = k then q else 0)) ∧ Hid (Only (fun k => ∃ j, j < m ∧ (h j).v.ownBlock = some k) w4 wv))
      case atStart => exact ⟨0, Nat.zero_le _, by omega, rfl, HR4, Only.refl _ _⟩
      case round =>
        rename World => wv
        obtain ⟨q, hq, hgq, rfl, HRv, HOv⟩ := hrel
        have hnb : ¬ (∃ j, j < m ∧ (h j).v.ownBlock = some wr.heap.size) := fun e => by have := HLT.out _ e; omega
        have x0 := (HOv.out.cell (show wr.heap.size < w4.heap.size by omega) hnb 0).trans X0.out
        have x2 := (HOv.out.cell (show wr.heap.size < w4.heap.size by omega) hnb 2).trans X2.out
        have hwz : wr.heap.size < wv.heap.size := by have := HOv.out.size; omega
        by_cases hltq : q < nn
        · have dql : decide ((q : Int) < (nn : Int)) = true := decide_eq_true (by omega)
          have hqn : q < (h k).n := by rw [HNE.out]; exact hltq
          have hrow := HRv.out k hlt
          rw [if_neg (Nat.lt_irrefl k), if_pos rfl] at hrow
          obtain ⟨xs0, hrow, _⟩ := hrow
          rcases hrow with ⟨_, h2, _⟩ | ⟨g, off, cap, hvk, hrk⟩
          · omega
          have hvk2 : Value.slice aV nn cV = .slice (some ⟨g, off, none⟩) nn cap := HV.out.symm.trans (by rw [hvk, HNE.out])
          cases hvk2
          have hvk3 : (h k).v = .slice (some ⟨g, off, none⟩) (h k).n cV := hvk
          rw [HNE.out] at hrk
          have HRK := Lib.hid hrk
          have hgl : g < lo := HBL.out k hlt g (by rw [hvk3]; rfl)
          have hlw : lo ≤ wv.heap.size := by have := HO4.out.size; have := HOv.out.size; omega
          have HON : Hid (∀ W u, Below wv.heap.size wv W → Only (fun k => ∃ j, j < m ∧ (h j).v.ownBlock = some k) w4 (W.setCell ⟨g, off + q, none⟩ u)) := fun W u hW => (HOv.out.trans (Only.of_below hW)).setFar g _ _ (.inl ⟨k, hlt, by rw [hvk3]; rfl⟩)
          have HRN : Hid (∀ W, Below wv.heap.size wv W → wv.heap.size < W.heap.size → W.cell? ⟨wv.heap.size, 0, none⟩ = some (.int .i64 (-nu)) → ∀ j, j < m → RowP lo (W.setCell ⟨g, off + q, none⟩ (.slice (some ⟨wv.heap.size, 0, none⟩) 1 1)) (h j).v (h j).n (h j).num (if j < k then (h j).n else if j = k then q + 1 else 0)) := fun W hW hW2 hW3 j hj => by
            have hX := (HRv.out j hj).below hW
            by_cases e : j = k
            · subst e
              simp only [if_pos, if_neg (Nat.lt_irrefl j)] at hX ⊢
              rw [hvk3] at hX ⊢
              exact hX.put hqn hlw hW2 (by omega) (by rw [HME.out]; exact hW3)
            · simp only [if_neg e] at hX ⊢
              exact hX.other g _ _ hgl (fun b hb e2 => HAP.out j k hj hlt e b hb (by show (h k).v.ownBlock = _; rw [hvk3, e2]; rfl))
          have hqb : (q : Int) < (nn : Int) := by omega
          clear hrk hvk hvk3 hgl hlw
          go_wp2_with fail
          refine fill_regionGrid (wq := wv) (hb := wr.heap.size) (g := g) (off := off) (n := nn) (cap := cV) (q := q) (num := nu) ⟨rfl, ⟨_, rfl, rfl, rfl, by kernel_rfl⟩, ⟨_, rfl, rfl, rfl, by kernel_rfl⟩, ⟨_, rfl, rfl, rfl, by kernel_rfl⟩, ⟨_, rfl, rfl, rfl, by kernel_rfl⟩, ⟨_, rfl, rfl, rfl, by kernel_rfl⟩, ⟨_, rfl, rfl, rfl, by kernel_rfl⟩, ⟨_, rfl, rfl, rfl, by kernel_rfl⟩, ⟨_, rfl, rfl, rfl, by kernel_rfl⟩⟩ rfl (by kernel_rfl) rfl rfl hwz x0 x2 hltq hn.1 hn.2 HRK.out ?_
          intro W hW hW2 hW3
          simp only [Act.put, List.setIfInBounds_toArray, List.set_cons_succ, List.set_cons_zero]
          have HR9 := Lib.hid (HRN.out W hW hW2 hW3)
          have HO9 := Lib.hid (HON.out W (.slice (some ⟨wv.heap.size, 0, none⟩) 1 1) hW)
          clear hW hW2 hW3
          generalize W.setCell ⟨g, off + q, none⟩ (.slice (some ⟨wv.heap.size, 0, none⟩) 1 1) = w9 at *
          go_wp2
          go_roundg (nn - (q + 1))
          case measure => omega
          case rel => exact ⟨q + 1, by omega, by omega, by go_num, HR9, HO9⟩
        · have dql : decide ((q : Int) < (nn : Int)) = false := decide_eq_false (by omega)
          obtain rfl : q = nn := by omega
          have HR5 : Hid (∀ j, j < m → RowP lo wv (h j).v (h j).n (h j).num (if j < k + 1 then (h j).n else 0)) := fun j hj => by
            have := HRv.out j hj
            by_cases e : j = k
            · subst e
              rw [if_neg (Nat.lt_irrefl j), if_pos rfl] at this
              rw [if_pos (by omega)]
              rw [HNE.out] at this ⊢
              exact this
            · rw [if_neg e] at this
              by_cases e2 : j < k
              · rw [if_pos e2] at this; rw [if_pos (by omega)]; exact this
              · rw [if_neg e2] at this; rw [if_neg (by omega)]; exact this
          have HO5 := Lib.hid (HO4.out.trans HOv.out)
          go_wp2
          go_roundg (m - (k + 1))
          case measure => omega
          case rel => exact ⟨k + 1, by omega, by omega, by go_num, HR5, HO5⟩
    · have dkl : decide ((k : Int) < (m : Int)) = false := decide_eq_false (by omega)
      obtain rfl : k = m := by omega
      go_wp2
      go_returns
      exact ⟨rfl, fun j hj => by have := HR.out j hj; rw [if_pos hj] at this; exact this, HO.out⟩
end Go.Proofs.YtekejcnphmnidaaGreatDoor
