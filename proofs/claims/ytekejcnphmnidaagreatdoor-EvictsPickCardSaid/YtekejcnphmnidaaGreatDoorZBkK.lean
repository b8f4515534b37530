/-
  The Book is told of a list: contracts keepInt_any .. Printed by gen_bkkeep.py.
-/
import Derived.Test.YtekejcnphmnidaaGreatDoorZBkA
import Derived.Deep.RegionLaw
import Derived.Deep.RegionHeld3
namespace Go.Proofs.YtekejcnphmnidaaGreatDoor
open Go.RowKit

theorem Tryz.underlying37 : Tryz.prog.underlying 37 = some (.slice 148) := by kernel_rfl
theorem Tryz.info148 : (Tryz.prog.info? 148).map (fun i => (i.zero, i.size, i.bytes)) = some (some (.agg #[.slice none 0 0, .slice none 0 0, .int .i64 0]), 3, 56) := by kernel_rfl

theorem step_appInt {ops : Array Oper} {o : Oper} {a : Act} {K : Act → World → Prop} {Q : Exit → Act → World → Prop} {E : Prop} (W : World) (hgd : o.guard = none) (s t : Operand)
    (ho : o.op = .call { callee := .builtin .append, args := #[s, t], argTypes := #[37, 37] }) (base : Nat) (vA : Value) (m : Nat) (h : Nat → Held) (x : Held) (ax : Option Addr) (lx cx : Nat) (b : Nat)
    (hx : x.v = .slice ax lx cx) (hxl : x.lg = .slice none 0 0) (hown : Arr 148 base W vA m h) (hs : a.eval s = vA) (ht : a.eval t = .slice (some ⟨b, 0, none⟩) 1 1)
    (hnew : W.heap[b]? = some (.cells #[.slice ax lx cx, .slice none 0 0, .int .i64 x.num] 148 (0, 0))) (hb : base ≤ W.heap.size) (hlen : m ≤ 1000000)
    (hK : ∀ v' w', Arr 148 base w' v' (m + 1) (fun j => if j = m then x else h j) → W.grownBy w' vA.ownBlock → (v'.ownBlock = vA.ownBlock ∨ ∃ k, v'.ownBlock = some k ∧ W.heap.size ≤ k) → K (a.put o.dst v') w') :
    if Region.wanted o (yielded ops a.tmps) = true then Oper.wp Tryz.prog o a W K Q else E := by
  obtain ⟨i0, hi, hz0, hz1, hz2⟩ := info_parts Tryz.info148
  obtain ⟨vs, hrow, hvs⟩ := hown
  have hw : Region.wanted o (yielded ops a.tmps) = true := by simp [Region.wanted, hgd]
  rw [if_pos hw]
  obtain ⟨v', w', hr, hown', hgrow, _, hob⟩ := run_append_own_at (P := Tryz.prog) W base 37 o.type 148 i0 _ 3 56 Tryz.underlying37 hi hz0 hz1 hz2 rfl (by decide) vA m vs hrow ⟨b, 0, none⟩ 1 1 [.slice ax lx cx, .slice none 0 0, .int .i64 x.num] rfl (by
    intro j u hj
    match j, hj with
    | 0, hj => simp at hj; subst hj; simp [Addr.add, World.cell?, hnew]
    | 1, hj => simp at hj; subst hj; simp [Addr.add, World.cell?, hnew]
    | 2, hj => simp at hj; subst hj; simp [Addr.add, World.cell?, hnew]) (by
    intro u hu
    simp only [List.mem_cons, List.not_mem_nil, or_false] at hu
    rcases hu with rfl | rfl | rfl <;> rfl) (by unfold maxLen; omega) (by omega) hb
  unfold Oper.wp execOp
  simp only [ho, resolve, invoke, builtin, Sem.run_bind, Sem.run_pure, Result.andThen_ok, List.map_toArray, List.map_cons, List.map_nil, hs, ht, hr]
  refine hK v' w' ⟨vs ++ [.slice ax lx cx, .slice none 0 0, .int .i64 x.num], hown', fun i hil => ?_⟩ hgrow (hob.imp_right fun e => ⟨_, e, Nat.le_refl _⟩)
  have hvl : vs.length = m * 3 := hrow.1
  by_cases hlt : i < m
  · obtain ⟨e0, e1, e2⟩ := hvs i hlt
    simp only [if_neg (show ¬ i = m by omega)]
    refine ⟨?_, ?_, ?_⟩ <;> (rw [List.getElem?_append_left (by omega)]; assumption)
  · obtain rfl : i = m := by omega
    simp only [if_true, hx, hxl]
    refine ⟨?_, ?_, ?_⟩ <;> (rw [List.getElem?_append_right (by omega), hvl]; simp [Nat.add_sub_cancel_left])

set_option maxHeartbeats 1000000 in
set_option maxRecDepth 100000 in
theorem keepInt_any (w : World) (B : Nat) (f : Nat → Value) (n : Int) (base m : Nat) (h : Nat → Held) (x : Held) (ax : Option Addr) (lx cx : Nat) (H : Bk w B f) (hn : f 0 = .int .i64 n) (A : Arr 148 base w (f 2) m h)
    (hx : x.v = .slice ax lx cx) (hxl : x.lg = .slice none 0 0) (hxn : x.num = n + 1) (hB : B < base) (hbz : base ≤ w.heap.size) (hm : m ≤ 1000000) (h0 : 0 ≤ n) (h1 : n ≤ 1000000) :
    Calls Tryz.prog 60 #[.pointer (some ⟨B, 0, none⟩), .slice ax lx cx] w fun e w' => e = .returned (.tuple #[]) ∧ ∃ vA, Bk w' B (fun j => if j = 2 then vA else if j = 0 then .int .i64 (n + 1) else f j) ∧ Arr 148 base w' vA (m + 1) (fun j => if j = m then x else h j) ∧
      Only (fun k => k = B ∨ (f 2).ownBlock = some k) w w' ∧ (vA.ownBlock = (f 2).ownBlock ∨ ∃ k, vA.ownBlock = some k ∧ w.heap.size ≤ k) := by
  have hA := A.lt
  obtain ⟨aA, cA, hvA, _, _, _⟩ := A.at
  have H1 := H.set 0 (by omega) (.int .i64 (n + 1))
  have c0 := H.cell 0 (by omega)
  rw [hn] at c0
  have q0 := H.fr 0 (by omega)
  have A1 := A.keep (w' := w.setCell ⟨B, 0, none⟩ (.int .i64 (n + 1))) (fun k hk => Below.heap_setCell _ _ _ _ (by intro e; simp only at e; have := (hA k hk).1; omega))
  have O1 : Only (fun k => k = B ∨ (f 2).ownBlock = some k) w (w.setCell ⟨B, 0, none⟩ (.int .i64 (n + 1))) := Only.set B 0 _ (.inl rfl)
  have hz1 : (w.setCell ⟨B, 0, none⟩ (.int .i64 (n + 1))).heap.size = w.heap.size := by simp [World.setCell]
  rw [hvA] at A1 hA
  have HvA := Lib.hid hvA
  have KH1 := Lib.hid H1
  have KA1 := Lib.hid A1
  have KO1 := Lib.hid O1
  have KA := Lib.hid hA
  have hBl := H.lt
  clear H A hn A1 O1 hA hvA H1
  go_enter Tryz.func60, Tryz.ntmps60
  go_wp2_with fail
  generalize w.setCell ⟨B, 0, none⟩ (.int .i64 (n + 1)) = w1 at *
  have c0' : w1.drew.cell? ⟨B, 0, none⟩ = some (.int .i64 (n + 1)) := KH1.out.cell 0 (by omega)
  have c2' : w1.drew.cell? ⟨B, 2, none⟩ = some (.slice aA m cA) := by have := KH1.out.cell 2 (by omega); rw [← HvA.out]; exact this
  have c0w : w1.cell? ⟨B, 0, none⟩ = some (.int .i64 (n + 1)) := c0'
  have c2w : w1.cell? ⟨B, 2, none⟩ = some (.slice aA m cA) := c2'
  have hBd : Below w1.heap.size w1 w1.drew := (Below.refl _ _).drew
  have hBa : ∀ o, Below w1.heap.size w1 (w1.drew.alloc o) := fun o => hBd.alloc (Nat.le_refl _) o
  have HAa : Hid (∀ o, Arr 148 base (w1.drew.alloc o) (.slice aA m cA) m h) := fun o => KA1.out.keep (fun k hk => (hBa o).block k (by have := (KA.out k hk).2; omega))
  have HBa : Hid (∀ o, Bk (w1.drew.alloc o) B (fun j => if j = 0 then .int .i64 (n + 1) else f j)) := fun o => KH1.out.below (hBa o)
  have HOa : Hid (∀ o, Only (fun k => k = B ∨ (f 2).ownBlock = some k) w (w1.drew.alloc o)) := fun o => KO1.out.trans (Only.of_below (hBa o))
  have HZ := Lib.hid hz1
  clear c0 hBd hBa
  go_region_law (first
    | (refine step_appInt _ (by rfl) _ _ (by rfl) base (.slice aA m cA) m h x ax lx cx w.heap.size hx hxl (by exact HAa.out _) (by rfl) (by rfl) (by rw [hxn, ← hz1]; first | (show (w1.heap.push _)[w1.heap.size]? = _; simp) | simp) (by simp; omega) (by omega) ?_; intro v7 w7 hA7 hg7 hob7
       obtain ⟨a7, q7, rfl, _, _, _⟩ := hA7.at
       have y7 := ((HBa.out _).other hg7.size (hg7.block B (HBa.out _).lt (fun e => by have := (KA.out B e.symm).1; omega))).cell 2 (by omega)
       have z7 := ((HBa.out _).other hg7.size (hg7.block B (HBa.out _).lt (fun e => by have := (KA.out B e.symm).1; omega))).fr 2 (by omega)))
  all_goals
    go_returns
    have hbx := (HBa.out _).other hg7.size (hg7.block B (HBa.out _).lt (fun e => by have := (KA.out B e.symm).1; omega))
    have hset := hbx.set 2 (by omega) (.slice a7 (m + 1) q7)
    have ho7 : Only (fun k => k = B ∨ (f 2).ownBlock = some k) w w7 := (HOa.out _).trans (Only.grown hg7 (fun k hk => .inr (by rw [HvA.out]; exact hk)))
    have hne : ∀ k, Value.ownBlock (.slice a7 (m + 1) q7) = some k → k ≠ B := fun k hk e => by
      have := (hA7.lt k hk).1; omega
    refine ⟨rfl, .slice a7 (m + 1) q7, ?_, ?_, ?_, ?_⟩
    · refine ⟨hset.lt, fun j hj => ?_, hset.fr⟩
      rw [hset.cell j hj]
    · exact hA7.keep (fun k hk => Below.heap_setCell _ _ _ _ (by intro e; simp only at e; exact hne k hk e))
    · exact ho7.trans (Only.set B 2 _ (.inl rfl))
    · rw [HvA.out]
      refine hob7.imp_right fun ⟨k, hk, hz⟩ => ⟨k, hk, ?_⟩
      have h := HZ.out
      simp at hz; omega

end Go.Proofs.YtekejcnphmnidaaGreatDoor
