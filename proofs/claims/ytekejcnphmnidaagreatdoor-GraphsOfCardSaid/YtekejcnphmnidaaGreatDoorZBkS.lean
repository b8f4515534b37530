import Derived.Test.YtekejcnphmnidaaGreatDoorZBkA
import Derived.Deep.RegionLaw
import Derived.Deep.RegionHeld3
import Derived.StillTail
import Derived.StillTailTactics
namespace Go.Proofs.YtekejcnphmnidaaGreatDoor
open Go.RowKit
theorem Tryz.underlying37 : Tryz.prog.underlying 37 = some (.slice 148) := by kernel_rfl
theorem Tryz.info148 : (Tryz.prog.info? 148).map (fun i => (i.zero, i.size, i.bytes)) = some (some (.agg #[.slice none 0 0, .slice none 0 0, .int .i64 0]), 3, 56) := by kernel_rfl
theorem step_appInt {ops : Array Oper} {o : Oper} {a : Act} {K : Act → World → Prop} {Q : Exit → Act → World → Prop} {E : Prop} (W : World) (hgd : o.guard = none) (s t : Operand)
    (ho : o.op = .call { callee := .builtin .append, args := #[s, t], argTypes := #[37, 37] }) (base : Nat) (vA : Value) (m : Nat) (h : Nat → Held) (x : Held) (ax : Option Addr) (lx cx : Nat) (b : Nat)
    (hx : x.v = .slice ax lx cx) (hxl : x.lg = .slice none 0 0) (hown : Arr 148 base W vA m h) (hs : a.eval s = vA) (ht : a.eval t = .slice (some ⟨b, 0, none⟩) 1 1)
    (hnew : W.heap[b]? = some (.cells #[.slice ax lx cx, .slice none 0 0, .int .i64 x.num] 148 (0, 0))) (hb : base ≤ W.heap.size) (hlen : m ≤ 1000000)
    (hK : ∀ v' w', Arr 148 base w' v' (m + 1) (fun j => if j = m then x else h j) → W.grownBy w' vA.ownBlock → (v'.ownBlock = vA.ownBlock ∨ ∃ k, v'.ownBlock = some k ∧ W.heap.size ≤ k) → K (a.put o.dst v') w') :
    if Region.wanted o (yielded ops a.tmps) = true then Oper.wp Tryz.prog o a W K Q else E := by
  obtain ⟨i0, hi, hz0, hz1, hz2⟩ := info_parts Tryz.info148
  obtain ⟨vs, hrow, hvs⟩ := hown
  have hw : Region.wanted o (yielded ops a.tmps) = true := by simp [Region.wanted, hgd]
  rw [if_pos hw]
  obtain ⟨v', w', hr, hown', hgrow, _, hob⟩ := run_append_own_at (P := Tryz.prog) W base 37 o.type 148 i0 _ 3 56 Tryz.underlying37 hi hz0 hz1 hz2 rfl (by decide) vA m vs hrow ⟨b, 0, none⟩ 1 1 [.slice ax lx cx, .slice none 0 0, .int .i64 x.num] rfl (by
    intro j u hj
    match j, hj with
    | 0, hj => simp at hj; subst hj; simp [Addr.add, World.cell?, hnew]
    | 1, hj => simp at hj; subst hj; simp [Addr.add, World.cell?, hnew]
    | 2, hj => simp at hj; subst hj; simp [Addr.add, World.cell?, hnew]) (by
    intro u hu
    simp only [List.mem_cons, List.not_mem_nil, or_false] at hu
    rcases hu with rfl | rfl | rfl <;> rfl) (by unfold maxLen; omega) (by omega) hb
  unfold Oper.wp execOp
  simp only [ho, resolve, invoke, builtin, Sem.run_bind, Sem.run_pure, Result.andThen_ok, List.map_toArray, List.map_cons, List.map_nil, hs, ht, hr]
  refine hK v' w' ⟨vs ++ [.slice ax lx cx, .slice none 0 0, .int .i64 x.num], hown', fun i hil => ?_⟩ hgrow (hob.imp_right fun e => ⟨_, e, Nat.le_refl _⟩)
  have hvl : vs.length = m * 3 := hrow.1
  by_cases hlt : i < m
  · obtain ⟨e0, e1, e2⟩ := hvs i hlt
    simp only [if_neg (show ¬ i = m by omega)]
    refine ⟨?_, ?_, ?_⟩ <;> (rw [List.getElem?_append_left (by omega)]; assumption)
  · obtain rfl : i = m := by omega
    simp only [if_true, hx, hxl]
    refine ⟨?_, ?_, ?_⟩ <;> (rw [List.getElem?_append_right (by omega), hvl]; simp [Nat.add_sub_cancel_left])
set_option maxHeartbeats 1000000 in
set_option maxRecDepth 100000 in
theorem keepInt_any (w : World) (B : Nat) (f : Nat → Value) (n : Int) (base m : Nat) (h : Nat → Held) (x : Held) (ax : Option Addr) (lx cx : Nat) (H : Bk w B f) (hn : f 0 = .int .i64 n) (A : Arr 148 base w (f 2) m h)
    (hx : x.v = .slice ax lx cx) (hxl : x.lg = .slice none 0 0) (hxn : x.num = n + 1) (hB : B < base) (hbz : base ≤ w.heap.size) (hm : m ≤ 1000000) (h0 : 0 ≤ n) (h1 : n ≤ 1000000) :
    Calls Tryz.prog 60 #[.pointer (some ⟨B, 0, none⟩), .slice ax lx cx] w fun e w' => e = .returned (.tuple #[]) ∧ ∃ vA, Bk w' B (fun j => if j = 2 then vA else if j = 0 then .int .i64 (n + 1) else f j) ∧ Arr 148 base w' vA (m + 1) (fun j => if j = m then x else h j) ∧
      Only (fun k => k = B ∨ (f 2).ownBlock = some k) w w' ∧ (vA.ownBlock = (f 2).ownBlock ∨ ∃ k, vA.ownBlock = some k ∧ w.heap.size ≤ k) := by
  have hA := A.lt
  obtain ⟨aA, cA, hvA, _, _, _⟩ := A.at
  have H1 := H.set 0 (by omega) (.int .i64 (n + 1))
  have c0 := H.cell 0 (by omega)
  rw [hn] at c0
  have q0 := H.fr 0 (by omega)
  have A1 := A.keep (w' := w.setCell ⟨B, 0, none⟩ (.int .i64 (n + 1))) (fun k hk => Below.heap_setCell _ _ _ _ (by intro e; simp only at e; have := (hA k hk).1; omega))
  have O1 : Only (fun k => k = B ∨ (f 2).ownBlock = some k) w (w.setCell ⟨B, 0, none⟩ (.int .i64 (n + 1))) := Only.set B 0 _ (.inl rfl)
  have hz1 : (w.setCell ⟨B, 0, none⟩ (.int .i64 (n + 1))).heap.size = w.heap.size := by simp [World.setCell]
  rw [hvA] at A1 hA
  have HvA := Lib.hid hvA
  have KH1 := Lib.hid H1
  have KA1 := Lib.hid A1
  have KO1 := Lib.hid O1
  have KA := Lib.hid hA
  have hBl := H.lt
  clear H A hn A1 O1 hA hvA H1
  go_enter Tryz.func60, Tryz.ntmps60
  go_wp2_with fail
  generalize w.setCell ⟨B, 0, none⟩ (.int .i64 (n + 1)) = w1 at *
  have c0' : w1.drew.cell? ⟨B, 0, none⟩ = some (.int .i64 (n + 1)) := KH1.out.cell 0 (by omega)
  have c2' : w1.drew.cell? ⟨B, 2, none⟩ = some (.slice aA m cA) := by have := KH1.out.cell 2 (by omega); rw [← HvA.out]; exact this
  have c0w : w1.cell? ⟨B, 0, none⟩ = some (.int .i64 (n + 1)) := c0'
  have c2w : w1.cell? ⟨B, 2, none⟩ = some (.slice aA m cA) := c2'
  have hBd : Below w1.heap.size w1 w1.drew := (Below.refl _ _).drew
  have hBa : ∀ o, Below w1.heap.size w1 (w1.drew.alloc o) := fun o => hBd.alloc (Nat.le_refl _) o
  have HAa : Hid (∀ o, Arr 148 base (w1.drew.alloc o) (.slice aA m cA) m h) := fun o => KA1.out.keep (fun k hk => (hBa o).block k (by have := (KA.out k hk).2; omega))
  have HBa : Hid (∀ o, Bk (w1.drew.alloc o) B (fun j => if j = 0 then .int .i64 (n + 1) else f j)) := fun o => KH1.out.below (hBa o)
  have HOa : Hid (∀ o, Only (fun k => k = B ∨ (f 2).ownBlock = some k) w (w1.drew.alloc o)) := fun o => KO1.out.trans (Only.of_below (hBa o))
  have HZ := Lib.hid hz1
  clear c0 hBd hBa
  go_region_law (first
    | (refine step_appInt _ (by rfl) _ _ (by rfl) base (.slice aA m cA) m h x ax lx cx w.heap.size hx hxl (by exact HAa.out _) (by rfl) (by rfl) (by rw [hxn, ← hz1]; first | (show (w1.heap.push _)[w1.heap.size]? = _; simp) | simp) (by simp; omega) (by omega) ?_; intro v7 w7 hA7 hg7 hob7
       obtain ⟨a7, q7, rfl, _, _, _⟩ := hA7.at
       have y7 := ((HBa.out _).other hg7.size (hg7.block B (HBa.out _).lt (fun e => by have := (KA.out B e.symm).1; omega))).cell 2 (by omega)
       have z7 := ((HBa.out _).other hg7.size (hg7.block B (HBa.out _).lt (fun e => by have := (KA.out B e.symm).1; omega))).fr 2 (by omega)))
  all_goals
    go_returns
    have hbx := (HBa.out _).other hg7.size (hg7.block B (HBa.out _).lt (fun e => by have := (KA.out B e.symm).1; omega))
    have hset := hbx.set 2 (by omega) (.slice a7 (m + 1) q7)
    have ho7 : Only (fun k => k = B ∨ (f 2).ownBlock = some k) w w7 := (HOa.out _).trans (Only.grown hg7 (fun k hk => .inr (by rw [HvA.out]; exact hk)))
    have hne : ∀ k, Value.ownBlock (.slice a7 (m + 1) q7) = some k → k ≠ B := fun k hk e => by
      have := (hA7.lt k hk).1; omega
    refine ⟨rfl, .slice a7 (m + 1) q7, ?_, ?_, ?_, ?_⟩
    · refine ⟨hset.lt, fun j hj => ?_, hset.fr⟩
      rw [hset.cell j hj]
    · exact hA7.keep (fun k hk => Below.heap_setCell _ _ _ _ (by intro e; simp only at e; exact hne k hk e))
    · exact ho7.trans (Only.set B 2 _ (.inl rfl))
    · rw [HvA.out]
      refine hob7.imp_right fun ⟨k, hk, hz⟩ => ⟨k, hk, ?_⟩
      have h := HZ.out
      simp at hz; omega
end Go.Proofs.YtekejcnphmnidaaGreatDoor

namespace Go.Proofs.YtekejcnphmnidaaGreatDoor
open Go.RowKit
theorem markInt_any (n : Int) (w : World) (h0 : 0 ≤ n) (h1 : n ≤ 1000000000) : Calls Tryz.prog 143 #[.int .i64 n] w fun e w' => e = .returned (.int .i64 (-n)) ∧ w = w' := by
  go_enter Tryz.func143, Tryz.ntmps143
  go_wp2
  go_ret
  exact ⟨by first | rfl | go_num, rfl⟩
theorem isInt_any (x n : Int) (w : World) (h0 : 0 ≤ n) (h1 : n ≤ 1000000000) : Calls Tryz.prog 158 #[.int .i64 x, .int .i64 n] w fun e w' => e = .returned (.bool (x == -n)) ∧ w = w' := by
  go_enter Tryz.func158, Tryz.ntmps158
  go_wp2
  go_ret
  exact ⟨rfl, rfl⟩
def Held.mark (h : Held) : Value := .int .i64 (-h.num)
def Held.part (h : Held) (k : Nat) : List Value := List.replicate k h.mark ++ h.xs.drop k
theorem Held.part_zero (h : Held) : h.part 0 = h.xs := by simp [Held.part]
theorem Held.part_all (h : Held) (n : Nat) (hn : h.xs.length = n) : h.part n = List.replicate n h.mark := by unfold Held.part; rw [List.drop_eq_nil_of_le (by omega), List.append_nil]
theorem Held.part_next (h : Held) (k : Nat) (hk : k < h.xs.length) : (h.part k).set k h.mark = h.part (k + 1) := by
  unfold Held.part
  rw [List.set_append_right _ _ (by simp), List.length_replicate, Nat.sub_self, List.drop_eq_getElem_cons hk, List.set_cons_zero, List.replicate_succ', List.append_assoc]
  rfl
def ApartV (m : Nat) (v : Nat → Value) : Prop := ∀ i j, i < m → j < m → i ≠ j → ∀ b, (v i).ownBlock = some b → (v j).ownBlock ≠ some b
theorem rows_put {m : Nat} {w : World} {h : Nat → Held} {X : Nat → List Value} (hR : ∀ j, j < m → RowV 1 w (h j).v (h j).n (X j)) (hap : ApartV m (fun j => (h j).v)) {k : Nat} (hk : k < m) {g off cap : Nat} (hv : (h k).v = .slice (some ⟨g, off, none⟩) (h k).n cap)
    {q : Nat} (hq : q < (h k).n) (u : Value) : ∀ j, j < m → RowV 1 (w.setCell ⟨g, off + q, none⟩ u) (h j).v (h j).n (if j = k then (X k).set q u else X j) := by
  intro j hj
  by_cases e : j = k
  · subst e
    rw [if_pos rfl]
    rcases hR j hj with ⟨h1, h2, _⟩ | ⟨g', off', cap', h1, h2⟩
    · omega
    · rw [hv] at h1
      cases h1
      exact .inr ⟨g, off, cap, hv, h2.set q (by omega) u⟩
  · rw [if_neg e]
    refine (hR j hj).keep (by simp [World.setCell]) (fun b hb => Below.heap_setCell _ _ _ _ ?_)
    intro e2
    simp only at e2
    exact hap j k hj hk e b hb (by show (h k).v.ownBlock = _; rw [hv]; show some g = some b; rw [e2])
set_option maxHeartbeats 2000000 in
set_option maxRecDepth 100000 in
theorem fillInt_any (w : World) (B : Nat) (f : Nat → Value) (base m : Nat) (h : Nat → Held) (H : Bk w B f) (A : Arr 148 base w (f 2) m h) (hR : ∀ j, j < m → RowV 1 w (h j).v (h j).n (h j).xs) (hm : m ≤ 1000000) (hlg : ∀ j, j < m → (h j).lg = .slice none 0 0)
    (hnum : ∀ j, j < m → 0 ≤ (h j).num ∧ (h j).num ≤ 1000000000) (hap : ApartV m (fun j => (h j).v)) (hB : ∀ j, j < m → (h j).v.ownBlock ≠ some B) (hA : ∀ j, j < m → ∀ k, (f 2).ownBlock = some k → (h j).v.ownBlock ≠ some k) :
    Calls Tryz.prog 62 #[.pointer (some ⟨B, 0, none⟩)] w fun e w' => e = .returned (.tuple #[]) ∧ (∀ j, j < m → RowV 1 w' (h j).v (h j).n (List.replicate (h j).n (h j).mark)) ∧ Only (fun k => ∃ j, j < m ∧ (h j).v.ownBlock = some k) w w' := by
  obtain ⟨aA, cA, hvA, hmA, hcA, hat⟩ := A.at
  have HS : Hid (¬ (∃ j, j < m ∧ (h j).v.ownBlock = some B)) := fun ⟨j, hj, e⟩ => hB j hj e
  have KH := Lib.hid H
  have c2 := H.cell 2 (by omega)
  rw [hvA] at c2
  have hBl := H.lt
  have HAT := Lib.hid hat
  have HR0 := Lib.hid hR
  have HNUM := Lib.hid hnum
  have HLG := Lib.hid hlg
  have HLT : Hid (∀ b, (∃ j, j < m ∧ (h j).v.ownBlock = some b) → b < w.heap.size) := fun b ⟨j, hj, e⟩ => (hR j hj).lt b e
  have HAP := Lib.hid hap
  have HAA : Hid (∀ g, aA = some ⟨g, 0, none⟩ → ¬ (∃ j, j < m ∧ (h j).v.ownBlock = some g)) := fun g hg ⟨j, hj, e⟩ => hA j hj g (by rw [hvA, hg]; rfl) e
  clear H A hR hnum hlg hap hB hA hat hvA
  go_enter Tryz.func62, Tryz.ntmps62
  go_wp2
  go_loopg [2] m (fun gg i wr => ∃ k : Nat, k ≤ m ∧ m - k ≤ gg ∧ i = .int .i64 k ∧ Hid (∀ j, j < m → RowV 1 wr (h j).v (h j).n (if j < k then List.replicate (h j).n (h j).mark else (h j).xs)) ∧ Hid (Only (fun k => ∃ j, j < m ∧ (h j).v.ownBlock = some k) w wr))
  case atStart => exact ⟨0, Nat.zero_le _, by omega, rfl, fun j hj => by rw [if_neg (by omega)]; exact HR0.out j hj, Only.refl _ _⟩
  case round =>
    obtain ⟨k, hk, hg, rfl, HR, HO⟩ := hrel
    have c2r := (HO.out.cell hBl HS.out 2).trans c2
    by_cases hlt : k < m
    · have dkl : decide ((k : Int) < (m : Int)) = true := decide_eq_true (by omega)
      obtain ⟨gA, rfl, _, hgA, hce⟩ := HAT.out (by omega)
      obtain ⟨e0, e1, e2, _⟩ := hce k hlt
      have hns := HAA.out gA rfl
      have r0 := (HO.out.cell hgA hns (k * 3)).trans e0
      have r1 := (HO.out.cell hgA hns (k * 3 + 1)).trans e1
      have r2 := (HO.out.cell hgA hns (k * 3 + 2)).trans e2
      rw [HLG.out k hlt] at r1
      obtain ⟨aV, cV, hv, hvl, hvc, _⟩ := (HR.out k hlt).slice
      rw [hv] at r0
      have HV := Lib.hid hv
      have hn := HNUM.out k hlt
      have HLN : Hid ((h k).xs.length = (h k).n) := by
        show _ = _
        rcases HR0.out k hlt with ⟨_, h2, h3⟩ | ⟨_, _, _, _, h2⟩
        · rw [h2, h3]; rfl
        · have := h2.len; omega
      have HMK : Hid ((h k).mark = .int .i64 (-(h k).num)) := rfl
      have HR1 : Hid (∀ j, j < m → RowV 1 wr (h j).v (h j).n (if j < k then List.replicate (h j).n (h j).mark else if j = k then (h j).part 0 else (h j).xs)) := fun j hj => by
        have := HR.out j hj
        by_cases e : j < k
        · rw [if_pos e] at this ⊢; exact this
        · rw [if_neg e] at this ⊢
          by_cases e2 : j = k
          · rw [if_pos e2, Held.part_zero]; exact this
          · rw [if_neg e2]; exact this
      have HW1 : Hid (w.heap.size ≤ wr.heap.size) := HO.out.size
      have hb4 : Below wr.heap.size wr (wr.alloc (.cells #[.slice aV (h k).n cV, .slice none 0 0, .int .i64 (h k).num] 148)) := (Below.refl _ _).alloc (Nat.le_refl _) _
      have HR4 : Hid (∀ j, j < m → RowV 1 (wr.alloc (.cells #[.slice aV (h k).n cV, .slice none 0 0, .int .i64 (h k).num] 148)) (h j).v (h j).n (if j < k then List.replicate (h j).n (h j).mark else if j = k then (h j).part 0 else (h j).xs)) := fun j hj => (HR1.out j hj).keep hb4.size (fun b hb => hb4.block b ((HR1.out j hj).lt b hb))
      have HO4 : Hid (Only (fun k => ∃ j, j < m ∧ (h j).v.ownBlock = some k) w (wr.alloc (.cells #[.slice aV (h k).n cV, .slice none 0 0, .int .i64 (h k).num] 148))) := HO.out.trans (Only.of_below hb4)
      have X0 : Hid ((wr.alloc (.cells #[.slice aV (h k).n cV, .slice none 0 0, .int .i64 (h k).num] 148)).cell? ⟨wr.heap.size, 0, none⟩ = some (.slice aV (h k).n cV)) := by show _ = _; rw [World.cell?_alloc_at _ _ _ _ rfl]; rfl
      have X2 : Hid ((wr.alloc (.cells #[.slice aV (h k).n cV, .slice none 0 0, .int .i64 (h k).num] 148)).cell? ⟨wr.heap.size, 2, none⟩ = some (.int .i64 (h k).num)) := by show _ = _; rw [World.cell?_alloc_at _ _ _ _ rfl]; rfl
      have Z4 : Hid ((wr.alloc (.cells #[.slice aV (h k).n cV, .slice none 0 0, .int .i64 (h k).num] 148)).heap.size = wr.heap.size + 1) := by show _ = _; simp
      clear hv e0 e1 e2 hb4
      have HNN : Hid ((h k).n = (h k).n) := rfl
      generalize hnn : (h k).n = nn at *
      generalize hmm : (h k).num = nu at *
      have HNE := Lib.hid hnn
      have HME := Lib.hid hmm
      clear hnn hmm
      go_wp2
      generalize wr.alloc (.cells #[.slice aV nn cV, .slice none 0 0, .int .i64 nu] 148) = w4 at *
      have hz4 := Z4.out
      have hw1 := HW1.out
      go_loopg [4] nn (fun gg i wv => ∃ q : Nat, q ≤ nn ∧ nn - q ≤ gg ∧ i = .int .i64 q ∧ Hid (∀ j, j < m → RowV 1 wv (h j).v (h j).n (if j < k then List.replicate (h j).n (h j).mark else if j = k then (h j).part q else (h j).xs)) ∧ Hid (Only (fun k => ∃ j, j < m ∧ (h j).v.ownBlock = some k) w4 wv))
      case atStart => exact ⟨0, Nat.zero_le _, by omega, rfl, HR4, Only.refl _ _⟩
      case round =>
        rename World => wv
        obtain ⟨q, hq, hgq, rfl, HRv, HOv⟩ := hrel
        have hnb : ¬ (∃ j, j < m ∧ (h j).v.ownBlock = some wr.heap.size) := fun e => by have := HLT.out _ e; omega
        have x0 := (HOv.out.cell (show wr.heap.size < w4.heap.size by omega) hnb 0).trans X0.out
        have x2 := (HOv.out.cell (show wr.heap.size < w4.heap.size by omega) hnb 2).trans X2.out
        by_cases hltq : q < nn
        · have dql : decide ((q : Int) < (nn : Int)) = true := decide_eq_true (by omega)
          have hqn : q < (h k).n := by rw [HNE.out]; exact hltq
          have hrow := HRv.out k hlt
          rw [if_neg (Nat.lt_irrefl k), if_pos rfl] at hrow
          rcases hrow with ⟨_, h2, _⟩ | ⟨g, off, cap, hvk, hrk⟩
          · omega
          have hvk2 : Value.slice aV nn cV = .slice (some ⟨g, off, none⟩) nn cap := HV.out.symm.trans (by rw [hvk, HNE.out])
          cases hvk2
          have hvk3 : (h k).v = .slice (some ⟨g, off, none⟩) (h k).n cV := hvk
          have hal := hrk.all q (by have := hrk.le; omega)
          obtain ⟨y, hy⟩ := Option.isSome_iff_exists.1 hal.1
          have fz := hal.2
          have HPUT := Lib.hid (rows_put HRv.out HAP.out hlt hvk3 hqn (.int .i64 (-nu)))
          have HOS : Hid (Only (fun k => ∃ j, j < m ∧ (h j).v.ownBlock = some k) w4 (wv.setCell ⟨g, off + q, none⟩ (.int .i64 (-nu)))) := HOv.out.trans (Only.set g (off + q) _ ⟨k, hlt, by rw [hvk3]; rfl⟩)
          have HRN : Hid (∀ j, j < m → RowV 1 (wv.setCell ⟨g, off + q, none⟩ (.int .i64 (-nu))) (h j).v (h j).n (if j < k then List.replicate (h j).n (h j).mark else if j = k then (h j).part (q + 1) else (h j).xs)) := fun j hj => by
            have := HPUT.out j hj
            by_cases e : j = k
            · subst e
              rw [if_pos rfl, if_neg (Nat.lt_irrefl j), if_pos rfl] at this
              rw [if_neg (Nat.lt_irrefl j), if_pos rfl]
              have hp := (h j).part_next q (by rw [HLN.out]; exact hltq)
              rw [HMK.out] at hp
              rw [hp] at this
              exact this
            · rw [if_neg e, if_neg e] at this
              rw [if_neg e]
              exact this
          have HMC : Hid (Calls Tryz.prog 143 #[.int .i64 nu] wv.drew fun e w' => e = .returned (.int .i64 (-nu)) ∧ w' = wv.drew) := (markInt_any nu wv.drew hn.1 hn.2).mono fun _ _ ⟨he, hw⟩ => ⟨he, hw.symm⟩
          have hqb : (q : Int) < (nn : Int) := by omega
          clear hrk hvk hvk3 hal HPUT
          go_wp2_with fail
          refine wp_region_still_tail 7 mixed (by kernel_rfl) ?_
          simp only [List.take_succ_cons, List.take_zero, List.drop_succ_cons, List.drop_zero]
          change wpStill _ _ wv.drew _ _ _
          repeat still_step
          still_call HMC.out
          repeat still_step
          refine wpStill_nil ?_
          change wpList _ _ _ _ _ wv.drew
          go_wp2
          go_roundg (nn - (q + 1))
          case measure => omega
          case rel => exact ⟨q + 1, by omega, by omega, by go_num, fun j hj => (HRN.out j hj).keep (Nat.le_refl _) (fun _ _ => rfl), HOS.out.trans (Only.of_below (Below.refl _ _).drew)⟩
        · have dql : decide ((q : Int) < (nn : Int)) = false := decide_eq_false (by omega)
          obtain rfl : q = nn := by omega
          have HR5 : Hid (∀ j, j < m → RowV 1 wv (h j).v (h j).n (if j < k + 1 then List.replicate (h j).n (h j).mark else (h j).xs)) := fun j hj => by
            have := HRv.out j hj
            by_cases e : j = k
            · subst e
              rw [if_neg (Nat.lt_irrefl j), if_pos rfl, Held.part_all _ _ HLN.out] at this
              rw [if_pos (by omega), HNE.out]
              rw [HNE.out] at this
              exact this
            · rw [if_neg e] at this
              by_cases e2 : j < k
              · rw [if_pos e2] at this; rw [if_pos (by omega)]; exact this
              · rw [if_neg e2] at this; rw [if_neg (by omega)]; exact this
          have HO5 := Lib.hid (HO4.out.trans HOv.out)
          go_wp2
          go_roundg (m - (k + 1))
          case measure => omega
          case rel => exact ⟨k + 1, by omega, by omega, by go_num, HR5, HO5⟩
    · have dkl : decide ((k : Int) < (m : Int)) = false := decide_eq_false (by omega)
      obtain rfl : k = m := by omega
      go_wp2
      go_returns
      exact ⟨rfl, fun j hj => by have := HR.out j hj; rw [if_pos hj] at this; exact this, HO.out⟩
end Go.Proofs.YtekejcnphmnidaaGreatDoor

namespace Go.Proofs.YtekejcnphmnidaaGreatDoor
open Go.RowKit
theorem Only.setFar {S : Nat → Prop} {w w1 : World} (h : Only S w w1) (g o : Nat) (u : Value) (hg : S g ∨ w.heap.size ≤ g) : Only S w (w1.setCell ⟨g, o, none⟩ u) :=
  ⟨h.os, h.tape, h.output, by simp [World.setCell]; exact h.size, fun k hk hs => (Below.heap_setCell _ _ _ _ (by intro e; simp only at e; subst e; rcases hg with h1 | h1; exact hs h1; omega)).trans (h.block k hk hs)⟩
theorem wpList_pushV {ops : Array Oper} {rest : List Oper} {o : Oper} {a : Act} {Q : Exit → Act → World → Prop} (w : World) (hgd : o.guard = none) (s t : Operand)
    (ho : o.op = .call { callee := .builtin .append, args := #[s, t], argTypes := #[22, 22] }) (v : Value) (n : Nat) (xs : List Value) (x : Int) (b : Nat)
    (hrow : RowV 1 w v n xs) (hs : a.eval s = v) (ht : a.eval t = .slice (some ⟨b, 0, none⟩) 1 1) (hb : w.cell? ⟨b, 0, none⟩ = some (.int .i64 x)) (hlen : n ≤ 10000000)
    (hK : ∀ v' w', RowV 1 w' v' (n + 1) (xs ++ [.int .i64 x]) →
      ((∃ g off cap, v = .slice (some ⟨g, off, none⟩) n cap ∧ v' = .slice (some ⟨g, off, none⟩) (n + 1) cap ∧ n < cap ∧ w' = w.setCell ⟨g, off + n, none⟩ (.int .i64 x)) ∨ (Only (fun _ => False) w w' ∧ ∃ k, v'.ownBlock = some k ∧ w.heap.size ≤ k)) →
      wpList Tryz.prog ops Q rest (a.put o.dst v') w') :
    wpList Tryz.prog ops Q (o :: rest) a w := by
  obtain ⟨i0, hi, hz0, hz1, hz2⟩ := info_parts Tryz.info3
  have hnews : ∀ j u, ([.int .i64 x] : List Value)[j]? = some u → w.cell? ((⟨b, 0, none⟩ : Addr).add j) = some u := fun j u hj => by
    match j, hj with
    | 0, hj => simp at hj; subst hj; simpa [Addr.add] using hb
  have hone : ∀ u ∈ ([.int .i64 x] : List Value), u.oneCell' = true := fun u hu => by simp at hu; subst hu; rfl
  rcases hrow with ⟨rfl, rfl, rfl⟩ | ⟨g, off, cap, rfl, hr⟩
  · refine wpList_append_grows w hgd s t 22 ho 3 i0 (.int .i64 0) 1 8 Tryz.underlying22 hi hz0 hz1 hz2 rfl (by decide) none 0 0 [] hs (fun _ => ⟨rfl, rfl⟩) rfl (fun b hb => by cases hb) ⟨b, 0, none⟩ 1 1 [.int .i64 x] ht rfl hnews hone (by omega) (by unfold maxLen; omega) (by omega) ?_
    intro v' w' hown hg
    refine hK v' w' (RowV.of_owns hown) (.inr ⟨Only.grown hg (fun k hk => by cases hk), ?_⟩)
    obtain ⟨g', cap', rfl, h1, _⟩ := hown.form (by omega)
    exact ⟨g', rfl, h1⟩
  · refine wpList_append_arg w hgd s t 22 ho 3 i0 (.int .i64 0) 1 8 Tryz.underlying22 hi hz0 hz1 hz2 rfl (by decide) g off n cap xs hs hr.len hr.cell ⟨b, 0, none⟩ 1 1 [.int .i64 x] ht rfl hnews hone ?_ (by unfold maxLen; omega) (by omega) ?_ ?_
    · intro hc j hj
      have hj0 : j = 0 := by simp at hj; omega
      subst hj0
      have := hr.all (n * 1) (by omega)
      rw [Nat.add_zero]; exact this
    · intro hc
      have e : w.setCells g (off + n * 1) [.int .i64 x] = w.setCell ⟨g, off + n, none⟩ (.int .i64 x) := by rw [Nat.mul_one]; rfl
      rw [e]
      exact hK _ _ (.inr ⟨g, off, cap, rfl, hr.push1 (by omega) _⟩) (.inl ⟨g, off, cap, rfl, rfl, by omega, rfl⟩)
    · intro _ v' w' hown hg
      refine hK v' w' (RowV.of_owns hown) (.inr ⟨Only.grown hg (fun k hk => by cases hk), ?_⟩)
      obtain ⟨g', cap', rfl, h1, _⟩ := hown.form (by omega)
      exact ⟨g', rfl, h1⟩
set_option maxHeartbeats 4000000 in
set_option maxRecDepth 100000 in
theorem growInt_any (w : World) (B : Nat) (f : Nat → Value) (base m : Nat) (h : Nat → Held) (H : Bk w B f) (A : Arr 148 base w (f 2) m h) (hR : ∀ j, j < m → RowV 1 w (h j).v (h j).n (List.replicate (h j).n (h j).mark)) (hm : m ≤ 1000000) (hn : ∀ j, j < m → (h j).n ≤ 1000000)
    (hlg : ∀ j, j < m → (h j).lg = .slice none 0 0) (hnum : ∀ j, j < m → 0 ≤ (h j).num ∧ (h j).num ≤ 1000000000) (hap : ApartV m (fun j => (h j).v)) (hB : ∀ j, j < m → (h j).v.ownBlock ≠ some B) (hA : ∀ j, j < m → ∀ k, (f 2).ownBlock = some k → (h j).v.ownBlock ≠ some k) (hAB : (f 2).ownBlock ≠ some B) :
    Calls Tryz.prog 77 #[.pointer (some ⟨B, 0, none⟩)] w fun e w' => e = .returned (.tuple #[]) ∧ ∃ lgs : Nat → Value, Arr 148 base w' (f 2) m (fun j => { h j with lg := lgs j }) ∧ (∀ j, j < m → RowV 1 w' (h j).v (h j).n (List.replicate (h j).n (h j).mark)) ∧
      (∀ j, j < m → RowV 1 w' (lgs j) ((h j).n + 40) (List.replicate ((h j).n + 40) (h j).mark)) ∧ Only (fun b => (∃ j, j < m ∧ (h j).v.ownBlock = some b) ∨ (f 2).ownBlock = some b) w w' ∧ (∀ j, j < m → ∀ b, (lgs j).ownBlock = some b → (h j).v.ownBlock = some b ∨ w.heap.size ≤ b) := by
  obtain ⟨aA, cA, hvA, hmA, hcA, _⟩ := A.at
  have HS : Hid (¬ ((∃ j, j < m ∧ (h j).v.ownBlock = some B) ∨ (f 2).ownBlock = some B)) := fun e => by
    rcases e with ⟨j, hj, e⟩ | e
    · exact hB j hj e
    · exact hAB e
  have KH := Lib.hid H
  have c2 := H.cell 2 (by omega)
  have hBl := H.lt
  have HR0 := Lib.hid hR
  have HN := Lib.hid hn
  have HNUM := Lib.hid hnum
  have HAP := Lib.hid hap
  have HLG := Lib.hid hlg
  have HLT : Hid (∀ j, j < m → ∀ b, (h j).v.ownBlock = some b → b < w.heap.size) := fun j hj b e => (hR j hj).lt b e
  have HAL : Hid (∀ b, (f 2).ownBlock = some b → b < w.heap.size) := fun b e => (A.lt b e).2
  have HAV := Lib.hid hA
  have HBV := Lib.hid hB
  have HA0 := Lib.hid A
  have HVA := Lib.hid hvA
  have HAB := Lib.hid hAB
  rw [hvA] at c2
  clear H A hR hn hnum hlg hap hB hA hAB hvA
  go_enter Tryz.func77, Tryz.ntmps77
  go_wp2
  go_loopg [2] m (fun gg i wr => ∃ (k : Nat) (lgs : Nat → Value), k ≤ m ∧ m - k ≤ gg ∧ i = .int .i64 k ∧ Hid (Arr 148 base wr (f 2) m (fun j => if j < k then { h j with lg := lgs j } else h j)) ∧
    Hid (∀ j, j < m → RowV 1 wr (h j).v (h j).n (List.replicate (h j).n (h j).mark)) ∧ Hid (∀ j, j < k → RowV 1 wr (lgs j) ((h j).n + 40) (List.replicate ((h j).n + 40) (h j).mark) ∧ ∀ b, (lgs j).ownBlock = some b → (h j).v.ownBlock = some b ∨ w.heap.size ≤ b) ∧
    Hid (Only (fun b => (∃ j, j < m ∧ (h j).v.ownBlock = some b) ∨ (f 2).ownBlock = some b) w wr))
  case atStart => exact ⟨0, fun _ => .slice none 0 0, Nat.zero_le _, by omega, rfl, HA0.out, HR0.out, fun j hj => absurd hj (Nat.not_lt_zero _), Only.refl _ _⟩
  case round =>
    obtain ⟨k, lgs, hk, hg, rfl, HAr, HR, HL, HO⟩ := hrel
    have c2r := (HO.out.cell hBl HS.out 2).trans c2
    by_cases hlt : k < m
    · have dkl : decide ((k : Int) < (m : Int)) = true := decide_eq_true (by omega)
      have hAr := HAr.out
      rw [HVA.out] at hAr
      obtain ⟨a2, c2', e2, _, _, hat⟩ := hAr.at
      cases e2
      obtain ⟨gA, rfl, _, hgA, hce⟩ := hat (by omega)
      obtain ⟨r0, r1, r2, _⟩ := hce k hlt
      rw [if_neg (Nat.lt_irrefl k)] at r0 r1 r2
      rw [HLG.out k hlt] at r1
      obtain ⟨aV, cV, hv, hvl, hvc, _⟩ := (HR.out k hlt).slice
      rw [hv] at r0
      have HV := Lib.hid hv
      have hnn := HN.out k hlt
      have hnu := HNUM.out k hlt
      have HMK : Hid ((h k).mark = .int .i64 (-(h k).num)) := rfl
      have hb4 : Below wr.heap.size wr (wr.alloc (.cells #[.slice aV (h k).n cV, .slice none 0 0, .int .i64 (h k).num] 148)) := (Below.refl _ _).alloc (Nat.le_refl _) _
      have HB4 := Lib.hid hb4
      have X0 : Hid ((wr.alloc (.cells #[.slice aV (h k).n cV, .slice none 0 0, .int .i64 (h k).num] 148)).cell? ⟨wr.heap.size, 0, none⟩ = some (.slice aV (h k).n cV)) := by show _ = _; rw [World.cell?_alloc_at _ _ _ _ rfl]; rfl
      have X2 : Hid ((wr.alloc (.cells #[.slice aV (h k).n cV, .slice none 0 0, .int .i64 (h k).num] 148)).cell? ⟨wr.heap.size, 2, none⟩ = some (.int .i64 (h k).num)) := by show _ = _; rw [World.cell?_alloc_at _ _ _ _ rfl]; rfl
      have Z4 : Hid ((wr.alloc (.cells #[.slice aV (h k).n cV, .slice none 0 0, .int .i64 (h k).num] 148)).heap.size = wr.heap.size + 1) := by show _ = _; simp
      have HGA : Hid (gA < wr.heap.size) := hgA
      have HGN : Hid (¬ (h k).v.ownBlock = some gA) := HAV.out k hlt gA (by rw [HVA.out]; rfl)
      clear hv hce hat hAr hb4 hgA
      generalize hnn' : (h k).n = nn at *
      generalize hmm' : (h k).num = nu at *
      have HNE := Lib.hid hnn'
      clear hnn' hmm'
      have hw1 := HO.out.size
      go_wp2
      generalize wr.alloc (.cells #[.slice aV nn cV, .slice none 0 0, .int .i64 nu] 148) = w4 at *
      have hz4 := Z4.out
      have HRk : Hid (RowV 1 w4 (h k).v nn (List.replicate nn (h k).mark)) := by
        show RowV _ _ _ _ _
        have h1 := HR.out k hlt
        rw [HNE.out] at h1
        exact h1.keep HB4.out.size (fun b hb => HB4.out.block b (h1.lt b hb))
      have hvb : ∀ b, (h k).v.ownBlock = some b → b < wr.heap.size := fun b hb => by have := HLT.out k hlt b hb; omega
      have HVB := Lib.hid hvb
      clear hvb
      go_loopg [4, 5] 40 (fun gg vL i wv => ∃ q : Nat, q ≤ 40 ∧ 40 - q ≤ gg ∧ i = .int .i64 q ∧ Hid (RowV 1 wv vL (nn + q) (List.replicate (nn + q) (h k).mark)) ∧ Hid (RowV 1 wv (h k).v nn (List.replicate nn (h k).mark)) ∧ Hid (Only (fun b => (h k).v.ownBlock = some b) w4 wv) ∧
        Hid ((∃ g off cap, (h k).v = .slice (some ⟨g, off, none⟩) nn cap ∧ vL = .slice (some ⟨g, off, none⟩) (nn + q) cap) ∨ ∀ b, vL.ownBlock = some b → w4.heap.size ≤ b))
      case atStart =>
        refine ⟨0, Nat.zero_le _, by omega, rfl, by rw [← HV.out]; exact HRk.out, HRk.out, Only.refl _ _, ?_⟩
        cases aV with
        | none => exact .inr (fun b hb => by cases hb)
        | some ad =>
          rcases HRk.out with ⟨h1, _⟩ | ⟨g, off, cap, h1, _⟩
          · rw [HV.out] at h1; cases h1
          · have h2 := HV.out.symm.trans h1
            cases h2
            exact .inl ⟨g, off, cV, h1, rfl⟩
      case round =>
        rename World => wv
        obtain ⟨q, hq, hgq, rfl, HLv, HKv, HOv, HX⟩ := hrel
        have hnb : ¬ (h k).v.ownBlock = some wr.heap.size := fun e => by have := HVB.out _ e; omega
        have x2 := (HOv.out.cell (show wr.heap.size < w4.heap.size by omega) hnb 2).trans X2.out
        obtain ⟨aL, cL, rfl, hLl, hLc, _⟩ := HLv.out.slice
        by_cases hltq : q < 40
        · have dql : decide ((q : Int) < 40) = true := decide_eq_true (by omega)
          have hb5 : ∀ o, Below wv.heap.size wv (wv.alloc o) := fun o => (Below.refl _ _).alloc (Nat.le_refl _) _
          have HL5 : Hid (∀ o, RowV 1 (wv.alloc o) (.slice aL (nn + q) cL) (nn + q) (List.replicate (nn + q) (h k).mark)) := fun o => HLv.out.keep (hb5 o).size (fun b hb => (hb5 o).block b (HLv.out.lt b hb))
          have HK5 : Hid (∀ o, RowV 1 (wv.alloc o) (h k).v nn (List.replicate nn (h k).mark)) := fun o => HKv.out.keep (hb5 o).size (fun b hb => (hb5 o).block b (HKv.out.lt b hb))
          have HO5 : Hid (∀ o, Only (fun b => (h k).v.ownBlock = some b) w4 (wv.alloc o)) := fun o => HOv.out.trans (Only.of_below (hb5 o))
          have HRE : Hid (List.replicate (nn + q) (h k).mark ++ [.int .i64 (-nu)] = List.replicate (nn + (q + 1)) (h k).mark) := by
            show _ = _
            rw [← HMK.out, ← Nat.add_assoc, List.replicate_succ']
          have hzv := HOv.out.size
          clear hb5
          go_wp2_with fail
          refine (markInt_any nu _ hnu.1 hnu.2).mono ?_
          rintro e w5 ⟨rfl, rfl⟩
          go_wp2_with (at_builtin; go_must (refine wpList_pushV _ rfl _ _ rfl (.slice aL (nn + q) cL) (nn + q) (List.replicate (nn + q) (h k).mark) (-nu) wv.heap.size (HL5.out _) rfl rfl (by rw [World.cell?_alloc_at _ _ _ _ rfl]; rfl) (by omega) ?_))
          intro v6 w6 hrow6 hor
          rw [HRE.out] at hrow6
          have HR6 : Hid (RowV 1 w6 v6 (nn + (q + 1)) (List.replicate (nn + (q + 1)) (h k).mark)) := hrow6
          have HALL : Hid (RowV 1 w6 (h k).v nn (List.replicate nn (h k).mark) ∧ Only (fun b => (h k).v.ownBlock = some b) w4 w6 ∧
              ((∃ g off cap, (h k).v = .slice (some ⟨g, off, none⟩) nn cap ∧ v6 = .slice (some ⟨g, off, none⟩) (nn + (q + 1)) cap) ∨ ∀ b, v6.ownBlock = some b → w4.heap.size ≤ b)) := by
            show _ ∧ _ ∧ _
            rcases hor with ⟨g, off, cap, e1, e2, hc, rfl⟩ | ⟨ho, b6, e6, hb6⟩
            · obtain ⟨rfl, rfl⟩ := e1
              rcases HX.out with ⟨g', off', cap', e3, e4⟩ | hfar
              · cases e4
                refine ⟨?_, (HO5.out _).setFar _ _ _ (.inl (by rw [e3]; rfl)), .inl ⟨_, _, _, e3, e2⟩⟩
                rcases HK5.out (.cells #[.int .i64 (-nu)] 3) with ⟨h1, _⟩ | ⟨g2, off2, cap2, h1, h2⟩
                · rw [e3] at h1; cases h1
                · have h3 := e3.symm.trans h1
                  cases h3
                  exact .inr ⟨_, _, _, e3, h2.spare (nn + q) (by omega) (by omega) _⟩
              · have hgz := hfar g rfl
                refine ⟨(HK5.out _).keep (by simp [World.setCell]) (fun b hb => Below.heap_setCell _ _ _ _ (by intro e; simp only at e; have := HVB.out b hb; omega)), (HO5.out _).setFar g (off + (nn + q)) _ (.inr hgz), .inr (fun b hb => by rw [e2] at hb; cases hb; exact hgz)⟩
            · refine ⟨(HK5.out _).only ho (fun _ _ e => e), (HO5.out _).trans (ho.mono (fun _ _ e => e.elim)), .inr (fun b hb => ?_)⟩
              rw [e6] at hb
              cases hb
              have h1 : wv.heap.size ≤ (wv.alloc (.cells #[.int .i64 (-nu)] 3)).heap.size := by simp
              omega
          obtain ⟨a6, c6, rfl, _, _, _⟩ := hrow6.slice
          clear hrow6 hor
          go_wp2
          go_roundg (40 - (q + 1))
          case measure => omega
          case rel => exact ⟨q + 1, by omega, by omega, by go_num, HR6, HALL.out.1, HALL.out.2.1, HALL.out.2.2⟩
        · have dql : decide ((q : Int) < 40) = false := decide_eq_false (by omega)
          obtain rfl : q = 40 := by omega
          have hwrv : wr.heap.size < wv.heap.size := by have := HOv.out.size; omega
          have HOk : Hid (Only (fun b => (h k).v.ownBlock = some b) wr wv) := (Only.of_below HB4.out).trans (HOv.out.mono (fun _ _ e => e) |> fun h => ⟨h.os, h.tape, h.output, h.size, h.block⟩)
          have HAv := Lib.hid (HAr.out.only HOk.out (fun b hb => HAV.out k hlt b hb))
          have hAv := HAv.out
          rw [HVA.out] at hAv
          obtain ⟨a3, c3, e3, _, _, hat⟩ := hAv.at
          cases e3
          obtain ⟨gA', e4, _, hgA', hce⟩ := hat (by omega)
          cases e4
          obtain ⟨y0, y1, y2, yf⟩ := hce k hlt
          have hmc : k < m := hlt
          have c2v := (HOk.out.cell (show B < wr.heap.size by omega) (HBV.out k hlt) 2).trans c2r
          have HSET := Lib.hid (hAv.setLong k hlt (.slice aL (nn + 40) cL))
          have HRv : Hid (∀ j, j < m → RowV 1 (wv.setCell ⟨gA, k * 3 + 1, none⟩ (.slice aL (nn + 40) cL)) (h j).v (h j).n (List.replicate (h j).n (h j).mark)) := fun j hj => by
            have hj0 : RowV 1 wv (h j).v (h j).n (List.replicate (h j).n (h j).mark) := by
              by_cases e : j = k
              · subst e; rw [HNE.out]; exact HKv.out
              · exact (HR.out j hj).only HOk.out (fun b hb hb2 => HAP.out j k hj hlt e b hb hb2)
            exact hj0.keep (by simp [World.setCell]) (fun b hb => Below.heap_setCell _ _ _ _ (by intro e; simp only at e; subst e; exact HAV.out j hj _ (by rw [HVA.out]; rfl) hb))
          have HLN : Hid (∀ j, j < k + 1 → RowV 1 (wv.setCell ⟨gA, k * 3 + 1, none⟩ (.slice aL (nn + 40) cL)) (if j = k then .slice aL (nn + 40) cL else lgs j) ((h j).n + 40) (List.replicate ((h j).n + 40) (h j).mark) ∧ ∀ b, (if j = k then .slice aL (nn + 40) cL else lgs j).ownBlock = some b → (h j).v.ownBlock = some b ∨ w.heap.size ≤ b) := fun j hj => by
            have hgw : gA < w.heap.size := HAL.out gA (by rw [HVA.out]; rfl)
            by_cases e : j = k
            · subst e
              rw [if_pos rfl, HNE.out]
              have hor : ∀ b, Value.ownBlock (.slice aL (nn + 40) cL) = some b → (h j).v.ownBlock = some b ∨ wr.heap.size ≤ b := fun b hb => by
                rcases HX.out with ⟨g, off, cap, e1, e2⟩ | hfar
                · left; rw [e1]; rw [e2] at hb; exact hb
                · right; have := hfar b hb; omega
              refine ⟨HLv.out.keep (by simp [World.setCell]) (fun b hb => Below.heap_setCell _ _ _ _ (by intro e; simp only at e; subst e; rcases hor _ hb with h1 | h1; exact HGN.out h1; have := HGA.out; omega)), fun b hb => ?_⟩
              rcases hor b hb with h1 | h1
              · exact .inl h1
              · exact .inr (by omega)
            · rw [if_neg e]
              obtain ⟨h1, h2⟩ := HL.out j (by omega)
              have hjm : j < m := by omega
              refine ⟨(h1.only HOk.out (fun b hb hb2 => ?_)).keep (by simp [World.setCell]) (fun b hb => Below.heap_setCell _ _ _ _ (by intro e'; simp only at e'; subst e'; rcases h2 _ hb with h3 | h3; exact HAV.out j hjm _ (by rw [HVA.out]; rfl) h3; omega)), h2⟩
              rcases h2 b hb with h3 | h3
              · exact HAP.out j k hjm hlt e b h3 hb2
              · have := HLT.out k hlt b hb2; omega
          have HON : Hid (Only (fun b => (∃ j, j < m ∧ (h j).v.ownBlock = some b) ∨ (f 2).ownBlock = some b) w (wv.setCell ⟨gA, k * 3 + 1, none⟩ (.slice aL (nn + 40) cL))) :=
            ((HO.out.trans (HOk.out.mono (fun b _ e => .inl ⟨k, hlt, e⟩))).setFar gA (k * 3 + 1) _ (.inl (.inr (by rw [HVA.out]; rfl))))
          have HAN : Hid (Arr 148 base (wv.setCell ⟨gA, k * 3 + 1, none⟩ (.slice aL (nn + 40) cL)) (f 2) m (fun j => if j < k + 1 then { h j with lg := if j = k then .slice aL (nn + 40) cL else lgs j } else h j)) := by
            show Arr _ _ _ _ _ _
            rw [HVA.out]
            obtain ⟨xs, h1, h2⟩ := HSET.out
            refine ⟨xs, h1, fun j hj => ?_⟩
            have h3 := h2 j hj
            by_cases e : j = k
            · subst e
              simp only [if_true, if_neg (Nat.lt_irrefl j), if_pos (Nat.lt_succ_self j)] at h3 ⊢
              exact h3
            · simp only [if_neg e] at h3 ⊢
              by_cases e2 : j < k
              · simp only [if_pos e2, if_pos (Nat.lt_succ_of_lt e2)] at h3 ⊢
                exact h3
              · simp only [if_neg e2, if_neg (show ¬ j < k + 1 by omega)] at h3 ⊢
                exact h3
          clear hce hat hAv
          go_wp2
          go_roundg (m - (k + 1))
          case measure => omega
          case rel => exact ⟨k + 1, fun j => if j = k then .slice aL (nn + 40) cL else lgs j, by omega, by omega, by go_num, HAN, HRv, HLN, HON⟩
    · have dkl : decide ((k : Int) < (m : Int)) = false := decide_eq_false (by omega)
      obtain rfl : k = m := by omega
      go_wp2
      go_returns
      refine ⟨rfl, lgs, ?_, HR.out, fun j hj => (HL.out j hj).1, HO.out, fun j hj => (HL.out j hj).2⟩
      obtain ⟨xs, h1, h2⟩ := HAr.out
      refine ⟨xs, h1, fun j hj => ?_⟩
      have h3 := h2 j hj
      simp only [if_pos hj] at h3
      exact h3
end Go.Proofs.YtekejcnphmnidaaGreatDoor

namespace Go.Proofs.YtekejcnphmnidaaGreatDoor
open Go.RowKit
theorem quiet_more {P : Program} {f : FuncId} {args : Array Value} {w : World} {m a : Nat} {v : Value} (h : Calls P f args (w.drewN (m + a)) fun e w' => e = .returned v ∧ w' = w.drewN (m + a)) :
    Calls P f args (w.drewN (m + a)) fun e w' => e = .returned v ∧ ∃ n, w' = w.drewN (m + n) := h.mono fun _ _ ⟨h1, h2⟩ => ⟨h1, a, h2⟩
theorem RowV.at {w : World} {v : Value} {n : Nat} {x : Value} (h : RowV 1 w v n (List.replicate n x)) {q : Nat} (hq : q < n) : ∃ g off cap, v = .slice (some ⟨g, off, none⟩) n cap ∧ g < w.heap.size ∧ w.cell? ⟨g, off + q, none⟩ = some x := by
  rcases h with ⟨_, h, _⟩ | ⟨g, off, cap, hv, h⟩
  · omega
  · exact ⟨g, off, cap, hv, h.lt, h.cell q x (by rw [List.getElem?_replicate, if_pos hq])⟩
set_option maxHeartbeats 4000000 in
set_option maxRecDepth 100000 in
theorem lookInt_any (w : World) (B : Nat) (f : Nat → Value) (base m : Nat) (h : Nat → Held) (H : Bk w B f) (A : Arr 148 base w (f 2) m h) (hR : ∀ j, j < m → RowV 1 w (h j).v (h j).n (List.replicate (h j).n (h j).mark))
    (hL : ∀ j, j < m → RowV 1 w (h j).lg ((h j).n + 40) (List.replicate ((h j).n + 40) (h j).mark)) (hm : m ≤ 1000000) (hn : ∀ j, j < m → (h j).n ≤ 1000000) (hnum : ∀ j, j < m → 0 ≤ (h j).num ∧ (h j).num ≤ 1000000000) :
    Calls Tryz.prog 92 #[.pointer (some ⟨B, 0, none⟩)] w fun e w' => e = .returned (.bool true) ∧ Below w.heap.size w w' := by
  obtain ⟨aA, cA, hvA, hmA, hcA, hat⟩ := A.at
  have c2 := H.cell 2 (by omega)
  rw [hvA] at c2
  have hBl := H.lt
  have HAT := Lib.hid hat
  have HR := Lib.hid hR
  have HL := Lib.hid hL
  have HN := Lib.hid hn
  have HNUM := Lib.hid hnum
  clear H A hR hL hn hnum hat hvA
  go_enter Tryz.func92, Tryz.ntmps92
  go_wp2
  go_loopg [3] m (fun gg i wr => ∃ k : Nat, k ≤ m ∧ m - k ≤ gg ∧ i = .int .i64 k ∧ Hid (Below w.heap.size w wr))
  case atStart => exact ⟨0, Nat.zero_le _, by omega, rfl, Below.refl _ _⟩
  case round =>
    obtain ⟨k, hk, hg, rfl, HW⟩ := hrel
    have c2r := (HW.out.cell (p := ⟨B, 2, none⟩) hBl).trans c2
    by_cases hlt : k < m
    · have dkl : decide ((k : Int) < (m : Int)) = true := decide_eq_true (by omega)
      obtain ⟨gA, rfl, _, hgA, hce⟩ := HAT.out (by omega)
      obtain ⟨e0, e1, e2, _⟩ := hce k hlt
      have r0 := (HW.out.cell (p := ⟨gA, k * 3, none⟩) hgA).trans e0
      have r1 := (HW.out.cell (p := ⟨gA, k * 3 + 1, none⟩) hgA).trans e1
      have r2 := (HW.out.cell (p := ⟨gA, k * 3 + 2, none⟩) hgA).trans e2
      obtain ⟨aV, cV, hv, hvl, hvc, _⟩ := (HR.out k hlt).slice
      obtain ⟨aG, cG, hgv, hgl, hgc, _⟩ := (HL.out k hlt).slice
      have hnn := HN.out k hlt
      have hnu := HNUM.out k hlt
      have HV := Lib.hid hv
      have HG := Lib.hid hgv
      rw [hv] at r0
      rw [hgv] at r1
      have hb4 : Below wr.heap.size wr (wr.alloc (.cells #[.slice aV (h k).n cV, .slice aG ((h k).n + 40) cG, .int .i64 (h k).num] 148)) := (Below.refl _ _).alloc (Nat.le_refl _) _
      have HW4 : Hid (Below w.heap.size w (wr.alloc (.cells #[.slice aV (h k).n cV, .slice aG ((h k).n + 40) cG, .int .i64 (h k).num] 148))) := HW.out.trans (hb4.mono HW.out.size)
      have X0 : Hid ((wr.alloc (.cells #[.slice aV (h k).n cV, .slice aG ((h k).n + 40) cG, .int .i64 (h k).num] 148)).cell? ⟨wr.heap.size, 0, none⟩ = some (.slice aV (h k).n cV)) := by show _ = _; rw [World.cell?_alloc_at _ _ _ _ rfl]; rfl
      have X1 : Hid ((wr.alloc (.cells #[.slice aV (h k).n cV, .slice aG ((h k).n + 40) cG, .int .i64 (h k).num] 148)).cell? ⟨wr.heap.size, 1, none⟩ = some (.slice aG ((h k).n + 40) cG)) := by show _ = _; rw [World.cell?_alloc_at _ _ _ _ rfl]; rfl
      have X2 : Hid ((wr.alloc (.cells #[.slice aV (h k).n cV, .slice aG ((h k).n + 40) cG, .int .i64 (h k).num] 148)).cell? ⟨wr.heap.size, 2, none⟩ = some (.int .i64 (h k).num)) := by show _ = _; rw [World.cell?_alloc_at _ _ _ _ rfl]; rfl
      have HLk : Hid (∀ q, q < (h k).n + 40 → ∃ g off, aG = some ⟨g, off, none⟩ ∧ g < w.heap.size ∧ w.cell? ⟨g, off + q, none⟩ = some (.int .i64 (-(h k).num))) := fun q hq => by
        obtain ⟨g, off, cap, h1, h2, h3⟩ := (HL.out k hlt).at hq
        have h4 := hgv.symm.trans h1
        cases h4
        exact ⟨g, off, rfl, h2, h3⟩
      have HVk : Hid (∀ q, q < (h k).n → ∃ g off, aV = some ⟨g, off, none⟩ ∧ g < w.heap.size ∧ w.cell? ⟨g, off + q, none⟩ = some (.int .i64 (-(h k).num))) := fun q hq => by
        obtain ⟨g, off, cap, h1, h2, h3⟩ := (HR.out k hlt).at hq
        have h4 := hv.symm.trans h1
        cases h4
        exact ⟨g, off, rfl, h2, h3⟩
      clear hv hgv hb4 hce e0 e1 e2
      generalize (h k).n = nn at *
      generalize (h k).num = nu at *
      have hne : ((nn : Int) + 40 != (nn : Int) + 40) = false := by simp
      have hwz := HW.out.size
      go_wp2
      generalize wr.alloc (.cells #[.slice aV nn cV, .slice aG (nn + 40) cG, .int .i64 nu] 148) = w4 at *
      have x0 := X0.out
      have x1 := X1.out
      have x2 := X2.out
      go_loopg [5] (nn + 40) (fun gg i wv => ∃ q : Nat, q ≤ nn + 40 ∧ nn + 40 - q ≤ gg ∧ i = .int .i64 q ∧ Hid (∃ t, wv = w4.drewN t))
      case atStart => exact ⟨0, Nat.zero_le _, by omega, rfl, 0, rfl⟩
      case round =>
        rename World => wv
        obtain ⟨q, hq, hgq, rfl, HT⟩ := hrel
        obtain ⟨t, rfl⟩ := HT.out
        by_cases hltq : q < nn + 40
        · have dql : decide ((q : Int) < (nn : Int) + 40) = true := decide_eq_true (by omega)
          have hqb : (q : Int) < (nn : Int) + 40 := by omega
          obtain ⟨gL, oL, rfl, hgL, kL0⟩ := HLk.out q hltq
          have kL := (HW4.out.cell (p := ⟨gL, oL + q, none⟩) hgL).trans kL0
          have hxx : ((-nu : Int) == -nu) = true := by simp
          have HC : Hid (∀ s, Calls Tryz.prog 158 #[.int .i64 (-nu), .int .i64 nu] (w4.drewN s) fun e w' => e = .returned (.bool true) ∧ w' = w4.drewN s) := fun s => (isInt_any (-nu) nu _ hnu.1 hnu.2).mono fun _ _ ⟨he, hw⟩ => ⟨by rw [he, hxx], hw.symm⟩
          by_cases hqn : q < nn
          · have dqn : decide ((q : Int) < (nn : Int)) = true := decide_eq_true (by omega)
            have hqb2 : (q : Int) < (nn : Int) := by omega
            obtain ⟨gV, oV, rfl, hgV, kV0⟩ := HVk.out q hqn
            have kV := (HW4.out.cell (p := ⟨gV, oV + q, none⟩) hgV).trans kV0
            go_wp2_with fail
            go_quiet ((go_at_call 158; exact quiet_more (HC.out _)))
            go_wp2
            go_roundg (nn + 40 - (q + 1))
            case measure => omega
            case rel => exact ⟨q + 1, by omega, by omega, by go_num, ⟨t + nq, by simp⟩⟩
          · have dqn : decide ((q : Int) < (nn : Int)) = false := decide_eq_false (by omega)
            go_wp2_with fail
            go_quiet ((go_at_call 158; exact quiet_more (HC.out _)))
            go_wp2
            go_roundg (nn + 40 - (q + 1))
            case measure => omega
            case rel => exact ⟨q + 1, by omega, by omega, by go_num, ⟨t + nq, by simp⟩⟩
        · have dql : decide ((q : Int) < (nn : Int) + 40) = false := decide_eq_false (by omega)
          go_wp2
          go_roundg (m - (k + 1))
          case measure => omega
          case rel => exact ⟨k + 1, by omega, by omega, by go_num, HW4.out.trans (below_drewN _ _ _)⟩
    · have dkl : decide ((k : Int) < (m : Int)) = false := decide_eq_false (by omega)
      go_wp2
      go_ret
      exact ⟨rfl, HW.out⟩
end Go.Proofs.YtekejcnphmnidaaGreatDoor

namespace Go.Proofs.YtekejcnphmnidaaGreatDoor
open Go.RowKit
set_option maxHeartbeats 1000000 in
theorem bookInts_any (w : World) (B : Nat) (f : Nat → Value) (n : Int) (base m : Nat) (h : Nat → Held) (x : Held) (ax : Option Addr) (lx cx : Nat) (H : Bk w B f) (hn : f 0 = .int .i64 n) (A : Arr 148 base w (f 2) m h)
    (hx : x.v = .slice ax lx cx) (hxl : x.lg = .slice none 0 0) (hxn : x.num = n + 1) (hB : B < base) (hbz : base ≤ w.heap.size) (hm : m ≤ 1000000) (h0 : 0 ≤ n) (h1 : n ≤ 1000000) :
    Calls Tryz.prog 15 #[.pointer (some ⟨B, 0, none⟩), .slice ax lx cx] w fun e w' => e = .returned (.tuple #[]) ∧ ∃ vA, Bk w' B (fun j => if j = 2 then vA else if j = 0 then .int .i64 (n + 1) else f j) ∧ Arr 148 base w' vA (m + 1) (fun j => if j = m then x else h j) ∧
      Only (fun k => k = B ∨ (f 2).ownBlock = some k) w w' ∧ (vA.ownBlock = (f 2).ownBlock ∨ ∃ k, vA.ownBlock = some k ∧ w.heap.size ≤ k) := by
  have HK := Lib.hid (keepInt_any w B f n base m h x ax lx cx H hn A hx hxl hxn hB hbz hm h0 h1)
  clear H hn A hx hxl hxn
  go_enter Tryz.func15, Tryz.ntmps15
  go_wp2_with fail
  refine HK.out.mono ?_
  rintro e w1 ⟨rfl, hr⟩
  have HR := Lib.hid hr
  clear hr
  go_wp2
  go_returns
  exact ⟨rfl, HR.out⟩
end Go.Proofs.YtekejcnphmnidaaGreatDoor

namespace Go.Proofs.YtekejcnphmnidaaGreatDoor
open Go.RowKit
def heldAt (L : List Held) : Nat → Held := fun j => L.getD j ⟨.slice none 0 0, 0, [], .slice none 0 0, 0⟩
theorem heldAt_left (L : List Held) (x : Held) {j : Nat} (h : j < L.length) : heldAt (L ++ [x]) j = heldAt L j := by
  simp [heldAt, List.getElem?_append_left h]
theorem heldAt_last (L : List Held) (x : Held) : heldAt (L ++ [x]) L.length = x := by simp [heldAt]
theorem heldAt_mem (L : List Held) {j : Nat} (h : j < L.length) : heldAt L j ∈ L := by
  have : heldAt L j = L[j] := by simp [heldAt, List.getElem?_eq_getElem h]
  rw [this]; exact List.getElem_mem h
theorem Arr.congr {e : TypeId} {base : Nat} {w : World} {vA : Value} {m : Nat} {h h' : Nat → Held} (A : Arr e base w vA m h) (he : ∀ i, i < m → h i = h' i) : Arr e base w vA m h' := by
  obtain ⟨xs, h1, h2⟩ := A
  exact ⟨xs, h1, fun i hi => by rw [← he i hi]; exact h2 i hi⟩
theorem Arr.push {e : TypeId} {base : Nat} {w : World} {vA : Value} {L : List Held} {x : Held} (A : Arr e base w vA (L.length + 1) (fun j => if j = L.length then x else heldAt L j)) : Arr e base w vA (L ++ [x]).length (heldAt (L ++ [x])) := by
  rw [List.length_append]
  refine A.congr fun i hi => ?_
  by_cases e : i = L.length
  · subst e; rw [if_pos rfl, heldAt_last]
  · rw [if_neg e, heldAt_left]; omega
theorem Arr.nil (e : TypeId) (base : Nat) (w : World) (h : Nat → Held) : Arr e base w (.slice none 0 0) 0 h := ⟨[], ⟨rfl, .inl ⟨rfl, rfl⟩⟩, fun _ hi => absurd hi (Nat.not_lt_zero _)⟩
theorem Arr.ne {e e' : TypeId} {base : Nat} {w : World} {v v' : Value} {m m' : Nat} {h h' : Nat → Held} (A : Arr e base w v m h) (A' : Arr e' base w v' m' h') (he : e ≠ e') : ∀ k, v.ownBlock = some k → v'.ownBlock ≠ some k := fun k hk hk' => by
  obtain ⟨xs, ⟨_, h2⟩, _⟩ := A
  obtain ⟨ys, ⟨_, g2⟩, _⟩ := A'
  rcases h2 with ⟨rfl, _⟩ | ⟨g, cap, cur, rfl, _, hh, _⟩
  · cases hk
  rcases g2 with ⟨rfl, _⟩ | ⟨g', cap', cur', rfl, _, hh', _⟩
  · cases hk'
  cases hk
  cases hk'
  rw [hh] at hh'
  cases hh'
  exact he rfl
structure BkF (w : World) (B base : Nat) (n : Int) (f : Nat → Value) (LI LN LS LC LG : List Held) : Prop where
  box : Bk w B f
  num : f 0 = .int .i64 n
  rest : ∀ j, 0 < j → j < 16 → j ≠ 2 → j ≠ 7 → j ≠ 8 → j ≠ 9 → j ≠ 14 → f j = .slice none 0 0
  ai : Arr 148 base w (f 2) LI.length (heldAt LI)
  an : Arr 174 base w (f 7) LN.length (heldAt LN)
  as_ : Arr 177 base w (f 8) LS.length (heldAt LS)
  ac : Arr 180 base w (f 9) LC.length (heldAt LC)
  ag : Arr 207 base w (f 14) LG.length (heldAt LG)
  en : LN = [] → f 7 = .slice none 0 0
  es : LS = [] → f 8 = .slice none 0 0
  ec : LC = [] → f 9 = .slice none 0 0
  eg : LG = [] → f 14 = .slice none 0 0
  lo : B < base
  bz : base ≤ w.heap.size
  n0 : 0 ≤ n
  nums : ∀ h, h ∈ LI ++ LN ++ LS ++ LC ++ LG → (0 ≤ h.num ∧ h.num ≤ n) ∧ h.lg = .slice none 0 0
def BkS (w : World) (B base : Nat) (n : Int) (LI LN LS LC LG : List Held) : Prop := ∃ f, BkF w B base n f LI LN LS LC LG
theorem BkS.below {w w' : World} {B base : Nat} {n : Int} {LI LN LS LC LG : List Held} (h : BkS w B base n LI LN LS LC LG) (hb : Below w.heap.size w w') : BkS w' B base n LI LN LS LC LG := by
  obtain ⟨f, h⟩ := h
  have hz := hb.size
  exact ⟨f, h.box.below hb, h.num, h.rest, h.ai.keep (fun k hk => hb.block k (h.ai.lt k hk).2), h.an.keep (fun k hk => hb.block k (h.an.lt k hk).2), h.as_.keep (fun k hk => hb.block k (h.as_.lt k hk).2), h.ac.keep (fun k hk => hb.block k (h.ac.lt k hk).2), h.ag.keep (fun k hk => hb.block k (h.ag.lt k hk).2),
    h.en, h.es, h.ec, h.eg, h.lo, by have := h.bz; omega, h.n0, h.nums⟩
theorem BkS.start (w : World) : BkS (w.alloc (.cells #[.int .i64 0, .slice none 0 0, .slice none 0 0, .slice none 0 0, .slice none 0 0, .slice none 0 0, .slice none 0 0, .slice none 0 0, .slice none 0 0, .slice none 0 0, .slice none 0 0, .slice none 0 0, .slice none 0 0, .slice none 0 0, .slice none 0 0, .slice none 0 0] 52)) w.heap.size (w.heap.size + 1) 0 [] [] [] [] [] := by
  refine ⟨fun j => if j = 0 then .int .i64 0 else .slice none 0 0, ⟨by simp, fun i hi => ?_, fun i hi => World.frozen?_alloc_at _ _ _ _ rfl⟩, rfl, fun j h0 _ _ _ _ _ _ => if_neg (by omega), Arr.nil _ _ _ _, Arr.nil _ _ _ _, Arr.nil _ _ _ _, Arr.nil _ _ _ _, Arr.nil _ _ _ _, fun _ => rfl, fun _ => rfl, fun _ => rfl, fun _ => rfl, Nat.lt_succ_self _, by simp, Int.le_refl _, fun h hm => by cases hm⟩
  rw [World.cell?_alloc_at _ _ _ _ rfl]
  obtain rfl | rfl | rfl | rfl | rfl | rfl | rfl | rfl | rfl | rfl | rfl | rfl | rfl | rfl | rfl | rfl : i = 0 ∨ i = 1 ∨ i = 2 ∨ i = 3 ∨ i = 4 ∨ i = 5 ∨ i = 6 ∨ i = 7 ∨ i = 8 ∨ i = 9 ∨ i = 10 ∨ i = 11 ∨ i = 12 ∨ i = 13 ∨ i = 14 ∨ i = 15 := by omega
  all_goals rfl
theorem Arr.typed {e : TypeId} {base : Nat} {w : World} {v : Value} {m : Nat} {h : Nat → Held} (A : Arr e base w v m h) {k : Nat} (hk : v.ownBlock = some k) : ∃ cur, w.heap[k]? = some (.cells cur e (0, 0)) := by
  obtain ⟨xs, ⟨_, h2⟩, _⟩ := A
  rcases h2 with ⟨rfl, _⟩ | ⟨g, cap, cur, rfl, _, hh, _⟩
  · cases hk
  · cases hk; exact ⟨cur, hh⟩
def KeptB (e : TypeId) (B : Nat) (w w' : World) : Prop := ∀ k, k < w.heap.size → k ≠ B → (∀ cur, w.heap[k]? ≠ some (.cells cur e (0, 0))) → w'.heap[k]? = w.heap[k]?
theorem told_intsK (w : World) (B base : Nat) (n : Int) (LI LN LS LC LG : List Held) (ax : Option Addr) (lx cx : Nat) (xs : List Value) (S : BkS w B base n LI LN LS LC LG) (hm : LI.length ≤ 1000000) (h1 : n ≤ 1000000) :
    Calls Tryz.prog 15 #[.pointer (some ⟨B, 0, none⟩), .slice ax lx cx] w fun e w' => e = .returned (.tuple #[]) ∧ BkS w' B base (n + 1) (LI ++ [⟨.slice ax lx cx, lx, xs, .slice none 0 0, n + 1⟩]) LN LS LC LG ∧ Below B w w' ∧ KeptB 148 B w w' := by
  obtain ⟨f, S⟩ := S
  refine (bookInts_any w B f n base LI.length (heldAt LI) ⟨.slice ax lx cx, lx, xs, .slice none 0 0, n + 1⟩ ax lx cx S.box S.num S.ai rfl rfl rfl S.lo S.bz hm S.n0 h1).mono ?_
  rintro e w' ⟨he, vA, hbx, har, ho, _⟩
  have hB : ∀ k, base ≤ k → k ≠ B := fun k hk e => by have := S.lo; omega
  have hS : ∀ {e'} {v'} {m'} {h'}, Arr e' base w v' m' h' → 148 ≠ e' → ∀ k, v'.ownBlock = some k → ¬ (k = B ∨ (f 2).ownBlock = some k) := fun A hne k hk e => by
    rcases e with e | e
    · exact hB k (A.lt k hk).1 e
    · exact S.ai.ne A hne k e hk
  have hz := ho.size
  refine ⟨he, ⟨_, hbx, by simp, fun j h0 h16 h2 h7 h8 h9 h14 => ?_, har.push, S.an.only ho (hS S.an (by decide)), S.as_.only ho (hS S.as_ (by decide)), S.ac.only ho (hS S.ac (by decide)), S.ag.only ho (hS S.ag (by decide)), S.en, S.es, S.ec, S.eg, S.lo, by have := S.bz; omega, by have := S.n0; omega, fun h hm => ?_⟩, ?_, fun k hk hkB hty => ho.block k hk (fun e => ?_)⟩
  rotate_left 3
  · rcases e with e | e
    · exact hkB e
    · obtain ⟨cur, hc⟩ := S.ai.typed e
      exact hty cur hc
  · show (if j = 2 then vA else if j = 0 then .int .i64 (n + 1) else f j) = _
    rw [if_neg h2, if_neg (by omega)]
    exact S.rest j h0 h16 h2 h7 h8 h9 h14
  · have hn := S.n0
    have up : h ∈ LI ++ LN ++ LS ++ LC ++ LG → (0 ≤ h.num ∧ h.num ≤ n + 1) ∧ h.lg = .slice none 0 0 := fun hm => by
      obtain ⟨⟨a, b⟩, c⟩ := S.nums h hm
      exact ⟨⟨a, by omega⟩, c⟩
    simp only [List.mem_append, List.mem_singleton] at hm up
    rcases hm with (((hm | hm) | hm) | hm) | hm
    · rcases hm with hm | hm
      · exact up (.inl (.inl (.inl (.inl hm))))
      · subst hm
        exact ⟨⟨by show 0 ≤ n + 1; omega, by show n + 1 ≤ n + 1; omega⟩, rfl⟩
    · exact up (.inl (.inl (.inl (.inr hm))))
    · exact up (.inl (.inl (.inr hm)))
    · exact up (.inl (.inr hm))
    · exact up (.inr hm)
  · refine ho.below (fun k hk => ?_) (by have := S.box.lt; omega)
    rcases hk with rfl | hk
    · exact Nat.le_refl _
    · have := (S.ai.lt k hk).1; have := S.lo; omega
theorem told_ints (w : World) (B base : Nat) (n : Int) (LI LN LS LC LG : List Held) (ax : Option Addr) (lx cx : Nat) (xs : List Value) (S : BkS w B base n LI LN LS LC LG) (hm : LI.length ≤ 1000000) (h1 : n ≤ 1000000) :
    Calls Tryz.prog 15 #[.pointer (some ⟨B, 0, none⟩), .slice ax lx cx] w fun e w' => e = .returned (.tuple #[]) ∧ BkS w' B base (n + 1) (LI ++ [⟨.slice ax lx cx, lx, xs, .slice none 0 0, n + 1⟩]) LN LS LC LG ∧ Below B w w' :=
  (told_intsK w B base n LI LN LS LC LG ax lx cx xs S hm h1).mono fun _ _ ⟨h1, h2, h3, _⟩ => ⟨h1, h2, h3⟩
def blocksOf (L : List Held) : List Nat := L.filterMap fun h => h.v.ownBlock
theorem apartV_of {L : List Held} (h : (blocksOf L).Nodup) : ApartV L.length (fun j => (heldAt L j).v) := by
  induction L with
  | nil => intro i j hi; exact absurd hi (Nat.not_lt_zero _)
  | cons x L ih =>
    have hx : ∀ b, x.v.ownBlock = some b → b ∉ blocksOf L := fun b hb => by
      unfold blocksOf at h
      simp only [List.filterMap_cons, hb] at h
      exact (List.nodup_cons.1 h).1
    have hL : (blocksOf L).Nodup := by
      unfold blocksOf at h ⊢
      cases hc : x.v.ownBlock with
      | none => simp only [List.filterMap_cons, hc] at h; exact h
      | some b => simp only [List.filterMap_cons, hc] at h; exact (List.nodup_cons.1 h).2
    have hm : ∀ j b, j < L.length → (heldAt L j).v.ownBlock = some b → b ∈ blocksOf L := fun j b hj hb => List.mem_filterMap.2 ⟨_, heldAt_mem L hj, hb⟩
    intro i j hi hj hij b hbi hbj
    cases i with
    | zero =>
      cases j with
      | zero => exact hij rfl
      | succ j => exact hx b hbi (hm j b (by simpa using hj) hbj)
    | succ i =>
      cases j with
      | zero => exact hx b hbj (hm i b (by simpa using hi) hbi)
      | succ j => exact ih hL i j (by simpa using hi) (by simpa using hj) (by omega) b hbi hbj
theorem mem_blocks {L : List Held} {j b : Nat} (hj : j < L.length) (hb : (heldAt L j).v.ownBlock = some b) : b ∈ blocksOf L := List.mem_filterMap.2 ⟨_, heldAt_mem L hj, hb⟩
end Go.Proofs.YtekejcnphmnidaaGreatDoor

