/-
  drydocklaw01.TwinNodes, TwinGraph: contracts twinNodes_any, twinGraph_any.
-/
import Derived.Test.YtgmagldbfajedaaBt
namespace Go.Proofs.Ytgmagldbfajedaa
open Go.RowKit

/-- A last node more, whose values are whatever they are; the slice without it is still of the call's own. -/
theorem wpList_appSp {ops : Array Oper} {rest : List Oper} {o : Oper} {a : Act} {Q : Exit → Act → World → Prop} (w : World) (hgd : o.guard = none) (s t : Operand)
    (ho : o.op = .call { callee := .builtin .append, args := #[s, t], argTypes := #[36, 36] }) (base : Nat) (v : Value) (g : List Gr.Node) (f h : Nat → Nat) (u0 u1 u2 u3 u4 : Value) (hone : u0.oneCell' = true ∧ u1.oneCell' = true ∧ u2.oneCell' = true ∧ u3.oneCell' = true ∧ u4.oneCell' = true)
    (hown : OwnT base w v f h g) (hs : a.eval s = v) (ht : a.eval t = .slice (some ⟨w.heap.size, 0, none⟩) 1 1) (hbase : base ≤ w.heap.size) (hlen : g.length ≤ 10000000)
    (hK : ∀ nb c w', OwnT base w' (.slice (some ⟨nb, 0, none⟩) g.length c) f h g → g.length + 1 ≤ c → c ≤ 9223372036854775807 → Below base w w' → wpList Try.prog ops Q rest (a.put o.dst (.slice (some ⟨nb, 0, none⟩) (g.length + 1) c)) w') :
    wpList Try.prog ops Q (o :: rest) a (w.alloc (.cells #[u0, u1, u2, u3, u4] 46)) := by
  obtain ⟨i0, hi, hz0, hz1, hz2⟩ := info_parts Try.info46
  obtain ⟨hl1, hl2⟩ := hown.lts
  obtain ⟨⟨vs, hrow, hvs⟩, i1, i2, i3⟩ := hown
  obtain ⟨o0, o1, o2, o3, o4⟩ := hone
  refine wpList_append_own_at _ hgd s t 36 ho base 46 i0 _ 5 72 Try.underlying36 hi hz0 hz1 hz2 rfl (by decide) v g.length vs hs (hrow.alloc _) ⟨w.heap.size, 0, none⟩ 1 1 [u0, u1, u2, u3, u4] ht rfl
    (fun j u hu => ?_) (fun u hu => ?_) ?_ ?_ (by simp; omega) ?_
  · rw [Addr.add_lit, World.cell?_alloc_at _ _ _ _ rfl]
    rw [← hu]; simp
  · simp only [List.mem_cons, List.not_mem_nil, or_false] at hu
    rcases hu with rfl | rfl | rfl | rfl | rfl <;> assumption
  · unfold maxLen; omega
  · omega
  · intro v' w' hown' hgrow _ hob
    have hga : w.grownBy w' v.ownBlock := ⟨hgrow.os, hgrow.tape, hgrow.output, Nat.le_trans (by simp) hgrow.size, fun k hk hn => (hgrow.block k (by simp; omega) hn).trans (Below.heap_alloc _ _ _ hk)⟩
    have hob2 : v'.ownBlock = v.ownBlock ∨ ∃ k, v'.ownBlock = some k ∧ w.heap.size ≤ k := by
      rcases hob with h1 | h1
      · exact .inl h1
      · exact .inr ⟨_, h1, by simp⟩
    have hne : ∀ k, k < w.heap.size → v.ownBlock ≠ some k → v'.ownBlock ≠ some k := fun k h1 h2 h3 => by
      rcases hob2 with h4 | ⟨q, h4, h5⟩
      · exact h2 (h4 ▸ h3)
      · rw [h4] at h3; injection h3 with h3; omega
    have hvl : vs.length = g.length * 5 := hrow.1
    obtain ⟨r1, r2⟩ := hown'
    rcases r2 with ⟨_, r0⟩ | ⟨nb, cap, cur, hv, hg, hh, hn, hm, hc, ht'⟩
    · omega
    · subst hv
      refine hK nb cap w' ⟨⟨vs, ⟨hvl, .inr ⟨nb, cap, cur, rfl, hg, hh, by omega, hm, hc, ?_⟩⟩, fun i hil => ?_⟩, i1, i2, fun i h1 => ?_⟩ hn (by unfold maxLen at hm; omega) ((Below.refl base w).grown hga hbase fun k hk => (hl2 k hk).1)
      · have h5 : (cur.toList.take ((g.length + 1) * 5)).take (g.length * 5) = (vs ++ [u0, u1, u2, u3, u4]).take (g.length * 5) := by rw [ht']
        rw [List.take_take, Nat.min_eq_left (by omega), List.take_left' hvl] at h5
        exact h5
      · obtain ⟨ui, ush, e0, e1, e2, e3, e4, q1, q2⟩ := hvs i hil
        exact ⟨ui, ush, e0, e1, e2, e3, e4, q1.grown hga (i3 i hil).1, q2.grown hga (i3 i hil).2⟩
      · exact ⟨hne _ (hl1 i h1).1 (i3 i h1).1, hne _ (hl1 i h1).2 (i3 i h1).2⟩

theorem slice_take36 (a : Option Addr) (len cap r : Nat) (h1 : r ≤ len) (h2 : len ≤ cap) (w : World) : (Instr.slice 36 (.slice a len cap) none (some (.int .i64 (r : Int))) none).run Try.prog w = .ok (.slice a r cap) w := by
  obtain ⟨i0, hi, hz0, hz1, hz2⟩ := info_parts Try.info46
  have h3 : Try.prog.elem 36 = 46 := by kernel_rfl
  rw [run_slice_h w 36 a len cap (by rw [h3]; exact Try.underlying36) .i64 (r : Int) (by omega) (by omega), h3]
  have e : (a.map fun x => x.add 0) = a := by cases a <;> simp [Addr.add]
  by_cases c : cap = 0
  · simp [go_sem, sliced, c]
  · simp [go_sem, sliced, c]

theorem take_nodeN (g : List Gr.Node) (k : Nat) (hk : k < g.length) : g.take (k + 1) = g.take k ++ [nodeN g k] := by rw [List.take_succ_eq_append_getElem hk, nodeN_eq g k hk]

set_option maxHeartbeats 2000000 in
set_option maxRecDepth 100000 in
theorem twinNodes_any (a : Option Addr) (len cap : Nat) (g : List Gr.Node) (w : World) (HN : Nodes w a len cap g) (hbig : len ≤ 1000000) (hsz : ∀ i, i < len → (nodeN g i).inn.length ≤ 1000000 ∧ (nodeN g i).shape.length ≤ 1000000) :
    Calls Try.prog 78 #[.slice a len cap] w fun e w' => ∃ nb c f h, e = .returned (.slice (some ⟨nb, 0, none⟩) len c) ∧ OwnT w.heap.size w' (.slice (some ⟨nb, 0, none⟩) len c) f h g ∧ len + 1 ≤ c ∧ c ≤ 9223372036854775807 ∧ Below w.heap.size w w' := by
  obtain ⟨i0, hi0, hz0, hz1, hz2⟩ := info_parts Try.info46
  have KN := Lib.hid HN
  have LN := Lib.hid HN.length
  have hle := HN.le
  have hcl := HN.cap_le
  have HSZ := Lib.hid hsz
  clear HN hsz
  go_enter Try.func78, Try.ntmps78
  go_wp2_with (at_make; refine wpList_make_own _ rfl _ _ 36 rfl w.heap.size 46 i0 _ 5 Try.underlying36 hi0 hz0 hz1 .i64 .i64 _ (len + 1) rfl rfl (by omega) (by rw [hz2]; omega) (by unfold maxLen; omega) (Nat.le_refl _) ?_)
  intro w1 hown hgrow
  have HB1 : Hid (Below w.heap.size w w1) := (Below.refl _ _).grown hgrow (Nat.le_refl _) (fun k hk => nomatch hk)
  have HO1 : Hid (OwnT w.heap.size w1 (.slice (some ⟨w.heap.size, 0, none⟩) 0 (len + 1)) (fun _ => 0) (fun _ => 0) []) := ⟨⟨[], hown, fun i hi => absurd hi (Nat.not_lt_zero _)⟩, fun i j h => absurd h (Nat.not_lt_zero _), fun i j h => absurd h (Nat.not_lt_zero _), fun i h => absurd h (Nat.not_lt_zero _)⟩
  clear hown hgrow
  go_wp2
  go_loopg [3, 4] len (fun gg u i wr => ∃ (k : Nat) (f h : Nat → Nat) (v : Value), k ≤ len ∧ len - k ≤ gg ∧ i = .int .i64 k ∧ v = u ∧ Hid (OwnT w.heap.size wr v f h (g.take k)) ∧ Hid (Below w.heap.size w wr))
  case atStart => exact ⟨0, _, _, _, Nat.zero_le _, by omega, rfl, rfl, HO1, HB1⟩
  case round =>
    obtain ⟨k, f, h, v, hk, hg, rfl, rfl, HO, HW⟩ := hrel
    by_cases hlt : k < len
    · obtain ⟨b, off, ai, li, ci, sa, ls, cs, rfl, _, n0, n1, n2, n3, n4, hV⟩ := KN.out.get HW.out hlt
      have hli := hV.i.length
      have hls := hV.s.length
      obtain ⟨hs1, hs2⟩ := HSZ.out k hlt
      have HTK := Lib.hid (take_nodeN g k (by rw [LN.out]; exact hlt))
      have hkl : (g.take k).length = k := by rw [List.length_take, LN.out]; omega
      have HC := Lib.hid (twinNode_any ai sa li ci ls cs (nodeN g k).kind (nodeN g k).n (nodeN g k).pad _ _ wr hV.i hV.s (by omega) (by omega) hV.kind)
      clear hV
      go_wp2_with fail
      refine HC.out.mono ?_
      rintro e w8 ⟨b5, o5, c5, b6, o6, c6, rfl, hM5, hM6, hne, hb⟩
      have HO8 := Lib.hid (HO.out.below hb)
      have HW8 : Hid (Below w.heap.size w w8) := HW.out.trans (hb.mono HW.out.size)
      have hlo5 := hM5.lo
      have hlo6 := hM6.lo
      have R5 : Hid (RowAt w.heap.size w8 (.slice (some ⟨b5, o5, none⟩) li c5) b5 (nodeN g k).inn) := ⟨o5, c5, by rw [hli], hM5.mono HW.out.size⟩
      have R6 : Hid (RowAt w.heap.size w8 (.slice (some ⟨b6, o6, none⟩) ls c6) b6 (nodeN g k).shape) := ⟨o6, c6, by rw [hls], hM6.mono HW.out.size⟩
      have HF : Hid ((∀ i, i < (g.take k).length → b5 ≠ f i ∧ b5 ≠ h i ∧ b6 ≠ f i) ∧ v.ownBlock ≠ some b5 ∧ v.ownBlock ≠ some b6) := by
        obtain ⟨l1, l2⟩ := HO.out.lts
        refine ⟨fun i hi => ?_, fun e => ?_, fun e => ?_⟩
        · have := l1 i hi; omega
        · have := (l2 _ e).2; omega
        · have := (l2 _ e).2; omega
      clear hM5 hM6 hb HC n0 n1 n2 n3 n4 hs1 hs2 hli hls
      go_wp2_with (at_builtin; go_must (refine wpList_appT _ rfl _ _ rfl w.heap.size v (g.take k) f h (nodeN g k) _ _ b5 b6 HO8.out R5.out R6.out HF.out.1 hne HF.out.2 rfl rfl HW8.out.size (by rw [hkl]; omega) ?_))
      intro v' w9 hO9 hB9
      rw [← HTK.out] at hO9
      have HO9 := Lib.hid hO9
      have HW9 : Hid (Below w.heap.size w w9) := HW8.out.trans hB9
      clear hO9 hB9
      go_wp2
      go_roundg (len - (k + 1))
      case measure => exact Nat.lt_of_lt_of_le (Nat.sub_lt_sub_left hlt (Nat.lt_succ_self k)) hg
      case rel => exact ⟨k + 1, _, _, _, Nat.succ_le_of_lt hlt, Nat.le_refl _, by go_num, rfl, HO9, HW9⟩
    · rw [List.take_of_length_le (by rw [LN.out]; omega)] at HO
      go_wp2_with (at_builtin; go_must (refine wpList_appSp _ rfl _ _ rfl w.heap.size v g f h _ _ _ _ _ ⟨rfl, rfl, rfl, rfl, rfl⟩ HO.out rfl rfl HW.out.size (by rw [LN.out]; omega) ?_))
      intro nb c w9 hO9 hc1 hc2 hB9
      rw [LN.out] at hO9 hc1 ⊢
      have HO9 := Lib.hid hO9
      have HW9 : Hid (Below w.heap.size w w9) := HW.out.trans hB9
      have hsl := slice_take36 (some ⟨nb, 0, none⟩) (len + 1) c len (by omega) hc1
      clear hO9 hB9
      go_wp2
      go_ret
      exact ⟨nb, c, f, h, rfl, HO9.out, hc1, hc2, HW9.out⟩

theorem OwnT.store {base : Nat} {w : World} {nb c len : Nat} {f h : Nat → Nat} {g : List Gr.Node} (H : OwnT base w (.slice (some ⟨nb, 0, none⟩) len c) f h g) (G : Nat) (u : Value) (hG : G < base) : OwnT base (w.setCell ⟨G, 0, none⟩ u) (.slice (some ⟨nb, 0, none⟩) len c) f h g := by
  obtain ⟨⟨vs, ⟨h1, h2⟩, h4⟩, i1, i2, i3⟩ := H
  refine ⟨⟨vs, ⟨h1, ?_⟩, fun i hi => ?_⟩, i1, i2, i3⟩
  · rcases h2 with h2 | ⟨g', cap, cur, hv, hg', hh, r⟩
    · exact .inl h2
    · exact .inr ⟨g', cap, cur, hv, hg', by rw [Below.heap_setCell _ _ _ _ (by intro e; simp only at e; omega)]; exact hh, r⟩
  · obtain ⟨vi, vsh, e0, e1, e2, e3, e4, r1, r2⟩ := h4 i hi
    exact ⟨vi, vsh, e0, e1, e2, e3, e4, r1.store _ _ _ (by have := r1.lt.1; omega), r2.store _ _ _ (by have := r2.lt.1; omega)⟩

theorem OwnT.lower {base base' : Nat} {w : World} {v : Value} {f h : Nat → Nat} {g : List Gr.Node} (H : OwnT base w v f h g) (hb : base' ≤ base) : OwnT base' w v f h g := by
  obtain ⟨⟨vs, ⟨h1, h2⟩, h4⟩, i1, i2, i3⟩ := H
  refine ⟨⟨vs, ⟨h1, ?_⟩, fun i hi => ?_⟩, i1, i2, i3⟩
  · rcases h2 with h2 | ⟨g', cap, cur, hv, hg', r⟩
    · exact .inl h2
    · exact .inr ⟨g', cap, cur, hv, Nat.le_trans hb hg', r⟩
  · obtain ⟨vi, vsh, e0, e1, e2, e3, e4, r1, r2⟩ := h4 i hi
    exact ⟨vi, vsh, e0, e1, e2, e3, e4, r1.mono hb, r2.mono hb⟩

set_option maxHeartbeats 2000000 in
set_option maxRecDepth 100000 in
theorem twinGraph_any (a : Option Addr) (len cap : Nat) (g : List Gr.Node) (w : World) (HN : Nodes w a len cap g) (hbig : len ≤ 1000000) (hsz : ∀ i, i < len → (nodeN g i).inn.length ≤ 1000000 ∧ (nodeN g i).shape.length ≤ 1000000) :
    Calls Try.prog 39 #[.agg #[.slice a len cap]] w fun e w' => ∃ nb c f h, e = .returned (.agg #[.slice (some ⟨nb, 0, none⟩) len c]) ∧ OwnT w.heap.size w' (.slice (some ⟨nb, 0, none⟩) len c) f h g ∧ len + 1 ≤ c ∧ c ≤ 9223372036854775807 ∧ Below w.heap.size w w' := by
  have HB2 : Hid (Below w.heap.size w ((w.alloc (.cells #[.slice a len cap] 38)).alloc (.cells #[.slice none 0 0] 38))) := ((Below.refl _ _).alloc (Nat.le_refl _) _).alloc (by simp) _
  have hz2 : ((w.alloc (.cells #[.slice a len cap] 38)).alloc (.cells #[.slice none 0 0] 38)).heap.size = w.heap.size + 2 := by simp
  have HN2 := Lib.hid (HN.on HB2.out)
  have c0 : ((w.alloc (.cells #[.slice a len cap] 38)).alloc (.cells #[.slice none 0 0] 38)).cell? ⟨w.heap.size, 0, none⟩ = some (.slice a len cap) := Lib.cell?_alloc_some _ (by rw [World.cell?_alloc_at _ _ _ _ rfl]; rfl)
  have c1 : ((w.alloc (.cells #[.slice a len cap] 38)).alloc (.cells #[.slice none 0 0] 38)).cell? ⟨w.heap.size + 1, 0, none⟩ = some (.slice none 0 0) := by rw [World.cell?_alloc_at _ _ _ _ (by simp)]; rfl
  have f1 : ((w.alloc (.cells #[.slice a len cap] 38)).alloc (.cells #[.slice none 0 0] 38)).frozen? ⟨w.heap.size + 1, 0, none⟩ = false := World.frozen?_alloc_at _ _ _ _ (by simp)
  have C1 := Lib.hid c1
  have F1 := Lib.hid f1
  clear HN c1 f1
  go_enter Try.func39, Try.ntmps39
  go_wp2_with fail
  refine (twinNodes_any _ _ _ g _ HN2.out hbig hsz).mono ?_
  rintro e w3 ⟨nb, c, f, h, rfl, hO, hc1, hc2, hb⟩
  generalize ((w.alloc (.cells #[.slice a len cap] 38)).alloc (.cells #[.slice none 0 0] 38)) = w2 at *
  have y1 := (hb.cell (p := ⟨w.heap.size + 1, 0, none⟩) (show w.heap.size + 1 < w2.heap.size by omega)).trans C1.out
  have z1 := (hb.frozen (p := ⟨w.heap.size + 1, 0, none⟩) (show w.heap.size + 1 < w2.heap.size by omega)).trans F1.out
  have HO := Lib.hid (hO.store (w.heap.size + 1) (.slice (some ⟨nb, 0, none⟩) len c) (by omega))
  have HB := Lib.hid (below_setCell (HB2.out.trans (hb.mono (by omega))) (w.heap.size + 1) 0 (.slice (some ⟨nb, 0, none⟩) len c) (by omega))
  have vS : (w3.setCell ⟨w.heap.size + 1, 0, none⟩ (.slice (some ⟨nb, 0, none⟩) len c)).cell? ⟨w.heap.size + 1, 0, none⟩ = some (.slice (some ⟨nb, 0, none⟩) len c) := World.cell?_setCell_same _ _ _ y1
  clear hO hb c0
  go_wp2
  refine bodyPost_ret (by simp [results, Try.results39, go_sem, vS]; try rfl) rfl ?_
  exact ⟨nb, c, f, h, rfl, OwnT.lower HO.out (by omega), hc1, hc2, HB.out⟩
end Go.Proofs.Ytgmagldbfajedaa
