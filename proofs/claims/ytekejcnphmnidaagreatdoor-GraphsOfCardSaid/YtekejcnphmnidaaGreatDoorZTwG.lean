import Derived.Test.YtekejcnphmnidaaGreatDoorZTwN
import Derived.Lib.QuietBelow
namespace Go.Proofs.YtekejcnphmnidaaGreatDoor
open Go.RowKit
theorem slice_takeN (a : Option Addr) (len cap r : Nat) (h1 : r ≤ cap) (w : World) : (Instr.slice 54 (.slice a len cap) none (some (.int .i64 (r : Int))) none).run Tryz.prog w = .ok (.slice a r cap) w := by
  obtain ⟨i0, hi, hz0, hz1, hz2⟩ := info_parts Tryz.info103
  have h3 : Tryz.prog.elem 54 = 103 := by kernel_rfl
  rw [run_slice_h w 54 a len cap (by rw [h3]; exact Tryz.underlying54) .i64 (r : Int) (by omega) (by omega), h3]
  have e : (a.map fun x => x.add 0) = a := by cases a <;> simp [Addr.add]
  by_cases c : cap = 0
  · simp [go_sem, sliced, c]
  · simp [go_sem, sliced, c]
theorem take_nodeZ (g : List Gr.Node) (k : Nat) (hk : k < g.length) : g.take (k + 1) = g.take k ++ [nodeN g k] := by rw [List.take_succ_eq_append_getElem hk, nodeN_eq g k hk]
set_option maxHeartbeats 2000000 in
set_option maxRecDepth 100000 in
theorem twinNodesI_any (a : Option Addr) (len cap : Nat) (g : List Gr.Node) (w : World) (HN : Nodes w a len cap g) (hbig : len ≤ 1000000) (hsz : ∀ i, i < len → (nodeN g i).inn.length ≤ 1000000 ∧ (nodeN g i).shape.length ≤ 1000000) :
    Calls Tryz.prog 107 #[.slice a len cap] w fun e w' => ∃ nb c ts, e = .returned (.slice (some ⟨nb, 0, none⟩) len c) ∧ TwinGr w.heap.size w' nb c ts g ∧ Below w.heap.size w w' := by
  obtain ⟨i0, hi0, hz0, hz1, hz2⟩ := info_parts Tryz.info103
  have KN := Lib.hid HN
  have LN := Lib.hid HN.length
  have hle := HN.le
  have hcl := HN.cap_le
  have HSZ := Lib.hid hsz
  clear HN hsz
  go_enter Tryz.func107, Tryz.ntmps107
  go_wp2_with (at_make; refine wpList_make_own _ rfl _ _ 54 rfl w.heap.size 103 i0 _ 5 Tryz.underlying54 hi0 hz0 hz1 .i64 .i64 _ (len + 1) rfl rfl (by omega) (by rw [hz2]; omega) (by unfold maxLen; omega) (Nat.le_refl _) ?_)
  intro w1 hown hgrow
  have HB1 : Hid (Below w.heap.size w w1) := (Below.refl _ _).grown hgrow (Nat.le_refl _) (fun k hk => nomatch hk)
  have HO1 : Hid (OwnTw w.heap.size w1 (.slice (some ⟨w.heap.size, 0, none⟩) 0 (len + 1)) [] []) := ⟨hown, ⟨rfl, fun i h => absurd h (Nat.not_lt_zero _)⟩, List.nodup_nil, fun b hb => by cases hb⟩
  clear hown hgrow
  go_wp2
  go_loopg [3, 4] len (fun gg u i wr => ∃ (k : Nat) (ts : List TN) (v : Value), k ≤ len ∧ len - k ≤ gg ∧ i = .int .i64 k ∧ v = u ∧ Hid (OwnTw w.heap.size wr v ts (g.take k)) ∧ Hid (Below w.heap.size w wr))
  case atStart => exact ⟨0, _, _, Nat.zero_le _, by omega, rfl, rfl, HO1, HB1⟩
  case round =>
    obtain ⟨k, ts, v, hk, hg, rfl, rfl, HO, HW⟩ := hrel
    by_cases hlt : k < len
    · obtain ⟨b, off, ai, li, ci, sa, ls, cs, rfl, _, n0, n1, n2, n3, n4, hV⟩ := KN.out.get HW.out hlt
      have hli := hV.i.length
      have hls := hV.s.length
      obtain ⟨hs1, hs2⟩ := HSZ.out k hlt
      have HTK := Lib.hid (take_nodeZ g k (by rw [LN.out]; exact hlt))
      have hkl : (g.take k).length = k := by rw [List.length_take, LN.out]; omega
      have HC := Lib.hid (twinNodeI_any ai sa li ci ls cs (nodeN g k).kind (nodeN g k).n (nodeN g k).pad _ _ wr hV.i hV.s (by omega) (by omega) hV.kind)
      clear hV
      go_wp2_with fail
      refine HC.out.mono ?_
      rintro e w8 ⟨b5, c5, b6, c6, rfl, hlo5, hlo6, hT5, hT6, hne, hb⟩
      have HO8 := Lib.hid (HO.out.below hb)
      have HW8 : Hid (Below w.heap.size w w8) := HW.out.trans (hb.mono HW.out.size)
      have T5 : Hid (TwinI w8 b5 (nodeN g k).inn.length c5 (nodeN g k).inn) := by show TwinI _ _ _ _ _; rw [hli]; exact hT5
      have T6 : Hid (TwinI w8 b6 (nodeN g k).shape.length c6 (nodeN g k).shape) := by show TwinI _ _ _ _ _; rw [hls]; exact hT6
      have HF : Hid (b5 ∉ blksN ts ∧ b6 ∉ blksN ts ∧ v.ownBlock ≠ some b5 ∧ v.ownBlock ≠ some b6 ∧ w.heap.size ≤ b5 ∧ w.heap.size ≤ b6) := by
        have l2 := World.ownsRow.lt HO.out.row
        have hz := HW.out.size
        refine ⟨fun hm => ?_, fun hm => ?_, fun e => ?_, fun e => ?_, by omega, by omega⟩
        · have := (HO.out.lo _ hm).2.1; omega
        · have := (HO.out.lo _ hm).2.1; omega
        · have := (l2 _ e).2; omega
        · have := (l2 _ e).2; omega
      have HCE : Hid (cellsN ⟨b5, c5, b6, c6⟩ (nodeN g k) = [.int .u8 (nodeN g k).kind, .slice (some ⟨b5, 0, none⟩) li c5, .slice (some ⟨b6, 0, none⟩) ls c6, .int .i64 (nodeN g k).n, .int .i64 (nodeN g k).pad]) := by show cellsN _ _ = _; unfold cellsN; rw [hli, hls]
      have hone : ∀ u ∈ ([.int .u8 (nodeN g k).kind, .slice (some ⟨b5, 0, none⟩) li c5, .slice (some ⟨b6, 0, none⟩) ls c6, .int .i64 (nodeN g k).n, .int .i64 (nodeN g k).pad] : List Value), u.oneCell' = true := fun u hu => by
        simp only [List.mem_cons, List.not_mem_nil, or_false] at hu
        rcases hu with rfl | rfl | rfl | rfl | rfl <;> rfl
      have HONE := Lib.hid hone
      clear hT5 hT6 hb HC n0 n1 n2 n3 n4 hs1 hs2 hli hls hone
      go_wp2_with (at_builtin; go_must (refine wpList_app5 _ rfl _ _ rfl w.heap.size v (g.take k).length (flatN ts (g.take k)) [.int .u8 (nodeN g k).kind, .slice (some ⟨b5, 0, none⟩) li c5, .slice (some ⟨b6, 0, none⟩) ls c6, .int .i64 (nodeN g k).n, .int .i64 (nodeN g k).pad] rfl HONE.out HO8.out.row rfl rfl HW8.out.size (by rw [hkl]; omega) ?_))
      intro v' w9 hr9 hg9 hB9 hob9
      rw [← HCE.out] at hr9
      have hr9' : w9.ownsRow w.heap.size 103 5 v' ((g.take k).length + 1) (flatN ts (g.take k) ++ cellsN ⟨b5, c5, b6, c6⟩ (nodeN g k)) := by rw [hkl]; exact hr9
      have hO9 := HO8.out.push (t := ⟨b5, c5, b6, c6⟩) (x := nodeN g k) hr9' hg9 hob9 T5.out T6.out hne HF.out.1 HF.out.2.1 ⟨HF.out.2.2.1, HF.out.2.2.2.1⟩ HF.out.2.2.2.2.1 HF.out.2.2.2.2.2
      rw [← HTK.out] at hO9
      have HO9 := Lib.hid hO9
      have HW9 : Hid (Below w.heap.size w w9) := HW8.out.trans hB9
      clear hO9 hB9 hr9 hr9' hg9 hob9
      go_wp2
      go_roundg (len - (k + 1))
      case measure => exact Nat.lt_of_lt_of_le (Nat.sub_lt_sub_left hlt (Nat.lt_succ_self k)) hg
      case rel => exact ⟨k + 1, _, _, Nat.succ_le_of_lt hlt, Nat.le_refl _, by go_num, rfl, HO9, HW9⟩
    · rw [List.take_of_length_le (by rw [LN.out]; omega)] at HO
      have hone : ∀ u ∈ spareN, u.oneCell' = true := fun u hu => by
        simp only [spareN, List.mem_cons, List.not_mem_nil, or_false] at hu
        rcases hu with rfl | rfl | rfl | rfl | rfl <;> rfl
      have HONE := Lib.hid hone
      clear hone
      go_wp2_with (at_builtin; go_must (refine wpList_app5 _ rfl _ _ rfl w.heap.size v g.length (flatN ts g) spareN rfl HONE.out HO.out.row rfl rfl HW.out.size (by rw [LN.out]; omega) ?_))
      intro v' w9 hr9 hg9 hB9 hob9
      have hrow := RowV.of_owns hr9
      have hlt2 := World.ownsRow.lt hr9
      rcases hrow with ⟨_, h2, _⟩ | ⟨nb, off, c, rfl, hr⟩
      · omega
      have hoff : off = 0 := by
        rcases hr9.2 with ⟨h, _⟩ | ⟨g', cap', cur, h, _⟩
        · cases h
        · cases h; rfl
      subst hoff
      have HT : Hid (TwinGr w.heap.size w9 nb c ts g) := by
        refine ⟨hr, HO.out.rows.keep hg9.size (fun b hm => hg9.block b (HO.out.lo b hm).2.1 (fun c => (HO.out.lo b hm).2.2 c.symm)), List.nodup_cons.2 ⟨fun hm => ?_, HO.out.nd⟩, fun b hm => ?_⟩
        · rcases hob9 with h1 | ⟨q, h1, h2⟩
          · exact (HO.out.lo nb hm).2.2 h1.symm
          · have hq : nb = q := Option.some.inj h1
            have := (HO.out.lo nb hm).2.1
            omega
        · rcases List.mem_cons.1 hm with rfl | hm
          · exact (hlt2 b rfl).1
          · exact (HO.out.lo b hm).1
      have hcp := hr.le
      have hcc := hr.cap_le
      rw [LN.out] at hcp
      have HW9 : Hid (Below w.heap.size w w9) := HW.out.trans hB9
      have hsl := slice_takeN (some ⟨nb, 0, none⟩) (len + 1) c len (by omega)
      clear hr9 hr hlt2 hB9 hg9 hob9
      rw [LN.out]
      go_wp2
      go_ret
      exact ⟨nb, c, ts, rfl, HT.out, HW9.out⟩
set_option maxHeartbeats 2000000 in
set_option maxRecDepth 100000 in
theorem twinGr_any (a : Option Addr) (len cap : Nat) (g : List Gr.Node) (w : World) (HN : Nodes w a len cap g) (hbig : len ≤ 1000000) (hsz : ∀ i, i < len → (nodeN g i).inn.length ≤ 1000000 ∧ (nodeN g i).shape.length ≤ 1000000) :
    Calls Tryz.prog 18 #[.agg #[.slice a len cap]] w fun e w' => ∃ nb c ts, e = .returned (.agg #[.slice (some ⟨nb, 0, none⟩) len c]) ∧ TwinGr w.heap.size w' nb c ts g ∧ Below w.heap.size w w' := by
  have HB2 : Hid (Below w.heap.size w ((w.alloc (.cells #[.slice a len cap] 56)).alloc (.cells #[.slice none 0 0] 56))) := ((Below.refl _ _).alloc (Nat.le_refl _) _).alloc (by simp) _
  have hz2 : ((w.alloc (.cells #[.slice a len cap] 56)).alloc (.cells #[.slice none 0 0] 56)).heap.size = w.heap.size + 2 := by simp
  have HN2 := Lib.hid (HN.on HB2.out)
  have c0 : ((w.alloc (.cells #[.slice a len cap] 56)).alloc (.cells #[.slice none 0 0] 56)).cell? ⟨w.heap.size, 0, none⟩ = some (.slice a len cap) := Lib.cell?_alloc_some _ (by rw [World.cell?_alloc_at _ _ _ _ rfl]; rfl)
  have c1 : ((w.alloc (.cells #[.slice a len cap] 56)).alloc (.cells #[.slice none 0 0] 56)).cell? ⟨w.heap.size + 1, 0, none⟩ = some (.slice none 0 0) := by rw [World.cell?_alloc_at _ _ _ _ (by simp)]; rfl
  have f1 : ((w.alloc (.cells #[.slice a len cap] 56)).alloc (.cells #[.slice none 0 0] 56)).frozen? ⟨w.heap.size + 1, 0, none⟩ = false := World.frozen?_alloc_at _ _ _ _ (by simp)
  have C1 := Lib.hid c1
  have F1 := Lib.hid f1
  clear HN c1 f1
  go_enter Tryz.func18, Tryz.ntmps18
  go_wp2_with fail
  refine (twinNodesI_any _ _ _ g _ HN2.out hbig hsz).mono ?_
  rintro e w3 ⟨nb, c, ts, rfl, hO, hb⟩
  generalize ((w.alloc (.cells #[.slice a len cap] 56)).alloc (.cells #[.slice none 0 0] 56)) = w2 at *
  have y1 := (hb.cell (p := ⟨w.heap.size + 1, 0, none⟩) (show w.heap.size + 1 < w2.heap.size by omega)).trans C1.out
  have z1 := (hb.frozen (p := ⟨w.heap.size + 1, 0, none⟩) (show w.heap.size + 1 < w2.heap.size by omega)).trans F1.out
  have HO : Hid (TwinGr w2.heap.size (w3.setCell ⟨w.heap.size + 1, 0, none⟩ (.slice (some ⟨nb, 0, none⟩) len c)) nb c ts g) := hO.keep (by simp [World.setCell]) (fun b hm => Below.heap_setCell _ _ _ _ (by have := hO.lo b hm; intro e; (try simp only at e); omega))
  have HB := Lib.hid (below_setCell (HB2.out.trans (hb.mono (by omega))) (w.heap.size + 1) 0 (.slice (some ⟨nb, 0, none⟩) len c) (by omega))
  have vS : (w3.setCell ⟨w.heap.size + 1, 0, none⟩ (.slice (some ⟨nb, 0, none⟩) len c)).cell? ⟨w.heap.size + 1, 0, none⟩ = some (.slice (some ⟨nb, 0, none⟩) len c) := World.cell?_setCell_same _ _ _ y1
  have hz3 : w.heap.size ≤ w2.heap.size := by omega
  clear hO hb c0
  go_wp2
  refine bodyPost_ret (by simp [results, Tryz.results18, go_sem, vS]; try rfl) rfl ?_
  exact ⟨nb, c, ts, rfl, HO.out.lower hz3, HB.out⟩
set_option maxHeartbeats 4000000 in
set_option maxRecDepth 100000 in
theorem leftNode_any (b c b' c' : Nat) (ai sa : Option Addr) (li ci ls cs : Nat) (kd n pad : Int) (inn shp : List Int) (w : World) (T1 : TwinI w b li c inn) (T2 : TwinI w b' ls c' shp) (HI : Ints w ai li ci inn) (HS : Ints w sa ls cs shp) (h1 : li ≤ 1000000) (h2 : ls ≤ 1000000) :
    Calls Tryz.prog 187 #[.agg #[.int .u8 kd, .slice (some ⟨b, 0, none⟩) li c, .slice (some ⟨b', 0, none⟩) ls c', .int .i64 n, .int .i64 pad], .agg #[.int .u8 kd, .slice ai li ci, .slice sa ls cs, .int .i64 n, .int .i64 pad]] w fun e w' => e = .returned (.bool true) ∧ Below w.heap.size w w' := by
  have HB2 : Hid (Below w.heap.size w ((w.alloc (.cells #[.int .u8 kd, .slice (some ⟨b, 0, none⟩) li c, .slice (some ⟨b', 0, none⟩) ls c', .int .i64 n, .int .i64 pad] 103)).alloc (.cells #[.int .u8 kd, .slice ai li ci, .slice sa ls cs, .int .i64 n, .int .i64 pad] 103))) := ((Below.refl _ _).alloc (Nat.le_refl _) _).alloc (by simp) _
  have K1 := Lib.hid (T1.below HB2.out)
  have K2 := Lib.hid (T2.below HB2.out)
  have KI := Lib.hid (HI.below HB2.out)
  have KS := Lib.hid (HS.below HB2.out)
  have e0 : (kd == kd) = true := by simp
  have e3 : (n == n) = true := by simp
  have e4 : (pad == pad) = true := by simp
  clear T1 T2 HI HS
  go_enter Tryz.func187, Tryz.ntmps187
  go_wp2_with fail
  refine (leftI_any b c ai li ci inn _ K1.out KI.out h1).mono ?_
  rintro e w3 ⟨rfl, t3, rfl⟩
  go_wp2_with fail
  refine (leftI_any b' c' sa ls cs shp _ (K2.out.below (below_drewN _ _ _)) (KS.out.drewN t3) h2).mono ?_
  rintro e w4 ⟨rfl, t4, rfl⟩
  go_wp2
  go_ret
  exact ⟨rfl, HB2.out.trans ((below_drewN _ _ _).mono HB2.out.size)⟩
set_option maxHeartbeats 4000000 in
set_option maxRecDepth 100000 in
theorem leftNodes_any (nb cap : Nat) (ts : List TN) (a : Option Addr) (len capl base : Nat) (g : List Gr.Node) (w : World) (HT : TwinGr base w nb cap ts g) (HN : Nodes w a len capl g) (hbig : len ≤ 1000000) (hsz : ∀ i, i < len → (nodeN g i).inn.length ≤ 1000000 ∧ (nodeN g i).shape.length ≤ 1000000) :
    Calls Tryz.prog 119 #[.slice (some ⟨nb, 0, none⟩) len cap, .slice a len capl] w fun e w' => e = .returned (.bool true) ∧ Below w.heap.size w w' := by
  have KT := Lib.hid HT
  have KN := Lib.hid HN
  have LN := Lib.hid HN.length
  have HSZ := Lib.hid hsz
  have hcp := HT.row.le
  have hcc := HT.row.cap_le
  have hle := HN.le
  have hcl := HN.cap_le
  have hnbl := HT.row.lt
  have m0 := HT.mark (j := 0) (by omega) rfl
  have m1 := HT.mark (j := 1) (by omega) rfl
  have m2 := HT.mark (j := 2) (by omega) rfl
  have m3 := HT.mark (j := 3) (by omega) rfl
  have m4 := HT.mark (j := 4) (by omega) rfl
  rw [Nat.add_zero] at m0
  rw [LN.out] at m0 m1 m2 m3 m4 hcp
  have hne : ((len : Int) != (len : Int)) = false := by simp
  have hd : decide ((cap : Int) ≤ (len : Int)) = false := decide_eq_false (by omega)
  have hsl := slice_takeN (some ⟨nb, 0, none⟩) len cap (len + 1) (by omega)
  clear HT HN hsz
  go_enter Tryz.func119, Tryz.ntmps119
  go_wp2
  go_loopg [5] len (fun gg i wr => ∃ k : Nat, k ≤ len ∧ len - k ≤ gg ∧ i = .int .i64 k ∧ Hid (Below w.heap.size w wr))
  case atStart => exact ⟨0, Nat.zero_le _, by omega, rfl, Below.refl _ _⟩
  case round =>
    obtain ⟨k, hk, hg, rfl, HW⟩ := hrel
    have hnbr : nb < wr.heap.size := by have := HW.out.size; omega
    by_cases hlt : k < len
    · have dkl : decide ((k : Int) < (len : Int)) = true := decide_eq_true (by omega)
      have hki : (k : Int) < (len : Int) := by omega
      obtain ⟨bg, off, ai, li, ci, sa, ls, cs, rfl, _, n0, n1, n2, n3, n4, hV⟩ := KN.out.get HW.out hlt
      have hkg : k < g.length := by rw [LN.out]; exact hlt
      have hTr := KT.out.below HW.out
      obtain ⟨t1, t2⟩ := hTr.rows.tw k hkg
      have hli := hV.i.length
      have hls := hV.s.length
      obtain ⟨hs1, hs2⟩ := HSZ.out k hlt
      have x0 := hTr.cell (i := k) (j := 0) hkg (by omega) rfl
      have x1 := hTr.cell (i := k) (j := 1) hkg (by omega) rfl
      have x2 := hTr.cell (i := k) (j := 2) hkg (by omega) rfl
      have x3 := hTr.cell (i := k) (j := 3) hkg (by omega) rfl
      have x4 := hTr.cell (i := k) (j := 4) hkg (by omega) rfl
      rw [Nat.add_zero] at x0
      rw [hli] at x1 t1 hs1
      rw [hls] at x2 t2 hs2
      have HC : Hid (∀ d os, Calls Tryz.prog 187 #[.agg #[.int .u8 (nodeN g k).kind, .slice (some ⟨(tnAt ts k).b, 0, none⟩) li (tnAt ts k).c, .slice (some ⟨(tnAt ts k).b', 0, none⟩) ls (tnAt ts k).c', .int .i64 (nodeN g k).n, .int .i64 (nodeN g k).pad], .agg #[.int .u8 (nodeN g k).kind, .slice ai li ci, .slice sa ls cs, .int .i64 (nodeN g k).n, .int .i64 (nodeN g k).pad]] (Sort.grow (redrawn wr d) os) fun e w'' => e = .returned (.bool true) ∧ ∃ p : Regrown, w'' = Sort.grow (redrawn wr p.d) p.os) := fun d os =>
        Calls.regrown_of (leftNode_any _ _ _ _ ai sa li ci ls cs _ _ _ _ _ _ (t1.below (below_regrown wr d os)) (t2.below (below_regrown wr d os)) (hV.i.below (below_regrown wr d os)) (hV.s.below (below_regrown wr d os)) hs1 hs2)
      have HEND : Hid (∀ d os, Below w.heap.size w (Sort.grow (redrawn wr d) os)) := fun d os => HW.out.trans ((below_regrown wr d os).mono HW.out.size)
      have z0 := Go.cell_regrown x0
      have z1 := Go.cell_regrown x1
      have z2 := Go.cell_regrown x2
      have z3 := Go.cell_regrown x3
      have z4 := Go.cell_regrown x4
      have y0 := Go.cell_regrown n0
      have y1 := Go.cell_regrown n1
      have y2 := Go.cell_regrown n2
      have y3 := Go.cell_regrown n3
      have y4 := Go.cell_regrown n4
      have hkc : (k : Int) < (cap : Int) := by omega
      clear x0 x1 x2 x3 x4 n0 n1 n2 n3 n4 hV t1 t2 hTr
      generalize (nodeN g k).kind = kd at *
      generalize (nodeN g k).n = nn at *
      generalize (nodeN g k).pad = pp at *
      generalize tnAt ts k = tk at *
      go_wp2_with fail
      refine wp_region_quiet_below mixed (by kernel_rfl) ?_
      repeat (go_big_quiet_step (exact HC.out _ _))
      refine wpQuiet_nil ?_
      intro _ hw'
      obtain ⟨⟨dq, osq⟩, hw''⟩ := hw'
      subst hw''
      have HEQ := Lib.hid (HEND.out dq osq)
      clear z0 z1 z2 z3 z4 y0 y1 y2 y3 y4 HC HEND
      generalize Sort.grow (redrawn wr dq) osq = wz at *
      go_wp2
      go_roundg (len - (k + 1))
      case measure => omega
      case rel => exact ⟨k + 1, by omega, by omega, by go_num, HEQ⟩
    · have dkl : decide ((k : Int) < (len : Int)) = false := decide_eq_false (by omega)
      have hll : (len : Int) < (len : Int) + 1 := by omega
      have v0 := (HW.out.cell (p := ⟨nb, len * 5, none⟩) hnbl).trans m0
      have v1 := (HW.out.cell (p := ⟨nb, len * 5 + 1, none⟩) hnbl).trans m1
      have v2 := (HW.out.cell (p := ⟨nb, len * 5 + 2, none⟩) hnbl).trans m2
      have v3 := (HW.out.cell (p := ⟨nb, len * 5 + 3, none⟩) hnbl).trans m3
      have v4 := (HW.out.cell (p := ⟨nb, len * 5 + 4, none⟩) hnbl).trans m4
      have hwr := HW.out.size
      go_wp2
      go_ret
      exact ⟨rfl, HW.out.alloc hwr _⟩
set_option maxHeartbeats 4000000 in
theorem leftGr_any (nb cap : Nat) (ts : List TN) (a : Option Addr) (len capl base : Nat) (g : List Gr.Node) (w : World) (HT : TwinGr base w nb cap ts g) (HN : Nodes w a len capl g) (hbig : len ≤ 1000000) (hsz : ∀ i, i < len → (nodeN g i).inn.length ≤ 1000000 ∧ (nodeN g i).shape.length ≤ 1000000) :
    Calls Tryz.prog 28 #[.agg #[.slice (some ⟨nb, 0, none⟩) len cap], .agg #[.slice a len capl]] w fun e w' => e = .returned (.bool true) ∧ Below w.heap.size w w' := by
  have HB2 : Hid (Below w.heap.size w ((w.alloc (.cells #[.slice (some ⟨nb, 0, none⟩) len cap] 56)).alloc (.cells #[.slice a len capl] 56))) := ((Below.refl _ _).alloc (Nat.le_refl _) _).alloc (by simp) _
  have HC := Lib.hid (leftNodes_any nb cap ts a len capl base g _ (HT.below HB2.out) (HN.on HB2.out) hbig hsz)
  clear HT HN hsz
  go_enter Tryz.func28, Tryz.ntmps28
  go_wp2_with fail
  refine HC.out.mono ?_
  rintro e w3 ⟨rfl, hb⟩
  have HE := Lib.hid (HB2.out.trans (hb.mono HB2.out.size))
  clear hb
  go_wp2
  go_ret
  exact ⟨rfl, HE.out⟩
end Go.Proofs.YtekejcnphmnidaaGreatDoor
