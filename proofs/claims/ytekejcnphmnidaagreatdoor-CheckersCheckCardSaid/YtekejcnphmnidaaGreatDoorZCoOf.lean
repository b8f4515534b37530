import Derived.Test.YtekejcnphmnidaaGreatDoorZCoOwn
namespace Go.Proofs.YtekejcnphmnidaaGreatDoor
open Go.RowKit
def CostsE (w : World) (g : List Gr.Node) (e : Ending) (w' : World) : Prop :=
  Below w.heap.size w w' ∧ ((Gr.shapes g = none ∧ e = .returned (.tuple #[.slice none 0 0, .int .i64 1])) ∨ ∃ s a len, Gr.shapes g = some s ∧ e = .returned (.tuple #[.slice a len len, .int .i64 0]) ∧ CostsIn w' a len len (Co.costs g s))
def CostsR (w : World) (g : List Gr.Node) (e : Ending) (w' : World) : Prop :=
  Below w.heap.size w w' ∧ ((Gr.shapes g = none ∧ e = .returned (.tuple #[.slice none 0 0, .int .i64 1])) ∨ ∃ s a len xs, Gr.shapes g = some s ∧ e = .returned (.tuple #[.slice a len len, .int .i64 0]) ∧ CostsIn w' a len len (Co.costs g s) ∧ RowV 3 w' (.slice a len len) len xs ∧ ∀ p, a = some p → w.heap.size ≤ p.block)
theorem CostsR.costsE {w w' : World} {g : List Gr.Node} {e : Ending} (h : CostsR w g e w') : CostsE w g e w' := ⟨h.1, h.2.imp_right fun ⟨s, a, len, _, h1, h2, h3, _⟩ => ⟨s, a, len, h1, h2, h3⟩⟩
theorem run_takeI (a : Option Addr) (len cap r : Nat) (h1 : r ≤ len) (h2 : len ≤ cap) (w : World) : (Instr.slice 22 (.slice a len cap) none (some (.int .i64 (r : Int))) none).run Tryz.prog w = .ok (.slice a r cap) w := by
  obtain ⟨i0, hi, hz0, hz1, hz2⟩ := info_parts Tryz.info3
  have h3 : Tryz.prog.elem 22 = 3 := by kernel_rfl
  rw [run_slice_h w 22 a len cap (by rw [h3]; exact Tryz.underlying22) .i64 (r : Int) (by omega) (by omega), h3]
  have e : (a.map fun x => x.add 0) = a := by cases a <;> simp [Addr.add]
  by_cases c : cap = 0
  · simp [go_sem, sliced, c]
  · simp [go_sem, sliced, c]
set_option maxHeartbeats 4000000 in
set_option maxRecDepth 100000 in
theorem cof_row (a : Option Addr) (len cap : Nat) (g : List Gr.Node) (w : World) (HN : Nodes w a len cap g) :
    Calls Tryz.prog 32 #[.agg #[.slice a len cap]] w fun e w' => CostsR w g e w' := by
  have LN := Lib.hid HN.length
  have hle := HN.le
  have hcl := HN.cap_le
  have K0 := Lib.hid (GSt.start HN)
  clear HN
  go_enter Tryz.func32, Tryz.ntmps32
  go_wp2_with fail
  refine (gshapes_any _ _ _ g _ K0.out.n).mono ?_
  rintro e w1 ⟨hb, ⟨hs, rfl⟩ | ⟨s, aS, lS, hs, rfl, hG⟩⟩
  · have K1 := Lib.hid (K0.out.on hb)
    have HS := Lib.hid hs
    clear hb hs
    go_wp2
    go_ret2
    exact ⟨K1.out.bel, .inl ⟨HS.out, rfl⟩⟩
  have K1 := Lib.hid (K0.out.on hb)
  have c1 := K1.out.cell
  have HS := Lib.hid hs
  have HG1 := Lib.hid hG
  obtain ⟨⟨hl1, hl2⟩, _, _⟩ := Gr.shapes_iff.1 hs
  rw [LN.out] at hl1 hl2
  obtain rfl : lS = len := by have h1 := Gr.shapes_len hs; have h2 := hG.length; have h3 := LN.out; omega
  have hsle := hG.le
  have hscl := hG.cap_le
  clear hb hs hG K0
  go_wp2_with fail
  refine (works_any _).mono ?_
  rintro e w2 ⟨r, rfl, hM, hb⟩
  have K2 := Lib.hid (K1.out.on hb)
  have HG2 := Lib.hid (HG1.out.below hb)
  have HM2 := Lib.hid hM
  have c2 := K2.out.cell
  clear hM hb c1 K1 HG1
  go_wp2
  go_loopg [2, 25] lS (fun gg v i wr => ∃ k : Nat, k ≤ lS ∧ lS - k ≤ gg ∧ i = .int .i64 k ∧ Hid (OwnC w2.heap.size wr v (Co.costsK g s k)) ∧ Hid (Below w2.heap.size w2 wr))
  case atStart => exact ⟨0, Nat.zero_le _, by omega, rfl, OwnC.nil _ _, Below.refl _ _⟩
  case round =>
    obtain ⟨k, hk, hg, rfl, HO, HW⟩ := hrel
    have Kr := Lib.hid (K2.out.on HW.out)
    by_cases hlt : k < lS
    · obtain ⟨b, off, ai, li, ci, sa, ls, cs, rfl, _, n0, n1, n2, n3, n4, hV⟩ := Kr.out.n.get (Below.refl _ wr) hlt
      have HV := Lib.hid hV
      have hkd := hV.kind
      have HWK := Lib.hid (work_ok HS.out (i := k) (by rw [LN.out]; exact hlt))
      have HIN := Lib.hid (Co.inn_of HS.out (i := k) (by rw [LN.out]; exact hlt))
      have hszb := Co.size_bounds HS.out (i := k) (by rw [LN.out]; exact hlt)
      have HCK : Hid (Co.costsK g s (k + 1) = Co.costsK g s k ++ [⟨4 * Gr.size (rowL s k), 4 * Gr.size (rowL s k) + Co.insK s (nodeN g k).inn (nodeN g k).inn.length, Co.workF (nodeN g k) (Gr.size (rowL s k)) ((nodeN g k).inn.map (Gr.rowAt s))⟩]) := Co.costsK_snoc g s k
      have HGr := Lib.hid (HG2.out.below HW.out)
      obtain ⟨bS, oS, rfl, hbS, hcS⟩ := HGr.out.at_ (by omega)
      obtain ⟨aR, lR, cR, kR, hR⟩ := hcS k hlt
      have HR := Lib.hid hR
      have kR' : ∀ o, (wr.alloc o).cell? ⟨bS, oS + k, none⟩ = some (.slice aR lR cR) := fun o => Lib.cell?_alloc_some _ kR
      obtain ⟨aC, lC, cC, rfl, hC, _⟩ := HO.out.costs
      have HC := Lib.hid hC
      have HX : Hid (nodeN g k = ⟨(nodeN g k).kind, (nodeN g k).inn, (nodeN g k).shape, (nodeN g k).n, (nodeN g k).pad⟩) := rfl
      have hlil := hV.i.length
      have hlile := hV.i.le
      have hlicl := hV.i.cap_le
      have hli4 : li ≤ 4 := by have := HIN.out.1; omega
      have HB4 : Hid (Below wr.heap.size wr (wr.alloc (.cells #[.int .u8 (nodeN g k).kind, .slice ai li ci, .slice sa ls cs, .int .i64 (nodeN g k).n, .int .i64 (nodeN g k).pad] 103))) := (Below.refl _ _).alloc (Nat.le_refl _) _
      have hz4 : (wr.alloc (.cells #[.int .u8 (nodeN g k).kind, .slice ai li ci, .slice sa ls cs, .int .i64 (nodeN g k).n, .int .i64 (nodeN g k).pad] 103)).heap.size = wr.heap.size + 1 := by simp
      have X0 : Hid ((wr.alloc (.cells #[.int .u8 (nodeN g k).kind, .slice ai li ci, .slice sa ls cs, .int .i64 (nodeN g k).n, .int .i64 (nodeN g k).pad] 103)).cell? ⟨wr.heap.size, 0, none⟩ = some (.int .u8 (nodeN g k).kind)) := by show _ = _; rw [World.cell?_alloc_at _ _ _ _ rfl]; rfl
      have X1 : Hid ((wr.alloc (.cells #[.int .u8 (nodeN g k).kind, .slice ai li ci, .slice sa ls cs, .int .i64 (nodeN g k).n, .int .i64 (nodeN g k).pad] 103)).cell? ⟨wr.heap.size, 1, none⟩ = some (.slice ai li ci)) := by show _ = _; rw [World.cell?_alloc_at _ _ _ _ rfl]; rfl
      have X2 : Hid ((wr.alloc (.cells #[.int .u8 (nodeN g k).kind, .slice ai li ci, .slice sa ls cs, .int .i64 (nodeN g k).n, .int .i64 (nodeN g k).pad] 103)).cell? ⟨wr.heap.size, 2, none⟩ = some (.slice sa ls cs)) := by show _ = _; rw [World.cell?_alloc_at _ _ _ _ rfl]; rfl
      have X3 : Hid ((wr.alloc (.cells #[.int .u8 (nodeN g k).kind, .slice ai li ci, .slice sa ls cs, .int .i64 (nodeN g k).n, .int .i64 (nodeN g k).pad] 103)).cell? ⟨wr.heap.size, 3, none⟩ = some (.int .i64 (nodeN g k).n)) := by show _ = _; rw [World.cell?_alloc_at _ _ _ _ rfl]; rfl
      have X4 : Hid ((wr.alloc (.cells #[.int .u8 (nodeN g k).kind, .slice ai li ci, .slice sa ls cs, .int .i64 (nodeN g k).n, .int .i64 (nodeN g k).pad] 103)).cell? ⟨wr.heap.size, 4, none⟩ = some (.int .i64 (nodeN g k).pad)) := by show _ = _; rw [World.cell?_alloc_at _ _ _ _ rfl]; rfl
      have Z4 := Lib.hid hz4
      have cr := Kr.out.cell
      clear hcS hR hV hC hz4 hlil
      rw [HX.out] at HWK HCK
      generalize (nodeN g k).kind = kd at *
      generalize (nodeN g k).n = nn at *
      generalize (nodeN g k).pad = pad at *
      go_wp2_with fail
      refine (size_any _ _ _ _ _ (HR.out.below ((Below.refl _ _).alloc (Nat.le_refl _) _))).mono ?_
      rintro e w5 ⟨rfl, rfl⟩
      generalize wr.alloc (.cells #[.int .u8 kd, .slice ai li ci, .slice sa ls cs, .int .i64 nn, .int .i64 pad] 103) = w4 at *
      have HSZ : Hid (Gr.size (rowL s k) = Gr.size (rowL s k)) := rfl
      generalize Gr.size (rowL s k) = sz at *
      have x1' : ∀ o, (w4.alloc o).cell? ⟨wr.heap.size, 1, none⟩ = some (.slice ai li ci) := fun o => Lib.cell?_alloc_some _ X1.out
      clear kR kR' n0 n1 n2 n3 n4 cr
      go_wp2
      go_loopg [10, 44] li (fun gg v i wv => ∃ j : Nat, j ≤ li ∧ li - j ≤ gg ∧ i = .int .i64 j ∧ Hid (wv.cell? ⟨w4.heap.size, 0, none⟩ = some (.int .i64 (4 * sz))) ∧ Hid (wv.cell? ⟨w4.heap.size, 1, none⟩ = some (.int .i64 (4 * sz + Co.insK s (nodeN g k).inn j))) ∧
        Hid (wv.cell? ⟨w4.heap.size, 2, none⟩ = some (.int .i64 sz)) ∧ Hid (wv.frozen? ⟨w4.heap.size, 1, none⟩ = false ∧ wv.frozen? ⟨w4.heap.size, 2, none⟩ = false) ∧ Hid (OwnD (fun q => q < w4.heap.size) (w4.heap.size + 1) wv v (((nodeN g k).inn.map (Gr.rowAt s)).take j)) ∧
        Hid (Below w4.heap.size w4 wv) ∧ Hid (w4.heap.size < wv.heap.size))
      case atStart =>
        exact ⟨0, Nat.zero_le _, by omega, rfl, by show _ = _; rw [World.cell?_alloc_at _ _ _ _ rfl]; rfl, by show _ = _; rw [World.cell?_alloc_at _ _ _ _ rfl]; simp [Co.insK], by show _ = _; rw [World.cell?_alloc_at _ _ _ _ rfl]; rfl,
          ⟨World.frozen?_alloc_at _ _ _ _ rfl, World.frozen?_alloc_at _ _ _ _ rfl⟩, OwnD.nil _ _ _, (Below.refl _ _).alloc (Nat.le_refl _) _, by show _ < _; simp⟩
      case round =>
        rename World => wv
        obtain ⟨j, hj, hgj, rfl, HC0, HC1, HC2, HFz, HIo, HBv, HZ⟩ := hrel
        have HB4v : Hid (Below wr.heap.size wr wv) := HB4.out.trans (HBv.out.mono (by have := Z4.out; omega))
        have x1v := (HBv.out.cell (p := ⟨wr.heap.size, 1, none⟩) (show wr.heap.size < w4.heap.size by have := Z4.out; omega)).trans X1.out
        by_cases hltj : j < li
        · have djl : decide ((j : Int) < (li : Int)) = true := decide_eq_true (by omega)
          obtain ⟨bI, oI, rfl, _, hcI⟩ := (HV.out.i.below HB4v.out).at_ (by omega)
          have kI := hcI j hltj
          have hv := HIN.out.2 (nth (nodeN g k).inn j) (nth_mem _ j (by rw [HV.out.i.length]; exact hltj))
          have HTS : Hid (((nodeN g k).inn.map (Gr.rowAt s)).take (j + 1) = ((nodeN g k).inn.map (Gr.rowAt s)).take j ++ [Gr.rowAt s (nth (nodeN g k).inn j)]) := by
            show _ = _
            rw [← List.map_take, ← List.map_take, take_snoc _ j (by rw [HV.out.i.length]; exact hltj), List.map_append]; rfl
          have HIK : Hid (Co.insK s (nodeN g k).inn (j + 1) = Co.insK s (nodeN g k).inn j + (if hasB ((nodeN g k).inn.take j) (nth (nodeN g k).inn j) = true then 0 else 4 * Co.sizeAt s (nth (nodeN g k).inn j))) := rfl
          have HTK := Lib.hid (((HV.out.i.below HB4v.out)).take j (by omega))
          have hsl := run_takeI (some ⟨bI, oI, none⟩) li ci j (by omega) hlile
          have hIr := Co.insK_range s (nodeN g k).inn j
          clear hcI
          generalize nth (nodeN g k).inn j = x at *
          obtain ⟨p, rfl⟩ : ∃ p : Nat, x = (p : Int) := ⟨x.toNat, by omega⟩
          have hp : p < k := by omega
          obtain ⟨_, _, eS, hbSv, hcS⟩ := (HGr.out.below HB4v.out).at_ (by omega)
          cases eS
          obtain ⟨aP, lP, cP, kP, hP⟩ := hcS p (by omega)
          have HP : Hid (Ints wv aP lP cP (Gr.rowAt s (p : Int))) := by rw [Gr.rowAt_nat]; exact hP
          have HPb : Hid (∀ q, aP = some q → 0 < lP → q.block < w4.heap.size) := by
            obtain ⟨_, _, eS, _, hcS'⟩ := HGr.out.at_ (by omega)
            cases eS
            obtain ⟨aQ, lQ, cQ, kQ, hQ⟩ := hcS' p (by omega)
            have := (HB4v.out.cell (p := ⟨bS, oS + p, none⟩) hbS).trans kQ
            rw [kP] at this
            cases this
            intro q hq h0
            obtain ⟨b', o', e', hlt', _⟩ := hQ.at_ h0
            rw [hq] at e'; cases e'
            have := Z4.out
            simp only
            omega
          clear hcS hP
          go_wp2_with (at_builtin; go_must (refine wpList_appD _ rfl _ _ rfl (w4.heap.size + 1) _ _ aP lP cP (Gr.rowAt s (p : Int)) HIo.out HP.out ?q1 rfl rfl ?q2 ?q3 ?_))
          case q1 =>
            intro q hq h0
            have h1 := HPb.out q hq h0
            refine ⟨fun e => ?_, h1⟩
            have h2 := (HIo.out.lt _ e.symm).1
            omega
          case q2 => exact HZ.out
          case q3 =>
            have h1 := HV.out.i.length
            simp only [List.length_map, List.length_take]
            omega
          intro v' w6 hown' hbel hgrow
          rw [← HTS.out] at hown'
          have HO6 := Lib.hid hown'
          have D0 : Hid (w6.cell? ⟨w4.heap.size, 0, none⟩ = some (.int .i64 (4 * sz))) := (hbel.cell (p := ⟨w4.heap.size, 0, none⟩) (Nat.lt_succ_self _)).trans HC0.out
          have D1 : Hid (w6.cell? ⟨w4.heap.size, 1, none⟩ = some (.int .i64 (4 * sz + Co.insK s (nodeN g k).inn j))) := (hbel.cell (p := ⟨w4.heap.size, 1, none⟩) (Nat.lt_succ_self _)).trans HC1.out
          have D2 : Hid (w6.cell? ⟨w4.heap.size, 2, none⟩ = some (.int .i64 sz)) := (hbel.cell (p := ⟨w4.heap.size, 2, none⟩) (Nat.lt_succ_self _)).trans HC2.out
          have DF : Hid (w6.frozen? ⟨w4.heap.size, 1, none⟩ = false ∧ w6.frozen? ⟨w4.heap.size, 2, none⟩ = false) := ⟨(hbel.frozen (p := ⟨w4.heap.size, 1, none⟩) (Nat.lt_succ_self _)).trans HFz.out.1, (hbel.frozen (p := ⟨w4.heap.size, 2, none⟩) (Nat.lt_succ_self _)).trans HFz.out.2⟩
          have HB6 : Hid (Below w4.heap.size w4 w6) := HBv.out.trans (hbel.mono (by omega))
          have HZ6 : Hid (w4.heap.size < w6.heap.size) := Nat.lt_of_lt_of_le HZ.out hbel.size
          have HTK6 : Hid (Ints w6 (some ⟨bI, oI, none⟩) j ci ((nodeN g k).inn.take j)) := ((HV.out.i.below (HB4.out.trans (HB6.out.mono (by have := Z4.out; omega)))).take j (by omega))
          have x1w := (HB6.out.cell (p := ⟨wr.heap.size, 1, none⟩) (show wr.heap.size < w4.heap.size by have := Z4.out; omega)).trans X1.out
          clear hown' hbel hgrow kI kP x1v
          go_wp2_with fail
          refine (contains_any _ _ _ _ (p : Int) _ HTK6.out).mono ?_
          rintro e w7 ⟨rfl, rfl⟩
          cases hh : hasB ((nodeN g k).inn.take j) (p : Int) with
          | true =>
            have HIN2 : Hid (Co.insK s (nodeN g k).inn (j + 1) = Co.insK s (nodeN g k).inn j) := by
              show _ = _
              rw [HIK.out, hh, if_pos rfl, Int.add_zero]
            have HD1 : Hid (w6.cell? ⟨w4.heap.size, 1, none⟩ = some (.int .i64 (4 * sz + Co.insK s (nodeN g k).inn (j + 1)))) := by rw [HIN2.out]; exact D1
            clear hh HIN2
            go_wp2
            go_roundg (li - (j + 1))
            case measure => exact Nat.lt_of_lt_of_le (Nat.sub_lt_sub_left hltj (Nat.lt_succ_self j)) hgj
            case rel => exact ⟨j + 1, Nat.succ_le_of_lt hltj, Nat.le_refl _, by go_num, D0, HD1, D2, DF, HO6, HB6, HZ6⟩
          | false =>
            have HIN2 : Hid (Co.insK s (nodeN g k).inn (j + 1) = Co.insK s (nodeN g k).inn j + 4 * Co.sizeAt s (p : Int)) := by
              show _ = _
              rw [HIK.out, hh, if_neg (by decide)]
            clear hh
            have hsr := Co.sizeAt_range s (p : Int)
            obtain ⟨bC, oC, rfl, hbC, hcC⟩ := HC.out.at_ (by rw [← HC.out.length, Co.costsK_length]; omega)
            have kC0 : wr.cell? ⟨bC, oC + p * 3, none⟩ = some (.int .i64 (4 * Co.sizeAt s (p : Int))) := by
              have := (hcC p (by rw [← HC.out.length, Co.costsK_length]; exact hp)).1
              rw [Co.costsK_at _ _ _ _ hp] at this
              rw [this]
              show some (Value.int .i64 (4 * Gr.size (rowL s p))) = _
              unfold Co.sizeAt
              rw [Gr.rowAt_nat]
            have hlC : lC = k := by rw [← HC.out.length, Co.costsK_length]
            have hpC : p < lC := by omega
            clear hlC
            have kC := ((HB4.out.trans (HB6.out.mono (by have := Z4.out; omega))).cell (p := ⟨bC, oC + p * 3, none⟩) hbC).trans kC0
            have d1 := D1.out
            have df := DF.out.1
            have hne : bC ≠ w4.heap.size := by have := Z4.out; omega
            have HD0 : Hid ((w6.setCell ⟨w4.heap.size, 1, none⟩ (.int .i64 (4 * sz + Co.insK s (nodeN g k).inn j + 4 * Co.sizeAt s (p : Int)))).cell? ⟨w4.heap.size, 0, none⟩ = some (.int .i64 (4 * sz))) := by
              show _ = _; rw [World.cell?_setCell_other _ _ _ _ (by intro c; simp at c)]; exact D0.out
            have HD1 : Hid ((w6.setCell ⟨w4.heap.size, 1, none⟩ (.int .i64 (4 * sz + Co.insK s (nodeN g k).inn j + 4 * Co.sizeAt s (p : Int)))).cell? ⟨w4.heap.size, 1, none⟩ = some (.int .i64 (4 * sz + Co.insK s (nodeN g k).inn (j + 1)))) := by
              show _ = _; rw [World.cell?_setCell_same _ _ _ D1.out, HIN2.out]; congr 2; omega
            have HD2 : Hid ((w6.setCell ⟨w4.heap.size, 1, none⟩ (.int .i64 (4 * sz + Co.insK s (nodeN g k).inn j + 4 * Co.sizeAt s (p : Int)))).cell? ⟨w4.heap.size, 2, none⟩ = some (.int .i64 sz)) := by
              show _ = _; rw [World.cell?_setCell_other _ _ _ _ (by intro c; simp at c)]; exact D2.out
            have HDF : Hid ((w6.setCell ⟨w4.heap.size, 1, none⟩ (.int .i64 (4 * sz + Co.insK s (nodeN g k).inn j + 4 * Co.sizeAt s (p : Int)))).frozen? ⟨w4.heap.size, 1, none⟩ = false ∧ (w6.setCell ⟨w4.heap.size, 1, none⟩ (.int .i64 (4 * sz + Co.insK s (nodeN g k).inn j + 4 * Co.sizeAt s (p : Int)))).frozen? ⟨w4.heap.size, 2, none⟩ = false) := by
              show _ ∧ _; rw [World.frozen?_setCell, World.frozen?_setCell]; exact DF.out
            have HDO := Lib.hid (HO6.out.store w4.heap.size 1 (.int .i64 (4 * sz + Co.insK s (nodeN g k).inn j + 4 * Co.sizeAt s (p : Int))) (Nat.lt_succ_self _) (fun b hb => Nat.ne_of_lt hb))
            have HDB := Lib.hid (below_setCell HB6.out w4.heap.size 1 (.int .i64 (4 * sz + Co.insK s (nodeN g k).inn j + 4 * Co.sizeAt s (p : Int))) (Nat.le_refl _))
            have HDZ : Hid (w4.heap.size < (w6.setCell ⟨w4.heap.size, 1, none⟩ (.int .i64 (4 * sz + Co.insK s (nodeN g k).inn j + 4 * Co.sizeAt s (p : Int)))).heap.size) := by show _ < _; simp [World.setCell]; exact HZ6.out
            clear hcC kC0 D0 D1 D2 DF HO6 HB6 HZ6 HIK HIN2
            have hIr2 : 0 ≤ Co.insK s (nodeN g k).inn j ∧ Co.insK s (nodeN g k).inn j ≤ 16384 * 4 := by omega
            clear hIr
            generalize Co.insK s (nodeN g k).inn j = I0 at *
            generalize Co.sizeAt s (p : Int) = S1 at *
            go_wp2_with fail
            go_region
            go_wp2
            go_roundg (li - (j + 1))
            case measure => exact Nat.lt_of_lt_of_le (Nat.sub_lt_sub_left hltj (Nat.lt_succ_self j)) hgj
            case rel => exact ⟨j + 1, Nat.succ_le_of_lt hltj, Nat.le_refl _, by go_num, HD0, HD1, HD2, HDF, HDO.out.below (Below.refl _ _).drew, HDB.out.drew, HDZ⟩
        · have djl : decide ((j : Int) < (li : Int)) = false := decide_eq_false (by omega)
          obtain rfl : j = li := by omega
          have x0v := (HBv.out.cell (p := ⟨wr.heap.size, 0, none⟩) (show wr.heap.size < w4.heap.size by have := Z4.out; omega)).trans X0.out
          have x2v := (HBv.out.cell (p := ⟨wr.heap.size, 2, none⟩) (show wr.heap.size < w4.heap.size by have := Z4.out; omega)).trans X2.out
          have x3v := (HBv.out.cell (p := ⟨wr.heap.size, 3, none⟩) (show wr.heap.size < w4.heap.size by have := Z4.out; omega)).trans X3.out
          have x4v := (HBv.out.cell (p := ⟨wr.heap.size, 4, none⟩) (show wr.heap.size < w4.heap.size by have := Z4.out; omega)).trans X4.out
          have HLI := Lib.hid HV.out.i.length
          rw [List.take_of_length_le (by rw [List.length_map, HLI.out]; omega)] at HIo
          rw [HLI.out] at HCK
          obtain ⟨aG, lG, cG, rfl, hGi, _⟩ := HIo.out.grid
          have HGi := Lib.hid hGi
          have HOv := Lib.hid (HO.out.below HB4v.out)
          have HWv : Hid (Below w2.heap.size w2 wv) := HW.out.trans (HB4v.out.mono HW.out.size)
          have HMv := Lib.hid (HM2.out.below HWv.out)
          have hck : (Co.costsK g s k).length ≤ 10000000 := by rw [Co.costsK_length]; omega
          have d0 := HC0.out
          have d1 := HC1.out
          have d2 := HC2.out
          have hzz := HZ.out
          have df := HFz.out.2
          clear hGi HGr HR HIo
          generalize hIK : Co.insK s (nodeN g k).inn j = I0 at *
          clear hIK
          cases hf : workFn kd with
          | none =>
            have hlk := HMv.out.absent hf
            have hneq := neq_none wv
            have HWF : Hid (Co.workF ⟨kd, (nodeN g k).inn, (nodeN g k).shape, nn, pad⟩ sz ((nodeN g k).inn.map (Gr.rowAt s)) = sz) := work_none _ _ hf
            rw [HWF.out] at HCK
            clear hf HWK
            go_wp2_with (at_builtin; go_must (refine wpList_appC _ rfl _ _ rfl w2.heap.size _ (Co.costsK g s k) ⟨4 * sz, 4 * sz + I0, sz⟩ HOv.out rfl rfl HWv.out.size hck ?_))
            intro v' w6 hown' hbel hgrow
            rw [← HCK.out] at hown'
            have HO6 := Lib.hid hown'
            have HW6 : Hid (Below w2.heap.size w2 w6) := HWv.out.trans hbel
            clear hown' hbel hgrow
            go_wp2
            go_roundg (lS - (k + 1))
            case measure => exact Nat.lt_of_lt_of_le (Nat.sub_lt_sub_left hlt (Nat.lt_succ_self k)) hg
            case rel => exact ⟨k + 1, Nat.succ_le_of_lt hlt, Nat.le_refl _, by go_num, HO6, HW6⟩
          | some f =>
            have hlk := HMv.out.there hf
            unfold fnV at hlk
            have hneq := neq_fn f wv
            have HF := Lib.hid hf
            clear hf
            have heg := work_enters HF.out
            go_wp2_with fail
            refine (work_any ⟨kd, (nodeN g k).inn, (nodeN g k).shape, nn, pad⟩ sz ai sa j ci ls cs aG lG cG _ _ HGi.out HWK.out HF.out).mono ?_
            rintro e w8 ⟨rfl, hb8⟩
            generalize Co.workF ⟨kd, (nodeN g k).inn, (nodeN g k).shape, nn, pad⟩ sz ((nodeN g k).inn.map (Gr.rowAt s)) = wk at *
            have e0 := (hb8.cell (p := ⟨w4.heap.size, 0, none⟩) hzz).trans d0
            have e1 := (hb8.cell (p := ⟨w4.heap.size, 1, none⟩) hzz).trans d1
            have e2 := (hb8.cell (p := ⟨w4.heap.size, 2, none⟩) hzz).trans d2
            have ef := (hb8.frozen (p := ⟨w4.heap.size, 2, none⟩) hzz).trans df
            have s0 : (w8.setCell ⟨w4.heap.size, 2, none⟩ (.int .i64 wk)).cell? ⟨w4.heap.size, 0, none⟩ = some (.int .i64 (4 * sz)) := by rw [World.cell?_setCell_other _ _ _ _ (by intro c; simp at c)]; exact e0
            have s1 : (w8.setCell ⟨w4.heap.size, 2, none⟩ (.int .i64 wk)).cell? ⟨w4.heap.size, 1, none⟩ = some (.int .i64 (4 * sz + I0)) := by rw [World.cell?_setCell_other _ _ _ _ (by intro c; simp at c)]; exact e1
            have s2 : (w8.setCell ⟨w4.heap.size, 2, none⟩ (.int .i64 wk)).cell? ⟨w4.heap.size, 2, none⟩ = some (.int .i64 wk) := World.cell?_setCell_same _ _ _ e2
            have HW8 : Hid (Below w2.heap.size w2 (w8.setCell ⟨w4.heap.size, 2, none⟩ (.int .i64 wk))) := below_setCell (HWv.out.trans (hb8.mono HWv.out.size)) _ _ _ (by have := HW.out.size; have := Z4.out; omega)
            have HO8 : Hid (OwnC w2.heap.size (w8.setCell ⟨w4.heap.size, 2, none⟩ (.int .i64 wk)) (.slice aC lC cC) (Co.costsK g s k)) := by
              refine (HOv.out.below hb8).store _ _ _ ?_
              intro e
              have h1 := (HO.out.lt _ e).2
              have h2 := Z4.out
              omega
            clear hb8 d0 d1 d2 df heg
            go_wp2_with (at_builtin; go_must (refine wpList_appC _ rfl _ _ rfl w2.heap.size _ (Co.costsK g s k) ⟨4 * sz, 4 * sz + I0, wk⟩ HO8.out rfl (by show Value.slice (some ⟨w8.heap.size, 0, none⟩) 1 1 = _; simp [World.setCell]) HW8.out.size hck ?_))
            intro v' w6 hown' hbel hgrow
            rw [← HCK.out] at hown'
            have HO6 := Lib.hid hown'
            have HW6 : Hid (Below w2.heap.size w2 w6) := HW8.out.trans hbel
            clear hown' hbel hgrow
            go_wp2
            go_roundg (lS - (k + 1))
            case measure => exact Nat.lt_of_lt_of_le (Nat.sub_lt_sub_left hlt (Nat.lt_succ_self k)) hg
            case rel => exact ⟨k + 1, Nat.succ_le_of_lt hlt, Nat.le_refl _, by go_num, HO6, HW6⟩
    · have dkl : decide ((k : Int) < (lS : Int)) = false := decide_eq_false (by omega)
      obtain rfl : k = lS := by omega
      obtain ⟨vsC, hrowC, _⟩ := HO.out
      have hltC := World.ownsRow.lt hrowC
      have hrvC := RowV.of_owns hrowC
      obtain ⟨aC, lC, cC, rfl, hC, hCn⟩ := HO.out.costs
      have HFC : Hid (∀ p, aC = some p → w.heap.size ≤ p.block) := fun p hp => by
        have h1 := (hltC p.block (by rw [hp]; rfl)).1
        have h2 := K2.out.bel.size
        omega
      have HRV : Hid (lC = k ∧ RowV 3 wr (.slice aC k k) k vsC) := by
        obtain ⟨h1, h2⟩ := hrvC.clip
        rw [Co.costsK_length] at h1 h2
        exact ⟨h1, h2⟩
      clear hrowC hltC hrvC
      have HC := Lib.hid hC
      have hCle := hC.le
      have hCcl := hC.cap_le
      have hCl := hC.length
      rw [Co.costsK_length] at hCl
      clear hC
      go_wp2_with fail
      refine (clipC_any aC lC cC _ hCle hCcl hCn).mono ?_
      rintro e w6 ⟨rfl, rfl⟩
      go_wp2
      go_ret2
      refine ⟨Kr.out.bel, .inr ⟨s, aC, _, vsC, HS.out, rfl, ⟨Nat.le_refl _, by omega, by rw [show Co.costs g s = Co.costsK g s k from by unfold Co.costs; rw [LN.out]]; exact HC.out.length, ?_⟩, by have h := HRV.out.2; rw [← HRV.out.1] at h; exact h, HFC.out⟩⟩
      have := HC.out.at_
      unfold Co.costs
      rw [LN.out]
      exact this
theorem cof_any (a : Option Addr) (len cap : Nat) (g : List Gr.Node) (w : World) (HN : Nodes w a len cap g) :
    Calls Tryz.prog 32 #[.agg #[.slice a len cap]] w fun e w' => CostsE w g e w' := (cof_row a len cap g w HN).mono fun _ _ h => h.costsE
end Go.Proofs.YtekejcnphmnidaaGreatDoor
