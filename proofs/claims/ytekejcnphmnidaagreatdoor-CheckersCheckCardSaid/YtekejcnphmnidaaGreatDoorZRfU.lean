import Derived.Test.YtekejcnphmnidaaGreatDoorZRfT
import Derived.Test.YtekejcnphmnidaaGreatDoorZCoOwn
import Derived.BigRegion
namespace Go.Proofs.YtekejcnphmnidaaGreatDoor
open Go.RowKit
def RCostsE (w : World) (g : List Gr.Node) (e : Ending) (w' : World) : Prop :=
  Below w.heap.size w w' ∧ ((Gr.shapes g = none ∧ e = .returned (.tuple #[.slice none 0 0, .int .i64 1])) ∨ ∃ s v base, Gr.shapes g = some s ∧ w.heap.size ≤ base ∧ e = .returned (.tuple #[v, .int .i64 0]) ∧ OwnC base w' v (Co.costs g s))
theorem hasB_next (l : List Int) (x : Int) (p : Nat) (hp : p < l.length) : hasB (l.take (p + 1)) x = (hasB (l.take p) x || (nth l p == x)) := by
  rw [take_snoc l p hp]
  cases h : (hasB (l.take p) x || (nth l p == x)) with
  | true =>
    rw [hasB_iff, List.mem_append]
    rw [Bool.or_eq_true, hasB_iff] at h
    rcases h with h | h
    · exact .inl h
    · simp only [beq_iff_eq] at h; subst h; exact .inr (by simp)
  | false =>
    cases h2 : hasB (l.take p ++ [nth l p]) x with
    | false => rfl
    | true =>
      rw [hasB_iff, List.mem_append] at h2
      rw [Bool.or_eq_false_iff] at h
      rcases h2 with h2 | h2
      · rw [(hasB_iff _ _).2 h2] at h; cases h.1
      · simp only [List.mem_singleton] at h2; subst h2; simp at h
set_option maxHeartbeats 8000000 in
set_option maxRecDepth 100000 in
theorem rcof_any (a : Option Addr) (len cap : Nat) (g : List Gr.Node) (w : World) (HN : Nodes w a len cap g) :
    Calls Tryz.prog 33 #[.agg #[.slice a len cap]] w fun e w' => RCostsE w g e w' := by
  have LN := Lib.hid HN.length
  have hle := HN.le
  have hcl := HN.cap_le
  have K0 := Lib.hid (GSt.start HN)
  clear HN
  go_enter Tryz.func33, Tryz.ntmps33
  go_wp2_with fail
  refine (rShapes_any _ _ _ g _ K0.out.n).mono ?_
  rintro e w1 ⟨hb, ⟨hs, rfl⟩ | ⟨s, aS, lS, cS, hs, rfl, hG⟩⟩
  · have K1 := Lib.hid (K0.out.on hb)
    have HS := Lib.hid hs
    clear hb hs
    go_wp2
    go_ret2
    exact ⟨K1.out.bel, .inl ⟨HS.out, rfl⟩⟩
  have K1 := Lib.hid (K0.out.on hb)
  have c1 := K1.out.cell
  have HS := Lib.hid hs
  have HG1 := Lib.hid hG
  obtain ⟨⟨hl1, hl2⟩, _, _⟩ := Gr.shapes_iff.1 hs
  rw [LN.out] at hl1 hl2
  obtain rfl : lS = len := by have h1 := Gr.shapes_len hs; have h2 := hG.length; have h3 := LN.out; omega
  have hsle := hG.le
  have hscl := hG.cap_le
  clear hb hs hG K0
  go_wp2
  go_loopg [6, 7] lS (fun gg v i wr => ∃ k : Nat, k ≤ lS ∧ lS - k ≤ gg ∧ i = .int .i64 k ∧ Hid (OwnC w1.heap.size wr v (Co.costsK g s k)) ∧ Hid (Below w1.heap.size w1 wr))
  case atStart => exact ⟨0, Nat.zero_le _, by omega, rfl, OwnC.nil _ _, Below.refl _ _⟩
  case round =>
    obtain ⟨k, hk, hg, rfl, HO, HW⟩ := hrel
    have Kr := Lib.hid (K1.out.on HW.out)
    have cr := Kr.out.cell
    by_cases hlt : k < lS
    · have dkl : decide ((k : Int) < (lS : Int)) = true := decide_eq_true (by omega)
      obtain ⟨b, off, ai, li, ci, sa, ls, cs, rfl, _, n0, n1, n2, n3, n4, hV⟩ := Kr.out.n.get (Below.refl _ wr) hlt
      have HV := Lib.hid hV
      have hkd := hV.kind
      have HWK := Lib.hid (work_ok HS.out (i := k) (by rw [LN.out]; exact hlt))
      have HIN := Lib.hid (Co.inn_of HS.out (i := k) (by rw [LN.out]; exact hlt))
      have hszb := Co.size_bounds HS.out (i := k) (by rw [LN.out]; exact hlt)
      have HCK : Hid (Co.costsK g s (k + 1) = Co.costsK g s k ++ [⟨4 * Gr.size (rowL s k), 4 * Gr.size (rowL s k) + Co.insK s (nodeN g k).inn (nodeN g k).inn.length, Co.workF (nodeN g k) (Gr.size (rowL s k)) ((nodeN g k).inn.map (Gr.rowAt s))⟩]) := Co.costsK_snoc g s k
      have HGr := Lib.hid (HG1.out.below HW.out)
      obtain ⟨bS, oS, rfl, hbS, hcS⟩ := HGr.out.at_ (by omega)
      obtain ⟨aR, lR, cR, kR, hR⟩ := hcS k hlt
      have HR := Lib.hid hR
      have kR' : ∀ o, (wr.alloc o).cell? ⟨bS, oS + k, none⟩ = some (.slice aR lR cR) := fun o => Lib.cell?_alloc_some _ kR
      obtain ⟨aC, lC, cC, rfl, hC, _⟩ := HO.out.costs
      have HC := Lib.hid hC
      have HX : Hid (nodeN g k = ⟨(nodeN g k).kind, (nodeN g k).inn, (nodeN g k).shape, (nodeN g k).n, (nodeN g k).pad⟩) := rfl
      have hlil := hV.i.length
      have hlile := hV.i.le
      have hlicl := hV.i.cap_le
      have hli4 : li ≤ 4 := by have := HIN.out.1; omega
      have HB4 : Hid (Below wr.heap.size wr (wr.alloc (.cells #[.int .u8 (nodeN g k).kind, .slice ai li ci, .slice sa ls cs, .int .i64 (nodeN g k).n, .int .i64 (nodeN g k).pad] 103))) := (Below.refl _ _).alloc (Nat.le_refl _) _
      have hz4 : (wr.alloc (.cells #[.int .u8 (nodeN g k).kind, .slice ai li ci, .slice sa ls cs, .int .i64 (nodeN g k).n, .int .i64 (nodeN g k).pad] 103)).heap.size = wr.heap.size + 1 := by simp
      have X0 : Hid ((wr.alloc (.cells #[.int .u8 (nodeN g k).kind, .slice ai li ci, .slice sa ls cs, .int .i64 (nodeN g k).n, .int .i64 (nodeN g k).pad] 103)).cell? ⟨wr.heap.size, 0, none⟩ = some (.int .u8 (nodeN g k).kind)) := by show _ = _; rw [World.cell?_alloc_at _ _ _ _ rfl]; rfl
      have X1 : Hid ((wr.alloc (.cells #[.int .u8 (nodeN g k).kind, .slice ai li ci, .slice sa ls cs, .int .i64 (nodeN g k).n, .int .i64 (nodeN g k).pad] 103)).cell? ⟨wr.heap.size, 1, none⟩ = some (.slice ai li ci)) := by show _ = _; rw [World.cell?_alloc_at _ _ _ _ rfl]; rfl
      have X3 : Hid ((wr.alloc (.cells #[.int .u8 (nodeN g k).kind, .slice ai li ci, .slice sa ls cs, .int .i64 (nodeN g k).n, .int .i64 (nodeN g k).pad] 103)).cell? ⟨wr.heap.size, 3, none⟩ = some (.int .i64 (nodeN g k).n)) := by show _ = _; rw [World.cell?_alloc_at _ _ _ _ rfl]; rfl
      have Z4 := Lib.hid hz4
      clear hcS hR hV hC hz4 hlil
      rw [HX.out] at HWK HCK
      generalize (nodeN g k).kind = kd at *
      generalize (nodeN g k).n = nn at *
      generalize (nodeN g k).pad = pad at *
      go_wp2_with fail
      refine (rsize_any _ _ _ _ _ (HR.out.below ((Below.refl _ _).alloc (Nat.le_refl _) _))).mono ?_
      rintro e w5 ⟨rfl, rfl⟩
      generalize wr.alloc (.cells #[.int .u8 kd, .slice ai li ci, .slice sa ls cs, .int .i64 nn, .int .i64 pad] 103) = w4 at *
      generalize Gr.size (rowL s k) = sz at *
      have x1' : ∀ o, (w4.alloc o).cell? ⟨wr.heap.size, 1, none⟩ = some (.slice ai li ci) := fun o => Lib.cell?_alloc_some _ X1.out
      clear kR kR' n0 n1 n2 n3 n4 cr
      go_wp2
      go_loopg [11] li (fun gg i wv => ∃ j : Nat, j ≤ li ∧ li - j ≤ gg ∧ i = .int .i64 j ∧ Hid (wv.cell? ⟨w4.heap.size, 0, none⟩ = some (.int .i64 (4 * sz))) ∧ Hid (wv.cell? ⟨w4.heap.size, 1, none⟩ = some (.int .i64 (4 * sz + Co.insK s (nodeN g k).inn j))) ∧
        Hid (wv.cell? ⟨w4.heap.size, 2, none⟩ = some (.int .i64 0)) ∧ Hid (wv.frozen? ⟨w4.heap.size, 1, none⟩ = false ∧ wv.frozen? ⟨w4.heap.size, 2, none⟩ = false) ∧
        Hid (Below w4.heap.size w4 wv) ∧ Hid (w4.heap.size < wv.heap.size))
      case atStart =>
        exact ⟨0, Nat.zero_le _, by omega, rfl, by show _ = _; rw [World.cell?_alloc_at _ _ _ _ rfl]; rfl, by show _ = _; rw [World.cell?_alloc_at _ _ _ _ rfl]; simp [Co.insK], by show _ = _; rw [World.cell?_alloc_at _ _ _ _ rfl]; rfl,
          ⟨World.frozen?_alloc_at _ _ _ _ rfl, World.frozen?_alloc_at _ _ _ _ rfl⟩, (Below.refl _ _).alloc (Nat.le_refl _) _, by show _ < _; simp⟩
      case round =>
        rename World => wv
        obtain ⟨j, hj, hgj, rfl, HC0, HC1, HC2, HFz, HBv, HZ⟩ := hrel
        have HB4v : Hid (Below wr.heap.size wr wv) := HB4.out.trans (HBv.out.mono (by have := Z4.out; omega))
        have x1v := (HBv.out.cell (p := ⟨wr.heap.size, 1, none⟩) (show wr.heap.size < w4.heap.size by have := Z4.out; omega)).trans X1.out
        by_cases hltj : j < li
        · have djl : decide ((j : Int) < (li : Int)) = true := decide_eq_true (by omega)
          obtain ⟨bI, oI, rfl, _, hcI⟩ := (HV.out.i.below HB4v.out).at_ (by omega)
          have kI := hcI j hltj
          have hv := HIN.out.2 (nth (nodeN g k).inn j) (nth_mem _ j (by rw [HV.out.i.length]; exact hltj))
          have HIK : Hid (Co.insK s (nodeN g k).inn (j + 1) = Co.insK s (nodeN g k).inn j + (if hasB ((nodeN g k).inn.take j) (nth (nodeN g k).inn j) = true then 0 else 4 * Co.sizeAt s (nth (nodeN g k).inn j))) := rfl
          have hIr := Co.insK_range s (nodeN g k).inn j
          have HcI : Hid (∀ p, p < j → wv.cell? ⟨bI, oI + p, none⟩ = some (.int .i64 (nth (nodeN g k).inn p))) := fun p hp => hcI p (by omega)
          have HNX : Hid (∀ p, p < j → hasB ((nodeN g k).inn.take (p + 1)) (nth (nodeN g k).inn j) = (hasB ((nodeN g k).inn.take p) (nth (nodeN g k).inn j) || (nth (nodeN g k).inn p == nth (nodeN g k).inn j))) := fun p hp => hasB_next _ _ p (by rw [HV.out.i.length]; omega)
          clear hcI
          generalize nth (nodeN g k).inn j = x at *
          obtain ⟨p, rfl⟩ : ∃ p : Nat, x = (p : Int) := ⟨x.toNat, by omega⟩
          have hp : p < k := by omega
          go_wp2
          go_loopg [12, 13] j (fun gg u i wx => ∃ t : Nat, t ≤ j ∧ j - t ≤ gg ∧ i = .int .i64 t ∧ u = .bool (hasB ((nodeN g k).inn.take t) (p : Int)) ∧ Hid (∃ n, wx = wv.drewN n))
          case atStart => exact ⟨0, Nat.zero_le _, by omega, rfl, rfl, 0, rfl⟩
          case round =>
            rename World => wx
            obtain ⟨t, ht, hgt, rfl, rfl, HWx⟩ := hrel
            obtain ⟨nx, rfl⟩ := HWx.out
            by_cases hltt : t < j
            · have dtj : decide ((t : Int) < (j : Int)) = true := decide_eq_true (by omega)
              have kt := HcI.out t hltt
              have HN2 := Lib.hid (HNX.out t hltt)
              have htl : t < li := by omega
              generalize hasB ((nodeN g k).inn.take t) (p : Int) = bb at *
              generalize nth (nodeN g k).inn t = y at *
              cases bb with
              | true =>
                have HN3 : Hid (Value.bool true = Value.bool (hasB ((nodeN g k).inn.take (t + 1)) (p : Int))) := by show _ = _; rw [HN2.out]; rfl
                go_wp2_with fail
                go_quiet (fail)
                go_wp2
                go_roundg (j - (t + 1))
                case measure => exact Nat.lt_of_lt_of_le (Nat.sub_lt_sub_left hltt (Nat.lt_succ_self t)) hgt
                case rel => exact ⟨t + 1, Nat.succ_le_of_lt hltt, Nat.le_refl _, by go_num, HN3.out, nx + nq, by simp⟩
              | false =>
                have HN3 : Hid (Value.bool (y == (p : Int)) = Value.bool (hasB ((nodeN g k).inn.take (t + 1)) (p : Int))) := by show _ = _; rw [HN2.out, Bool.false_or]
                go_wp2_with fail
                go_quiet (fail)
                go_wp2
                go_roundg (j - (t + 1))
                case measure => exact Nat.lt_of_lt_of_le (Nat.sub_lt_sub_left hltt (Nat.lt_succ_self t)) hgt
                case rel => exact ⟨t + 1, Nat.succ_le_of_lt hltt, Nat.le_refl _, by go_num, HN3.out, nx + nq, by simp⟩
            · have dtj : decide ((t : Int) < (j : Int)) = false := decide_eq_false (by omega)
              obtain rfl : t = j := by omega
              cases hh : hasB ((nodeN g k).inn.take t) (p : Int) with
              | true =>
                have HIN2 : Hid (Co.insK s (nodeN g k).inn (t + 1) = Co.insK s (nodeN g k).inn t) := by
                  show _ = _
                  rw [HIK.out, hh, if_pos rfl, Int.add_zero]
                have HD1 : Hid (wv.cell? ⟨w4.heap.size, 1, none⟩ = some (.int .i64 (4 * sz + Co.insK s (nodeN g k).inn (t + 1)))) := by rw [HIN2.out]; exact HC1
                clear hh HIN2
                go_wp2
                go_roundg (li - (t + 1))
                case measure => exact Nat.lt_of_lt_of_le (Nat.sub_lt_sub_left hltj (Nat.lt_succ_self t)) hgj
                case rel => exact ⟨t + 1, Nat.succ_le_of_lt hltj, Nat.le_refl _, by go_num, HC0, HD1, HC2, HFz, HBv.out.trans (below_drewN _ _ _), HZ⟩
              | false =>
                have HIN2 : Hid (Co.insK s (nodeN g k).inn (t + 1) = Co.insK s (nodeN g k).inn t + 4 * Co.sizeAt s (p : Int)) := by
                  show _ = _
                  rw [HIK.out, hh, if_neg (by decide)]
                clear hh
                have hsr := Co.sizeAt_range s (p : Int)
                obtain ⟨bC, oC, rfl, hbC, hcC⟩ := HC.out.at_ (by rw [← HC.out.length, Co.costsK_length]; omega)
                have kC0 : wr.cell? ⟨bC, oC + p * 3, none⟩ = some (.int .i64 (4 * Co.sizeAt s (p : Int))) := by
                  have := (hcC p (by rw [← HC.out.length, Co.costsK_length]; exact hp)).1
                  rw [Co.costsK_at _ _ _ _ hp] at this
                  rw [this]
                  show some (Value.int .i64 (4 * Gr.size (rowL s p))) = _
                  unfold Co.sizeAt
                  rw [Gr.rowAt_nat]
                have hlC : lC = k := by rw [← HC.out.length, Co.costsK_length]
                have hpC : p < lC := by omega
                clear hlC
                have HB4x : Hid (Below wr.heap.size wr (wv.drewN nx)) := HB4v.out.trans (below_drewN _ _ _)
                have kC := (HB4x.out.cell (p := ⟨bC, oC + p * 3, none⟩) hbC).trans kC0
                have d1 : (wv.drewN nx).cell? ⟨w4.heap.size, 1, none⟩ = some (.int .i64 (4 * sz + Co.insK s (nodeN g k).inn t)) := HC1.out
                have df : (wv.drewN nx).frozen? ⟨w4.heap.size, 1, none⟩ = false := HFz.out.1
                have kIx : (wv.drewN nx).cell? ⟨bI, oI + t, none⟩ = some (.int .i64 (p : Int)) := kI
                have x1x : (wv.drewN nx).cell? ⟨wr.heap.size, 1, none⟩ = some (.slice (some ⟨bI, oI, none⟩) li ci) := x1v
                have hne : bC ≠ w4.heap.size := by have := Z4.out; omega
                have D0 : Hid ((wv.drewN nx).cell? ⟨w4.heap.size, 0, none⟩ = some (.int .i64 (4 * sz))) := HC0.out
                have D2 : Hid ((wv.drewN nx).cell? ⟨w4.heap.size, 2, none⟩ = some (.int .i64 0)) := HC2.out
                have DF : Hid ((wv.drewN nx).frozen? ⟨w4.heap.size, 1, none⟩ = false ∧ (wv.drewN nx).frozen? ⟨w4.heap.size, 2, none⟩ = false) := HFz.out
                have HB6 : Hid (Below w4.heap.size w4 (wv.drewN nx)) := HBv.out.trans (below_drewN _ _ _)
                have HZ6 : Hid (w4.heap.size < (wv.drewN nx).heap.size) := HZ.out
                clear hcC kC0 kI x1v HIK HC0 HC1 HC2 HFz HBv HB4v HZ HWx HB4x HcI HNX
                generalize wv.drewN nx = w6 at *
                have HD0 : Hid ((w6.setCell ⟨w4.heap.size, 1, none⟩ (.int .i64 (4 * sz + Co.insK s (nodeN g k).inn t + 4 * Co.sizeAt s (p : Int)))).cell? ⟨w4.heap.size, 0, none⟩ = some (.int .i64 (4 * sz))) := by
                  show _ = _; rw [World.cell?_setCell_other _ _ _ _ (by intro c; simp at c)]; exact D0.out
                have HD1 : Hid ((w6.setCell ⟨w4.heap.size, 1, none⟩ (.int .i64 (4 * sz + Co.insK s (nodeN g k).inn t + 4 * Co.sizeAt s (p : Int)))).cell? ⟨w4.heap.size, 1, none⟩ = some (.int .i64 (4 * sz + Co.insK s (nodeN g k).inn (t + 1)))) := by
                  show _ = _; rw [World.cell?_setCell_same _ _ _ d1, HIN2.out]; congr 2; omega
                have HD2 : Hid ((w6.setCell ⟨w4.heap.size, 1, none⟩ (.int .i64 (4 * sz + Co.insK s (nodeN g k).inn t + 4 * Co.sizeAt s (p : Int)))).cell? ⟨w4.heap.size, 2, none⟩ = some (.int .i64 0)) := by
                  show _ = _; rw [World.cell?_setCell_other _ _ _ _ (by intro c; simp at c)]; exact D2.out
                have HDF : Hid ((w6.setCell ⟨w4.heap.size, 1, none⟩ (.int .i64 (4 * sz + Co.insK s (nodeN g k).inn t + 4 * Co.sizeAt s (p : Int)))).frozen? ⟨w4.heap.size, 1, none⟩ = false ∧ (w6.setCell ⟨w4.heap.size, 1, none⟩ (.int .i64 (4 * sz + Co.insK s (nodeN g k).inn t + 4 * Co.sizeAt s (p : Int)))).frozen? ⟨w4.heap.size, 2, none⟩ = false) := by
                  show _ ∧ _; rw [World.frozen?_setCell, World.frozen?_setCell]; exact DF.out
                have HDB := Lib.hid (below_setCell HB6.out w4.heap.size 1 (.int .i64 (4 * sz + Co.insK s (nodeN g k).inn t + 4 * Co.sizeAt s (p : Int))) (Nat.le_refl _))
                have HDZ : Hid (w4.heap.size < (w6.setCell ⟨w4.heap.size, 1, none⟩ (.int .i64 (4 * sz + Co.insK s (nodeN g k).inn t + 4 * Co.sizeAt s (p : Int)))).heap.size) := by show _ < _; simp [World.setCell]; exact HZ6.out
                clear D0 D2 DF HB6 HZ6 HIN2
                have hIr2 : 0 ≤ Co.insK s (nodeN g k).inn t ∧ Co.insK s (nodeN g k).inn t ≤ 16384 * 4 := by omega
                clear hIr
                generalize Co.insK s (nodeN g k).inn t = I0 at *
                generalize Co.sizeAt s (p : Int) = S1 at *
                go_wp2_with fail
                go_region
                go_wp2
                go_roundg (li - (t + 1))
                case measure => exact Nat.lt_of_lt_of_le (Nat.sub_lt_sub_left hltj (Nat.lt_succ_self t)) hgj
                case rel => exact ⟨t + 1, Nat.succ_le_of_lt hltj, Nat.le_refl _, by go_num, HD0, HD1, HD2, HDF, HDB.out.drew, HDZ⟩
        · have djl : decide ((j : Int) < (li : Int)) = false := decide_eq_false (by omega)
          obtain rfl : j = li := by omega
          have x0v := (HBv.out.cell (p := ⟨wr.heap.size, 0, none⟩) (show wr.heap.size < w4.heap.size by have := Z4.out; omega)).trans X0.out
          have x3v := (HBv.out.cell (p := ⟨wr.heap.size, 3, none⟩) (show wr.heap.size < w4.heap.size by have := Z4.out; omega)).trans X3.out
          have HLI := Lib.hid HV.out.i.length
          rw [HLI.out] at HCK
          have HOv := Lib.hid (HO.out.below HB4v.out)
          have HWv : Hid (Below w1.heap.size w1 wv) := HW.out.trans (HB4v.out.mono HW.out.size)
          have hck : (Co.costsK g s k).length ≤ 10000000 := by rw [Co.costsK_length]; omega
          have d0 := HC0.out
          have d1 := HC1.out
          have d2 := HC2.out
          have hzz := HZ.out
          have df := HFz.out.2
          have cv := (Kr.out.on HB4v.out).cell
          generalize hIK : Co.insK s (nodeN g k).inn j = I0 at *
          clear hIK
          by_cases k1 : kd = 1
          · have e1 : (kd == 1) = true := by simp [k1]
            have HWF : Hid (Co.workF ⟨kd, (nodeN g k).inn, (nodeN g k).shape, nn, pad⟩ sz ((nodeN g k).inn.map (Gr.rowAt s)) = 0) := by show _ = _; unfold Co.workF; simp [k1]
            rw [HWF.out] at HCK
            have s0 : (wv.setCell ⟨w4.heap.size, 2, none⟩ (.int .i64 0)).cell? ⟨w4.heap.size, 0, none⟩ = some (.int .i64 (4 * sz)) := by rw [World.cell?_setCell_other _ _ _ _ (by intro c; simp at c)]; exact HC0.out
            have s1 : (wv.setCell ⟨w4.heap.size, 2, none⟩ (.int .i64 0)).cell? ⟨w4.heap.size, 1, none⟩ = some (.int .i64 (4 * sz + I0)) := by rw [World.cell?_setCell_other _ _ _ _ (by intro c; simp at c)]; exact HC1.out
            have s2 : (wv.setCell ⟨w4.heap.size, 2, none⟩ (.int .i64 0)).cell? ⟨w4.heap.size, 2, none⟩ = some (.int .i64 0) := World.cell?_setCell_same _ _ _ HC2.out
            have HW8 : Hid (Below w1.heap.size w1 (wv.setCell ⟨w4.heap.size, 2, none⟩ (.int .i64 0))) := below_setCell HWv.out _ _ _ (by have := HW.out.size; have := Z4.out; omega)
            have HO8 : Hid (OwnC w1.heap.size (wv.setCell ⟨w4.heap.size, 2, none⟩ (.int .i64 0)) (.slice aC lC cC) (Co.costsK g s k)) := by
              refine HOv.out.store _ _ _ ?_
              intro e
              have h1 := (HO.out.lt _ e).2
              have h2 := Z4.out
              omega
            clear HWK k1
            go_wp2_with (at_builtin; go_must (refine wpList_appC _ rfl _ _ rfl w1.heap.size _ (Co.costsK g s k) ⟨4 * sz, 4 * sz + I0, 0⟩ HO8.out rfl (by show Value.slice (some ⟨wv.heap.size, 0, none⟩) 1 1 = _; simp [World.setCell]) HW8.out.size hck ?_))
            intro v' w6 hown' hbel hgrow
            rw [← HCK.out] at hown'
            have HO6 := Lib.hid hown'
            have HW6 : Hid (Below w1.heap.size w1 w6) := HW8.out.trans hbel
            clear hown' hbel hgrow
            go_wp2
            go_roundg (lS - (k + 1))
            case measure => exact Nat.lt_of_lt_of_le (Nat.sub_lt_sub_left hlt (Nat.lt_succ_self k)) hg
            case rel => exact ⟨k + 1, Nat.succ_le_of_lt hlt, Nat.le_refl _, by go_num, HO6, HW6⟩
          have e1 : (kd == 1) = false := by simp [k1]
          by_cases k2 : kd = 2
          · have e2 : (kd == 2) = true := by simp [k2]
            have HWF : Hid (Co.workF ⟨kd, (nodeN g k).inn, (nodeN g k).shape, nn, pad⟩ sz ((nodeN g k).inn.map (Gr.rowAt s)) = 0) := by show _ = _; unfold Co.workF; simp [k2]
            rw [HWF.out] at HCK
            have s0 : (wv.setCell ⟨w4.heap.size, 2, none⟩ (.int .i64 0)).cell? ⟨w4.heap.size, 0, none⟩ = some (.int .i64 (4 * sz)) := by rw [World.cell?_setCell_other _ _ _ _ (by intro c; simp at c)]; exact HC0.out
            have s1 : (wv.setCell ⟨w4.heap.size, 2, none⟩ (.int .i64 0)).cell? ⟨w4.heap.size, 1, none⟩ = some (.int .i64 (4 * sz + I0)) := by rw [World.cell?_setCell_other _ _ _ _ (by intro c; simp at c)]; exact HC1.out
            have s2 : (wv.setCell ⟨w4.heap.size, 2, none⟩ (.int .i64 0)).cell? ⟨w4.heap.size, 2, none⟩ = some (.int .i64 0) := World.cell?_setCell_same _ _ _ HC2.out
            have HW8 : Hid (Below w1.heap.size w1 (wv.setCell ⟨w4.heap.size, 2, none⟩ (.int .i64 0))) := below_setCell HWv.out _ _ _ (by have := HW.out.size; have := Z4.out; omega)
            have HO8 : Hid (OwnC w1.heap.size (wv.setCell ⟨w4.heap.size, 2, none⟩ (.int .i64 0)) (.slice aC lC cC) (Co.costsK g s k)) := by
              refine HOv.out.store _ _ _ ?_
              intro e
              have h1 := (HO.out.lt _ e).2
              have h2 := Z4.out
              omega
            clear HWK k1 k2
            go_wp2_with (at_builtin; go_must (refine wpList_appC _ rfl _ _ rfl w1.heap.size _ (Co.costsK g s k) ⟨4 * sz, 4 * sz + I0, 0⟩ HO8.out rfl (by show Value.slice (some ⟨wv.heap.size, 0, none⟩) 1 1 = _; simp [World.setCell]) HW8.out.size hck ?_))
            intro v' w6 hown' hbel hgrow
            rw [← HCK.out] at hown'
            have HO6 := Lib.hid hown'
            have HW6 : Hid (Below w1.heap.size w1 w6) := HW8.out.trans hbel
            clear hown' hbel hgrow
            go_wp2
            go_roundg (lS - (k + 1))
            case measure => exact Nat.lt_of_lt_of_le (Nat.sub_lt_sub_left hlt (Nat.lt_succ_self k)) hg
            case rel => exact ⟨k + 1, Nat.succ_le_of_lt hlt, Nat.le_refl _, by go_num, HO6, HW6⟩
          have e2 : (kd == 2) = false := by simp [k2]
          have hkk : ¬ (kd = 1 ∨ kd = 2) := by omega
          by_cases k7 : kd = 7
          · have e7 : (kd == 7) = true := by simp [k7]
            have hpr := HWK.out.prod k7
            have hj1 : 1 ≤ j := by have := hpr.1; rw [List.length_map, HLI.out] at this; exact this
            obtain ⟨bI, oI, rfl, _, hcI⟩ := (HV.out.i.below HB4v.out).at_ (by omega)
            have kI := hcI 0 (by omega)
            rw [Nat.add_zero] at kI
            have hjn : 0 < j := by omega
            obtain ⟨hx0, hx1⟩ := HIN.out.2 (nth (nodeN g k).inn 0) (nth_mem _ 0 (by rw [HV.out.i.length]; omega))
            have HRW : Hid (rowL ((nodeN g k).inn.map (Gr.rowAt s)) 0 = Gr.rowAt s (nth (nodeN g k).inn 0)) := rowL_map _ _ _ (by rw [HV.out.i.length]; omega)
            obtain ⟨_, _, aP, lP, cP, eS, hbP, kP, hP⟩ := (HGr.out.below HB4v.out).get (n := nth (nodeN g k).inn 0) hx0 (by omega)
            cases eS
            have hxs : nth (nodeN g k).inn 0 < (lS : Int) := by omega
            rw [HRW.out] at hpr
            obtain ⟨_, hpl, hpx0, hpx1⟩ := hpr
            have HWF : Hid (Co.workF ⟨kd, (nodeN g k).inn, (nodeN g k).shape, nn, pad⟩ sz ((nodeN g k).inn.map (Gr.rowAt s)) = sz * nth (Gr.rowAt s (nth (nodeN g k).inn 0)) 1) := by show _ = _; unfold Co.workF; rw [if_neg (by omega), if_pos (by exact k7), HRW.out]
            rw [HWF.out] at HCK
            have hpl2 : 1 < lP := by have := hP.length; omega
            obtain ⟨bP, oP, rfl, _, hcP⟩ := hP.at_ (by omega)
            have kQ := hcP 1 hpl2
            generalize nth (Gr.rowAt s (nth (nodeN g k).inn 0)) 1 = y at *
            have hm0 : 0 ≤ sz * y := Int.mul_nonneg (by omega) hpx0
            have hm1 : sz * y ≤ 4096 * 64 := Int.mul_le_mul (by omega) hpx1 hpx0 (by omega)
            generalize nth (nodeN g k).inn 0 = x at *
            generalize hwk : sz * y = wk at *
            have s0 : (wv.setCell ⟨w4.heap.size, 2, none⟩ (.int .i64 wk)).cell? ⟨w4.heap.size, 0, none⟩ = some (.int .i64 (4 * sz)) := by rw [World.cell?_setCell_other _ _ _ _ (by intro c; simp at c)]; exact HC0.out
            have s1 : (wv.setCell ⟨w4.heap.size, 2, none⟩ (.int .i64 wk)).cell? ⟨w4.heap.size, 1, none⟩ = some (.int .i64 (4 * sz + I0)) := by rw [World.cell?_setCell_other _ _ _ _ (by intro c; simp at c)]; exact HC1.out
            have s2 : (wv.setCell ⟨w4.heap.size, 2, none⟩ (.int .i64 wk)).cell? ⟨w4.heap.size, 2, none⟩ = some (.int .i64 wk) := World.cell?_setCell_same _ _ _ HC2.out
            have HW8 : Hid (Below w1.heap.size w1 (wv.setCell ⟨w4.heap.size, 2, none⟩ (.int .i64 wk))) := below_setCell HWv.out _ _ _ (by have := HW.out.size; have := Z4.out; omega)
            have HO8 : Hid (OwnC w1.heap.size (wv.setCell ⟨w4.heap.size, 2, none⟩ (.int .i64 wk)) (.slice aC lC cC) (Co.costsK g s k)) := by
              refine HOv.out.store _ _ _ ?_
              intro e
              have h1 := (HO.out.lt _ e).2
              have h2 := Z4.out
              omega
            clear HWK hcI hcP hP HRW k7
            go_wp2_with (at_builtin; go_must (refine wpList_appC _ rfl _ _ rfl w1.heap.size _ (Co.costsK g s k) ⟨4 * sz, 4 * sz + I0, wk⟩ HO8.out rfl (by show Value.slice (some ⟨wv.heap.size, 0, none⟩) 1 1 = _; simp [World.setCell]) HW8.out.size hck ?_))
            intro v' w6 hown' hbel hgrow
            rw [← HCK.out] at hown'
            have HO6 := Lib.hid hown'
            have HW6 : Hid (Below w1.heap.size w1 w6) := HW8.out.trans hbel
            clear hown' hbel hgrow
            go_wp2
            go_roundg (lS - (k + 1))
            case measure => exact Nat.lt_of_lt_of_le (Nat.sub_lt_sub_left hlt (Nat.lt_succ_self k)) hg
            case rel => exact ⟨k + 1, Nat.succ_le_of_lt hlt, Nat.le_refl _, by go_num, HO6, HW6⟩
          have e7 : (kd == 7) = false := by simp [k7]
          by_cases k8 : kd = 8
          · have e8 : (kd == 8) = true := by simp [k8]
            have hpr := HWK.out.win k8
            have hj1 : 2 ≤ j := by have := hpr.1; rw [List.length_map, HLI.out] at this; exact this
            obtain ⟨bI, oI, rfl, _, hcI⟩ := (HV.out.i.below HB4v.out).at_ (by omega)
            have kI := hcI 1 (by omega)
            have hjn : 1 < j := by omega
            obtain ⟨hx0, hx1⟩ := HIN.out.2 (nth (nodeN g k).inn 1) (nth_mem _ 1 (by rw [HV.out.i.length]; omega))
            have HRW : Hid (rowL ((nodeN g k).inn.map (Gr.rowAt s)) 1 = Gr.rowAt s (nth (nodeN g k).inn 1)) := rowL_map _ _ _ (by rw [HV.out.i.length]; omega)
            obtain ⟨_, _, aP, lP, cP, eS, hbP, kP, hP⟩ := (HGr.out.below HB4v.out).get (n := nth (nodeN g k).inn 1) hx0 (by omega)
            cases eS
            have hxs : nth (nodeN g k).inn 1 < (lS : Int) := by omega
            rw [HRW.out] at hpr
            obtain ⟨_, hpl, hpx0, hpx1⟩ := hpr
            have HWF : Hid (Co.workF ⟨kd, (nodeN g k).inn, (nodeN g k).shape, nn, pad⟩ sz ((nodeN g k).inn.map (Gr.rowAt s)) = sz * Int.tdiv (Gr.size (Gr.rowAt s (nth (nodeN g k).inn 1))) (nth (Gr.rowAt s (nth (nodeN g k).inn 1)) 0)) := by show _ = _; unfold Co.workF; rw [if_neg (by omega), if_neg (by exact k7), if_pos (by exact k8), HRW.out]
            rw [HWF.out] at HCK
            have hpl2 : 0 < lP := by have := hP.length; omega
            have HPq := Lib.hid hP
            obtain ⟨bP, oP, rfl, _, hcP⟩ := hP.at_ (by omega)
            have kQ := hcP 0 hpl2
            rw [Nat.add_zero] at kQ
            have hyr := Gr.size_range (Gr.rowAt s (nth (nodeN g k).inn 1))
            have HSC : Hid (Calls Tryz.prog 125 #[.slice (some ⟨bP, oP, none⟩) lP cP] wv.drew fun e w' => e = .returned (.int .i64 (Gr.size (Gr.rowAt s (nth (nodeN g k).inn 1)))) ∧ w' = wv.drew) := (rsize_any _ _ _ _ _ (HPq.out.below (Below.refl _ _).drew)).mono fun _ _ ⟨he, hw⟩ => ⟨he, hw.symm⟩
            generalize Gr.size (Gr.rowAt s (nth (nodeN g k).inn 1)) = y at *
            generalize nth (Gr.rowAt s (nth (nodeN g k).inn 1)) 0 = z at *
            have hq0 : 0 ≤ Int.tdiv y z := Int.tdiv_nonneg hyr.1 (by omega)
            have hq1 : Int.tdiv y z ≤ 4096 := Int.le_trans (by rw [Int.tdiv_eq_ediv_of_nonneg hyr.1]; exact Int.ediv_le_self _ hyr.1) hyr.2
            have hm0 : 0 ≤ sz * Int.tdiv y z := Int.mul_nonneg (by omega) hq0
            have hm1 : sz * Int.tdiv y z ≤ 4096 * 4096 := Int.mul_le_mul (by omega) hq1 hq0 (by omega)
            have hz : z ≠ 0 := by omega
            have t1 : IntKind.i64.wrap (y.tdiv z) = y.tdiv z := by rw [IntKind.wrap_i64]; omega
            have t2 : IntKind.i64.wrap (sz * y.tdiv z) = sz * y.tdiv z := by rw [IntKind.wrap_i64]; omega
            generalize nth (nodeN g k).inn 1 = x at *
            clear HWK hcI hcP hP HRW k7 k8 HPq
            go_wp2_with fail
            have hb1 : (1 : Int) < (j : Int) := by omega
            have hb2 : (0 : Int) < (lP : Int) := by omega
            refine wp_region_still_tail 21 mixed (by kernel_rfl) ?_
            simp only [List.take_succ_cons, List.take_zero, List.drop_succ_cons, List.drop_zero]
            change wpStill _ _ wv.drew _ _ _
            repeat still_step
            still_call HSC.out
            repeat still_step
            refine wpStill_nil ?_
            change wpList _ _ _ _ _ wv.drew
            have HC0d : Hid (wv.drew.cell? ⟨w4.heap.size, 0, none⟩ = some (.int .i64 (4 * sz))) := HC0.out
            have HC1d : Hid (wv.drew.cell? ⟨w4.heap.size, 1, none⟩ = some (.int .i64 (4 * sz + I0))) := HC1.out
            have HC2d : Hid (wv.drew.cell? ⟨w4.heap.size, 2, none⟩ = some (.int .i64 0)) := HC2.out
            have HWd : Hid (Below w1.heap.size w1 wv.drew) := HWv.out.drew
            have HOd : Hid (OwnC w1.heap.size wv.drew (.slice aC lC cC) (Co.costsK g s k)) := HOv.out.below (Below.refl _ _).drew
            have dfd : wv.drew.frozen? ⟨w4.heap.size, 2, none⟩ = false := df
            have d2d : wv.drew.cell? ⟨w4.heap.size, 2, none⟩ = some (.int .i64 0) := d2
            have hzd : w4.heap.size < wv.drew.heap.size := hzz
            clear HSC kQ kP kI x0v x1v x3v d0 d1 d2 df cv
            generalize wv.drew = wd at *
            generalize sz * y.tdiv z = wk at *
            have s0 : (wd.setCell ⟨w4.heap.size, 2, none⟩ (.int .i64 wk)).cell? ⟨w4.heap.size, 0, none⟩ = some (.int .i64 (4 * sz)) := by rw [World.cell?_setCell_other _ _ _ _ (by intro c; simp at c)]; exact HC0d.out
            have s1 : (wd.setCell ⟨w4.heap.size, 2, none⟩ (.int .i64 wk)).cell? ⟨w4.heap.size, 1, none⟩ = some (.int .i64 (4 * sz + I0)) := by rw [World.cell?_setCell_other _ _ _ _ (by intro c; simp at c)]; exact HC1d.out
            have s2 : (wd.setCell ⟨w4.heap.size, 2, none⟩ (.int .i64 wk)).cell? ⟨w4.heap.size, 2, none⟩ = some (.int .i64 wk) := World.cell?_setCell_same _ _ _ HC2d.out
            have HW8 : Hid (Below w1.heap.size w1 (wd.setCell ⟨w4.heap.size, 2, none⟩ (.int .i64 wk))) := below_setCell HWd.out _ _ _ (by have := HW.out.size; have := Z4.out; omega)
            have HO8 : Hid (OwnC w1.heap.size (wd.setCell ⟨w4.heap.size, 2, none⟩ (.int .i64 wk)) (.slice aC lC cC) (Co.costsK g s k)) := by
              refine HOd.out.store _ _ _ ?_
              intro e
              have h1 := (HO.out.lt _ e).2
              have h2 := Z4.out
              omega
            go_wp2_with (at_builtin; go_must (refine wpList_appC _ rfl _ _ rfl w1.heap.size _ (Co.costsK g s k) ⟨4 * sz, 4 * sz + I0, wk⟩ HO8.out rfl (by show Value.slice (some ⟨wd.heap.size, 0, none⟩) 1 1 = _; simp [World.setCell]) HW8.out.size hck ?_))
            intro v' w6 hown' hbel hgrow
            rw [← HCK.out] at hown'
            have HO6 := Lib.hid hown'
            have HW6 : Hid (Below w1.heap.size w1 w6) := HW8.out.trans hbel
            clear hown' hbel hgrow
            go_wp2
            go_roundg (lS - (k + 1))
            case measure => exact Nat.lt_of_lt_of_le (Nat.sub_lt_sub_left hlt (Nat.lt_succ_self k)) hg
            case rel => exact ⟨k + 1, Nat.succ_le_of_lt hlt, Nat.le_refl _, by go_num, HO6, HW6⟩
          have e8 : (kd == 8) = false := by simp [k8]
          by_cases k9 : kd = 9
          · have e9 : (kd == 9) = true := by simp [k9]
            have hpr := HWK.out.pool k9
            obtain ⟨hpx0, hpx1⟩ := hpr
            simp only at hpx0 hpx1
            have HWF : Hid (Co.workF ⟨kd, (nodeN g k).inn, (nodeN g k).shape, nn, pad⟩ sz ((nodeN g k).inn.map (Gr.rowAt s)) = sz * nn * nn) := by show _ = _; unfold Co.workF; rw [if_neg (by omega), if_neg (by exact k7), if_neg (by exact k8), if_pos (by exact k9)]
            rw [HWF.out] at HCK
            have hm0 : 0 ≤ sz * nn := Int.mul_nonneg (by omega) hpx0
            have hm1 : sz * nn ≤ 4096 * 64 := Int.mul_le_mul (by omega) hpx1 hpx0 (by omega)
            have hm2 : 0 ≤ sz * nn * nn := Int.mul_nonneg hm0 hpx0
            have hm3 : sz * nn * nn ≤ 4096 * 64 * 64 := Int.mul_le_mul hm1 hpx1 hpx0 (by omega)
            have s0 : (wv.setCell ⟨w4.heap.size, 2, none⟩ (.int .i64 (sz * nn * nn))).cell? ⟨w4.heap.size, 0, none⟩ = some (.int .i64 (4 * sz)) := by rw [World.cell?_setCell_other _ _ _ _ (by intro c; simp at c)]; exact HC0.out
            have s1 : (wv.setCell ⟨w4.heap.size, 2, none⟩ (.int .i64 (sz * nn * nn))).cell? ⟨w4.heap.size, 1, none⟩ = some (.int .i64 (4 * sz + I0)) := by rw [World.cell?_setCell_other _ _ _ _ (by intro c; simp at c)]; exact HC1.out
            have s2 : (wv.setCell ⟨w4.heap.size, 2, none⟩ (.int .i64 (sz * nn * nn))).cell? ⟨w4.heap.size, 2, none⟩ = some (.int .i64 (sz * nn * nn)) := World.cell?_setCell_same _ _ _ HC2.out
            have HW8 : Hid (Below w1.heap.size w1 (wv.setCell ⟨w4.heap.size, 2, none⟩ (.int .i64 (sz * nn * nn)))) := below_setCell HWv.out _ _ _ (by have := HW.out.size; have := Z4.out; omega)
            have HO8 : Hid (OwnC w1.heap.size (wv.setCell ⟨w4.heap.size, 2, none⟩ (.int .i64 (sz * nn * nn))) (.slice aC lC cC) (Co.costsK g s k)) := by
              refine HOv.out.store _ _ _ ?_
              intro e
              have h1 := (HO.out.lt _ e).2
              have h2 := Z4.out
              omega
            clear HWK k7 k8 k9
            go_wp2_with (at_builtin; go_must (refine wpList_appC _ rfl _ _ rfl w1.heap.size _ (Co.costsK g s k) ⟨4 * sz, 4 * sz + I0, sz * nn * nn⟩ HO8.out rfl (by show Value.slice (some ⟨wv.heap.size, 0, none⟩) 1 1 = _; simp [World.setCell]) HW8.out.size hck ?_))
            intro v' w6 hown' hbel hgrow
            rw [← HCK.out] at hown'
            have HO6 := Lib.hid hown'
            have HW6 : Hid (Below w1.heap.size w1 w6) := HW8.out.trans hbel
            clear hown' hbel hgrow
            go_wp2
            go_roundg (lS - (k + 1))
            case measure => exact Nat.lt_of_lt_of_le (Nat.sub_lt_sub_left hlt (Nat.lt_succ_self k)) hg
            case rel => exact ⟨k + 1, Nat.succ_le_of_lt hlt, Nat.le_refl _, by go_num, HO6, HW6⟩
          have e9 : (kd == 9) = false := by simp [k9]
          by_cases k13 : kd = 13
          · have e13 : (kd == 13) = true := by simp [k13]
            have hpr := HWK.out.sum k13
            have hj1 : 1 ≤ j := by have := hpr; rw [List.length_map, HLI.out] at this; exact this
            obtain ⟨bI, oI, rfl, _, hcI⟩ := (HV.out.i.below HB4v.out).at_ (by omega)
            have kI := hcI 0 (by omega)
            rw [Nat.add_zero] at kI
            have hjn : 0 < j := by omega
            obtain ⟨hx0, hx1⟩ := HIN.out.2 (nth (nodeN g k).inn 0) (nth_mem _ 0 (by rw [HV.out.i.length]; omega))
            have HRW : Hid (rowL ((nodeN g k).inn.map (Gr.rowAt s)) 0 = Gr.rowAt s (nth (nodeN g k).inn 0)) := rowL_map _ _ _ (by rw [HV.out.i.length]; omega)
            obtain ⟨_, _, aP, lP, cP, eS, hbP, kP, hP⟩ := (HGr.out.below HB4v.out).get (n := nth (nodeN g k).inn 0) hx0 (by omega)
            cases eS
            have hxs : nth (nodeN g k).inn 0 < (lS : Int) := by omega
            have HWF : Hid (Co.workF ⟨kd, (nodeN g k).inn, (nodeN g k).shape, nn, pad⟩ sz ((nodeN g k).inn.map (Gr.rowAt s)) = Gr.size (Gr.rowAt s (nth (nodeN g k).inn 0))) := by show _ = _; unfold Co.workF; rw [if_neg (by omega), if_neg (by exact k7), if_neg (by exact k8), if_neg (by exact k9), if_pos (by exact k13), HRW.out]
            rw [HWF.out] at HCK
            have HPq := Lib.hid hP
            clear hcI hP HRW HWK k7 k8 k9 k13
            go_wp2_with fail
            refine (rsize_any _ _ _ _ _ HPq.out).mono ?_
            rintro e w7 ⟨rfl, rfl⟩
            generalize Gr.size (Gr.rowAt s (nth (nodeN g k).inn 0)) = wk at *
            have s0 : (wv.setCell ⟨w4.heap.size, 2, none⟩ (.int .i64 wk)).cell? ⟨w4.heap.size, 0, none⟩ = some (.int .i64 (4 * sz)) := by rw [World.cell?_setCell_other _ _ _ _ (by intro c; simp at c)]; exact HC0.out
            have s1 : (wv.setCell ⟨w4.heap.size, 2, none⟩ (.int .i64 wk)).cell? ⟨w4.heap.size, 1, none⟩ = some (.int .i64 (4 * sz + I0)) := by rw [World.cell?_setCell_other _ _ _ _ (by intro c; simp at c)]; exact HC1.out
            have s2 : (wv.setCell ⟨w4.heap.size, 2, none⟩ (.int .i64 wk)).cell? ⟨w4.heap.size, 2, none⟩ = some (.int .i64 wk) := World.cell?_setCell_same _ _ _ HC2.out
            have HW8 : Hid (Below w1.heap.size w1 (wv.setCell ⟨w4.heap.size, 2, none⟩ (.int .i64 wk))) := below_setCell HWv.out _ _ _ (by have := HW.out.size; have := Z4.out; omega)
            have HO8 : Hid (OwnC w1.heap.size (wv.setCell ⟨w4.heap.size, 2, none⟩ (.int .i64 wk)) (.slice aC lC cC) (Co.costsK g s k)) := by
              refine HOv.out.store _ _ _ ?_
              intro e
              have h1 := (HO.out.lt _ e).2
              have h2 := Z4.out
              omega
            go_wp2_with (at_builtin; go_must (refine wpList_appC _ rfl _ _ rfl w1.heap.size _ (Co.costsK g s k) ⟨4 * sz, 4 * sz + I0, wk⟩ HO8.out rfl (by show Value.slice (some ⟨wv.heap.size, 0, none⟩) 1 1 = _; simp [World.setCell]) HW8.out.size hck ?_))
            intro v' w6 hown' hbel hgrow
            rw [← HCK.out] at hown'
            have HO6 := Lib.hid hown'
            have HW6 : Hid (Below w1.heap.size w1 w6) := HW8.out.trans hbel
            clear hown' hbel hgrow
            go_wp2
            go_roundg (lS - (k + 1))
            case measure => exact Nat.lt_of_lt_of_le (Nat.sub_lt_sub_left hlt (Nat.lt_succ_self k)) hg
            case rel => exact ⟨k + 1, Nat.succ_le_of_lt hlt, Nat.le_refl _, by go_num, HO6, HW6⟩
          have e13 : (kd == 13) = false := by simp [k13]
          have HWF : Hid (Co.workF ⟨kd, (nodeN g k).inn, (nodeN g k).shape, nn, pad⟩ sz ((nodeN g k).inn.map (Gr.rowAt s)) = sz) := by show _ = _; unfold Co.workF; rw [if_neg (by omega), if_neg (by exact k7), if_neg (by exact k8), if_neg (by exact k9), if_neg (by exact k13)]
          rw [HWF.out] at HCK
          clear HWK k7 k8 k9 k13
          have s0 : (wv.setCell ⟨w4.heap.size, 2, none⟩ (.int .i64 sz)).cell? ⟨w4.heap.size, 0, none⟩ = some (.int .i64 (4 * sz)) := by rw [World.cell?_setCell_other _ _ _ _ (by intro c; simp at c)]; exact HC0.out
          have s1 : (wv.setCell ⟨w4.heap.size, 2, none⟩ (.int .i64 sz)).cell? ⟨w4.heap.size, 1, none⟩ = some (.int .i64 (4 * sz + I0)) := by rw [World.cell?_setCell_other _ _ _ _ (by intro c; simp at c)]; exact HC1.out
          have s2 : (wv.setCell ⟨w4.heap.size, 2, none⟩ (.int .i64 sz)).cell? ⟨w4.heap.size, 2, none⟩ = some (.int .i64 sz) := World.cell?_setCell_same _ _ _ HC2.out
          have HW8 : Hid (Below w1.heap.size w1 (wv.setCell ⟨w4.heap.size, 2, none⟩ (.int .i64 sz))) := below_setCell HWv.out _ _ _ (by have := HW.out.size; have := Z4.out; omega)
          have HO8 : Hid (OwnC w1.heap.size (wv.setCell ⟨w4.heap.size, 2, none⟩ (.int .i64 sz)) (.slice aC lC cC) (Co.costsK g s k)) := by
            refine HOv.out.store _ _ _ ?_
            intro e
            have h1 := (HO.out.lt _ e).2
            have h2 := Z4.out
            omega
          go_wp2_with (at_builtin; go_must (refine wpList_appC _ rfl _ _ rfl w1.heap.size _ (Co.costsK g s k) ⟨4 * sz, 4 * sz + I0, sz⟩ HO8.out rfl (by show Value.slice (some ⟨wv.heap.size, 0, none⟩) 1 1 = _; simp [World.setCell]) HW8.out.size hck ?_))
          intro v' w6 hown' hbel hgrow
          rw [← HCK.out] at hown'
          have HO6 := Lib.hid hown'
          have HW6 : Hid (Below w1.heap.size w1 w6) := HW8.out.trans hbel
          clear hown' hbel hgrow
          go_wp2
          go_roundg (lS - (k + 1))
          case measure => exact Nat.lt_of_lt_of_le (Nat.sub_lt_sub_left hlt (Nat.lt_succ_self k)) hg
          case rel => exact ⟨k + 1, Nat.succ_le_of_lt hlt, Nat.le_refl _, by go_num, HO6, HW6⟩
    · have dkl : decide ((k : Int) < (lS : Int)) = false := decide_eq_false (by omega)
      obtain rfl : k = lS := by omega
      go_wp2
      go_ret2
      refine ⟨Kr.out.bel, .inr ⟨s, _, _, HS.out, K1.out.bel.size, rfl, ?_⟩⟩
      rw [show Co.costs g s = Co.costsK g s k from by unfold Co.costs; rw [LN.out]]
      exact HO.out
end Go.Proofs.YtekejcnphmnidaaGreatDoor
