/-
  drydocklaw20.CostsNeed: the walk cneed_walk (it returns true, and changes nothing below).
-/
import Derived.Test.YtgmagldbfajedaaCoAlive
namespace Go.Proofs.Ytgmagldbfajedaa
open Go.RowKit

/-- What the law holds against one another, of a graph that may be. -/
structure NeedOk (g : List Gr.Node) (s : List (List Int)) (least : Int) : Prop where
  b : ∀ i, i < g.length → (Co.costN (Co.costs g s) i).bytes = 4 * Gr.size (rowL s i)
  sz : ∀ i, i < g.length → 1 ≤ Gr.size (rowL s i) ∧ Gr.size (rowL s i) ≤ 4096
  n : ∀ i, i < g.length → (Co.costN (Co.costs g s) i).need = 4 * Gr.size (rowL s i) + Co.insK s (nodeN g i).inn (nodeN g i).inn.length
  inn : ∀ i, i < g.length → (nodeN g i).inn.length ≤ 4 ∧ ∀ v ∈ (nodeN g i).inn, 0 ≤ v ∧ v < i
  ge : ∀ i j, i < g.length → j < (nodeN g i).inn.length → 4 * Co.sizeAt s (nth (nodeN g i).inn j) ≤ Co.insK s (nodeN g i).inn (nodeN g i).inn.length
  one : ∃ i, i < g.length ∧ (Co.costN (Co.costs g s) i).need = least
  last : (Co.costN (Co.costs g s) (g.length - 1)).need ≤ least
  le : 0 ≤ least ∧ least ≤ 81920

theorem need_ok {g : List Gr.Node} {s : List (List Int)} (h : Gr.shapes g = some s) : NeedOk g s (Co.leastF (Co.costs g s) (Od.ordOf g)) := by
  obtain ⟨⟨hl1, hl2⟩, _, _⟩ := Gr.shapes_iff.1 h
  have hN := Od.need_of hl1 (fun n hn => Co.inn_of h hn)
  have hat : ∀ i, i < g.length → Co.costN (Co.costs g s) i = Co.cost s (nodeN g i) i := fun i hi => Co.costsK_at _ _ _ _ hi
  have hpos : ∀ v ∈ Od.ordOf g, ∃ n : Nat, v = (n : Int) ∧ n < g.length := fun v hv => by
    obtain ⟨i, hi, he⟩ := Od.mem_nth hv
    obtain ⟨n, h2, h3, _⟩ := Od.ord_at hN hi
    exact ⟨n, by rw [← he]; exact h2, h3⟩
  have hnb : ∀ i, i < g.length → 4 ≤ (Co.costN (Co.costs g s) i).need ∧ (Co.costN (Co.costs g s) i).need ≤ 81920 := fun i hi => by
    have h1 := Co.need_bounds h hi
    have h2 := Co.insK_range s (nodeN g i).inn (nodeN g i).inn.length
    rw [hat i hi]
    omega
  obtain ⟨v, hv, hle⟩ := Co.least_at (Co.costs g s) (Od.ordOf g) (fun v hv => by
    obtain ⟨n, rfl, h3⟩ := hpos v hv
    rw [Int.toNat_natCast]
    have := hnb n h3
    omega) (Od.ord_pos hN)
  obtain ⟨n, rfl, hn⟩ := hpos v hv
  rw [Int.toNat_natCast] at hle
  have hlast : ((g.length : Int) - 1) ∈ Od.ordOf g := by rw [← Od.ord_last hN]; exact nth_mem _ _ (by have := Od.ord_pos hN; omega)
  refine ⟨fun i hi => by rw [hat i hi]; rfl, fun i hi => Co.size_bounds h hi, fun i hi => by rw [hat i hi]; rfl, fun i hi => Co.inn_of h hi, fun i j hi hj => Co.insK_ge s _ _ (Nat.le_refl _) j hj, ⟨n, hn, hle.symm⟩, ?_, ?_⟩
  · have := Co.least_ge (Co.costs g s) _ hlast
    rwa [show ((g.length : Int) - 1).toNat = g.length - 1 by omega] at this
  · rw [hle]; have := hnb n hn; omega

set_option maxHeartbeats 4000000 in
set_option maxRecDepth 100000 in
theorem cneed_walk (a : Option Addr) (len cap : Nat) (g : List Gr.Node) (w : World) (HN : Nodes w a len cap g) :
    Calls Try.prog 12 #[.agg #[.slice a len cap]] w fun e w' => e = .returned (.bool true) ∧ Below w.heap.size w w' := by
  have LN := Lib.hid HN.length
  have hle := HN.le
  have hcl := HN.cap_le
  have hll := HN.len_le
  have K0 := Lib.hid (GSt.start HN)
  clear HN
  go_enter Try.func12, Try.ntmps12
  go_wp2_with fail
  refine (gsize_any _ _ _ g _ K0.out.n).mono ?_
  rintro e w3 ⟨v, rfl, ⟨hv0, hv1⟩, hb⟩
  have K3 := Lib.hid (K0.out.on hb)
  have c3 := K3.out.cell
  clear hb K0
  by_cases hbig : 1000 < v
  · have d : decide (v > 1000) = true := decide_eq_true hbig
    go_wp2_with fail
    refine (clives_any _).mono ?_
    rintro e w4 ⟨rfl, hb⟩
    have K4 := Lib.hid (K3.out.on hb)
    clear hb
    go_wp2
    go_ret
    exact ⟨rfl, K4.out.bel⟩
  have d : decide (v > 1000) = false := decide_eq_false hbig
  go_wp2_with fail
  refine (cof_any _ _ _ g _ K3.out.n).mono ?_
  rintro e w4 ⟨hb, ⟨hs, rfl⟩ | ⟨s, aC, lC, hs, rfl, hC⟩⟩
  · have K4 := Lib.hid (K3.out.on hb)
    have HS := Lib.hid hs
    have c4 := K4.out.cell
    clear hb hs c3
    go_wp2_with fail
    refine (cleast_any _ _ _ g _ K4.out.n).mono ?_
    rintro e w5 ⟨hb, ⟨_, rfl⟩ | ⟨s, hs, _⟩⟩
    case inr => rw [HS.out] at hs; cases hs
    have K5 := Lib.hid (K4.out.on hb)
    have c5 := K5.out.cell
    clear hb c4
    go_wp2_with fail
    refine (gcheck_any _ _ _ g _ K5.out.n).mono ?_
    rintro e w6 ⟨rfl, hb⟩
    have K6 := Lib.hid (K5.out.on hb)
    rw [show (Gr.shapes g).isSome = false by rw [HS.out]; rfl]
    clear hb c5
    go_wp2
    go_loopg [7, 8] 1 (fun gg o i wr => o = .bool true ∧ i = .int .i64 0 ∧ Hid (Below w6.heap.size w6 wr))
    case atStart => exact ⟨rfl, rfl, Below.refl _ _⟩
    case round =>
      obtain ⟨rfl, rfl, HW⟩ := hrel
      go_wp2_with fail
      refine (clives_any _).mono ?_
      rintro e w7 ⟨rfl, hb⟩
      have HW7 := Lib.hid (HW.out.trans (hb.mono HW.out.size))
      clear hb
      go_wp2
      go_ret
      exact ⟨rfl, (K6.out.on HW7.out).bel⟩
  have K4 := Lib.hid (K3.out.on hb)
  have HS := Lib.hid hs
  have c4 := K4.out.cell
  have HC4 := Lib.hid hC
  have HNO := Lib.hid (need_ok hs)
  obtain ⟨⟨hl1, hl2⟩, _, _⟩ := Gr.shapes_iff.1 hs
  have hlC : lC = g.length := by rw [← hC.length]; exact Co.costsK_length _ _ _
  obtain rfl : lC = len := by rw [hlC]; exact LN.out
  have hCcl := hC.cap_le
  clear hb hs hC c3 hlC
  rw [LN.out] at hl1 hl2
  go_wp2_with fail
  refine (cleast_any _ _ _ g _ K4.out.n).mono ?_
  rintro e w5 ⟨hb, ⟨hs, _⟩ | ⟨s', hs, rfl⟩⟩
  · rw [HS.out] at hs; cases hs
  obtain rfl : s = s' := by rw [HS.out] at hs; exact Option.some.inj hs
  have K5 := Lib.hid (K4.out.on hb)
  have c5 := K5.out.cell
  have HC5 := Lib.hid (HC4.out.below hb)
  clear hb hs c4 HC4
  generalize Co.leastF (Co.costs g s) (Od.ordOf g) = least at *
  have hlb := HNO.out.le
  go_wp2_with fail
  refine (gcheck_any _ _ _ g _ K5.out.n).mono ?_
  rintro e w6 ⟨rfl, hb⟩
  have K6 := Lib.hid (K5.out.on hb)
  have HC6 := Lib.hid (HC5.out.below hb)
  rw [show (Gr.shapes g).isSome = true by rw [HS.out]; rfl]
  clear hb c5 HC5
  go_wp2
  go_loopg [7, 8] lC (fun gg o i wr => ∃ (k : Nat) (ob : Bool), k ≤ lC ∧ lC - k ≤ gg ∧ i = .int .i64 k ∧ o = .bool ob ∧ Hid (ob = true ↔ ∃ j, j < k ∧ (Co.costN (Co.costs g s) j).need = least) ∧ Hid (Below w6.heap.size w6 wr))
  case atStart => exact ⟨0, false, Nat.zero_le _, by omega, rfl, rfl, ⟨fun h => (by cases h), fun ⟨j, h, _⟩ => (by omega)⟩, Below.refl _ _⟩
  case round =>
    obtain ⟨k, ob, hk, hg, rfl, rfl, HOB, HW⟩ := hrel
    have Kr := Lib.hid (K6.out.on HW.out)
    have cr := Kr.out.cell
    by_cases hlt : k < lC
    · have dkl : decide ((k : Int) < (lC : Int)) = true := decide_eq_true (by omega)
      have hkg : k < g.length := by rw [LN.out]; exact hlt
      obtain ⟨bC, oC, rfl, _, hcC⟩ := (HC6.out.below HW.out).at_ (by omega)
      obtain ⟨kb, kn, _⟩ := hcC k hlt
      rw [HNO.out.b k hkg] at kb
      have hneed := HNO.out.n k hkg
      have HNK := Lib.hid hneed
      have hsz := HNO.out.sz k hkg
      have HGE := Lib.hid (fun j => HNO.out.ge k j hkg)
      have HIN := Lib.hid (HNO.out.inn k hkg)
      have HCC : Hid (∀ i, i < lC → wr.cell? ⟨bC, oC + i * 3, none⟩ = some (.int .i64 (4 * Gr.size (rowL s i)))) := fun i hi => by rw [← HNO.out.b i (by rw [LN.out]; exact hi)]; exact (hcC i hi).1
      rw [hneed] at kn
      obtain ⟨b, off, ai, li, ci, sa, ls, cs, rfl, _, n0, n1, n2, n3, n4, hV⟩ := Kr.out.n.get (Below.refl _ wr) hlt
      have HV := Lib.hid hV.i
      have HVL := Lib.hid hV.i.length
      have hli4 : li ≤ 4 := by have := HIN.out.1; rw [HVL.out] at this; exact this
      have hlile := hV.i.le
      have hlicl := hV.i.cap_le
      rw [HVL.out] at HGE HNK kn hneed
      clear hcC hV n0 n2 n3 n4 hneed
      generalize hszE : Gr.size (rowL s k) = sz at *
      clear hszE
      go_wp2
      go_loopg [9, 10] li (fun gg v i wv => ∃ j : Nat, j ≤ li ∧ li - j ≤ gg ∧ i = .int .i64 j ∧ v = .int .i64 (4 * sz + Co.allK s (nodeN g k).inn j) ∧ Hid (Below wr.heap.size wr wv))
      case atStart => exact ⟨0, Nat.zero_le _, by omega, rfl, by simp [Co.allK], Below.refl _ _⟩
      case round =>
        rename World => wv
        obtain ⟨j, hj, hgj, rfl, rfl, HBv⟩ := hrel
        have Kv := Lib.hid (Kr.out.on HBv.out)
        have cv := Kv.out.cell
        have hbr : bC < wr.heap.size := by assumption
        have hbn : b < wr.heap.size := by assumption
        have n1v := (HBv.out.cell (p := ⟨b, off + k * 5 + 1, none⟩) hbn).trans n1
        have kbv := (HBv.out.cell (p := ⟨bC, oC + k * 3, none⟩) hbr).trans kb
        have knv := (HBv.out.cell (p := ⟨bC, oC + k * 3 + 1, none⟩) hbr).trans kn
        have hall := Co.insK_range s (nodeN g k).inn j
        have hins := Co.insK_range s (nodeN g k).inn li
        by_cases hltj : j < li
        · have djl : decide ((j : Int) < (li : Int)) = true := decide_eq_true (by omega)
          obtain ⟨bI, oI, rfl, _, hcI⟩ := (HV.out.below HBv.out).at_ (by omega)
          have kI := hcI j hltj
          have hv := HIN.out.2 (nth (nodeN g k).inn j) (nth_mem _ j (by rw [HVL.out]; exact hltj))
          have hge := HGE.out j hltj
          have HAL : Hid (Co.allK s (nodeN g k).inn (j + 1) = Co.allK s (nodeN g k).inn j + 4 * Co.sizeAt s (nth (nodeN g k).inn j)) := rfl
          clear hcI
          generalize nth (nodeN g k).inn j = x at *
          obtain ⟨p, rfl⟩ : ∃ p : Nat, x = (p : Int) := ⟨x.toNat, by omega⟩
          have hp : p < lC := by omega
          have kP := (HBv.out.cell (p := ⟨bC, oC + p * 3, none⟩) hbr).trans (HCC.out p hp)
          have hse : Co.sizeAt s (p : Int) = Gr.size (rowL s p) := by unfold Co.sizeAt; rw [Gr.rowAt_nat]
          have hsr := Co.sizeAt_range s (p : Int)
          rw [← hse] at kP
          clear hse
          generalize Co.sizeAt s (p : Int) = S1 at *
          generalize Co.insK s (nodeN g k).inn li = I1 at *
          have dge : decide (4 * sz + I1 < 4 * sz + S1 * 4) = false := decide_eq_false (by omega)
          have dge2 : decide (4 * sz + I1 < 4 * sz + 4 * S1) = false := decide_eq_false (by omega)
          have hai : 0 ≤ Co.allK s (nodeN g k).inn j ∧ Co.allK s (nodeN g k).inn j ≤ 65536 := by omega
          clear hall hins
          have HAL2 : Hid (Value.int IntKind.i64 (4 * sz + Co.allK s (nodeN g k).inn j + 4 * S1) = Value.int IntKind.i64 (4 * sz + Co.allK s (nodeN g k).inn (j + 1))) := by
            show _ = _
            rw [HAL.out]; congr 1; omega
          clear HAL
          generalize hAj : Co.allK s (nodeN g k).inn j = A1 at *
          clear hAj
          go_wp2_with fail
          go_quiet (fail)
          have HBq := Lib.hid (HBv.out.trans (below_drewN wv nq _))
          go_wp2
          go_roundg (li - (j + 1))
          case measure => exact Nat.lt_of_lt_of_le (Nat.sub_lt_sub_left hltj (Nat.lt_succ_self j)) hgj
          case rel => exact ⟨j + 1, Nat.succ_le_of_lt hltj, Nat.le_refl _, by go_num, by first | exact HAL2.out | (rw [← HAL2.out]; go_num), HBq⟩
        · have djl : decide ((j : Int) < (li : Int)) = false := decide_eq_false (by omega)
          obtain rfl : j = li := by omega
          obtain ⟨e1, he1, he2⟩ : ∃ e1, ((4 * sz + Co.insK s (nodeN g k).inn j : Int) == least) = e1 ∧ (e1 = true ↔ 4 * sz + Co.insK s (nodeN g k).inn j = least) := ⟨_, rfl, by rw [beq_iff_eq]⟩
          have HOB2 : Hid ((ob || e1) = true ↔ ∃ i, i < k + 1 ∧ (Co.costN (Co.costs g s) i).need = least) := by
            show _ ↔ _
            rw [Bool.or_eq_true, he2, HOB.out, ← HNK.out]
            constructor
            · rintro (⟨i, h1, h2⟩ | h)
              · exact ⟨i, by omega, h2⟩
              · exact ⟨k, by omega, h⟩
            · rintro ⟨i, h1, h2⟩
              by_cases c : i = k
              · subst c; exact .inr h2
              · exact .inl ⟨i, by omega, h2⟩
          clear he2 HGE HNK
          generalize Co.insK s (nodeN g k).inn j = I1 at *
          generalize Co.allK s (nodeN g k).inn j = A1 at *
          have d1 : decide (4 * sz + I1 > 4 * sz + A1) = false := decide_eq_false (by omega)
          have d1' : decide (4 * sz + A1 < 4 * sz + I1) = false := decide_eq_false (by omega)
          have d2 : decide (4 * sz + I1 < 4 * sz) = false := decide_eq_false (by omega)
          have d3 : Int.tmod (4 * sz) 4 = 0 := by rw [Int.tmod_eq_emod_of_nonneg (by omega)]; omega
          have d4 : decide (4 * sz < 4) = false := decide_eq_false (by omega)
          cases ob with
          | true =>
            go_wp2_with fail
            go_quiet (fail)
            have HBq := Lib.hid (HBv.out.trans (below_drewN wv nq _))
            have HWq := Lib.hid (HW.out.trans (HBq.out.mono HW.out.size))
            go_wp2
            go_roundg (lC - (k + 1))
            case measure => exact Nat.lt_of_lt_of_le (Nat.sub_lt_sub_left hlt (Nat.lt_succ_self k)) hg
            case rel => exact ⟨k + 1, true, Nat.succ_le_of_lt hlt, Nat.le_refl _, by go_num, rfl, HOB2, HWq⟩
          | false =>
            go_wp2_with fail
            go_quiet (fail)
            have HBq := Lib.hid (HBv.out.trans (below_drewN wv nq _))
            have HWq := Lib.hid (HW.out.trans (HBq.out.mono HW.out.size))
            have kbq := (HBq.out.cell (p := ⟨bC, oC + k * 3, none⟩) hbr).trans kb
            have knq := (HBq.out.cell (p := ⟨bC, oC + k * 3 + 1, none⟩) hbr).trans kn
            go_wp2
            go_roundg (lC - (k + 1))
            case measure => exact Nat.lt_of_lt_of_le (Nat.sub_lt_sub_left hlt (Nat.lt_succ_self k)) hg
            case rel => exact ⟨k + 1, e1, Nat.succ_le_of_lt hlt, Nat.le_refl _, by go_num, rfl, HOB2, HWq⟩
    · have dkl : decide ((k : Int) < (lC : Int)) = false := decide_eq_false (by omega)
      obtain rfl : ob = true := HOB.out.2 (by
        obtain ⟨i, h1, h2⟩ := HNO.out.one
        exact ⟨i, by rw [LN.out] at h1; omega, h2⟩)
      obtain ⟨bC, oC, rfl, _, hcC⟩ := (HC6.out.below HW.out).at_ (by omega)
      have kl := (hcC (lC - 1) (by omega)).2.1
      have hlast := HNO.out.last
      rw [LN.out] at hlast
      generalize (Co.costN (Co.costs g s) (lC - 1)).need = m at *
      have dz : ((lC : Int) == 0) = false := by simp; omega
      have hw1 : IntKind.i64.wrap ((lC : Int) - 1) = (lC : Int) - 1 := IntWalk.i64_in _ (by omega)
      have hw2 : ((lC : Int) - 1).toNat = lC - 1 := by omega
      have hw3 : 0 ≤ (lC : Int) - 1 := by omega
      have hw4 : (lC : Int) - 1 < (lC : Int) := by omega
      have dm : decide (least ≥ m) = true := decide_eq_true hlast
      clear hcC
      go_wp2_with fail
      refine (clives_any _).mono ?_
      rintro e w7 ⟨rfl, hb⟩
      have HW7 := Lib.hid (HW.out.trans (hb.mono HW.out.size))
      clear hb
      go_wp2
      go_ret
      exact ⟨rfl, (K6.out.on HW7.out).bel⟩
end Go.Proofs.Ytgmagldbfajedaa
