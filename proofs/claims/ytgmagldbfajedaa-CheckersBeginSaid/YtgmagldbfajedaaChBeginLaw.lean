/-
  drydocklaw23.CheckersBegin: the walk cbegin_walk (it returns true, and changes nothing below).
-/
import Derived.Test.YtgmagldbfajedaaChAlive
import Derived.Test.YtgmagldbfajedaaPlOfW
import Derived.Test.YtgmagldbfajedaaChChain
namespace Go.Proofs.Ytgmagldbfajedaa
open Go.RowKit

/-- The lesser of two. -/
def mnB (x y : Int) : Int := if y < x then y else x
theorem min_runB (w : World) (tys : Array TypeId) (t : TypeId) (x y : Int) : (Builtin.min_ tys t #[.int .i64 x, .int .i64 y]).run Try.prog w = .ok (.int .i64 (mnB x y)) w := rfl

set_option maxHeartbeats 4000000 in
set_option maxRecDepth 100000 in
theorem cbegin_walk (a : Option Addr) (len cap : Nat) (g : List Gr.Node) (m at_ : Int) (w : World) (HN : Nodes w a len cap g) (hm0 : 0 ≤ m) (hm1 : m ≤ 65535) (ha0 : 0 ≤ at_) (ha1 : at_ ≤ 65535) :
    Calls Try.prog 24 #[.agg #[.slice a len cap], .int .u16 m, .int .u16 at_] w fun e w' => e = .returned (.bool true) ∧ Below w.heap.size w w' := by
  have LN := Lib.hid HN.length
  have hle := HN.le
  have hcl := HN.cap_le
  have K0 := Lib.hid (GSt.start HN)
  clear HN
  go_enter Try.func24, Try.ntmps24
  go_wp2_with fail
  refine (gsize_any _ _ _ g _ K0.out.n).mono ?_
  rintro e w3 ⟨v, rfl, ⟨hv0, hv1⟩, hb⟩
  have K3 := Lib.hid (K0.out.on hb)
  have c3 := K3.out.cell
  clear hb K0
  by_cases hbig : 600 < v
  · have d : decide (v > 600) = true := decide_eq_true hbig
    go_wp2_with fail
    refine (clives23_any _).mono ?_
    rintro e w4 ⟨rfl, hb⟩
    have K4 := Lib.hid (K3.out.on hb)
    clear hb
    go_wp2
    go_ret
    exact ⟨rfl, K4.out.bel⟩
  have d : decide (v > 600) = false := decide_eq_false hbig
  go_wp2_with fail
  refine (gcheck_any _ _ _ g _ K3.out.n).mono ?_
  rintro e w4 ⟨rfl, hb⟩
  have K4 := Lib.hid (K3.out.on hb)
  have c4 := K4.out.cell
  clear hb c3
  cases hsm : (Gr.shapes g).isSome with
  | false =>
    clear hsm
    go_wp2_with fail
    refine (clives23_any _).mono ?_
    rintro e w5 ⟨rfl, hb⟩
    have K5 := Lib.hid (K4.out.on hb)
    clear hb
    go_wp2
    go_ret
    exact ⟨rfl, K5.out.bel⟩
  | true =>
    obtain ⟨s, hs⟩ := Option.isSome_iff_exists.1 hsm
    have HS := Lib.hid hs
    have hlb := Pl.least_bounds hs
    obtain ⟨⟨hl1, hl2⟩, _, _⟩ := Gr.shapes_iff.1 hs
    rw [LN.out] at hl1 hl2
    clear hsm hs
    go_wp2_with fail
    refine (cleast_any _ _ _ g _ K4.out.n).mono ?_
    rintro e w5 ⟨hb, ⟨hs, _⟩ | ⟨s', hs, rfl⟩⟩
    · rw [HS.out] at hs; cases hs
    obtain rfl : s' = s := by rw [HS.out] at hs; exact (Option.some.inj hs).symm
    have K5 := Lib.hid (K4.out.on hb)
    have c5 := K5.out.cell
    have hpl := Pl.plan_good HS.out (room := Co.leastF (Co.costs g s') (Od.ordOf g) + m) (by omega) ⟨by omega, by omega⟩
    have HQ : Hid (∀ s2, Gr.shapes g = some s2 → Co.leastF (Co.costs g s2) (Od.ordOf g) = Co.leastF (Co.costs g s') (Od.ordOf g)) := fun s2 h2 => by rw [HS.out] at h2; cases h2; rfl
    have HPO := Lib.hid (fun (room : Int) (w : World) (HN : Nodes w a len cap g) (h0 : -9223372036854775808 ≤ room) (h1 : room ≤ 9223372036854775807) => pof_any a len cap g room w HN h0 h1)
    unfold PlanE at HPO
    have HPL := Lib.hid hpl
    clear hb hs hpl c4
    generalize Co.leastF (Co.costs g s') (Od.ordOf g) = q at *
    have hmin := min_runB
    have hmn : mnB 1048576 (q + m) = q + m := if_pos (by omega)
    go_wp2_with fail
    refine (HPO.out (q + m) _ K5.out.n (by omega) (by omega)).mono ?_
    rintro e w6 ⟨hb, ⟨hbad, _⟩ | ⟨s2, hs2, hr, ⟨hlt2, _⟩ | ⟨_, aL, lL, rfl, hL⟩⟩⟩
    · exfalso
      rcases hbad with h | h | h
      · rw [HS.out] at h; cases h
      · omega
      · omega
    · exfalso
      have := HQ.out _ hs2
      omega
    obtain rfl : s2 = s' := by rw [HS.out] at hs2; exact (Option.some.inj hs2).symm
    have hlL : lL ≤ 2300 := by rw [← hL.length]; exact HPL.out.len
    have K6 := Lib.hid (K5.out.on hb)
    have c6 := K6.out.cell
    have HL6 := Lib.hid hL
    have hl0 : 0 < lL := by rw [← hL.length]; exact Pl.plan_pos HS.out HPL.out
    have HLn := Lib.hid hL.length
    have hLle := hL.le
    have hLcl := hL.cap_le
    obtain ⟨bL, oL, rfl, _, _⟩ := hL.at_ hl0
    have hz0 : ((lL : Int) == 0) = false := by simp; omega
    obtain ⟨n, hk1, hk2⟩ := rem_nat (n := lL) ha0 (by omega)
    have HB1 := Lib.hid (Pl.plan_begin HS.out HPL.out ⟨by omega, by omega⟩ (n := n) (by rw [HLn.out]; omega))
    have HB2 := Lib.hid (Pl.plan_twice HS.out HPL.out ⟨by omega, by omega⟩ (n := n) (by rw [HLn.out]; omega))
    have HB3 : Hid ((stepN (Pl.planSt g s2 (q + m)).l n).1 = 1 ∨ (stepN (Pl.planSt g s2 (q + m)).l n).1 = 2 → (Pl.chkF g (q + m) ((Pl.planSt g s2 (q + m)).l.take n ++ (Pl.planSt g s2 (q + m)).l.drop (n + 1))).2 = false) := fun h => Pl.plan_less HS.out HPL.out ⟨by omega, by omega⟩ (n := n) (by rw [HLn.out]; omega) h
    clear hb hs2 hr hL c5 HPL HPO
    generalize (Pl.planSt g s2 (q + m)).l = L at *
    generalize hroom : q + m = room at *
    go_wp2_with fail
    have hbd : Below w6.heap.size w6 w6.drew := (Below.refl _ _).drew
    have K7 := Lib.hid (K6.out.on hbd)
    have HL7 := Lib.hid (HL6.out.below hbd)
    have c7 := K7.out.cell
    have hsl := slice_take75 (some ⟨bL, oL, none⟩) lL lL n (by omega) hLle
    clear hbd c6
    refine wp_region_still_call 5 mixed (by kernel_rfl) ?_
    simp only [List.take_succ_cons, List.take_zero, List.getElem?_cons_succ, List.getElem?_cons_zero]
    repeat still_step
    refine wpStill_nil ?_
    intro KC hKC
    simp only [List.drop_succ_cons, List.drop_zero] at hKC
    go_simp
    refine (chk_any _ _ _ g room _ _ _ (L.take n) _ K7.out.n (HL7.out.take n (by omega))).mono ?_
    rintro e w8 ⟨rfl, hb⟩
    have K8 := Lib.hid (K7.out.on hb)
    have HL8 := Lib.hid (HL7.out.below hb)
    have c8 := K8.out.cell
    clear hb c7 hsl
    refine hKC _ _ ?_
    clear hKC KC
    repeat still_step
    refine wpStill_nil ?_
    have HB1' := HB1.out
    generalize (Pl.chkF g room (L.take n)).1 = z1 at *
    generalize (Pl.chkF g room (L.take n)).2 = ok1 at *
    clear HB1
    have hzz : ok1 = false → (z1 != (n : Int)) = false := fun h => by
      rcases HB1' with h2 | h2
      · rw [h] at h2; cases h2
      · simp [h2]
    clear HB1'
    obtain ⟨oR, hR1, hR2⟩ := slice_rest75 bL oL lL lL (n + 1) (by omega) hLle
    have hsl1 := slice_take75 (some ⟨bL, oL, none⟩) lL lL (n + 1) (by omega) hLle
    have hsl0 := slice_take75 (some ⟨bL, oL, none⟩) lL lL n (by omega) hLle
    have HR2 := Lib.hid hR2
    clear hR2
    rw [show (((n + 1 : Nat) : Int)) = (n : Int) + 1 by omega] at hR1 hsl1
    obtain ⟨b', o', e', hbl, hc⟩ := HL8.out.at_ hl0
    simp only [Option.some.injEq, Addr.mk.injEq] at e'
    obtain ⟨rfl, rfl, _⟩ := e'
    obtain ⟨x0, x1⟩ := hc n hk2
    have HX0 := Lib.hid x0
    have HX1 := Lib.hid x1
    have HBL := Lib.hid hbl
    clear hc x0 x1 hbl
    generalize hst : stepN L n = st at *
    obtain ⟨kd, v1⟩ := st
    simp only at HB3
    have HX0' : Hid (w8.cell? ⟨bL, oL + n * 2, none⟩ = some (.int .u8 kd)) := HX0.out
    have HX1' : Hid (w8.cell? ⟨bL, oL + n * 2 + 1, none⟩ = some (.int .i64 v1)) := HX1.out
    have HX : Hid (∀ W, Below w8.heap.size w8 W → W.cell? ⟨bL, oL + n * 2, none⟩ = some (.int .u8 kd) ∧ W.cell? ⟨bL, oL + n * 2 + 1, none⟩ = some (.int .i64 v1)) := fun W hW => ⟨(hW.cell (p := ⟨bL, _, none⟩) HBL.out).trans HX0'.out, (hW.cell (p := ⟨bL, _, none⟩) HBL.out).trans HX1'.out⟩
    have HTK : Hid (∀ W, Below w8.heap.size w8 W → StepsIn W (some ⟨bL, oL, none⟩) (n + 1) lL (L.take (n + 1))) := fun W hW => (HL8.out.below hW).take (n + 1) (by omega)
    have HT0 : Hid (∀ W, Below w8.heap.size w8 W → StepsIn W (some ⟨bL, oL, none⟩) n lL (L.take n)) := fun W hW => (HL8.out.below hW).take n (by omega)
    have HDR : Hid (∀ W, Below w8.heap.size w8 W → StepsIn W (some ⟨bL, oR, none⟩) (lL - (n + 1)) (lL - (n + 1)) (L.drop (n + 1))) := fun W hW => HR2.out W L (HL8.out.below hW)
    have hlt1 : (L.take (n + 1)).length ≤ 10000 := by rw [List.length_take, HLn.out]; omega
    have hlt2 : (L.drop (n + 1)).length ≤ 10000 := by rw [List.length_drop, HLn.out]; omega
    have hlt0 : (L.take n).length ≤ 10000 := by rw [List.length_take, HLn.out]; omega
    have HB2' : Hid (Pl.chkF g room (L.take (n + 1) ++ [(kd, v1)] ++ L.drop (n + 1)) = ((n : Int) + 1, false)) := by
      show _ = _
      rw [HB2.out, show ((n + 1 : Nat) : Int) = (n : Int) + 1 by omega]
    clear HB2 hlt0 hst HX0 HX1
    cases ok1 with
    | true =>
      clear hzz
      go_wp2_with fail
      refine tw_region (wq := w8) (p := L.take (n + 1)) (q := L.drop (n + 1)) (kd := kd) (m := v1) (SL := .slice (some ⟨bL, oL, none⟩) lL lL) (n := (n : Int)) (TK := .slice (some ⟨bL, oL, none⟩) (n + 1) lL) (DR := .slice (some ⟨bL, oR, none⟩) (lL - (n + 1)) (lL - (n + 1))) (PX := .pointer (some ⟨bL, oL + n * 2, none⟩)) (X := .agg #[.int .u8 kd, .int .i64 v1]) ⟨rfl, ⟨_, rfl, rfl, rfl, by kernel_rfl⟩, ⟨_, rfl, rfl, rfl, by kernel_rfl⟩, ⟨_, rfl, rfl, rfl, by kernel_rfl⟩, ⟨_, rfl, rfl, rfl, by kernel_rfl⟩, ⟨_, rfl, rfl, rfl, by kernel_rfl⟩, ⟨_, rfl, rfl, rfl, by kernel_rfl⟩, ⟨_, rfl, rfl, rfl, by kernel_rfl⟩, ⟨_, rfl, rfl, rfl, by kernel_rfl⟩, ⟨_, rfl, rfl, rfl, by kernel_rfl⟩, ⟨_, rfl, rfl, rfl, by kernel_rfl⟩, ⟨_, rfl, rfl, rfl, by kernel_rfl⟩, ⟨_, rfl, rfl, rfl, by kernel_rfl⟩, ⟨_, rfl, rfl, rfl, by kernel_rfl⟩, ⟨_, rfl, rfl, rfl, by kernel_rfl⟩, ⟨_, rfl, rfl, rfl, by kernel_rfl⟩, ⟨_, rfl, rfl, rfl, by kernel_rfl⟩, ⟨_, rfl, rfl, rfl, by kernel_rfl⟩⟩ rfl (by kernel_rfl) rfl rfl bL oL (n + 1) lL bL oR (lL - (n + 1)) (lL - (n + 1)) rfl rfl HTK.out HDR.out ⟨by omega, by omega⟩ hsl1 hR1 bL oL lL lL n rfl rfl hk2 rfl rfl HX.out (Nat.le_trans hlt1 (by decide)) (by omega) (by omega) ?_
      intro u4 u9 u10 u15 W hO hB
      rw [List.nil_append] at hO
      obtain ⟨a15, l15, c15, rfl, hS, _⟩ := hO.steps
      have K9 := Lib.hid (K8.out.on hB)
      have HL9 := Lib.hid (HL8.out.below hB)
      have HBL9 : Hid (bL < W.heap.size) := Nat.lt_of_lt_of_le HBL.out hB.size
      have hx9 := HX.out W hB
      have HX9 := Lib.hid hx9
      have HS9 := Lib.hid hS
      have c9 := K9.out.cell
      clear hO hB hS hx9
      simp only [putsK, dstAt, finTw, constTw, List.getElem?_cons_succ, List.getElem?_cons_zero, Option.bind_some, Option.getD_some]
      go_wp2_with fail
      refine (chk_any _ _ _ g room _ _ _ _ _ K9.out.n HS9.out).mono ?_
      rintro e w10 ⟨rfl, hb⟩
      rw [HB2'.out]
      have K10 := Lib.hid (K9.out.on hb)
      have HL10 := Lib.hid (HL9.out.below hb)
      have HX10 : Hid (w10.cell? ⟨bL, oL + n * 2, none⟩ = some (.int .u8 kd)) := (hb.cell (p := ⟨bL, _, none⟩) HBL9.out).trans HX9.out.1
      have HBL10 : Hid (bL < w10.heap.size) := Nat.lt_of_lt_of_le HBL9.out hb.size
      have c10 := K10.out.cell
      have hnn : ((n : Int) + 1 != (n : Int) + 1) = false := by simp
      clear hb c9
      go_wp2_with fail
      refine ls_region (wq := w10) (p := L.take n) (q := L.drop (n + 1)) (SL := .slice (some ⟨bL, oL, none⟩) lL lL) (n := (n : Int)) (TK := .slice (some ⟨bL, oL, none⟩) n lL) (DR := .slice (some ⟨bL, oR, none⟩) (lL - (n + 1)) (lL - (n + 1))) (PX := undef) (X := undef) ⟨rfl, ⟨_, rfl, rfl, rfl, by kernel_rfl⟩, ⟨_, rfl, rfl, rfl, by kernel_rfl⟩, ⟨_, rfl, rfl, rfl, by kernel_rfl⟩, ⟨_, rfl, rfl, rfl, by kernel_rfl⟩, ⟨_, rfl, rfl, rfl, by kernel_rfl⟩, ⟨_, rfl, rfl, rfl, by kernel_rfl⟩, ⟨_, rfl, rfl, rfl, by kernel_rfl⟩, ⟨_, rfl, rfl, rfl, by kernel_rfl⟩, ⟨_, rfl, rfl, rfl, by kernel_rfl⟩, ⟨_, rfl, rfl, rfl, by kernel_rfl⟩⟩ rfl (by kernel_rfl) rfl rfl bL oL n lL bL oR (lL - (n + 1)) (lL - (n + 1)) rfl rfl (fun W hW => (HL10.out.below hW).take n (by omega)) (fun W hW => HR2.out W L (HL10.out.below hW)) ⟨by omega, by omega⟩ hsl0 hR1 (by rw [List.length_take, HLn.out]; omega) (by omega) (by omega) ?_
      intro u3 u8 W2 hO hB
      rw [List.nil_append] at hO
      obtain ⟨a18, l18, c18, rfl, hS, _⟩ := hO.steps
      have K11 := Lib.hid (K10.out.on hB)
      have HX11 : Hid (W2.cell? ⟨bL, oL + n * 2, none⟩ = some (.int .u8 kd)) := (hB.cell (p := ⟨bL, _, none⟩) HBL10.out).trans HX10.out
      have HBL11 : Hid (bL < W2.heap.size) := Nat.lt_of_lt_of_le HBL10.out hB.size
      have HS11 := Lib.hid hS
      have c11 := K11.out.cell
      clear hO hB hS c10
      simp only [putsK, dstAt, finLs, constLs, List.getElem?_cons_succ, List.getElem?_cons_zero, Option.bind_some, Option.getD_some]
      go_wp2_with fail
      refine (chk_any _ _ _ g room _ _ _ _ _ K11.out.n HS11.out).mono ?_
      rintro e w12 ⟨rfl, hb⟩
      have K12 := Lib.hid (K11.out.on hb)
      have x12 := (hb.cell (p := ⟨bL, _, none⟩) HBL11.out).trans HX11.out
      clear hb c11
      generalize (Pl.chkF g room (L.take n ++ L.drop (n + 1))).1 = z3 at *
      generalize (Pl.chkF g room (L.take n ++ L.drop (n + 1))).2 = one at *
      by_cases e1 : kd = 1
      · have h1 := HB3.out (.inl e1)
        have q1 : (kd == 1) = true := by simp [e1]
        subst h1
        clear e1
        go_wp2_with fail
        refine (clives23_any _).mono ?_
        rintro e w13 ⟨rfl, hb⟩
        have K13 := Lib.hid (K12.out.on hb)
        clear hb
        go_wp2
        go_ret
        exact ⟨rfl, K13.out.bel⟩
      have q1 : (kd == 1) = false := by simp [e1]
      by_cases e2 : kd = 2
      · have h1 := HB3.out (.inr e2)
        have q2 : (kd == 2) = true := by simp [e2]
        subst h1
        clear e1 e2
        go_wp2_with fail
        refine (clives23_any _).mono ?_
        rintro e w13 ⟨rfl, hb⟩
        have K13 := Lib.hid (K12.out.on hb)
        clear hb
        go_wp2
        go_ret
        exact ⟨rfl, K13.out.bel⟩
      have q2 : (kd == 2) = false := by simp [e2]
      clear e1 e2
      go_wp2_with fail
      refine (clives23_any _).mono ?_
      rintro e w13 ⟨rfl, hb⟩
      have K13 := Lib.hid (K12.out.on hb)
      clear hb
      go_wp2
      go_ret
      exact ⟨rfl, K13.out.bel⟩
    | false =>
      have hz1 := hzz rfl
      clear hzz
      go_wp2_with fail
      refine tw_region (wq := w8) (p := L.take (n + 1)) (q := L.drop (n + 1)) (kd := kd) (m := v1) (SL := .slice (some ⟨bL, oL, none⟩) lL lL) (n := (n : Int)) (TK := .slice (some ⟨bL, oL, none⟩) (n + 1) lL) (DR := .slice (some ⟨bL, oR, none⟩) (lL - (n + 1)) (lL - (n + 1))) (PX := .pointer (some ⟨bL, oL + n * 2, none⟩)) (X := .agg #[.int .u8 kd, .int .i64 v1]) ⟨rfl, ⟨_, rfl, rfl, rfl, by kernel_rfl⟩, ⟨_, rfl, rfl, rfl, by kernel_rfl⟩, ⟨_, rfl, rfl, rfl, by kernel_rfl⟩, ⟨_, rfl, rfl, rfl, by kernel_rfl⟩, ⟨_, rfl, rfl, rfl, by kernel_rfl⟩, ⟨_, rfl, rfl, rfl, by kernel_rfl⟩, ⟨_, rfl, rfl, rfl, by kernel_rfl⟩, ⟨_, rfl, rfl, rfl, by kernel_rfl⟩, ⟨_, rfl, rfl, rfl, by kernel_rfl⟩, ⟨_, rfl, rfl, rfl, by kernel_rfl⟩, ⟨_, rfl, rfl, rfl, by kernel_rfl⟩, ⟨_, rfl, rfl, rfl, by kernel_rfl⟩, ⟨_, rfl, rfl, rfl, by kernel_rfl⟩, ⟨_, rfl, rfl, rfl, by kernel_rfl⟩, ⟨_, rfl, rfl, rfl, by kernel_rfl⟩, ⟨_, rfl, rfl, rfl, by kernel_rfl⟩, ⟨_, rfl, rfl, rfl, by kernel_rfl⟩⟩ rfl (by kernel_rfl) rfl rfl bL oL (n + 1) lL bL oR (lL - (n + 1)) (lL - (n + 1)) rfl rfl HTK.out HDR.out ⟨by omega, by omega⟩ hsl1 hR1 bL oL lL lL n rfl rfl hk2 rfl rfl HX.out (Nat.le_trans hlt1 (by decide)) (by omega) (by omega) ?_
      intro u4 u9 u10 u15 W hO hB
      rw [List.nil_append] at hO
      obtain ⟨a15, l15, c15, rfl, hS, _⟩ := hO.steps
      have K9 := Lib.hid (K8.out.on hB)
      have HL9 := Lib.hid (HL8.out.below hB)
      have HBL9 : Hid (bL < W.heap.size) := Nat.lt_of_lt_of_le HBL.out hB.size
      have hx9 := HX.out W hB
      have HX9 := Lib.hid hx9
      have HS9 := Lib.hid hS
      have c9 := K9.out.cell
      clear hO hB hS hx9
      simp only [putsK, dstAt, finTw, constTw, List.getElem?_cons_succ, List.getElem?_cons_zero, Option.bind_some, Option.getD_some]
      go_wp2_with fail
      refine (chk_any _ _ _ g room _ _ _ _ _ K9.out.n HS9.out).mono ?_
      rintro e w10 ⟨rfl, hb⟩
      rw [HB2'.out]
      have K10 := Lib.hid (K9.out.on hb)
      have HL10 := Lib.hid (HL9.out.below hb)
      have HX10 : Hid (w10.cell? ⟨bL, oL + n * 2, none⟩ = some (.int .u8 kd)) := (hb.cell (p := ⟨bL, _, none⟩) HBL9.out).trans HX9.out.1
      have HBL10 : Hid (bL < w10.heap.size) := Nat.lt_of_lt_of_le HBL9.out hb.size
      have c10 := K10.out.cell
      have hnn : ((n : Int) + 1 != (n : Int) + 1) = false := by simp
      clear hb c9
      go_wp2_with fail
      refine ls_region (wq := w10) (p := L.take n) (q := L.drop (n + 1)) (SL := .slice (some ⟨bL, oL, none⟩) lL lL) (n := (n : Int)) (TK := .slice (some ⟨bL, oL, none⟩) n lL) (DR := .slice (some ⟨bL, oR, none⟩) (lL - (n + 1)) (lL - (n + 1))) (PX := undef) (X := undef) ⟨rfl, ⟨_, rfl, rfl, rfl, by kernel_rfl⟩, ⟨_, rfl, rfl, rfl, by kernel_rfl⟩, ⟨_, rfl, rfl, rfl, by kernel_rfl⟩, ⟨_, rfl, rfl, rfl, by kernel_rfl⟩, ⟨_, rfl, rfl, rfl, by kernel_rfl⟩, ⟨_, rfl, rfl, rfl, by kernel_rfl⟩, ⟨_, rfl, rfl, rfl, by kernel_rfl⟩, ⟨_, rfl, rfl, rfl, by kernel_rfl⟩, ⟨_, rfl, rfl, rfl, by kernel_rfl⟩, ⟨_, rfl, rfl, rfl, by kernel_rfl⟩⟩ rfl (by kernel_rfl) rfl rfl bL oL n lL bL oR (lL - (n + 1)) (lL - (n + 1)) rfl rfl (fun W hW => (HL10.out.below hW).take n (by omega)) (fun W hW => HR2.out W L (HL10.out.below hW)) ⟨by omega, by omega⟩ hsl0 hR1 (by rw [List.length_take, HLn.out]; omega) (by omega) (by omega) ?_
      intro u3 u8 W2 hO hB
      rw [List.nil_append] at hO
      obtain ⟨a18, l18, c18, rfl, hS, _⟩ := hO.steps
      have K11 := Lib.hid (K10.out.on hB)
      have HX11 : Hid (W2.cell? ⟨bL, oL + n * 2, none⟩ = some (.int .u8 kd)) := (hB.cell (p := ⟨bL, _, none⟩) HBL10.out).trans HX10.out
      have HBL11 : Hid (bL < W2.heap.size) := Nat.lt_of_lt_of_le HBL10.out hB.size
      have HS11 := Lib.hid hS
      have c11 := K11.out.cell
      clear hO hB hS c10
      simp only [putsK, dstAt, finLs, constLs, List.getElem?_cons_succ, List.getElem?_cons_zero, Option.bind_some, Option.getD_some]
      go_wp2_with fail
      refine (chk_any _ _ _ g room _ _ _ _ _ K11.out.n HS11.out).mono ?_
      rintro e w12 ⟨rfl, hb⟩
      have K12 := Lib.hid (K11.out.on hb)
      have x12 := (hb.cell (p := ⟨bL, _, none⟩) HBL11.out).trans HX11.out
      clear hb c11
      generalize (Pl.chkF g room (L.take n ++ L.drop (n + 1))).1 = z3 at *
      generalize (Pl.chkF g room (L.take n ++ L.drop (n + 1))).2 = one at *
      by_cases e1 : kd = 1
      · have h1 := HB3.out (.inl e1)
        have q1 : (kd == 1) = true := by simp [e1]
        subst h1
        clear e1
        go_wp2_with fail
        refine (clives23_any _).mono ?_
        rintro e w13 ⟨rfl, hb⟩
        have K13 := Lib.hid (K12.out.on hb)
        clear hb
        go_wp2
        go_ret
        exact ⟨rfl, K13.out.bel⟩
      have q1 : (kd == 1) = false := by simp [e1]
      by_cases e2 : kd = 2
      · have h1 := HB3.out (.inr e2)
        have q2 : (kd == 2) = true := by simp [e2]
        subst h1
        clear e1 e2
        go_wp2_with fail
        refine (clives23_any _).mono ?_
        rintro e w13 ⟨rfl, hb⟩
        have K13 := Lib.hid (K12.out.on hb)
        clear hb
        go_wp2
        go_ret
        exact ⟨rfl, K13.out.bel⟩
      have q2 : (kd == 2) = false := by simp [e2]
      clear e1 e2
      go_wp2_with fail
      refine (clives23_any _).mono ?_
      rintro e w13 ⟨rfl, hb⟩
      have K13 := Lib.hid (K12.out.on hb)
      clear hb
      go_wp2
      go_ret
      exact ⟨rfl, K13.out.bel⟩
end Go.Proofs.Ytgmagldbfajedaa
