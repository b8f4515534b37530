/-
  drydocklaw23.CheckersPlans: the walk cplans_walk (it returns true, and changes nothing below).
-/
import Derived.Test.YtgmagldbfajedaaChAlive
import Derived.Test.YtgmagldbfajedaaPlPeak
namespace Go.Proofs.Ytgmagldbfajedaa
open Go.RowKit

/-- The lesser of two. -/
def mnC (x y : Int) : Int := if y < x then y else x
theorem min_runC (w : World) (tys : Array TypeId) (t : TypeId) (x y : Int) : (Builtin.min_ tys t #[.int .i64 x, .int .i64 y]).run Try.prog w = .ok (.int .i64 (mnC x y)) w := rfl

set_option maxHeartbeats 4000000 in
set_option maxRecDepth 100000 in
theorem cplans_walk (a : Option Addr) (len cap : Nat) (g : List Gr.Node) (m : Int) (w : World) (HN : Nodes w a len cap g) (hm0 : 0 ≤ m) (hm1 : m ≤ 65535) :
    Calls Try.prog 25 #[.agg #[.slice a len cap], .int .u16 m] w fun e w' => e = .returned (.bool true) ∧ Below w.heap.size w w' := by
  have LN := Lib.hid HN.length
  have hle := HN.le
  have hcl := HN.cap_le
  have K0 := Lib.hid (GSt.start HN)
  clear HN
  go_enter Try.func25, Try.ntmps25
  go_wp2_with fail
  refine (gsize_any _ _ _ g _ K0.out.n).mono ?_
  rintro e w3 ⟨v, rfl, ⟨hv0, hv1⟩, hb⟩
  have K3 := Lib.hid (K0.out.on hb)
  have c3 := K3.out.cell
  clear hb K0
  by_cases hbig : 600 < v
  · have d : decide (v > 600) = true := decide_eq_true hbig
    go_wp2_with fail
    refine (clives23_any _).mono ?_
    rintro e w4 ⟨rfl, hb⟩
    have K4 := Lib.hid (K3.out.on hb)
    clear hb
    go_wp2
    go_ret
    exact ⟨rfl, K4.out.bel⟩
  have d : decide (v > 600) = false := decide_eq_false hbig
  go_wp2_with fail
  refine (gcheck_any _ _ _ g _ K3.out.n).mono ?_
  rintro e w4 ⟨rfl, hb⟩
  have K4 := Lib.hid (K3.out.on hb)
  have c4 := K4.out.cell
  clear hb c3
  cases hsm : (Gr.shapes g).isSome with
  | false =>
    clear hsm
    go_wp2_with fail
    refine (clives23_any _).mono ?_
    rintro e w5 ⟨rfl, hb⟩
    have K5 := Lib.hid (K4.out.on hb)
    clear hb
    go_wp2
    go_ret
    exact ⟨rfl, K5.out.bel⟩
  | true =>
    obtain ⟨s, hs⟩ := Option.isSome_iff_exists.1 hsm
    have HS := Lib.hid hs
    have hlb := Pl.least_bounds hs
    obtain ⟨⟨hl1, hl2⟩, _, _⟩ := Gr.shapes_iff.1 hs
    rw [LN.out] at hl1 hl2
    clear hsm hs
    go_wp2_with fail
    refine (cleast_any _ _ _ g _ K4.out.n).mono ?_
    rintro e w5 ⟨hb, ⟨hs, _⟩ | ⟨s', hs, rfl⟩⟩
    · rw [HS.out] at hs; cases hs
    obtain rfl : s' = s := by rw [HS.out] at hs; exact (Option.some.inj hs).symm
    have K5 := Lib.hid (K4.out.on hb)
    have c5 := K5.out.cell
    have hpl := Pl.plan_good HS.out (room := Co.leastF (Co.costs g s') (Od.ordOf g) + m) (by omega) ⟨by omega, by omega⟩
    have HQ : Hid (∀ s2, Gr.shapes g = some s2 → Co.leastF (Co.costs g s2) (Od.ordOf g) = Co.leastF (Co.costs g s') (Od.ordOf g)) := fun s2 h2 => by rw [HS.out] at h2; cases h2; rfl
    have hpp := Pl.plan_peak hpl (by omega)
    have HPO := Lib.hid (fun (room : Int) (w : World) (HN : Nodes w a len cap g) (h0 : -9223372036854775808 ≤ room) (h1 : room ≤ 9223372036854775807) => pof_any a len cap g room w HN h0 h1)
    unfold PlanE at HPO
    have HPL := Lib.hid hpl
    clear hb hs hpl c4
    generalize Co.leastF (Co.costs g s') (Od.ordOf g) = q at *
    have hmin := min_runC
    have hmn : mnC 1048576 (q + m) = q + m := if_pos (by omega)
    go_wp2_with fail
    refine (HPO.out (q + m) _ K5.out.n (by omega) (by omega)).mono ?_
    rintro e w6 ⟨hb, ⟨hbad, _⟩ | ⟨s2, hs2, hr, ⟨hlt2, _⟩ | ⟨_, aL, lL, rfl, hL⟩⟩⟩
    · exfalso
      rcases hbad with h | h | h
      · rw [HS.out] at h; cases h
      · omega
      · omega
    · exfalso
      have := HQ.out _ hs2
      omega
    obtain rfl : s2 = s' := by rw [HS.out] at hs2; exact (Option.some.inj hs2).symm
    have hlL : lL ≤ 2300 := by rw [← hL.length]; exact HPL.out.len
    have hok : ∀ x ∈ (Pl.planSt g s2 (q + m)).l, OkStep len x := fun x hx => by
      have := Pl.plan_steps HPL.out x hx
      rw [LN.out] at this
      exact this
    have K6 := Lib.hid (K5.out.on hb)
    have c6 := K6.out.cell
    have HPK := Lib.hid (peak_any a len cap g s2 _ _ _ _ _ K6.out.n hL HS.out hok (by omega))
    have HL6 := Lib.hid hL
    clear hb hs2 hr hL hok c5
    go_wp2_with fail
    refine HPK.out.mono ?_
    rintro e w7 ⟨rfl, hb⟩
    have K7 := Lib.hid (K6.out.on hb)
    have c7 := K7.out.cell
    have HL7 := Lib.hid (HL6.out.below hb)
    have HA := Lib.hid (Pl.plan_pass HS.out HPL.out (m := q + m) ⟨by omega, by omega⟩ hpp.2)
    have HB := Lib.hid (Pl.plan_pass HS.out HPL.out (m := Pl.peakF (fun u => nth (Pl.bytesOf g s2) u) (fun _ => 0) 0 0 (Pl.planSt g s2 (q + m)).l) ⟨by omega, by omega⟩ (Int.le_refl _))
    have HC := Lib.hid (Pl.plan_pass HS.out HPL.out (m := 1048576) ⟨by omega, by omega⟩ (by omega))
    have HD := Lib.hid (Pl.plan_over HS.out HPL.out (m := Pl.peakF (fun u => nth (Pl.bytesOf g s2) u) (fun _ => 0) 0 0 (Pl.planSt g s2 (q + m)).l - 1) ⟨by omega, by omega⟩ (by omega))
    clear hb HPK c6
    generalize Pl.peakF (fun u => nth (Pl.bytesOf g s2) u) (fun _ => 0) 0 0 (Pl.planSt g s2 (q + m)).l = pk at *
    generalize (Pl.planSt g s2 (q + m)).l = L at *
    go_wp2_with fail
    refine (chk_any _ _ _ g _ _ _ _ L _ K7.out.n HL7.out).mono ?_
    rintro e w8 ⟨rfl, hb⟩
    rw [HA.out]
    have K8 := Lib.hid (K7.out.on hb)
    have c8 := K8.out.cell
    have HL8 := Lib.hid (HL7.out.below hb)
    clear hb c7
    go_wp2_with fail
    refine (chk_any _ _ _ g _ _ _ _ L _ K8.out.n HL8.out).mono ?_
    rintro e w9 ⟨rfl, hb⟩
    rw [HB.out]
    have K9 := Lib.hid (K8.out.on hb)
    have c9 := K9.out.cell
    have HL9 := Lib.hid (HL8.out.below hb)
    clear hb c8
    go_wp2_with fail
    refine (chk_any _ _ _ g _ _ _ _ L _ K9.out.n HL9.out).mono ?_
    rintro e w10 ⟨rfl, hb⟩
    rw [HC.out]
    have K10 := Lib.hid (K9.out.on hb)
    have c10 := K10.out.cell
    have HL10 := Lib.hid (HL9.out.below hb)
    clear hb c9
    go_wp2_with fail
    refine (chk_any _ _ _ g _ _ _ _ L _ K10.out.n HL10.out).mono ?_
    rintro e w11 ⟨rfl, hb⟩
    rw [HD.out]
    have K11 := Lib.hid (K10.out.on hb)
    clear hb c10
    generalize (Pl.chkF g (pk - 1) L).1 = z at *
    go_wp2_with fail
    refine (clives23_any _).mono ?_
    rintro e w12 ⟨rfl, hb⟩
    have K12 := Lib.hid (K11.out.on hb)
    clear hb
    go_wp2
    go_ret
    exact ⟨rfl, K12.out.bel⟩
end Go.Proofs.Ytgmagldbfajedaa
