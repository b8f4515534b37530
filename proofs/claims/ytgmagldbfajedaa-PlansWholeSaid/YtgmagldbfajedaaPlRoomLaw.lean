/-
  drydocklaw22.PlansRoom: the walk proom_walk (it returns true, and changes nothing below).
-/
import Derived.Test.YtgmagldbfajedaaPlAlive
import Derived.Test.YtgmagldbfajedaaPlEnd
namespace Go.Proofs.Ytgmagldbfajedaa
open Go.RowKit

/-- The lesser of two. -/
def mnI (x y : Int) : Int := if y < x then y else x
theorem min_run2 (w : World) (tys : Array TypeId) (t : TypeId) (x y : Int) : (Builtin.min_ tys t #[.int .i64 x, .int .i64 y]).run Try.prog w = .ok (.int .i64 (mnI x y)) w := rfl

set_option maxHeartbeats 4000000 in
set_option maxRecDepth 100000 in
theorem proom_walk (a : Option Addr) (len cap : Nat) (g : List Gr.Node) (m : Int) (w : World) (HN : Nodes w a len cap g) (hm0 : 0 ≤ m) (hm1 : m ≤ 65535) :
    Calls Try.prog 20 #[.agg #[.slice a len cap], .int .u16 m] w fun e w' => e = .returned (.bool true) ∧ Below w.heap.size w w' := by
  have LN := Lib.hid HN.length
  have hle := HN.le
  have hcl := HN.cap_le
  have K0 := Lib.hid (GSt.start HN)
  clear HN
  go_enter Try.func20, Try.ntmps20
  go_wp2_with fail
  refine (gsize_any _ _ _ g _ K0.out.n).mono ?_
  rintro e w3 ⟨v, rfl, ⟨hv0, hv1⟩, hb⟩
  have K3 := Lib.hid (K0.out.on hb)
  have c3 := K3.out.cell
  clear hb K0
  by_cases hbig : 600 < v
  · have d : decide (v > 600) = true := decide_eq_true hbig
    go_wp2_with fail
    refine (plives_any _).mono ?_
    rintro e w4 ⟨rfl, hb⟩
    have K4 := Lib.hid (K3.out.on hb)
    clear hb
    go_wp2
    go_ret
    exact ⟨rfl, K4.out.bel⟩
  have d : decide (v > 600) = false := decide_eq_false hbig
  go_wp2_with fail
  refine (gcheck_any _ _ _ g _ K3.out.n).mono ?_
  rintro e w4 ⟨rfl, hb⟩
  have K4 := Lib.hid (K3.out.on hb)
  have c4 := K4.out.cell
  clear hb c3
  cases hsm : (Gr.shapes g).isSome with
  | false =>
    clear hsm
    go_wp2_with fail
    refine (plives_any _).mono ?_
    rintro e w5 ⟨rfl, hb⟩
    have K5 := Lib.hid (K4.out.on hb)
    clear hb
    go_wp2
    go_ret
    exact ⟨rfl, K5.out.bel⟩
  | true =>
    obtain ⟨s, hs⟩ := Option.isSome_iff_exists.1 hsm
    have HS := Lib.hid hs
    have hlb := Pl.least_bounds hs
    obtain ⟨⟨hl1, hl2⟩, _, _⟩ := Gr.shapes_iff.1 hs
    rw [LN.out] at hl1 hl2
    clear hsm hs
    go_wp2_with fail
    refine (cleast_any _ _ _ g _ K4.out.n).mono ?_
    rintro e w5 ⟨hb, ⟨hs, _⟩ | ⟨s', hs, rfl⟩⟩
    · rw [HS.out] at hs; cases hs
    obtain rfl : s' = s := by rw [HS.out] at hs; exact (Option.some.inj hs).symm
    have K5 := Lib.hid (K4.out.on hb)
    have c5 := K5.out.cell
    have HPL := Lib.hid (fun (room : Int) (h1 : Co.leastF (Co.costs g s') (Od.ordOf g) ≤ room) (h2 : room ≤ 1048576) => Pl.plan_good HS.out h1 ⟨by omega, h2⟩)
    have HPP := Lib.hid (fun (room : Int) (h1 : Co.leastF (Co.costs g s') (Od.ordOf g) ≤ room) (h2 : room ≤ 1048576) => Pl.plan_peak (Pl.plan_good HS.out h1 ⟨by omega, h2⟩) (by omega))
    have HPO := Lib.hid (fun (room : Int) (w : World) (HN : Nodes w a len cap g) (h0 : -9223372036854775808 ≤ room) (h1 : room ≤ 9223372036854775807) => pof_any a len cap g room w HN h0 h1)
    unfold PlanE at HPO
    clear hb hs c4
    have HQ : Hid (∀ s2, Gr.shapes g = some s2 → Co.leastF (Co.costs g s2) (Od.ordOf g) = Co.leastF (Co.costs g s') (Od.ordOf g)) := fun s2 h2 => by rw [HS.out] at h2; cases h2; rfl
    generalize Co.leastF (Co.costs g s') (Od.ordOf g) = q at *
    go_wp2_with fail
    refine (HPO.out (q - 1) _ K5.out.n (by omega) (by omega)).mono ?_
    rintro e w6 ⟨hb, ⟨hbad, _⟩ | ⟨s2, hs2, hr, ⟨hlt, rfl⟩ | ⟨hge, _⟩⟩⟩
    · exfalso
      rcases hbad with h | h | h
      · rw [HS.out] at h; cases h
      · omega
      · omega
    case inr.inr =>
      exfalso
      have := HQ.out _ hs2
      omega
    have K6 := Lib.hid (K5.out.on hb)
    have c6 := K6.out.cell
    clear hb hs2 hr hlt c5
    go_wp2
    have hmin := min_run2
    go_loopg [9] 2 (fun gg i wr => ∃ k : Nat, k ≤ 2 ∧ 2 - k ≤ gg ∧ i = .int .i64 k ∧ Hid (GSt w a len cap g wr))
    case atStart => exact ⟨0, Nat.zero_le _, by omega, rfl, K6⟩
    case round =>
      obtain ⟨k, hk, hg, rfl, HW⟩ := hrel
      have c7 := HW.out.cell
      by_cases hlt : k < 2
      · have dlt : decide ((k : Int) < 2) = true := decide_eq_true (by omega)
        have hkm : 0 ≤ (k : Int) * m ∧ (k : Int) * m ≤ 65535 := by
          rcases (show k = 0 ∨ k = 1 by omega) with rfl | rfl
          · simp
          · simp; omega
        have hmn : mnI (q + (k : Int) * m) 1048576 = q + (k : Int) * m := if_neg (by omega)
        go_wp2_with fail
        refine (HPO.out _ _ HW.out.n (by omega) (by omega)).mono ?_
        rintro e w8 ⟨hb, ⟨hbad, _⟩ | ⟨s2, hs2, hr, ⟨hlt2, _⟩ | ⟨_, aL, lL, rfl, hL⟩⟩⟩
        · exfalso
          rcases hbad with h | h | h
          · rw [HS.out] at h; cases h
          · omega
          · omega
        · exfalso
          have := HQ.out _ hs2
          omega
        obtain rfl : s2 = s' := by rw [HS.out] at hs2; exact (Option.some.inj hs2).symm
        have hpl := HPL.out (q + (k : Int) * m) (by omega) (by omega)
        have hpp := HPP.out (q + (k : Int) * m) (by omega) (by omega)
        have hlL : lL ≤ 2300 := by rw [← hL.length]; exact hpl.len
        have hok : ∀ x ∈ (Pl.planSt g s2 (q + (k : Int) * m)).l, OkStep len x := fun x hx => by
          have := Pl.plan_steps hpl x hx
          rw [LN.out] at this
          exact this
        have K8 := Lib.hid (HW.out.on hb)
        have c8 := K8.out.cell
        have HPK := Lib.hid (peak_any a len cap g s2 _ _ _ _ _ K8.out.n hL HS.out hok (by omega))
        clear hb hs2 hr hL hpl hok c7
        go_wp2_with fail
        refine HPK.out.mono ?_
        rintro e w9 ⟨rfl, hb9⟩
        have K9 := Lib.hid (K8.out.on hb9)
        clear hb9 HPK c8
        generalize Pl.peakF (fun u => nth (Pl.bytesOf g s2) u) (fun _ => 0) 0 0 (Pl.planSt g s2 (q + (k : Int) * m)).l = pk at *
        obtain ⟨hp1, hp2⟩ := hpp
        have e1 : decide (pk > q + (k : Int) * m) = false := decide_eq_false (by omega)
        have e2 : decide (pk < q) = false := decide_eq_false (by omega)
        go_wp2
        go_roundg (2 - (k + 1))
        case measure => exact Nat.lt_of_lt_of_le (Nat.sub_lt_sub_left hlt (Nat.lt_succ_self k)) hg
        case rel => exact ⟨k + 1, Nat.succ_le_of_lt hlt, Nat.le_refl _, by go_num, K9⟩
      · have d2l : decide ((k : Int) < 2) = false := decide_eq_false (by omega)
        obtain rfl : k = 2 := by omega
        go_wp2_with fail
        refine (plives_any _).mono ?_
        rintro e w20 ⟨rfl, hb⟩
        have K9 := Lib.hid (HW.out.on hb)
        clear hb
        go_wp2
        go_ret
        exact ⟨rfl, K9.out.bel⟩
end Go.Proofs.Ytgmagldbfajedaa
