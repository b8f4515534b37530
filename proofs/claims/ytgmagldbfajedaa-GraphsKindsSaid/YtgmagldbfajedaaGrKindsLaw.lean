/-
  drydocklaw10.GraphsKinds: the walk gkinds_walk (it returns true, and changes nothing below). Printed by gen_gkinds.py.
-/
import Derived.Test.YtgmagldbfajedaaGrKindsLawP
namespace Go.Proofs.Ytgmagldbfajedaa
open Go.RowKit

set_option maxHeartbeats 8000000 in
set_option maxRecDepth 100000 in
theorem gkinds_walk (a : Option Addr) (len cap : Nat) (g : List Gr.Node) (w : World) (HN : Nodes w a len cap g) : Calls Try.prog 9 #[.agg #[.slice a len cap]] w fun e w' => e = .returned (.bool true) ∧ Below w.heap.size w w' := by
  have LN := Lib.hid HN.length
  have hle := HN.le
  have hcl := HN.cap_le
  have hll := HN.len_le
  have K0 := Lib.hid (GSt.start HN)
  clear HN
  go_enter Try.func9, Try.ntmps9
  go_wp2_with fail
  refine (galive_any _).mono ?_
  rintro e w2 ⟨rfl, hb⟩
  have K2 := Lib.hid (K0.out.on hb)
  have c2 := K2.out.cell
  clear hb K0
  go_wp2_with fail
  refine (gsize_any _ _ _ g _ K2.out.n).mono ?_
  rintro e w3 ⟨v, rfl, ⟨hv0, hv1⟩, hb⟩
  have K3 := Lib.hid (K2.out.on hb)
  have c3 := K3.out.cell
  clear hb c2
  by_cases hbig : 20000 < v
  · have d : decide (v > 20000) = true := decide_eq_true hbig
    go_wp2_with fail
    refine (galive_any _).mono ?_
    rintro e w4 ⟨rfl, hb⟩
    have K4 := Lib.hid (K3.out.on hb)
    clear hb
    go_wp2
    go_ret
    exact ⟨rfl, K4.out.bel⟩
  · have d : decide (v > 20000) = false := decide_eq_false hbig
    go_wp2_with fail
    refine (weights_any _ _ _ g _ K3.out.n).mono ?_
    rintro e w4 ⟨aw, lw, rfl, hI, hb⟩
    have K4 := Lib.hid (K3.out.on hb)
    have c4 := K4.out.cell
    have HI4 := Lib.hid hI
    clear hb hI c3
    go_wp2_with fail
    refine (gcheck_any _ _ _ g _ K4.out.n).mono ?_
    rintro e w5 ⟨rfl, hb⟩
    have K5 := Lib.hid (K4.out.on hb)
    have c5 := K5.out.cell
    have HI5 := Lib.hid (HI4.out.below hb)
    have LW := Lib.hid HI5.out.length
    have hw1 := HI5.out.cap_le
    clear hb c4 HI4
    cases hm : (Gr.shapes g).isSome with
    | true =>
      have HM := Lib.hid hm
      clear hm
      go_wp2
      go_loopg [4, 5, 7] len (fun gg t u i wr => ∃ k : Nat, k ≤ len ∧ len - k ≤ gg ∧ i = .int .i64 k ∧ t = .int .i64 ((Gr.weights (g.take k)).length : Nat) ∧ u = .int .i64 (Gr.inputIx (g.take k)) ∧ Hid (Below w5.heap.size w5 wr))
      case atStart => exact ⟨0, Nat.zero_le _, by omega, rfl, rfl, rfl, Below.refl _ _⟩
      case round =>
        obtain ⟨k, hk, hg, rfl, rfl, rfl, HWr⟩ := hrel
        have Kr := Lib.hid (K5.out.on HWr.out)
        have cr := Kr.out.cell
        have HIr := Lib.hid (HI5.out.below HWr.out)
        have hbi := Gr.inputIx_bounds (g.take k)
        have hlk : (g.take k).length ≤ k := List.length_take_le _ _
        have hwl : (Gr.weights (g.take k)).length ≤ k := Nat.le_trans (Gr.weightsF_length _ _) hlk
        obtain ⟨hb0, hb1⟩ := hbi
        by_cases hlt : k < len
        · have hkl : k < g.length := by rw [LN.out]; exact hlt
          have HIX := Lib.hid (Gr.inputIx_snoc hkl)
          have HMI := Lib.hid (fun h => Gr.may_input (g := g) (k := k) h hkl)
          have HMN := Lib.hid (fun h => Gr.may_none (g := g) (k := k) h hkl)
          have HWA := Lib.hid (fun h => Gr.weights_at (g := g) (k := k) hkl h)
          have HWS := Lib.hid (fun h => Gr.weights_skip (g := g) (k := k) hkl h)
          obtain ⟨b, off, ai, li, ci, sa, ls, cs, rfl, _, n0, n1, n2, n3, n4, hV⟩ := Kr.out.n.get (Below.refl _ wr) hlt
          have HLI := Lib.hid hV.i.length
          clear hV
          generalize (nodeN g k).n = nn at *
          generalize (nodeN g k).pad = pp at *
          generalize (nodeN g k).inn = inn at *
          generalize (nodeN g k).kind = kd at *
          generalize Gr.inputIx (g.take k) = ix at *
          by_cases k2 : kd = 2
          · have e2 : (kd == 2) = true := by simp [k2]
            have e1 : (kd == 1) = false := by simp [k2]
            obtain ⟨ha1, ha2, ha3⟩ := HWA.out k2
            have HA3 := Lib.hid ha3
            rw [LW.out] at ha1
            obtain ⟨bw, ow, rfl, _, hcw⟩ := HIr.out.at_ (by omega)
            have hcw1 := hcw (Gr.weights (g.take k)).length ha1
            rw [ha2] at hcw1
            have HIX2 : Hid (Gr.inputIx (g.take (k + 1)) = ix) := by
              show _ = _
              rw [HIX.out, if_neg (show ¬ kd = 1 by omega)]
              split <;> omega

            have HZ : Hid (li = 0) := by
              have h8 : li = 0 ↔ (kd = 1 ∨ kd = 2) := by rw [← HLI.out]; exact HMN.out HM.out
              exact h8.2 (by omega)
            have eL : ((li : Int) == 0) = true := by have := HZ.out; simp; omega
            clear hcw ha2 ha3 k2 HWA HWS HMI HMN HIX
            generalize (Gr.weights (g.take k)).length = at0 at *
            go_wp2
            go_roundg (len - (k + 1))
            case measure => exact Nat.lt_of_lt_of_le (Nat.sub_lt_sub_left hlt (Nat.lt_succ_self k)) hg
            case rel => exact ⟨k + 1, Nat.succ_le_of_lt hlt, Nat.le_refl _, by go_num, by rw [HA3.out]; go_num, by rw [HIX2.out], HWr.out.alloc (by have := HWr.out.size; omega) _⟩
          · have e2 : (kd == 2) = false := by simp [k2]
            have HA3 := Lib.hid (HWS.out k2)
            by_cases k1 : kd = 1
            · have e1 : (kd == 1) = true := by simp [k1]
              have HZ : Hid (li = 0) := by
                have h8 : li = 0 ↔ (kd = 1 ∨ kd = 2) := by rw [← HLI.out]; exact HMN.out HM.out
                exact h8.2 (by omega)
              have eL : ((li : Int) == 0) = true := by have := HZ.out; simp; omega
              have hix := HMI.out HM.out k1
              have d5 : decide (ix ≥ 0) = false := decide_eq_false (by omega)
              have d6 : decide (ix < 0) = true := decide_eq_true (by omega)
              have HIX2 : Hid (Gr.inputIx (g.take (k + 1)) = (k : Int)) := by
                show _ = _
                rw [HIX.out, if_pos (by omega), if_pos k1]
              clear k1 k2 HWA HWS HMI HMN HIX hix
              go_wp2
              go_roundg (len - (k + 1))
              case measure => exact Nat.lt_of_lt_of_le (Nat.sub_lt_sub_left hlt (Nat.lt_succ_self k)) hg
              case rel => exact ⟨k + 1, Nat.succ_le_of_lt hlt, Nat.le_refl _, by go_num, by rw [HA3.out], by rw [HIX2.out], HWr.out.alloc (by have := HWr.out.size; omega) _⟩
            · have e1 : (kd == 1) = false := by simp [k1]
              have HIX2 : Hid (Gr.inputIx (g.take (k + 1)) = ix) := by
                show _ = _
                rw [HIX.out, if_neg k1]
                split <;> omega
              have HZ : Hid (¬ li = 0) := by
                have h8 : li = 0 ↔ (kd = 1 ∨ kd = 2) := by rw [← HLI.out]; exact HMN.out HM.out
                exact fun h => by have := h8.1 h; omega
              have eL : ((li : Int) == 0) = false := by have := HZ.out; simp; omega
              clear k1 k2 HWA HWS HMI HMN HIX
              go_wp2
              go_roundg (len - (k + 1))
              case measure => exact Nat.lt_of_lt_of_le (Nat.sub_lt_sub_left hlt (Nat.lt_succ_self k)) hg
              case rel => exact ⟨k + 1, Nat.succ_le_of_lt hlt, Nat.le_refl _, by go_num, by rw [HA3.out], by rw [HIX2.out], HWr.out.alloc (by have := HWr.out.size; omega) _⟩
        · have hts : g.take k = g := List.take_of_length_le (by rw [LN.out]; omega)
          rw [hts]
          rw [hts] at hb0 hb1
          have hat : (Gr.weights g).length = lw := LW.out
          rw [hat]
          have eI : (Gr.inputIx g == Gr.inputIx g) = true := by simp
          have d7 : decide (Gr.inputIx g ≥ 0) = true := decide_eq_true (Gr.may_has HM.out)
          clear hts hat
          go_wp2_with fail
          refine (input_any _ _ _ g _ Kr.out.n).mono ?_
          rintro e w6 ⟨rfl, hb⟩
          have K6 := Lib.hid (Kr.out.on hb)
          clear hb
          generalize Gr.inputIx g = ix at *
          go_wp2
          go_ret
          exact ⟨rfl, K6.out.bel⟩
    | false =>
      have HM := Lib.hid hm
      clear hm
      go_wp2
      go_loopg [4, 5, 7] len (fun gg t u i wr => ∃ k : Nat, k ≤ len ∧ len - k ≤ gg ∧ i = .int .i64 k ∧ t = .int .i64 ((Gr.weights (g.take k)).length : Nat) ∧ u = .int .i64 (Gr.inputIx (g.take k)) ∧ Hid (Below w5.heap.size w5 wr))
      case atStart => exact ⟨0, Nat.zero_le _, by omega, rfl, rfl, rfl, Below.refl _ _⟩
      case round =>
        obtain ⟨k, hk, hg, rfl, rfl, rfl, HWr⟩ := hrel
        have Kr := Lib.hid (K5.out.on HWr.out)
        have cr := Kr.out.cell
        have HIr := Lib.hid (HI5.out.below HWr.out)
        have hbi := Gr.inputIx_bounds (g.take k)
        have hlk : (g.take k).length ≤ k := List.length_take_le _ _
        have hwl : (Gr.weights (g.take k)).length ≤ k := Nat.le_trans (Gr.weightsF_length _ _) hlk
        obtain ⟨hb0, hb1⟩ := hbi
        by_cases hlt : k < len
        · have hkl : k < g.length := by rw [LN.out]; exact hlt
          have HIX := Lib.hid (Gr.inputIx_snoc hkl)
          have HMI := Lib.hid (fun h => Gr.may_input (g := g) (k := k) h hkl)
          have HMN := Lib.hid (fun h => Gr.may_none (g := g) (k := k) h hkl)
          have HWA := Lib.hid (fun h => Gr.weights_at (g := g) (k := k) hkl h)
          have HWS := Lib.hid (fun h => Gr.weights_skip (g := g) (k := k) hkl h)
          obtain ⟨b, off, ai, li, ci, sa, ls, cs, rfl, _, n0, n1, n2, n3, n4, hV⟩ := Kr.out.n.get (Below.refl _ wr) hlt
          have HLI := Lib.hid hV.i.length
          clear hV
          generalize (nodeN g k).n = nn at *
          generalize (nodeN g k).pad = pp at *
          generalize (nodeN g k).inn = inn at *
          generalize (nodeN g k).kind = kd at *
          generalize Gr.inputIx (g.take k) = ix at *
          by_cases k2 : kd = 2
          · have e2 : (kd == 2) = true := by simp [k2]
            have e1 : (kd == 1) = false := by simp [k2]
            obtain ⟨ha1, ha2, ha3⟩ := HWA.out k2
            have HA3 := Lib.hid ha3
            rw [LW.out] at ha1
            obtain ⟨bw, ow, rfl, _, hcw⟩ := HIr.out.at_ (by omega)
            have hcw1 := hcw (Gr.weights (g.take k)).length ha1
            rw [ha2] at hcw1
            have HIX2 : Hid (Gr.inputIx (g.take (k + 1)) = ix) := by
              show _ = _
              rw [HIX.out, if_neg (show ¬ kd = 1 by omega)]
              split <;> omega
            clear hcw ha2 ha3 k2 HWA HWS HMI HMN HIX
            generalize (Gr.weights (g.take k)).length = at0 at *
            go_wp2
            go_roundg (len - (k + 1))
            case measure => exact Nat.lt_of_lt_of_le (Nat.sub_lt_sub_left hlt (Nat.lt_succ_self k)) hg
            case rel => exact ⟨k + 1, Nat.succ_le_of_lt hlt, Nat.le_refl _, by go_num, by rw [HA3.out]; go_num, by rw [HIX2.out], HWr.out.alloc (by have := HWr.out.size; omega) _⟩
          · have e2 : (kd == 2) = false := by simp [k2]
            have HA3 := Lib.hid (HWS.out k2)
            by_cases k1 : kd = 1
            · have e1 : (kd == 1) = true := by simp [k1]
              by_cases hix : ix < 0
              · have d6 : decide (ix < 0) = true := decide_eq_true hix
                have HIX2 : Hid (Gr.inputIx (g.take (k + 1)) = (k : Int)) := by
                  show _ = _
                  rw [HIX.out, if_pos hix, if_pos k1]
                clear k1 k2 HWA HWS HMI HMN HIX hix
                go_wp2
                go_roundg (len - (k + 1))
                case measure => exact Nat.lt_of_lt_of_le (Nat.sub_lt_sub_left hlt (Nat.lt_succ_self k)) hg
                case rel => exact ⟨k + 1, Nat.succ_le_of_lt hlt, Nat.le_refl _, by go_num, by rw [HA3.out], by rw [HIX2.out], HWr.out.alloc (by have := HWr.out.size; omega) _⟩
              · have d6 : decide (ix < 0) = false := decide_eq_false hix
                have HIX2 : Hid (Gr.inputIx (g.take (k + 1)) = ix) := by
                  show _ = _
                  rw [HIX.out, if_neg hix]
                clear k1 k2 HWA HWS HMI HMN HIX hix
                go_wp2
                go_roundg (len - (k + 1))
                case measure => exact Nat.lt_of_lt_of_le (Nat.sub_lt_sub_left hlt (Nat.lt_succ_self k)) hg
                case rel => exact ⟨k + 1, Nat.succ_le_of_lt hlt, Nat.le_refl _, by go_num, by rw [HA3.out], by rw [HIX2.out], HWr.out.alloc (by have := HWr.out.size; omega) _⟩
            · have e1 : (kd == 1) = false := by simp [k1]
              have HIX2 : Hid (Gr.inputIx (g.take (k + 1)) = ix) := by
                show _ = _
                rw [HIX.out, if_neg k1]
                split <;> omega
              clear k1 k2 HWA HWS HMI HMN HIX
              go_wp2
              go_roundg (len - (k + 1))
              case measure => exact Nat.lt_of_lt_of_le (Nat.sub_lt_sub_left hlt (Nat.lt_succ_self k)) hg
              case rel => exact ⟨k + 1, Nat.succ_le_of_lt hlt, Nat.le_refl _, by go_num, by rw [HA3.out], by rw [HIX2.out], HWr.out.alloc (by have := HWr.out.size; omega) _⟩
        · have hts : g.take k = g := List.take_of_length_le (by rw [LN.out]; omega)
          rw [hts]
          rw [hts] at hb0 hb1
          have hat : (Gr.weights g).length = lw := LW.out
          rw [hat]
          have eI : (Gr.inputIx g == Gr.inputIx g) = true := by simp
          clear hts hat
          go_wp2_with fail
          refine (input_any _ _ _ g _ Kr.out.n).mono ?_
          rintro e w6 ⟨rfl, hb⟩
          have K6 := Lib.hid (Kr.out.on hb)
          clear hb
          generalize Gr.inputIx g = ix at *
          go_wp2
          go_ret
          exact ⟨rfl, K6.out.bel⟩
end Go.Proofs.Ytgmagldbfajedaa
