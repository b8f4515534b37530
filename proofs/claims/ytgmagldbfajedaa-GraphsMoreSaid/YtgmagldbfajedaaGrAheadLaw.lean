/-
  drydocklaw10.GraphsAhead: the walk gahead_walk (it returns true, and changes nothing below).
-/
import Derived.Test.YtgmagldbfajedaaGrKindsLawP
import Derived.Test.YtgmagldbfajedaaSameQ
namespace Go.Proofs.Ytgmagldbfajedaa
open Go.RowKit

theorem rem_nat {m : Int} {n : Nat} (h0 : 0 ≤ m) (hn : 0 < n) : ∃ r : Nat, Int.tmod m (n : Int) = (r : Int) ∧ r < n := by
  refine ⟨(m % (n : Int)).toNat, ?_, ?_⟩
  · rw [Int.tmod_eq_emod_of_nonneg h0]
    have := Int.emod_nonneg m (show (n : Int) ≠ 0 by omega)
    omega
  · have := Int.emod_lt_of_pos m (show (0 : Int) < (n : Int) by omega)
    have := Int.emod_nonneg m (show (n : Int) ≠ 0 by omega)
    omega

theorem rowL_take (L : List (List Int)) (k i : Nat) (h : i < k) : rowL (L.take k) i = rowL L i := by
  unfold rowL; simp only [List.getD_eq_getElem?_getD, List.getElem?_take, h, if_true]

set_option maxHeartbeats 8000000 in
set_option maxRecDepth 100000 in
theorem gahead_walk (a : Option Addr) (len cap : Nat) (g : List Gr.Node) (many : Int) (w : World) (HN : Nodes w a len cap g) (hm0 : 0 ≤ many) (hm1 : many ≤ 255) :
    Calls Try.prog 7 #[.agg #[.slice a len cap], .int .u8 many] w fun e w' => e = .returned (.bool true) ∧ Below w.heap.size w w' := by
  have LN := Lib.hid HN.length
  have hle := HN.le
  have hcl := HN.cap_le
  have hll := HN.len_le
  have K0 := Lib.hid (GSt.start HN)
  clear HN
  go_enter Try.func7, Try.ntmps7
  go_wp2_with fail
  refine (galive_any _).mono ?_
  rintro e w2 ⟨rfl, hb⟩
  have K2 := Lib.hid (K0.out.on hb)
  have c2 := K2.out.cell
  clear hb K0
  go_wp2_with fail
  refine (gsize_any _ _ _ g _ K2.out.n).mono ?_
  rintro e w3 ⟨v, rfl, ⟨hv0, hv1⟩, hb⟩
  have K3 := Lib.hid (K2.out.on hb)
  have c3 := K3.out.cell
  clear hb c2
  by_cases hbig : 20000 < v
  · have d : decide (v > 20000) = true := decide_eq_true hbig
    go_wp2_with fail
    refine (galive_any _).mono ?_
    rintro e w4 ⟨rfl, hb⟩
    have K4 := Lib.hid (K3.out.on hb)
    clear hb
    go_wp2
    go_ret
    exact ⟨rfl, K4.out.bel⟩
  · have d : decide (v > 20000) = false := decide_eq_false hbig
    go_wp2_with fail
    refine (gshapes_any _ _ _ g _ K3.out.n).mono ?_
    rintro e w4 ⟨hb, ⟨hs, rfl⟩ | ⟨s, as4, ls4, hs, rfl, hG⟩⟩
    · have K4 := Lib.hid (K3.out.on hb)
      have c4 := K4.out.cell
      have HS := Lib.hid hs
      clear hb hs c3
      go_wp2_with fail
      refine (gcheck_any _ _ _ g _ K4.out.n).mono ?_
      rintro e w5 ⟨rfl, hb⟩
      have K5 := Lib.hid (K4.out.on hb)
      rw [HS.out]
      clear hb
      go_wp2
      go_ret
      exact ⟨rfl, K5.out.bel⟩
    · have K4 := Lib.hid (K3.out.on hb)
      have c4 := K4.out.cell
      have HS := Lib.hid hs
      have KG := Lib.hid hG
      obtain ⟨⟨hl1, hl2⟩, _, hin, _⟩ := Gr.shapes_iff.1 hs
      rw [LN.out] at hl1 hl2
      have hsl : ls4 = len := by rw [← hG.length, Gr.shapes_len hs, LN.out]
      subst hsl
      have hIX : Gr.inputIx g = (Gr.inputN g : Int) := by
        have := Gr.inputN_lt g (by omega)
        unfold Gr.inputIx; rw [if_pos this]
      have hIN : Gr.inputN g < ls4 := by have := Gr.inputN_lt g (by omega); rw [LN.out] at this; exact this
      obtain ⟨r, hr, hrl⟩ := rem_nat (n := ls4) hm0 (by omega)
      have hz : ((ls4 : Int) == 0) = false := by simp; omega
      have HIX := Lib.hid hIX
      have HTK := Lib.hid (Gr.shapes_take hs (n := r + 1) (by omega) (by rw [LN.out]; omega))
      have HCH := Lib.hid (fun i hi => Gr.shapes_chk hs i hi)
      have HSL := Lib.hid (Gr.shapes_len hs)
      clear hb hs c3 hG hin hIX
      obtain ⟨b, off, ai, li, ci, sa, ls, cs, rfl, _, n0, n1, n2, n3, n4, _⟩ := K4.out.n.get (Below.refl _ w4) hrl
      clear n1 n2 n3 n4
      have e1 : ((1 : Int) + (r : Int)).toNat = r + 1 := by omega
      rw [show (r + 1 : Nat) - 1 = r by omega] at HTK
      generalize (nodeN g r).kind = kd at *
      have c5 : ∀ o, (w4.alloc o).cell? ⟨w.heap.size, 0, none⟩ = some (.slice (some ⟨b, off, none⟩) ls4 cap) := fun o => Lib.cell?_alloc_some _ c4
      have n5 : ∀ o, (w4.alloc o).cell? ⟨b, off + r * 5, none⟩ = some (.int .u8 kd) := fun o => Lib.cell?_alloc_some _ n0
      have HF : Hid (∀ o, (w4.alloc o).heap.size = w4.heap.size + 1) := fun o => by simp
      go_wp2_with fail
      refine (input_any _ _ _ g _ (K4.out.alloc _).n).mono ?_
      rintro e w5 ⟨rfl, hb⟩
      have K5 := Lib.hid ((K4.out.alloc _).on hb)
      have f5 := (hb.cell (p := ⟨w4.heap.size, 0, none⟩) (by simp)).trans (World.cell?_alloc_at _ _ _ _ rfl)
      have hz5 : w4.heap.size < w5.heap.size := by have := hb.size; simp at this; omega
      have KG5 := Lib.hid (KG.out.below (((Below.refl _ _).alloc (Nat.le_refl _) _).trans (hb.mono (by simp))))
      rw [HIX.out]
      clear hb c4 c5 n0 n5
      by_cases C : Gr.inputN g < r + 1 ∧ kd ≠ 1 ∧ kd ≠ 2
      · obtain ⟨q1, q2, q3⟩ := C
        have HTK2 := Lib.hid (HTK.trans (if_pos ⟨q1, q2, q3⟩))
        have d1 : decide ((Gr.inputN g : Int) < 1 + (r : Int)) = true := decide_eq_true (by omega)
        have d2 : (kd != 1) = true := by simp [q2]
        have d3 : (kd != 2) = true := by simp [q3]
        clear q1 q2 q3 HTK
        go_wp2_with fail
        refine (gshapes_any _ _ _ (g.take (r + 1)) _ (K5.out.n.take (r + 1) (by omega))).mono ?_
        rintro e w6 ⟨hb, ⟨hs, rfl⟩ | ⟨t, at6, lt6, hs, rfl, hG⟩⟩
        · rw [HTK2.out] at hs; cases hs
        · rw [HTK2.out] at hs
          cases hs
          have K6 := Lib.hid (K5.out.on hb)
          have c6 := K6.out.cell
          have KT := Lib.hid hG
          have KG6 := Lib.hid (KG5.out.below hb)
          have hlt6 : lt6 = r + 1 := by rw [← hG.length, List.length_take, HSL.out, LN.out]; omega
          subst hlt6
          have e2 : (((r + 1 : Nat) : Int) != 1 + (r : Int)) = false := by simp; omega
          have e3 : ((ls4 : Int) != (ls4 : Int)) = false := by simp
          clear hb hG f5
          go_wp2
          go_loopg [13] (r + 1) (fun gg i wr => ∃ k : Nat, k ≤ r + 1 ∧ r + 1 - k ≤ gg ∧ i = .int .i64 k ∧ Hid (Below w6.heap.size w6 wr))
          case atStart => exact ⟨0, Nat.zero_le _, by omega, rfl, Below.refl _ _⟩
          case round =>
            obtain ⟨k, hk, hg, rfl, HWr⟩ := hrel
            by_cases hlt : k < r + 1
            · have hlti : (k : Int) < 1 + (r : Int) := by omega
              obtain ⟨bT, oT, rfl, hbT, hcT⟩ := (KT.out.below HWr.out).at_ (by omega)
              obtain ⟨bS, oS, rfl, hbS, hcS⟩ := (KG6.out.below HWr.out).at_ (by omega)
              obtain ⟨ax, lx, cx, hx, hIx⟩ := hcT k hlt
              obtain ⟨ay, ly, cy, hy, hIy⟩ := hcS k (by omega)
              rw [rowL_take s (r + 1) k hlt] at hIx
              have HX := Lib.hid hIx
              have HY := Lib.hid hIy
              have hck := HCH.out k (by rw [HSL.out, LN.out]; omega)
              have HE1 : Hid (∀ q, Calls Try.prog 30 #[.slice ax lx cx, .slice ay ly cy] (wr.drewN q) fun e w' => e = .returned (.bool true) ∧ ∃ m, w' = wr.drewN m) := fun q => (same_quiet _ _ _ _ _ _ _ _ _ (HX.out.drewN q) (HY.out.drewN q)).mono fun e w' ⟨he, m, hw⟩ => ⟨by rw [he, sameB_self], q + m, by rw [hw]; simp⟩
              have HE2 : Hid (∀ q, Calls Try.prog 36 #[.slice ax lx cx] (wr.drewN q) fun e w' => e = .returned (.bool true) ∧ w' = wr.drewN q) := fun q => (check_any _ _ _ _ _ (HX.out.drewN q)).mono fun e w' ⟨he, hw⟩ => ⟨by rw [he, hck], hw.symm⟩
              clear hcT hcS hIx hIy hck
              go_wp2_with fail
              go_quiet ((first | (go_at_call 30; with_reducible exact HE1.out _) | (go_at_call 36; with_reducible exact Calls.quiet_of_same (HE2.out _))))
              have HW9 := Lib.hid (HWr.out.trans (below_drewN wr nq _))
              go_wp2
              go_roundg (r + 1 - (k + 1))
              case measure => exact Nat.lt_of_lt_of_le (Nat.sub_lt_sub_left hlt (Nat.lt_succ_self k)) hg
              case rel => exact ⟨k + 1, Nat.succ_le_of_lt hlt, Nat.le_refl _, by go_num, HW9⟩
            · have hlti : ¬ (k : Int) < 1 + (r : Int) := by omega
              go_wp2
              go_ret
              exact ⟨rfl, (K6.out.on HWr.out).bel⟩
      · have HTK2 := Lib.hid (HTK.trans (if_neg C))
        clear HTK
        by_cases q1 : Gr.inputN g < r + 1
        · have d1 : decide ((Gr.inputN g : Int) < 1 + (r : Int)) = true := decide_eq_true (by omega)
          by_cases q2 : kd = 1
          · have d2 : (kd != 1) = false := by simp [q2]
            clear C q1 q2
            go_wp2_with fail
            refine (gshapes_any _ _ _ (g.take (r + 1)) _ (K5.out.n.take (r + 1) (by omega))).mono ?_
            rintro e w6 ⟨hb, ⟨hs, rfl⟩ | ⟨t, at6, lt6, hs, rfl, hG⟩⟩
            · have K6 := Lib.hid (K5.out.on hb)
              clear hb f5
              go_wp2
              go_ret
              exact ⟨rfl, K6.out.bel⟩
            · rw [HTK2.out] at hs; cases hs
          · have d2 : (kd != 1) = true := by simp [q2]
            have q3 : kd = 2 := by
              apply Classical.byContradiction
              intro h
              exact C ⟨q1, q2, h⟩
            have d3 : (kd != 2) = false := by simp [q3]
            clear C q1 q2 q3
            go_wp2_with fail
            refine (gshapes_any _ _ _ (g.take (r + 1)) _ (K5.out.n.take (r + 1) (by omega))).mono ?_
            rintro e w6 ⟨hb, ⟨hs, rfl⟩ | ⟨t, at6, lt6, hs, rfl, hG⟩⟩
            · have K6 := Lib.hid (K5.out.on hb)
              clear hb f5
              go_wp2
              go_ret
              exact ⟨rfl, K6.out.bel⟩
            · rw [HTK2.out] at hs; cases hs
        · have d1 : decide ((Gr.inputN g : Int) < 1 + (r : Int)) = false := decide_eq_false (by omega)
          clear C q1
          go_wp2_with fail
          refine (gshapes_any _ _ _ (g.take (r + 1)) _ (K5.out.n.take (r + 1) (by omega))).mono ?_
          rintro e w6 ⟨hb, ⟨hs, rfl⟩ | ⟨t, at6, lt6, hs, rfl, hG⟩⟩
          · have K6 := Lib.hid (K5.out.on hb)
            clear hb f5
            go_wp2
            go_ret
            exact ⟨rfl, K6.out.bel⟩
          · rw [HTK2.out] at hs; cases hs
end Go.Proofs.Ytgmagldbfajedaa
