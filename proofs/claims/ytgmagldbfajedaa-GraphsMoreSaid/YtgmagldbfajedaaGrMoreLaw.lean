/-
  drydocklaw10.GraphsMore: the walk gmore_walk (it returns true, and changes nothing below).
-/
import Derived.Test.YtgmagldbfajedaaGrMoreP
namespace Go.Proofs.Ytgmagldbfajedaa
open Go.RowKit

set_option maxHeartbeats 4000000 in
set_option maxRecDepth 100000 in
theorem gmore_walk (a : Option Addr) (len cap : Nat) (g : List Gr.Node) (which by_ : Int) (w : World) (HN : Nodes w a len cap g) (hm0 : 0 ≤ which) (hm1 : which ≤ 255) (hb0 : -9223372036854775808 ≤ by_) (hb1 : by_ ≤ 9223372036854775807) :
    Calls Try.prog 8 #[.agg #[.slice a len cap], .int .u8 which, .int .i64 by_] w fun e w' => e = .returned (.bool true) ∧ Below w.heap.size w w' := by
  have LN := Lib.hid HN.length
  have hle := HN.le
  have hcl := HN.cap_le
  have hll := HN.len_le
  have K0 := Lib.hid (GSt.start HN)
  clear HN
  go_enter Try.func8, Try.ntmps8
  go_wp2_with fail
  refine (galive_any _).mono ?_
  rintro e w2 ⟨rfl, hb⟩
  have K2 := Lib.hid (K0.out.on hb)
  have c2 := K2.out.cell
  clear hb K0
  go_wp2_with fail
  refine (gsize_any _ _ _ g _ K2.out.n).mono ?_
  rintro e w3 ⟨v, rfl, ⟨hv0, hv1⟩, hb⟩
  have K3 := Lib.hid (K2.out.on hb)
  have c3 := K3.out.cell
  clear hb c2
  by_cases hbig : 20000 < v
  · have d : decide (v > 20000) = true := decide_eq_true hbig
    go_wp2_with fail
    refine (galive_any _).mono ?_
    rintro e w4 ⟨rfl, hb⟩
    have K4 := Lib.hid (K3.out.on hb)
    clear hb
    go_wp2
    go_ret
    exact ⟨rfl, K4.out.bel⟩
  · have d : decide (v > 20000) = false := decide_eq_false hbig
    go_wp2_with fail
    refine (gcheck_any _ _ _ g _ K3.out.n).mono ?_
    rintro e w4 ⟨rfl, hb⟩
    have K4 := Lib.hid (K3.out.on hb)
    have c4 := K4.out.cell
    clear hb c3
    cases hs : Gr.shapes g with
    | none =>
      clear hs
      simp only [Option.isSome_none]
      go_wp2_with fail
      refine (galive_any _).mono ?_
      rintro e w5 ⟨rfl, hb⟩
      have K5 := Lib.hid (K4.out.on hb)
      clear hb
      go_wp2
      go_ret
      exact ⟨rfl, K5.out.bel⟩
    | some s =>
      obtain ⟨⟨hl1, hl2⟩, _⟩ := Gr.shapes_iff.1 hs
      rw [LN.out] at hl1 hl2
      have HS := Lib.hid hs
      have HSL := Lib.hid (Gr.shapes_len hs)
      obtain ⟨r, hr, hrl⟩ := rem_nat (n := len) hm0 (by omega)
      have hz : ((len : Int) == 0) = false := by simp; omega
      have H1 := Lib.hid (Gr.more_relu hs r (by rw [LN.out]; exact hrl))
      have H2 := Lib.hid (Gr.more_shift hs r (by rw [LN.out]; exact hrl) by_)
      have H3 := Lib.hid (Gr.more_bad hs [(len : Int)] 0 (fun k e => by cases e; rw [HSL.out, LN.out]; omega))
      have H4 := Lib.hid (Gr.more_bad hs [-1] 0 (fun k e => by cases e; omega))
      have H5 := Lib.hid (Gr.more_bad hs [(r : Int)] 1 (fun k e => by omega))
      have H6 := Lib.hid (Gr.more_bad hs [(r : Int), (r : Int)] 0 (fun k e => by cases e))
      have H7 : Hid (Gr.shapes (g ++ [⟨1, [], [1], 0, 0⟩]) = none) := Gr.shapes_snoc_end (.inl rfl)
      clear hs
      simp only [Option.isSome_some]
      go_wp2_with fail
      refine (with_any _ _ _ g _ _ _ _ _ _ _ _ _ [(r : Int)] [] _ (K4.out.alloc _).n (nodeV_lit (ints_k w4 _ (by omega)) Ints.nil (by simp) (by omega) (by omega) (by omega) (by omega)) hl1 (by omega)).mono ?_
      rintro e w5 ⟨a5, l5, q5, rfl, hN5, hb⟩
      have K5 := Lib.hid ((K4.out.alloc _).on hb)
      have HN5 := Lib.hid hN5
      clear hb hN5 c4
      have c5 : ∀ o, (w5.alloc o).cell? ⟨w.heap.size, 0, none⟩ = some (.slice a len cap) := fun o => Lib.cell?_alloc_some _ K5.out.cell
      go_wp2_with fail
      refine (with_any _ _ _ g _ _ _ _ _ _ _ _ _ [(r : Int)] [] _ ((K5.out.alloc _).alloc _).n (nodeV_lit2 (ints_kb (w5.alloc (.cells #[.slice a5 l5 q5] 38)) (w5.heap.size + 1) (by simp) _ (by omega)) Ints.nil (by simp) (by omega) (by omega) (by omega) (by omega)) hl1 (by omega)).mono ?_
      rintro e w6 ⟨a6, l6, q6, rfl, hN6, hb⟩
      have K6 := Lib.hid (((K5.out.alloc _).alloc _).on hb)
      have HN6 := Lib.hid hN6
      have HNr := Lib.hid ((NodesIn.on HN5.out (((Below.refl _ _).alloc (Nat.le_refl _) (.cells #[.slice a5 l5 q5] 38)).alloc (by simp) (.cells #[.int .i64 r] 3))).on hb)
      have f6 : w6.cell? ⟨w5.heap.size, 0, none⟩ = some (.slice a5 l5 q5) := (hb.cell (p := ⟨w5.heap.size, 0, none⟩) (by simp; omega)).trans (Lib.cell?_alloc_some _ (by rw [World.cell?_alloc_at _ _ _ _ rfl]; rfl))
      have hz6 : w5.heap.size < w6.heap.size := by have := hb.size; simp at this; omega
      clear hb hN6 c5
      have c6 : ∀ o, (w6.alloc o).cell? ⟨w.heap.size, 0, none⟩ = some (.slice a len cap) := fun o => Lib.cell?_alloc_some _ K6.out.cell
      have F6 := Lib.hid f6
      clear f6
      go_wp2_with fail
      refine (gshapes_any _ _ _ g _ (K6.out.alloc _).n).mono ?_
      rintro e w7 ⟨hb, ⟨hs, rfl⟩ | ⟨s7, a7, l7, hs, rfl, hG⟩⟩
      · rw [HS.out] at hs; cases hs
      rw [HS.out] at hs
      cases hs
      have hl7 : l7 = len := by rw [← hG.length, HSL.out, LN.out]
      subst hl7
      have KG := Lib.hid hG
      have HX : Hid (∀ W, Below w7.heap.size w7 W → GSt w a l7 cap g W ∧ W.cell? ⟨w5.heap.size, 0, none⟩ = some (.slice a5 l5 q5) ∧ W.cell? ⟨w6.heap.size, 0, none⟩ = some (.slice a6 l6 q6) ∧
          Nodes W a5 l5 q5 (g ++ [⟨5, [(r : Int)], [], 0, 0⟩]) ∧ Nodes W a6 l6 q6 (g ++ [⟨6, [(r : Int)], [], by_, 0⟩]) ∧ Grid W a7 l7 l7 s) := fun W hW => by
        have hbW : Below (w6.alloc (.cells #[.slice a6 l6 q6] 38)).heap.size (w6.alloc (.cells #[.slice a6 l6 q6] 38)) W := hb.trans (hW.mono hb.size)
        have hb6 : Below w6.heap.size w6 W := ((Below.refl _ _).alloc (Nat.le_refl _) (.cells #[.slice a6 l6 q6] 38)).trans (hbW.mono (by simp))
        exact ⟨(K6.out.alloc _).on hbW, (hb6.cell (p := ⟨w5.heap.size, 0, none⟩) hz6).trans F6.out, (hbW.cell (p := ⟨w6.heap.size, 0, none⟩) (by simp)).trans (by rw [World.cell?_alloc_at _ _ _ _ rfl]; rfl), HNr.out.on hb6, HN6.out.on hb6, KG.out.below hW⟩
      clear hb hG c6
      obtain ⟨K7', f7, h7, hr7, _, _⟩ := HX.out w7 (Below.refl _ _)
      have c7 := K7'.cell
      clear K7'
      have HR7 := Lib.hid hr7
      clear hr7
      by_cases c32 : l7 < 32
      · have H1' := Lib.hid (H1.out.trans (if_pos (by rw [LN.out]; exact c32)))
        have d32 : decide ((l7 : Int) < 32) = true := decide_eq_true (by omega)
        go_wp2_with fail
        refine (gshapes_any _ _ _ _ _ HR7.out).mono ?_
        rintro e w8 ⟨hb, ⟨hs, rfl⟩ | ⟨s8, a8, l8, hs, rfl, hG⟩⟩
        · rw [H1'.out] at hs; cases hs
        rw [H1'.out] at hs
        cases hs
        have hl8 : l8 = l7 + 1 := by rw [← hG.length, List.length_append, HSL.out, LN.out]; rfl
        subst hl8
        have KT := Lib.hid hG
        have HB8 := Lib.hid hb
        obtain ⟨K8', f8, h8, _, hs8, _⟩ := HX.out w8 hb
        have c8 := K8'.cell
        clear K8'
        have HS8 := Lib.hid hs8
        clear hb hG hs8 c7 f7 h7
        have hsh : ∃ bb cc : Bool, decide (by_ ≥ 0) = bb ∧ (bb = true → decide (by_ ≤ 31) = cc) ∧ (Gr.shapes (g ++ [⟨6, [(r : Int)], [], by_, 0⟩])).isSome = (bb && cc) ∧ (bb = false → cc = false) := by
          have h2 := H2.out
          rw [LN.out, decide_eq_true c32, Bool.true_and] at h2
          by_cases q0 : 0 ≤ by_
          · exact ⟨true, decide (by_ ≤ 31), decide_eq_true q0, fun _ => rfl, by rw [h2, decide_eq_true q0], fun h => by cases h⟩
          · exact ⟨false, false, decide_eq_false q0, (fun h => by cases h), by rw [h2, decide_eq_false q0]; rfl, fun _ => rfl⟩
        obtain ⟨bb, cc, dB, dC, hS, hbc⟩ := hsh
        have HSS := Lib.hid hS
        clear hS
        cases bb with
        | false =>
          obtain rfl := hbc rfl
          clear dC hbc
          go_wp2_with fail
          refine (gcheck_any _ _ _ _ _ HS8.out).mono ?_
          rintro e w9 ⟨rfl, hb⟩
          rw [HSS.out]
          have HB9 := Lib.hid (HB8.out.trans (hb.mono HB8.out.size))
          have K9 := Lib.hid (HX.out w9 HB9.out).1
          have c9 := K9.out.cell
          obtain ⟨bS, oS, ay, ly, cy, rfl, _, hy, hIy⟩ := (HX.out w9 HB9.out).2.2.2.2.2.get (n := (r : Int)) (by omega) (by omega)
          obtain ⟨bT, oT, ax, lx, cx, rfl, _, hx, hIx⟩ := (KT.out.below hb).get (n := (l7 : Int)) (by omega) (by omega)
          have hrw : Gr.rowAt (s ++ [rowL s r]) (l7 : Int) = rowL s r := by
            rw [Gr.rowAt_nat]
            have := rowL_snoc_last s (rowL s r)
            rwa [HSL.out, LN.out] at this
          rw [hrw] at hIx
          rw [Gr.rowAt_nat] at hIy
          have hx2 : w9.cell? ⟨bT, oT + l7, none⟩ = some (.slice ax lx cx) := hx
          have hy2 : w9.cell? ⟨bS, oS + r, none⟩ = some (.slice ay ly cy) := hy
          have HIx := Lib.hid hIx
          have HIy := Lib.hid hIy
          have HE1 : Hid (∀ q, Calls Try.prog 30 #[.slice ax lx cx, .slice ay ly cy] (w9.drewN q) fun e w' => e = .returned (.bool true) ∧ ∃ m, w' = w9.drewN m) := fun q => (same_quiet _ _ _ _ _ _ _ _ _ (HIx.out.drewN q) (HIy.out.drewN q)).mono fun e w' ⟨he, m, hw⟩ => ⟨by rw [he, sameB_self], q + m, by rw [hw]; simp⟩
          have e2 : (((l7 + 1 : Nat) : Int) != (l7 : Int) + 1) = false := by simp
          clear hb c8 f8 h8 hx hy hIx hIy hrw
          go_wp2_with fail
          go_quiet ((go_at_call 30; with_reducible exact HE1.out _))
          have K10 := Lib.hid (K9.out.on (below_drewN w9 nq _))
          have c10 := K10.out.cell
          clear c9 hx2 hy2
          generalize w9.drewN nq = w10 at *

          go_wp2_with fail
          refine (with_any _ _ _ g _ _ _ _ _ _ _ _ _ [(l7 : Int)] [] _ (K10.out.alloc _).n (nodeV_lit (ints_kb w10 _ rfl _ (by omega)) Ints.nil (by simp) (by simp) (by omega) (by omega) (by omega)) hl1 (by omega)).mono ?_
          rintro e x1 ⟨ax1, lx1, qx1, rfl, hNx, hb⟩
          have KX1 := Lib.hid ((K10.out.alloc _).on hb)
          have HX1 := Lib.hid hNx
          clear hb hNx
          go_wp2_with fail
          refine (gcheck_any _ _ _ _ _ HX1.out).mono ?_
          rintro e y1 ⟨rfl, hb⟩
          rw [H3.out]
          have KY1 := Lib.hid (KX1.out.on hb)
          have cy1 := KY1.out.cell
          clear hb

          go_wp2_with fail
          refine (with_any _ _ _ g _ _ _ _ _ _ _ _ _ [-1] [] _ (KY1.out.alloc _).n (nodeV_lit (ints_kb y1 _ rfl _ (by omega)) Ints.nil (by simp) (by simp) (by omega) (by omega) (by omega)) hl1 (by omega)).mono ?_
          rintro e x2 ⟨ax2, lx2, qx2, rfl, hNx, hb⟩
          have KX2 := Lib.hid ((KY1.out.alloc _).on hb)
          have HX2 := Lib.hid hNx
          clear hb hNx
          go_wp2_with fail
          refine (gcheck_any _ _ _ _ _ HX2.out).mono ?_
          rintro e y2 ⟨rfl, hb⟩
          rw [H4.out]
          have KY2 := Lib.hid (KX2.out.on hb)
          have cy2 := KY2.out.cell
          clear hb

          go_wp2_with fail
          refine (with_any _ _ _ g _ _ _ _ _ _ _ _ _ [(r : Int)] [] _ (KY2.out.alloc _).n (nodeV_lit (ints_kb y2 _ rfl _ (by omega)) Ints.nil (by simp) (by simp) (by omega) (by omega) (by omega)) hl1 (by omega)).mono ?_
          rintro e x3 ⟨ax3, lx3, qx3, rfl, hNx, hb⟩
          have KX3 := Lib.hid ((KY2.out.alloc _).on hb)
          have HX3 := Lib.hid hNx
          clear hb hNx
          go_wp2_with fail
          refine (gcheck_any _ _ _ _ _ HX3.out).mono ?_
          rintro e y3 ⟨rfl, hb⟩
          rw [H5.out]
          have KY3 := Lib.hid (KX3.out.on hb)
          have cy3 := KY3.out.cell
          clear hb

          go_wp2_with fail
          refine (with_any _ _ _ g _ _ _ _ _ _ _ _ _ [(r : Int), (r : Int)] [] _ (KY3.out.alloc _).n (nodeV_lit (ints_kk y3 _ _ (by omega) (by omega)) Ints.nil (by simp) (by simp) (by omega) (by omega) (by omega)) hl1 (by omega)).mono ?_
          rintro e x4 ⟨ax4, lx4, qx4, rfl, hNx, hb⟩
          have KX4 := Lib.hid ((KY3.out.alloc _).on hb)
          have HX4 := Lib.hid hNx
          clear hb hNx
          go_wp2_with fail
          refine (gcheck_any _ _ _ _ _ HX4.out).mono ?_
          rintro e y4 ⟨rfl, hb⟩
          rw [H6.out]
          have KY4 := Lib.hid (KX4.out.on hb)
          have cy4 := KY4.out.cell
          clear hb

          go_wp2_with fail
          refine (with_any _ _ _ g _ _ _ _ _ _ _ _ _ [] [1] _ (KY4.out.alloc _).n (nodeV_lit Ints.nil (ints_kb y4 _ rfl _ (by omega)) (by simp) (by simp) (by omega) (by omega) (by omega)) hl1 (by omega)).mono ?_
          rintro e x5 ⟨ax5, lx5, qx5, rfl, hNx, hb⟩
          have KX5 := Lib.hid ((KY4.out.alloc _).on hb)
          have HX5 := Lib.hid hNx
          clear hb hNx
          go_wp2_with fail
          refine (gcheck_any _ _ _ _ _ HX5.out).mono ?_
          rintro e y5 ⟨rfl, hb⟩
          rw [H7.out]
          have KY5 := Lib.hid (KX5.out.on hb)
          have cy5 := KY5.out.cell
          clear hb

          go_wp2
          go_ret
          exact ⟨rfl, KY5.out.bel⟩
        | true =>
          have dC := dC rfl
          clear hbc
          cases cc with
          | false =>
            go_wp2_with fail
            refine (gcheck_any _ _ _ _ _ HS8.out).mono ?_
            rintro e w9 ⟨rfl, hb⟩
            rw [HSS.out]
            have HB9 := Lib.hid (HB8.out.trans (hb.mono HB8.out.size))
            have K9 := Lib.hid (HX.out w9 HB9.out).1
            have c9 := K9.out.cell
            obtain ⟨bS, oS, ay, ly, cy, rfl, _, hy, hIy⟩ := (HX.out w9 HB9.out).2.2.2.2.2.get (n := (r : Int)) (by omega) (by omega)
            obtain ⟨bT, oT, ax, lx, cx, rfl, _, hx, hIx⟩ := (KT.out.below hb).get (n := (l7 : Int)) (by omega) (by omega)
            have hrw : Gr.rowAt (s ++ [rowL s r]) (l7 : Int) = rowL s r := by
              rw [Gr.rowAt_nat]
              have := rowL_snoc_last s (rowL s r)
              rwa [HSL.out, LN.out] at this
            rw [hrw] at hIx
            rw [Gr.rowAt_nat] at hIy
            have hx2 : w9.cell? ⟨bT, oT + l7, none⟩ = some (.slice ax lx cx) := hx
            have hy2 : w9.cell? ⟨bS, oS + r, none⟩ = some (.slice ay ly cy) := hy
            have HIx := Lib.hid hIx
            have HIy := Lib.hid hIy
            have HE1 : Hid (∀ q, Calls Try.prog 30 #[.slice ax lx cx, .slice ay ly cy] (w9.drewN q) fun e w' => e = .returned (.bool true) ∧ ∃ m, w' = w9.drewN m) := fun q => (same_quiet _ _ _ _ _ _ _ _ _ (HIx.out.drewN q) (HIy.out.drewN q)).mono fun e w' ⟨he, m, hw⟩ => ⟨by rw [he, sameB_self], q + m, by rw [hw]; simp⟩
            have e2 : (((l7 + 1 : Nat) : Int) != (l7 : Int) + 1) = false := by simp
            clear hb c8 f8 h8 hx hy hIx hIy hrw
            go_wp2_with fail
            go_quiet ((go_at_call 30; with_reducible exact HE1.out _))
            have K10 := Lib.hid (K9.out.on (below_drewN w9 nq _))
            have c10 := K10.out.cell
            clear c9 hx2 hy2
            generalize w9.drewN nq = w10 at *

            go_wp2_with fail
            refine (with_any _ _ _ g _ _ _ _ _ _ _ _ _ [(l7 : Int)] [] _ (K10.out.alloc _).n (nodeV_lit (ints_kb w10 _ rfl _ (by omega)) Ints.nil (by simp) (by simp) (by omega) (by omega) (by omega)) hl1 (by omega)).mono ?_
            rintro e x1 ⟨ax1, lx1, qx1, rfl, hNx, hb⟩
            have KX1 := Lib.hid ((K10.out.alloc _).on hb)
            have HX1 := Lib.hid hNx
            clear hb hNx
            go_wp2_with fail
            refine (gcheck_any _ _ _ _ _ HX1.out).mono ?_
            rintro e y1 ⟨rfl, hb⟩
            rw [H3.out]
            have KY1 := Lib.hid (KX1.out.on hb)
            have cy1 := KY1.out.cell
            clear hb

            go_wp2_with fail
            refine (with_any _ _ _ g _ _ _ _ _ _ _ _ _ [-1] [] _ (KY1.out.alloc _).n (nodeV_lit (ints_kb y1 _ rfl _ (by omega)) Ints.nil (by simp) (by simp) (by omega) (by omega) (by omega)) hl1 (by omega)).mono ?_
            rintro e x2 ⟨ax2, lx2, qx2, rfl, hNx, hb⟩
            have KX2 := Lib.hid ((KY1.out.alloc _).on hb)
            have HX2 := Lib.hid hNx
            clear hb hNx
            go_wp2_with fail
            refine (gcheck_any _ _ _ _ _ HX2.out).mono ?_
            rintro e y2 ⟨rfl, hb⟩
            rw [H4.out]
            have KY2 := Lib.hid (KX2.out.on hb)
            have cy2 := KY2.out.cell
            clear hb

            go_wp2_with fail
            refine (with_any _ _ _ g _ _ _ _ _ _ _ _ _ [(r : Int)] [] _ (KY2.out.alloc _).n (nodeV_lit (ints_kb y2 _ rfl _ (by omega)) Ints.nil (by simp) (by simp) (by omega) (by omega) (by omega)) hl1 (by omega)).mono ?_
            rintro e x3 ⟨ax3, lx3, qx3, rfl, hNx, hb⟩
            have KX3 := Lib.hid ((KY2.out.alloc _).on hb)
            have HX3 := Lib.hid hNx
            clear hb hNx
            go_wp2_with fail
            refine (gcheck_any _ _ _ _ _ HX3.out).mono ?_
            rintro e y3 ⟨rfl, hb⟩
            rw [H5.out]
            have KY3 := Lib.hid (KX3.out.on hb)
            have cy3 := KY3.out.cell
            clear hb

            go_wp2_with fail
            refine (with_any _ _ _ g _ _ _ _ _ _ _ _ _ [(r : Int), (r : Int)] [] _ (KY3.out.alloc _).n (nodeV_lit (ints_kk y3 _ _ (by omega) (by omega)) Ints.nil (by simp) (by simp) (by omega) (by omega) (by omega)) hl1 (by omega)).mono ?_
            rintro e x4 ⟨ax4, lx4, qx4, rfl, hNx, hb⟩
            have KX4 := Lib.hid ((KY3.out.alloc _).on hb)
            have HX4 := Lib.hid hNx
            clear hb hNx
            go_wp2_with fail
            refine (gcheck_any _ _ _ _ _ HX4.out).mono ?_
            rintro e y4 ⟨rfl, hb⟩
            rw [H6.out]
            have KY4 := Lib.hid (KX4.out.on hb)
            have cy4 := KY4.out.cell
            clear hb

            go_wp2_with fail
            refine (with_any _ _ _ g _ _ _ _ _ _ _ _ _ [] [1] _ (KY4.out.alloc _).n (nodeV_lit Ints.nil (ints_kb y4 _ rfl _ (by omega)) (by simp) (by simp) (by omega) (by omega) (by omega)) hl1 (by omega)).mono ?_
            rintro e x5 ⟨ax5, lx5, qx5, rfl, hNx, hb⟩
            have KX5 := Lib.hid ((KY4.out.alloc _).on hb)
            have HX5 := Lib.hid hNx
            clear hb hNx
            go_wp2_with fail
            refine (gcheck_any _ _ _ _ _ HX5.out).mono ?_
            rintro e y5 ⟨rfl, hb⟩
            rw [H7.out]
            have KY5 := Lib.hid (KX5.out.on hb)
            have cy5 := KY5.out.cell
            clear hb

            go_wp2
            go_ret
            exact ⟨rfl, KY5.out.bel⟩
          | true =>
            go_wp2_with fail
            refine (gcheck_any _ _ _ _ _ HS8.out).mono ?_
            rintro e w9 ⟨rfl, hb⟩
            rw [HSS.out]
            have HB9 := Lib.hid (HB8.out.trans (hb.mono HB8.out.size))
            have K9 := Lib.hid (HX.out w9 HB9.out).1
            have c9 := K9.out.cell
            obtain ⟨bS, oS, ay, ly, cy, rfl, _, hy, hIy⟩ := (HX.out w9 HB9.out).2.2.2.2.2.get (n := (r : Int)) (by omega) (by omega)
            obtain ⟨bT, oT, ax, lx, cx, rfl, _, hx, hIx⟩ := (KT.out.below hb).get (n := (l7 : Int)) (by omega) (by omega)
            have hrw : Gr.rowAt (s ++ [rowL s r]) (l7 : Int) = rowL s r := by
              rw [Gr.rowAt_nat]
              have := rowL_snoc_last s (rowL s r)
              rwa [HSL.out, LN.out] at this
            rw [hrw] at hIx
            rw [Gr.rowAt_nat] at hIy
            have hx2 : w9.cell? ⟨bT, oT + l7, none⟩ = some (.slice ax lx cx) := hx
            have hy2 : w9.cell? ⟨bS, oS + r, none⟩ = some (.slice ay ly cy) := hy
            have HIx := Lib.hid hIx
            have HIy := Lib.hid hIy
            have HE1 : Hid (∀ q, Calls Try.prog 30 #[.slice ax lx cx, .slice ay ly cy] (w9.drewN q) fun e w' => e = .returned (.bool true) ∧ ∃ m, w' = w9.drewN m) := fun q => (same_quiet _ _ _ _ _ _ _ _ _ (HIx.out.drewN q) (HIy.out.drewN q)).mono fun e w' ⟨he, m, hw⟩ => ⟨by rw [he, sameB_self], q + m, by rw [hw]; simp⟩
            have e2 : (((l7 + 1 : Nat) : Int) != (l7 : Int) + 1) = false := by simp
            clear hb c8 f8 h8 hx hy hIx hIy hrw
            go_wp2_with fail
            go_quiet ((go_at_call 30; with_reducible exact HE1.out _))
            have K10 := Lib.hid (K9.out.on (below_drewN w9 nq _))
            have c10 := K10.out.cell
            clear c9 hx2 hy2
            generalize w9.drewN nq = w10 at *

            go_wp2_with fail
            refine (with_any _ _ _ g _ _ _ _ _ _ _ _ _ [(l7 : Int)] [] _ (K10.out.alloc _).n (nodeV_lit (ints_kb w10 _ rfl _ (by omega)) Ints.nil (by simp) (by simp) (by omega) (by omega) (by omega)) hl1 (by omega)).mono ?_
            rintro e x1 ⟨ax1, lx1, qx1, rfl, hNx, hb⟩
            have KX1 := Lib.hid ((K10.out.alloc _).on hb)
            have HX1 := Lib.hid hNx
            clear hb hNx
            go_wp2_with fail
            refine (gcheck_any _ _ _ _ _ HX1.out).mono ?_
            rintro e y1 ⟨rfl, hb⟩
            rw [H3.out]
            have KY1 := Lib.hid (KX1.out.on hb)
            have cy1 := KY1.out.cell
            clear hb

            go_wp2_with fail
            refine (with_any _ _ _ g _ _ _ _ _ _ _ _ _ [-1] [] _ (KY1.out.alloc _).n (nodeV_lit (ints_kb y1 _ rfl _ (by omega)) Ints.nil (by simp) (by simp) (by omega) (by omega) (by omega)) hl1 (by omega)).mono ?_
            rintro e x2 ⟨ax2, lx2, qx2, rfl, hNx, hb⟩
            have KX2 := Lib.hid ((KY1.out.alloc _).on hb)
            have HX2 := Lib.hid hNx
            clear hb hNx
            go_wp2_with fail
            refine (gcheck_any _ _ _ _ _ HX2.out).mono ?_
            rintro e y2 ⟨rfl, hb⟩
            rw [H4.out]
            have KY2 := Lib.hid (KX2.out.on hb)
            have cy2 := KY2.out.cell
            clear hb

            go_wp2_with fail
            refine (with_any _ _ _ g _ _ _ _ _ _ _ _ _ [(r : Int)] [] _ (KY2.out.alloc _).n (nodeV_lit (ints_kb y2 _ rfl _ (by omega)) Ints.nil (by simp) (by simp) (by omega) (by omega) (by omega)) hl1 (by omega)).mono ?_
            rintro e x3 ⟨ax3, lx3, qx3, rfl, hNx, hb⟩
            have KX3 := Lib.hid ((KY2.out.alloc _).on hb)
            have HX3 := Lib.hid hNx
            clear hb hNx
            go_wp2_with fail
            refine (gcheck_any _ _ _ _ _ HX3.out).mono ?_
            rintro e y3 ⟨rfl, hb⟩
            rw [H5.out]
            have KY3 := Lib.hid (KX3.out.on hb)
            have cy3 := KY3.out.cell
            clear hb

            go_wp2_with fail
            refine (with_any _ _ _ g _ _ _ _ _ _ _ _ _ [(r : Int), (r : Int)] [] _ (KY3.out.alloc _).n (nodeV_lit (ints_kk y3 _ _ (by omega) (by omega)) Ints.nil (by simp) (by simp) (by omega) (by omega) (by omega)) hl1 (by omega)).mono ?_
            rintro e x4 ⟨ax4, lx4, qx4, rfl, hNx, hb⟩
            have KX4 := Lib.hid ((KY3.out.alloc _).on hb)
            have HX4 := Lib.hid hNx
            clear hb hNx
            go_wp2_with fail
            refine (gcheck_any _ _ _ _ _ HX4.out).mono ?_
            rintro e y4 ⟨rfl, hb⟩
            rw [H6.out]
            have KY4 := Lib.hid (KX4.out.on hb)
            have cy4 := KY4.out.cell
            clear hb

            go_wp2_with fail
            refine (with_any _ _ _ g _ _ _ _ _ _ _ _ _ [] [1] _ (KY4.out.alloc _).n (nodeV_lit Ints.nil (ints_kb y4 _ rfl _ (by omega)) (by simp) (by simp) (by omega) (by omega) (by omega)) hl1 (by omega)).mono ?_
            rintro e x5 ⟨ax5, lx5, qx5, rfl, hNx, hb⟩
            have KX5 := Lib.hid ((KY4.out.alloc _).on hb)
            have HX5 := Lib.hid hNx
            clear hb hNx
            go_wp2_with fail
            refine (gcheck_any _ _ _ _ _ HX5.out).mono ?_
            rintro e y5 ⟨rfl, hb⟩
            rw [H7.out]
            have KY5 := Lib.hid (KX5.out.on hb)
            have cy5 := KY5.out.cell
            clear hb

            go_wp2
            go_ret
            exact ⟨rfl, KY5.out.bel⟩
      · have H1' := Lib.hid (H1.out.trans (if_neg (by rw [LN.out]; exact c32)))
        have d32 : decide ((l7 : Int) < 32) = false := decide_eq_false (by omega)
        go_wp2_with fail
        refine (gshapes_any _ _ _ _ _ HR7.out).mono ?_
        rintro e w8 ⟨hb, ⟨hs, rfl⟩ | ⟨s8, a8, l8, hs, rfl, hG⟩⟩
        · have HB8 := Lib.hid hb
          obtain ⟨K8', f8, h8, _, hs8, _⟩ := HX.out w8 hb
          have c8 := K8'.cell
          clear K8'
          have HS8 := Lib.hid hs8
          have HSS : Hid ((Gr.shapes (g ++ [⟨6, [(r : Int)], [], by_, 0⟩])).isSome = false) := by
            show _ = _
            rw [H2.out, LN.out, decide_eq_false c32]; rfl
          clear hb hs8 c7 f7 h7 hs
          go_wp2_with fail
          refine (gcheck_any _ _ _ _ _ HS8.out).mono ?_
          rintro e w9 ⟨rfl, hb⟩
          rw [HSS.out]
          have K9 := Lib.hid (HX.out w9 (HB8.out.trans (hb.mono HB8.out.size))).1
          have c9 := K9.out.cell
          clear hb c8 f8 h8
          go_wp2_with fail
          go_quiet (fail)
          have K10 := Lib.hid (K9.out.on (below_drewN w9 nq _))
          have c10 := K10.out.cell
          clear c9
          generalize w9.drewN nq = w10 at *
          go_wp2_with fail
          refine (with_any _ _ _ g _ _ _ _ _ _ _ _ _ [(l7 : Int)] [] _ (K10.out.alloc _).n (nodeV_lit (ints_kb w10 _ rfl _ (by omega)) Ints.nil (by simp) (by simp) (by omega) (by omega) (by omega)) hl1 (by omega)).mono ?_
          rintro e x1 ⟨ax1, lx1, qx1, rfl, hNx, hb⟩
          have KX1 := Lib.hid ((K10.out.alloc _).on hb)
          have HX1 := Lib.hid hNx
          clear hb hNx
          go_wp2_with fail
          refine (gcheck_any _ _ _ _ _ HX1.out).mono ?_
          rintro e y1 ⟨rfl, hb⟩
          rw [H3.out]
          have KY1 := Lib.hid (KX1.out.on hb)
          have cy1 := KY1.out.cell
          clear hb

          go_wp2_with fail
          refine (with_any _ _ _ g _ _ _ _ _ _ _ _ _ [-1] [] _ (KY1.out.alloc _).n (nodeV_lit (ints_kb y1 _ rfl _ (by omega)) Ints.nil (by simp) (by simp) (by omega) (by omega) (by omega)) hl1 (by omega)).mono ?_
          rintro e x2 ⟨ax2, lx2, qx2, rfl, hNx, hb⟩
          have KX2 := Lib.hid ((KY1.out.alloc _).on hb)
          have HX2 := Lib.hid hNx
          clear hb hNx
          go_wp2_with fail
          refine (gcheck_any _ _ _ _ _ HX2.out).mono ?_
          rintro e y2 ⟨rfl, hb⟩
          rw [H4.out]
          have KY2 := Lib.hid (KX2.out.on hb)
          have cy2 := KY2.out.cell
          clear hb

          go_wp2_with fail
          refine (with_any _ _ _ g _ _ _ _ _ _ _ _ _ [(r : Int)] [] _ (KY2.out.alloc _).n (nodeV_lit (ints_kb y2 _ rfl _ (by omega)) Ints.nil (by simp) (by simp) (by omega) (by omega) (by omega)) hl1 (by omega)).mono ?_
          rintro e x3 ⟨ax3, lx3, qx3, rfl, hNx, hb⟩
          have KX3 := Lib.hid ((KY2.out.alloc _).on hb)
          have HX3 := Lib.hid hNx
          clear hb hNx
          go_wp2_with fail
          refine (gcheck_any _ _ _ _ _ HX3.out).mono ?_
          rintro e y3 ⟨rfl, hb⟩
          rw [H5.out]
          have KY3 := Lib.hid (KX3.out.on hb)
          have cy3 := KY3.out.cell
          clear hb

          go_wp2_with fail
          refine (with_any _ _ _ g _ _ _ _ _ _ _ _ _ [(r : Int), (r : Int)] [] _ (KY3.out.alloc _).n (nodeV_lit (ints_kk y3 _ _ (by omega) (by omega)) Ints.nil (by simp) (by simp) (by omega) (by omega) (by omega)) hl1 (by omega)).mono ?_
          rintro e x4 ⟨ax4, lx4, qx4, rfl, hNx, hb⟩
          have KX4 := Lib.hid ((KY3.out.alloc _).on hb)
          have HX4 := Lib.hid hNx
          clear hb hNx
          go_wp2_with fail
          refine (gcheck_any _ _ _ _ _ HX4.out).mono ?_
          rintro e y4 ⟨rfl, hb⟩
          rw [H6.out]
          have KY4 := Lib.hid (KX4.out.on hb)
          have cy4 := KY4.out.cell
          clear hb

          go_wp2_with fail
          refine (with_any _ _ _ g _ _ _ _ _ _ _ _ _ [] [1] _ (KY4.out.alloc _).n (nodeV_lit Ints.nil (ints_kb y4 _ rfl _ (by omega)) (by simp) (by simp) (by omega) (by omega) (by omega)) hl1 (by omega)).mono ?_
          rintro e x5 ⟨ax5, lx5, qx5, rfl, hNx, hb⟩
          have KX5 := Lib.hid ((KY4.out.alloc _).on hb)
          have HX5 := Lib.hid hNx
          clear hb hNx
          go_wp2_with fail
          refine (gcheck_any _ _ _ _ _ HX5.out).mono ?_
          rintro e y5 ⟨rfl, hb⟩
          rw [H7.out]
          have KY5 := Lib.hid (KX5.out.on hb)
          have cy5 := KY5.out.cell
          clear hb

          go_wp2
          go_ret
          exact ⟨rfl, KY5.out.bel⟩
        · rw [H1'.out] at hs; cases hs

end Go.Proofs.Ytgmagldbfajedaa
