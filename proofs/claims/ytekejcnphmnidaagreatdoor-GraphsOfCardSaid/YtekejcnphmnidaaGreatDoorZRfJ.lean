import Derived.Test.YtekejcnphmnidaaGreatDoorZRfB
import Derived.Test.YtekejcnphmnidaaGreatDoorZPlCat
namespace Go.Proofs.YtekejcnphmnidaaGreatDoor
open Go.RowKit
namespace Gr
theorem joined_short {L : List (List Int)} (h : 1 ≤ L.length) {n : Int} (h2 : ((rowL L 0).length : Int) ≤ n) : joined L n = [] := by
  match L, h with
  | [s], _ =>
    have h3 : (s.length : Int) ≤ n := h2
    show joinF n s [] = []
    unfold joinF; rw [if_pos h3]
  | s :: x :: r, _ => exact joinF_bad (.inr h2)
theorem longer_eq {n : Nat} {s x : List Int} : longer (n : Int) s x = s.set n (nth s n + nth x n) := by unfold longer; rw [Int.toNat_natCast]
end Gr
set_option maxHeartbeats 4000000 in
set_option maxRecDepth 100000 in
theorem rjoined_any (a : Option Addr) (len cap : Nat) (L : List (List Int)) (along : Int) (w : World) (HG : Grid w a len cap L) (h1 : 1 ≤ len) (h4 : len ≤ 4) (hchk : ∀ s ∈ L, Gr.chk s = true) (ha0 : 0 ≤ along) :
    Calls Tryz.prog 213 #[.slice a len cap, .int .i64 along] w fun e w' => RShape w (Gr.joined L along) e w' := by
  have hle := HG.le
  have hcl := HG.cap_le
  have LL := Lib.hid HG.length
  have KG := Lib.hid HG
  have HCK := Lib.hid hchk
  have d1 : decide ((len : Int) < 1) = false := decide_eq_false (by omega)
  have d2 : decide ((len : Int) > 4) = false := decide_eq_false (by omega)
  have d3 : decide (along < 0) = false := decide_eq_false (by omega)
  obtain ⟨b, off, rfl, hb, hc⟩ := HG.at_ (by omega)
  obtain ⟨a0, l0, c0, hc0, hI0⟩ := hc 0 (by omega)
  rw [Nat.add_zero] at hc0
  have H0 := Lib.hid hI0
  have hK0 := hchk _ (rowL_mem L 0 (by rw [LL.out]; omega))
  obtain ⟨hk1, hk2, hk3⟩ := Gr.chk_parts hK0
  have hll := hI0.length
  have hle0 := hI0.le
  have hcl0 := hI0.cap_le
  rw [hll] at hk1 hk2
  have HK3 := Lib.hid hk3
  have HLL := Lib.hid hll
  have HJ0 : Hid (Gr.joined L along = Gr.joinF along (rowL L 0) (L.drop 1)) := by
    show _ = _
    have : L = rowL L 0 :: L.drop 1 := by conv => lhs; rw [← List.drop_zero (l := L), drop_rowL L 0 (by rw [LL.out]; omega)]
    conv => lhs; rw [this]
    rfl
  have hl0 : (0 : Int) < (len : Int) := by omega
  have hl0n : 0 < len := by omega
  obtain ⟨b0, o0, rfl, _, _⟩ := hI0.at_ (by omega)
  clear HG hI0 hchk hk3 hc hK0 hll
  go_enter Tryz.func213, Tryz.ntmps213
  go_wp2
  go_loopg [6] len (fun gg i wr => ∃ k : Nat, k ≤ len ∧ len - k ≤ gg ∧ i = .int .i64 k ∧ w = wr)
  case atStart => exact ⟨0, Nat.zero_le _, by omega, rfl, rfl⟩
  case round =>
    obtain ⟨k, hk, hg, rfl, rfl⟩ := hrel
    by_cases hlt : k < len
    · have dkl : decide ((k : Int) < (len : Int)) = true := decide_eq_true (by omega)
      obtain ⟨_, _, e1, _, hcc⟩ := KG.out.at_ (by omega)
      cases e1
      obtain ⟨ax, lx, cx, hcx, hIx⟩ := hcc k hlt
      have HX := Lib.hid hIx
      have HXK := Lib.hid (HCK.out _ (rowL_mem L k (by rw [LL.out]; exact hlt)))
      clear hcc hIx
      go_wp2_with fail
      refine (rcheck_any _ _ _ (rowL L k) _ HX.out).mono ?_
      rintro e w1 ⟨rfl, rfl⟩
      rw [HXK.out]
      go_wp2
      go_roundg (len - (k + 1))
      case measure => omega
      case rel => exact ⟨k + 1, by omega, by omega, by go_num, rfl⟩
    · have dkl : decide ((k : Int) < (len : Int)) = false := decide_eq_false (by omega)
      by_cases hal : (l0 : Int) ≤ along
      · have d4 : decide (along ≥ (l0 : Int)) = true := decide_eq_true hal
        have HR := Lib.hid (Gr.joined_short (L := L) (by rw [LL.out]; omega) (n := along) (by rw [HLL.out]; exact hal))
        go_wp2
        go_ret2
        exact rshape_none HR.out (Below.refl _ _) _ (by decide)
      have d4 : decide (along ≥ (l0 : Int)) = false := decide_eq_false hal
      obtain ⟨al, rfl⟩ : ∃ al : Nat, along = (al : Int) := ⟨along.toNat, by omega⟩
      have hall : al < l0 := by omega
      clear hal dkl hk hg
      go_wp2_with (at_builtin; go_must (refine wpList_appI _ rfl _ _ rfl w.heap.size (.slice none 0 0) [] (rowL L 0) ⟨b0, o0, none⟩ l0 c0 (Own.nil _ _) H0.out rfl rfl (Nat.le_refl _) (by simp) (by omega) ?_))
      intro v w1 hO hbel
      obtain ⟨g, og, cg, rfl, hM⟩ := hO.mine (by rw [HLL.out]; omega)
      rw [HLL.out]
      have HM := Lib.hid hM
      have HB := Lib.hid hbel
      have hcg := hM.le
      rw [HLL.out] at hcg
      have hcg2 := hM.cap_le
      have hlog := hM.lo
      clear hO hM hbel
      go_wp2
      go_loopg [8] len (fun gg i wr => ∃ (j : Nat) (s : List Int), 1 ≤ j ∧ j ≤ len ∧ len - j ≤ gg ∧ i = .int .i64 j ∧ Hid (s.length = l0) ∧ Hid (∀ v ∈ s, 1 ≤ v ∧ v ≤ 64 * (j : Int)) ∧
        Hid (Mine w.heap.size wr g og cg s) ∧ Hid (Below w.heap.size w wr) ∧ Hid (Gr.joined L (al : Int) = Gr.joinF (al : Int) s (L.drop j)))
      case atStart => exact ⟨1, rowL L 0, by omega, by omega, by omega, rfl, HLL, fun v hv => by have := HK3.out v hv; omega, HM, HB, HJ0⟩
      case round =>
        obtain ⟨j, s, hj1, hj, hg, rfl, HSL, HSB, HMr, HBr, HJ⟩ := hrel
        by_cases hlt : j < len
        · have dkl : decide ((j : Int) < (len : Int)) = true := decide_eq_true (by omega)
          obtain ⟨_, _, e1, _, hcc⟩ := KG.out.at_ (by omega)
          cases e1
          obtain ⟨ax, lx, cx, hcx, hIx⟩ := hcc j hlt
          have hcr := (HBr.out.cell (p := ⟨b, off + j, none⟩) hb).trans hcx
          have hcw := Lib.hid hcx
          have HX := Lib.hid hIx
          have HXL := Lib.hid hIx.length
          have hx1 := hIx.le
          have hx2 := hIx.cap_le
          have HXB := Lib.hid (Gr.chk_parts (HCK.out _ (rowL_mem L j (by rw [LL.out]; exact hlt)))).2.2
          rw [drop_rowL L j (by rw [LL.out]; exact hlt)] at HJ
          clear hcc hcx hIx
          generalize rowL L j = x at *
          by_cases c1 : lx = l0
          rotate_left
          · have hne : ((lx : Int) != (l0 : Int)) = true := by simp; omega
            have HR := Lib.hid (HJ.out.trans (Gr.joinF_bad (.inl (by rw [HXL.out, HSL.out]; exact c1))))
            clear c1
            go_wp2
            go_ret2
            exact rshape_none HR.out HBr.out _ (by decide)
          subst c1
          have hne : ((lx : Int) != (lx : Int)) = false := by simp
          go_wp2
          go_loopg [9] lx (fun gg i wv => ∃ k : Nat, k ≤ lx ∧ lx - k ≤ gg ∧ i = .int .i64 k ∧ Hid (Mine w.heap.size wv g og cg s) ∧ Hid (Below w.heap.size w wv) ∧
            Hid (∀ i, i < k → (i : Int) ≠ (al : Int) → nth s i = nth x i))
          case atStart => exact ⟨0, Nat.zero_le _, by omega, rfl, HMr, HBr, fun i hi => absurd hi (Nat.not_lt_zero _)⟩
          case round =>
            rename World => wx
            obtain ⟨k, hk, hgk, rfl, HMk, HBk, HF⟩ := hrel
            have hcy := (HBk.out.cell (p := ⟨b, off + j, none⟩) hb).trans hcw.out
            by_cases hltk : k < lx
            · have dkx : decide ((k : Int) < (lx : Int)) = true := decide_eq_true (by omega)
              by_cases ck : (k : Int) = (al : Int)
              · have dk : ((k : Int) != (al : Int)) = false := by simp [ck]
                have HF2 : Hid (∀ i, i < k + 1 → (i : Int) ≠ (al : Int) → nth s i = nth x i) := fun i hi hn => HF.out i (by omega) hn
                clear ck
                go_wp2_with fail
                go_quiet (fail)
                go_wp2
                go_roundg (lx - (k + 1))
                case measure => omega
                case rel => exact ⟨k + 1, by omega, by omega, by go_num, HMk.out.below (below_drewN _ _ _), HBk.out.trans (below_drewN _ _ _), HF2⟩
              have dk : ((k : Int) != (al : Int)) = true := by simp [ck]
              obtain ⟨bx, ox, rfl, _, hcxx⟩ := (HX.out.below HBk.out).at_ (by omega)
              have hxk := hcxx k hltk
              have hks : k < s.length := by rw [HSL.out]; exact hltk
              have hmk := HMk.out.cell k hks
              have hkc : k < cg := by omega
              clear hcxx
              by_cases cv : nth s k = nth x k
              · have ev : (nth x k != nth s k) = false := by simp [cv]
                have HF2 : Hid (∀ i, i < k + 1 → (i : Int) ≠ (al : Int) → nth s i = nth x i) := fun i hi hn => by
                  rcases Nat.lt_succ_iff_lt_or_eq.1 hi with h | h
                  · exact HF.out i h hn
                  · rw [h]; exact cv
                clear cv ck
                go_wp2_with fail
                go_quiet (fail)
                go_wp2
                go_roundg (lx - (k + 1))
                case measure => omega
                case rel => exact ⟨k + 1, by omega, by omega, by go_num, HMk.out.below (below_drewN _ _ _), HBk.out.trans (below_drewN _ _ _), HF2⟩
              · have ev : (nth x k != nth s k) = true := by simp; exact fun e => cv e.symm
                have HR := Lib.hid (HJ.out.trans (Gr.joinF_unfit hks ck cv))
                clear cv ck
                go_wp2_with fail
                go_quiet (fail)
                go_wp2
                go_ret2
                exact rshape_none HR.out (HBk.out.trans (below_drewN _ _ _)) _ (by decide)
            · have dkx : decide ((k : Int) < (lx : Int)) = false := decide_eq_false (by omega)
              obtain ⟨bx, ox, rfl, _, hcxx⟩ := (HX.out.below HBk.out).at_ (by omega)
              have hxa := hcxx al (by omega)
              have hma := HMk.out.cell al (by rw [HSL.out]; omega)
              have hfa := HMk.out.fr al (by rw [HSL.out]; omega)
              have hxb := HXB.out (nth x al) (nth_mem x al (by rw [HXL.out]; omega))
              have hsb := HSB.out (nth s al) (nth_mem s al (by rw [HSL.out]; omega))
              have hal2 : (al : Int) < (lx : Int) := by omega
              have HM2 := HMk.out.set al (by rw [HSL.out]; omega) (nth s al + nth x al)
              rw [← Gr.longer_eq] at HM2
              have HM2 := Lib.hid HM2
              have HB2 := Lib.hid (below_setCell HBk.out g (og + al) (.int .i64 (nth s al + nth x al)) hlog)
              have HJ2 := Lib.hid (HJ.out.trans (Gr.joinF_fit (by rw [HXL.out, HSL.out]) (by rw [HSL.out]; exact hal2) (fun i hi hn => HF.out i (by rw [HSL.out] at hi; omega) hn)))
              have HBn := Lib.hid (Gr.longer_bounds ha0 (by rw [HSL.out]; exact hal2) (by rw [HXL.out, HSL.out]) HSB.out HXB.out)
              have HL2 : Hid ((Gr.longer (al : Int) s x).length = lx) := by show _ = _; rw [Gr.longer_length]; exact HSL.out
              clear hcxx
              generalize nth s al = sv at *
              generalize nth x al = xv at *
              go_wp2_with fail
              go_region
              go_wp2
              go_roundg (len - (j + 1))
              case measure => omega
              case rel => exact ⟨j + 1, Gr.longer (al : Int) s x, by omega, by omega, by omega, by go_num, HL2, fun v hv => by have := HBn.out v hv; omega, HM2.out.below (Below.refl _ _).drew, HB2.out.drew, HJ2⟩
        · have dkl : decide ((j : Int) < (len : Int)) = false := decide_eq_false (by omega)
          rw [List.drop_eq_nil_of_le (by rw [LL.out]; omega), Gr.joinF_nil] at HJ
          have HR := Lib.hid (HJ.out.trans (if_neg (by rw [HSL.out]; omega)))
          have hI := HMr.out.ints (fun v hv => by have := HSB.out v hv; omega)
          rw [HSL.out] at hI
          have HI := Lib.hid hI
          clear hI
          go_wp2_with fail
          refine (rcheck_any _ _ _ s _ HI.out).mono ?_
          rintro e w1 ⟨rfl, rfl⟩
          cases hs : Gr.chk s with
          | true =>
            have HK := Lib.hid hs
            clear hs
            go_wp2
            go_ret2
            exact ⟨HBr.out, .inr ⟨by rw [HR.out]; exact HK.out, _, _, _, rfl, by rw [HR.out]; exact HI.out⟩⟩
          | false =>
            have HK := Lib.hid hs
            clear hs
            go_wp2
            go_ret2
            exact rshape_bad (by rw [HR.out]; exact HK.out) HBr.out _ (by decide)
end Go.Proofs.YtekejcnphmnidaaGreatDoor
