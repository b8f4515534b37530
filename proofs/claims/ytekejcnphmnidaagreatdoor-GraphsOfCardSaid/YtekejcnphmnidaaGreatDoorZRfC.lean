import Derived.Test.YtekejcnphmnidaaGreatDoorZRfB
namespace Go.Proofs.YtekejcnphmnidaaGreatDoor
open Go.RowKit
namespace Gr
theorem pool_div {l : List Int} {wide : Int} (h : chk l = true) (h1 : 1 ≤ wide) (h2 : wide ≤ 64) (h3 : l.length = 3) (h4 : wide ≤ nth l 1) (h5 : wide ≤ nth l 2) :
    pool l wide = [nth l 0, Int.tdiv (nth l 1) wide, Int.tdiv (nth l 2) wide] ∧ chk (pool l wide) = true := by
  refine ⟨?_, by rw [chk_pool]; exact decide_eq_true ⟨h, h1, h2, h3, h4, h5⟩⟩
  unfold pool
  rw [if_neg (by simp [h]; omega), if_neg (by omega), slides_div h1 h4, slides_div h1 h5, Int.tdiv_eq_ediv_of_nonneg (by omega), Int.tdiv_eq_ediv_of_nonneg (by omega)]
theorem tdiv_small {x y : Int} (hx : 0 ≤ x) (hy : 1 ≤ y) : 0 ≤ Int.tdiv x y ∧ Int.tdiv x y ≤ x := by
  rw [Int.tdiv_eq_ediv_of_nonneg hx]
  exact ⟨Int.ediv_nonneg hx (by omega), Int.ediv_le_self _ hx⟩
theorem slides_at {t w s : Int} (h : w ≤ t) : slides t w s = Int.tdiv (t - w) s + 1 := by unfold slides; rw [if_neg (by omega)]
theorem slides_no {t w s : Int} (h : t < w) : slides t w s = 0 := by unfold slides; rw [if_pos h]
end Gr
set_option maxRecDepth 100000 in
set_option maxHeartbeats 2000000 in
theorem rpool_any (a : Option Addr) (la ca : Nat) (l : List Int) (wide : Int) (w : World) (HA : Ints w a la ca l) :
    Calls Tryz.prog 211 #[.slice a la ca, .int .i64 wide] w fun e w' => RShape w (Gr.pool l wide) e w' := by
  have KA := Lib.hid HA
  have ha1 := HA.le
  have ha2 := HA.cap_le
  have LA := Lib.hid HA.length
  clear HA
  go_enter Tryz.func211, Tryz.ntmps211
  go_wp2_with fail
  refine (rcheck_any _ _ _ l _ KA.out).mono ?_
  rintro e w1 ⟨rfl, rfl⟩
  cases hcl : Gr.chk l with
  | false =>
    have HR := Lib.hid (show Gr.pool l wide = [] by unfold Gr.pool; rw [if_pos (.inl hcl)])
    clear hcl
    go_wp2
    go_ret2
    exact rshape_none HR.out (Below.refl _ _) _ (by decide)
  | true =>
    have HC := Lib.hid hcl
    have HD := Lib.hid (Gr.chk_parts hcl).2.2
    by_cases c1 : wide < 1
    · have HR := Lib.hid (show Gr.pool l wide = [] by unfold Gr.pool; rw [if_pos (.inr (.inl c1))])
      have d1 : decide (wide < 1) = true := decide_eq_true c1
      clear hcl c1
      go_wp2
      go_ret2
      exact rshape_none HR.out (Below.refl _ _) _ (by decide)
    have d1 : decide (wide < 1) = false := decide_eq_false c1
    by_cases c2 : 64 < wide
    · have HR := Lib.hid (show Gr.pool l wide = [] by unfold Gr.pool; rw [if_pos (.inr (.inr c2))])
      have d2 : decide (wide > 64) = true := decide_eq_true c2
      clear hcl c1 c2
      go_wp2
      go_ret2
      exact rshape_none HR.out (Below.refl _ _) _ (by decide)
    have d2 : decide (wide > 64) = false := decide_eq_false c2
    have HP := Lib.hid (Gr.chk_pool l wide)
    clear hcl
    by_cases c3 : la = 3
    · subst c3
      obtain ⟨ba, oa, rfl, _, hca⟩ := KA.out.at_ (by omega)
      have a0 := hca 0 (by omega)
      have a1 := hca 1 (by omega)
      have a2 := hca 2 (by omega)
      rw [Nat.add_zero] at a0
      obtain ⟨x0, x1⟩ := HD.out _ (nth_mem l 0 (by rw [LA.out]; omega))
      obtain ⟨y0, y1⟩ := HD.out _ (nth_mem l 1 (by rw [LA.out]; omega))
      obtain ⟨z0, z1⟩ := HD.out _ (nth_mem l 2 (by rw [LA.out]; omega))
      have e3 : ((3 : Int) != 3) = false := rfl
      clear hca
      by_cases c4 : nth l 1 < wide
      · have d4 : decide (nth l 1 < wide) = true := decide_eq_true c4
        have HR : Hid (Gr.chk (Gr.pool l wide) = false) := HP.out.trans (decide_eq_false (by omega))
        clear c4
        go_wp2
        go_ret2
        exact rshape_bad HR.out (Below.refl _ _) _ (by decide)
      have d4 : decide (nth l 1 < wide) = false := decide_eq_false c4
      by_cases c5 : nth l 2 < wide
      · have d5 : decide (nth l 2 < wide) = true := decide_eq_true c5
        have HR : Hid (Gr.chk (Gr.pool l wide) = false) := HP.out.trans (decide_eq_false (by omega))
        clear c4 c5
        go_wp2
        go_ret2
        exact rshape_bad HR.out (Below.refl _ _) _ (by decide)
      have d5 : decide (nth l 2 < wide) = false := decide_eq_false c5
      obtain ⟨hv, hck⟩ := Gr.pool_div HC.out (by omega) (by omega) LA.out (by omega) (by omega) (wide := wide)
      have HV := Lib.hid hv
      have HK := Lib.hid hck
      have s1 := Gr.tdiv_small (x := nth l 1) (y := wide) (by omega) (by omega)
      have s2 := Gr.tdiv_small (x := nth l 2) (y := wide) (by omega) (by omega)
      have hz : wide ≠ 0 := by omega
      have w1 : IntKind.i64.wrap ((nth l 1).tdiv wide) = (nth l 1).tdiv wide := by rw [IntKind.wrap_i64]; omega
      have w2 : IntKind.i64.wrap ((nth l 2).tdiv wide) = (nth l 2).tdiv wide := by rw [IntKind.wrap_i64]; omega
      clear hv hck
      go_wp2_with fail
      have HM : Hid (Below w.heap.size w w.drew) := (Below.refl _ _).drew
      refine wp_region_still_tail 13 mixed (by kernel_rfl) ?_
      simp only [List.take_succ_cons, List.take_zero, List.drop_succ_cons, List.drop_zero]
      change wpStill _ _ w.drew _ _ _
      repeat still_step
      refine wpStill_nil ?_
      change wpList _ _ _ _ _ w.drew
      have hz3 : w.drew.heap.size = w.heap.size := rfl
      generalize w.drew = w3 at *
      generalize Int.tdiv (nth l 1) wide = q1 at *
      generalize Int.tdiv (nth l 2) wide = q2 at *
      go_wp2
      go_ret2
      refine ⟨HM.out.alloc (by omega) _, .inr ⟨HK.out, _, _, _, rfl, ?_⟩⟩
      rw [HV.out, ← hz3]
      exact ints_three _ _ _ _ ⟨by omega, by omega⟩ ⟨by omega, by omega⟩ ⟨by omega, by omega⟩
    · have e3 : ((la : Int) != 3) = true := by simp; omega
      have HR : Hid (Gr.chk (Gr.pool l wide) = false) := HP.out.trans (decide_eq_false (by rw [LA.out]; omega))
      clear c3
      go_wp2
      go_ret2
      exact rshape_bad HR.out (Below.refl _ _) _ (by decide)
set_option maxRecDepth 100000 in
set_option maxHeartbeats 4000000 in
theorem rwindow_any (a b : Option Addr) (la ca lb cb : Nat) (l m : List Int) (step pad : Int) (w : World) (HA : Ints w a la ca l) (HB : Ints w b lb cb m) :
    Calls Tryz.prog 210 #[.slice a la ca, .slice b lb cb, .int .i64 step, .int .i64 pad] w fun e w' => RShape w (Gr.window l m step pad) e w' := by
  have KA := Lib.hid HA
  have KB := Lib.hid HB
  have ha1 := HA.le
  have ha2 := HA.cap_le
  have hb1 := HB.le
  have hb2 := HB.cap_le
  have LA := Lib.hid HA.length
  have LB := Lib.hid HB.length
  clear HA HB
  go_enter Tryz.func210, Tryz.ntmps210
  go_wp2_with fail
  refine (rcheck_any _ _ _ l _ KA.out).mono ?_
  rintro e w1 ⟨rfl, rfl⟩
  cases hcl : Gr.chk l with
  | false =>
    have HR := Lib.hid (show Gr.window l m step pad = [] by unfold Gr.window; rw [if_pos (.inl hcl)])
    clear hcl
    go_wp2
    go_ret2
    exact rshape_none HR.out (Below.refl _ _) _ (by decide)
  | true =>
    have HX := Lib.hid (Gr.chk_parts hcl).2.2
    go_wp2_with fail
    refine (rcheck_any _ _ _ m _ KB.out).mono ?_
    rintro e w1 ⟨rfl, rfl⟩
    cases hcm : Gr.chk m with
    | false =>
      have HR := Lib.hid (show Gr.window l m step pad = [] by unfold Gr.window; rw [if_pos (.inr (.inl hcm))])
      clear hcl hcm
      go_wp2
      go_ret2
      exact rshape_none HR.out (Below.refl _ _) _ (by decide)
    | true =>
      have HY := Lib.hid (Gr.chk_parts hcm).2.2
      by_cases c1 : step < 1
      · have d1 : decide (step < 1) = true := decide_eq_true c1
        have HR := Lib.hid (show Gr.window l m step pad = [] by unfold Gr.window; rw [if_pos (.inr (.inr (.inl c1)))])
        clear hcl hcm
        go_wp2
        go_ret2
        exact rshape_none HR.out (Below.refl _ _) _ (by decide)
      have d1 : decide (step < 1) = false := decide_eq_false c1
      by_cases c2 : 8 < step
      · have d2 : decide (step > 8) = true := decide_eq_true c2
        have HR := Lib.hid (show Gr.window l m step pad = [] by unfold Gr.window; rw [if_pos (.inr (.inr (.inr (.inl c2))))])
        clear hcl hcm
        go_wp2
        go_ret2
        exact rshape_none HR.out (Below.refl _ _) _ (by decide)
      have d2 : decide (step > 8) = false := decide_eq_false c2
      by_cases c3 : pad < 0
      · have d3 : decide (pad < 0) = true := decide_eq_true c3
        have HR := Lib.hid (show Gr.window l m step pad = [] by unfold Gr.window; rw [if_pos (.inr (.inr (.inr (.inr (.inl c3)))))])
        clear hcl hcm
        go_wp2
        go_ret2
        exact rshape_none HR.out (Below.refl _ _) _ (by decide)
      have d3 : decide (pad < 0) = false := decide_eq_false c3
      by_cases c4 : 8 < pad
      · have d4 : decide (pad > 8) = true := decide_eq_true c4
        have HR := Lib.hid (show Gr.window l m step pad = [] by unfold Gr.window; rw [if_pos (.inr (.inr (.inr (.inr (.inr c4)))))])
        clear hcl hcm
        go_wp2
        go_ret2
        exact rshape_none HR.out (Below.refl _ _) _ (by decide)
      have d4 : decide (pad > 8) = false := decide_eq_false c4
      have HP := Lib.hid (show Gr.window l m step pad = if l.length ≠ 3 ∨ m.length ≠ 4 ∨ nth l 0 ≠ nth m 1 then [] else if Gr.chk [nth m 0, Gr.slides (nth l 1 + 2 * pad) (nth m 2) step, Gr.slides (nth l 2 + 2 * pad) (nth m 3) step] then [nth m 0, Gr.slides (nth l 1 + 2 * pad) (nth m 2) step, Gr.slides (nth l 2 + 2 * pad) (nth m 3) step] else [] by unfold Gr.window; rw [if_neg (by simp [hcl, hcm]; omega)])
      clear hcl hcm
      by_cases f1 : la = 3
      · subst f1
        have e1 : ((3 : Int) != 3) = false := rfl
        by_cases f2 : lb = 4
        · subst f2
          have e2 : ((4 : Int) != 4) = false := rfl
          obtain ⟨ba, oa, rfl, _, hca⟩ := KA.out.at_ (by omega)
          obtain ⟨bb, ob, rfl, _, hcb⟩ := KB.out.at_ (by omega)
          have a0 := hca 0 (by omega)
          have a1 := hca 1 (by omega)
          have a2 := hca 2 (by omega)
          have b0 := hcb 0 (by omega)
          have b1 := hcb 1 (by omega)
          have b2 := hcb 2 (by omega)
          have b3 := hcb 3 (by omega)
          rw [Nat.add_zero] at a0 b0
          obtain ⟨x1, x1'⟩ := HX.out _ (nth_mem l 1 (by rw [LA.out]; omega))
          obtain ⟨x2, x2'⟩ := HX.out _ (nth_mem l 2 (by rw [LA.out]; omega))
          obtain ⟨y0, y0'⟩ := HY.out _ (nth_mem m 0 (by rw [LB.out]; omega))
          obtain ⟨y2, y2'⟩ := HY.out _ (nth_mem m 2 (by rw [LB.out]; omega))
          obtain ⟨y3, y3'⟩ := HY.out _ (nth_mem m 3 (by rw [LB.out]; omega))
          have r1 : IntKind.i64.wrap (2 * pad) = 2 * pad := by rw [IntKind.wrap_i64]; omega
          have r2 : IntKind.i64.wrap (nth l 1 + 2 * pad) = nth l 1 + 2 * pad := by rw [IntKind.wrap_i64]; omega
          have r3 : IntKind.i64.wrap (nth l 2 + 2 * pad) = nth l 2 + 2 * pad := by rw [IntKind.wrap_i64]; omega
          clear hca hcb
          by_cases f3 : nth l 0 = nth m 1
          · have e3 : (nth l 0 != nth m 1) = false := by simp [f3]
            have HQ := Lib.hid (HP.out.trans (if_neg (by rw [LA.out, LB.out]; simp [f3])))
            clear f3
            by_cases g1 : nth l 1 + 2 * pad < nth m 2
            · have e4 : decide (nth l 1 + 2 * pad < nth m 2) = true := decide_eq_true g1
              have HR : Hid (Gr.window l m step pad = []) := HQ.out.trans (if_neg (by rw [Gr.slides_no g1]; exact Bool.eq_false_iff.1 (Gr.chk_bad (k := 1) (by simp) (.inl (by show (0 : Int) < 1; decide)))))
              clear g1
              go_wp2_with fail
              go_quiet (fail)
              go_wp2
              go_ret2
              exact rshape_none HR.out (below_drewN _ _ _) _ (by decide)
            have e4 : decide (nth l 1 + 2 * pad < nth m 2) = false := decide_eq_false g1
            by_cases g2 : nth l 2 + 2 * pad < nth m 3
            · have e5 : decide (nth l 2 + 2 * pad < nth m 3) = true := decide_eq_true g2
              have HR : Hid (Gr.window l m step pad = []) := HQ.out.trans (if_neg (by rw [Gr.slides_no g2]; exact Bool.eq_false_iff.1 (Gr.chk_bad (k := 2) (by simp) (.inl (by show (0 : Int) < 1; decide)))))
              clear g1 g2
              go_wp2_with fail
              go_quiet (fail)
              go_wp2
              go_ret2
              exact rshape_none HR.out (below_drewN _ _ _) _ (by decide)
            have e5 : decide (nth l 2 + 2 * pad < nth m 3) = false := decide_eq_false g2
            rw [Gr.slides_at (show nth m 2 ≤ nth l 1 + 2 * pad by omega), Gr.slides_at (show nth m 3 ≤ nth l 2 + 2 * pad by omega)] at HQ
            have s1 := Gr.tdiv_small (x := nth l 1 + 2 * pad - nth m 2) (y := step) (by omega) (by omega)
            have s2 := Gr.tdiv_small (x := nth l 2 + 2 * pad - nth m 3) (y := step) (by omega) (by omega)
            have hz : step ≠ 0 := by omega
            have t1 : IntKind.i64.wrap (nth l 1 + 2 * pad - nth m 2) = nth l 1 + 2 * pad - nth m 2 := by rw [IntKind.wrap_i64]; omega
            have t2 : IntKind.i64.wrap (nth l 2 + 2 * pad - nth m 3) = nth l 2 + 2 * pad - nth m 3 := by rw [IntKind.wrap_i64]; omega
            go_wp2_with fail
            go_quiet (fail)
            go_wp2_with fail
            have HM := Lib.hid (below_drewN w nq w.heap.size)
            have hz2 : (w.drewN nq).heap.size = w.heap.size := rfl
            have a1' : (w.drewN nq).cell? ⟨ba, oa + 1, none⟩ = some (.int .i64 (nth l 1)) := a1
            have a2' : (w.drewN nq).cell? ⟨ba, oa + 2, none⟩ = some (.int .i64 (nth l 2)) := a2
            have b0' : (w.drewN nq).cell? ⟨bb, ob, none⟩ = some (.int .i64 (nth m 0)) := b0
            have b2' : (w.drewN nq).cell? ⟨bb, ob + 2, none⟩ = some (.int .i64 (nth m 2)) := b2
            have b3' : (w.drewN nq).cell? ⟨bb, ob + 3, none⟩ = some (.int .i64 (nth m 3)) := b3
            clear a0 a1 a2 b0 b1 b2 b3
            generalize w.drewN nq = w2 at *
            have q1 : IntKind.i64.wrap (Int.tdiv (nth l 1 + 2 * pad - nth m 2) step) = Int.tdiv (nth l 1 + 2 * pad - nth m 2) step := by rw [IntKind.wrap_i64]; omega
            have q2 : IntKind.i64.wrap (Int.tdiv (nth l 2 + 2 * pad - nth m 3) step) = Int.tdiv (nth l 2 + 2 * pad - nth m 3) step := by rw [IntKind.wrap_i64]; omega
            have u1 : IntKind.i64.wrap (Int.tdiv (nth l 1 + 2 * pad - nth m 2) step + 1) = Int.tdiv (nth l 1 + 2 * pad - nth m 2) step + 1 := by rw [IntKind.wrap_i64]; omega
            have u2 : IntKind.i64.wrap (Int.tdiv (nth l 2 + 2 * pad - nth m 3) step + 1) = Int.tdiv (nth l 2 + 2 * pad - nth m 3) step + 1 := by rw [IntKind.wrap_i64]; omega
            refine wp_region_still_tail 29 mixed (by kernel_rfl) ?_
            simp only [List.take_succ_cons, List.take_zero, List.drop_succ_cons, List.drop_zero]
            change wpStill _ _ w2.drew _ _ _
            repeat still_step
            refine wpStill_nil ?_
            change wpList _ _ _ _ _ w2.drew
            have HD2 := Lib.hid (HM.out.drew)
            have hz3 : w2.drew.heap.size = w.heap.size := hz2
            generalize w2.drew = w3 at *
            generalize Int.tdiv (nth l 1 + 2 * pad - nth m 2) step = k1 at *
            generalize Int.tdiv (nth l 2 + 2 * pad - nth m 3) step = k2 at *
            have HI3 : Hid (Ints (w3.alloc (.cells #[.int .i64 (nth m 0), .int .i64 (k1 + 1), .int .i64 (k2 + 1)] 3)) (some ⟨w.heap.size, 0, none⟩) 3 3 [nth m 0, k1 + 1, k2 + 1]) := by
              show Ints _ _ _ _ _
              rw [← hz3]; exact ints_three _ _ _ _ ⟨by omega, by omega⟩ ⟨by omega, by omega⟩ ⟨by omega, by omega⟩
            go_wp2_with fail
            refine (rcheck_any _ _ _ _ _ HI3.out).mono ?_
            rintro e w1 ⟨rfl, rfl⟩
            cases hs : Gr.chk [nth m 0, k1 + 1, k2 + 1] with
            | true =>
              have HR := Lib.hid (HQ.out.trans (if_pos hs))
              have HK := Lib.hid hs
              clear hs
              go_wp2
              go_ret2
              exact ⟨HD2.out.alloc (by omega) _, .inr ⟨by rw [HR.out]; exact HK.out, _, _, _, rfl, by rw [HR.out]; exact HI3.out⟩⟩
            | false =>
              have HR := Lib.hid (HQ.out.trans (if_neg (by rw [hs]; simp)))
              clear hs
              go_wp2
              go_ret2
              exact rshape_none HR.out (HD2.out.alloc (by omega) _) _ (by decide)
          · have e3 : (nth l 0 != nth m 1) = true := by simp [f3]
            have HR := Lib.hid (HP.out.trans (if_pos (.inr (.inr f3))))
            clear f3
            go_wp2_with fail
            go_quiet (fail)
            go_wp2
            go_ret2
            exact rshape_none HR.out (below_drewN _ _ _) _ (by decide)
        · have e2 : ((lb : Int) != 4) = true := by simp; omega
          have HR := Lib.hid (HP.out.trans (if_pos (.inr (.inl (by rw [LB.out]; exact f2)))))
          clear f2
          go_wp2_with fail
          go_quiet (fail)
          go_wp2
          go_ret2
          exact rshape_none HR.out (below_drewN _ _ _) _ (by decide)
      · have e1 : ((la : Int) != 3) = true := by simp; omega
        have HR := Lib.hid (HP.out.trans (if_pos (.inl (by rw [LA.out]; exact f1))))
        clear f1
        go_wp2_with fail
        go_quiet (fail)
        go_wp2
        go_ret2
        exact rshape_none HR.out (below_drewN _ _ _) _ (by decide)
end Go.Proofs.YtekejcnphmnidaaGreatDoor
