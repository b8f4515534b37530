/-
  windows.Shape: contract window_any.
-/
import Derived.Test.YtgmagldbfajedaaGrPool
namespace Go.Proofs.Ytgmagldbfajedaa
open Go.RowKit

set_option maxRecDepth 100000 in
set_option maxHeartbeats 4000000 in
theorem window_any (a b : Option Addr) (la ca lb cb : Nat) (l m : List Int) (step pad : Int) (w : World) (HA : Ints w a la ca l) (HB : Ints w b lb cb m) :
    Calls Try.prog 111 #[.slice a la ca, .slice b lb cb, .int .i64 step, .int .i64 pad] w fun e w' => ShapeE w (Gr.window l m step pad) e w' := by
  have KA := Lib.hid HA
  have KB := Lib.hid HB
  have ha1 := HA.le
  have ha2 := HA.cap_le
  have hb1 := HB.le
  have hb2 := HB.cap_le
  have LA := Lib.hid HA.length
  have LB := Lib.hid HB.length
  clear HA HB
  cases hcl : Gr.chk l with
  | false =>
    have HR := Lib.hid (show Gr.window l m step pad = [] by unfold Gr.window; rw [if_pos (.inl hcl)])
    have HC := Lib.hid hcl; clear hcl
    go_enter Try.func111, Try.ntmps111
    go_wp2_with fail
    refine (check_any _ _ _ l _ KA.out).mono ?_
    rintro e w1 ⟨rfl, rfl⟩
    rw [HC.out]
    go_wp2
    go_ret2
    exact shapeE_nil HR.out (Below.refl _ _)
  | true =>
    have HC := Lib.hid hcl
    have HX := Lib.hid (Gr.chk_parts hcl).2.2
    cases hcm : Gr.chk m with
    | false =>
      have HR := Lib.hid (show Gr.window l m step pad = [] by unfold Gr.window; rw [if_pos (.inr (.inl hcm))])
      have HD := Lib.hid hcm; clear hcl hcm
      go_enter Try.func111, Try.ntmps111
      go_wp2_with fail
      refine (check_any _ _ _ l _ KA.out).mono ?_
      rintro e w1 ⟨rfl, rfl⟩
      rw [HC.out]
      go_wp2_with fail
      refine (check_any _ _ _ m _ KB.out).mono ?_
      rintro e w1 ⟨rfl, rfl⟩
      rw [HD.out]
      go_wp2
      go_ret2
      exact shapeE_nil HR.out (Below.refl _ _)
    | true =>
      have HD := Lib.hid hcm
      have HY := Lib.hid (Gr.chk_parts hcm).2.2
      by_cases c1 : step < 1
      · have d1 : decide (step < 1) = true := decide_eq_true c1
        have HR := Lib.hid (show Gr.window l m step pad = [] by unfold Gr.window; rw [if_pos (.inr (.inr (.inl c1)))])
        clear hcl hcm
        go_enter Try.func111, Try.ntmps111
        go_wp2_with fail
        refine (check_any _ _ _ l _ KA.out).mono ?_
        rintro e w1 ⟨rfl, rfl⟩
        rw [HC.out]
        go_wp2_with fail
        refine (check_any _ _ _ m _ KB.out).mono ?_
        rintro e w1 ⟨rfl, rfl⟩
        rw [HD.out]
        go_wp2
        go_ret2
        exact shapeE_nil HR.out (Below.refl _ _)
      · have d1 : decide (step < 1) = false := decide_eq_false c1
        by_cases c2 : 8 < step
        · have d2 : decide (step > 8) = true := decide_eq_true c2
          have HR := Lib.hid (show Gr.window l m step pad = [] by unfold Gr.window; rw [if_pos (.inr (.inr (.inr (.inl c2))))])
          clear hcl hcm
          go_enter Try.func111, Try.ntmps111
          go_wp2_with fail
          refine (check_any _ _ _ l _ KA.out).mono ?_
          rintro e w1 ⟨rfl, rfl⟩
          rw [HC.out]
          go_wp2_with fail
          refine (check_any _ _ _ m _ KB.out).mono ?_
          rintro e w1 ⟨rfl, rfl⟩
          rw [HD.out]
          go_wp2
          go_ret2
          exact shapeE_nil HR.out (Below.refl _ _)
        · have d2 : decide (step > 8) = false := decide_eq_false c2
          by_cases c3 : pad < 0
          · have d3 : decide (pad < 0) = true := decide_eq_true c3
            have HR := Lib.hid (show Gr.window l m step pad = [] by unfold Gr.window; rw [if_pos (.inr (.inr (.inr (.inr (.inl c3)))))])
            clear hcl hcm
            go_enter Try.func111, Try.ntmps111
            go_wp2_with fail
            refine (check_any _ _ _ l _ KA.out).mono ?_
            rintro e w1 ⟨rfl, rfl⟩
            rw [HC.out]
            go_wp2_with fail
            refine (check_any _ _ _ m _ KB.out).mono ?_
            rintro e w1 ⟨rfl, rfl⟩
            rw [HD.out]
            go_wp2
            go_ret2
            exact shapeE_nil HR.out (Below.refl _ _)
          · have d3 : decide (pad < 0) = false := decide_eq_false c3
            by_cases c4 : 8 < pad
            · have d4 : decide (pad > 8) = true := decide_eq_true c4
              have HR := Lib.hid (show Gr.window l m step pad = [] by unfold Gr.window; rw [if_pos (.inr (.inr (.inr (.inr (.inr c4)))))])
              clear hcl hcm
              go_enter Try.func111, Try.ntmps111
              go_wp2_with fail
              refine (check_any _ _ _ l _ KA.out).mono ?_
              rintro e w1 ⟨rfl, rfl⟩
              rw [HC.out]
              go_wp2_with fail
              refine (check_any _ _ _ m _ KB.out).mono ?_
              rintro e w1 ⟨rfl, rfl⟩
              rw [HD.out]
              go_wp2
              go_ret2
              exact shapeE_nil HR.out (Below.refl _ _)
            · have d4 : decide (pad > 8) = false := decide_eq_false c4
              have HP := Lib.hid (show Gr.window l m step pad = if l.length ≠ 3 ∨ m.length ≠ 4 ∨ nth l 0 ≠ nth m 1 then [] else if Gr.chk [nth m 0, Gr.slides (nth l 1 + 2 * pad) (nth m 2) step, Gr.slides (nth l 2 + 2 * pad) (nth m 3) step] then [nth m 0, Gr.slides (nth l 1 + 2 * pad) (nth m 2) step, Gr.slides (nth l 2 + 2 * pad) (nth m 3) step] else [] by unfold Gr.window; rw [if_neg (by simp [hcl, hcm]; omega)])
              clear hcl hcm
              by_cases f1 : la = 3
              · subst f1
                have e1 : ((3 : Int) != 3) = false := rfl
                by_cases f2 : lb = 4
                · subst f2
                  have e2 : ((4 : Int) != 4) = false := rfl
                  obtain ⟨ba, oa, rfl, _, hca⟩ := KA.out.at_ (by omega)
                  obtain ⟨bb, ob, rfl, _, hcb⟩ := KB.out.at_ (by omega)
                  have a0 := hca 0 (by omega)
                  have a1 := hca 1 (by omega)
                  have a2 := hca 2 (by omega)
                  have b0 := hcb 0 (by omega)
                  have b1 := hcb 1 (by omega)
                  have b2 := hcb 2 (by omega)
                  have b3 := hcb 3 (by omega)
                  rw [Nat.add_zero] at a0 b0
                  obtain ⟨x1, x1'⟩ := HX.out _ (nth_mem l 1 (by rw [LA.out]; omega))
                  obtain ⟨x2, x2'⟩ := HX.out _ (nth_mem l 2 (by rw [LA.out]; omega))
                  obtain ⟨y0, y0'⟩ := HY.out _ (nth_mem m 0 (by rw [LB.out]; omega))
                  obtain ⟨y2, y2'⟩ := HY.out _ (nth_mem m 2 (by rw [LB.out]; omega))
                  obtain ⟨y3, y3'⟩ := HY.out _ (nth_mem m 3 (by rw [LB.out]; omega))
                  clear hca hcb
                  by_cases f3 : nth l 0 = nth m 1
                  · have e3 : (nth l 0 != nth m 1) = false := by simp [f3]
                    have HQ := Lib.hid (HP.out.trans (if_neg (by rw [LA.out, LB.out]; simp [f3])))
                    clear f3
                    go_enter Try.func111, Try.ntmps111
                    go_wp2_with fail
                    refine (check_any _ _ _ l _ KA.out).mono ?_
                    rintro e w1 ⟨rfl, rfl⟩
                    rw [HC.out]
                    go_wp2_with fail
                    refine (check_any _ _ _ m _ KB.out).mono ?_
                    rintro e w1 ⟨rfl, rfl⟩
                    rw [HD.out]
                    go_wp2_with fail
                    go_quiet (fail)
                    go_wp2_with fail
                    have HM := Lib.hid (below_drewN w nq w.heap.size)
                    have hz2 : (w.drewN nq).heap.size = w.heap.size := rfl
                    have a1' : (w.drewN nq).cell? ⟨ba, oa + 1, none⟩ = some (.int .i64 (nth l 1)) := a1
                    have a2' : (w.drewN nq).cell? ⟨ba, oa + 2, none⟩ = some (.int .i64 (nth l 2)) := a2
                    have b0' : (w.drewN nq).cell? ⟨bb, ob, none⟩ = some (.int .i64 (nth m 0)) := b0
                    have b2' : (w.drewN nq).cell? ⟨bb, ob + 2, none⟩ = some (.int .i64 (nth m 2)) := b2
                    have b3' : (w.drewN nq).cell? ⟨bb, ob + 3, none⟩ = some (.int .i64 (nth m 3)) := b3
                    clear a0 a1 a2 b0 b1 b2 b3
                    generalize w.drewN nq = w2 at *
                    have r1 : IntKind.i64.wrap (2 * pad) = 2 * pad := by rw [IntKind.wrap_i64]; omega
                    have r2 : IntKind.i64.wrap (nth l 1 + 2 * pad) = nth l 1 + 2 * pad := by rw [IntKind.wrap_i64]; omega
                    have r3 : IntKind.i64.wrap (nth l 2 + 2 * pad) = nth l 2 + 2 * pad := by rw [IntKind.wrap_i64]; omega
                    refine wp_region_still_tail 25 mixed (by kernel_rfl) ?_
                    simp only [List.take_succ_cons, List.take_zero, List.drop_succ_cons, List.drop_zero]
                    change wpStill _ _ w2.drew _ _ _
                    repeat still_step
                    still_call ((slides_any _ _ _ _ (by omega) (by omega) (by omega) (by omega) (by omega) (by omega)).mono fun _ _ ⟨he, hw⟩ => ⟨he, hw.symm⟩)
                    repeat still_step
                    still_call ((slides_any _ _ _ _ (by omega) (by omega) (by omega) (by omega) (by omega) (by omega)).mono fun _ _ ⟨he, hw⟩ => ⟨he, hw.symm⟩)
                    repeat still_step
                    refine wpStill_nil ?_
                    change wpList _ _ _ _ _ w2.drew
                    have HD2 := Lib.hid (HM.out.drew)
                    have hz3 : w2.drew.heap.size = w.heap.size := hz2
                    generalize w2.drew = w3 at *
                    have s1 := Gr.slides_range (nth l 1 + 2 * pad) (nth m 2) step (by omega) (by omega) (by omega)
                    have s2 := Gr.slides_range (nth l 2 + 2 * pad) (nth m 3) step (by omega) (by omega) (by omega)
                    have HI3 : Hid (Ints (w3.alloc (.cells #[.int .i64 (nth m 0), .int .i64 (Gr.slides (nth l 1 + 2 * pad) (nth m 2) step), .int .i64 (Gr.slides (nth l 2 + 2 * pad) (nth m 3) step)] 3)) (some ⟨w.heap.size, 0, none⟩) 3 3 [nth m 0, Gr.slides (nth l 1 + 2 * pad) (nth m 2) step, Gr.slides (nth l 2 + 2 * pad) (nth m 3) step]) := by
                      show Ints _ _ _ _ _
                      rw [← hz3]; exact ints_three _ _ _ _ ⟨by omega, by omega⟩ ⟨by omega, by omega⟩ ⟨by omega, by omega⟩
                    go_wp2_with fail
                    refine (check_any _ _ _ _ _ HI3.out).mono ?_
                    rintro e w1 ⟨rfl, rfl⟩
                    cases hs : Gr.chk [nth m 0, Gr.slides (nth l 1 + 2 * pad) (nth m 2) step, Gr.slides (nth l 2 + 2 * pad) (nth m 3) step] with
                    | true =>
                      have HR := Lib.hid (HQ.out.trans (if_pos hs))
                      clear hs
                      go_wp2
                      go_ret2
                      exact ⟨_, _, _, _, rfl, by rw [HR.out]; exact HI3.out, HD2.out.alloc (by omega) _⟩
                    | false =>
                      have HR := Lib.hid (HQ.out.trans (if_neg (by rw [hs]; simp)))
                      clear hs
                      go_wp2
                      go_ret2
                      exact shapeE_nil HR.out (HD2.out.alloc (by omega) _)
                  · have e3 : (nth l 0 != nth m 1) = true := by simp [f3]
                    have HR := Lib.hid (HP.out.trans (if_pos (.inr (.inr f3))))
                    clear f3
                    go_enter Try.func111, Try.ntmps111
                    go_wp2_with fail
                    refine (check_any _ _ _ l _ KA.out).mono ?_
                    rintro e w1 ⟨rfl, rfl⟩
                    rw [HC.out]
                    go_wp2_with fail
                    refine (check_any _ _ _ m _ KB.out).mono ?_
                    rintro e w1 ⟨rfl, rfl⟩
                    rw [HD.out]
                    go_wp2_with fail
                    go_quiet (fail)
                    go_wp2
                    go_ret2
                    exact shapeE_nil HR.out (below_drewN _ _ _)
                · have e2 : ((lb : Int) != 4) = true := by simp; omega
                  have HR := Lib.hid (HP.out.trans (if_pos (.inr (.inl (by rw [LB.out]; exact f2)))))
                  clear f2
                  go_enter Try.func111, Try.ntmps111
                  go_wp2_with fail
                  refine (check_any _ _ _ l _ KA.out).mono ?_
                  rintro e w1 ⟨rfl, rfl⟩
                  rw [HC.out]
                  go_wp2_with fail
                  refine (check_any _ _ _ m _ KB.out).mono ?_
                  rintro e w1 ⟨rfl, rfl⟩
                  rw [HD.out]
                  go_wp2_with fail
                  go_quiet (fail)
                  go_wp2
                  go_ret2
                  exact shapeE_nil HR.out (below_drewN _ _ _)
              · have e1 : ((la : Int) != 3) = true := by simp; omega
                have HR := Lib.hid (HP.out.trans (if_pos (.inl (by rw [LA.out]; exact f1))))
                clear f1
                go_enter Try.func111, Try.ntmps111
                go_wp2_with fail
                refine (check_any _ _ _ l _ KA.out).mono ?_
                rintro e w1 ⟨rfl, rfl⟩
                rw [HC.out]
                go_wp2_with fail
                refine (check_any _ _ _ m _ KB.out).mono ?_
                rintro e w1 ⟨rfl, rfl⟩
                rw [HD.out]
                go_wp2_with fail
                go_quiet (fail)
                go_wp2
                go_ret2
                exact shapeE_nil HR.out (below_drewN _ _ _)
end Go.Proofs.Ytgmagldbfajedaa
