/-
  windows.PoolShape: contract pool_any.
-/
import Derived.Test.YtgmagldbfajedaaGrProd
import Derived.Test.YtgmagldbfajedaaGrOf
namespace Go.Proofs.Ytgmagldbfajedaa
open Go.RowKit

namespace Gr
/-- The lesser one, as the builtin reckons it. -/
def mn (x y : Int) : Int := if y < x then y else x
theorem mn_eq (x y : Int) : mn x y = min x y := by unfold mn; split <;> omega
end Gr

theorem ints_three (w : World) (x y z : Int) (hx : -9223372036854775808 ≤ x ∧ x ≤ 9223372036854775807) (hy : -9223372036854775808 ≤ y ∧ y ≤ 9223372036854775807) (hz : -9223372036854775808 ≤ z ∧ z ≤ 9223372036854775807) :
    Ints (w.alloc (.cells #[.int .i64 x, .int .i64 y, .int .i64 z] 3)) (some ⟨w.heap.size, 0, none⟩) 3 3 [x, y, z] := by
  refine ⟨Nat.le_refl _, by omega, rfl, fun n hn => ?_, fun _ => ⟨w.heap.size, 0, rfl, by simp, fun i hi => ?_⟩⟩
  · simp only [List.mem_cons, List.not_mem_nil, or_false] at hn
    rcases hn with rfl | rfl | rfl <;> assumption
  · rcases (by omega : i = 0 ∨ i = 1 ∨ i = 2) with rfl | rfl | rfl <;> (rw [Nat.zero_add, World.cell?_alloc_at _ _ _ _ rfl]; rfl)

theorem min_run (w : World) (tys : Array TypeId) (t : TypeId) (x y : Int) : (Builtin.min_ tys t #[.int .i64 x, .int .i64 y]).run Try.prog w = .ok (.int .i64 (Gr.mn x y)) w := rfl

set_option maxRecDepth 100000 in
set_option maxHeartbeats 2000000 in
theorem pool_any (a : Option Addr) (la ca : Nat) (l : List Int) (wide : Int) (w : World) (HA : Ints w a la ca l) :
    Calls Try.prog 112 #[.slice a la ca, .int .i64 wide] w fun e w' => ShapeE w (Gr.pool l wide) e w' := by
  have KA := Lib.hid HA
  have ha1 := HA.le
  have ha2 := HA.cap_le
  have LA := Lib.hid HA.length
  clear HA
  cases hcl : Gr.chk l with
  | false =>
    have HR := Lib.hid (show Gr.pool l wide = [] by unfold Gr.pool; rw [if_pos (.inl hcl)])
    have HC := Lib.hid hcl; clear hcl
    go_enter Try.func112, Try.ntmps112
    go_wp2_with fail
    refine (check_any _ _ _ l _ KA.out).mono ?_
    rintro e w1 ⟨rfl, rfl⟩
    rw [HC.out]
    go_wp2
    go_ret2
    exact shapeE_nil HR.out (Below.refl _ _)
  | true =>
    have HC := Lib.hid hcl
    have HD := Lib.hid (Gr.chk_parts hcl).2.2
    by_cases c1 : wide < 1
    · have HR := Lib.hid (show Gr.pool l wide = [] by unfold Gr.pool; rw [if_pos (.inr (.inl c1))])
      have d1 : decide (wide < 1) = true := decide_eq_true c1
      clear hcl c1
      go_enter Try.func112, Try.ntmps112
      go_wp2_with fail
      refine (check_any _ _ _ l _ KA.out).mono ?_
      rintro e w1 ⟨rfl, rfl⟩
      rw [HC.out]
      go_wp2
      go_ret2
      exact shapeE_nil HR.out (Below.refl _ _)
    · have d1 : decide (wide < 1) = false := decide_eq_false c1
      by_cases c2 : 64 < wide
      · have HR := Lib.hid (show Gr.pool l wide = [] by unfold Gr.pool; rw [if_pos (.inr (.inr c2))])
        have d2 : decide (wide > 64) = true := decide_eq_true c2
        clear hcl c1 c2
        go_enter Try.func112, Try.ntmps112
        go_wp2_with fail
        refine (check_any _ _ _ l _ KA.out).mono ?_
        rintro e w1 ⟨rfl, rfl⟩
        rw [HC.out]
        go_wp2
        go_ret2
        exact shapeE_nil HR.out (Below.refl _ _)
      · have d2 : decide (wide > 64) = false := decide_eq_false c2
        have HP := Lib.hid (show Gr.pool l wide = if l.length ≠ 3 ∨ min (nth l 1) (nth l 2) < wide then [] else [nth l 0, Gr.slides (nth l 1) wide wide, Gr.slides (nth l 2) wide wide] by unfold Gr.pool; rw [if_neg (by simp [hcl]; omega)])
        by_cases c3 : la = 3
        · subst c3
          obtain ⟨ba, oa, rfl, _, hca⟩ := KA.out.at_ (by omega)
          have a0 := hca 0 (by omega)
          have a1 := hca 1 (by omega)
          have a2 := hca 2 (by omega)
          rw [Nat.add_zero] at a0
          obtain ⟨x0, x1⟩ := HD.out _ (nth_mem l 0 (by rw [LA.out]; omega))
          obtain ⟨y0, y1⟩ := HD.out _ (nth_mem l 1 (by rw [LA.out]; omega))
          obtain ⟨z0, z1⟩ := HD.out _ (nth_mem l 2 (by rw [LA.out]; omega))
          have e3 : ((3 : Int) != 3) = false := rfl
          have hmin := min_run
          by_cases c4 : Gr.mn (nth l 1) (nth l 2) < wide
          · have d4 : decide (Gr.mn (nth l 1) (nth l 2) < wide) = true := decide_eq_true c4
            have HR := Lib.hid (show Gr.pool l wide = [] by rw [HP.out, if_pos (.inr (by rw [← Gr.mn_eq]; exact c4))])
            clear hca hcl c4
            go_enter Try.func112, Try.ntmps112
            go_wp2_with fail
            refine (check_any _ _ _ l _ KA.out).mono ?_
            rintro e w1 ⟨rfl, rfl⟩
            rw [HC.out]
            go_wp2_with fail
            go_quiet (fail)
            go_wp2
            go_ret2
            exact shapeE_nil HR.out (below_drewN _ _ _)
          · have d4 : decide (Gr.mn (nth l 1) (nth l 2) < wide) = false := decide_eq_false c4
            have HR := Lib.hid (show Gr.pool l wide = [nth l 0, Gr.slides (nth l 1) wide wide, Gr.slides (nth l 2) wide wide] by rw [HP.out, if_neg (by rw [← Gr.mn_eq, LA.out]; simp; omega)])
            clear hca hcl c4
            go_enter Try.func112, Try.ntmps112
            go_wp2_with fail
            refine (check_any _ _ _ l _ KA.out).mono ?_
            rintro e w1 ⟨rfl, rfl⟩
            rw [HC.out]
            go_wp2_with fail
            go_quiet (fail)
            go_wp2_with fail
            have HM := Lib.hid (below_drewN w nq w.heap.size)
            have hz2 : (w.drewN nq).heap.size = w.heap.size := rfl
            have a0' : (w.drewN nq).cell? ⟨ba, oa, none⟩ = some (.int .i64 (nth l 0)) := a0
            have a1' : (w.drewN nq).cell? ⟨ba, oa + 1, none⟩ = some (.int .i64 (nth l 1)) := a1
            have a2' : (w.drewN nq).cell? ⟨ba, oa + 2, none⟩ = some (.int .i64 (nth l 2)) := a2
            clear a0 a1 a2 hmin
            generalize w.drewN nq = w2 at *
            refine wp_region_still_tail 15 mixed (by kernel_rfl) ?_
            simp only [List.take_succ_cons, List.take_zero, List.drop_succ_cons, List.drop_zero]
            change wpStill _ _ w2.drew _ _ _
            repeat still_step
            still_call ((slides_any _ _ _ _ (by omega) (by omega) (by omega) (by omega) (by omega) (by omega)).mono fun _ _ ⟨he, hw⟩ => ⟨he, hw.symm⟩)
            repeat still_step
            still_call ((slides_any _ _ _ _ (by omega) (by omega) (by omega) (by omega) (by omega) (by omega)).mono fun _ _ ⟨he, hw⟩ => ⟨he, hw.symm⟩)
            repeat still_step
            refine wpStill_nil ?_
            change wpList _ _ _ _ _ w2.drew
            have HD2 := Lib.hid (HM.out.drew)
            have hz3 : w2.drew.heap.size = w.heap.size := hz2
            generalize w2.drew = w3 at *
            have s1 := Gr.slides_range (nth l 1) wide wide (by omega) (by omega) (by omega)
            have s2 := Gr.slides_range (nth l 2) wide wide (by omega) (by omega) (by omega)
            go_wp2
            go_ret2
            exact ⟨_, _, _, _, rfl, by rw [HR.out, ← hz3]; exact ints_three _ _ _ _ ⟨by omega, by omega⟩ ⟨by omega, by omega⟩ ⟨by omega, by omega⟩, HD2.out.alloc (by omega) _⟩
        · have e3 : ((la : Int) != 3) = true := by simp; omega
          have HR := Lib.hid (show Gr.pool l wide = [] by rw [HP.out, if_pos (.inl (by rw [LA.out]; exact c3))])
          clear hcl c1 c2 c3
          go_enter Try.func112, Try.ntmps112
          go_wp2_with fail
          refine (check_any _ _ _ l _ KA.out).mono ?_
          rintro e w1 ⟨rfl, rfl⟩
          rw [HC.out]
          go_wp2_with fail
          go_quiet (fail)
          go_wp2
          go_ret2
          exact shapeE_nil HR.out (below_drewN _ _ _)
end Go.Proofs.Ytgmagldbfajedaa
