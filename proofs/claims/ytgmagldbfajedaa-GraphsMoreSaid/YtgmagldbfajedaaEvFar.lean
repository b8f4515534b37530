/-
  drydockref21 far: contract far_any (the next use of a node, or one past the last).
-/
import Derived.Test.YtgmagldbfajedaaEvCmp
import Derived.StillTailTactics
namespace Go.Proofs.Ytgmagldbfajedaa
open Go.RowKit Go.Sort

theorem Ints.get {w : World} {a : Option Addr} {len cap : Nat} {l : List Int} (h : Ints w a len cap l) {x : Int} (h0 : 0 ≤ x) (h1 : x < len) :
    ∃ b off, a = some ⟨b, off, none⟩ ∧ b < w.heap.size ∧ w.cell? ⟨b, off + x.toNat, none⟩ = some (.int .i64 (Ev.at_ l x)) := by
  obtain ⟨b, off, e, hb, hc⟩ := h.at_ (by omega)
  exact ⟨b, off, e, hb, hc x.toNat (by omega)⟩

theorem at_wf {w : World} {a : Option Addr} {len cap : Nat} {l : List Int} (h : Ints w a len cap l) {x : Int} (h0 : 0 ≤ x) (h1 : x < len) : -9223372036854775808 ≤ Ev.at_ l x ∧ Ev.at_ l x ≤ 9223372036854775807 :=
  h.nth_wf (k := x.toNat) (by omega)

theorem ints_two (w : World) (u v : Int) (hu : -9223372036854775808 ≤ u ∧ u ≤ 9223372036854775807) (hv : -9223372036854775808 ≤ v ∧ v ≤ 9223372036854775807) :
    Ints (w.alloc (.cells #[.int .i64 u, .int .i64 v] 3)) (some ⟨w.heap.size, 0, none⟩) 2 2 [u, v] := by
  refine ⟨Nat.le_refl _, by omega, rfl, ?_, fun _ => ⟨w.heap.size, 0, rfl, by simp, ?_⟩⟩
  · intro n hn
    simp only [List.mem_cons, List.not_mem_nil, or_false] at hn
    rcases hn with rfl | rfl
    · exact hu
    · exact hv
  · intro i hi
    rw [World.cell?_alloc_at _ _ _ _ rfl]
    match i, hi with
    | 0, _ => rfl
    | 1, _ => rfl

theorem Ints.drew {w : World} {a : Option Addr} {len cap : Nat} {l : List Int} (h : Ints w a len cap l) : Ints w.drew a len cap l := h.drewN 1

theorem cmpI_wf (x y : Int) : -9223372036854775808 ≤ Ev.cmpI x y ∧ Ev.cmpI x y ≤ 9223372036854775807 := by
  unfold Ev.cmpI; split <;> (try split) <;> omega

theorem far_lt (bytes next : List Int) (x y : Int) (h : Ev.at_ next x < 0) (k : 0 ≤ Ev.at_ next y) : Ev.far bytes next x y = -1 := by unfold Ev.far; rw [if_pos ⟨h, k⟩]
theorem far_gt (bytes next : List Int) (x y : Int) (h : 0 ≤ Ev.at_ next x) (k : Ev.at_ next y < 0) : Ev.far bytes next x y = 1 := by unfold Ev.far; rw [if_neg (by omega), if_pos ⟨h, k⟩]
theorem far_cmp (bytes next : List Int) (x y : Int) (h : 0 ≤ Ev.at_ next x) (k : 0 ≤ Ev.at_ next y) (hn : Ev.at_ next x ≠ Ev.at_ next y) : Ev.far bytes next x y = Ev.cmpI (Ev.at_ next y) (Ev.at_ next x) := by
  unfold Ev.far; rw [if_neg (by omega), if_neg (by omega), if_pos ⟨h, hn⟩]
theorem far_or (bytes next : List Int) (x y : Int) (h : (0 ≤ Ev.at_ next x ∧ Ev.at_ next x = Ev.at_ next y) ∨ (Ev.at_ next x < 0 ∧ Ev.at_ next y < 0)) :
    Ev.far bytes next x y = Ev.orI (Ev.cmpI (Ev.at_ bytes y) (Ev.at_ bytes x)) (Ev.cmpI x y) := by
  unfold Ev.far; rw [if_neg (by omega), if_neg (by omega), if_neg (by omega)]

set_option maxHeartbeats 2000000 in
set_option maxRecDepth 100000 in
theorem far_any (ab an : Option Addr) (lb cb ln cn : Nat) (bytes next : List Int) (x y : Int) (w : World) (HB : Ints w ab lb cb bytes) (HN : Ints w an ln cn next) (hl : ln = lb)
    (hx0 : 0 ≤ x) (hx1 : x < lb) (hy0 : 0 ≤ y) (hy1 : y < lb) :
    Calls Try.prog 62 #[.agg #[.slice ab lb cb, .slice an ln cn, .func (.func 62) #[] #[]], .int .i64 x, .int .i64 y] w fun e w' => e = .returned (.int .i64 (Ev.far bytes next x y)) ∧ More w w' := by
  subst hl
  obtain ⟨bb, ob, rfl, hbb, cbx⟩ := HB.get hx0 hx1
  obtain ⟨_, _, e1, _, cby⟩ := HB.get hy0 hy1
  simp only [Option.some.injEq, Addr.mk.injEq] at e1
  obtain ⟨rfl, rfl, _⟩ := e1
  obtain ⟨bn, on, rfl, hbn, cnx⟩ := HN.get hx0 hx1
  obtain ⟨_, _, e2, _, cny⟩ := HN.get hy0 hy1
  simp only [Option.some.injEq, Addr.mk.injEq] at e2
  obtain ⟨rfl, rfl, _⟩ := e2
  clear HB HN
  by_cases h1 : Ev.at_ next x < 0
  · have d1 : decide (Ev.at_ next x < 0) = true := decide_eq_true h1
    have d2 : decide (Ev.at_ next x ≥ 0) = false := decide_eq_false (by omega)
    by_cases h2 : 0 ≤ Ev.at_ next y
    · have d3 : decide (Ev.at_ next y ≥ 0) = true := decide_eq_true h2
      have HR := Lib.hid (far_lt bytes next x y h1 h2)
      clear h1 h2
      go_enter Try.func62, Try.ntmps62
      go_wp2
      go_quiet (fail)
      go_wp2
      go_ret
      exact ⟨by rw [HR.out]; rfl, ((More.refl w).alloc _).drewN _⟩
    · have d3 : decide (Ev.at_ next y ≥ 0) = false := decide_eq_false h2
      have HR := Lib.hid (far_or bytes next x y (.inr ⟨h1, by omega⟩))
      clear h1 h2
      go_enter Try.func62, Try.ntmps62
      go_wp2
      go_quiet (fail)
      go_wp2
      have hM : More w ((w.alloc (.cells #[.slice (some ⟨bb, ob, none⟩) ln cb, .slice (some ⟨bn, on, none⟩) ln cn, .func (.func 62) #[] #[]] 89)).drewN nq) := ((More.refl w).alloc _).drewN nq
      have c0 : ((w.alloc (.cells #[.slice (some ⟨bb, ob, none⟩) ln cb, .slice (some ⟨bn, on, none⟩) ln cn, .func (.func 62) #[] #[]] 89)).drewN nq).cell? ⟨w.heap.size, 0, none⟩ = some (.slice (some ⟨bb, ob, none⟩) ln cb) := by
        rw [World.cell?_drewN, World.cell?_alloc_at _ _ _ _ rfl]; rfl
      have cbx2 := (hM.below.cell (p := ⟨bb, ob + x.toNat, none⟩) hbb).trans cbx
      have cby2 := (hM.below.cell (p := ⟨bb, ob + y.toNat, none⟩) hbb).trans cby
      clear cbx cby cnx cny
      generalize (w.alloc (.cells #[.slice (some ⟨bb, ob, none⟩) ln cb, .slice (some ⟨bn, on, none⟩) ln cn, .func (.func 62) #[] #[]] 89)).drewN nq = w2 at *
      have HM := Lib.hid hM; clear hM
      refine wp_region_still_tail 14 mixed (by kernel_rfl) ?_
      simp only [List.take_succ_cons, List.take_zero, List.drop_succ_cons, List.drop_zero]
      change wpStill _ _ w2.drew _ _ _
      repeat still_step
      still_call ((compare_any _ _ _).mono fun _ _ ⟨he, hw⟩ => ⟨he, hw.symm⟩)
      repeat still_step
      still_call ((compare_any _ _ _).mono fun _ _ ⟨he, hw⟩ => ⟨he, hw.symm⟩)
      repeat still_step
      refine wpStill_nil ?_
      change wpList _ _ _ _ _ w2.drew
      go_wp2_with (go_at_call 103; refine (or_any _ _ _ _ _ (ints_two w2 _ _ (cmpI_wf _ _) (cmpI_wf _ _)).drew).mono ?_; rintro e w1 ⟨rfl, rfl⟩; rw [orL_two])
      go_ret
      exact ⟨by rw [HR.out]; rfl, (HM.out.alloc _).drew⟩
  · have d1 : decide (Ev.at_ next x < 0) = false := decide_eq_false h1
    have d2 : decide (Ev.at_ next x ≥ 0) = true := decide_eq_true (by omega)
    by_cases h2 : 0 ≤ Ev.at_ next y
    · have d3 : decide (Ev.at_ next y ≥ 0) = true := decide_eq_true h2
      have d4 : decide (Ev.at_ next y < 0) = false := decide_eq_false (by omega)
      by_cases h3 : Ev.at_ next x = Ev.at_ next y
      · have d5 : (Ev.at_ next x != Ev.at_ next y) = false := by simp [h3]
        have HR := Lib.hid (far_or bytes next x y (.inl ⟨by omega, h3⟩))
        clear h1 h2 h3
        go_enter Try.func62, Try.ntmps62
        go_wp2
        go_quiet (fail)
        go_wp2
        have hM : More w ((w.alloc (.cells #[.slice (some ⟨bb, ob, none⟩) ln cb, .slice (some ⟨bn, on, none⟩) ln cn, .func (.func 62) #[] #[]] 89)).drewN nq) := ((More.refl w).alloc _).drewN nq
        have c0 : ((w.alloc (.cells #[.slice (some ⟨bb, ob, none⟩) ln cb, .slice (some ⟨bn, on, none⟩) ln cn, .func (.func 62) #[] #[]] 89)).drewN nq).cell? ⟨w.heap.size, 0, none⟩ = some (.slice (some ⟨bb, ob, none⟩) ln cb) := by
          rw [World.cell?_drewN, World.cell?_alloc_at _ _ _ _ rfl]; rfl
        have cbx2 := (hM.below.cell (p := ⟨bb, ob + x.toNat, none⟩) hbb).trans cbx
        have cby2 := (hM.below.cell (p := ⟨bb, ob + y.toNat, none⟩) hbb).trans cby
        clear cbx cby cnx cny
        generalize (w.alloc (.cells #[.slice (some ⟨bb, ob, none⟩) ln cb, .slice (some ⟨bn, on, none⟩) ln cn, .func (.func 62) #[] #[]] 89)).drewN nq = w2 at *
        have HM := Lib.hid hM; clear hM
        refine wp_region_still_tail 14 mixed (by kernel_rfl) ?_
        simp only [List.take_succ_cons, List.take_zero, List.drop_succ_cons, List.drop_zero]
        change wpStill _ _ w2.drew _ _ _
        repeat still_step
        still_call ((compare_any _ _ _).mono fun _ _ ⟨he, hw⟩ => ⟨he, hw.symm⟩)
        repeat still_step
        still_call ((compare_any _ _ _).mono fun _ _ ⟨he, hw⟩ => ⟨he, hw.symm⟩)
        repeat still_step
        refine wpStill_nil ?_
        change wpList _ _ _ _ _ w2.drew
        go_wp2_with (go_at_call 103; refine (or_any _ _ _ _ _ (ints_two w2 _ _ (cmpI_wf _ _) (cmpI_wf _ _)).drew).mono ?_; rintro e w1 ⟨rfl, rfl⟩; rw [orL_two])
        go_ret
        exact ⟨by rw [HR.out]; rfl, (HM.out.alloc _).drew⟩
      · have d5 : (Ev.at_ next x != Ev.at_ next y) = true := by simp [h3]
        have HR := Lib.hid (far_cmp bytes next x y (by omega) h2 h3)
        clear h1 h2 h3
        go_enter Try.func62, Try.ntmps62
        go_wp2
        go_quiet (fail)
        go_wp2_with (go_at_call 102; refine (compare_any _ _ _).mono ?_; rintro e w1 ⟨rfl, rfl⟩)
        go_ret
        exact ⟨by rw [HR.out]; rfl, ((More.refl w).alloc _).drewN _⟩
    · have d3 : decide (Ev.at_ next y < 0) = true := decide_eq_true (by omega)
      have HR := Lib.hid (far_gt bytes next x y (by omega) (by omega))
      clear h1 h2
      go_enter Try.func62, Try.ntmps62
      go_wp2
      go_quiet (fail)
      go_wp2
      go_ret
      exact ⟨by rw [HR.out]; rfl, ((More.refl w).alloc _).drewN _⟩
end Go.Proofs.Ytgmagldbfajedaa
