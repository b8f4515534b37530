/-
  products.Shape: contract product_any.
-/
import Derived.Test.YtgmagldbfajedaaShp
import Derived.Test.YtgmagldbfajedaaEvFar
namespace Go.Proofs.Ytgmagldbfajedaa
open Go.RowKit

/-- What a function of shapes answers: a shape that can be read, and a number. -/
def ShapeE (w : World) (l : List Int) (e : Ending) (w' : World) : Prop := ∃ a len cap E, e = .returned (.tuple #[.slice a len cap, .int .i64 E]) ∧ Ints w' a len cap l ∧ Below w.heap.size w w'

theorem shapeE_nil {w w' : World} {l : List Int} {E : Int} (hl : l = []) (hb : Below w.heap.size w w') : ShapeE w l (.returned (.tuple #[.slice none 0 0, .int .i64 E])) w' :=
  ⟨none, 0, 0, E, rfl, by rw [hl]; exact Ints.nil, hb⟩

set_option maxRecDepth 100000 in
set_option maxHeartbeats 2000000 in
theorem product_any (a b : Option Addr) (la ca lb cb : Nat) (l m : List Int) (w : World) (HA : Ints w a la ca l) (HB : Ints w b lb cb m) :
    Calls Try.prog 110 #[.slice a la ca, .slice b lb cb] w fun e w' => ShapeE w (Gr.product l m) e w' := by
  have KA := Lib.hid HA
  have KB := Lib.hid HB
  have ha1 := HA.le
  have ha2 := HA.cap_le
  have hb1 := HB.le
  have hb2 := HB.cap_le
  have LA := Lib.hid HA.length
  have LB := Lib.hid HB.length
  clear HA HB
  cases hcl : Gr.chk l with
  | false =>
    have HR := Lib.hid (show Gr.product l m = [] by unfold Gr.product; rw [if_pos (.inl hcl)])
    have HC := Lib.hid hcl; clear hcl
    go_enter Try.func110, Try.ntmps110
    go_wp2_with fail
    refine (check_any _ _ _ l _ KA.out).mono ?_
    rintro e w1 ⟨rfl, rfl⟩
    rw [HC.out]
    go_wp2
    go_ret2
    exact shapeE_nil HR.out (Below.refl _ _)
  | true =>
    have HC := Lib.hid hcl
    cases hcm : Gr.chk m with
    | false =>
      have HR := Lib.hid (show Gr.product l m = [] by unfold Gr.product; rw [if_pos (.inr hcm)])
      have HD := Lib.hid hcm; clear hcl hcm
      go_enter Try.func110, Try.ntmps110
      go_wp2_with fail
      refine (check_any _ _ _ l _ KA.out).mono ?_
      rintro e w1 ⟨rfl, rfl⟩
      rw [HC.out]
      go_wp2_with fail
      refine (check_any _ _ _ m _ KB.out).mono ?_
      rintro e w1 ⟨rfl, rfl⟩
      rw [HD.out]
      go_wp2
      go_ret2
      exact shapeE_nil HR.out (Below.refl _ _)
    | true =>
      have HD := Lib.hid hcm
      have HP := Lib.hid (show Gr.product l m = if l.length ≠ 2 ∨ m.length ≠ 2 ∨ nth l 1 ≠ nth m 0 then [] else [nth l 0, nth m 1] by unfold Gr.product; rw [if_neg (by simp [hcl, hcm])])
      clear hcl hcm
      have start : ∀ (P : Prop), P → P := fun _ h => h
      clear start
      by_cases h1 : la = 2
      · subst h1
        have e1 : ((2 : Int) != 2) = false := rfl
        by_cases h2 : lb = 2
        · subst h2
          obtain ⟨ba, oa, rfl, _, hca⟩ := KA.out.at_ (by omega)
          obtain ⟨bb, ob, rfl, _, hcb⟩ := KB.out.at_ (by omega)
          have a0 := hca 0 (by omega)
          have a1 := hca 1 (by omega)
          have b0 := hcb 0 (by omega)
          have b1 := hcb 1 (by omega)
          rw [Nat.add_zero] at a0 b0
          have wa := KA.out.nth_wf (k := 0) (by omega)
          have wb := KB.out.nth_wf (k := 1) (by omega)
          clear hca hcb
          by_cases h3 : nth l 1 = nth m 0
          · have e3 : (nth l 1 != nth m 0) = false := by simp [h3]
            have HR := Lib.hid (show Gr.product l m = [nth l 0, nth m 1] by rw [HP.out, if_neg (by rw [LA.out, LB.out]; simp [h3])])
            clear h3
            go_enter Try.func110, Try.ntmps110
            go_wp2_with fail
            refine (check_any _ _ _ l _ KA.out).mono ?_
            rintro e w1 ⟨rfl, rfl⟩
            rw [HC.out]
            go_wp2_with fail
            refine (check_any _ _ _ m _ KB.out).mono ?_
            rintro e w1 ⟨rfl, rfl⟩
            rw [HD.out]
            go_wp2_with fail
            go_quiet (fail)
            go_wp2_with fail
            have HM := Lib.hid (below_drewN w nq w.heap.size)
            have hz2 : (w.drewN nq).heap.size = w.heap.size := rfl
            have a0' : (w.drewN nq).cell? ⟨ba, oa, none⟩ = some (.int .i64 (nth l 0)) := a0
            have b1' : (w.drewN nq).cell? ⟨bb, ob + 1, none⟩ = some (.int .i64 (nth m 1)) := b1
            clear a0 a1 b0 b1
            generalize w.drewN nq = w2 at *
            refine wp_region_still_tail 6 mixed (by kernel_rfl) ?_
            simp only [List.take_succ_cons, List.take_zero, List.drop_succ_cons, List.drop_zero]
            change wpStill _ _ w2.drew _ _ _
            repeat still_step
            refine wpStill_nil ?_
            change wpList _ _ _ _ _ w2.drew
            have HD2 := Lib.hid (HM.out.drew)
            have hz3 : w2.drew.heap.size = w.heap.size := hz2
            generalize w2.drew = w3 at *
            go_wp2
            go_ret2
            exact ⟨_, _, _, _, rfl, by rw [HR.out, ← hz3]; exact ints_two _ _ _ wa wb, HD2.out.alloc (by omega) _⟩
          · have e3 : (nth l 1 != nth m 0) = true := by simp [h3]
            have HR := Lib.hid (show Gr.product l m = [] by rw [HP.out, if_pos (.inr (.inr h3))])
            clear h3
            go_enter Try.func110, Try.ntmps110
            go_wp2_with fail
            refine (check_any _ _ _ l _ KA.out).mono ?_
            rintro e w1 ⟨rfl, rfl⟩
            rw [HC.out]
            go_wp2_with fail
            refine (check_any _ _ _ m _ KB.out).mono ?_
            rintro e w1 ⟨rfl, rfl⟩
            rw [HD.out]
            go_wp2_with fail
            go_quiet (fail)
            go_wp2
            go_ret2
            exact shapeE_nil HR.out (below_drewN _ _ _)
        · have e2 : ((lb : Int) != 2) = true := by simp; omega
          have HR := Lib.hid (show Gr.product l m = [] by rw [HP.out, if_pos (.inr (.inl (by rw [LB.out]; exact h2)))])
          clear h2
          go_enter Try.func110, Try.ntmps110
          go_wp2_with fail
          refine (check_any _ _ _ l _ KA.out).mono ?_
          rintro e w1 ⟨rfl, rfl⟩
          rw [HC.out]
          go_wp2_with fail
          refine (check_any _ _ _ m _ KB.out).mono ?_
          rintro e w1 ⟨rfl, rfl⟩
          rw [HD.out]
          go_wp2_with fail
          go_quiet (fail)
          go_wp2
          go_ret2
          exact shapeE_nil HR.out (below_drewN _ _ _)
      · have e1 : ((la : Int) != 2) = true := by simp; omega
        have HR := Lib.hid (show Gr.product l m = [] by rw [HP.out, if_pos (.inl (by rw [LA.out]; exact h1))])
        clear h1
        go_enter Try.func110, Try.ntmps110
        go_wp2_with fail
        refine (check_any _ _ _ l _ KA.out).mono ?_
        rintro e w1 ⟨rfl, rfl⟩
        rw [HC.out]
        go_wp2_with fail
        refine (check_any _ _ _ m _ KB.out).mono ?_
        rintro e w1 ⟨rfl, rfl⟩
        rw [HD.out]
        go_wp2_with fail
        go_quiet (fail)
        go_wp2
        go_ret2
        exact shapeE_nil HR.out (below_drewN _ _ _)
end Go.Proofs.Ytgmagldbfajedaa
