/-
  drydocklaw23.lives: contract clives23_any (it answers true); printed by gen_chalive.py.
-/
import Derived.Test.YtgmagldbfajedaaChSteps
import Derived.Test.YtgmagldbfajedaaGrJoinedLaw
namespace Go.Proofs.Ytgmagldbfajedaa
open Go.RowKit

/-- The chapter's graph. -/
def cKnown : List Gr.Node := [⟨1, [], [2], 0, 0⟩, ⟨5, [0], [], 0, 0⟩]
set_option maxRecDepth 100000 in
theorem cKnown_nodes (w1 : World) (b : Nat) (hb : b = w1.heap.size) : Nodes (((w1.alloc (.cells #[.int .i64 2] 3)).alloc (.cells #[.int .i64 0] 3)).alloc (.cells #[.int .u8 1, .slice none 0 0, .slice (some ⟨b, 0, none⟩) 1 1, .int .i64 0, .int .i64 0, .int .u8 5, .slice (some ⟨b + 1, 0, none⟩) 1 1, .slice none 0 0, .int .i64 0, .int .i64 0] 46)) (some ⟨b + 1 + 1, 0, none⟩) 2 2 cKnown := by
  have I0 : Ints (((w1.alloc (.cells #[.int .i64 2] 3)).alloc (.cells #[.int .i64 0] 3)).alloc (.cells #[.int .u8 1, .slice none 0 0, .slice (some ⟨b, 0, none⟩) 1 1, .int .i64 0, .int .i64 0, .int .u8 5, .slice (some ⟨b + 1, 0, none⟩) 1 1, .slice none 0 0, .int .i64 0, .int .i64 0] 46)) (some ⟨b, 0, none⟩) 1 1 [2] := ((ints_lits w1 (b) [2] (by simp [hb]) (by decide) (by decide)).alloc (.cells #[.int .i64 0] 3)).alloc (.cells #[.int .u8 1, .slice none 0 0, .slice (some ⟨b, 0, none⟩) 1 1, .int .i64 0, .int .i64 0, .int .u8 5, .slice (some ⟨b + 1, 0, none⟩) 1 1, .slice none 0 0, .int .i64 0, .int .i64 0] 46)
  have I1 : Ints (((w1.alloc (.cells #[.int .i64 2] 3)).alloc (.cells #[.int .i64 0] 3)).alloc (.cells #[.int .u8 1, .slice none 0 0, .slice (some ⟨b, 0, none⟩) 1 1, .int .i64 0, .int .i64 0, .int .u8 5, .slice (some ⟨b + 1, 0, none⟩) 1 1, .slice none 0 0, .int .i64 0, .int .i64 0] 46)) (some ⟨b + 1, 0, none⟩) 1 1 [0] := (ints_lits (w1.alloc (.cells #[.int .i64 2] 3)) (b + 1) [0] (by simp [hb]) (by decide) (by decide)).alloc (.cells #[.int .u8 1, .slice none 0 0, .slice (some ⟨b, 0, none⟩) 1 1, .int .i64 0, .int .i64 0, .int .u8 5, .slice (some ⟨b + 1, 0, none⟩) 1 1, .slice none 0 0, .int .i64 0, .int .i64 0] 46)
  have hz : b + 1 + 1 = ((w1.alloc (.cells #[.int .i64 2] 3)).alloc (.cells #[.int .i64 0] 3)).heap.size := by simp [hb]
  refine ⟨Nat.le_refl _, by omega, by omega, rfl, fun _ => ⟨b + 1 + 1, 0, rfl, by rw [hz]; simp, fun i hi => ?_⟩⟩
  rcases (by omega : i = 0 ∨ i = 1) with rfl | rfl
  · refine ⟨none, 0, 0, some ⟨b, 0, none⟩, 1, 1, ?_, ?_, ?_, ?_, ?_, nodeV_lit Ints.nil I0 (by omega) (by omega) (by omega) (by omega) (by omega)⟩ <;> (rw [World.cell?_alloc_at _ _ _ _ hz]; rfl)
  · refine ⟨some ⟨b + 1, 0, none⟩, 1, 1, none, 0, 0, ?_, ?_, ?_, ?_, ?_, nodeV_lit I1 Ints.nil (by omega) (by omega) (by omega) (by omega) (by omega)⟩ <;> (rw [World.cell?_alloc_at _ _ _ _ hz]; rfl)

theorem cKnown_a : Pl.chkF cKnown 16 [(1, 0), (2, 0), (3, 1)] = (0, true) := by decide +kernel
theorem cKnown_b : Pl.chkF cKnown 15 [(1, 0), (2, 0), (3, 1)] = (2, false) := by decide +kernel
theorem cKnown_c : Pl.chkF cKnown 16 [(1, 0), (3, 1)] = (1, false) := by decide +kernel
theorem cKnown_d : Pl.chkF cKnown 16 [(1, 0), (2, 0)] = (2, false) := by decide +kernel
theorem cSteps (w : World) : StepsIn (w.alloc (.cells #[.int .u8 1, .int .i64 0, .int .u8 2, .int .i64 0, .int .u8 3, .int .i64 1] 82)) (some ⟨w.heap.size, 0, none⟩) 3 3 [(1, 0), (2, 0), (3, 1)] := by
  refine ⟨Nat.le_refl _, by omega, rfl, fun _ => ⟨_, _, rfl, by simp, fun i hi => ?_⟩⟩
  rcases (by omega : i = 0 ∨ i = 1 ∨ i = 2) with rfl | rfl | rfl <;> exact ⟨by rw [World.cell?_alloc_at _ _ _ _ rfl]; rfl, by rw [World.cell?_alloc_at _ _ _ _ rfl]; rfl⟩
theorem cSteps2 (w : World) : StepsIn (w.alloc (.cells #[.int .u8 1, .int .i64 0, .int .u8 3, .int .i64 1] 82)) (some ⟨w.heap.size, 0, none⟩) 2 2 [(1, 0), (3, 1)] := by
  refine ⟨Nat.le_refl _, by omega, rfl, fun _ => ⟨_, _, rfl, by simp, fun i hi => ?_⟩⟩
  rcases (by omega : i = 0 ∨ i = 1) with rfl | rfl <;> exact ⟨by rw [World.cell?_alloc_at _ _ _ _ rfl]; rfl, by rw [World.cell?_alloc_at _ _ _ _ rfl]; rfl⟩

set_option maxHeartbeats 4000000 in
set_option maxRecDepth 100000 in
theorem clives23_any (w : World) : Calls Try.prog 57 #[] w fun e w' => e = .returned (.bool true) ∧ Below w.heap.size w w' := by
  have HN := cKnown_nodes w w.heap.size rfl
  have HB3 : Hid (Below w.heap.size w (((w.alloc (.cells #[.int .i64 2] 3)).alloc (.cells #[.int .i64 0] 3)).alloc (.cells #[.int .u8 1, .slice none 0 0, .slice (some ⟨w.heap.size, 0, none⟩) 1 1, .int .i64 0, .int .i64 0, .int .u8 5, .slice (some ⟨w.heap.size + 1, 0, none⟩) 1 1, .slice none 0 0, .int .i64 0, .int .i64 0] 46))) := ((((Below.refl _ _).alloc (Nat.le_refl _) _).alloc (by simp) _).alloc (by simp; omega) _)
  have hz3 : (((w.alloc (.cells #[.int .i64 2] 3)).alloc (.cells #[.int .i64 0] 3)).alloc (.cells #[.int .u8 1, .slice none 0 0, .slice (some ⟨w.heap.size, 0, none⟩) 1 1, .int .i64 0, .int .i64 0, .int .u8 5, .slice (some ⟨w.heap.size + 1, 0, none⟩) 1 1, .slice none 0 0, .int .i64 0, .int .i64 0] 46)).heap.size = w.heap.size + 3 := by simp
  have K0 := Lib.hid (GSt.start HN)
  have hB4 : Below ((((w.alloc (.cells #[.int .i64 2] 3)).alloc (.cells #[.int .i64 0] 3)).alloc (.cells #[.int .u8 1, .slice none 0 0, .slice (some ⟨w.heap.size, 0, none⟩) 1 1, .int .i64 0, .int .i64 0, .int .u8 5, .slice (some ⟨w.heap.size + 1, 0, none⟩) 1 1, .slice none 0 0, .int .i64 0, .int .i64 0] 46)).alloc (.cells #[.slice (some ⟨w.heap.size + 1 + 1, 0, none⟩) 2 2] 38)).heap.size ((((w.alloc (.cells #[.int .i64 2] 3)).alloc (.cells #[.int .i64 0] 3)).alloc (.cells #[.int .u8 1, .slice none 0 0, .slice (some ⟨w.heap.size, 0, none⟩) 1 1, .int .i64 0, .int .i64 0, .int .u8 5, .slice (some ⟨w.heap.size + 1, 0, none⟩) 1 1, .slice none 0 0, .int .i64 0, .int .i64 0] 46)).alloc (.cells #[.slice (some ⟨w.heap.size + 1 + 1, 0, none⟩) 2 2] 38)) (((((w.alloc (.cells #[.int .i64 2] 3)).alloc (.cells #[.int .i64 0] 3)).alloc (.cells #[.int .u8 1, .slice none 0 0, .slice (some ⟨w.heap.size, 0, none⟩) 1 1, .int .i64 0, .int .i64 0, .int .u8 5, .slice (some ⟨w.heap.size + 1, 0, none⟩) 1 1, .slice none 0 0, .int .i64 0, .int .i64 0] 46)).alloc (.cells #[.slice (some ⟨w.heap.size + 1 + 1, 0, none⟩) 2 2] 38)).alloc (.cells #[.int .u8 1, .int .i64 0, .int .u8 2, .int .i64 0, .int .u8 3, .int .i64 1] 82)) := (Below.refl _ _).alloc (Nat.le_refl _) _
  have K1 := Lib.hid (K0.out.on hB4)
  have hL := cSteps ((((w.alloc (.cells #[.int .i64 2] 3)).alloc (.cells #[.int .i64 0] 3)).alloc (.cells #[.int .u8 1, .slice none 0 0, .slice (some ⟨w.heap.size, 0, none⟩) 1 1, .int .i64 0, .int .i64 0, .int .u8 5, .slice (some ⟨w.heap.size + 1, 0, none⟩) 1 1, .slice none 0 0, .int .i64 0, .int .i64 0] 46)).alloc (.cells #[.slice (some ⟨w.heap.size + 1 + 1, 0, none⟩) 2 2] 38))
  have e5 : ((((w.alloc (.cells #[.int .i64 2] 3)).alloc (.cells #[.int .i64 0] 3)).alloc (.cells #[.int .u8 1, .slice none 0 0, .slice (some ⟨w.heap.size, 0, none⟩) 1 1, .int .i64 0, .int .i64 0, .int .u8 5, .slice (some ⟨w.heap.size + 1, 0, none⟩) 1 1, .slice none 0 0, .int .i64 0, .int .i64 0] 46)).alloc (.cells #[.slice (some ⟨w.heap.size + 1 + 1, 0, none⟩) 2 2] 38)).heap.size = w.heap.size + 3 + 1 := by simp
  rw [e5] at hL
  have HL1 := Lib.hid hL
  clear HN hB4 hL K0 e5
  go_enter Try.func57, Try.ntmps57
  go_wp2_with fail
  refine (chk_any _ _ _ cKnown 16 _ _ _ [(1, 0), (2, 0), (3, 1)] _ K1.out.n HL1.out).mono ?_
  rintro e w2 ⟨rfl, hb⟩
  rw [cKnown_a]
  have K2 := Lib.hid (K1.out.on hb)
  have HL2 := Lib.hid (HL1.out.below hb)
  have c2 : w2.cell? ⟨w.heap.size + 3, 0, none⟩ = some (.slice (some ⟨w.heap.size + 1 + 1, 0, none⟩) 2 2) := by have := K2.out.cell; rw [hz3] at this; exact this
  clear hb
  go_wp2_with fail
  refine (chk_any _ _ _ cKnown 15 _ _ _ [(1, 0), (2, 0), (3, 1)] _ K2.out.n HL2.out).mono ?_
  rintro e w4 ⟨rfl, hb⟩
  rw [cKnown_b]
  have K4 := Lib.hid (K2.out.on hb)
  have HL4 := Lib.hid (HL2.out.below hb)
  clear hb c2
  go_wp2_with fail
  have HK : Hid (∀ w', Below w4.heap.size w4 w' → w'.cell? ⟨w.heap.size + 3, 0, none⟩ = some (.slice (some ⟨w.heap.size + 1 + 1, 0, none⟩) 2 2) ∧ w'.cell? ⟨w.heap.size + 3 + 1, 0, none⟩ = some (.int .u8 1) ∧ w'.cell? ⟨w.heap.size + 3 + 1, 1, none⟩ = some (.int .i64 0) ∧ w'.cell? ⟨w.heap.size + 3 + 1, 4, none⟩ = some (.int .u8 3) ∧ w'.cell? ⟨w.heap.size + 3 + 1, 5, none⟩ = some (.int .i64 1)) := fun w' hb => by
    have h1 := (K4.out.on hb).cell
    rw [hz3] at h1
    obtain ⟨b, o, e, _, hc⟩ := (HL4.out.below hb).at_ (by omega)
    simp only [Option.some.injEq, Addr.mk.injEq] at e
    obtain ⟨rfl, rfl, _⟩ := e
    obtain ⟨p0, p1⟩ := hc 0 (by omega)
    obtain ⟨p2, p3⟩ := hc 2 (by omega)
    exact ⟨h1, p0, p1, p2, p3⟩
  have hBd : Below w4.heap.size w4 w4.drew := (Below.refl _ _).drew
  have HBd := Lib.hid hBd
  have HBa : Hid (∀ o, Below w4.heap.size w4 (w4.alloc o).drew) := fun o => ((Below.refl _ _).alloc (Nat.le_refl _) o).drew
  have S0 := Lib.hid (HK.out _ hBd)
  have S1 : Hid (∀ o, _) := fun o => HK.out _ (HBa.out o)
  clear hBd
  go_region_held3 (fun w' => w'.cell? ⟨w.heap.size + 3, 0, none⟩ = some (.slice (some ⟨w.heap.size + 1 + 1, 0, none⟩) 2 2) ∧ w'.cell? ⟨w.heap.size + 3 + 1, 0, none⟩ = some (.int .u8 1) ∧ w'.cell? ⟨w.heap.size + 3 + 1, 1, none⟩ = some (.int .i64 0) ∧ w'.cell? ⟨w.heap.size + 3 + 1, 4, none⟩ = some (.int .u8 3) ∧ w'.cell? ⟨w.heap.size + 3 + 1, 5, none⟩ = some (.int .i64 1))
    (first
      | with_reducible exact S6
      | with_reducible exact S0.out
      | with_reducible exact S1.out _)
    (first
      | (go_simp; go_at_call 58; refine (chk_any _ _ _ cKnown 16 _ _ _ [(1, 0), (3, 1)] _ (K4.out.on (HBa.out _)).n ((cSteps2 w4).below (Below.refl _ _).drew)).mono ?_; rintro e w6 ⟨rfl, hb6⟩; rw [cKnown_c]; have HB6 := (HBa.out _).trans (hb6.mono (HBa.out _).size); have S6 := HK.out w6 HB6))
  have HB6' := Lib.hid HB6
  have K6 := Lib.hid (K4.out.on HB6)
  have HL6 := Lib.hid (HL4.out.below HB6)
  clear HB6 S6 S0 S1 HK hb6
  go_wp2_with fail
  have hbd : Below w6.heap.size w6 w6.drew := (Below.refl _ _).drew
  have K7 := Lib.hid (K6.out.on hbd)
  have HL7 := Lib.hid (HL6.out.below hbd)
  have c7 : w6.drew.cell? ⟨w.heap.size + 3, 0, none⟩ = some (.slice (some ⟨w.heap.size + 1 + 1, 0, none⟩) 2 2) := by have := K7.out.cell; rw [hz3] at this; exact this
  have hsl := slice_take75 (some ⟨w.heap.size + 3 + 1, 0, none⟩) 3 3 2 (by omega) (by omega)
  refine wp_region_still_call 3 mixed (by kernel_rfl) ?_
  clear hbd
  simp only [List.take_succ_cons, List.take_zero, List.getElem?_cons_succ, List.getElem?_cons_zero]
  repeat still_step
  refine wpStill_nil ?_
  intro KC hKC
  simp only [List.drop_succ_cons, List.drop_zero] at hKC
  go_simp
  refine (chk_any _ _ _ cKnown 16 _ _ _ ([(1, 0), (2, 0), (3, 1)].take 2) _ K7.out.n (HL7.out.take 2 (by omega))).mono ?_
  rintro e w8 ⟨rfl, hb⟩
  rw [show ([(1, 0), (2, 0), (3, 1)] : List (Int × Int)).take 2 = [(1, 0), (2, 0)] from rfl, cKnown_d]
  have K8 := Lib.hid (K7.out.on hb)
  clear hb c7
  refine hKC _ _ ?_
  clear hKC KC
  repeat still_step
  refine wpStill_nil ?_
  go_wp2
  go_ret
  exact ⟨rfl, HB3.out.trans (K8.out.bel.mono (by omega))⟩
end Go.Proofs.Ytgmagldbfajedaa
