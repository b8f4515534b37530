/-
  drydocklaw22.lives: contract plives_any (it answers true); printed by gen_plalive.py.
-/
import Derived.Test.YtgmagldbfajedaaPlPeak
namespace Go.Proofs.Ytgmagldbfajedaa
open Go.RowKit

/-- The chapter's graph. -/
def pKnown : List Gr.Node := [⟨1, [], [2], 0, 0⟩, ⟨5, [0], [], 0, 0⟩, ⟨3, [0, 1], [], 0, 0⟩]
set_option maxRecDepth 100000 in
theorem pKnown_nodes (w1 : World) (b : Nat) (hb : b = w1.heap.size) : Nodes ((((w1.alloc (.cells #[.int .i64 2] 3)).alloc (.cells #[.int .i64 0] 3)).alloc (.cells #[.int .i64 0, .int .i64 1] 3)).alloc (.cells #[.int .u8 1, .slice none 0 0, .slice (some ⟨b, 0, none⟩) 1 1, .int .i64 0, .int .i64 0, .int .u8 5, .slice (some ⟨b + 1, 0, none⟩) 1 1, .slice none 0 0, .int .i64 0, .int .i64 0, .int .u8 3, .slice (some ⟨b + 1 + 1, 0, none⟩) 2 2, .slice none 0 0, .int .i64 0, .int .i64 0] 46)) (some ⟨b + 1 + 1 + 1, 0, none⟩) 3 3 pKnown := by
  have I0 : Ints ((((w1.alloc (.cells #[.int .i64 2] 3)).alloc (.cells #[.int .i64 0] 3)).alloc (.cells #[.int .i64 0, .int .i64 1] 3)).alloc (.cells #[.int .u8 1, .slice none 0 0, .slice (some ⟨b, 0, none⟩) 1 1, .int .i64 0, .int .i64 0, .int .u8 5, .slice (some ⟨b + 1, 0, none⟩) 1 1, .slice none 0 0, .int .i64 0, .int .i64 0, .int .u8 3, .slice (some ⟨b + 1 + 1, 0, none⟩) 2 2, .slice none 0 0, .int .i64 0, .int .i64 0] 46)) (some ⟨b, 0, none⟩) 1 1 [2] := (((ints_lits w1 (b) [2] (by simp [hb]) (by decide) (by decide)).alloc (.cells #[.int .i64 0] 3)).alloc (.cells #[.int .i64 0, .int .i64 1] 3)).alloc (.cells #[.int .u8 1, .slice none 0 0, .slice (some ⟨b, 0, none⟩) 1 1, .int .i64 0, .int .i64 0, .int .u8 5, .slice (some ⟨b + 1, 0, none⟩) 1 1, .slice none 0 0, .int .i64 0, .int .i64 0, .int .u8 3, .slice (some ⟨b + 1 + 1, 0, none⟩) 2 2, .slice none 0 0, .int .i64 0, .int .i64 0] 46)
  have I1 : Ints ((((w1.alloc (.cells #[.int .i64 2] 3)).alloc (.cells #[.int .i64 0] 3)).alloc (.cells #[.int .i64 0, .int .i64 1] 3)).alloc (.cells #[.int .u8 1, .slice none 0 0, .slice (some ⟨b, 0, none⟩) 1 1, .int .i64 0, .int .i64 0, .int .u8 5, .slice (some ⟨b + 1, 0, none⟩) 1 1, .slice none 0 0, .int .i64 0, .int .i64 0, .int .u8 3, .slice (some ⟨b + 1 + 1, 0, none⟩) 2 2, .slice none 0 0, .int .i64 0, .int .i64 0] 46)) (some ⟨b + 1, 0, none⟩) 1 1 [0] := ((ints_lits (w1.alloc (.cells #[.int .i64 2] 3)) (b + 1) [0] (by simp [hb]) (by decide) (by decide)).alloc (.cells #[.int .i64 0, .int .i64 1] 3)).alloc (.cells #[.int .u8 1, .slice none 0 0, .slice (some ⟨b, 0, none⟩) 1 1, .int .i64 0, .int .i64 0, .int .u8 5, .slice (some ⟨b + 1, 0, none⟩) 1 1, .slice none 0 0, .int .i64 0, .int .i64 0, .int .u8 3, .slice (some ⟨b + 1 + 1, 0, none⟩) 2 2, .slice none 0 0, .int .i64 0, .int .i64 0] 46)
  have I2 : Ints ((((w1.alloc (.cells #[.int .i64 2] 3)).alloc (.cells #[.int .i64 0] 3)).alloc (.cells #[.int .i64 0, .int .i64 1] 3)).alloc (.cells #[.int .u8 1, .slice none 0 0, .slice (some ⟨b, 0, none⟩) 1 1, .int .i64 0, .int .i64 0, .int .u8 5, .slice (some ⟨b + 1, 0, none⟩) 1 1, .slice none 0 0, .int .i64 0, .int .i64 0, .int .u8 3, .slice (some ⟨b + 1 + 1, 0, none⟩) 2 2, .slice none 0 0, .int .i64 0, .int .i64 0] 46)) (some ⟨b + 1 + 1, 0, none⟩) 2 2 [0, 1] := (ints_lits ((w1.alloc (.cells #[.int .i64 2] 3)).alloc (.cells #[.int .i64 0] 3)) (b + 1 + 1) [0, 1] (by simp [hb]) (by decide) (by decide)).alloc (.cells #[.int .u8 1, .slice none 0 0, .slice (some ⟨b, 0, none⟩) 1 1, .int .i64 0, .int .i64 0, .int .u8 5, .slice (some ⟨b + 1, 0, none⟩) 1 1, .slice none 0 0, .int .i64 0, .int .i64 0, .int .u8 3, .slice (some ⟨b + 1 + 1, 0, none⟩) 2 2, .slice none 0 0, .int .i64 0, .int .i64 0] 46)
  have hz : b + 1 + 1 + 1 = (((w1.alloc (.cells #[.int .i64 2] 3)).alloc (.cells #[.int .i64 0] 3)).alloc (.cells #[.int .i64 0, .int .i64 1] 3)).heap.size := by simp [hb]
  refine ⟨Nat.le_refl _, by omega, by omega, rfl, fun _ => ⟨b + 1 + 1 + 1, 0, rfl, by rw [hz]; simp, fun i hi => ?_⟩⟩
  rcases (by omega : i = 0 ∨ i = 1 ∨ i = 2) with rfl | rfl | rfl
  · refine ⟨none, 0, 0, some ⟨b, 0, none⟩, 1, 1, ?_, ?_, ?_, ?_, ?_, nodeV_lit Ints.nil I0 (by omega) (by omega) (by omega) (by omega) (by omega)⟩ <;> (rw [World.cell?_alloc_at _ _ _ _ hz]; rfl)
  · refine ⟨some ⟨b + 1, 0, none⟩, 1, 1, none, 0, 0, ?_, ?_, ?_, ?_, ?_, nodeV_lit I1 Ints.nil (by omega) (by omega) (by omega) (by omega) (by omega)⟩ <;> (rw [World.cell?_alloc_at _ _ _ _ hz]; rfl)
  · refine ⟨some ⟨b + 1 + 1, 0, none⟩, 2, 2, none, 0, 0, ?_, ?_, ?_, ?_, ?_, nodeV_lit I2 Ints.nil (by omega) (by omega) (by omega) (by omega) (by omega)⟩ <;> (rw [World.cell?_alloc_at _ _ _ _ hz]; rfl)

theorem pKnown_shapes : Gr.shapes pKnown = some [[2], [2], [2]] := by decide
theorem pKnown_least : Co.leastF (Co.costs pKnown [[2], [2], [2]]) (Od.ordOf pKnown) = 24 := by decide
set_option maxRecDepth 100000 in
theorem pKnown_plan : (Pl.planSt pKnown [[2], [2], [2]] 24).l = [(1, 0), (2, 0), (3, 1), (3, 2), (5, 0), (5, 1)] := by decide +kernel
set_option maxRecDepth 100000 in
theorem pKnown_peak : Pl.peakF (fun u => nth (Pl.bytesOf pKnown [[2], [2], [2]]) u) (fun _ => 0) 0 0 [(1, 0), (2, 0), (3, 1), (3, 2), (5, 0), (5, 1)] = 24 := by decide +kernel
theorem pKnown_ok : ∀ x ∈ ([(1, 0), (2, 0), (3, 1), (3, 2), (5, 0), (5, 1)] : List (Int × Int)), OkStep 3 x := by
  intro x hx
  simp only [List.mem_cons, List.not_mem_nil, or_false] at hx
  rcases hx with rfl | rfl | rfl | rfl | rfl | rfl <;> (unfold OkStep; simp)
theorem pWant (w : World) : StepsIn (w.alloc (.cells #[.int .u8 1, .int .i64 0, .int .u8 2, .int .i64 0, .int .u8 3, .int .i64 1, .int .u8 3, .int .i64 2, .int .u8 5, .int .i64 0, .int .u8 5, .int .i64 1] 82)) (some ⟨w.heap.size, 0, none⟩) 6 6 [(1, 0), (2, 0), (3, 1), (3, 2), (5, 0), (5, 1)] := by
  refine ⟨Nat.le_refl _, by omega, rfl, fun _ => ⟨_, _, rfl, by simp, fun i hi => ?_⟩⟩
  rcases (by omega : i = 0 ∨ i = 1 ∨ i = 2 ∨ i = 3 ∨ i = 4 ∨ i = 5) with rfl | rfl | rfl | rfl | rfl | rfl <;> exact ⟨by rw [World.cell?_alloc_at _ _ _ _ rfl]; rfl, by rw [World.cell?_alloc_at _ _ _ _ rfl]; rfl⟩

set_option maxHeartbeats 4000000 in
set_option maxRecDepth 100000 in
theorem plives_any (w : World) : Calls Try.prog 54 #[] w fun e w' => e = .returned (.bool true) ∧ Below w.heap.size w w' := by
  have HN := pKnown_nodes w w.heap.size rfl
  have HB4 : Hid (Below w.heap.size w ((((w.alloc (.cells #[.int .i64 2] 3)).alloc (.cells #[.int .i64 0] 3)).alloc (.cells #[.int .i64 0, .int .i64 1] 3)).alloc (.cells #[.int .u8 1, .slice none 0 0, .slice (some ⟨w.heap.size, 0, none⟩) 1 1, .int .i64 0, .int .i64 0, .int .u8 5, .slice (some ⟨w.heap.size + 1, 0, none⟩) 1 1, .slice none 0 0, .int .i64 0, .int .i64 0, .int .u8 3, .slice (some ⟨w.heap.size + 1 + 1, 0, none⟩) 2 2, .slice none 0 0, .int .i64 0, .int .i64 0] 46))) := (((((Below.refl _ _).alloc (Nat.le_refl _) _).alloc (by simp) _).alloc (by simp; omega) _).alloc (by simp; omega) _)
  have hz4 : ((((w.alloc (.cells #[.int .i64 2] 3)).alloc (.cells #[.int .i64 0] 3)).alloc (.cells #[.int .i64 0, .int .i64 1] 3)).alloc (.cells #[.int .u8 1, .slice none 0 0, .slice (some ⟨w.heap.size, 0, none⟩) 1 1, .int .i64 0, .int .i64 0, .int .u8 5, .slice (some ⟨w.heap.size + 1, 0, none⟩) 1 1, .slice none 0 0, .int .i64 0, .int .i64 0, .int .u8 3, .slice (some ⟨w.heap.size + 1 + 1, 0, none⟩) 2 2, .slice none 0 0, .int .i64 0, .int .i64 0] 46)).heap.size = w.heap.size + 4 := by simp
  have K0 := Lib.hid (GSt.start HN)
  clear HN
  go_enter Try.func54, Try.ntmps54
  go_wp2_with fail
  refine (pof_any _ _ _ pKnown 24 _ K0.out.n (by omega) (by omega)).mono ?_
  rintro e w1 ⟨hb, ⟨hbad, _⟩ | ⟨s, hs, hr, ⟨hlt, _⟩ | ⟨hge, aL, lL, rfl, hL⟩⟩⟩
  · rw [pKnown_shapes] at hbad; rcases hbad with h | h | h
    · cases h
    · omega
    · omega
  · rw [pKnown_shapes] at hs; cases hs; rw [pKnown_least] at hlt; omega
  rw [pKnown_shapes] at hs
  cases hs
  rw [pKnown_plan] at hL
  obtain rfl : lL = 6 := by rw [← hL.length]; rfl
  have K1 := Lib.hid (K0.out.on hb)
  have HL1 := Lib.hid hL
  have c1 : w1.cell? ⟨w.heap.size + 1 + 1 + 1 + 1, 0, none⟩ = some (.slice (some ⟨w.heap.size + 1 + 1 + 1, 0, none⟩) 3 3) := by have := K1.out.cell; rw [hz4] at this; exact this
  clear hb hL hr hge
  go_wp2_with fail
  refine (pof_any _ _ _ pKnown 23 _ K1.out.n (by omega) (by omega)).mono ?_
  rintro e w2 ⟨hb, ⟨hbad, _⟩ | ⟨s, hs, hr, ⟨hlt, rfl⟩ | ⟨hge, _⟩⟩⟩
  · rw [pKnown_shapes] at hbad; rcases hbad with h | h | h
    · cases h
    · omega
    · omega
  case inr.inr => rw [pKnown_shapes] at hs; cases hs; rw [pKnown_least] at hge; omega
  have K2 := Lib.hid (K1.out.on hb)
  have HL2 := Lib.hid (HL1.out.below hb)
  have c2 : w2.cell? ⟨w.heap.size + 1 + 1 + 1 + 1, 0, none⟩ = some (.slice (some ⟨w.heap.size + 1 + 1 + 1, 0, none⟩) 3 3) := by have := K2.out.cell; rw [hz4] at this; exact this
  clear hb hr hlt hs c1
  go_wp2_with fail
  refine (peak_any _ _ _ pKnown _ _ _ _ [(1, 0), (2, 0), (3, 1), (3, 2), (5, 0), (5, 1)] _ K2.out.n HL2.out pKnown_shapes pKnown_ok (by omega)).mono ?_
  rintro e w3 ⟨rfl, hb⟩
  rw [pKnown_peak]
  have K3 := Lib.hid (K2.out.on hb)
  have HL3 := Lib.hid (HL2.out.below hb)
  clear hb c2
  go_wp2_with fail
  refine (pof_any _ _ _ [] 9 _ NodesIn.nil (by omega) (by omega)).mono ?_
  rintro e w5 ⟨hb, ⟨_, rfl⟩ | ⟨s, hs, _⟩⟩
  case inr => rw [shapes_nil] at hs; cases hs
  have K5 := Lib.hid (K3.out.on hb)
  have hB6 : Below w5.heap.size w5 (w5.alloc (.cells #[.int .u8 1, .int .i64 0, .int .u8 2, .int .i64 0, .int .u8 3, .int .i64 1, .int .u8 3, .int .i64 2, .int .u8 5, .int .i64 0, .int .u8 5, .int .i64 1] 82)) := (Below.refl _ _).alloc (Nat.le_refl _) _
  have K6 := Lib.hid (K5.out.on hB6)
  have HL6 := Lib.hid ((HL3.out.below hb).below hB6)
  have HW6 := Lib.hid (pWant w5)
  clear hb hB6
  go_wp2_with fail
  refine (sameSteps_any _ _ _ _ _ _ _ _ _ HL6.out HW6.out rfl).mono ?_
  rintro e w7 ⟨rfl, hb⟩
  have K7 := Lib.hid (K6.out.on hb)
  clear hb
  go_wp2
  go_ret
  exact ⟨rfl, HB4.out.trans (K7.out.bel.mono (by omega))⟩
end Go.Proofs.Ytgmagldbfajedaa
