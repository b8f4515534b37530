import Derived.Test.YtekejcnphmnidaaGreatDoorZCoLeast
namespace Go.Proofs.YtekejcnphmnidaaGreatDoor
open Go.RowKit
def cKnown : List Gr.Node := [⟨1, [], [2, 3], 0, 0⟩, ⟨2, [], [3, 4], 0, 0⟩, ⟨7, [0, 1], [], 0, 0⟩, ⟨5, [2], [], 0, 0⟩]
set_option maxRecDepth 100000 in
theorem cKnown_nodes (w1 : World) (b : Nat) (hb : b = w1.heap.size) : Nodes (((((w1.alloc (.cells #[.int .i64 2, .int .i64 3] 3)).alloc (.cells #[.int .i64 3, .int .i64 4] 3)).alloc (.cells #[.int .i64 0, .int .i64 1] 3)).alloc (.cells #[.int .i64 2] 3)).alloc (.cells #[.int .u8 1, .slice none 0 0, .slice (some ⟨b, 0, none⟩) 2 2, .int .i64 0, .int .i64 0, .int .u8 2, .slice none 0 0, .slice (some ⟨b + 1, 0, none⟩) 2 2, .int .i64 0, .int .i64 0, .int .u8 7, .slice (some ⟨b + 1 + 1, 0, none⟩) 2 2, .slice none 0 0, .int .i64 0, .int .i64 0, .int .u8 5, .slice (some ⟨b + 1 + 1 + 1, 0, none⟩) 1 1, .slice none 0 0, .int .i64 0, .int .i64 0] 103)) (some ⟨b + 1 + 1 + 1 + 1, 0, none⟩) 4 4 cKnown := by
  have I0 : Ints (((((w1.alloc (.cells #[.int .i64 2, .int .i64 3] 3)).alloc (.cells #[.int .i64 3, .int .i64 4] 3)).alloc (.cells #[.int .i64 0, .int .i64 1] 3)).alloc (.cells #[.int .i64 2] 3)).alloc (.cells #[.int .u8 1, .slice none 0 0, .slice (some ⟨b, 0, none⟩) 2 2, .int .i64 0, .int .i64 0, .int .u8 2, .slice none 0 0, .slice (some ⟨b + 1, 0, none⟩) 2 2, .int .i64 0, .int .i64 0, .int .u8 7, .slice (some ⟨b + 1 + 1, 0, none⟩) 2 2, .slice none 0 0, .int .i64 0, .int .i64 0, .int .u8 5, .slice (some ⟨b + 1 + 1 + 1, 0, none⟩) 1 1, .slice none 0 0, .int .i64 0, .int .i64 0] 103)) (some ⟨b, 0, none⟩) 2 2 [2, 3] := ((((ints_lits w1 (b) [2, 3] (by simp [hb]) (by decide) (by decide)).alloc (.cells #[.int .i64 3, .int .i64 4] 3)).alloc (.cells #[.int .i64 0, .int .i64 1] 3)).alloc (.cells #[.int .i64 2] 3)).alloc (.cells #[.int .u8 1, .slice none 0 0, .slice (some ⟨b, 0, none⟩) 2 2, .int .i64 0, .int .i64 0, .int .u8 2, .slice none 0 0, .slice (some ⟨b + 1, 0, none⟩) 2 2, .int .i64 0, .int .i64 0, .int .u8 7, .slice (some ⟨b + 1 + 1, 0, none⟩) 2 2, .slice none 0 0, .int .i64 0, .int .i64 0, .int .u8 5, .slice (some ⟨b + 1 + 1 + 1, 0, none⟩) 1 1, .slice none 0 0, .int .i64 0, .int .i64 0] 103)
  have I1 : Ints (((((w1.alloc (.cells #[.int .i64 2, .int .i64 3] 3)).alloc (.cells #[.int .i64 3, .int .i64 4] 3)).alloc (.cells #[.int .i64 0, .int .i64 1] 3)).alloc (.cells #[.int .i64 2] 3)).alloc (.cells #[.int .u8 1, .slice none 0 0, .slice (some ⟨b, 0, none⟩) 2 2, .int .i64 0, .int .i64 0, .int .u8 2, .slice none 0 0, .slice (some ⟨b + 1, 0, none⟩) 2 2, .int .i64 0, .int .i64 0, .int .u8 7, .slice (some ⟨b + 1 + 1, 0, none⟩) 2 2, .slice none 0 0, .int .i64 0, .int .i64 0, .int .u8 5, .slice (some ⟨b + 1 + 1 + 1, 0, none⟩) 1 1, .slice none 0 0, .int .i64 0, .int .i64 0] 103)) (some ⟨b + 1, 0, none⟩) 2 2 [3, 4] := (((ints_lits (w1.alloc (.cells #[.int .i64 2, .int .i64 3] 3)) (b + 1) [3, 4] (by simp [hb]) (by decide) (by decide)).alloc (.cells #[.int .i64 0, .int .i64 1] 3)).alloc (.cells #[.int .i64 2] 3)).alloc (.cells #[.int .u8 1, .slice none 0 0, .slice (some ⟨b, 0, none⟩) 2 2, .int .i64 0, .int .i64 0, .int .u8 2, .slice none 0 0, .slice (some ⟨b + 1, 0, none⟩) 2 2, .int .i64 0, .int .i64 0, .int .u8 7, .slice (some ⟨b + 1 + 1, 0, none⟩) 2 2, .slice none 0 0, .int .i64 0, .int .i64 0, .int .u8 5, .slice (some ⟨b + 1 + 1 + 1, 0, none⟩) 1 1, .slice none 0 0, .int .i64 0, .int .i64 0] 103)
  have I2 : Ints (((((w1.alloc (.cells #[.int .i64 2, .int .i64 3] 3)).alloc (.cells #[.int .i64 3, .int .i64 4] 3)).alloc (.cells #[.int .i64 0, .int .i64 1] 3)).alloc (.cells #[.int .i64 2] 3)).alloc (.cells #[.int .u8 1, .slice none 0 0, .slice (some ⟨b, 0, none⟩) 2 2, .int .i64 0, .int .i64 0, .int .u8 2, .slice none 0 0, .slice (some ⟨b + 1, 0, none⟩) 2 2, .int .i64 0, .int .i64 0, .int .u8 7, .slice (some ⟨b + 1 + 1, 0, none⟩) 2 2, .slice none 0 0, .int .i64 0, .int .i64 0, .int .u8 5, .slice (some ⟨b + 1 + 1 + 1, 0, none⟩) 1 1, .slice none 0 0, .int .i64 0, .int .i64 0] 103)) (some ⟨b + 1 + 1, 0, none⟩) 2 2 [0, 1] := ((ints_lits ((w1.alloc (.cells #[.int .i64 2, .int .i64 3] 3)).alloc (.cells #[.int .i64 3, .int .i64 4] 3)) (b + 1 + 1) [0, 1] (by simp [hb]) (by decide) (by decide)).alloc (.cells #[.int .i64 2] 3)).alloc (.cells #[.int .u8 1, .slice none 0 0, .slice (some ⟨b, 0, none⟩) 2 2, .int .i64 0, .int .i64 0, .int .u8 2, .slice none 0 0, .slice (some ⟨b + 1, 0, none⟩) 2 2, .int .i64 0, .int .i64 0, .int .u8 7, .slice (some ⟨b + 1 + 1, 0, none⟩) 2 2, .slice none 0 0, .int .i64 0, .int .i64 0, .int .u8 5, .slice (some ⟨b + 1 + 1 + 1, 0, none⟩) 1 1, .slice none 0 0, .int .i64 0, .int .i64 0] 103)
  have I3 : Ints (((((w1.alloc (.cells #[.int .i64 2, .int .i64 3] 3)).alloc (.cells #[.int .i64 3, .int .i64 4] 3)).alloc (.cells #[.int .i64 0, .int .i64 1] 3)).alloc (.cells #[.int .i64 2] 3)).alloc (.cells #[.int .u8 1, .slice none 0 0, .slice (some ⟨b, 0, none⟩) 2 2, .int .i64 0, .int .i64 0, .int .u8 2, .slice none 0 0, .slice (some ⟨b + 1, 0, none⟩) 2 2, .int .i64 0, .int .i64 0, .int .u8 7, .slice (some ⟨b + 1 + 1, 0, none⟩) 2 2, .slice none 0 0, .int .i64 0, .int .i64 0, .int .u8 5, .slice (some ⟨b + 1 + 1 + 1, 0, none⟩) 1 1, .slice none 0 0, .int .i64 0, .int .i64 0] 103)) (some ⟨b + 1 + 1 + 1, 0, none⟩) 1 1 [2] := (ints_lits (((w1.alloc (.cells #[.int .i64 2, .int .i64 3] 3)).alloc (.cells #[.int .i64 3, .int .i64 4] 3)).alloc (.cells #[.int .i64 0, .int .i64 1] 3)) (b + 1 + 1 + 1) [2] (by simp [hb]) (by decide) (by decide)).alloc (.cells #[.int .u8 1, .slice none 0 0, .slice (some ⟨b, 0, none⟩) 2 2, .int .i64 0, .int .i64 0, .int .u8 2, .slice none 0 0, .slice (some ⟨b + 1, 0, none⟩) 2 2, .int .i64 0, .int .i64 0, .int .u8 7, .slice (some ⟨b + 1 + 1, 0, none⟩) 2 2, .slice none 0 0, .int .i64 0, .int .i64 0, .int .u8 5, .slice (some ⟨b + 1 + 1 + 1, 0, none⟩) 1 1, .slice none 0 0, .int .i64 0, .int .i64 0] 103)
  have hz : b + 1 + 1 + 1 + 1 = ((((w1.alloc (.cells #[.int .i64 2, .int .i64 3] 3)).alloc (.cells #[.int .i64 3, .int .i64 4] 3)).alloc (.cells #[.int .i64 0, .int .i64 1] 3)).alloc (.cells #[.int .i64 2] 3)).heap.size := by simp [hb]
  refine ⟨Nat.le_refl _, by omega, by omega, rfl, fun _ => ⟨b + 1 + 1 + 1 + 1, 0, rfl, by rw [hz]; simp, fun i hi => ?_⟩⟩
  rcases (by omega : i = 0 ∨ i = 1 ∨ i = 2 ∨ i = 3) with rfl | rfl | rfl | rfl
  · refine ⟨none, 0, 0, some ⟨b, 0, none⟩, 2, 2, ?_, ?_, ?_, ?_, ?_, nodeV_lit Ints.nil I0 (by omega) (by omega) (by omega) (by omega) (by omega)⟩ <;> (rw [World.cell?_alloc_at _ _ _ _ hz]; rfl)
  · refine ⟨none, 0, 0, some ⟨b + 1, 0, none⟩, 2, 2, ?_, ?_, ?_, ?_, ?_, nodeV_lit Ints.nil I1 (by omega) (by omega) (by omega) (by omega) (by omega)⟩ <;> (rw [World.cell?_alloc_at _ _ _ _ hz]; rfl)
  · refine ⟨some ⟨b + 1 + 1, 0, none⟩, 2, 2, none, 0, 0, ?_, ?_, ?_, ?_, ?_, nodeV_lit I2 Ints.nil (by omega) (by omega) (by omega) (by omega) (by omega)⟩ <;> (rw [World.cell?_alloc_at _ _ _ _ hz]; rfl)
  · refine ⟨some ⟨b + 1 + 1 + 1, 0, none⟩, 1, 1, none, 0, 0, ?_, ?_, ?_, ?_, ?_, nodeV_lit I3 Ints.nil (by omega) (by omega) (by omega) (by omega) (by omega)⟩ <;> (rw [World.cell?_alloc_at _ _ _ _ hz]; rfl)
theorem cKnown_shapes : Gr.shapes cKnown = some [[2, 3], [3, 4], [2, 4], [2, 4]] := by decide
theorem cKnown_c0 : (Co.costN (Co.costs cKnown [[2, 3], [3, 4], [2, 4], [2, 4]]) 0).bytes = 24 ∧ (Co.costN (Co.costs cKnown [[2, 3], [3, 4], [2, 4], [2, 4]]) 0).need = 24 ∧ (Co.costN (Co.costs cKnown [[2, 3], [3, 4], [2, 4], [2, 4]]) 0).work = 0 := by decide
theorem cKnown_c1 : (Co.costN (Co.costs cKnown [[2, 3], [3, 4], [2, 4], [2, 4]]) 1).bytes = 48 ∧ (Co.costN (Co.costs cKnown [[2, 3], [3, 4], [2, 4], [2, 4]]) 1).need = 48 ∧ (Co.costN (Co.costs cKnown [[2, 3], [3, 4], [2, 4], [2, 4]]) 1).work = 0 := by decide
theorem cKnown_c2 : (Co.costN (Co.costs cKnown [[2, 3], [3, 4], [2, 4], [2, 4]]) 2).bytes = 32 ∧ (Co.costN (Co.costs cKnown [[2, 3], [3, 4], [2, 4], [2, 4]]) 2).need = 104 ∧ (Co.costN (Co.costs cKnown [[2, 3], [3, 4], [2, 4], [2, 4]]) 2).work = 24 := by decide
theorem cKnown_c3 : (Co.costN (Co.costs cKnown [[2, 3], [3, 4], [2, 4], [2, 4]]) 3).bytes = 32 ∧ (Co.costN (Co.costs cKnown [[2, 3], [3, 4], [2, 4], [2, 4]]) 3).need = 64 ∧ (Co.costN (Co.costs cKnown [[2, 3], [3, 4], [2, 4], [2, 4]]) 3).work = 8 := by decide
theorem cKnown_least : Co.leastF (Co.costs cKnown [[2, 3], [3, 4], [2, 4], [2, 4]]) (Od.ordOf cKnown) = 104 := by decide
theorem eq_cost0 (w : World) : (binOp BinOp.eql 120 (.agg #[.int .i64 24, .int .i64 24, .int .i64 0]) (.agg #[.int .i64 24, .int .i64 24, .int .i64 0])).run Tryz.prog w = .ok (.bool true) w := by kernel_rfl
theorem eq_cost1 (w : World) : (binOp BinOp.eql 120 (.agg #[.int .i64 48, .int .i64 48, .int .i64 0]) (.agg #[.int .i64 48, .int .i64 48, .int .i64 0])).run Tryz.prog w = .ok (.bool true) w := by kernel_rfl
theorem eq_cost2 (w : World) : (binOp BinOp.eql 120 (.agg #[.int .i64 32, .int .i64 104, .int .i64 24]) (.agg #[.int .i64 32, .int .i64 104, .int .i64 24])).run Tryz.prog w = .ok (.bool true) w := by kernel_rfl
theorem eq_cost3 (w : World) : (binOp BinOp.eql 120 (.agg #[.int .i64 32, .int .i64 64, .int .i64 8]) (.agg #[.int .i64 32, .int .i64 64, .int .i64 8])).run Tryz.prog w = .ok (.bool true) w := by kernel_rfl
set_option maxHeartbeats 4000000 in
set_option maxRecDepth 100000 in
theorem clives_any (w : World) : Calls Tryz.prog 31 #[] w fun e w' => e = .returned (.bool true) ∧ Below w.heap.size w w' := by
  have HN := cKnown_nodes w w.heap.size rfl
  have HB5 : Hid (Below w.heap.size w (((((w.alloc (.cells #[.int .i64 2, .int .i64 3] 3)).alloc (.cells #[.int .i64 3, .int .i64 4] 3)).alloc (.cells #[.int .i64 0, .int .i64 1] 3)).alloc (.cells #[.int .i64 2] 3)).alloc (.cells #[.int .u8 1, .slice none 0 0, .slice (some ⟨w.heap.size, 0, none⟩) 2 2, .int .i64 0, .int .i64 0, .int .u8 2, .slice none 0 0, .slice (some ⟨w.heap.size + 1, 0, none⟩) 2 2, .int .i64 0, .int .i64 0, .int .u8 7, .slice (some ⟨w.heap.size + 1 + 1, 0, none⟩) 2 2, .slice none 0 0, .int .i64 0, .int .i64 0, .int .u8 5, .slice (some ⟨w.heap.size + 1 + 1 + 1, 0, none⟩) 1 1, .slice none 0 0, .int .i64 0, .int .i64 0] 103))) := ((((((Below.refl _ _).alloc (Nat.le_refl _) _).alloc (by simp) _).alloc (by simp; omega) _).alloc (by simp; omega) _).alloc (by simp; omega) _)
  have hz5 : (((((w.alloc (.cells #[.int .i64 2, .int .i64 3] 3)).alloc (.cells #[.int .i64 3, .int .i64 4] 3)).alloc (.cells #[.int .i64 0, .int .i64 1] 3)).alloc (.cells #[.int .i64 2] 3)).alloc (.cells #[.int .u8 1, .slice none 0 0, .slice (some ⟨w.heap.size, 0, none⟩) 2 2, .int .i64 0, .int .i64 0, .int .u8 2, .slice none 0 0, .slice (some ⟨w.heap.size + 1, 0, none⟩) 2 2, .int .i64 0, .int .i64 0, .int .u8 7, .slice (some ⟨w.heap.size + 1 + 1, 0, none⟩) 2 2, .slice none 0 0, .int .i64 0, .int .i64 0, .int .u8 5, .slice (some ⟨w.heap.size + 1 + 1 + 1, 0, none⟩) 1 1, .slice none 0 0, .int .i64 0, .int .i64 0] 103)).heap.size = w.heap.size + 5 := by simp
  have K0 := Lib.hid (GSt.start HN)
  clear HN
  go_enter Tryz.func31, Tryz.ntmps31
  go_wp2_with fail
  refine (cof_any _ _ _ cKnown _ K0.out.n).mono ?_
  rintro e w1 ⟨hb, ⟨hs, _⟩ | ⟨s, aC, lC, hs, rfl, hC⟩⟩
  · rw [cKnown_shapes] at hs; cases hs
  rw [cKnown_shapes] at hs
  cases hs
  obtain rfl : lC = 4 := by rw [← hC.length]; rfl
  have K1 := Lib.hid (K0.out.on hb)
  have HC1 := Lib.hid hC
  have c1 : w1.cell? ⟨w.heap.size + 1 + 1 + 1 + 1 + 1, 0, none⟩ = some (.slice (some ⟨w.heap.size + 1 + 1 + 1 + 1, 0, none⟩) 4 4) := by have := K1.out.cell; rw [hz5] at this; exact this
  clear hb hC
  go_wp2_with fail
  refine (cleast_any _ _ _ cKnown _ K1.out.n).mono ?_
  rintro e w2 ⟨hb, ⟨hs, _⟩ | ⟨s, hs, rfl⟩⟩
  · rw [cKnown_shapes] at hs; cases hs
  rw [cKnown_shapes] at hs
  cases hs
  rw [cKnown_least]
  have K2 := Lib.hid (K1.out.on hb)
  have HC2 := Lib.hid (HC1.out.below hb)
  clear hb c1
  go_wp2_with fail
  refine (cof_any _ _ _ [] _ NodesIn.nil).mono ?_
  rintro e w3 ⟨hb, ⟨_, rfl⟩ | ⟨s, aD, lD, hs, _⟩⟩
  case inr => rw [shapes_nil] at hs; cases hs
  have K3 := Lib.hid (K2.out.on hb)
  obtain ⟨bC, oC, rfl, _, hcC⟩ := (HC2.out.below hb).at_ (by omega)
  obtain ⟨a0, a1, a2⟩ := hcC 0 (by omega)
  obtain ⟨b0, b1, b2⟩ := hcC 1 (by omega)
  obtain ⟨d0, d1, d2⟩ := hcC 2 (by omega)
  obtain ⟨f0, f1, f2⟩ := hcC 3 (by omega)
  rw [cKnown_c0.1] at a0
  rw [cKnown_c0.2.1] at a1
  rw [cKnown_c0.2.2] at a2
  rw [cKnown_c1.1] at b0
  rw [cKnown_c1.2.1] at b1
  rw [cKnown_c1.2.2] at b2
  rw [cKnown_c2.1] at d0
  rw [cKnown_c2.2.1] at d1
  rw [cKnown_c2.2.2] at d2
  rw [cKnown_c3.1] at f0
  rw [cKnown_c3.2.1] at f1
  rw [cKnown_c3.2.2] at f2
  have q0 := eq_cost0 w3
  have q1 := eq_cost1 w3
  have q2 := eq_cost2 w3
  have q3 := eq_cost3 w3
  clear hb hcC
  simp only [Nat.zero_mul, Nat.one_mul, Nat.add_zero, Nat.reduceMul] at a0 a1 a2 b0 b1 b2 d0 d1 d2 f0 f1 f2
  go_wp2
  go_ret
  exact ⟨rfl, HB5.out.trans (K3.out.bel.mono (by omega))⟩
end Go.Proofs.YtekejcnphmnidaaGreatDoor
