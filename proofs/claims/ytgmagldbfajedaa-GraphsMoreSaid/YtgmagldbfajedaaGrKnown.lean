/-
  drydocklaw10.known: contract known_any; what is known of the chapter's graph.
-/
import Derived.Test.YtgmagldbfajedaaGrWith
import Derived.Test.YtgmagldbfajedaaGrLaws2
namespace Go.Proofs.Ytgmagldbfajedaa
open Go.RowKit

/-- The chapter's graph. -/
def gKnown : List Gr.Node := [⟨1, [], [2, 3], 0, 0⟩, ⟨2, [], [3, 2], 0, 0⟩, ⟨7, [0, 1], [], 0, 0⟩, ⟨5, [2], [], 0, 0⟩]
theorem gKnown_shapes : Gr.shapes gKnown = some [[2, 3], [3, 2], [2, 2], [2, 2]] := by decide
theorem gKnown_weights : Gr.weights gKnown = [1] := by decide
theorem gKnown_input : Gr.inputIx gKnown = 0 := by decide
theorem gKnown_two : Gr.shapes (gKnown.take 2) = none := by decide
theorem gKnown_more : (Gr.shapes (gKnown ++ [⟨7, [1, 2], [], 0, 0⟩])).isSome = true := by decide
theorem gKnown_sum : Gr.shapes (gKnown ++ [⟨13, [3], [], 2, 0⟩]) = none := by decide
theorem shapes_nil : Gr.shapes [] = none := by decide
theorem input_nil : Gr.inputIx [] = -1 := by decide

theorem ints_lits (w : World) (b : Nat) (l : List Int) (hb : b = w.heap.size) (hl : l.length ≤ 1000000) (hwf : ∀ n ∈ l, -9223372036854775808 ≤ n ∧ n ≤ 9223372036854775807) :
    Ints (w.alloc (.cells (l.map (Value.int .i64)).toArray 3)) (some ⟨b, 0, none⟩) l.length l.length l := by
  subst hb
  refine ⟨Nat.le_refl _, by omega, rfl, hwf, fun _ => ⟨w.heap.size, 0, rfl, by simp, fun i hi => ?_⟩⟩
  rw [World.cell?_alloc_at _ _ _ _ rfl, Nat.zero_add]
  simp only [List.getElem?_toArray, List.getElem?_map, List.getElem?_eq_getElem hi]
  rw [nth_eq l i hi]; rfl

theorem nodeV_lit {w : World} {ai sa : Option Addr} {li ci ls cs : Nat} {kd n pad : Int} {inn shp : List Int} (hi : Ints w ai li ci inn) (hs : Ints w sa ls cs shp) (h1 : li ≤ 1000) (h2 : ls ≤ 1000) (h3 : 0 ≤ kd ∧ kd ≤ 255) (h4 : -1000 ≤ n ∧ n ≤ 1000) (h5 : -1000 ≤ pad ∧ pad ≤ 1000) :
    NodeV w ai li ci sa ls cs ⟨kd, inn, shp, n, pad⟩ := ⟨hi, hs, by omega, by omega, h3, ⟨by simp only; omega, by simp only; omega⟩, ⟨by simp only; omega, by simp only; omega⟩⟩

set_option maxRecDepth 100000 in
theorem known_nodes (w1 : World) (b : Nat) (hb : b = w1.heap.size) : Nodes (((((w1.alloc (.cells #[.int .i64 2, .int .i64 3] 3)).alloc (.cells #[.int .i64 3, .int .i64 2] 3)).alloc (.cells #[.int .i64 0, .int .i64 1] 3)).alloc (.cells #[.int .i64 2] 3)).alloc (.cells #[.int .u8 1, .slice none 0 0, .slice (some ⟨b, 0, none⟩) 2 2, .int .i64 0, .int .i64 0, .int .u8 2, .slice none 0 0, .slice (some ⟨b + 1, 0, none⟩) 2 2, .int .i64 0, .int .i64 0, .int .u8 7, .slice (some ⟨b + 1 + 1, 0, none⟩) 2 2, .slice none 0 0, .int .i64 0, .int .i64 0, .int .u8 5, .slice (some ⟨b + 1 + 1 + 1, 0, none⟩) 1 1, .slice none 0 0, .int .i64 0, .int .i64 0] 46)) (some ⟨b + 1 + 1 + 1 + 1, 0, none⟩) 4 4 gKnown := by
  have I1 : Ints (((((w1.alloc (.cells #[.int .i64 2, .int .i64 3] 3)).alloc (.cells #[.int .i64 3, .int .i64 2] 3)).alloc (.cells #[.int .i64 0, .int .i64 1] 3)).alloc (.cells #[.int .i64 2] 3)).alloc (.cells #[.int .u8 1, .slice none 0 0, .slice (some ⟨b, 0, none⟩) 2 2, .int .i64 0, .int .i64 0, .int .u8 2, .slice none 0 0, .slice (some ⟨b + 1, 0, none⟩) 2 2, .int .i64 0, .int .i64 0, .int .u8 7, .slice (some ⟨b + 1 + 1, 0, none⟩) 2 2, .slice none 0 0, .int .i64 0, .int .i64 0, .int .u8 5, .slice (some ⟨b + 1 + 1 + 1, 0, none⟩) 1 1, .slice none 0 0, .int .i64 0, .int .i64 0] 46)) (some ⟨b, 0, none⟩) 2 2 [2, 3] := ((((ints_lits w1 b [2, 3] hb (by decide) (by decide)).alloc _).alloc _).alloc _).alloc _
  have I2 : Ints (((((w1.alloc (.cells #[.int .i64 2, .int .i64 3] 3)).alloc (.cells #[.int .i64 3, .int .i64 2] 3)).alloc (.cells #[.int .i64 0, .int .i64 1] 3)).alloc (.cells #[.int .i64 2] 3)).alloc (.cells #[.int .u8 1, .slice none 0 0, .slice (some ⟨b, 0, none⟩) 2 2, .int .i64 0, .int .i64 0, .int .u8 2, .slice none 0 0, .slice (some ⟨b + 1, 0, none⟩) 2 2, .int .i64 0, .int .i64 0, .int .u8 7, .slice (some ⟨b + 1 + 1, 0, none⟩) 2 2, .slice none 0 0, .int .i64 0, .int .i64 0, .int .u8 5, .slice (some ⟨b + 1 + 1 + 1, 0, none⟩) 1 1, .slice none 0 0, .int .i64 0, .int .i64 0] 46)) (some ⟨b + 1, 0, none⟩) 2 2 [3, 2] := (((ints_lits (w1.alloc (.cells #[.int .i64 2, .int .i64 3] 3)) (b + 1) [3, 2] (by simp [hb]) (by decide) (by decide)).alloc _).alloc _).alloc _
  have I3 : Ints (((((w1.alloc (.cells #[.int .i64 2, .int .i64 3] 3)).alloc (.cells #[.int .i64 3, .int .i64 2] 3)).alloc (.cells #[.int .i64 0, .int .i64 1] 3)).alloc (.cells #[.int .i64 2] 3)).alloc (.cells #[.int .u8 1, .slice none 0 0, .slice (some ⟨b, 0, none⟩) 2 2, .int .i64 0, .int .i64 0, .int .u8 2, .slice none 0 0, .slice (some ⟨b + 1, 0, none⟩) 2 2, .int .i64 0, .int .i64 0, .int .u8 7, .slice (some ⟨b + 1 + 1, 0, none⟩) 2 2, .slice none 0 0, .int .i64 0, .int .i64 0, .int .u8 5, .slice (some ⟨b + 1 + 1 + 1, 0, none⟩) 1 1, .slice none 0 0, .int .i64 0, .int .i64 0] 46)) (some ⟨b + 1 + 1, 0, none⟩) 2 2 [0, 1] := ((ints_lits ((w1.alloc (.cells #[.int .i64 2, .int .i64 3] 3)).alloc (.cells #[.int .i64 3, .int .i64 2] 3)) (b + 1 + 1) [0, 1] (by simp [hb]) (by decide) (by decide)).alloc _).alloc _
  have I4 : Ints (((((w1.alloc (.cells #[.int .i64 2, .int .i64 3] 3)).alloc (.cells #[.int .i64 3, .int .i64 2] 3)).alloc (.cells #[.int .i64 0, .int .i64 1] 3)).alloc (.cells #[.int .i64 2] 3)).alloc (.cells #[.int .u8 1, .slice none 0 0, .slice (some ⟨b, 0, none⟩) 2 2, .int .i64 0, .int .i64 0, .int .u8 2, .slice none 0 0, .slice (some ⟨b + 1, 0, none⟩) 2 2, .int .i64 0, .int .i64 0, .int .u8 7, .slice (some ⟨b + 1 + 1, 0, none⟩) 2 2, .slice none 0 0, .int .i64 0, .int .i64 0, .int .u8 5, .slice (some ⟨b + 1 + 1 + 1, 0, none⟩) 1 1, .slice none 0 0, .int .i64 0, .int .i64 0] 46)) (some ⟨b + 1 + 1 + 1, 0, none⟩) 1 1 [2] := (ints_lits (((w1.alloc (.cells #[.int .i64 2, .int .i64 3] 3)).alloc (.cells #[.int .i64 3, .int .i64 2] 3)).alloc (.cells #[.int .i64 0, .int .i64 1] 3)) (b + 1 + 1 + 1) [2] (by simp [hb]) (by decide) (by decide)).alloc _
  have hz : b + 1 + 1 + 1 + 1 = ((((w1.alloc (.cells #[.int .i64 2, .int .i64 3] 3)).alloc (.cells #[.int .i64 3, .int .i64 2] 3)).alloc (.cells #[.int .i64 0, .int .i64 1] 3)).alloc (.cells #[.int .i64 2] 3)).heap.size := by simp [hb]
  refine ⟨Nat.le_refl _, by omega, by omega, rfl, fun _ => ⟨b + 1 + 1 + 1 + 1, 0, rfl, by rw [hz]; simp, fun i hi => ?_⟩⟩
  rcases (by omega : i = 0 ∨ i = 1 ∨ i = 2 ∨ i = 3) with rfl | rfl | rfl | rfl
  · refine ⟨none, 0, 0, some ⟨b, 0, none⟩, 2, 2, ?_, ?_, ?_, ?_, ?_, nodeV_lit Ints.nil I1 (by omega) (by omega) (by omega) (by omega) (by omega)⟩ <;> (rw [World.cell?_alloc_at _ _ _ _ hz]; rfl)
  · refine ⟨none, 0, 0, some ⟨b + 1, 0, none⟩, 2, 2, ?_, ?_, ?_, ?_, ?_, nodeV_lit Ints.nil I2 (by omega) (by omega) (by omega) (by omega) (by omega)⟩ <;> (rw [World.cell?_alloc_at _ _ _ _ hz]; rfl)
  · refine ⟨some ⟨b + 1 + 1, 0, none⟩, 2, 2, none, 0, 0, ?_, ?_, ?_, ?_, ?_, nodeV_lit I3 Ints.nil (by omega) (by omega) (by omega) (by omega) (by omega)⟩ <;> (rw [World.cell?_alloc_at _ _ _ _ hz]; rfl)
  · refine ⟨some ⟨b + 1 + 1 + 1, 0, none⟩, 1, 1, none, 0, 0, ?_, ?_, ?_, ?_, ?_, nodeV_lit I4 Ints.nil (by omega) (by omega) (by omega) (by omega) (by omega)⟩ <;> (rw [World.cell?_alloc_at _ _ _ _ hz]; rfl)

set_option maxHeartbeats 2000000 in
set_option maxRecDepth 100000 in
theorem known_any (w : World) : Calls Try.prog 66 #[] w fun e w' => ∃ a, e = .returned (.agg #[.slice a 4 4]) ∧ Nodes w' a 4 4 gKnown ∧ Below w.heap.size w w' := by
  go_enter Try.func66, Try.ntmps66
  go_wp2
  have vS : ((((((w.alloc (.cells #[.slice (some ⟨w.heap.size + 1 + 1 + 1 + 1 + 1, 0, none⟩) 4 4] 38)).alloc (.cells #[.int .i64 2, .int .i64 3] 3)).alloc (.cells #[.int .i64 3, .int .i64 2] 3)).alloc (.cells #[.int .i64 0, .int .i64 1] 3)).alloc (.cells #[.int .i64 2] 3)).alloc (.cells #[.int .u8 1, .slice none 0 0, .slice (some ⟨w.heap.size + 1, 0, none⟩) 2 2, .int .i64 0, .int .i64 0, .int .u8 2, .slice none 0 0, .slice (some ⟨w.heap.size + 1 + 1, 0, none⟩) 2 2, .int .i64 0, .int .i64 0, .int .u8 7, .slice (some ⟨w.heap.size + 1 + 1 + 1, 0, none⟩) 2 2, .slice none 0 0, .int .i64 0, .int .i64 0, .int .u8 5, .slice (some ⟨w.heap.size + 1 + 1 + 1 + 1, 0, none⟩) 1 1, .slice none 0 0, .int .i64 0, .int .i64 0] 46)).cell? ⟨w.heap.size, 0, none⟩ = some (.slice (some ⟨w.heap.size + 1 + 1 + 1 + 1 + 1, 0, none⟩) 4 4) :=
    Lib.cell?_alloc_some _ (Lib.cell?_alloc_some _ (Lib.cell?_alloc_some _ (Lib.cell?_alloc_some _ (Lib.cell?_alloc_some _ (by rw [World.cell?_alloc_at _ _ _ _ rfl]; rfl)))))
  have hN := known_nodes (w.alloc (.cells #[.slice (some ⟨w.heap.size + 1 + 1 + 1 + 1 + 1, 0, none⟩) 4 4] 38)) (w.heap.size + 1) (by simp)
  have hB : Below w.heap.size w ((((((w.alloc (.cells #[.slice (some ⟨w.heap.size + 1 + 1 + 1 + 1 + 1, 0, none⟩) 4 4] 38)).alloc (.cells #[.int .i64 2, .int .i64 3] 3)).alloc (.cells #[.int .i64 3, .int .i64 2] 3)).alloc (.cells #[.int .i64 0, .int .i64 1] 3)).alloc (.cells #[.int .i64 2] 3)).alloc (.cells #[.int .u8 1, .slice none 0 0, .slice (some ⟨w.heap.size + 1, 0, none⟩) 2 2, .int .i64 0, .int .i64 0, .int .u8 2, .slice none 0 0, .slice (some ⟨w.heap.size + 1 + 1, 0, none⟩) 2 2, .int .i64 0, .int .i64 0, .int .u8 7, .slice (some ⟨w.heap.size + 1 + 1 + 1, 0, none⟩) 2 2, .slice none 0 0, .int .i64 0, .int .i64 0, .int .u8 5, .slice (some ⟨w.heap.size + 1 + 1 + 1 + 1, 0, none⟩) 1 1, .slice none 0 0, .int .i64 0, .int .i64 0] 46)) := ((((((Below.refl _ _).alloc (Nat.le_refl _) _).alloc (by simp) _).alloc (by simp; omega) _).alloc (by simp; omega) _).alloc (by simp; omega) _).alloc (by simp; omega) _
  generalize ((((((w.alloc (.cells #[.slice (some ⟨w.heap.size + 1 + 1 + 1 + 1 + 1, 0, none⟩) 4 4] 38)).alloc (.cells #[.int .i64 2, .int .i64 3] 3)).alloc (.cells #[.int .i64 3, .int .i64 2] 3)).alloc (.cells #[.int .i64 0, .int .i64 1] 3)).alloc (.cells #[.int .i64 2] 3)).alloc (.cells #[.int .u8 1, .slice none 0 0, .slice (some ⟨w.heap.size + 1, 0, none⟩) 2 2, .int .i64 0, .int .i64 0, .int .u8 2, .slice none 0 0, .slice (some ⟨w.heap.size + 1 + 1, 0, none⟩) 2 2, .int .i64 0, .int .i64 0, .int .u8 7, .slice (some ⟨w.heap.size + 1 + 1 + 1, 0, none⟩) 2 2, .slice none 0 0, .int .i64 0, .int .i64 0, .int .u8 5, .slice (some ⟨w.heap.size + 1 + 1 + 1 + 1, 0, none⟩) 1 1, .slice none 0 0, .int .i64 0, .int .i64 0] 46)) = w6 at *
  refine bodyPost_ret (by simp [results, Try.results66, go_sem, vS]; try rfl) rfl ?_
  exact ⟨_, rfl, hN, hB⟩
end Go.Proofs.Ytgmagldbfajedaa
