/-
  drydocklaw21 lives21: contract lives21_any over the pick walk.
-/
import Derived.Test.YtekejcnphmnidaaGreatDoorZBs
namespace Go.Proofs.YtekejcnphmnidaaGreatDoor
open Go.RowKit

theorem ints_lit (w : World) (b : Nat) (l : List Int) (hb : b = w.heap.size) (hl : l.length ≤ 1000000) (hwf : ∀ n ∈ l, -9223372036854775808 ≤ n ∧ n ≤ 9223372036854775807) :
    Ints (w.alloc (.cells (l.map (Value.int .i64)).toArray 3)) (some ⟨b, 0, none⟩) l.length l.length l := by
  subst hb
  refine ⟨Nat.le_refl _, by omega, rfl, hwf, fun _ => ⟨w.heap.size, 0, rfl, by simp, fun i hi => ?_⟩⟩
  rw [World.cell?_alloc_at _ _ _ _ rfl, Nat.zero_add]
  simp only [List.getElem?_toArray, List.getElem?_map, List.getElem?_eq_getElem hi]
  rw [nth_eq l i hi]; rfl

theorem live1E : Ev.pickE [0, 1, 2] [2] [40, 40, 20] [5, 7, 3] 100 30 = 0 := by decide
theorem live1L : Ev.pickL [0, 1, 2] [2] [40, 40, 20] [5, 7, 3] 100 30 = [1] := by
  have hs : Ev.sorted [40, 40, 20] [5, 7, 3] (Ev.frees [2] [0, 1, 2]) = [1, 0] := (Ev.sorted_unique _ _ _ [1, 0] (by decide) (by decide)).symm
  unfold Ev.pickL
  rw [if_pos live1E, hs]
  decide
theorem live2E : Ev.pickE [0] [0] [40] [1] 50 20 = 13 := by decide
theorem live3E : Ev.pickE [0, 0] [] [1] [1] 0 0 = 1 := by decide

set_option maxHeartbeats 4000000 in
set_option maxRecDepth 100000 in
theorem lives21_any (w : World) : Calls Tryz.prog 9 #[] w fun e w' => e = .returned (.bool true) ∧ Below w.heap.size w w' := by
  go_enter Tryz.func9, Tryz.ntmps9
  go_wp2_with fail
  refine (pick_any _ _ _ _ _ _ _ _ _ _ _ _ [0, 1, 2] [2] [40, 40, 20] [5, 7, 3] 100 30 _ ?_ ?_ ?_ ?_ (by omega) (by omega) (by omega)).mono ?_
  · exact (((ints_lit _ _ [0, 1, 2] rfl (by decide) (by decide)).alloc _).alloc _).alloc _
  · exact ((ints_lit _ _ [2] (by simp) (by decide) (by decide)).alloc _).alloc _
  · exact (ints_lit _ _ [40, 40, 20] (by simp) (by decide) (by decide)).alloc _
  · exact ints_lit _ _ [5, 7, 3] (by simp) (by decide) (by decide)
  rintro e w1 ⟨a, len, cap, rfl, hI, hb, _⟩
  rw [live1E]
  rw [live1L] at hI
  have hl := hI.length
  simp only [List.length_cons, List.length_nil] at hl
  obtain rfl : len = 1 := by omega
  obtain ⟨bl, ol, rfl, hbl, hcl⟩ := hI.at_ (by omega)
  have hc0 : w1.cell? ⟨bl, ol, none⟩ = some (.int .i64 1) := hcl 0 (by omega)
  have hB1 : Below w.heap.size w w1 := ((((((Below.refl _ _).alloc (Nat.le_refl _) _).alloc (by simp) _).alloc (by simp; omega) _).alloc (by simp; omega) _)).trans (hb.mono (by simp; omega))
  have HB1 := Lib.hid hB1
  clear hI hcl hl hb hB1
  go_wp2_with fail
  refine (pick_any _ _ _ _ _ _ _ _ _ _ _ _ [0] [0] [40] [1] 50 20 _ ?_ ?_ ?_ ?_ (by omega) (by omega) (by omega)).mono ?_
  · exact (((ints_lit _ _ [0] rfl (by decide) (by decide)).alloc _).alloc _).alloc _
  · exact ((ints_lit _ _ [0] (by simp) (by decide) (by decide)).alloc _).alloc _
  · exact (ints_lit _ _ [40] (by simp) (by decide) (by decide)).alloc _
  · exact ints_lit _ _ [1] (by simp) (by decide) (by decide)
  rintro e w2 ⟨a2, len2, cap2, rfl, _, hb, _⟩
  rw [live2E]
  have hB2 : Below w1.heap.size w1 w2 := ((((((Below.refl _ _).alloc (Nat.le_refl _) _).alloc (by simp) _).alloc (by simp; omega) _).alloc (by simp; omega) _)).trans (hb.mono (by simp; omega))
  have hc1 := (hB2.cell (p := ⟨bl, ol, none⟩) hbl).trans hc0
  have hbl2 : bl < w2.heap.size := Nat.lt_of_lt_of_le hbl hB2.size
  have HB2 := Lib.hid (HB1.out.trans (hB2.mono HB1.out.size))
  clear hc0 hb hB2
  go_wp2_with fail
  refine (pick_any _ _ _ _ _ _ _ _ _ _ _ _ [0, 0] [] [1] [1] 0 0 _ ?_ ?_ ?_ ?_ (by omega) (by omega) (by omega)).mono ?_
  · exact ((ints_lit _ _ [0, 0] rfl (by decide) (by decide)).alloc _).alloc _
  · exact Ints.nil
  · exact (ints_lit _ _ [1] (by simp) (by decide) (by decide)).alloc _
  · exact ints_lit _ _ [1] (by simp) (by decide) (by decide)
  rintro e w3 ⟨a3, len3, cap3, rfl, _, hb, _⟩
  rw [live3E]
  have hB3 : Below w2.heap.size w2 w3 := (((((Below.refl _ _).alloc (Nat.le_refl _) _).alloc (by simp) _).alloc (by simp; omega) _)).trans (hb.mono (by simp; omega))
  have hc2 := (hB3.cell (p := ⟨bl, ol, none⟩) hbl2).trans hc1
  have HB3 := Lib.hid (HB2.out.trans (hB3.mono HB2.out.size))
  clear hc1 hb hB3
  go_wp2
  go_ret
  exact ⟨rfl, HB3.out⟩
end Go.Proofs.YtekejcnphmnidaaGreatDoor
