/-
  drydocklaw10.alive: contract galive_any (it answers true).
-/
import Derived.Test.YtgmagldbfajedaaGrKnown
import Derived.Test.YtgmagldbfajedaaGrSizes
namespace Go.Proofs.Ytgmagldbfajedaa
open Go.RowKit

/-- What stays while the chapter's graph is asked. -/
structure KSt (w : World) (G b off : Nat) (wk : World) : Prop where
  bel : Below w.heap.size w wk
  cell : wk.cell? ⟨G, 0, none⟩ = some (.slice (some ⟨b, off, none⟩) 4 4)
  lt : G < wk.heap.size
  n : Nodes wk (some ⟨b, off, none⟩) 4 4 gKnown

theorem KSt.on {w : World} {G b off : Nat} {wk w' : World} (h : KSt w G b off wk) (hb : Below wk.heap.size wk w') : KSt w G b off w' :=
  ⟨h.bel.trans (hb.mono h.bel.size), (hb.cell (p := ⟨G, 0, none⟩) h.lt).trans h.cell, Nat.lt_of_lt_of_le h.lt hb.size, h.n.on hb⟩
theorem KSt.alloc {w : World} {G b off : Nat} {wk : World} (h : KSt w G b off wk) (o : Obj) : KSt w G b off (wk.alloc o) := h.on ((Below.refl _ _).alloc (Nat.le_refl _) o)

theorem grid_lit (w : World) (b : Nat) (hb : b = w.heap.size) :
    Grid (((((w.alloc (.cells #[.int .i64 2, .int .i64 3] 3)).alloc (.cells #[.int .i64 3, .int .i64 2] 3)).alloc (.cells #[.int .i64 2, .int .i64 2] 3)).alloc (.cells #[.int .i64 2, .int .i64 2] 3)).alloc
      (.cells #[.slice (some ⟨b, 0, none⟩) 2 2, .slice (some ⟨b + 1, 0, none⟩) 2 2, .slice (some ⟨b + 1 + 1, 0, none⟩) 2 2, .slice (some ⟨b + 1 + 1 + 1, 0, none⟩) 2 2] 22)) (some ⟨b + 1 + 1 + 1 + 1, 0, none⟩) 4 4 [[2, 3], [3, 2], [2, 2], [2, 2]] := by
  have I1 := (((((ints_lits w b [2, 3] hb (by decide) (by decide)).alloc (.cells #[.int .i64 3, .int .i64 2] 3)).alloc (.cells #[.int .i64 2, .int .i64 2] 3)).alloc (.cells #[.int .i64 2, .int .i64 2] 3)).alloc
    (.cells #[.slice (some ⟨b, 0, none⟩) 2 2, .slice (some ⟨b + 1, 0, none⟩) 2 2, .slice (some ⟨b + 1 + 1, 0, none⟩) 2 2, .slice (some ⟨b + 1 + 1 + 1, 0, none⟩) 2 2] 22))
  have I2 := ((((ints_lits (w.alloc (.cells #[.int .i64 2, .int .i64 3] 3)) (b + 1) [3, 2] (by simp [hb]) (by decide) (by decide)).alloc (.cells #[.int .i64 2, .int .i64 2] 3)).alloc (.cells #[.int .i64 2, .int .i64 2] 3)).alloc
    (.cells #[.slice (some ⟨b, 0, none⟩) 2 2, .slice (some ⟨b + 1, 0, none⟩) 2 2, .slice (some ⟨b + 1 + 1, 0, none⟩) 2 2, .slice (some ⟨b + 1 + 1 + 1, 0, none⟩) 2 2] 22))
  have I3 := (((ints_lits ((w.alloc (.cells #[.int .i64 2, .int .i64 3] 3)).alloc (.cells #[.int .i64 3, .int .i64 2] 3)) (b + 1 + 1) [2, 2] (by simp [hb]) (by decide) (by decide)).alloc (.cells #[.int .i64 2, .int .i64 2] 3)).alloc
    (.cells #[.slice (some ⟨b, 0, none⟩) 2 2, .slice (some ⟨b + 1, 0, none⟩) 2 2, .slice (some ⟨b + 1 + 1, 0, none⟩) 2 2, .slice (some ⟨b + 1 + 1 + 1, 0, none⟩) 2 2] 22))
  have I4 := ((ints_lits (((w.alloc (.cells #[.int .i64 2, .int .i64 3] 3)).alloc (.cells #[.int .i64 3, .int .i64 2] 3)).alloc (.cells #[.int .i64 2, .int .i64 2] 3)) (b + 1 + 1 + 1) [2, 2] (by simp [hb]) (by decide) (by decide)).alloc
    (.cells #[.slice (some ⟨b, 0, none⟩) 2 2, .slice (some ⟨b + 1, 0, none⟩) 2 2, .slice (some ⟨b + 1 + 1, 0, none⟩) 2 2, .slice (some ⟨b + 1 + 1 + 1, 0, none⟩) 2 2] 22))
  have hz : b + 1 + 1 + 1 + 1 = ((((w.alloc (.cells #[.int .i64 2, .int .i64 3] 3)).alloc (.cells #[.int .i64 3, .int .i64 2] 3)).alloc (.cells #[.int .i64 2, .int .i64 2] 3)).alloc (.cells #[.int .i64 2, .int .i64 2] 3)).heap.size := by simp [hb]
  refine ⟨Nat.le_refl _, by omega, rfl, fun _ => ⟨b + 1 + 1 + 1 + 1, 0, rfl, by rw [hz]; simp, fun i hi => ?_⟩⟩
  rcases (by omega : i = 0 ∨ i = 1 ∨ i = 2 ∨ i = 3) with rfl | rfl | rfl | rfl
  · exact ⟨_, _, _, by rw [World.cell?_alloc_at _ _ _ _ hz]; rfl, I1⟩
  · exact ⟨_, _, _, by rw [World.cell?_alloc_at _ _ _ _ hz]; rfl, I2⟩
  · exact ⟨_, _, _, by rw [World.cell?_alloc_at _ _ _ _ hz]; rfl, I3⟩
  · exact ⟨_, _, _, by rw [World.cell?_alloc_at _ _ _ _ hz]; rfl, I4⟩

theorem grid_same : gridsB [[2, 3], [3, 2], [2, 2], [2, 2]] [[2, 3], [3, 2], [2, 2], [2, 2]] = true := by decide
theorem same_one : sameB [1] [1] = true := by decide

set_option maxHeartbeats 8000000 in
set_option maxRecDepth 100000 in
theorem galive_any (w : World) : Calls Try.prog 31 #[] w fun e w' => e = .returned (.bool true) ∧ Below w.heap.size w w' := by
  go_enter Try.func31, Try.ntmps31
  go_wp2_with fail
  refine (known_any _).mono ?_
  rintro e w1 ⟨a, rfl, hN, hb⟩
  obtain ⟨b, off, rfl, hbl, _⟩ := hN.at_ (by omega)
  have hK : KSt w w1.heap.size b off (w1.alloc (.cells #[.slice (some ⟨b, off, none⟩) 4 4] 38)) :=
    ⟨hb.alloc hb.size _, by rw [World.cell?_alloc_at _ _ _ _ rfl]; rfl, by simp, hN.on ((Below.refl _ _).alloc (Nat.le_refl _) _)⟩
  have K1 := Lib.hid hK
  clear hN hb hK hbl
  go_wp2_with fail
  refine (gshapes_any _ _ _ gKnown _ K1.out.n).mono ?_
  rintro e w2 ⟨hb2, ⟨hs, rfl⟩ | ⟨s, a2, l2, hs, rfl, hG⟩⟩
  · rw [gKnown_shapes] at hs; cases hs
  · rw [gKnown_shapes] at hs
    cases hs
    have KG := Lib.hid hG
    have K2 := Lib.hid (K1.out.on hb2)
    have c2 := K2.out.cell
    have hl2 := hG.length
    clear hG hb2
    go_wp2_with fail
    refine (gcheck_any _ _ _ gKnown _ K2.out.n).mono ?_
    rintro e w3 ⟨rfl, hb3⟩
    rw [gKnown_shapes]
    have K3 := Lib.hid (K2.out.on hb3)
    have KG3 := Lib.hid (KG.out.below hb3)
    clear hb3 c2
    go_wp2_with fail
    refine (grids_any _ _ _ _ _ _ [[2, 3], [3, 2], [2, 2], [2, 2]] [[2, 3], [3, 2], [2, 2], [2, 2]] _ ?_ (grid_lit w3 _ rfl)).mono ?_
    · exact KG3.out.below ((((((Below.refl _ _).alloc (Nat.le_refl _) _).alloc (by simp) _).alloc (by simp; omega) _).alloc (by simp; omega) _).alloc (by simp; omega) _)
    rintro e w4 ⟨rfl, hb4⟩
    rw [grid_same]
    have K4 := Lib.hid ((((((K3.out.alloc _).alloc _).alloc _).alloc _).alloc _).on hb4)
    have c4 := K4.out.cell
    clear hb4
    go_wp2_with fail
    refine (weights_any _ _ _ gKnown _ K4.out.n).mono ?_
    rintro e w5 ⟨a5, l5, rfl, hI5, hb5⟩
    rw [gKnown_weights] at hI5
    have K5 := Lib.hid (K4.out.on hb5)
    have HI5 := Lib.hid hI5
    clear hb5 c4 hI5
    go_wp2_with fail
    refine (same_any _ _ _ _ _ _ [1] [1] _ (HI5.out.alloc _) (ints_lits w5 _ [1] rfl (by decide) (by decide))).mono ?_
    rintro e w6 ⟨rfl, hb6⟩
    rw [same_one]
    have K6 := Lib.hid ((K5.out.alloc _).on hb6)
    have c6 := K6.out.cell
    clear hb6
    go_wp2_with fail
    refine (input_any _ _ _ gKnown _ K6.out.n).mono ?_
    rintro e w7 ⟨rfl, hb7⟩
    rw [gKnown_input]
    have K7 := Lib.hid (K6.out.on hb7)
    have c7 := K7.out.cell
    clear hb7 c6
    go_wp2_with fail
    refine (gcheck_any _ _ _ (gKnown.take 2) _ (K7.out.n.take 2 (by omega))).mono ?_
    rintro e w8 ⟨rfl, hb8⟩
    rw [gKnown_two]
    have K8 := Lib.hid (K7.out.on hb8)
    have c8 := K8.out.cell
    clear hb8 c7
    go_wp2_with fail
    refine (with_any _ _ _ gKnown _ _ _ _ _ _ _ _ _ [1, 2] [] _ (K8.out.alloc _).n (nodeV_lit (ints_lits w8 _ [1, 2] rfl (by decide) (by decide)) Ints.nil (by decide) (by omega) (by omega) (by omega) (by omega)) (by omega) (by omega)).mono ?_
    rintro e w9 ⟨a9, l9, q9, rfl, hN9, hb9⟩
    have K9 := Lib.hid ((K8.out.alloc _).on hb9)
    have HN9 := Lib.hid hN9
    clear hb9 hN9 c8
    go_wp2_with fail
    refine (gcheck_any _ _ _ _ _ HN9.out).mono ?_
    rintro e w10 ⟨rfl, hb10⟩
    rw [gKnown_more]
    have K10 := Lib.hid (K9.out.on hb10)
    have c10 := K10.out.cell
    clear hb10
    go_wp2_with fail
    refine (with_any _ _ _ gKnown _ _ _ _ _ _ _ _ _ [3] [] _ (K10.out.alloc _).n (nodeV_lit (ints_lits w10 _ [3] rfl (by decide) (by decide)) Ints.nil (by decide) (by omega) (by omega) (by omega) (by omega)) (by omega) (by omega)).mono ?_
    rintro e w11 ⟨a11, l11, q11, rfl, hN11, hb11⟩
    have K11 := Lib.hid ((K10.out.alloc _).on hb11)
    have HN11 := Lib.hid hN11
    clear hb11 hN11 c10
    go_wp2_with fail
    refine (gcheck_any _ _ _ _ _ HN11.out).mono ?_
    rintro e w12 ⟨rfl, hb12⟩
    rw [gKnown_sum]
    have K12 := Lib.hid (K11.out.on hb12)
    clear hb12
    go_wp2_with fail
    refine (gcheck_any _ _ _ [] _ NodesIn.nil).mono ?_
    rintro e w13 ⟨rfl, hb13⟩
    rw [shapes_nil]
    have K13 := Lib.hid (K12.out.on hb13)
    clear hb13
    go_wp2_with fail
    refine (input_any _ _ _ [] _ NodesIn.nil).mono ?_
    rintro e w14 ⟨rfl, hb14⟩
    rw [input_nil]
    have K14 := Lib.hid (K13.out.on hb14)
    clear hb14
    go_wp2
    go_ret
    exact ⟨rfl, K14.out.bel⟩
end Go.Proofs.Ytgmagldbfajedaa
