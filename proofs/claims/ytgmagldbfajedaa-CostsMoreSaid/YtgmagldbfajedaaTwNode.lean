/-
  drydocklaw01.TwinNode: contract twinNode_any.
-/
import Derived.Test.YtgmagldbfajedaaTw
namespace Go.Proofs.Ytgmagldbfajedaa
open Go.RowKit

/-- Five cells of a block, stored one behind the other. -/
def five (w : World) (G : Nat) (v0 v1 v2 v3 v4 : Value) : World := ((((w.setCell ⟨G, 0, none⟩ v0).setCell ⟨G, 1, none⟩ v1).setCell ⟨G, 2, none⟩ v2).setCell ⟨G, 3, none⟩ v3).setCell ⟨G, 4, none⟩ v4
theorem five_other (w : World) {B G : Nat} (h : B ≠ G) (o : Nat) (v0 v1 v2 v3 v4 : Value) : (((((w.setCell ⟨G, 0, none⟩ v0).setCell ⟨G, 1, none⟩ v1).setCell ⟨G, 2, none⟩ v2).setCell ⟨G, 3, none⟩ v3).setCell ⟨G, 4, none⟩ v4).cell? ⟨B, o, none⟩ = w.cell? ⟨B, o, none⟩ := by
  have hne : ∀ i, (⟨B, o, none⟩ : Addr) ≠ ⟨G, i, none⟩ := fun i c => h (Addr.mk.inj c).1
  rw [World.cell?_setCell_other _ _ _ _ (by first | exact hne 4 | exact (hne 4).symm), World.cell?_setCell_other _ _ _ _ (by first | exact hne 3 | exact (hne 3).symm), World.cell?_setCell_other _ _ _ _ (by first | exact hne 2 | exact (hne 2).symm), World.cell?_setCell_other _ _ _ _ (by first | exact hne 1 | exact (hne 1).symm), World.cell?_setCell_other _ _ _ _ (by first | exact hne 0 | exact (hne 0).symm)]
theorem set_off (w : World) {G i j : Nat} (h : i ≠ j) (v : Value) : (w.setCell ⟨G, i, none⟩ v).cell? ⟨G, j, none⟩ = w.cell? ⟨G, j, none⟩ := by
  have hne : (⟨G, i, none⟩ : Addr) ≠ ⟨G, j, none⟩ := fun c => h (Addr.mk.inj c).2.1
  rw [World.cell?_setCell_other _ _ _ _ (by first | exact hne | exact hne.symm)]
theorem five_same (w : World) {G : Nat} {u0 u1 u2 u3 u4 : Value} (h0 : w.cell? ⟨G, 0, none⟩ = some u0) (h1 : w.cell? ⟨G, 1, none⟩ = some u1) (h2 : w.cell? ⟨G, 2, none⟩ = some u2) (h3 : w.cell? ⟨G, 3, none⟩ = some u3) (h4 : w.cell? ⟨G, 4, none⟩ = some u4) (v0 v1 v2 v3 v4 : Value) :
    (five w G v0 v1 v2 v3 v4).cell? ⟨G, 0, none⟩ = some v0 ∧ (five w G v0 v1 v2 v3 v4).cell? ⟨G, 1, none⟩ = some v1 ∧ (five w G v0 v1 v2 v3 v4).cell? ⟨G, 2, none⟩ = some v2 ∧ (five w G v0 v1 v2 v3 v4).cell? ⟨G, 3, none⟩ = some v3 ∧ (five w G v0 v1 v2 v3 v4).cell? ⟨G, 4, none⟩ = some v4 := by
  unfold five
  refine ⟨?_, ?_, ?_, ?_, ?_⟩
  · rw [set_off _ (by decide), set_off _ (by decide), set_off _ (by decide), set_off _ (by decide)]
    exact World.cell?_setCell_same _ _ _ h0
  · rw [set_off _ (by decide), set_off _ (by decide), set_off _ (by decide)]
    exact World.cell?_setCell_same _ _ _ ((set_off _ (by decide) _).trans h1)
  · rw [set_off _ (by decide), set_off _ (by decide)]
    exact World.cell?_setCell_same _ _ _ ((set_off _ (by decide) _).trans ((set_off _ (by decide) _).trans h2))
  · rw [set_off _ (by decide)]
    exact World.cell?_setCell_same _ _ _ ((set_off _ (by decide) _).trans ((set_off _ (by decide) _).trans ((set_off _ (by decide) _).trans h3)))
  · exact World.cell?_setCell_same _ _ _ ((set_off _ (by decide) _).trans ((set_off _ (by decide) _).trans ((set_off _ (by decide) _).trans ((set_off _ (by decide) _).trans h4))))
theorem five_below {base : Nat} {w0 w : World} (h : Below base w0 w) {G : Nat} (hG : base ≤ G) (v0 v1 v2 v3 v4 : Value) : Below base w0 (five w G v0 v1 v2 v3 v4) :=
  below_setCell (below_setCell (below_setCell (below_setCell (below_setCell h _ _ _ hG) _ _ _ hG) _ _ _ hG) _ _ _ hG) _ _ _ hG
theorem Mine.other {base : Nat} {w : World} {g off cap : Nat} {l : List Int} (h : Mine base w g off cap l) {G : Nat} (hne : G ≠ g) (o : Nat) (u : Value) : Mine base (w.setCell ⟨G, o, none⟩ u) g off cap l := by
  refine ⟨h.lo, by simpa [World.setCell] using h.lt, h.le, h.cap_le, fun i hi => ?_, fun i hi => by rw [World.frozen?_setCell]; exact h.fr i hi⟩
  have hne2 : (⟨g, off + i, none⟩ : Addr) ≠ ⟨G, o, none⟩ := fun c => hne (Addr.mk.inj c).1.symm
  rw [World.cell?_setCell_other _ _ _ _ (by first | exact hne2 | exact hne2.symm)]
  exact h.cell i hi
theorem Mine.five {base : Nat} {w : World} {g off cap : Nat} {l : List Int} (h : Mine base w g off cap l) {G : Nat} (hne : G ≠ g) (v0 v1 v2 v3 v4 : Value) : Mine base (five w G v0 v1 v2 v3 v4) g off cap l :=
  ((((h.other hne _ _).other hne _ _).other hne _ _).other hne _ _).other hne _ _
set_option maxHeartbeats 8000000 in
set_option maxRecDepth 100000 in
theorem twinNode_any (ai sa : Option Addr) (li ci ls cs : Nat) (kd n pad : Int) (inn shp : List Int) (w : World) (HI : Ints w ai li ci inn) (HS : Ints w sa ls cs shp) (h1 : li ≤ 1000000) (h2 : ls ≤ 1000000) (hk : 0 ≤ kd ∧ kd ≤ 255) :
    Calls Try.prog 117 #[.agg #[.int .u8 kd, .slice ai li ci, .slice sa ls cs, .int .i64 n, .int .i64 pad]] w fun e w' => ∃ b o c b2 o2 c2, e = .returned (.agg #[.int .u8 kd, .slice (some ⟨b, o, none⟩) li c, .slice (some ⟨b2, o2, none⟩) ls c2, .int .i64 n, .int .i64 pad]) ∧
      Mine w.heap.size w' b o c inn ∧ Mine w.heap.size w' b2 o2 c2 shp ∧ b ≠ b2 ∧ Below w.heap.size w w' := by
  have KI := Lib.hid HI
  have KS := Lib.hid HS
  clear HI HS
  go_enter Try.func117, Try.ntmps117
  go_wp2_with fail
  have x0 : ((w.alloc (.cells #[.int .u8 kd, .slice ai li ci, .slice sa ls cs, .int .i64 n, .int .i64 pad] 46)).alloc (.cells #[.int .u8 0, .slice none 0 0, .slice none 0 0, .int .i64 0, .int .i64 0] 46)).cell? ⟨w.heap.size, 0, none⟩ = some (.int .u8 kd) := Lib.cell?_alloc_some _ (by rw [World.cell?_alloc_at _ _ _ _ rfl]; rfl)
  have x1 : ((w.alloc (.cells #[.int .u8 kd, .slice ai li ci, .slice sa ls cs, .int .i64 n, .int .i64 pad] 46)).alloc (.cells #[.int .u8 0, .slice none 0 0, .slice none 0 0, .int .i64 0, .int .i64 0] 46)).cell? ⟨w.heap.size, 1, none⟩ = some (.slice ai li ci) := Lib.cell?_alloc_some _ (by rw [World.cell?_alloc_at _ _ _ _ rfl]; rfl)
  have x2 : ((w.alloc (.cells #[.int .u8 kd, .slice ai li ci, .slice sa ls cs, .int .i64 n, .int .i64 pad] 46)).alloc (.cells #[.int .u8 0, .slice none 0 0, .slice none 0 0, .int .i64 0, .int .i64 0] 46)).cell? ⟨w.heap.size, 2, none⟩ = some (.slice sa ls cs) := Lib.cell?_alloc_some _ (by rw [World.cell?_alloc_at _ _ _ _ rfl]; rfl)
  have x3 : ((w.alloc (.cells #[.int .u8 kd, .slice ai li ci, .slice sa ls cs, .int .i64 n, .int .i64 pad] 46)).alloc (.cells #[.int .u8 0, .slice none 0 0, .slice none 0 0, .int .i64 0, .int .i64 0] 46)).cell? ⟨w.heap.size, 3, none⟩ = some (.int .i64 n) := Lib.cell?_alloc_some _ (by rw [World.cell?_alloc_at _ _ _ _ rfl]; rfl)
  have x4 : ((w.alloc (.cells #[.int .u8 kd, .slice ai li ci, .slice sa ls cs, .int .i64 n, .int .i64 pad] 46)).alloc (.cells #[.int .u8 0, .slice none 0 0, .slice none 0 0, .int .i64 0, .int .i64 0] 46)).cell? ⟨w.heap.size, 4, none⟩ = some (.int .i64 pad) := Lib.cell?_alloc_some _ (by rw [World.cell?_alloc_at _ _ _ _ rfl]; rfl)
  have y0 : ((w.alloc (.cells #[.int .u8 kd, .slice ai li ci, .slice sa ls cs, .int .i64 n, .int .i64 pad] 46)).alloc (.cells #[.int .u8 0, .slice none 0 0, .slice none 0 0, .int .i64 0, .int .i64 0] 46)).cell? ⟨w.heap.size + 1, 0, none⟩ = some (.int .u8 0) := by rw [World.cell?_alloc_at _ _ _ _ (by simp)]; rfl
  have z0 : ((w.alloc (.cells #[.int .u8 kd, .slice ai li ci, .slice sa ls cs, .int .i64 n, .int .i64 pad] 46)).alloc (.cells #[.int .u8 0, .slice none 0 0, .slice none 0 0, .int .i64 0, .int .i64 0] 46)).frozen? ⟨w.heap.size + 1, 0, none⟩ = false := World.frozen?_alloc_at _ _ _ _ (by simp)
  have y1 : ((w.alloc (.cells #[.int .u8 kd, .slice ai li ci, .slice sa ls cs, .int .i64 n, .int .i64 pad] 46)).alloc (.cells #[.int .u8 0, .slice none 0 0, .slice none 0 0, .int .i64 0, .int .i64 0] 46)).cell? ⟨w.heap.size + 1, 1, none⟩ = some (.slice none 0 0) := by rw [World.cell?_alloc_at _ _ _ _ (by simp)]; rfl
  have z1 : ((w.alloc (.cells #[.int .u8 kd, .slice ai li ci, .slice sa ls cs, .int .i64 n, .int .i64 pad] 46)).alloc (.cells #[.int .u8 0, .slice none 0 0, .slice none 0 0, .int .i64 0, .int .i64 0] 46)).frozen? ⟨w.heap.size + 1, 1, none⟩ = false := World.frozen?_alloc_at _ _ _ _ (by simp)
  have y2 : ((w.alloc (.cells #[.int .u8 kd, .slice ai li ci, .slice sa ls cs, .int .i64 n, .int .i64 pad] 46)).alloc (.cells #[.int .u8 0, .slice none 0 0, .slice none 0 0, .int .i64 0, .int .i64 0] 46)).cell? ⟨w.heap.size + 1, 2, none⟩ = some (.slice none 0 0) := by rw [World.cell?_alloc_at _ _ _ _ (by simp)]; rfl
  have z2 : ((w.alloc (.cells #[.int .u8 kd, .slice ai li ci, .slice sa ls cs, .int .i64 n, .int .i64 pad] 46)).alloc (.cells #[.int .u8 0, .slice none 0 0, .slice none 0 0, .int .i64 0, .int .i64 0] 46)).frozen? ⟨w.heap.size + 1, 2, none⟩ = false := World.frozen?_alloc_at _ _ _ _ (by simp)
  have y3 : ((w.alloc (.cells #[.int .u8 kd, .slice ai li ci, .slice sa ls cs, .int .i64 n, .int .i64 pad] 46)).alloc (.cells #[.int .u8 0, .slice none 0 0, .slice none 0 0, .int .i64 0, .int .i64 0] 46)).cell? ⟨w.heap.size + 1, 3, none⟩ = some (.int .i64 0) := by rw [World.cell?_alloc_at _ _ _ _ (by simp)]; rfl
  have z3 : ((w.alloc (.cells #[.int .u8 kd, .slice ai li ci, .slice sa ls cs, .int .i64 n, .int .i64 pad] 46)).alloc (.cells #[.int .u8 0, .slice none 0 0, .slice none 0 0, .int .i64 0, .int .i64 0] 46)).frozen? ⟨w.heap.size + 1, 3, none⟩ = false := World.frozen?_alloc_at _ _ _ _ (by simp)
  have y4 : ((w.alloc (.cells #[.int .u8 kd, .slice ai li ci, .slice sa ls cs, .int .i64 n, .int .i64 pad] 46)).alloc (.cells #[.int .u8 0, .slice none 0 0, .slice none 0 0, .int .i64 0, .int .i64 0] 46)).cell? ⟨w.heap.size + 1, 4, none⟩ = some (.int .i64 0) := by rw [World.cell?_alloc_at _ _ _ _ (by simp)]; rfl
  have z4 : ((w.alloc (.cells #[.int .u8 kd, .slice ai li ci, .slice sa ls cs, .int .i64 n, .int .i64 pad] 46)).alloc (.cells #[.int .u8 0, .slice none 0 0, .slice none 0 0, .int .i64 0, .int .i64 0] 46)).frozen? ⟨w.heap.size + 1, 4, none⟩ = false := World.frozen?_alloc_at _ _ _ _ (by simp)
  have HB2 : Hid (Below w.heap.size w ((w.alloc (.cells #[.int .u8 kd, .slice ai li ci, .slice sa ls cs, .int .i64 n, .int .i64 pad] 46)).alloc (.cells #[.int .u8 0, .slice none 0 0, .slice none 0 0, .int .i64 0, .int .i64 0] 46))) := ((Below.refl _ _).alloc (Nat.le_refl _) _).alloc (by simp) _
  have hsz : ((w.alloc (.cells #[.int .u8 kd, .slice ai li ci, .slice sa ls cs, .int .i64 n, .int .i64 pad] 46)).alloc (.cells #[.int .u8 0, .slice none 0 0, .slice none 0 0, .int .i64 0, .int .i64 0] 46)).heap.size = w.heap.size + 2 := by simp
  generalize ((w.alloc (.cells #[.int .u8 kd, .slice ai li ci, .slice sa ls cs, .int .i64 n, .int .i64 pad] 46)).alloc (.cells #[.int .u8 0, .slice none 0 0, .slice none 0 0, .int .i64 0, .int .i64 0] 46)) = w2 at *
  have HK : Hid (∀ w', Below w2.heap.size w2 w' → w'.cell? ⟨w.heap.size, 0, none⟩ = some (.int .u8 kd) ∧ w'.cell? ⟨w.heap.size, 1, none⟩ = some (.slice ai li ci) ∧ w'.cell? ⟨w.heap.size, 2, none⟩ = some (.slice sa ls cs) ∧ w'.cell? ⟨w.heap.size, 3, none⟩ = some (.int .i64 n) ∧ w'.cell? ⟨w.heap.size, 4, none⟩ = some (.int .i64 pad)) := fun w' hb =>
    ⟨(hb.cell (p := ⟨w.heap.size, 0, none⟩) (show w.heap.size < w2.heap.size by omega)).trans x0, (hb.cell (p := ⟨w.heap.size, 1, none⟩) (show w.heap.size < w2.heap.size by omega)).trans x1, (hb.cell (p := ⟨w.heap.size, 2, none⟩) (show w.heap.size < w2.heap.size by omega)).trans x2, (hb.cell (p := ⟨w.heap.size, 3, none⟩) (show w.heap.size < w2.heap.size by omega)).trans x3, (hb.cell (p := ⟨w.heap.size, 4, none⟩) (show w.heap.size < w2.heap.size by omega)).trans x4⟩
  have HY : Hid (∀ w', Below w2.heap.size w2 w' → w'.cell? ⟨w.heap.size + 1, 0, none⟩ = some (.int .u8 0) ∧ w'.frozen? ⟨w.heap.size + 1, 0, none⟩ = false ∧ w'.cell? ⟨w.heap.size + 1, 1, none⟩ = some (.slice none 0 0) ∧ w'.frozen? ⟨w.heap.size + 1, 1, none⟩ = false ∧ w'.cell? ⟨w.heap.size + 1, 2, none⟩ = some (.slice none 0 0) ∧ w'.frozen? ⟨w.heap.size + 1, 2, none⟩ = false ∧ w'.cell? ⟨w.heap.size + 1, 3, none⟩ = some (.int .i64 0) ∧ w'.frozen? ⟨w.heap.size + 1, 3, none⟩ = false ∧ w'.cell? ⟨w.heap.size + 1, 4, none⟩ = some (.int .i64 0) ∧ w'.frozen? ⟨w.heap.size + 1, 4, none⟩ = false) := fun w' hb =>
    ⟨(hb.cell (p := ⟨w.heap.size + 1, 0, none⟩) (show w.heap.size + 1 < w2.heap.size by omega)).trans y0, (hb.frozen (p := ⟨w.heap.size + 1, 0, none⟩) (show w.heap.size + 1 < w2.heap.size by omega)).trans z0, (hb.cell (p := ⟨w.heap.size + 1, 1, none⟩) (show w.heap.size + 1 < w2.heap.size by omega)).trans y1, (hb.frozen (p := ⟨w.heap.size + 1, 1, none⟩) (show w.heap.size + 1 < w2.heap.size by omega)).trans z1, (hb.cell (p := ⟨w.heap.size + 1, 2, none⟩) (show w.heap.size + 1 < w2.heap.size by omega)).trans y2, (hb.frozen (p := ⟨w.heap.size + 1, 2, none⟩) (show w.heap.size + 1 < w2.heap.size by omega)).trans z2, (hb.cell (p := ⟨w.heap.size + 1, 3, none⟩) (show w.heap.size + 1 < w2.heap.size by omega)).trans y3, (hb.frozen (p := ⟨w.heap.size + 1, 3, none⟩) (show w.heap.size + 1 < w2.heap.size by omega)).trans z3, (hb.cell (p := ⟨w.heap.size + 1, 4, none⟩) (show w.heap.size + 1 < w2.heap.size by omega)).trans y4, (hb.frozen (p := ⟨w.heap.size + 1, 4, none⟩) (show w.heap.size + 1 < w2.heap.size by omega)).trans z4⟩
  have HBd : Hid (Below w2.heap.size w2 w2.drew) := (Below.refl _ _).drew
  have S0 := Lib.hid (HK.out _ HBd.out)
  have hBG : w.heap.size ≠ w.heap.size + 1 := by omega
  have HSZ := Lib.hid hsz
  clear x0 x1 x2 x3 x4 y0 y1 y2 y3 y4 z0 z1 z2 z3 z4 hsz
  go_region_held3 (fun w' => w'.cell? ⟨w.heap.size, 0, none⟩ = some (.int .u8 kd) ∧ w'.cell? ⟨w.heap.size, 1, none⟩ = some (.slice ai li ci) ∧ w'.cell? ⟨w.heap.size, 2, none⟩ = some (.slice sa ls cs) ∧ w'.cell? ⟨w.heap.size, 3, none⟩ = some (.int .i64 n) ∧ w'.cell? ⟨w.heap.size, 4, none⟩ = some (.int .i64 pad))
    (first
      | with_reducible exact S6
      | with_reducible exact S5
      | with_reducible exact S0.out
      | exact ⟨(five_other w6 hBG _ _ _ _ _ _).trans S6.1, (five_other w6 hBG _ _ _ _ _ _).trans S6.2.1, (five_other w6 hBG _ _ _ _ _ _).trans S6.2.2.1, (five_other w6 hBG _ _ _ _ _ _).trans S6.2.2.2.1, (five_other w6 hBG _ _ _ _ _ _).trans S6.2.2.2.2⟩)
    (first
      | (go_simp; go_at_call 137; refine (twinInts_any sa ls cs shp w5 (KS.out.below (HB2.out.trans (HB5.mono (by have := HSZ.out; omega)))) h2).mono ?_; rintro e w6 ⟨b6, o6, c6, rfl, hM6, hb6⟩; have HB6 := HB5.trans (hb6.mono HB5.size); have S6 := HK.out w6 HB6; obtain ⟨y0, z0, y1, z1, y2, z2, y3, z3, y4, z4⟩ := HY.out w6 HB6)
      | (go_simp; go_at_call 137; refine (twinInts_any ai li ci inn w2.drew (KI.out.below (HB2.out.trans (HBd.out.mono (by have := HSZ.out; omega)))) h1).mono ?_; rintro e w5 ⟨b5, o5, c5, rfl, hM5, hb5⟩; have HB5 := HBd.out.trans (hb5.mono HBd.out.size); have S5 := HK.out w5 HB5))
  obtain ⟨v0, v1, v2, v3, v4⟩ := five_same w6 y0 y1 y2 y3 y4 (.int .u8 kd) (.slice (some ⟨b5, o5, none⟩) li c5) (.slice (some ⟨b6, o6, none⟩) ls c6) (.int .i64 n) (.int .i64 pad)
  have hlo5 := hM5.lo
  have hlt5 := hM5.lt
  have hlo6 := hM6.lo
  have hz2 := HSZ.out
  have hz3 : w.heap.size + 2 ≤ w2.drew.heap.size := by show _ ≤ w2.heap.size; omega
  have R5 : Hid (Mine w.heap.size (five w6 (w.heap.size + 1) (.int .u8 kd) (.slice (some ⟨b5, o5, none⟩) li c5) (.slice (some ⟨b6, o6, none⟩) ls c6) (.int .i64 n) (.int .i64 pad)) b5 o5 c5 inn) := ((hM5.below hb6).mono (by omega)).five (by omega) _ _ _ _ _
  have R6 : Hid (Mine w.heap.size (five w6 (w.heap.size + 1) (.int .u8 kd) (.slice (some ⟨b5, o5, none⟩) li c5) (.slice (some ⟨b6, o6, none⟩) ls c6) (.int .i64 n) (.int .i64 pad)) b6 o6 c6 shp) := (hM6.mono (by have := HB5.size; omega)).five (by have := HB5.size; omega) _ _ _ _ _
  have RB : Hid (Below w.heap.size w (five w6 (w.heap.size + 1) (.int .u8 kd) (.slice (some ⟨b5, o5, none⟩) li c5) (.slice (some ⟨b6, o6, none⟩) ls c6) (.int .i64 n) (.int .i64 pad))) := five_below (HB2.out.trans (HB6.mono (by omega))) (by omega) _ _ _ _ _
  have RN : b5 ≠ b6 := by omega
  clear S5 S6 y0 y1 y2 y3 y4 z0 z1 z2 z3 z4 hM5 hM6 hb5 hb6 HB5 HB6 hz3
  unfold five at v0 v1 v2 v3 v4
  go_wp2
  trace_state
  refine bodyPost_ret (by simp [results, Try.results117, go_sem, v0, v1, v2, v3, v4]; try rfl) rfl ?_
  exact ⟨_, _, _, _, _, _, rfl, R5.out, R6.out, RN, RB.out⟩
end Go.Proofs.Ytgmagldbfajedaa
