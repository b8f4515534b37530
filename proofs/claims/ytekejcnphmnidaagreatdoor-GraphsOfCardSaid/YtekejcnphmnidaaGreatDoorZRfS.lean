import Derived.Test.YtekejcnphmnidaaGreatDoorZRfC
import Derived.Test.YtekejcnphmnidaaGreatDoorZRfJ
import Derived.Test.YtekejcnphmnidaaGreatDoorZGrShape
namespace Go.Proofs.YtekejcnphmnidaaGreatDoor
open Go.RowKit
def RShapeB (w : World) (r : List Int) (e : Ending) (w' : World) : Prop :=
  Below w.heap.size w w' ∧ ((Gr.chk r = false ∧ ∃ a l c, e = .returned (.tuple #[.slice a l c, .bool false])) ∨ (Gr.chk r = true ∧ ∃ a l c, e = .returned (.tuple #[.slice a l c, .bool true]) ∧ Ints w' a l c r))
set_option maxHeartbeats 2000000 in
set_option maxRecDepth 100000 in
theorem rshape_1 (ai sa aL : Option Addr) (li ci ls cs cL : Nat) (n pad : Int) (inn shp : List Int) (L : List (List Int)) (w : World) (HN : NodeV w ai li ci sa ls cs ⟨1, inn, shp, n, pad⟩) (HG : Grid w aL li cL (rowsOf L inn))
    (ho : Gr.ofB (⟨0, 0, 0, 0, 0, 1⟩ : Gr.Kind) ⟨1, inn, shp, n, pad⟩ = true) (_ : ∀ s ∈ rowsOf L inn, Gr.chk s = true) :
    Calls Tryz.prog 186 #[.agg #[.int .u8 1, .slice ai li ci, .slice sa ls cs, .int .i64 n, .int .i64 pad], .slice aL li cL] w fun e w' => RShapeB w (Gr.shapeOf ⟨1, inn, shp, n, pad⟩ L) e w' := by
  have KS := Lib.hid HN.s
  have LI := Lib.hid HN.i.length
  have LS := Lib.hid HN.s.length
  obtain ⟨hp1, hp2, hp3, hp4, hp5, hp6, hp7, hp8, hp9⟩ := Gr.ofB_parts ho
  dsimp only at hp1 hp2 hp3 hp4 hp5 hp6 hp7 hp8 hp9
  rw [LI.out] at hp1 hp2
  have hls := HN.s.le
  have hcs := HN.s.cap_le
  have hgc := HG.le
  have hgc2 := HG.cap_le
  have HB1 : Hid (Below w.heap.size w (w.alloc (.cells #[.int .u8 1, .slice ai li ci, .slice sa ls cs, .int .i64 n, .int .i64 pad] 103))) := (Below.refl _ _).alloc (Nat.le_refl _) _
  have KS1 := Lib.hid (HN.s.below HB1.out)
  have LG : Hid ((rowsOf L inn).length = li) := HG.length
  have HR : Hid (Gr.shapeOf ⟨1, inn, shp, n, pad⟩ L = shp) := by show _ = _; simp [Gr.shapeOf]
  have HK : Hid (Gr.chk shp = true) := hp8 rfl
  clear HN HG ho hp7 hp8 hp9
  go_enter Tryz.func186, Tryz.ntmps186
  go_wp2
  go_ret2
  rw [HR.out]
  exact ⟨HB1.out, .inr ⟨HK.out, _, _, _, rfl, KS1.out⟩⟩
set_option maxHeartbeats 2000000 in
set_option maxRecDepth 100000 in
theorem rshape_2 (ai sa aL : Option Addr) (li ci ls cs cL : Nat) (n pad : Int) (inn shp : List Int) (L : List (List Int)) (w : World) (HN : NodeV w ai li ci sa ls cs ⟨2, inn, shp, n, pad⟩) (HG : Grid w aL li cL (rowsOf L inn))
    (ho : Gr.ofB (⟨0, 0, 0, 0, 0, 1⟩ : Gr.Kind) ⟨2, inn, shp, n, pad⟩ = true) (_ : ∀ s ∈ rowsOf L inn, Gr.chk s = true) :
    Calls Tryz.prog 186 #[.agg #[.int .u8 2, .slice ai li ci, .slice sa ls cs, .int .i64 n, .int .i64 pad], .slice aL li cL] w fun e w' => RShapeB w (Gr.shapeOf ⟨2, inn, shp, n, pad⟩ L) e w' := by
  have KS := Lib.hid HN.s
  have LI := Lib.hid HN.i.length
  have LS := Lib.hid HN.s.length
  obtain ⟨hp1, hp2, hp3, hp4, hp5, hp6, hp7, hp8, hp9⟩ := Gr.ofB_parts ho
  dsimp only at hp1 hp2 hp3 hp4 hp5 hp6 hp7 hp8 hp9
  rw [LI.out] at hp1 hp2
  have hls := HN.s.le
  have hcs := HN.s.cap_le
  have hgc := HG.le
  have hgc2 := HG.cap_le
  have HB1 : Hid (Below w.heap.size w (w.alloc (.cells #[.int .u8 2, .slice ai li ci, .slice sa ls cs, .int .i64 n, .int .i64 pad] 103))) := (Below.refl _ _).alloc (Nat.le_refl _) _
  have KS1 := Lib.hid (HN.s.below HB1.out)
  have LG : Hid ((rowsOf L inn).length = li) := HG.length
  have HR : Hid (Gr.shapeOf ⟨2, inn, shp, n, pad⟩ L = shp) := by show _ = _; simp [Gr.shapeOf]
  have HK : Hid (Gr.chk shp = true) := hp8 rfl
  clear HN HG ho hp7 hp8 hp9
  go_enter Tryz.func186, Tryz.ntmps186
  go_wp2
  go_ret2
  rw [HR.out]
  exact ⟨HB1.out, .inr ⟨HK.out, _, _, _, rfl, KS1.out⟩⟩
set_option maxHeartbeats 2000000 in
set_option maxRecDepth 100000 in
theorem rshape_3 (ai sa aL : Option Addr) (li ci ls cs cL : Nat) (n pad : Int) (inn shp : List Int) (L : List (List Int)) (w : World) (HN : NodeV w ai li ci sa ls cs ⟨3, inn, shp, n, pad⟩) (HG : Grid w aL li cL (rowsOf L inn))
    (ho : Gr.ofB (⟨2, 2, 0, 0, 0, 0⟩ : Gr.Kind) ⟨3, inn, shp, n, pad⟩ = true) (hck : ∀ s ∈ rowsOf L inn, Gr.chk s = true) :
    Calls Tryz.prog 186 #[.agg #[.int .u8 3, .slice ai li ci, .slice sa ls cs, .int .i64 n, .int .i64 pad], .slice aL li cL] w fun e w' => RShapeB w (Gr.shapeOf ⟨3, inn, shp, n, pad⟩ L) e w' := by
  have KS := Lib.hid HN.s
  have LI := Lib.hid HN.i.length
  have LS := Lib.hid HN.s.length
  obtain ⟨hp1, hp2, hp3, hp4, hp5, hp6, hp7, hp8, hp9⟩ := Gr.ofB_parts ho
  dsimp only at hp1 hp2 hp3 hp4 hp5 hp6 hp7 hp8 hp9
  rw [LI.out] at hp1 hp2
  have hls := HN.s.le
  have hcs := HN.s.cap_le
  have hgc := HG.le
  have hgc2 := HG.cap_le
  have HB1 : Hid (Below w.heap.size w (w.alloc (.cells #[.int .u8 3, .slice ai li ci, .slice sa ls cs, .int .i64 n, .int .i64 pad] 103))) := (Below.refl _ _).alloc (Nat.le_refl _) _
  have KS1 := Lib.hid (HN.s.below HB1.out)
  have LG : Hid ((rowsOf L inn).length = li) := HG.length
  obtain ⟨bI, oI, rfl, hbI, hcI⟩ := HG.at_ (by omega)
  obtain ⟨p0, l0, c0, hc0, hI0⟩ := hcI 0 (by omega)
  have hck0 := hck _ (rowL_mem (rowsOf L inn) 0 (by rw [LG.out]; omega))
  rw [rowL_rowsOf L inn 0 (by rw [LI.out]; omega)] at hI0 hck0
  rw [Nat.add_zero] at hc0
  have hcw0 : (w.alloc (.cells #[.int .u8 3, .slice ai li ci, .slice sa ls cs, .int .i64 n, .int .i64 pad] 103)).cell? ⟨bI, oI, none⟩ = some (.slice p0 l0 c0) := Lib.cell?_alloc_some _ hc0
  have hlen0 := hI0.length
  have hle0 := hI0.le
  have hcl0 := hI0.cap_le
  have hj0 : (0 : Int) < (li : Int) := by omega
  have hjn0 : 0 < li := by omega
  have H0 := Lib.hid (hI0.below HB1.out)
  have HC0 := Lib.hid hck0
  obtain ⟨p1, l1, c1, hc1, hI1⟩ := hcI 1 (by omega)
  have hck1 := hck _ (rowL_mem (rowsOf L inn) 1 (by rw [LG.out]; omega))
  rw [rowL_rowsOf L inn 1 (by rw [LI.out]; omega)] at hI1 hck1
  skip
  have hcw1 : (w.alloc (.cells #[.int .u8 3, .slice ai li ci, .slice sa ls cs, .int .i64 n, .int .i64 pad] 103)).cell? ⟨bI, oI + 1, none⟩ = some (.slice p1 l1 c1) := Lib.cell?_alloc_some _ hc1
  have hlen1 := hI1.length
  have hle1 := hI1.le
  have hcl1 := hI1.cap_le
  have hj1 : (1 : Int) < (li : Int) := by omega
  have hjn1 : 1 < li := by omega
  have H1 := Lib.hid (hI1.below HB1.out)
  have HC1 := Lib.hid hck1
  cases hsm : sameB (Gr.rowAt L (nth inn 0)) (Gr.rowAt L (nth inn 1)) with
  | true =>
    have HR : Hid (Gr.shapeOf ⟨3, inn, shp, n, pad⟩ L = (Gr.rowAt L (nth inn 0))) := by show _ = _; simp [Gr.shapeOf, hsm]
    have HE : Hid (∀ q, Calls Tryz.prog 208 #[.slice p0 l0 c0, .slice p1 l1 c1] ((w.alloc (.cells #[.int .u8 3, .slice ai li ci, .slice sa ls cs, .int .i64 n, .int .i64 pad] 103)).drewN q) fun e w' => e = .returned (.bool true) ∧ ∃ m, w' = (w.alloc (.cells #[.int .u8 3, .slice ai li ci, .slice sa ls cs, .int .i64 n, .int .i64 pad] 103)).drewN m) := fun q => (rsame_any _ _ _ _ _ _ _ _ _ (H0.out.drewN q) (H1.out.drewN q)).mono fun e w' ⟨he, m, hw⟩ => ⟨by rw [he, hsm], q + m, by rw [hw]; simp⟩
    clear HN HG ho hck hp7 hp8 hp9 hcI hI0 hck0 hc0 hlen0 hI1 hck1 hc1 hlen1 hsm
    go_enter Tryz.func186, Tryz.ntmps186
    go_wp2_with fail
    go_quiet ((go_at_call 208; with_reducible exact HE.out _))
    go_wp2
    go_ret2
    rw [HR.out]
    exact ⟨HB1.out.trans (below_drewN _ _ _), .inr ⟨HC0.out, _, _, _, rfl, H0.out.drewN _⟩⟩
  | false =>
    have HR : Hid (Gr.shapeOf ⟨3, inn, shp, n, pad⟩ L = []) := by show _ = _; simp [Gr.shapeOf, hsm]
    have HE : Hid (∀ q, Calls Tryz.prog 208 #[.slice p0 l0 c0, .slice p1 l1 c1] ((w.alloc (.cells #[.int .u8 3, .slice ai li ci, .slice sa ls cs, .int .i64 n, .int .i64 pad] 103)).drewN q) fun e w' => e = .returned (.bool false) ∧ ∃ m, w' = (w.alloc (.cells #[.int .u8 3, .slice ai li ci, .slice sa ls cs, .int .i64 n, .int .i64 pad] 103)).drewN m) := fun q => (rsame_any _ _ _ _ _ _ _ _ _ (H0.out.drewN q) (H1.out.drewN q)).mono fun e w' ⟨he, m, hw⟩ => ⟨by rw [he, hsm], q + m, by rw [hw]; simp⟩
    clear HN HG ho hck hp7 hp8 hp9 hcI hI0 hck0 hc0 hlen0 hI1 hck1 hc1 hlen1 hsm
    go_enter Tryz.func186, Tryz.ntmps186
    go_wp2_with fail
    go_quiet ((go_at_call 208; with_reducible exact HE.out _))
    go_wp2
    go_ret2
    rw [HR.out]
    exact ⟨HB1.out.trans (below_drewN _ _ _), .inl ⟨rfl, _, _, _, rfl⟩⟩
set_option maxHeartbeats 2000000 in
set_option maxRecDepth 100000 in
theorem rshape_4 (ai sa aL : Option Addr) (li ci ls cs cL : Nat) (n pad : Int) (inn shp : List Int) (L : List (List Int)) (w : World) (HN : NodeV w ai li ci sa ls cs ⟨4, inn, shp, n, pad⟩) (HG : Grid w aL li cL (rowsOf L inn))
    (ho : Gr.ofB (⟨2, 2, 0, 0, 0, 0⟩ : Gr.Kind) ⟨4, inn, shp, n, pad⟩ = true) (hck : ∀ s ∈ rowsOf L inn, Gr.chk s = true) :
    Calls Tryz.prog 186 #[.agg #[.int .u8 4, .slice ai li ci, .slice sa ls cs, .int .i64 n, .int .i64 pad], .slice aL li cL] w fun e w' => RShapeB w (Gr.shapeOf ⟨4, inn, shp, n, pad⟩ L) e w' := by
  have KS := Lib.hid HN.s
  have LI := Lib.hid HN.i.length
  have LS := Lib.hid HN.s.length
  obtain ⟨hp1, hp2, hp3, hp4, hp5, hp6, hp7, hp8, hp9⟩ := Gr.ofB_parts ho
  dsimp only at hp1 hp2 hp3 hp4 hp5 hp6 hp7 hp8 hp9
  rw [LI.out] at hp1 hp2
  have hls := HN.s.le
  have hcs := HN.s.cap_le
  have hgc := HG.le
  have hgc2 := HG.cap_le
  have HB1 : Hid (Below w.heap.size w (w.alloc (.cells #[.int .u8 4, .slice ai li ci, .slice sa ls cs, .int .i64 n, .int .i64 pad] 103))) := (Below.refl _ _).alloc (Nat.le_refl _) _
  have KS1 := Lib.hid (HN.s.below HB1.out)
  have LG : Hid ((rowsOf L inn).length = li) := HG.length
  obtain ⟨bI, oI, rfl, hbI, hcI⟩ := HG.at_ (by omega)
  obtain ⟨p0, l0, c0, hc0, hI0⟩ := hcI 0 (by omega)
  have hck0 := hck _ (rowL_mem (rowsOf L inn) 0 (by rw [LG.out]; omega))
  rw [rowL_rowsOf L inn 0 (by rw [LI.out]; omega)] at hI0 hck0
  rw [Nat.add_zero] at hc0
  have hcw0 : (w.alloc (.cells #[.int .u8 4, .slice ai li ci, .slice sa ls cs, .int .i64 n, .int .i64 pad] 103)).cell? ⟨bI, oI, none⟩ = some (.slice p0 l0 c0) := Lib.cell?_alloc_some _ hc0
  have hlen0 := hI0.length
  have hle0 := hI0.le
  have hcl0 := hI0.cap_le
  have hj0 : (0 : Int) < (li : Int) := by omega
  have hjn0 : 0 < li := by omega
  have H0 := Lib.hid (hI0.below HB1.out)
  have HC0 := Lib.hid hck0
  obtain ⟨p1, l1, c1, hc1, hI1⟩ := hcI 1 (by omega)
  have hck1 := hck _ (rowL_mem (rowsOf L inn) 1 (by rw [LG.out]; omega))
  rw [rowL_rowsOf L inn 1 (by rw [LI.out]; omega)] at hI1 hck1
  skip
  have hcw1 : (w.alloc (.cells #[.int .u8 4, .slice ai li ci, .slice sa ls cs, .int .i64 n, .int .i64 pad] 103)).cell? ⟨bI, oI + 1, none⟩ = some (.slice p1 l1 c1) := Lib.cell?_alloc_some _ hc1
  have hlen1 := hI1.length
  have hle1 := hI1.le
  have hcl1 := hI1.cap_le
  have hj1 : (1 : Int) < (li : Int) := by omega
  have hjn1 : 1 < li := by omega
  have H1 := Lib.hid (hI1.below HB1.out)
  have HC1 := Lib.hid hck1
  cases hsm : sameB (Gr.rowAt L (nth inn 0)) (Gr.rowAt L (nth inn 1)) with
  | true =>
    have HR : Hid (Gr.shapeOf ⟨4, inn, shp, n, pad⟩ L = (Gr.rowAt L (nth inn 0))) := by show _ = _; simp [Gr.shapeOf, hsm]
    have HE : Hid (∀ q, Calls Tryz.prog 208 #[.slice p0 l0 c0, .slice p1 l1 c1] ((w.alloc (.cells #[.int .u8 4, .slice ai li ci, .slice sa ls cs, .int .i64 n, .int .i64 pad] 103)).drewN q) fun e w' => e = .returned (.bool true) ∧ ∃ m, w' = (w.alloc (.cells #[.int .u8 4, .slice ai li ci, .slice sa ls cs, .int .i64 n, .int .i64 pad] 103)).drewN m) := fun q => (rsame_any _ _ _ _ _ _ _ _ _ (H0.out.drewN q) (H1.out.drewN q)).mono fun e w' ⟨he, m, hw⟩ => ⟨by rw [he, hsm], q + m, by rw [hw]; simp⟩
    clear HN HG ho hck hp7 hp8 hp9 hcI hI0 hck0 hc0 hlen0 hI1 hck1 hc1 hlen1 hsm
    go_enter Tryz.func186, Tryz.ntmps186
    go_wp2_with fail
    go_quiet ((go_at_call 208; with_reducible exact HE.out _))
    go_wp2
    go_ret2
    rw [HR.out]
    exact ⟨HB1.out.trans (below_drewN _ _ _), .inr ⟨HC0.out, _, _, _, rfl, H0.out.drewN _⟩⟩
  | false =>
    have HR : Hid (Gr.shapeOf ⟨4, inn, shp, n, pad⟩ L = []) := by show _ = _; simp [Gr.shapeOf, hsm]
    have HE : Hid (∀ q, Calls Tryz.prog 208 #[.slice p0 l0 c0, .slice p1 l1 c1] ((w.alloc (.cells #[.int .u8 4, .slice ai li ci, .slice sa ls cs, .int .i64 n, .int .i64 pad] 103)).drewN q) fun e w' => e = .returned (.bool false) ∧ ∃ m, w' = (w.alloc (.cells #[.int .u8 4, .slice ai li ci, .slice sa ls cs, .int .i64 n, .int .i64 pad] 103)).drewN m) := fun q => (rsame_any _ _ _ _ _ _ _ _ _ (H0.out.drewN q) (H1.out.drewN q)).mono fun e w' ⟨he, m, hw⟩ => ⟨by rw [he, hsm], q + m, by rw [hw]; simp⟩
    clear HN HG ho hck hp7 hp8 hp9 hcI hI0 hck0 hc0 hlen0 hI1 hck1 hc1 hlen1 hsm
    go_enter Tryz.func186, Tryz.ntmps186
    go_wp2_with fail
    go_quiet ((go_at_call 208; with_reducible exact HE.out _))
    go_wp2
    go_ret2
    rw [HR.out]
    exact ⟨HB1.out.trans (below_drewN _ _ _), .inl ⟨rfl, _, _, _, rfl⟩⟩
set_option maxHeartbeats 2000000 in
set_option maxRecDepth 100000 in
theorem rshape_5 (ai sa aL : Option Addr) (li ci ls cs cL : Nat) (n pad : Int) (inn shp : List Int) (L : List (List Int)) (w : World) (HN : NodeV w ai li ci sa ls cs ⟨5, inn, shp, n, pad⟩) (HG : Grid w aL li cL (rowsOf L inn))
    (ho : Gr.ofB (⟨1, 1, 0, 0, 0, 0⟩ : Gr.Kind) ⟨5, inn, shp, n, pad⟩ = true) (hck : ∀ s ∈ rowsOf L inn, Gr.chk s = true) :
    Calls Tryz.prog 186 #[.agg #[.int .u8 5, .slice ai li ci, .slice sa ls cs, .int .i64 n, .int .i64 pad], .slice aL li cL] w fun e w' => RShapeB w (Gr.shapeOf ⟨5, inn, shp, n, pad⟩ L) e w' := by
  have KS := Lib.hid HN.s
  have LI := Lib.hid HN.i.length
  have LS := Lib.hid HN.s.length
  obtain ⟨hp1, hp2, hp3, hp4, hp5, hp6, hp7, hp8, hp9⟩ := Gr.ofB_parts ho
  dsimp only at hp1 hp2 hp3 hp4 hp5 hp6 hp7 hp8 hp9
  rw [LI.out] at hp1 hp2
  have hls := HN.s.le
  have hcs := HN.s.cap_le
  have hgc := HG.le
  have hgc2 := HG.cap_le
  have HB1 : Hid (Below w.heap.size w (w.alloc (.cells #[.int .u8 5, .slice ai li ci, .slice sa ls cs, .int .i64 n, .int .i64 pad] 103))) := (Below.refl _ _).alloc (Nat.le_refl _) _
  have KS1 := Lib.hid (HN.s.below HB1.out)
  have LG : Hid ((rowsOf L inn).length = li) := HG.length
  obtain ⟨bI, oI, rfl, hbI, hcI⟩ := HG.at_ (by omega)
  obtain ⟨p0, l0, c0, hc0, hI0⟩ := hcI 0 (by omega)
  have hck0 := hck _ (rowL_mem (rowsOf L inn) 0 (by rw [LG.out]; omega))
  rw [rowL_rowsOf L inn 0 (by rw [LI.out]; omega)] at hI0 hck0
  rw [Nat.add_zero] at hc0
  have hcw0 : (w.alloc (.cells #[.int .u8 5, .slice ai li ci, .slice sa ls cs, .int .i64 n, .int .i64 pad] 103)).cell? ⟨bI, oI, none⟩ = some (.slice p0 l0 c0) := Lib.cell?_alloc_some _ hc0
  have hlen0 := hI0.length
  have hle0 := hI0.le
  have hcl0 := hI0.cap_le
  have hj0 : (0 : Int) < (li : Int) := by omega
  have hjn0 : 0 < li := by omega
  have H0 := Lib.hid (hI0.below HB1.out)
  have HC0 := Lib.hid hck0
  have HR : Hid (Gr.shapeOf ⟨5, inn, shp, n, pad⟩ L = (Gr.rowAt L (nth inn 0))) := by show _ = _; simp [Gr.shapeOf]
  clear HN HG ho hck hp7 hp8 hp9 hcI hI0 hck0 hc0 hlen0
  go_enter Tryz.func186, Tryz.ntmps186
  go_wp2
  go_ret2
  rw [HR.out]
  exact ⟨HB1.out, .inr ⟨HC0.out, _, _, _, rfl, H0.out⟩⟩
set_option maxHeartbeats 2000000 in
set_option maxRecDepth 100000 in
theorem rshape_6 (ai sa aL : Option Addr) (li ci ls cs cL : Nat) (n pad : Int) (inn shp : List Int) (L : List (List Int)) (w : World) (HN : NodeV w ai li ci sa ls cs ⟨6, inn, shp, n, pad⟩) (HG : Grid w aL li cL (rowsOf L inn))
    (ho : Gr.ofB (⟨1, 1, 0, 31, 0, 0⟩ : Gr.Kind) ⟨6, inn, shp, n, pad⟩ = true) (hck : ∀ s ∈ rowsOf L inn, Gr.chk s = true) :
    Calls Tryz.prog 186 #[.agg #[.int .u8 6, .slice ai li ci, .slice sa ls cs, .int .i64 n, .int .i64 pad], .slice aL li cL] w fun e w' => RShapeB w (Gr.shapeOf ⟨6, inn, shp, n, pad⟩ L) e w' := by
  have KS := Lib.hid HN.s
  have LI := Lib.hid HN.i.length
  have LS := Lib.hid HN.s.length
  obtain ⟨hp1, hp2, hp3, hp4, hp5, hp6, hp7, hp8, hp9⟩ := Gr.ofB_parts ho
  dsimp only at hp1 hp2 hp3 hp4 hp5 hp6 hp7 hp8 hp9
  rw [LI.out] at hp1 hp2
  have hls := HN.s.le
  have hcs := HN.s.cap_le
  have hgc := HG.le
  have hgc2 := HG.cap_le
  have HB1 : Hid (Below w.heap.size w (w.alloc (.cells #[.int .u8 6, .slice ai li ci, .slice sa ls cs, .int .i64 n, .int .i64 pad] 103))) := (Below.refl _ _).alloc (Nat.le_refl _) _
  have KS1 := Lib.hid (HN.s.below HB1.out)
  have LG : Hid ((rowsOf L inn).length = li) := HG.length
  obtain ⟨bI, oI, rfl, hbI, hcI⟩ := HG.at_ (by omega)
  obtain ⟨p0, l0, c0, hc0, hI0⟩ := hcI 0 (by omega)
  have hck0 := hck _ (rowL_mem (rowsOf L inn) 0 (by rw [LG.out]; omega))
  rw [rowL_rowsOf L inn 0 (by rw [LI.out]; omega)] at hI0 hck0
  rw [Nat.add_zero] at hc0
  have hcw0 : (w.alloc (.cells #[.int .u8 6, .slice ai li ci, .slice sa ls cs, .int .i64 n, .int .i64 pad] 103)).cell? ⟨bI, oI, none⟩ = some (.slice p0 l0 c0) := Lib.cell?_alloc_some _ hc0
  have hlen0 := hI0.length
  have hle0 := hI0.le
  have hcl0 := hI0.cap_le
  have hj0 : (0 : Int) < (li : Int) := by omega
  have hjn0 : 0 < li := by omega
  have H0 := Lib.hid (hI0.below HB1.out)
  have HC0 := Lib.hid hck0
  have HR : Hid (Gr.shapeOf ⟨6, inn, shp, n, pad⟩ L = (Gr.rowAt L (nth inn 0))) := by show _ = _; simp [Gr.shapeOf]
  clear HN HG ho hck hp7 hp8 hp9 hcI hI0 hck0 hc0 hlen0
  go_enter Tryz.func186, Tryz.ntmps186
  go_wp2
  go_ret2
  rw [HR.out]
  exact ⟨HB1.out, .inr ⟨HC0.out, _, _, _, rfl, H0.out⟩⟩
set_option maxHeartbeats 2000000 in
set_option maxRecDepth 100000 in
theorem rshape_7 (ai sa aL : Option Addr) (li ci ls cs cL : Nat) (n pad : Int) (inn shp : List Int) (L : List (List Int)) (w : World) (HN : NodeV w ai li ci sa ls cs ⟨7, inn, shp, n, pad⟩) (HG : Grid w aL li cL (rowsOf L inn))
    (ho : Gr.ofB (⟨2, 2, 0, 0, 0, 0⟩ : Gr.Kind) ⟨7, inn, shp, n, pad⟩ = true) (hck : ∀ s ∈ rowsOf L inn, Gr.chk s = true) :
    Calls Tryz.prog 186 #[.agg #[.int .u8 7, .slice ai li ci, .slice sa ls cs, .int .i64 n, .int .i64 pad], .slice aL li cL] w fun e w' => RShapeB w (Gr.shapeOf ⟨7, inn, shp, n, pad⟩ L) e w' := by
  have KS := Lib.hid HN.s
  have LI := Lib.hid HN.i.length
  have LS := Lib.hid HN.s.length
  obtain ⟨hp1, hp2, hp3, hp4, hp5, hp6, hp7, hp8, hp9⟩ := Gr.ofB_parts ho
  dsimp only at hp1 hp2 hp3 hp4 hp5 hp6 hp7 hp8 hp9
  rw [LI.out] at hp1 hp2
  have hls := HN.s.le
  have hcs := HN.s.cap_le
  have hgc := HG.le
  have hgc2 := HG.cap_le
  have HB1 : Hid (Below w.heap.size w (w.alloc (.cells #[.int .u8 7, .slice ai li ci, .slice sa ls cs, .int .i64 n, .int .i64 pad] 103))) := (Below.refl _ _).alloc (Nat.le_refl _) _
  have KS1 := Lib.hid (HN.s.below HB1.out)
  have LG : Hid ((rowsOf L inn).length = li) := HG.length
  obtain ⟨bI, oI, rfl, hbI, hcI⟩ := HG.at_ (by omega)
  obtain ⟨p0, l0, c0, hc0, hI0⟩ := hcI 0 (by omega)
  have hck0 := hck _ (rowL_mem (rowsOf L inn) 0 (by rw [LG.out]; omega))
  rw [rowL_rowsOf L inn 0 (by rw [LI.out]; omega)] at hI0 hck0
  rw [Nat.add_zero] at hc0
  have hcw0 : (w.alloc (.cells #[.int .u8 7, .slice ai li ci, .slice sa ls cs, .int .i64 n, .int .i64 pad] 103)).cell? ⟨bI, oI, none⟩ = some (.slice p0 l0 c0) := Lib.cell?_alloc_some _ hc0
  have hlen0 := hI0.length
  have hle0 := hI0.le
  have hcl0 := hI0.cap_le
  have hj0 : (0 : Int) < (li : Int) := by omega
  have hjn0 : 0 < li := by omega
  have H0 := Lib.hid (hI0.below HB1.out)
  have HC0 := Lib.hid hck0
  obtain ⟨p1, l1, c1, hc1, hI1⟩ := hcI 1 (by omega)
  have hck1 := hck _ (rowL_mem (rowsOf L inn) 1 (by rw [LG.out]; omega))
  rw [rowL_rowsOf L inn 1 (by rw [LI.out]; omega)] at hI1 hck1
  skip
  have hcw1 : (w.alloc (.cells #[.int .u8 7, .slice ai li ci, .slice sa ls cs, .int .i64 n, .int .i64 pad] 103)).cell? ⟨bI, oI + 1, none⟩ = some (.slice p1 l1 c1) := Lib.cell?_alloc_some _ hc1
  have hlen1 := hI1.length
  have hle1 := hI1.le
  have hcl1 := hI1.cap_le
  have hj1 : (1 : Int) < (li : Int) := by omega
  have hjn1 : 1 < li := by omega
  have H1 := Lib.hid (hI1.below HB1.out)
  have HC1 := Lib.hid hck1
  have HR : Hid (Gr.shapeOf ⟨7, inn, shp, n, pad⟩ L = Gr.product (Gr.rowAt L (nth inn 0)) (Gr.rowAt L (nth inn 1))) := by show _ = _; simp [Gr.shapeOf]
  clear HN HG ho hck hp7 hp8 hp9 hcI hI0 hck0 hc0 hlen0 hI1 hck1 hc1 hlen1
  have X2 : Hid ((w.alloc (.cells #[.int .u8 7, .slice ai li ci, .slice sa ls cs, .int .i64 n, .int .i64 pad] 103)).cell? ⟨w.heap.size, 2, none⟩ = some (.slice sa ls cs)) := by show _ = _; rw [World.cell?_alloc_at _ _ _ _ rfl]; rfl
  have X3 : Hid ((w.alloc (.cells #[.int .u8 7, .slice ai li ci, .slice sa ls cs, .int .i64 n, .int .i64 pad] 103)).cell? ⟨w.heap.size, 3, none⟩ = some (.int .i64 n)) := by show _ = _; rw [World.cell?_alloc_at _ _ _ _ rfl]; rfl
  have X4 : Hid ((w.alloc (.cells #[.int .u8 7, .slice ai li ci, .slice sa ls cs, .int .i64 n, .int .i64 pad] 103)).cell? ⟨w.heap.size, 4, none⟩ = some (.int .i64 pad)) := by show _ = _; rw [World.cell?_alloc_at _ _ _ _ rfl]; rfl
  have hz1 : w.heap.size < (w.alloc (.cells #[.int .u8 7, .slice ai li ci, .slice sa ls cs, .int .i64 n, .int .i64 pad] 103)).heap.size := by simp
  go_enter Tryz.func186, Tryz.ntmps186
  go_wp2_with fail
  generalize (w.alloc (.cells #[.int .u8 7, .slice ai li ci, .slice sa ls cs, .int .i64 n, .int .i64 pad] 103)) = w1 at *
  have x2 := X2.out
  have x3 := X3.out
  have x4 := X4.out
  have HWd : Hid (Below w.heap.size w w1.drew) := HB1.out.drew
  have HB9 : Hid (Below w1.heap.size w1 w1.drew) := (Below.refl _ _).drew
  have KSq := Lib.hid (KS1.out.below HB9.out)
  have H0q := Lib.hid (H0.out.below HB9.out)
  have H1q := Lib.hid (H1.out.below HB9.out)
  refine wp_region_still_call 6 mixed (by kernel_rfl) ?_
  simp only [List.take_succ_cons, List.take_zero, List.getElem?_cons_succ, List.getElem?_cons_zero]
  repeat still_step
  refine wpStill_nil ?_
  intro KC hKC
  simp only [List.drop_succ_cons, List.drop_zero] at hKC
  go_simp
  refine (rproduct_any _ _ _ _ _ _ (Gr.rowAt L (nth inn 0)) (Gr.rowAt L (nth inn 1)) _ H0q.out H1q.out).mono ?_
  have HBq := Lib.hid HWd.out
  rintro e w2 ⟨hb, ⟨hc, E, hE, rfl⟩ | ⟨hc, a2, n2, m2, rfl, hI⟩⟩
  · have HB2 := Lib.hid (HBq.out.trans (hb.mono HBq.out.size))
    have HC := Lib.hid hc
    have hE2 : (E == 0) = false := by simp [hE]
    clear hb hc hE
    refine hKC _ _ ?_
    clear hKC KC
    repeat still_step
    refine wpStill_nil ?_
    go_wp2
    go_ret2
    rw [HR.out]
    exact ⟨HB2.out, .inl ⟨HC.out, _, _, _, rfl⟩⟩
  · have HB2 := Lib.hid (HBq.out.trans (hb.mono HBq.out.size))
    have HC := Lib.hid hc
    have HI2 := Lib.hid hI
    clear hb hc hI
    refine hKC _ _ ?_
    clear hKC KC
    repeat still_step
    refine wpStill_nil ?_
    go_wp2
    go_ret2
    rw [HR.out]
    exact ⟨HB2.out, .inr ⟨HC.out, _, _, _, rfl, HI2.out⟩⟩
set_option maxHeartbeats 2000000 in
set_option maxRecDepth 100000 in
theorem rshape_8 (ai sa aL : Option Addr) (li ci ls cs cL : Nat) (n pad : Int) (inn shp : List Int) (L : List (List Int)) (w : World) (HN : NodeV w ai li ci sa ls cs ⟨8, inn, shp, n, pad⟩) (HG : Grid w aL li cL (rowsOf L inn))
    (ho : Gr.ofB (⟨2, 2, 1, 8, 8, 0⟩ : Gr.Kind) ⟨8, inn, shp, n, pad⟩ = true) (hck : ∀ s ∈ rowsOf L inn, Gr.chk s = true) :
    Calls Tryz.prog 186 #[.agg #[.int .u8 8, .slice ai li ci, .slice sa ls cs, .int .i64 n, .int .i64 pad], .slice aL li cL] w fun e w' => RShapeB w (Gr.shapeOf ⟨8, inn, shp, n, pad⟩ L) e w' := by
  have KS := Lib.hid HN.s
  have LI := Lib.hid HN.i.length
  have LS := Lib.hid HN.s.length
  obtain ⟨hp1, hp2, hp3, hp4, hp5, hp6, hp7, hp8, hp9⟩ := Gr.ofB_parts ho
  dsimp only at hp1 hp2 hp3 hp4 hp5 hp6 hp7 hp8 hp9
  rw [LI.out] at hp1 hp2
  have hls := HN.s.le
  have hcs := HN.s.cap_le
  have hgc := HG.le
  have hgc2 := HG.cap_le
  have HB1 : Hid (Below w.heap.size w (w.alloc (.cells #[.int .u8 8, .slice ai li ci, .slice sa ls cs, .int .i64 n, .int .i64 pad] 103))) := (Below.refl _ _).alloc (Nat.le_refl _) _
  have KS1 := Lib.hid (HN.s.below HB1.out)
  have LG : Hid ((rowsOf L inn).length = li) := HG.length
  obtain ⟨bI, oI, rfl, hbI, hcI⟩ := HG.at_ (by omega)
  obtain ⟨p0, l0, c0, hc0, hI0⟩ := hcI 0 (by omega)
  have hck0 := hck _ (rowL_mem (rowsOf L inn) 0 (by rw [LG.out]; omega))
  rw [rowL_rowsOf L inn 0 (by rw [LI.out]; omega)] at hI0 hck0
  rw [Nat.add_zero] at hc0
  have hcw0 : (w.alloc (.cells #[.int .u8 8, .slice ai li ci, .slice sa ls cs, .int .i64 n, .int .i64 pad] 103)).cell? ⟨bI, oI, none⟩ = some (.slice p0 l0 c0) := Lib.cell?_alloc_some _ hc0
  have hlen0 := hI0.length
  have hle0 := hI0.le
  have hcl0 := hI0.cap_le
  have hj0 : (0 : Int) < (li : Int) := by omega
  have hjn0 : 0 < li := by omega
  have H0 := Lib.hid (hI0.below HB1.out)
  have HC0 := Lib.hid hck0
  obtain ⟨p1, l1, c1, hc1, hI1⟩ := hcI 1 (by omega)
  have hck1 := hck _ (rowL_mem (rowsOf L inn) 1 (by rw [LG.out]; omega))
  rw [rowL_rowsOf L inn 1 (by rw [LI.out]; omega)] at hI1 hck1
  skip
  have hcw1 : (w.alloc (.cells #[.int .u8 8, .slice ai li ci, .slice sa ls cs, .int .i64 n, .int .i64 pad] 103)).cell? ⟨bI, oI + 1, none⟩ = some (.slice p1 l1 c1) := Lib.cell?_alloc_some _ hc1
  have hlen1 := hI1.length
  have hle1 := hI1.le
  have hcl1 := hI1.cap_le
  have hj1 : (1 : Int) < (li : Int) := by omega
  have hjn1 : 1 < li := by omega
  have H1 := Lib.hid (hI1.below HB1.out)
  have HC1 := Lib.hid hck1
  have HR : Hid (Gr.shapeOf ⟨8, inn, shp, n, pad⟩ L = Gr.window (Gr.rowAt L (nth inn 0)) (Gr.rowAt L (nth inn 1)) n pad) := by show _ = _; simp [Gr.shapeOf]
  clear HN HG ho hck hp7 hp8 hp9 hcI hI0 hck0 hc0 hlen0 hI1 hck1 hc1 hlen1
  have X2 : Hid ((w.alloc (.cells #[.int .u8 8, .slice ai li ci, .slice sa ls cs, .int .i64 n, .int .i64 pad] 103)).cell? ⟨w.heap.size, 2, none⟩ = some (.slice sa ls cs)) := by show _ = _; rw [World.cell?_alloc_at _ _ _ _ rfl]; rfl
  have X3 : Hid ((w.alloc (.cells #[.int .u8 8, .slice ai li ci, .slice sa ls cs, .int .i64 n, .int .i64 pad] 103)).cell? ⟨w.heap.size, 3, none⟩ = some (.int .i64 n)) := by show _ = _; rw [World.cell?_alloc_at _ _ _ _ rfl]; rfl
  have X4 : Hid ((w.alloc (.cells #[.int .u8 8, .slice ai li ci, .slice sa ls cs, .int .i64 n, .int .i64 pad] 103)).cell? ⟨w.heap.size, 4, none⟩ = some (.int .i64 pad)) := by show _ = _; rw [World.cell?_alloc_at _ _ _ _ rfl]; rfl
  have hz1 : w.heap.size < (w.alloc (.cells #[.int .u8 8, .slice ai li ci, .slice sa ls cs, .int .i64 n, .int .i64 pad] 103)).heap.size := by simp
  go_enter Tryz.func186, Tryz.ntmps186
  go_wp2_with fail
  generalize (w.alloc (.cells #[.int .u8 8, .slice ai li ci, .slice sa ls cs, .int .i64 n, .int .i64 pad] 103)) = w1 at *
  have x2 := X2.out
  have x3 := X3.out
  have x4 := X4.out
  have HWd : Hid (Below w.heap.size w w1.drew) := HB1.out.drew
  have HB9 : Hid (Below w1.heap.size w1 w1.drew) := (Below.refl _ _).drew
  have KSq := Lib.hid (KS1.out.below HB9.out)
  have H0q := Lib.hid (H0.out.below HB9.out)
  have H1q := Lib.hid (H1.out.below HB9.out)
  refine wp_region_still_call 10 mixed (by kernel_rfl) ?_
  simp only [List.take_succ_cons, List.take_zero, List.getElem?_cons_succ, List.getElem?_cons_zero]
  repeat still_step
  refine wpStill_nil ?_
  intro KC hKC
  simp only [List.drop_succ_cons, List.drop_zero] at hKC
  go_simp
  refine (rwindow_any _ _ _ _ _ _ (Gr.rowAt L (nth inn 0)) (Gr.rowAt L (nth inn 1)) _ _ _ H0q.out H1q.out).mono ?_
  have HBq := Lib.hid HWd.out
  rintro e w2 ⟨hb, ⟨hc, E, hE, rfl⟩ | ⟨hc, a2, n2, m2, rfl, hI⟩⟩
  · have HB2 := Lib.hid (HBq.out.trans (hb.mono HBq.out.size))
    have HC := Lib.hid hc
    have hE2 : (E == 0) = false := by simp [hE]
    clear hb hc hE
    refine hKC _ _ ?_
    clear hKC KC
    repeat still_step
    refine wpStill_nil ?_
    go_wp2
    go_ret2
    rw [HR.out]
    exact ⟨HB2.out, .inl ⟨HC.out, _, _, _, rfl⟩⟩
  · have HB2 := Lib.hid (HBq.out.trans (hb.mono HBq.out.size))
    have HC := Lib.hid hc
    have HI2 := Lib.hid hI
    clear hb hc hI
    refine hKC _ _ ?_
    clear hKC KC
    repeat still_step
    refine wpStill_nil ?_
    go_wp2
    go_ret2
    rw [HR.out]
    exact ⟨HB2.out, .inr ⟨HC.out, _, _, _, rfl, HI2.out⟩⟩
set_option maxHeartbeats 2000000 in
set_option maxRecDepth 100000 in
theorem rshape_9 (ai sa aL : Option Addr) (li ci ls cs cL : Nat) (n pad : Int) (inn shp : List Int) (L : List (List Int)) (w : World) (HN : NodeV w ai li ci sa ls cs ⟨9, inn, shp, n, pad⟩) (HG : Grid w aL li cL (rowsOf L inn))
    (ho : Gr.ofB (⟨1, 1, 1, 64, 0, 0⟩ : Gr.Kind) ⟨9, inn, shp, n, pad⟩ = true) (hck : ∀ s ∈ rowsOf L inn, Gr.chk s = true) :
    Calls Tryz.prog 186 #[.agg #[.int .u8 9, .slice ai li ci, .slice sa ls cs, .int .i64 n, .int .i64 pad], .slice aL li cL] w fun e w' => RShapeB w (Gr.shapeOf ⟨9, inn, shp, n, pad⟩ L) e w' := by
  have KS := Lib.hid HN.s
  have LI := Lib.hid HN.i.length
  have LS := Lib.hid HN.s.length
  obtain ⟨hp1, hp2, hp3, hp4, hp5, hp6, hp7, hp8, hp9⟩ := Gr.ofB_parts ho
  dsimp only at hp1 hp2 hp3 hp4 hp5 hp6 hp7 hp8 hp9
  rw [LI.out] at hp1 hp2
  have hls := HN.s.le
  have hcs := HN.s.cap_le
  have hgc := HG.le
  have hgc2 := HG.cap_le
  have HB1 : Hid (Below w.heap.size w (w.alloc (.cells #[.int .u8 9, .slice ai li ci, .slice sa ls cs, .int .i64 n, .int .i64 pad] 103))) := (Below.refl _ _).alloc (Nat.le_refl _) _
  have KS1 := Lib.hid (HN.s.below HB1.out)
  have LG : Hid ((rowsOf L inn).length = li) := HG.length
  obtain ⟨bI, oI, rfl, hbI, hcI⟩ := HG.at_ (by omega)
  obtain ⟨p0, l0, c0, hc0, hI0⟩ := hcI 0 (by omega)
  have hck0 := hck _ (rowL_mem (rowsOf L inn) 0 (by rw [LG.out]; omega))
  rw [rowL_rowsOf L inn 0 (by rw [LI.out]; omega)] at hI0 hck0
  rw [Nat.add_zero] at hc0
  have hcw0 : (w.alloc (.cells #[.int .u8 9, .slice ai li ci, .slice sa ls cs, .int .i64 n, .int .i64 pad] 103)).cell? ⟨bI, oI, none⟩ = some (.slice p0 l0 c0) := Lib.cell?_alloc_some _ hc0
  have hlen0 := hI0.length
  have hle0 := hI0.le
  have hcl0 := hI0.cap_le
  have hj0 : (0 : Int) < (li : Int) := by omega
  have hjn0 : 0 < li := by omega
  have H0 := Lib.hid (hI0.below HB1.out)
  have HC0 := Lib.hid hck0
  have HR : Hid (Gr.shapeOf ⟨9, inn, shp, n, pad⟩ L = Gr.pool (Gr.rowAt L (nth inn 0)) n) := by show _ = _; simp [Gr.shapeOf]
  clear HN HG ho hck hp7 hp8 hp9 hcI hI0 hck0 hc0 hlen0
  have X2 : Hid ((w.alloc (.cells #[.int .u8 9, .slice ai li ci, .slice sa ls cs, .int .i64 n, .int .i64 pad] 103)).cell? ⟨w.heap.size, 2, none⟩ = some (.slice sa ls cs)) := by show _ = _; rw [World.cell?_alloc_at _ _ _ _ rfl]; rfl
  have X3 : Hid ((w.alloc (.cells #[.int .u8 9, .slice ai li ci, .slice sa ls cs, .int .i64 n, .int .i64 pad] 103)).cell? ⟨w.heap.size, 3, none⟩ = some (.int .i64 n)) := by show _ = _; rw [World.cell?_alloc_at _ _ _ _ rfl]; rfl
  have X4 : Hid ((w.alloc (.cells #[.int .u8 9, .slice ai li ci, .slice sa ls cs, .int .i64 n, .int .i64 pad] 103)).cell? ⟨w.heap.size, 4, none⟩ = some (.int .i64 pad)) := by show _ = _; rw [World.cell?_alloc_at _ _ _ _ rfl]; rfl
  have hz1 : w.heap.size < (w.alloc (.cells #[.int .u8 9, .slice ai li ci, .slice sa ls cs, .int .i64 n, .int .i64 pad] 103)).heap.size := by simp
  go_enter Tryz.func186, Tryz.ntmps186
  go_wp2_with fail
  generalize (w.alloc (.cells #[.int .u8 9, .slice ai li ci, .slice sa ls cs, .int .i64 n, .int .i64 pad] 103)) = w1 at *
  have x2 := X2.out
  have x3 := X3.out
  have x4 := X4.out
  have HWd : Hid (Below w.heap.size w w1.drew) := HB1.out.drew
  have HB9 : Hid (Below w1.heap.size w1 w1.drew) := (Below.refl _ _).drew
  have KSq := Lib.hid (KS1.out.below HB9.out)
  have H0q := Lib.hid (H0.out.below HB9.out)
  refine wp_region_still_call 5 mixed (by kernel_rfl) ?_
  simp only [List.take_succ_cons, List.take_zero, List.getElem?_cons_succ, List.getElem?_cons_zero]
  repeat still_step
  refine wpStill_nil ?_
  intro KC hKC
  simp only [List.drop_succ_cons, List.drop_zero] at hKC
  go_simp
  refine (rpool_any _ _ _ (Gr.rowAt L (nth inn 0)) _ _ H0q.out).mono ?_
  have HBq := Lib.hid HWd.out
  rintro e w2 ⟨hb, ⟨hc, E, hE, rfl⟩ | ⟨hc, a2, n2, m2, rfl, hI⟩⟩
  · have HB2 := Lib.hid (HBq.out.trans (hb.mono HBq.out.size))
    have HC := Lib.hid hc
    have hE2 : (E == 0) = false := by simp [hE]
    clear hb hc hE
    refine hKC _ _ ?_
    clear hKC KC
    repeat still_step
    refine wpStill_nil ?_
    go_wp2
    go_ret2
    rw [HR.out]
    exact ⟨HB2.out, .inl ⟨HC.out, _, _, _, rfl⟩⟩
  · have HB2 := Lib.hid (HBq.out.trans (hb.mono HBq.out.size))
    have HC := Lib.hid hc
    have HI2 := Lib.hid hI
    clear hb hc hI
    refine hKC _ _ ?_
    clear hKC KC
    repeat still_step
    refine wpStill_nil ?_
    go_wp2
    go_ret2
    rw [HR.out]
    exact ⟨HB2.out, .inr ⟨HC.out, _, _, _, rfl, HI2.out⟩⟩
set_option maxHeartbeats 2000000 in
set_option maxRecDepth 100000 in
theorem rshape_10 (ai sa aL : Option Addr) (li ci ls cs cL : Nat) (n pad : Int) (inn shp : List Int) (L : List (List Int)) (w : World) (HN : NodeV w ai li ci sa ls cs ⟨10, inn, shp, n, pad⟩) (HG : Grid w aL li cL (rowsOf L inn))
    (ho : Gr.ofB (⟨1, 1, 0, 0, 0, 1⟩ : Gr.Kind) ⟨10, inn, shp, n, pad⟩ = true) (hck : ∀ s ∈ rowsOf L inn, Gr.chk s = true) :
    Calls Tryz.prog 186 #[.agg #[.int .u8 10, .slice ai li ci, .slice sa ls cs, .int .i64 n, .int .i64 pad], .slice aL li cL] w fun e w' => RShapeB w (Gr.shapeOf ⟨10, inn, shp, n, pad⟩ L) e w' := by
  have KS := Lib.hid HN.s
  have LI := Lib.hid HN.i.length
  have LS := Lib.hid HN.s.length
  obtain ⟨hp1, hp2, hp3, hp4, hp5, hp6, hp7, hp8, hp9⟩ := Gr.ofB_parts ho
  dsimp only at hp1 hp2 hp3 hp4 hp5 hp6 hp7 hp8 hp9
  rw [LI.out] at hp1 hp2
  have hls := HN.s.le
  have hcs := HN.s.cap_le
  have hgc := HG.le
  have hgc2 := HG.cap_le
  have HB1 : Hid (Below w.heap.size w (w.alloc (.cells #[.int .u8 10, .slice ai li ci, .slice sa ls cs, .int .i64 n, .int .i64 pad] 103))) := (Below.refl _ _).alloc (Nat.le_refl _) _
  have KS1 := Lib.hid (HN.s.below HB1.out)
  have LG : Hid ((rowsOf L inn).length = li) := HG.length
  obtain ⟨bI, oI, rfl, hbI, hcI⟩ := HG.at_ (by omega)
  obtain ⟨p0, l0, c0, hc0, hI0⟩ := hcI 0 (by omega)
  have hck0 := hck _ (rowL_mem (rowsOf L inn) 0 (by rw [LG.out]; omega))
  rw [rowL_rowsOf L inn 0 (by rw [LI.out]; omega)] at hI0 hck0
  rw [Nat.add_zero] at hc0
  have hcw0 : (w.alloc (.cells #[.int .u8 10, .slice ai li ci, .slice sa ls cs, .int .i64 n, .int .i64 pad] 103)).cell? ⟨bI, oI, none⟩ = some (.slice p0 l0 c0) := Lib.cell?_alloc_some _ hc0
  have hlen0 := hI0.length
  have hle0 := hI0.le
  have hcl0 := hI0.cap_le
  have hj0 : (0 : Int) < (li : Int) := by omega
  have hjn0 : 0 < li := by omega
  have H0 := Lib.hid (hI0.below HB1.out)
  have HC0 := Lib.hid hck0
  have HK : Hid (Gr.chk shp = true) := hp8 rfl
  have HE1 : Hid (∀ q, Calls Tryz.prog 125 #[.slice p0 l0 c0] ((w.alloc (.cells #[.int .u8 10, .slice ai li ci, .slice sa ls cs, .int .i64 n, .int .i64 pad] 103)).drewN q) fun e w' => e = .returned (.int .i64 (Gr.size (Gr.rowAt L (nth inn 0)))) ∧ w' = (w.alloc (.cells #[.int .u8 10, .slice ai li ci, .slice sa ls cs, .int .i64 n, .int .i64 pad] 103)).drewN q) := fun q => (rsize_any _ _ _ _ _ (H0.out.drewN q)).mono fun e w' ⟨he, hw⟩ => ⟨he, hw.symm⟩
  have HE2 : Hid (∀ q, Calls Tryz.prog 125 #[.slice sa ls cs] ((w.alloc (.cells #[.int .u8 10, .slice ai li ci, .slice sa ls cs, .int .i64 n, .int .i64 pad] 103)).drewN q) fun e w' => e = .returned (.int .i64 (Gr.size shp)) ∧ w' = (w.alloc (.cells #[.int .u8 10, .slice ai li ci, .slice sa ls cs, .int .i64 n, .int .i64 pad] 103)).drewN q) := fun q => (rsize_any _ _ _ _ _ (KS1.out.drewN q)).mono fun e w' ⟨he, hw⟩ => ⟨he, hw.symm⟩
  by_cases hsz : Gr.size shp = Gr.size (Gr.rowAt L (nth inn 0))
  · have HR : Hid (Gr.shapeOf ⟨10, inn, shp, n, pad⟩ L = shp) := by show _ = _; simp [Gr.shapeOf, hsz]
    have e1 : (Gr.size shp == Gr.size (Gr.rowAt L (nth inn 0))) = true := by simp [hsz]
    clear HN HG ho hck hp7 hp8 hp9 hcI hI0 hck0 hc0 hlen0 hsz
    go_enter Tryz.func186, Tryz.ntmps186
    go_wp2_with fail
    go_quiet ((go_at_call 125; first | (with_reducible exact Calls.quiet_of_same (HE1.out _)) | (with_reducible exact Calls.quiet_of_same (HE2.out _))))
    go_wp2
    go_ret2
    rw [HR.out]
    exact ⟨HB1.out.trans (below_drewN _ _ _), .inr ⟨HK.out, _, _, _, rfl, KS1.out.drewN _⟩⟩
  · have HR : Hid (Gr.shapeOf ⟨10, inn, shp, n, pad⟩ L = []) := by show _ = _; simp [Gr.shapeOf, Ne.symm hsz]
    have e1 : (Gr.size shp == Gr.size (Gr.rowAt L (nth inn 0))) = false := by simp [hsz]
    clear HN HG ho hck hp7 hp8 hp9 hcI hI0 hck0 hc0 hlen0 hsz
    go_enter Tryz.func186, Tryz.ntmps186
    go_wp2_with fail
    go_quiet ((go_at_call 125; first | (with_reducible exact Calls.quiet_of_same (HE1.out _)) | (with_reducible exact Calls.quiet_of_same (HE2.out _))))
    go_wp2
    go_ret2
    rw [HR.out]
    exact ⟨HB1.out.trans (below_drewN _ _ _), .inl ⟨rfl, _, _, _, rfl⟩⟩
set_option maxHeartbeats 2000000 in
set_option maxRecDepth 100000 in
theorem rshape_11 (ai sa aL : Option Addr) (li ci ls cs cL : Nat) (n pad : Int) (inn shp : List Int) (L : List (List Int)) (w : World) (HN : NodeV w ai li ci sa ls cs ⟨11, inn, shp, n, pad⟩) (HG : Grid w aL li cL (rowsOf L inn))
    (ho : Gr.ofB (⟨1, 1, 0, 0, 0, 2⟩ : Gr.Kind) ⟨11, inn, shp, n, pad⟩ = true) (hck : ∀ s ∈ rowsOf L inn, Gr.chk s = true) :
    Calls Tryz.prog 186 #[.agg #[.int .u8 11, .slice ai li ci, .slice sa ls cs, .int .i64 n, .int .i64 pad], .slice aL li cL] w fun e w' => RShapeB w (Gr.shapeOf ⟨11, inn, shp, n, pad⟩ L) e w' := by
  have KS := Lib.hid HN.s
  have LI := Lib.hid HN.i.length
  have LS := Lib.hid HN.s.length
  obtain ⟨hp1, hp2, hp3, hp4, hp5, hp6, hp7, hp8, hp9⟩ := Gr.ofB_parts ho
  dsimp only at hp1 hp2 hp3 hp4 hp5 hp6 hp7 hp8 hp9
  rw [LI.out] at hp1 hp2
  have hls := HN.s.le
  have hcs := HN.s.cap_le
  have hgc := HG.le
  have hgc2 := HG.cap_le
  have HB1 : Hid (Below w.heap.size w (w.alloc (.cells #[.int .u8 11, .slice ai li ci, .slice sa ls cs, .int .i64 n, .int .i64 pad] 103))) := (Below.refl _ _).alloc (Nat.le_refl _) _
  have KS1 := Lib.hid (HN.s.below HB1.out)
  have LG : Hid ((rowsOf L inn).length = li) := HG.length
  obtain ⟨bI, oI, rfl, hbI, hcI⟩ := HG.at_ (by omega)
  obtain ⟨p0, l0, c0, hc0, hI0⟩ := hcI 0 (by omega)
  have hck0 := hck _ (rowL_mem (rowsOf L inn) 0 (by rw [LG.out]; omega))
  rw [rowL_rowsOf L inn 0 (by rw [LI.out]; omega)] at hI0 hck0
  rw [Nat.add_zero] at hc0
  have hcw0 : (w.alloc (.cells #[.int .u8 11, .slice ai li ci, .slice sa ls cs, .int .i64 n, .int .i64 pad] 103)).cell? ⟨bI, oI, none⟩ = some (.slice p0 l0 c0) := Lib.cell?_alloc_some _ hc0
  have hlen0 := hI0.length
  have hle0 := hI0.le
  have hcl0 := hI0.cap_le
  have hj0 : (0 : Int) < (li : Int) := by omega
  have hjn0 : 0 < li := by omega
  have H0 := Lib.hid (hI0.below HB1.out)
  have HC0 := Lib.hid hck0
  have hord := Gr.order_iff.1 (hp9 (by decide) (by decide))
  have hl4 : ls ≤ 4 := by have := hord.1; rw [LS.out] at this; exact this
  by_cases hl : ls = l0
  rotate_left
  · have HR : Hid (Gr.shapeOf ⟨11, inn, shp, n, pad⟩ L = []) := by show _ = _; simp only [Gr.shapeOf]; simp; unfold Gr.turned; rw [if_pos (by rw [hlen0, LS.out]; omega)]
    have e1 : ((ls : Int) != (l0 : Int)) = true := by simp; omega
    clear HN HG ho hck hp7 hp8 hp9 hcI hI0 hck0 hc0 hlen0 hl hord
    go_enter Tryz.func186, Tryz.ntmps186
    go_wp2_with fail
    go_quiet (fail)
    go_wp2
    go_ret2
    rw [HR.out]
    exact ⟨HB1.out.trans (below_drewN _ _ _), .inl ⟨rfl, _, _, _, rfl⟩⟩
  subst hl
  have hnum : Hid (∀ x ∈ shp, 0 ≤ x ∧ x < (ls : Int)) := fun x hx => by
    have := Gr.perm_range ls shp LS.out (by rw [← LS.out]; exact hord.2) x hx
    omega
  have HR : Hid (Gr.shapeOf ⟨11, inn, shp, n, pad⟩ L = Gr.looked (Gr.rowAt L (nth inn 0)) shp) := by show _ = _; simp only [Gr.shapeOf]; simp; unfold Gr.turned; rw [if_neg (by rw [hlen0, LS.out]; omega)]
  have HK : Hid (Gr.chk (Gr.looked (Gr.rowAt L (nth inn 0)) shp) = true) := Gr.chk_perm (Gr.looked_perm (by rw [hlen0, LS.out]) (by rw [hlen0, ← LS.out]; exact hord.2)) hck0
  have e1 : ((ls : Int) != (ls : Int)) = false := by simp
  clear HN HG ho hck hp7 hp8 hp9 hcI hI0 hck0 hc0 hlen0 hord
  have X2 : Hid ((w.alloc (.cells #[.int .u8 11, .slice ai li ci, .slice sa ls cs, .int .i64 n, .int .i64 pad] 103)).cell? ⟨w.heap.size, 2, none⟩ = some (.slice sa ls cs)) := by show _ = _; rw [World.cell?_alloc_at _ _ _ _ rfl]; rfl
  have X3 : Hid ((w.alloc (.cells #[.int .u8 11, .slice ai li ci, .slice sa ls cs, .int .i64 n, .int .i64 pad] 103)).cell? ⟨w.heap.size, 3, none⟩ = some (.int .i64 n)) := by show _ = _; rw [World.cell?_alloc_at _ _ _ _ rfl]; rfl
  have X4 : Hid ((w.alloc (.cells #[.int .u8 11, .slice ai li ci, .slice sa ls cs, .int .i64 n, .int .i64 pad] 103)).cell? ⟨w.heap.size, 4, none⟩ = some (.int .i64 pad)) := by show _ = _; rw [World.cell?_alloc_at _ _ _ _ rfl]; rfl
  have hz1 : w.heap.size < (w.alloc (.cells #[.int .u8 11, .slice ai li ci, .slice sa ls cs, .int .i64 n, .int .i64 pad] 103)).heap.size := by simp
  go_enter Tryz.func186, Tryz.ntmps186
  go_wp2_with fail
  generalize (w.alloc (.cells #[.int .u8 11, .slice ai li ci, .slice sa ls cs, .int .i64 n, .int .i64 pad] 103)) = w1 at *
  have x2 := X2.out
  have x3 := X3.out
  have x4 := X4.out
  have HWd : Hid (Below w.heap.size w w1.drew) := HB1.out.drew
  have HB9 : Hid (Below w1.heap.size w1 w1.drew) := (Below.refl _ _).drew
  have KSq := Lib.hid (KS1.out.below HB9.out)
  have H0q := Lib.hid (H0.out.below HB9.out)
  go_quiet (fail)
  have HBq := Lib.hid (HB1.out.trans (below_drewN w1 nq _))
  go_wp2_with fail
  have HWe : Hid (Below w.heap.size w (w1.drewN nq).drew) := HBq.out.drew
  have H0r := Lib.hid ((H0.out.drewN nq).below ((Below.refl _ _).drew))
  have KSr := Lib.hid ((KS1.out.drewN nq).below ((Below.refl _ _).drew))
  have x2' : (w1.drewN nq).cell? ⟨w.heap.size, 2, none⟩ = some (.slice sa ls cs) := x2
  have hcw0' : (w1.drewN nq).cell? ⟨bI, oI, none⟩ = some (.slice p0 ls c0) := hcw0
  generalize w1.drewN nq = w8 at *
  refine wp_region_still_call 5 mixed (by kernel_rfl) ?_
  simp only [List.take_succ_cons, List.take_zero, List.getElem?_cons_succ, List.getElem?_cons_zero]
  repeat still_step
  refine wpStill_nil ?_
  intro KC hKC
  simp only [List.drop_succ_cons, List.drop_zero] at hKC
  go_simp
  refine (rturned_any _ _ _ _ _ _ (Gr.rowAt L (nth inn 0)) shp _ H0r.out KSr.out hnum.out (by omega)).mono ?_
  rintro e w2 ⟨a2, n2, c2, rfl, hI, hb⟩
  have HB2 := Lib.hid (HWe.out.trans (hb.mono HWe.out.size))
  have HI2 := Lib.hid hI
  clear hb hI
  refine hKC _ _ ?_
  clear hKC KC
  repeat still_step
  refine wpStill_nil ?_
  go_wp2
  go_ret2
  rw [HR.out]
  exact ⟨HB2.out, .inr ⟨HK.out, _, _, _, rfl, HI2.out⟩⟩
set_option maxHeartbeats 2000000 in
set_option maxRecDepth 100000 in
theorem rshape_12 (ai sa aL : Option Addr) (li ci ls cs cL : Nat) (n pad : Int) (inn shp : List Int) (L : List (List Int)) (w : World) (HN : NodeV w ai li ci sa ls cs ⟨12, inn, shp, n, pad⟩) (HG : Grid w aL li cL (rowsOf L inn))
    (ho : Gr.ofB (⟨1, 4, 0, 3, 0, 0⟩ : Gr.Kind) ⟨12, inn, shp, n, pad⟩ = true) (hck : ∀ s ∈ rowsOf L inn, Gr.chk s = true) :
    Calls Tryz.prog 186 #[.agg #[.int .u8 12, .slice ai li ci, .slice sa ls cs, .int .i64 n, .int .i64 pad], .slice aL li cL] w fun e w' => RShapeB w (Gr.shapeOf ⟨12, inn, shp, n, pad⟩ L) e w' := by
  have KS := Lib.hid HN.s
  have LI := Lib.hid HN.i.length
  have LS := Lib.hid HN.s.length
  obtain ⟨hp1, hp2, hp3, hp4, hp5, hp6, hp7, hp8, hp9⟩ := Gr.ofB_parts ho
  dsimp only at hp1 hp2 hp3 hp4 hp5 hp6 hp7 hp8 hp9
  rw [LI.out] at hp1 hp2
  have hls := HN.s.le
  have hcs := HN.s.cap_le
  have hgc := HG.le
  have hgc2 := HG.cap_le
  have HB1 : Hid (Below w.heap.size w (w.alloc (.cells #[.int .u8 12, .slice ai li ci, .slice sa ls cs, .int .i64 n, .int .i64 pad] 103))) := (Below.refl _ _).alloc (Nat.le_refl _) _
  have KS1 := Lib.hid (HN.s.below HB1.out)
  have LG : Hid ((rowsOf L inn).length = li) := HG.length
  have HCK := Lib.hid hck
  have HG1 := Lib.hid (HG.below HB1.out)
  have HR : Hid (Gr.shapeOf ⟨12, inn, shp, n, pad⟩ L = Gr.joined (rowsOf L inn) n) := by show _ = _; simp [Gr.shapeOf, rowsOf]
  clear HN HG ho hck hp7 hp8 hp9
  go_enter Tryz.func186, Tryz.ntmps186
  go_wp2_with fail
  have HBq := Lib.hid HB1.out
  refine (rjoined_any _ _ _ _ _ _ HG1.out (by omega) (by omega) HCK.out (by omega)).mono ?_
  rintro e w2 ⟨hb, ⟨hc, E, hE, rfl⟩ | ⟨hc, a2, n2, m2, rfl, hI⟩⟩
  · have HB2 := Lib.hid (HBq.out.trans (hb.mono HBq.out.size))
    have HC := Lib.hid hc
    have hE2 : (E == 0) = false := by simp [hE]
    clear hb hc hE
    go_wp2
    go_ret2
    rw [HR.out]
    exact ⟨HB2.out, .inl ⟨HC.out, _, _, _, rfl⟩⟩
  · have HB2 := Lib.hid (HBq.out.trans (hb.mono HBq.out.size))
    have HC := Lib.hid hc
    have HI2 := Lib.hid hI
    clear hb hc hI
    go_wp2
    go_ret2
    rw [HR.out]
    exact ⟨HB2.out, .inr ⟨HC.out, _, _, _, rfl, HI2.out⟩⟩
set_option maxHeartbeats 2000000 in
set_option maxRecDepth 100000 in
theorem rshape_13 (ai sa aL : Option Addr) (li ci ls cs cL : Nat) (n pad : Int) (inn shp : List Int) (L : List (List Int)) (w : World) (HN : NodeV w ai li ci sa ls cs ⟨13, inn, shp, n, pad⟩) (HG : Grid w aL li cL (rowsOf L inn))
    (ho : Gr.ofB (⟨1, 1, 0, 3, 0, 0⟩ : Gr.Kind) ⟨13, inn, shp, n, pad⟩ = true) (hck : ∀ s ∈ rowsOf L inn, Gr.chk s = true) :
    Calls Tryz.prog 186 #[.agg #[.int .u8 13, .slice ai li ci, .slice sa ls cs, .int .i64 n, .int .i64 pad], .slice aL li cL] w fun e w' => RShapeB w (Gr.shapeOf ⟨13, inn, shp, n, pad⟩ L) e w' := by
  have KS := Lib.hid HN.s
  have LI := Lib.hid HN.i.length
  have LS := Lib.hid HN.s.length
  obtain ⟨hp1, hp2, hp3, hp4, hp5, hp6, hp7, hp8, hp9⟩ := Gr.ofB_parts ho
  dsimp only at hp1 hp2 hp3 hp4 hp5 hp6 hp7 hp8 hp9
  rw [LI.out] at hp1 hp2
  have hls := HN.s.le
  have hcs := HN.s.cap_le
  have hgc := HG.le
  have hgc2 := HG.cap_le
  have HB1 : Hid (Below w.heap.size w (w.alloc (.cells #[.int .u8 13, .slice ai li ci, .slice sa ls cs, .int .i64 n, .int .i64 pad] 103))) := (Below.refl _ _).alloc (Nat.le_refl _) _
  have KS1 := Lib.hid (HN.s.below HB1.out)
  have LG : Hid ((rowsOf L inn).length = li) := HG.length
  obtain ⟨bI, oI, rfl, hbI, hcI⟩ := HG.at_ (by omega)
  obtain ⟨p0, l0, c0, hc0, hI0⟩ := hcI 0 (by omega)
  have hck0 := hck _ (rowL_mem (rowsOf L inn) 0 (by rw [LG.out]; omega))
  rw [rowL_rowsOf L inn 0 (by rw [LI.out]; omega)] at hI0 hck0
  rw [Nat.add_zero] at hc0
  have hcw0 : (w.alloc (.cells #[.int .u8 13, .slice ai li ci, .slice sa ls cs, .int .i64 n, .int .i64 pad] 103)).cell? ⟨bI, oI, none⟩ = some (.slice p0 l0 c0) := Lib.cell?_alloc_some _ hc0
  have hlen0 := hI0.length
  have hle0 := hI0.le
  have hcl0 := hI0.cap_le
  have hj0 : (0 : Int) < (li : Int) := by omega
  have hjn0 : 0 < li := by omega
  have H0 := Lib.hid (hI0.below HB1.out)
  have HC0 := Lib.hid hck0
  have hl4 : l0 ≤ 4 := by have := (Gr.chk_parts hck0).2.1; omega
  have HW := Lib.hid (Gr.chk_without hck0 (n := n) (by omega))
  have HR : Hid (Gr.shapeOf ⟨13, inn, shp, n, pad⟩ L = Gr.without (Gr.rowAt L (nth inn 0)) n) := by show _ = _; simp [Gr.shapeOf]
  have HL0 := Lib.hid hlen0
  have HQ : Hid (n < (l0 : Int) → Gr.withoutR (Gr.rowAt L (nth inn 0)) n = Gr.without (Gr.rowAt L (nth inn 0)) n) := fun h => Gr.withoutR_eq (by omega) (by rw [HL0.out]; exact h)
  clear HN HG ho hck hp7 hp8 hp9 hcI hI0 hck0 hc0 hlen0
  have X2 : Hid ((w.alloc (.cells #[.int .u8 13, .slice ai li ci, .slice sa ls cs, .int .i64 n, .int .i64 pad] 103)).cell? ⟨w.heap.size, 2, none⟩ = some (.slice sa ls cs)) := by show _ = _; rw [World.cell?_alloc_at _ _ _ _ rfl]; rfl
  have X3 : Hid ((w.alloc (.cells #[.int .u8 13, .slice ai li ci, .slice sa ls cs, .int .i64 n, .int .i64 pad] 103)).cell? ⟨w.heap.size, 3, none⟩ = some (.int .i64 n)) := by show _ = _; rw [World.cell?_alloc_at _ _ _ _ rfl]; rfl
  have X4 : Hid ((w.alloc (.cells #[.int .u8 13, .slice ai li ci, .slice sa ls cs, .int .i64 n, .int .i64 pad] 103)).cell? ⟨w.heap.size, 4, none⟩ = some (.int .i64 pad)) := by show _ = _; rw [World.cell?_alloc_at _ _ _ _ rfl]; rfl
  have hz1 : w.heap.size < (w.alloc (.cells #[.int .u8 13, .slice ai li ci, .slice sa ls cs, .int .i64 n, .int .i64 pad] 103)).heap.size := by simp
  go_enter Tryz.func186, Tryz.ntmps186
  go_wp2_with fail
  generalize (w.alloc (.cells #[.int .u8 13, .slice ai li ci, .slice sa ls cs, .int .i64 n, .int .i64 pad] 103)) = w1 at *
  have x2 := X2.out
  have x3 := X3.out
  have x4 := X4.out
  have HWd : Hid (Below w.heap.size w w1.drew) := HB1.out.drew
  have HB9 : Hid (Below w1.heap.size w1 w1.drew) := (Below.refl _ _).drew
  have KSq := Lib.hid (KS1.out.below HB9.out)
  have H0q := Lib.hid (H0.out.below HB9.out)
  have hbI1 : bI < w1.heap.size := by omega
  have HKp : Hid (∀ w', Below w1.heap.size w1 w' → w'.cell? ⟨w.heap.size, 3, none⟩ = some (.int .i64 n) ∧ w'.cell? ⟨bI, oI, none⟩ = some (.slice p0 l0 c0)) := fun w' hb => ⟨(hb.cell (p := ⟨w.heap.size, 3, none⟩) hz1).trans x3, (hb.cell (p := ⟨bI, oI, none⟩) hbI1).trans hcw0⟩
  have S0 := Lib.hid (HKp.out _ HB9.out)
  go_region_held3 (fun w' => w'.cell? ⟨w.heap.size, 3, none⟩ = some (.int .i64 n) ∧ w'.cell? ⟨bI, oI, none⟩ = some (.slice p0 l0 c0))
    (first
      | with_reducible exact S5
      | with_reducible exact S0.out)
    (first
      | (go_simp; go_at_call 214; refine (rwithout_any _ _ _ (Gr.rowAt L (nth inn 0)) _ w1.drew H0q.out (by omega) (by omega)).mono ?_; rintro e w5 ⟨a5, n5, c5, rfl, hI5, hb5⟩; have HB5 := HB9.out.trans (hb5.mono HB9.out.size); have S5 := HKp.out w5 HB5))
  have HB2 := Lib.hid (HB1.out.trans (HB5.mono HB1.out.size))
  have HI2 := Lib.hid hI5
  clear hI5 HB5 hb5 S5
  by_cases hl : n < (l0 : Int)
  · have e1 : decide (n < (l0 : Int)) = true := decide_eq_true hl
    have HK : Hid (Gr.chk (Gr.without (Gr.rowAt L (nth inn 0)) n) = true) := HW.out.trans (decide_eq_true (by rw [HL0.out]; exact hl))
    have HQ2 := Lib.hid (HQ.out hl)
    clear hl
    go_wp2
    go_ret2
    rw [HR.out]
    exact ⟨HB2.out, .inr ⟨HK.out, a5, n5, c5, by rw [← e1]; rfl, by rw [← HQ2.out]; exact HI2.out⟩⟩
  · have e1 : decide (n < (l0 : Int)) = false := decide_eq_false hl
    have HK : Hid (Gr.chk (Gr.without (Gr.rowAt L (nth inn 0)) n) = false) := HW.out.trans (decide_eq_false (by rw [HL0.out]; exact hl))
    clear hl
    go_wp2
    go_ret2
    rw [HR.out]
    exact ⟨HB2.out, .inl ⟨HK.out, a5, n5, c5, by rw [← e1]; rfl⟩⟩
theorem rshape_any (ai sa aL : Option Addr) (li ci ls cs cL : Nat) (kd n pad : Int) (inn shp : List Int) (k : Gr.Kind) (L : List (List Int)) (w : World) (HN : NodeV w ai li ci sa ls cs ⟨kd, inn, shp, n, pad⟩) (HG : Grid w aL li cL (rowsOf L inn))
    (hk : Gr.kindOf kd = some k) (ho : Gr.ofB k ⟨kd, inn, shp, n, pad⟩ = true) (hck : ∀ s ∈ rowsOf L inn, Gr.chk s = true) :
    Calls Tryz.prog 186 #[.agg #[.int .u8 kd, .slice ai li ci, .slice sa ls cs, .int .i64 n, .int .i64 pad], .slice aL li cL] w fun e w' => RShapeB w (Gr.shapeOf ⟨kd, inn, shp, n, pad⟩ L) e w' := by
  rcases kindOf_cases hk with rfl | rfl | rfl | rfl | rfl | rfl | rfl | rfl | rfl | rfl | rfl | rfl | rfl
  · exact rshape_1 _ _ _ _ _ _ _ _ _ _ _ _ _ _ HN HG (Option.some.inj (hk.symm.trans (rfl : Gr.kindOf 1 = some (⟨0, 0, 0, 0, 0, 1⟩ : Gr.Kind))) ▸ ho) hck
  · exact rshape_2 _ _ _ _ _ _ _ _ _ _ _ _ _ _ HN HG (Option.some.inj (hk.symm.trans (rfl : Gr.kindOf 2 = some (⟨0, 0, 0, 0, 0, 1⟩ : Gr.Kind))) ▸ ho) hck
  · exact rshape_3 _ _ _ _ _ _ _ _ _ _ _ _ _ _ HN HG (Option.some.inj (hk.symm.trans (rfl : Gr.kindOf 3 = some (⟨2, 2, 0, 0, 0, 0⟩ : Gr.Kind))) ▸ ho) hck
  · exact rshape_4 _ _ _ _ _ _ _ _ _ _ _ _ _ _ HN HG (Option.some.inj (hk.symm.trans (rfl : Gr.kindOf 4 = some (⟨2, 2, 0, 0, 0, 0⟩ : Gr.Kind))) ▸ ho) hck
  · exact rshape_5 _ _ _ _ _ _ _ _ _ _ _ _ _ _ HN HG (Option.some.inj (hk.symm.trans (rfl : Gr.kindOf 5 = some (⟨1, 1, 0, 0, 0, 0⟩ : Gr.Kind))) ▸ ho) hck
  · exact rshape_6 _ _ _ _ _ _ _ _ _ _ _ _ _ _ HN HG (Option.some.inj (hk.symm.trans (rfl : Gr.kindOf 6 = some (⟨1, 1, 0, 31, 0, 0⟩ : Gr.Kind))) ▸ ho) hck
  · exact rshape_7 _ _ _ _ _ _ _ _ _ _ _ _ _ _ HN HG (Option.some.inj (hk.symm.trans (rfl : Gr.kindOf 7 = some (⟨2, 2, 0, 0, 0, 0⟩ : Gr.Kind))) ▸ ho) hck
  · exact rshape_8 _ _ _ _ _ _ _ _ _ _ _ _ _ _ HN HG (Option.some.inj (hk.symm.trans (rfl : Gr.kindOf 8 = some (⟨2, 2, 1, 8, 8, 0⟩ : Gr.Kind))) ▸ ho) hck
  · exact rshape_9 _ _ _ _ _ _ _ _ _ _ _ _ _ _ HN HG (Option.some.inj (hk.symm.trans (rfl : Gr.kindOf 9 = some (⟨1, 1, 1, 64, 0, 0⟩ : Gr.Kind))) ▸ ho) hck
  · exact rshape_10 _ _ _ _ _ _ _ _ _ _ _ _ _ _ HN HG (Option.some.inj (hk.symm.trans (rfl : Gr.kindOf 10 = some (⟨1, 1, 0, 0, 0, 1⟩ : Gr.Kind))) ▸ ho) hck
  · exact rshape_11 _ _ _ _ _ _ _ _ _ _ _ _ _ _ HN HG (Option.some.inj (hk.symm.trans (rfl : Gr.kindOf 11 = some (⟨1, 1, 0, 0, 0, 2⟩ : Gr.Kind))) ▸ ho) hck
  · exact rshape_12 _ _ _ _ _ _ _ _ _ _ _ _ _ _ HN HG (Option.some.inj (hk.symm.trans (rfl : Gr.kindOf 12 = some (⟨1, 4, 0, 3, 0, 0⟩ : Gr.Kind))) ▸ ho) hck
  · exact rshape_13 _ _ _ _ _ _ _ _ _ _ _ _ _ _ HN HG (Option.some.inj (hk.symm.trans (rfl : Gr.kindOf 13 = some (⟨1, 1, 0, 3, 0, 0⟩ : Gr.Kind))) ▸ ho) hck
end Go.Proofs.YtekejcnphmnidaaGreatDoor
