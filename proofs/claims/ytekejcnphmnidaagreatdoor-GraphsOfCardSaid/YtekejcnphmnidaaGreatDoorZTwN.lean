import Derived.Test.YtekejcnphmnidaaGreatDoorZBt
import Derived.Test.YtekejcnphmnidaaGreatDoorZTw
namespace Go.Proofs.YtekejcnphmnidaaGreatDoor
open Go.RowKit
theorem TwinI.keep {w w' : World} {b len cap : Nat} {l : List Int} (h : TwinI w b len cap l) (hz : w.heap.size ≤ w'.heap.size) (hb : w'.heap[b]? = w.heap[b]?) : TwinI w' b len cap l := ⟨h.length, h.row.keep hz hb⟩
theorem TwinI.five {w : World} {b len cap : Nat} {l : List Int} (h : TwinI w b len cap l) {G : Nat} (hne : G ≠ b) (v0 v1 v2 v3 v4 : Value) : TwinI (five w G v0 v1 v2 v3 v4) b len cap l := by
  have hx : ∀ (w : World) (o : Nat) (u : Value), (w.setCell ⟨G, o, none⟩ u).heap[b]? = w.heap[b]? := fun w o u => Below.heap_setCell _ _ _ _ (Ne.symm hne)
  exact h.keep (by simp [Go.Proofs.YtekejcnphmnidaaGreatDoor.five, World.setCell]) (by unfold Go.Proofs.YtekejcnphmnidaaGreatDoor.five; rw [hx, hx, hx, hx, hx])
set_option maxHeartbeats 8000000 in
set_option maxRecDepth 100000 in
theorem twinNodeI_any (ai sa : Option Addr) (li ci ls cs : Nat) (kd n pad : Int) (inn shp : List Int) (w : World) (HI : Ints w ai li ci inn) (HS : Ints w sa ls cs shp) (h1 : li ≤ 1000000) (h2 : ls ≤ 1000000) (_ : 0 ≤ kd ∧ kd ≤ 255) :
    Calls Tryz.prog 173 #[.agg #[.int .u8 kd, .slice ai li ci, .slice sa ls cs, .int .i64 n, .int .i64 pad]] w fun e w' => ∃ b c b2 c2, e = .returned (.agg #[.int .u8 kd, .slice (some ⟨b, 0, none⟩) li c, .slice (some ⟨b2, 0, none⟩) ls c2, .int .i64 n, .int .i64 pad]) ∧
      w.heap.size ≤ b ∧ w.heap.size ≤ b2 ∧ TwinI w' b li c inn ∧ TwinI w' b2 ls c2 shp ∧ b ≠ b2 ∧ Below w.heap.size w w' := by
  have KI := Lib.hid HI
  have KS := Lib.hid HS
  clear HI HS
  go_enter Tryz.func173, Tryz.ntmps173
  go_wp2_with fail
  have x0 : ((w.alloc (.cells #[.int .u8 kd, .slice ai li ci, .slice sa ls cs, .int .i64 n, .int .i64 pad] 103)).alloc (.cells #[.int .u8 0, .slice none 0 0, .slice none 0 0, .int .i64 0, .int .i64 0] 103)).cell? ⟨w.heap.size, 0, none⟩ = some (.int .u8 kd) := Lib.cell?_alloc_some _ (by rw [World.cell?_alloc_at _ _ _ _ rfl]; rfl)
  have x1 : ((w.alloc (.cells #[.int .u8 kd, .slice ai li ci, .slice sa ls cs, .int .i64 n, .int .i64 pad] 103)).alloc (.cells #[.int .u8 0, .slice none 0 0, .slice none 0 0, .int .i64 0, .int .i64 0] 103)).cell? ⟨w.heap.size, 1, none⟩ = some (.slice ai li ci) := Lib.cell?_alloc_some _ (by rw [World.cell?_alloc_at _ _ _ _ rfl]; rfl)
  have x2 : ((w.alloc (.cells #[.int .u8 kd, .slice ai li ci, .slice sa ls cs, .int .i64 n, .int .i64 pad] 103)).alloc (.cells #[.int .u8 0, .slice none 0 0, .slice none 0 0, .int .i64 0, .int .i64 0] 103)).cell? ⟨w.heap.size, 2, none⟩ = some (.slice sa ls cs) := Lib.cell?_alloc_some _ (by rw [World.cell?_alloc_at _ _ _ _ rfl]; rfl)
  have x3 : ((w.alloc (.cells #[.int .u8 kd, .slice ai li ci, .slice sa ls cs, .int .i64 n, .int .i64 pad] 103)).alloc (.cells #[.int .u8 0, .slice none 0 0, .slice none 0 0, .int .i64 0, .int .i64 0] 103)).cell? ⟨w.heap.size, 3, none⟩ = some (.int .i64 n) := Lib.cell?_alloc_some _ (by rw [World.cell?_alloc_at _ _ _ _ rfl]; rfl)
  have x4 : ((w.alloc (.cells #[.int .u8 kd, .slice ai li ci, .slice sa ls cs, .int .i64 n, .int .i64 pad] 103)).alloc (.cells #[.int .u8 0, .slice none 0 0, .slice none 0 0, .int .i64 0, .int .i64 0] 103)).cell? ⟨w.heap.size, 4, none⟩ = some (.int .i64 pad) := Lib.cell?_alloc_some _ (by rw [World.cell?_alloc_at _ _ _ _ rfl]; rfl)
  have y0 : ((w.alloc (.cells #[.int .u8 kd, .slice ai li ci, .slice sa ls cs, .int .i64 n, .int .i64 pad] 103)).alloc (.cells #[.int .u8 0, .slice none 0 0, .slice none 0 0, .int .i64 0, .int .i64 0] 103)).cell? ⟨w.heap.size + 1, 0, none⟩ = some (.int .u8 0) := by rw [World.cell?_alloc_at _ _ _ _ (by simp)]; rfl
  have z0 : ((w.alloc (.cells #[.int .u8 kd, .slice ai li ci, .slice sa ls cs, .int .i64 n, .int .i64 pad] 103)).alloc (.cells #[.int .u8 0, .slice none 0 0, .slice none 0 0, .int .i64 0, .int .i64 0] 103)).frozen? ⟨w.heap.size + 1, 0, none⟩ = false := World.frozen?_alloc_at _ _ _ _ (by simp)
  have y1 : ((w.alloc (.cells #[.int .u8 kd, .slice ai li ci, .slice sa ls cs, .int .i64 n, .int .i64 pad] 103)).alloc (.cells #[.int .u8 0, .slice none 0 0, .slice none 0 0, .int .i64 0, .int .i64 0] 103)).cell? ⟨w.heap.size + 1, 1, none⟩ = some (.slice none 0 0) := by rw [World.cell?_alloc_at _ _ _ _ (by simp)]; rfl
  have z1 : ((w.alloc (.cells #[.int .u8 kd, .slice ai li ci, .slice sa ls cs, .int .i64 n, .int .i64 pad] 103)).alloc (.cells #[.int .u8 0, .slice none 0 0, .slice none 0 0, .int .i64 0, .int .i64 0] 103)).frozen? ⟨w.heap.size + 1, 1, none⟩ = false := World.frozen?_alloc_at _ _ _ _ (by simp)
  have y2 : ((w.alloc (.cells #[.int .u8 kd, .slice ai li ci, .slice sa ls cs, .int .i64 n, .int .i64 pad] 103)).alloc (.cells #[.int .u8 0, .slice none 0 0, .slice none 0 0, .int .i64 0, .int .i64 0] 103)).cell? ⟨w.heap.size + 1, 2, none⟩ = some (.slice none 0 0) := by rw [World.cell?_alloc_at _ _ _ _ (by simp)]; rfl
  have z2 : ((w.alloc (.cells #[.int .u8 kd, .slice ai li ci, .slice sa ls cs, .int .i64 n, .int .i64 pad] 103)).alloc (.cells #[.int .u8 0, .slice none 0 0, .slice none 0 0, .int .i64 0, .int .i64 0] 103)).frozen? ⟨w.heap.size + 1, 2, none⟩ = false := World.frozen?_alloc_at _ _ _ _ (by simp)
  have y3 : ((w.alloc (.cells #[.int .u8 kd, .slice ai li ci, .slice sa ls cs, .int .i64 n, .int .i64 pad] 103)).alloc (.cells #[.int .u8 0, .slice none 0 0, .slice none 0 0, .int .i64 0, .int .i64 0] 103)).cell? ⟨w.heap.size + 1, 3, none⟩ = some (.int .i64 0) := by rw [World.cell?_alloc_at _ _ _ _ (by simp)]; rfl
  have z3 : ((w.alloc (.cells #[.int .u8 kd, .slice ai li ci, .slice sa ls cs, .int .i64 n, .int .i64 pad] 103)).alloc (.cells #[.int .u8 0, .slice none 0 0, .slice none 0 0, .int .i64 0, .int .i64 0] 103)).frozen? ⟨w.heap.size + 1, 3, none⟩ = false := World.frozen?_alloc_at _ _ _ _ (by simp)
  have y4 : ((w.alloc (.cells #[.int .u8 kd, .slice ai li ci, .slice sa ls cs, .int .i64 n, .int .i64 pad] 103)).alloc (.cells #[.int .u8 0, .slice none 0 0, .slice none 0 0, .int .i64 0, .int .i64 0] 103)).cell? ⟨w.heap.size + 1, 4, none⟩ = some (.int .i64 0) := by rw [World.cell?_alloc_at _ _ _ _ (by simp)]; rfl
  have z4 : ((w.alloc (.cells #[.int .u8 kd, .slice ai li ci, .slice sa ls cs, .int .i64 n, .int .i64 pad] 103)).alloc (.cells #[.int .u8 0, .slice none 0 0, .slice none 0 0, .int .i64 0, .int .i64 0] 103)).frozen? ⟨w.heap.size + 1, 4, none⟩ = false := World.frozen?_alloc_at _ _ _ _ (by simp)
  have HB2 : Hid (Below w.heap.size w ((w.alloc (.cells #[.int .u8 kd, .slice ai li ci, .slice sa ls cs, .int .i64 n, .int .i64 pad] 103)).alloc (.cells #[.int .u8 0, .slice none 0 0, .slice none 0 0, .int .i64 0, .int .i64 0] 103))) := ((Below.refl _ _).alloc (Nat.le_refl _) _).alloc (by simp) _
  have hsz : ((w.alloc (.cells #[.int .u8 kd, .slice ai li ci, .slice sa ls cs, .int .i64 n, .int .i64 pad] 103)).alloc (.cells #[.int .u8 0, .slice none 0 0, .slice none 0 0, .int .i64 0, .int .i64 0] 103)).heap.size = w.heap.size + 2 := by simp
  generalize ((w.alloc (.cells #[.int .u8 kd, .slice ai li ci, .slice sa ls cs, .int .i64 n, .int .i64 pad] 103)).alloc (.cells #[.int .u8 0, .slice none 0 0, .slice none 0 0, .int .i64 0, .int .i64 0] 103)) = w2 at *
  have HK : Hid (∀ w', Below w2.heap.size w2 w' → w'.cell? ⟨w.heap.size, 0, none⟩ = some (.int .u8 kd) ∧ w'.cell? ⟨w.heap.size, 1, none⟩ = some (.slice ai li ci) ∧ w'.cell? ⟨w.heap.size, 2, none⟩ = some (.slice sa ls cs) ∧ w'.cell? ⟨w.heap.size, 3, none⟩ = some (.int .i64 n) ∧ w'.cell? ⟨w.heap.size, 4, none⟩ = some (.int .i64 pad)) := fun w' hb =>
    ⟨(hb.cell (p := ⟨w.heap.size, 0, none⟩) (show w.heap.size < w2.heap.size by omega)).trans x0, (hb.cell (p := ⟨w.heap.size, 1, none⟩) (show w.heap.size < w2.heap.size by omega)).trans x1, (hb.cell (p := ⟨w.heap.size, 2, none⟩) (show w.heap.size < w2.heap.size by omega)).trans x2, (hb.cell (p := ⟨w.heap.size, 3, none⟩) (show w.heap.size < w2.heap.size by omega)).trans x3, (hb.cell (p := ⟨w.heap.size, 4, none⟩) (show w.heap.size < w2.heap.size by omega)).trans x4⟩
  have HY : Hid (∀ w', Below w2.heap.size w2 w' → w'.cell? ⟨w.heap.size + 1, 0, none⟩ = some (.int .u8 0) ∧ w'.frozen? ⟨w.heap.size + 1, 0, none⟩ = false ∧ w'.cell? ⟨w.heap.size + 1, 1, none⟩ = some (.slice none 0 0) ∧ w'.frozen? ⟨w.heap.size + 1, 1, none⟩ = false ∧ w'.cell? ⟨w.heap.size + 1, 2, none⟩ = some (.slice none 0 0) ∧ w'.frozen? ⟨w.heap.size + 1, 2, none⟩ = false ∧ w'.cell? ⟨w.heap.size + 1, 3, none⟩ = some (.int .i64 0) ∧ w'.frozen? ⟨w.heap.size + 1, 3, none⟩ = false ∧ w'.cell? ⟨w.heap.size + 1, 4, none⟩ = some (.int .i64 0) ∧ w'.frozen? ⟨w.heap.size + 1, 4, none⟩ = false) := fun w' hb =>
    ⟨(hb.cell (p := ⟨w.heap.size + 1, 0, none⟩) (show w.heap.size + 1 < w2.heap.size by omega)).trans y0, (hb.frozen (p := ⟨w.heap.size + 1, 0, none⟩) (show w.heap.size + 1 < w2.heap.size by omega)).trans z0, (hb.cell (p := ⟨w.heap.size + 1, 1, none⟩) (show w.heap.size + 1 < w2.heap.size by omega)).trans y1, (hb.frozen (p := ⟨w.heap.size + 1, 1, none⟩) (show w.heap.size + 1 < w2.heap.size by omega)).trans z1, (hb.cell (p := ⟨w.heap.size + 1, 2, none⟩) (show w.heap.size + 1 < w2.heap.size by omega)).trans y2, (hb.frozen (p := ⟨w.heap.size + 1, 2, none⟩) (show w.heap.size + 1 < w2.heap.size by omega)).trans z2, (hb.cell (p := ⟨w.heap.size + 1, 3, none⟩) (show w.heap.size + 1 < w2.heap.size by omega)).trans y3, (hb.frozen (p := ⟨w.heap.size + 1, 3, none⟩) (show w.heap.size + 1 < w2.heap.size by omega)).trans z3, (hb.cell (p := ⟨w.heap.size + 1, 4, none⟩) (show w.heap.size + 1 < w2.heap.size by omega)).trans y4, (hb.frozen (p := ⟨w.heap.size + 1, 4, none⟩) (show w.heap.size + 1 < w2.heap.size by omega)).trans z4⟩
  have HBd : Hid (Below w2.heap.size w2 w2.drew) := (Below.refl _ _).drew
  have S0 := Lib.hid (HK.out _ HBd.out)
  have hBG : w.heap.size ≠ w.heap.size + 1 := by omega
  have HSZ := Lib.hid hsz
  clear x0 x1 x2 x3 x4 y0 y1 y2 y3 y4 z0 z1 z2 z3 z4 hsz
  go_region_held3 (fun w' => w'.cell? ⟨w.heap.size, 0, none⟩ = some (.int .u8 kd) ∧ w'.cell? ⟨w.heap.size, 1, none⟩ = some (.slice ai li ci) ∧ w'.cell? ⟨w.heap.size, 2, none⟩ = some (.slice sa ls cs) ∧ w'.cell? ⟨w.heap.size, 3, none⟩ = some (.int .i64 n) ∧ w'.cell? ⟨w.heap.size, 4, none⟩ = some (.int .i64 pad))
    (first
      | with_reducible exact S6
      | with_reducible exact S5
      | with_reducible exact S0.out
      | exact ⟨(five_other w6 hBG _ _ _ _ _ _).trans S6.1, (five_other w6 hBG _ _ _ _ _ _).trans S6.2.1, (five_other w6 hBG _ _ _ _ _ _).trans S6.2.2.1, (five_other w6 hBG _ _ _ _ _ _).trans S6.2.2.2.1, (five_other w6 hBG _ _ _ _ _ _).trans S6.2.2.2.2⟩)
    (first
      | (go_simp; go_at_call 10; refine (twinI_any sa ls cs shp w5 (KS.out.below (HB2.out.trans (HB5.mono (by have := HSZ.out; omega)))) h2).mono ?_; rintro e w6 ⟨b6, c6, rfl, hlo6, hM6, hb6⟩; have HB6 := HB5.trans (hb6.mono HB5.size); have S6 := HK.out w6 HB6; obtain ⟨y0, z0, y1, z1, y2, z2, y3, z3, y4, z4⟩ := HY.out w6 HB6)
      | (go_simp; go_at_call 10; refine (twinI_any ai li ci inn w2.drew (KI.out.below (HB2.out.trans (HBd.out.mono (by have := HSZ.out; omega)))) h1).mono ?_; rintro e w5 ⟨b5, c5, rfl, hlo5, hM5, hb5⟩; have HB5 := HBd.out.trans (hb5.mono HBd.out.size); have S5 := HK.out w5 HB5))
  obtain ⟨v0, v1, v2, v3, v4⟩ := five_same w6 y0 y1 y2 y3 y4 (.int .u8 kd) (.slice (some ⟨b5, 0, none⟩) li c5) (.slice (some ⟨b6, 0, none⟩) ls c6) (.int .i64 n) (.int .i64 pad)
  have hlt5 := hM5.row.lt
  have hlt6 := hM6.row.lt
  have hz2 := HSZ.out
  have hz3 : w.heap.size + 2 ≤ w2.drew.heap.size := by show _ ≤ w2.heap.size; omega
  have R5 : Hid (TwinI (five w6 (w.heap.size + 1) (.int .u8 kd) (.slice (some ⟨b5, 0, none⟩) li c5) (.slice (some ⟨b6, 0, none⟩) ls c6) (.int .i64 n) (.int .i64 pad)) b5 li c5 inn) := (hM5.below hb6).five (by omega) _ _ _ _ _
  have R6 : Hid (TwinI (five w6 (w.heap.size + 1) (.int .u8 kd) (.slice (some ⟨b5, 0, none⟩) li c5) (.slice (some ⟨b6, 0, none⟩) ls c6) (.int .i64 n) (.int .i64 pad)) b6 ls c6 shp) := hM6.five (by have := HB5.size; omega) _ _ _ _ _
  have RB : Hid (Below w.heap.size w (five w6 (w.heap.size + 1) (.int .u8 kd) (.slice (some ⟨b5, 0, none⟩) li c5) (.slice (some ⟨b6, 0, none⟩) ls c6) (.int .i64 n) (.int .i64 pad))) := five_below (HB2.out.trans (HB6.mono (by omega))) (by omega) _ _ _ _ _
  have RN : b5 ≠ b6 := by omega
  have RL5 : w.heap.size ≤ b5 := by omega
  have RL6 : w.heap.size ≤ b6 := by have := HB5.size; omega
  clear S5 S6 y0 y1 y2 y3 y4 z0 z1 z2 z3 z4 hM5 hM6 hb5 hb6 HB5 HB6 hz3
  unfold five at v0 v1 v2 v3 v4
  go_wp2
  refine bodyPost_ret (by simp [results, Tryz.results173, go_sem, v0, v1, v2, v3, v4]; try rfl) rfl ?_
  exact ⟨_, _, _, _, rfl, RL5, RL6, R5.out, R6.out, RN, RB.out⟩
structure TN where
  b : Nat
  c : Nat
  b' : Nat
  c' : Nat
def tnAt (ts : List TN) (i : Nat) : TN := ts.getD i ⟨0, 0, 0, 0⟩
def cellsN (t : TN) (x : Gr.Node) : List Value := [.int .u8 x.kind, .slice (some ⟨t.b, 0, none⟩) x.inn.length t.c, .slice (some ⟨t.b', 0, none⟩) x.shape.length t.c', .int .i64 x.n, .int .i64 x.pad]
def spareN : List Value := [.int .u8 0, .slice none 0 0, .slice none 0 0, .int .i64 77, .int .i64 0]
def flatN (ts : List TN) (g : List Gr.Node) : List Value := (List.zipWith cellsN ts g).flatten
def blksN (ts : List TN) : List Nat := ts.flatMap fun t => [t.b, t.b']
theorem flatN_snoc {ts : List TN} {g : List Gr.Node} (h : ts.length = g.length) (t : TN) (x : Gr.Node) : flatN (ts ++ [t]) (g ++ [x]) = flatN ts g ++ cellsN t x := by
  unfold flatN
  rw [List.zipWith_append h, List.flatten_append]
  simp
theorem flatN_length : ∀ {ts : List TN} {g : List Gr.Node}, ts.length = g.length → (flatN ts g).length = g.length * 5
  | [], [], _ => rfl
  | t :: ts, x :: g, h => by
    have := flatN_length (ts := ts) (g := g) (by simpa using h)
    have e : flatN (t :: ts) (x :: g) = cellsN t x ++ flatN ts g := rfl
    rw [e, List.length_append, this]
    show 5 + g.length * 5 = (g.length + 1) * 5
    omega
theorem flatN_get : ∀ {ts : List TN} {g : List Gr.Node}, ts.length = g.length → ∀ {i j : Nat}, i < g.length → j < 5 → (flatN ts g)[i * 5 + j]? = (cellsN (tnAt ts i) (nodeN g i))[j]?
  | [], [], _, i, j, hi, _ => absurd hi (Nat.not_lt_zero _)
  | t :: ts, x :: g, h, i, j, hi, hj => by
    have e : flatN (t :: ts) (x :: g) = cellsN t x ++ flatN ts g := rfl
    rw [e]
    cases i with
    | zero => rw [List.getElem?_append_left (by show 0 * 5 + j < 5; omega)]; simp [tnAt, nodeN]
    | succ i =>
      rw [List.getElem?_append_right (by show 5 ≤ (i + 1) * 5 + j; omega), show (i + 1) * 5 + j - (cellsN t x).length = i * 5 + j from (by show (i + 1) * 5 + j - 5 = _; omega)]
      have := flatN_get (ts := ts) (g := g) (by simpa using h) (i := i) (j := j) (by simpa using hi) hj
      rw [this]
      simp [tnAt, nodeN]
theorem blksN_snoc (ts : List TN) (t : TN) : blksN (ts ++ [t]) = blksN ts ++ [t.b, t.b'] := by simp [blksN]
theorem blksN_mem {ts : List TN} {i : Nat} (h : i < ts.length) : (tnAt ts i).b ∈ blksN ts ∧ (tnAt ts i).b' ∈ blksN ts := by
  have e : tnAt ts i = ts[i] := by simp [tnAt, List.getElem?_eq_getElem h]
  have hm : ts[i] ∈ ts := List.getElem_mem h
  rw [e]
  exact ⟨List.mem_flatMap.2 ⟨_, hm, by simp⟩, List.mem_flatMap.2 ⟨_, hm, by simp⟩⟩
theorem tnAt_left (ts : List TN) (t : TN) {i : Nat} (h : i < ts.length) : tnAt (ts ++ [t]) i = tnAt ts i := by simp [tnAt, List.getElem?_append_left h]
theorem tnAt_last (ts : List TN) (t : TN) : tnAt (ts ++ [t]) ts.length = t := by simp [tnAt]
structure RowsN (w : World) (ts : List TN) (g : List Gr.Node) : Prop where
  len : ts.length = g.length
  tw : ∀ i, i < g.length → TwinI w (tnAt ts i).b (nodeN g i).inn.length (tnAt ts i).c (nodeN g i).inn ∧ TwinI w (tnAt ts i).b' (nodeN g i).shape.length (tnAt ts i).c' (nodeN g i).shape
theorem RowsN.keep {w w' : World} {ts : List TN} {g : List Gr.Node} (h : RowsN w ts g) (hz : w.heap.size ≤ w'.heap.size) (hb : ∀ b ∈ blksN ts, w'.heap[b]? = w.heap[b]?) : RowsN w' ts g :=
  ⟨h.len, fun i hi => ⟨(h.tw i hi).1.keep hz (hb _ (blksN_mem (by rw [h.len]; exact hi)).1), (h.tw i hi).2.keep hz (hb _ (blksN_mem (by rw [h.len]; exact hi)).2)⟩⟩
theorem RowsN.below {w w' : World} {ts : List TN} {g : List Gr.Node} (h : RowsN w ts g) (hb : Below w.heap.size w w') : RowsN w' ts g :=
  ⟨h.len, fun i hi => ⟨(h.tw i hi).1.below hb, (h.tw i hi).2.below hb⟩⟩
structure OwnTw (base : Nat) (w : World) (v : Value) (ts : List TN) (g : List Gr.Node) : Prop where
  row : w.ownsRow base 103 5 v g.length (flatN ts g)
  rows : RowsN w ts g
  nd : (blksN ts).Nodup
  lo : ∀ b ∈ blksN ts, base ≤ b ∧ b < w.heap.size ∧ v.ownBlock ≠ some b
theorem OwnTw.below {base : Nat} {w w' : World} {v : Value} {ts : List TN} {g : List Gr.Node} (h : OwnTw base w v ts g) (hb : Below w.heap.size w w') : OwnTw base w' v ts g := by
  refine ⟨?_, h.rows.below hb, h.nd, fun b hm => ?_⟩
  · obtain ⟨h1, h2⟩ := h.row
    refine ⟨h1, ?_⟩
    rcases h2 with h2 | ⟨q, cap, cur, hv, hg, hh, r⟩
    · exact .inl h2
    · exact .inr ⟨q, cap, cur, hv, hg, by rw [hb.block q (Array.getElem?_eq_some_iff.1 hh).1]; exact hh, r⟩
  · have := h.lo b hm; have hz := hb.size
    exact ⟨this.1, by omega, this.2.2⟩
theorem wpList_app5 {ops : Array Oper} {rest : List Oper} {o : Oper} {a : Act} {Q : Exit → Act → World → Prop} (w : World) (hgd : o.guard = none) (s t : Operand)
    (ho : o.op = .call { callee := .builtin .append, args := #[s, t], argTypes := #[54, 54] }) (base : Nat) (v : Value) (n : Nat) (vs ws : List Value) (hws : ws.length = 5) (hone : ∀ u ∈ ws, u.oneCell' = true)
    (hrow : w.ownsRow base 103 5 v n vs) (hs : a.eval s = v) (ht : a.eval t = .slice (some ⟨w.heap.size, 0, none⟩) 1 1) (hbase : base ≤ w.heap.size) (hlen : n ≤ 10000000)
    (hK : ∀ v' w', w'.ownsRow base 103 5 v' (n + 1) (vs ++ ws) → w.grownBy w' v.ownBlock → Below base w w' → (v'.ownBlock = v.ownBlock ∨ ∃ k, v'.ownBlock = some k ∧ w.heap.size ≤ k) → wpList Tryz.prog ops Q rest (a.put o.dst v') w') :
    wpList Tryz.prog ops Q (o :: rest) a (w.alloc (.cells ws.toArray 103)) := by
  obtain ⟨i0, hi, hz0, hz1, hz2⟩ := info_parts Tryz.info103
  refine wpList_append_own_at _ hgd s t 54 ho base 103 i0 _ 5 72 Tryz.underlying54 hi hz0 hz1 hz2 rfl (by decide) v n vs hs (hrow.alloc _) ⟨w.heap.size, 0, none⟩ 1 1 ws ht (by omega) (fun j u hu => ?_) hone (by unfold maxLen; omega) (by omega) (by simp; omega) ?_
  · rw [Addr.add_lit, World.cell?_alloc_at _ _ _ _ rfl]
    rw [← hu]; simp
  · intro v' w' hown' hgrow _ hob
    have hga : w.grownBy w' v.ownBlock := ⟨hgrow.os, hgrow.tape, hgrow.output, Nat.le_trans (by simp) hgrow.size, fun k hk hn => (hgrow.block k (by simp; omega) hn).trans (Below.heap_alloc _ _ _ hk)⟩
    refine hK v' w' hown' hga ((Below.refl base w).grown hga hbase fun k hk => (World.ownsRow.lt hrow k hk).1) ?_
    rcases hob with h1 | h1
    · exact .inl h1
    · exact .inr ⟨_, h1, by simp⟩
theorem OwnTw.push {base : Nat} {w w' : World} {v v' : Value} {ts : List TN} {g : List Gr.Node} (h : OwnTw base w v ts g) {t : TN} {x : Gr.Node} (hrow : w'.ownsRow base 103 5 v' (g.length + 1) (flatN ts g ++ cellsN t x)) (hg : w.grownBy w' v.ownBlock)
    (hob : v'.ownBlock = v.ownBlock ∨ ∃ k, v'.ownBlock = some k ∧ w.heap.size ≤ k) (t1 : TwinI w t.b x.inn.length t.c x.inn) (t2 : TwinI w t.b' x.shape.length t.c' x.shape) (hne : t.b ≠ t.b') (hn1 : t.b ∉ blksN ts) (hn2 : t.b' ∉ blksN ts) (hv : v.ownBlock ≠ some t.b ∧ v.ownBlock ≠ some t.b') (hl1 : base ≤ t.b) (hl2 : base ≤ t.b') :
    OwnTw base w' v' (ts ++ [t]) (g ++ [x]) := by
  have hz := hg.size
  have hv' : ∀ k, k < w.heap.size → v.ownBlock ≠ some k → v'.ownBlock ≠ some k := fun k hk hn e => by
    rcases hob with h1 | ⟨q, h1, h2⟩
    · rw [h1] at e; exact hn e
    · rw [h1] at e; cases e; omega
  refine ⟨by rw [flatN_snoc h.rows.len, List.length_append]; exact hrow, ⟨by rw [List.length_append, List.length_append, h.rows.len]; rfl, fun i hi => ?_⟩, ?_, fun b hm => ?_⟩
  · rw [List.length_append] at hi
    by_cases e : i < g.length
    · rw [tnAt_left _ _ (by rw [h.rows.len]; exact e), nodeN_append_left _ _ _ e]
      have hm := blksN_mem (ts := ts) (i := i) (by rw [h.rows.len]; exact e)
      exact ⟨(h.rows.tw i e).1.keep hz (hg.block _ (h.lo _ hm.1).2.1 (fun c => (h.lo _ hm.1).2.2 c.symm)), (h.rows.tw i e).2.keep hz (hg.block _ (h.lo _ hm.2).2.1 (fun c => (h.lo _ hm.2).2.2 c.symm))⟩
    · have e2 : i = g.length := by simp at hi; omega
      subst e2
      rw [show nodeN (g ++ [x]) g.length = x by simp [nodeN], ← h.rows.len, tnAt_last]
      exact ⟨t1.keep hz (hg.block _ t1.row.lt (fun c => hv.1 c.symm)), t2.keep hz (hg.block _ t2.row.lt (fun c => hv.2 c.symm))⟩
  · rw [blksN_snoc, List.nodup_append]
    refine ⟨h.nd, by simp [hne], fun p hp q hq e => ?_⟩
    subst e
    simp only [List.mem_cons, List.not_mem_nil, or_false] at hq
    rcases hq with rfl | rfl
    · exact hn1 hp
    · exact hn2 hp
  · rw [blksN_snoc, List.mem_append] at hm
    rcases hm with hm | hm
    · have := h.lo b hm
      exact ⟨this.1, by omega, hv' b this.2.1 this.2.2⟩
    · simp only [List.mem_cons, List.not_mem_nil, or_false] at hm
      rcases hm with rfl | rfl
      · exact ⟨hl1, Nat.lt_of_lt_of_le t1.row.lt hz, hv' _ t1.row.lt hv.1⟩
      · exact ⟨hl2, Nat.lt_of_lt_of_le t2.row.lt hz, hv' _ t2.row.lt hv.2⟩
structure TwinGr (base : Nat) (w : World) (nb cap : Nat) (ts : List TN) (g : List Gr.Node) : Prop where
  row : Row 5 w nb 0 (g.length + 1) cap (flatN ts g ++ spareN)
  rows : RowsN w ts g
  nd : (nb :: blksN ts).Nodup
  lo : ∀ b ∈ nb :: blksN ts, base ≤ b
theorem TwinGr.below {base : Nat} {w w' : World} {nb cap : Nat} {ts : List TN} {g : List Gr.Node} (h : TwinGr base w nb cap ts g) (hb : Below w.heap.size w w') : TwinGr base w' nb cap ts g :=
  ⟨h.row.keep hb.size (hb.block _ h.row.lt), h.rows.below hb, h.nd, h.lo⟩
theorem TwinGr.keep {base : Nat} {w w' : World} {nb cap : Nat} {ts : List TN} {g : List Gr.Node} (h : TwinGr base w nb cap ts g) (hz : w.heap.size ≤ w'.heap.size) (hb : ∀ b ∈ nb :: blksN ts, w'.heap[b]? = w.heap[b]?) : TwinGr base w' nb cap ts g :=
  ⟨h.row.keep hz (hb nb (List.mem_cons_self ..)), h.rows.keep hz (fun b hm => hb b (List.mem_cons_of_mem _ hm)), h.nd, h.lo⟩
theorem TwinGr.lower {base base' : Nat} {w : World} {nb cap : Nat} {ts : List TN} {g : List Gr.Node} (h : TwinGr base w nb cap ts g) (hb : base' ≤ base) : TwinGr base' w nb cap ts g := ⟨h.row, h.rows, h.nd, fun b hm => Nat.le_trans hb (h.lo b hm)⟩
theorem TwinGr.cell {base : Nat} {w : World} {nb cap : Nat} {ts : List TN} {g : List Gr.Node} (h : TwinGr base w nb cap ts g) {i j : Nat} (hi : i < g.length) (hj : j < 5) {u : Value} (hu : (cellsN (tnAt ts i) (nodeN g i))[j]? = some u) : w.cell? ⟨nb, i * 5 + j, none⟩ = some u := by
  have hl := flatN_length h.rows.len
  have := h.row.cell (i * 5 + j) u (by rw [List.getElem?_append_left (by omega), flatN_get h.rows.len hi hj]; exact hu)
  rwa [Nat.zero_add] at this
theorem TwinGr.mark {base : Nat} {w : World} {nb cap : Nat} {ts : List TN} {g : List Gr.Node} (h : TwinGr base w nb cap ts g) {j : Nat} (hj : j < 5) {u : Value} (hu : spareN[j]? = some u) : w.cell? ⟨nb, g.length * 5 + j, none⟩ = some u := by
  have hl := flatN_length h.rows.len
  have := h.row.cell (g.length * 5 + j) u (by rw [List.getElem?_append_right (by omega), hl, Nat.add_sub_cancel_left]; exact hu)
  rwa [Nat.zero_add] at this
theorem TwinGr.rowV {base : Nat} {w : World} {nb cap : Nat} {ts : List TN} {g : List Gr.Node} (h : TwinGr base w nb cap ts g) : RowV 5 w (.slice (some ⟨nb, 0, none⟩) g.length cap) g.length (flatN ts g) := by
  have hr := h.row
  have hl := flatN_length h.rows.len
  refine .inr ⟨nb, 0, cap, rfl, hr.lt, by have := hr.le; omega, hr.cap_le, hl, fun j u hj => hr.cell j u ?_, hr.all⟩
  have hlt : j < (flatN ts g).length := (List.getElem?_eq_some_iff.1 hj).1
  rw [List.getElem?_append_left hlt]; exact hj
theorem TwinGr.nodes {base : Nat} {w : World} {nb cap : Nat} {ts : List TN} {g : List Gr.Node} (h : TwinGr base w nb cap ts g) (hl : g.length ≤ 17592186044416) (hw : ∀ i, i < g.length → NodeWf (nodeN g i)) : Nodes w (some ⟨nb, 0, none⟩) g.length cap g := by
  refine ⟨by have := h.row.le; omega, h.row.cap_le, hl, rfl, fun _ => ⟨nb, 0, rfl, h.row.lt, fun i hi => ?_⟩⟩
  obtain ⟨w1, w2, w3, w4, w5, w6, w7⟩ := hw i hi
  obtain ⟨t1, t2⟩ := h.rows.tw i hi
  rw [Nat.zero_add]
  refine ⟨_, _, _, _, _, _, h.cell (j := 0) hi (by omega) rfl, h.cell (j := 1) hi (by omega) rfl, h.cell (j := 2) hi (by omega) rfl, h.cell (j := 3) hi (by omega) rfl, h.cell (j := 4) hi (by omega) rfl, ⟨t1.ints w6, t2.ints w7, w1, w2, w3, w4, w5⟩⟩
end Go.Proofs.YtekejcnphmnidaaGreatDoor
