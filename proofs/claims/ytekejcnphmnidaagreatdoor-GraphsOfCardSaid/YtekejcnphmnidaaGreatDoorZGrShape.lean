import Derived.Test.YtekejcnphmnidaaGreatDoorZBf
import Derived.Test.YtekejcnphmnidaaGreatDoorZBc
import Derived.Test.YtekejcnphmnidaaGreatDoorZBb
import Derived.Test.YtekejcnphmnidaaGreatDoorZBd
import Derived.Test.YtekejcnphmnidaaGreatDoorZBkA
import Derived.Laws.EntriesVeiled
namespace Go.Proofs.YtekejcnphmnidaaGreatDoor
open Go.RowKit
theorem Grid.get {w : World} {a : Option Addr} {len cap : Nat} {L : List (List Int)} (h : Grid w a len cap L) {n : Int} (h0 : 0 ≤ n) (h1 : n < len) :
    ∃ b off ax lx cx, a = some ⟨b, off, none⟩ ∧ b < w.heap.size ∧ w.cell? ⟨b, off + n.toNat, none⟩ = some (.slice ax lx cx) ∧ Ints w ax lx cx (Gr.rowAt L n) := by
  obtain ⟨b, off, rfl, hlt, hc⟩ := h.at_ (by omega)
  obtain ⟨ax, lx, cx, h2, h3⟩ := hc n.toNat (by omega)
  exact ⟨b, off, ax, lx, cx, rfl, hlt, h2, h3⟩
set_option maxHeartbeats 1000000 in
theorem told_any (a : Option Addr) (len cap : Nat) (L : List (List Int)) (n : Int) (w0 w : World) (HG : Grid w0 a len cap L) (hb : Below w0.heap.size w0 w) (h0 : 0 ≤ n) (h1 : n < len) :
    Calls Tryz.prog 113 #[.agg #[.slice a len cap], .int .i64 n] w fun e w' => ∃ ax lx cx, e = .returned (.slice ax lx cx) ∧ Ints w0 ax lx cx (Gr.rowAt L n) ∧ Below w.heap.size w w' := by
  obtain ⟨b, off, ax, lx, cx, rfl, hlt, hc, hI⟩ := HG.get h0 h1
  have HI := Lib.hid hI
  have hle := HG.le
  have hcl := HG.cap_le
  have hc1 := (hb.cell (p := ⟨b, off + n.toNat, none⟩) hlt).trans hc
  have hc2 : ∀ o, (w.alloc o).cell? ⟨b, off + n.toNat, none⟩ = some (.slice ax lx cx) := fun o => Lib.cell?_alloc_some _ hc1
  clear hI HG hc hc1 hb
  go_enter Tryz.func113, Tryz.ntmps113
  go_wp2
  go_ret
  exact ⟨_, _, _, rfl, HI.out, (Below.refl _ _).alloc (Nat.le_refl _) _⟩
def ShapeF (w : World) (l : List Int) (e : Ending) (w' : World) : Prop := ∃ a len, e = .returned (.slice a len len) ∧ Ints w' a len len l ∧ ((∀ p, a = some p → w.heap.size ≤ p.block) ∧ RowV 1 w' (.slice a len len) len (l.map (Value.int .i64))) ∧ Below w.heap.size w w'
theorem RowV.clip {c : Nat} {w : World} {a : Option Addr} {len cap n : Nat} {xs : List Value} (h : RowV c w (.slice a len cap) n xs) : len = n ∧ RowV c w (.slice a n n) n xs := by
  rcases h with ⟨h1, rfl, rfl⟩ | ⟨g, off, cap', h1, h2⟩
  · cases h1; exact ⟨rfl, .inl ⟨rfl, rfl, rfl⟩⟩
  · cases h1
    refine ⟨rfl, .inr ⟨g, off, _, rfl, h2.lt, Nat.le_refl _, by have := h2.le; have := h2.cap_le; omega, h2.len, h2.cell, fun j hj => h2.all j (Nat.lt_of_lt_of_le hj (Nat.mul_le_mul_right c h2.le))⟩⟩
theorem Own.clipped {base : Nat} {w : World} {v : Value} {l : List Int} (h : Own base w v l) (hwf : ∀ n ∈ l, -9223372036854775808 ≤ n ∧ n ≤ 9223372036854775807) :
    ∃ a len cap, v = .slice a len cap ∧ len ≤ cap ∧ cap ≤ 9223372036854775807 ∧ (a = none → len = 0 ∧ cap = 0) ∧ Ints w a len len l ∧ (∀ p, a = some p → base ≤ p.block) ∧ RowV 1 w (.slice a len len) len (l.map (Value.int .i64)) := by
  have hr : RowV 1 w v l.length (l.map (Value.int .i64)) := RowV.of_owns (show w.ownsRow base 3 1 v l.length (l.map (Value.int .i64)) from h)
  obtain ⟨a, len, cap, rfl, hI, hor⟩ := h.ints hwf
  refine ⟨a, len, cap, rfl, hI.le, hI.cap_le, fun e => ?_, ⟨Nat.le_refl _, by have := hI.le; have := hI.cap_le; omega, hI.length, hI.wf, hI.at_⟩, fun p hp => ?_, ?_⟩
  · rcases hor with ⟨_, h1, h2⟩ | ⟨g, h1, _⟩
    · exact ⟨h1, h2⟩
    · rw [e] at h1; cases h1
  · rcases hor with ⟨h1, _⟩ | ⟨g, h1, h2, _⟩
    · rw [hp] at h1; cases h1
    · rw [hp] at h1; cases h1; exact h2
  · have := hr.clip.2
    rwa [hI.length] at this
def rowsOf (L : List (List Int)) (l : List Int) : List (List Int) := l.map (Gr.rowAt L)
theorem rowsOf_snoc (L : List (List Int)) (l : List Int) (k : Nat) (hk : k < l.length) : rowsOf L (l.take (k + 1)) = rowsOf L (l.take k) ++ [Gr.rowAt L (nth l k)] := by
  unfold rowsOf; rw [take_snoc l k hk, List.map_append]; rfl
theorem rowsOf_length (L : List (List Int)) (l : List Int) : (rowsOf L l).length = l.length := by unfold rowsOf; simp
theorem rowL_rowsOf (L : List (List Int)) (l : List Int) (k : Nat) (hk : k < l.length) : rowL (rowsOf L l) k = Gr.rowAt L (nth l k) := by
  rw [rowL_eq _ _ (by rw [rowsOf_length]; exact hk), nth_eq l k hk]; unfold rowsOf; simp
namespace Gr
theorem product_len (a b : List Int) : (product a b).length ≤ 2 := by
  unfold product; split
  · simp
  · split <;> simp
theorem window_len (a b : List Int) (n p : Int) : (window a b n p).length ≤ 3 := by
  unfold window; split
  · simp
  · split
    · simp
    · simp only; split <;> simp
theorem pool_len (a : List Int) (n : Int) : (pool a n).length ≤ 3 := by
  unfold pool; split
  · simp
  · split <;> simp
theorem turned_len (a b : List Int) : (turned a b).length ≤ b.length := by
  unfold turned; split
  · simp
  · rw [looked_length]; exact Nat.le_refl _
theorem without_len (a : List Int) (n : Int) : (without a n).length ≤ a.length + 1 := by
  unfold without; split
  · simp
  · split
    · simp
    · have := List.length_eraseIdx_le a n.toNat; omega
theorem joinF_len (n : Int) : ∀ (r : List (List Int)) (s : List Int), (joinF n s r).length ≤ s.length
  | [], s => by unfold joinF; split <;> simp
  | x :: r, s => by
    unfold joinF; split
    · simp
    · split
      · have := joinF_len n r (longer n s x); rw [longer_length] at this; exact this
      · simp
theorem joined_len {L : List (List Int)} (h : ∀ s ∈ L, chk s = true) (n : Int) : (joined L n).length ≤ 4 := by
  unfold joined
  cases L with
  | nil => simp
  | cons s r => exact Nat.le_trans (joinF_len n r s) (chk_parts (h s (by simp))).2.1
end Gr
theorem kindOf_cases {k : Int} {kd : Gr.Kind} (h : Gr.kindOf k = some kd) : k = 1 ∨ k = 2 ∨ k = 3 ∨ k = 4 ∨ k = 5 ∨ k = 6 ∨ k = 7 ∨ k = 8 ∨ k = 9 ∨ k = 10 ∨ k = 11 ∨ k = 12 ∨ k = 13 := by
  obtain ⟨i, hi⟩ := kind_ins h
  exact (show ∀ p ∈ insL, p.2.1 = 1 ∨ p.2.1 = 2 ∨ p.2.1 = 3 ∨ p.2.1 = 4 ∨ p.2.1 = 5 ∨ p.2.1 = 6 ∨ p.2.1 = 7 ∨ p.2.1 = 8 ∨ p.2.1 = 9 ∨ p.2.1 = 10 ∨ p.2.1 = 11 ∨ p.2.1 = 12 ∨ p.2.1 = 13 by decide) _ hi
theorem kindOf_one {k : Int} {kd : Gr.Kind} (h : Gr.kindOf k = some kd) : k = 1 ∨ k = 2 ∨ k = 10 → kd.shaped = 1 := by
  obtain ⟨i, hi⟩ := kind_ins h
  exact (show ∀ p ∈ insL, p.2.1 = 1 ∨ p.2.1 = 2 ∨ p.2.1 = 10 → p.2.2.shaped = 1 by decide) _ hi
theorem kindOf_two {k : Int} {kd : Gr.Kind} (h : Gr.kindOf k = some kd) : k = 3 ∨ k = 4 ∨ k = 7 ∨ k = 8 → 2 ≤ kd.least := by
  obtain ⟨i, hi⟩ := kind_ins h
  exact (show ∀ p ∈ insL, p.2.1 = 3 ∨ p.2.1 = 4 ∨ p.2.1 = 7 ∨ p.2.1 = 8 → 2 ≤ p.2.2.least by decide) _ hi
theorem kindOf_low {k : Int} {kd : Gr.Kind} (h : Gr.kindOf k = some kd) : (k = 12 ∨ k = 13 → kd.low = 0 ∧ kd.high = 3) ∧ (k = 11 → kd.shaped = 2) := by
  obtain ⟨i, hi⟩ := kind_ins h
  exact (show ∀ p ∈ insL, (p.2.1 = 12 ∨ p.2.1 = 13 → p.2.2.low = 0 ∧ p.2.2.high = 3) ∧ (p.2.1 = 11 → p.2.2.shaped = 2) by decide) _ hi
theorem kindOf_bounds {k : Int} {kd : Gr.Kind} (h : Gr.kindOf k = some kd) : kd.most ≤ 4 := by
  obtain ⟨i, hi⟩ := kind_ins h
  exact (show ∀ p ∈ insL, p.2.2.most ≤ 4 by decide) _ hi
set_option maxHeartbeats 4000000 in
set_option maxRecDepth 100000 in
theorem shape_any (ai sa aL : Option Addr) (li ci ls cs lL cL : Nat) (kd n pad : Int) (inn shp : List Int) (k : Gr.Kind) (L : List (List Int)) (w : World) (HN : NodeV w ai li ci sa ls cs ⟨kd, inn, shp, n, pad⟩) (HG : Grid w aL lL cL L)
    (hk : Gr.kindOf kd = some k) (ho : Gr.ofB k ⟨kd, inn, shp, n, pad⟩ = true) (hi : Gr.okIn ⟨kd, inn, shp, n, pad⟩ L.length = true) (hc : ∀ s ∈ L, Gr.chk s = true) :
    Calls Tryz.prog 112 #[.agg #[.int .u8 kd, .slice ai li ci, .slice sa ls cs, .int .i64 n, .int .i64 pad], .func (.func 113) #[.agg #[.slice aL lL cL]] #[]] w fun e w' => ShapeF w (Gr.shapeOf ⟨kd, inn, shp, n, pad⟩ L) e w' := by
  have KI := Lib.hid HN.i
  have KS := Lib.hid HN.s
  have LI := Lib.hid HN.i.length
  have LS := Lib.hid HN.s.length
  have HGr := Lib.hid HG
  have HCK := Lib.hid hc
  have LG := Lib.hid HG.length
  obtain ⟨hp1, hp2, hp3, hp4, hp5, hp6, hp7, hp8, hp9⟩ := Gr.ofB_parts ho
  dsimp only at hp1 hp2 hp3 hp4 hp5 hp6 hp7 hp8 hp9
  rw [LI.out] at hp1 hp2
  have hi1 := HN.i.le
  have hi2 := HN.i.cap_le
  have HIN : Hid (∀ v ∈ inn, 0 ≤ v ∧ v < (lL : Int)) := fun v hv => by
    unfold Gr.okIn at hi
    have := List.all_eq_true.1 hi v hv
    simp only [Bool.and_eq_true, decide_eq_true_eq] at this
    rw [LG.out] at this
    exact this
  have hli : li ≤ 4 := by have := kindOf_bounds hk; omega
  clear HN HG hi hc
  go_enter Tryz.func112, Tryz.ntmps112
  go_wp2
  have b0 : (w.alloc (.cells #[.int .u8 kd, .slice ai li ci, .slice sa ls cs, .int .i64 n, .int .i64 pad] 103)).cell? ⟨w.heap.size, 0, none⟩ = some (.int .u8 kd) := by rw [World.cell?_alloc_at _ _ _ _ rfl]; rfl
  have b2 : (w.alloc (.cells #[.int .u8 kd, .slice ai li ci, .slice sa ls cs, .int .i64 n, .int .i64 pad] 103)).cell? ⟨w.heap.size, 2, none⟩ = some (.slice sa ls cs) := by rw [World.cell?_alloc_at _ _ _ _ rfl]; rfl
  have b3 : (w.alloc (.cells #[.int .u8 kd, .slice ai li ci, .slice sa ls cs, .int .i64 n, .int .i64 pad] 103)).cell? ⟨w.heap.size, 3, none⟩ = some (.int .i64 n) := by rw [World.cell?_alloc_at _ _ _ _ rfl]; rfl
  have b4 : (w.alloc (.cells #[.int .u8 kd, .slice ai li ci, .slice sa ls cs, .int .i64 n, .int .i64 pad] 103)).cell? ⟨w.heap.size, 4, none⟩ = some (.int .i64 pad) := by rw [World.cell?_alloc_at _ _ _ _ rfl]; rfl
  have HB1 : Hid (Below w.heap.size w (w.alloc (.cells #[.int .u8 kd, .slice ai li ci, .slice sa ls cs, .int .i64 n, .int .i64 pad] 103))) := (Below.refl _ _).alloc (Nat.le_refl _) _
  have hz1 : w.heap.size < (w.alloc (.cells #[.int .u8 kd, .slice ai li ci, .slice sa ls cs, .int .i64 n, .int .i64 pad] 103)).heap.size := by simp
  generalize w.alloc (.cells #[.int .u8 kd, .slice ai li ci, .slice sa ls cs, .int .i64 n, .int .i64 pad] 103) = w1 at *
  go_loopg [5, 11] li (fun gg v i wr => ∃ j : Nat, j ≤ li ∧ li - j ≤ gg ∧ i = .int .i64 j ∧ Hid (OwnG w1.heap.size wr v (rowsOf L (inn.take j))) ∧ Hid (Below w1.heap.size w1 wr))
  case atStart => exact ⟨0, Nat.zero_le _, by omega, rfl, OwnG.nil _ _, Below.refl _ _⟩
  case round =>
    obtain ⟨j, hj, hg, rfl, HO, HWr⟩ := hrel
    have hzr : w1.heap.size ≤ wr.heap.size := HWr.out.size
    have HW : Hid (Below w.heap.size w wr) := HB1.out.trans (HWr.out.mono (by omega))
    by_cases hlt : j < li
    · have hjl : j < inn.length := by rw [LI.out]; exact hlt
      obtain ⟨hv0, hv1⟩ := HIN.out (nth inn j) (nth_mem inn j hjl)
      obtain ⟨bi, oi, rfl, _, hci⟩ := (KI.out.below HW.out).at_ (by omega)
      have hck := hci j hlt
      have HS := Lib.hid (rowsOf_snoc L inn j hjl)
      clear hci
      generalize nth inn j = v at *
      go_wp2_with fail
      refine (told_any _ _ _ L _ w _ HGr.out HW.out hv0 hv1).mono ?_
      rintro e w3 ⟨ax, lx, cx, rfl, hIx, hb3⟩
      have HIx := Lib.hid hIx
      have HO3 := Lib.hid (HO.out.below hb3)
      have HB3 := Lib.hid hb3
      clear hIx hb3 HO
      go_wp2_with (at_builtin; go_must (refine wpList_appG _ rfl _ _ rfl w1.heap.size _ _ ax lx cx (Gr.rowAt L v) HO3.out (HIx.out.below (HW.out.trans (HB3.out.mono HW.out.size))) ?q1 rfl rfl ?q2 ?q3 ?_))
      case q1 =>
        intro p hp h0 e
        obtain ⟨bb, ob, e2, hlt2, _⟩ := HIx.out.at_ h0
        rw [hp] at e2; cases e2
        have := (HO3.out.lt _ e.symm).1
        simp only at this hlt2
        omega
      case q2 => have := HB3.out.size; omega
      case q3 => rw [rowsOf_length, List.length_take]; omega
      intro v' w4 hown' hbel hgrow
      rw [← HS.out] at hown'
      have HO4 := Lib.hid hown'
      have HW4 : Hid (Below w1.heap.size w1 w4) := (HWr.out.trans (HB3.out.mono hzr)).trans hbel
      clear hown' hbel hgrow
      go_wp2
      go_roundg (li - (j + 1))
      case measure => omega
      case rel => exact ⟨j + 1, by omega, by omega, by go_num, HO4, HW4⟩
    · obtain rfl : j = li := by omega
      rw [List.take_of_length_le (by rw [LI.out]; omega)] at HO
      obtain ⟨av, lv, cv, rfl, hG4, _⟩ := HO.out.grid
      have hlv := hG4.length
      rw [rowsOf_length, LI.out] at hlv
      subst hlv
      have HG4 := Lib.hid hG4
      have r0 := (HWr.out.cell (p := ⟨w.heap.size, 0, none⟩) hz1).trans b0
      have r2 := (HWr.out.cell (p := ⟨w.heap.size, 2, none⟩) hz1).trans b2
      have r3 := (HWr.out.cell (p := ⟨w.heap.size, 3, none⟩) hz1).trans b3
      have r4 := (HWr.out.cell (p := ⟨w.heap.size, 4, none⟩) hz1).trans b4
      have F1 := Lib.hid (kindOf_one hk)
      have F2 := (Gr.kindOf_least hk).2
      have F3 := kindOf_two hk
      have F4 := Lib.hid (kindOf_low hk)
      clear hG4 HO b0 b2 b3 b4 ho
      rcases kindOf_cases hk with rfl | rfl | rfl | rfl | rfl | rfl | rfl | rfl | rfl | rfl | rfl | rfl | rfl
      · have HKD : Hid (Gr.kindOf 1 = some k) := hk
        have hch : Gr.chk shp = true := hp8 (F1.out (by omega))
        have hsl : ls ≤ 4 := by have := (Gr.chk_parts hch).2.1; rw [LS.out] at this; exact this
        have HR : Hid (Gr.shapeOf ⟨1, inn, shp, n, pad⟩ L = shp) := by show _ = _; simp [Gr.shapeOf]
        have HI := Lib.hid (KS.out.below HW.out)
        clear hch hk
        go_wp2_with fail
        refine (clone_any _ _ _ shp _ HI.out (by omega)).mono ?_
        rintro e w5 ⟨v5, rfl, hO5, hb5⟩
        obtain ⟨a5, n5, c5, rfl, hq1, hq2, hq3, hI5, hfr⟩ := (hO5.mono (show w.heap.size ≤ _ from HW.out.size)).clipped HI.out.wf
        have HF5 : Hid (ShapeF w shp (.returned (.slice a5 n5 n5)) w5) := ⟨_, _, rfl, hI5, hfr, HW.out.trans (hb5.mono HW.out.size)⟩
        clear hO5 hb5 hI5 hfr
        go_wp2_with fail
        refine (clip_any _ _ _ _ hq1 hq2 hq3).mono ?_
        rintro e w6 ⟨rfl, rfl⟩
        go_wp2
        go_ret
        rw [HR.out]; exact HF5.out
      · have HKD : Hid (Gr.kindOf 2 = some k) := hk
        have hch : Gr.chk shp = true := hp8 (F1.out (by omega))
        have hsl : ls ≤ 4 := by have := (Gr.chk_parts hch).2.1; rw [LS.out] at this; exact this
        have HR : Hid (Gr.shapeOf ⟨2, inn, shp, n, pad⟩ L = shp) := by show _ = _; simp [Gr.shapeOf]
        have HI := Lib.hid (KS.out.below HW.out)
        clear hch hk
        go_wp2_with fail
        refine (clone_any _ _ _ shp _ HI.out (by omega)).mono ?_
        rintro e w5 ⟨v5, rfl, hO5, hb5⟩
        obtain ⟨a5, n5, c5, rfl, hq1, hq2, hq3, hI5, hfr⟩ := (hO5.mono (show w.heap.size ≤ _ from HW.out.size)).clipped HI.out.wf
        have HF5 : Hid (ShapeF w shp (.returned (.slice a5 n5 n5)) w5) := ⟨_, _, rfl, hI5, hfr, HW.out.trans (hb5.mono HW.out.size)⟩
        clear hO5 hb5 hI5 hfr
        go_wp2_with fail
        refine (clip_any _ _ _ _ hq1 hq2 hq3).mono ?_
        rintro e w6 ⟨rfl, rfl⟩
        go_wp2
        go_ret
        rw [HR.out]; exact HF5.out
      · have HKD : Hid (Gr.kindOf 3 = some k) := hk
        obtain ⟨bI, oI, eA, hbI, hcI⟩ := HG4.out.at_ (by omega)
        obtain rfl := eA
        obtain ⟨p0, l0, c0, hc0, hI0⟩ := hcI 0 (by omega)
        rw [Nat.add_zero] at hc0
        rw [rowL_rowsOf L inn 0 (by rw [LI.out]; omega)] at hI0
        obtain ⟨hv0, hv1⟩ := HIN.out (nth inn 0) (nth_mem inn 0 (by rw [LI.out]; omega))
        have HK0 := Lib.hid (HCK.out _ (rowL_mem L (nth inn 0).toNat (by rw [LG.out]; omega)))
        have HL0 : Hid ((Gr.rowAt L (nth inn 0)).length ≤ 4) := (Gr.chk_parts HK0.out).2.1
        have hl0 : l0 ≤ 4 := by have := HL0.out; have := hI0.length; unfold Gr.rowAt at *; unfold rowL at *; omega
        have H0 := Lib.hid hI0
        have hle0 := hI0.le
        have hcl0 := hI0.cap_le
        have hgc := HG4.out.le
        have hgc2 := HG4.out.cap_le
        have hj1 : (0 : Int) < (j : Int) := by omega
        have hj1n : 0 < j := by omega
        clear hI0
        obtain ⟨p1, l1, c1, hc1, hI1⟩ := hcI 1 (by omega)
        rw [rowL_rowsOf L inn 1 (by rw [LI.out]; omega)] at hI1
        have H1 := Lib.hid hI1
        have hle1 := hI1.le
        have hcl1 := hI1.cap_le
        have hj2 : (1 : Int) < (j : Int) := by omega
        have hj2n : 1 < j := by omega
        clear hI1 hcI
        cases hsm : sameB (Gr.rowAt L (nth inn 0)) (Gr.rowAt L (nth inn 1)) with
        | true =>
          have HR : Hid (Gr.shapeOf ⟨3, inn, shp, n, pad⟩ L = (Gr.rowAt L (nth inn 0))) := by show _ = _; simp [Gr.shapeOf, hsm]
          have HE : Hid (∀ q, Calls Tryz.prog 177 #[.slice p0 l0 c0, .slice p1 l1 c1] (wr.drewN q) fun e w' => e = .returned (.bool true) ∧ ∃ m, w' = wr.drewN m) := fun q => (equal_any _ _ _ _ _ _ _ _ _ (H0.out.drewN q) (H1.out.drewN q)).mono fun e w' ⟨he, m, hw⟩ => ⟨by rw [he, hsm], q + m, by rw [hw]; simp⟩
          clear hsm hk
          go_wp2_with fail
          go_quiet ((go_at_call 177; with_reducible exact HE.out _))
          have HW9 := Lib.hid (HW.out.trans (below_drewN wr nq _))
          have H9 := Lib.hid (H0.out.drewN nq)
          go_wp2_with fail
          refine (clone_any _ _ _ (Gr.rowAt L (nth inn 0)) _ H9.out (by omega)).mono ?_
          rintro e w5 ⟨v5, rfl, hO5, hb5⟩
          obtain ⟨a5, n5, c5, rfl, hq1, hq2, hq3, hI5, hfr⟩ := (hO5.mono (show w.heap.size ≤ _ from HW9.out.size)).clipped H9.out.wf
          have HF5 : Hid (ShapeF w (Gr.rowAt L (nth inn 0)) (.returned (.slice a5 n5 n5)) w5) := ⟨_, _, rfl, hI5, hfr, HW9.out.trans (hb5.mono HW9.out.size)⟩
          clear hO5 hb5 hI5 hfr
          go_wp2_with fail
          refine (clip_any _ _ _ _ hq1 hq2 hq3).mono ?_
          rintro e w6 ⟨rfl, rfl⟩
          go_wp2
          go_ret
          rw [HR.out]; exact HF5.out
        | false =>
          have HR : Hid (Gr.shapeOf ⟨3, inn, shp, n, pad⟩ L = []) := by show _ = _; simp [Gr.shapeOf, hsm]
          have HE : Hid (∀ q, Calls Tryz.prog 177 #[.slice p0 l0 c0, .slice p1 l1 c1] (wr.drewN q) fun e w' => e = .returned (.bool false) ∧ ∃ m, w' = wr.drewN m) := fun q => (equal_any _ _ _ _ _ _ _ _ _ (H0.out.drewN q) (H1.out.drewN q)).mono fun e w' ⟨he, m, hw⟩ => ⟨by rw [he, hsm], q + m, by rw [hw]; simp⟩
          clear hsm hk
          go_wp2_with fail
          go_quiet ((go_at_call 177; with_reducible exact HE.out _))
          have HW9 := Lib.hid (HW.out.trans (below_drewN wr nq _))
          have H9 : Hid (Ints (wr.drewN nq) none 0 0 []) := Ints.nil
          go_wp2_with fail
          refine (clone_any _ _ _ [] _ H9.out (by omega)).mono ?_
          rintro e w5 ⟨v5, rfl, hO5, hb5⟩
          obtain ⟨a5, n5, c5, rfl, hq1, hq2, hq3, hI5, hfr⟩ := (hO5.mono (show w.heap.size ≤ _ from HW9.out.size)).clipped H9.out.wf
          have HF5 : Hid (ShapeF w [] (.returned (.slice a5 n5 n5)) w5) := ⟨_, _, rfl, hI5, hfr, HW9.out.trans (hb5.mono HW9.out.size)⟩
          clear hO5 hb5 hI5 hfr
          go_wp2_with fail
          refine (clip_any _ _ _ _ hq1 hq2 hq3).mono ?_
          rintro e w6 ⟨rfl, rfl⟩
          go_wp2
          go_ret
          rw [HR.out]; exact HF5.out
      · have HKD : Hid (Gr.kindOf 4 = some k) := hk
        obtain ⟨bI, oI, eA, hbI, hcI⟩ := HG4.out.at_ (by omega)
        obtain rfl := eA
        obtain ⟨p0, l0, c0, hc0, hI0⟩ := hcI 0 (by omega)
        rw [Nat.add_zero] at hc0
        rw [rowL_rowsOf L inn 0 (by rw [LI.out]; omega)] at hI0
        obtain ⟨hv0, hv1⟩ := HIN.out (nth inn 0) (nth_mem inn 0 (by rw [LI.out]; omega))
        have HK0 := Lib.hid (HCK.out _ (rowL_mem L (nth inn 0).toNat (by rw [LG.out]; omega)))
        have HL0 : Hid ((Gr.rowAt L (nth inn 0)).length ≤ 4) := (Gr.chk_parts HK0.out).2.1
        have hl0 : l0 ≤ 4 := by have := HL0.out; have := hI0.length; unfold Gr.rowAt at *; unfold rowL at *; omega
        have H0 := Lib.hid hI0
        have hle0 := hI0.le
        have hcl0 := hI0.cap_le
        have hgc := HG4.out.le
        have hgc2 := HG4.out.cap_le
        have hj1 : (0 : Int) < (j : Int) := by omega
        have hj1n : 0 < j := by omega
        clear hI0
        obtain ⟨p1, l1, c1, hc1, hI1⟩ := hcI 1 (by omega)
        rw [rowL_rowsOf L inn 1 (by rw [LI.out]; omega)] at hI1
        have H1 := Lib.hid hI1
        have hle1 := hI1.le
        have hcl1 := hI1.cap_le
        have hj2 : (1 : Int) < (j : Int) := by omega
        have hj2n : 1 < j := by omega
        clear hI1 hcI
        cases hsm : sameB (Gr.rowAt L (nth inn 0)) (Gr.rowAt L (nth inn 1)) with
        | true =>
          have HR : Hid (Gr.shapeOf ⟨4, inn, shp, n, pad⟩ L = (Gr.rowAt L (nth inn 0))) := by show _ = _; simp [Gr.shapeOf, hsm]
          have HE : Hid (∀ q, Calls Tryz.prog 177 #[.slice p0 l0 c0, .slice p1 l1 c1] (wr.drewN q) fun e w' => e = .returned (.bool true) ∧ ∃ m, w' = wr.drewN m) := fun q => (equal_any _ _ _ _ _ _ _ _ _ (H0.out.drewN q) (H1.out.drewN q)).mono fun e w' ⟨he, m, hw⟩ => ⟨by rw [he, hsm], q + m, by rw [hw]; simp⟩
          clear hsm hk
          go_wp2_with fail
          go_quiet ((go_at_call 177; with_reducible exact HE.out _))
          have HW9 := Lib.hid (HW.out.trans (below_drewN wr nq _))
          have H9 := Lib.hid (H0.out.drewN nq)
          go_wp2_with fail
          refine (clone_any _ _ _ (Gr.rowAt L (nth inn 0)) _ H9.out (by omega)).mono ?_
          rintro e w5 ⟨v5, rfl, hO5, hb5⟩
          obtain ⟨a5, n5, c5, rfl, hq1, hq2, hq3, hI5, hfr⟩ := (hO5.mono (show w.heap.size ≤ _ from HW9.out.size)).clipped H9.out.wf
          have HF5 : Hid (ShapeF w (Gr.rowAt L (nth inn 0)) (.returned (.slice a5 n5 n5)) w5) := ⟨_, _, rfl, hI5, hfr, HW9.out.trans (hb5.mono HW9.out.size)⟩
          clear hO5 hb5 hI5 hfr
          go_wp2_with fail
          refine (clip_any _ _ _ _ hq1 hq2 hq3).mono ?_
          rintro e w6 ⟨rfl, rfl⟩
          go_wp2
          go_ret
          rw [HR.out]; exact HF5.out
        | false =>
          have HR : Hid (Gr.shapeOf ⟨4, inn, shp, n, pad⟩ L = []) := by show _ = _; simp [Gr.shapeOf, hsm]
          have HE : Hid (∀ q, Calls Tryz.prog 177 #[.slice p0 l0 c0, .slice p1 l1 c1] (wr.drewN q) fun e w' => e = .returned (.bool false) ∧ ∃ m, w' = wr.drewN m) := fun q => (equal_any _ _ _ _ _ _ _ _ _ (H0.out.drewN q) (H1.out.drewN q)).mono fun e w' ⟨he, m, hw⟩ => ⟨by rw [he, hsm], q + m, by rw [hw]; simp⟩
          clear hsm hk
          go_wp2_with fail
          go_quiet ((go_at_call 177; with_reducible exact HE.out _))
          have HW9 := Lib.hid (HW.out.trans (below_drewN wr nq _))
          have H9 : Hid (Ints (wr.drewN nq) none 0 0 []) := Ints.nil
          go_wp2_with fail
          refine (clone_any _ _ _ [] _ H9.out (by omega)).mono ?_
          rintro e w5 ⟨v5, rfl, hO5, hb5⟩
          obtain ⟨a5, n5, c5, rfl, hq1, hq2, hq3, hI5, hfr⟩ := (hO5.mono (show w.heap.size ≤ _ from HW9.out.size)).clipped H9.out.wf
          have HF5 : Hid (ShapeF w [] (.returned (.slice a5 n5 n5)) w5) := ⟨_, _, rfl, hI5, hfr, HW9.out.trans (hb5.mono HW9.out.size)⟩
          clear hO5 hb5 hI5 hfr
          go_wp2_with fail
          refine (clip_any _ _ _ _ hq1 hq2 hq3).mono ?_
          rintro e w6 ⟨rfl, rfl⟩
          go_wp2
          go_ret
          rw [HR.out]; exact HF5.out
      · have HKD : Hid (Gr.kindOf 5 = some k) := hk
        obtain ⟨bI, oI, eA, hbI, hcI⟩ := HG4.out.at_ (by omega)
        obtain rfl := eA
        obtain ⟨p0, l0, c0, hc0, hI0⟩ := hcI 0 (by omega)
        rw [Nat.add_zero] at hc0
        rw [rowL_rowsOf L inn 0 (by rw [LI.out]; omega)] at hI0
        obtain ⟨hv0, hv1⟩ := HIN.out (nth inn 0) (nth_mem inn 0 (by rw [LI.out]; omega))
        have HK0 := Lib.hid (HCK.out _ (rowL_mem L (nth inn 0).toNat (by rw [LG.out]; omega)))
        have HL0 : Hid ((Gr.rowAt L (nth inn 0)).length ≤ 4) := (Gr.chk_parts HK0.out).2.1
        have hl0 : l0 ≤ 4 := by have := HL0.out; have := hI0.length; unfold Gr.rowAt at *; unfold rowL at *; omega
        have H0 := Lib.hid hI0
        have hle0 := hI0.le
        have hcl0 := hI0.cap_le
        have hgc := HG4.out.le
        have hgc2 := HG4.out.cap_le
        have hj1 : (0 : Int) < (j : Int) := by omega
        have hj1n : 0 < j := by omega
        clear hI0
        have HR : Hid (Gr.shapeOf ⟨5, inn, shp, n, pad⟩ L = (Gr.rowAt L (nth inn 0))) := by show _ = _; simp [Gr.shapeOf]
        clear hcI hk
        go_wp2_with fail
        refine (clone_any _ _ _ (Gr.rowAt L (nth inn 0)) _ H0.out (by omega)).mono ?_
        rintro e w5 ⟨v5, rfl, hO5, hb5⟩
        obtain ⟨a5, n5, c5, rfl, hq1, hq2, hq3, hI5, hfr⟩ := (hO5.mono (show w.heap.size ≤ _ from HW.out.size)).clipped H0.out.wf
        have HF5 : Hid (ShapeF w (Gr.rowAt L (nth inn 0)) (.returned (.slice a5 n5 n5)) w5) := ⟨_, _, rfl, hI5, hfr, HW.out.trans (hb5.mono HW.out.size)⟩
        clear hO5 hb5 hI5 hfr
        go_wp2_with fail
        refine (clip_any _ _ _ _ hq1 hq2 hq3).mono ?_
        rintro e w6 ⟨rfl, rfl⟩
        go_wp2
        go_ret
        rw [HR.out]; exact HF5.out
      · have HKD : Hid (Gr.kindOf 6 = some k) := hk
        obtain ⟨bI, oI, eA, hbI, hcI⟩ := HG4.out.at_ (by omega)
        obtain rfl := eA
        obtain ⟨p0, l0, c0, hc0, hI0⟩ := hcI 0 (by omega)
        rw [Nat.add_zero] at hc0
        rw [rowL_rowsOf L inn 0 (by rw [LI.out]; omega)] at hI0
        obtain ⟨hv0, hv1⟩ := HIN.out (nth inn 0) (nth_mem inn 0 (by rw [LI.out]; omega))
        have HK0 := Lib.hid (HCK.out _ (rowL_mem L (nth inn 0).toNat (by rw [LG.out]; omega)))
        have HL0 : Hid ((Gr.rowAt L (nth inn 0)).length ≤ 4) := (Gr.chk_parts HK0.out).2.1
        have hl0 : l0 ≤ 4 := by have := HL0.out; have := hI0.length; unfold Gr.rowAt at *; unfold rowL at *; omega
        have H0 := Lib.hid hI0
        have hle0 := hI0.le
        have hcl0 := hI0.cap_le
        have hgc := HG4.out.le
        have hgc2 := HG4.out.cap_le
        have hj1 : (0 : Int) < (j : Int) := by omega
        have hj1n : 0 < j := by omega
        clear hI0
        have HR : Hid (Gr.shapeOf ⟨6, inn, shp, n, pad⟩ L = (Gr.rowAt L (nth inn 0))) := by show _ = _; simp [Gr.shapeOf]
        clear hcI hk
        go_wp2_with fail
        refine (clone_any _ _ _ (Gr.rowAt L (nth inn 0)) _ H0.out (by omega)).mono ?_
        rintro e w5 ⟨v5, rfl, hO5, hb5⟩
        obtain ⟨a5, n5, c5, rfl, hq1, hq2, hq3, hI5, hfr⟩ := (hO5.mono (show w.heap.size ≤ _ from HW.out.size)).clipped H0.out.wf
        have HF5 : Hid (ShapeF w (Gr.rowAt L (nth inn 0)) (.returned (.slice a5 n5 n5)) w5) := ⟨_, _, rfl, hI5, hfr, HW.out.trans (hb5.mono HW.out.size)⟩
        clear hO5 hb5 hI5 hfr
        go_wp2_with fail
        refine (clip_any _ _ _ _ hq1 hq2 hq3).mono ?_
        rintro e w6 ⟨rfl, rfl⟩
        go_wp2
        go_ret
        rw [HR.out]; exact HF5.out
      · have HKD : Hid (Gr.kindOf 7 = some k) := hk
        obtain ⟨bI, oI, eA, hbI, hcI⟩ := HG4.out.at_ (by omega)
        obtain rfl := eA
        obtain ⟨p0, l0, c0, hc0, hI0⟩ := hcI 0 (by omega)
        rw [Nat.add_zero] at hc0
        rw [rowL_rowsOf L inn 0 (by rw [LI.out]; omega)] at hI0
        obtain ⟨hv0, hv1⟩ := HIN.out (nth inn 0) (nth_mem inn 0 (by rw [LI.out]; omega))
        have HK0 := Lib.hid (HCK.out _ (rowL_mem L (nth inn 0).toNat (by rw [LG.out]; omega)))
        have HL0 : Hid ((Gr.rowAt L (nth inn 0)).length ≤ 4) := (Gr.chk_parts HK0.out).2.1
        have hl0 : l0 ≤ 4 := by have := HL0.out; have := hI0.length; unfold Gr.rowAt at *; unfold rowL at *; omega
        have H0 := Lib.hid hI0
        have hle0 := hI0.le
        have hcl0 := hI0.cap_le
        have hgc := HG4.out.le
        have hgc2 := HG4.out.cap_le
        have hj1 : (0 : Int) < (j : Int) := by omega
        have hj1n : 0 < j := by omega
        clear hI0
        obtain ⟨p1, l1, c1, hc1, hI1⟩ := hcI 1 (by omega)
        rw [rowL_rowsOf L inn 1 (by rw [LI.out]; omega)] at hI1
        have H1 := Lib.hid hI1
        have hle1 := hI1.le
        have hcl1 := hI1.cap_le
        have hj2 : (1 : Int) < (j : Int) := by omega
        have hj2n : 1 < j := by omega
        clear hI1 hcI
        have HR : Hid (Gr.shapeOf ⟨7, inn, shp, n, pad⟩ L = (Gr.product (Gr.rowAt L (nth inn 0)) (Gr.rowAt L (nth inn 1)))) := by show _ = _; simp [Gr.shapeOf]
        clear hk
        go_wp2_with fail
        have HWd : Hid (Below w.heap.size w wr.drew) := HW.out.drew
        have HB9 : Hid (Below wr.heap.size wr wr.drew) := (Below.refl _ _).drew
        have H0' := Lib.hid (H0.out.below HB9.out)
        have HS' := Lib.hid ((KS.out.below HW.out).below HB9.out)
        have H1' := Lib.hid (H1.out.below HB9.out)
        refine wp_region_still_call 6 mixed (by kernel_rfl) ?_
        simp only [List.take_succ_cons, List.take_zero, List.getElem?_cons_succ, List.getElem?_cons_zero]
        repeat still_step
        refine wpStill_nil ?_
        intro KC hKC
        simp only [List.drop_succ_cons, List.drop_zero] at hKC
        go_simp
        refine (product_any _ _ _ _ _ _ _ _ _ H0'.out H1'.out).mono ?_
        rintro e w7 ⟨a7, n7, c7, en7, rfl, hI7, hb7⟩
        have HI7 := Lib.hid hI7
        have HW7 : Hid (Below w.heap.size w w7) := HWd.out.trans (hb7.mono HWd.out.size)
        have hn7 : n7 ≤ 1000000 := by have h8 := HI7.out.length; have h9 := Gr.product_len (Gr.rowAt L (nth inn 0)) (Gr.rowAt L (nth inn 1)); omega
        clear hI7 hb7
        refine hKC _ _ ?_
        clear hKC KC
        repeat still_step
        refine wpStill_nil ?_
        go_wp2_with fail
        refine (clone_any _ _ _ (Gr.product (Gr.rowAt L (nth inn 0)) (Gr.rowAt L (nth inn 1))) _ HI7.out (by omega)).mono ?_
        rintro e w5 ⟨v5, rfl, hO5, hb5⟩
        obtain ⟨a5, n5, c5, rfl, hq1, hq2, hq3, hI5, hfr⟩ := (hO5.mono (show w.heap.size ≤ _ from HW7.out.size)).clipped HI7.out.wf
        have HF5 : Hid (ShapeF w (Gr.product (Gr.rowAt L (nth inn 0)) (Gr.rowAt L (nth inn 1))) (.returned (.slice a5 n5 n5)) w5) := ⟨_, _, rfl, hI5, hfr, HW7.out.trans (hb5.mono HW7.out.size)⟩
        clear hO5 hb5 hI5 hfr
        go_wp2_with fail
        refine (clip_any _ _ _ _ hq1 hq2 hq3).mono ?_
        rintro e w6 ⟨rfl, rfl⟩
        go_wp2
        go_ret
        rw [HR.out]; exact HF5.out
      · have HKD : Hid (Gr.kindOf 8 = some k) := hk
        obtain ⟨bI, oI, eA, hbI, hcI⟩ := HG4.out.at_ (by omega)
        obtain rfl := eA
        obtain ⟨p0, l0, c0, hc0, hI0⟩ := hcI 0 (by omega)
        rw [Nat.add_zero] at hc0
        rw [rowL_rowsOf L inn 0 (by rw [LI.out]; omega)] at hI0
        obtain ⟨hv0, hv1⟩ := HIN.out (nth inn 0) (nth_mem inn 0 (by rw [LI.out]; omega))
        have HK0 := Lib.hid (HCK.out _ (rowL_mem L (nth inn 0).toNat (by rw [LG.out]; omega)))
        have HL0 : Hid ((Gr.rowAt L (nth inn 0)).length ≤ 4) := (Gr.chk_parts HK0.out).2.1
        have hl0 : l0 ≤ 4 := by have := HL0.out; have := hI0.length; unfold Gr.rowAt at *; unfold rowL at *; omega
        have H0 := Lib.hid hI0
        have hle0 := hI0.le
        have hcl0 := hI0.cap_le
        have hgc := HG4.out.le
        have hgc2 := HG4.out.cap_le
        have hj1 : (0 : Int) < (j : Int) := by omega
        have hj1n : 0 < j := by omega
        clear hI0
        obtain ⟨p1, l1, c1, hc1, hI1⟩ := hcI 1 (by omega)
        rw [rowL_rowsOf L inn 1 (by rw [LI.out]; omega)] at hI1
        have H1 := Lib.hid hI1
        have hle1 := hI1.le
        have hcl1 := hI1.cap_le
        have hj2 : (1 : Int) < (j : Int) := by omega
        have hj2n : 1 < j := by omega
        clear hI1 hcI
        have HR : Hid (Gr.shapeOf ⟨8, inn, shp, n, pad⟩ L = (Gr.window (Gr.rowAt L (nth inn 0)) (Gr.rowAt L (nth inn 1)) n pad)) := by show _ = _; simp [Gr.shapeOf]
        clear hk
        go_wp2_with fail
        have HWd : Hid (Below w.heap.size w wr.drew) := HW.out.drew
        have HB9 : Hid (Below wr.heap.size wr wr.drew) := (Below.refl _ _).drew
        have H0' := Lib.hid (H0.out.below HB9.out)
        have HS' := Lib.hid ((KS.out.below HW.out).below HB9.out)
        have H1' := Lib.hid (H1.out.below HB9.out)
        refine wp_region_still_call 10 mixed (by kernel_rfl) ?_
        simp only [List.take_succ_cons, List.take_zero, List.getElem?_cons_succ, List.getElem?_cons_zero]
        repeat still_step
        refine wpStill_nil ?_
        intro KC hKC
        simp only [List.drop_succ_cons, List.drop_zero] at hKC
        go_simp
        refine (window_any _ _ _ _ _ _ _ _ n pad _ H0'.out H1'.out).mono ?_
        rintro e w7 ⟨a7, n7, c7, en7, rfl, hI7, hb7⟩
        have HI7 := Lib.hid hI7
        have HW7 : Hid (Below w.heap.size w w7) := HWd.out.trans (hb7.mono HWd.out.size)
        have hn7 : n7 ≤ 1000000 := by have h8 := HI7.out.length; have h9 := Gr.window_len (Gr.rowAt L (nth inn 0)) (Gr.rowAt L (nth inn 1)) n pad; omega
        clear hI7 hb7
        refine hKC _ _ ?_
        clear hKC KC
        repeat still_step
        refine wpStill_nil ?_
        go_wp2_with fail
        refine (clone_any _ _ _ (Gr.window (Gr.rowAt L (nth inn 0)) (Gr.rowAt L (nth inn 1)) n pad) _ HI7.out (by omega)).mono ?_
        rintro e w5 ⟨v5, rfl, hO5, hb5⟩
        obtain ⟨a5, n5, c5, rfl, hq1, hq2, hq3, hI5, hfr⟩ := (hO5.mono (show w.heap.size ≤ _ from HW7.out.size)).clipped HI7.out.wf
        have HF5 : Hid (ShapeF w (Gr.window (Gr.rowAt L (nth inn 0)) (Gr.rowAt L (nth inn 1)) n pad) (.returned (.slice a5 n5 n5)) w5) := ⟨_, _, rfl, hI5, hfr, HW7.out.trans (hb5.mono HW7.out.size)⟩
        clear hO5 hb5 hI5 hfr
        go_wp2_with fail
        refine (clip_any _ _ _ _ hq1 hq2 hq3).mono ?_
        rintro e w6 ⟨rfl, rfl⟩
        go_wp2
        go_ret
        rw [HR.out]; exact HF5.out
      · have HKD : Hid (Gr.kindOf 9 = some k) := hk
        obtain ⟨bI, oI, eA, hbI, hcI⟩ := HG4.out.at_ (by omega)
        obtain rfl := eA
        obtain ⟨p0, l0, c0, hc0, hI0⟩ := hcI 0 (by omega)
        rw [Nat.add_zero] at hc0
        rw [rowL_rowsOf L inn 0 (by rw [LI.out]; omega)] at hI0
        obtain ⟨hv0, hv1⟩ := HIN.out (nth inn 0) (nth_mem inn 0 (by rw [LI.out]; omega))
        have HK0 := Lib.hid (HCK.out _ (rowL_mem L (nth inn 0).toNat (by rw [LG.out]; omega)))
        have HL0 : Hid ((Gr.rowAt L (nth inn 0)).length ≤ 4) := (Gr.chk_parts HK0.out).2.1
        have hl0 : l0 ≤ 4 := by have := HL0.out; have := hI0.length; unfold Gr.rowAt at *; unfold rowL at *; omega
        have H0 := Lib.hid hI0
        have hle0 := hI0.le
        have hcl0 := hI0.cap_le
        have hgc := HG4.out.le
        have hgc2 := HG4.out.cap_le
        have hj1 : (0 : Int) < (j : Int) := by omega
        have hj1n : 0 < j := by omega
        clear hI0
        have HR : Hid (Gr.shapeOf ⟨9, inn, shp, n, pad⟩ L = (Gr.pool (Gr.rowAt L (nth inn 0)) n)) := by show _ = _; simp [Gr.shapeOf]
        clear hk
        go_wp2_with fail
        have HWd : Hid (Below w.heap.size w wr.drew) := HW.out.drew
        have HB9 : Hid (Below wr.heap.size wr wr.drew) := (Below.refl _ _).drew
        have H0' := Lib.hid (H0.out.below HB9.out)
        have HS' := Lib.hid ((KS.out.below HW.out).below HB9.out)
        refine wp_region_still_call 5 mixed (by kernel_rfl) ?_
        simp only [List.take_succ_cons, List.take_zero, List.getElem?_cons_succ, List.getElem?_cons_zero]
        repeat still_step
        refine wpStill_nil ?_
        intro KC hKC
        simp only [List.drop_succ_cons, List.drop_zero] at hKC
        go_simp
        refine (pool_any _ _ _ _ n _ H0'.out).mono ?_
        rintro e w7 ⟨a7, n7, c7, en7, rfl, hI7, hb7⟩
        have HI7 := Lib.hid hI7
        have HW7 : Hid (Below w.heap.size w w7) := HWd.out.trans (hb7.mono HWd.out.size)
        have hn7 : n7 ≤ 1000000 := by have h8 := HI7.out.length; have h9 := Gr.pool_len (Gr.rowAt L (nth inn 0)) n; omega
        clear hI7 hb7
        refine hKC _ _ ?_
        clear hKC KC
        repeat still_step
        refine wpStill_nil ?_
        go_wp2_with fail
        refine (clone_any _ _ _ (Gr.pool (Gr.rowAt L (nth inn 0)) n) _ HI7.out (by omega)).mono ?_
        rintro e w5 ⟨v5, rfl, hO5, hb5⟩
        obtain ⟨a5, n5, c5, rfl, hq1, hq2, hq3, hI5, hfr⟩ := (hO5.mono (show w.heap.size ≤ _ from HW7.out.size)).clipped HI7.out.wf
        have HF5 : Hid (ShapeF w (Gr.pool (Gr.rowAt L (nth inn 0)) n) (.returned (.slice a5 n5 n5)) w5) := ⟨_, _, rfl, hI5, hfr, HW7.out.trans (hb5.mono HW7.out.size)⟩
        clear hO5 hb5 hI5 hfr
        go_wp2_with fail
        refine (clip_any _ _ _ _ hq1 hq2 hq3).mono ?_
        rintro e w6 ⟨rfl, rfl⟩
        go_wp2
        go_ret
        rw [HR.out]; exact HF5.out
      · have HKD : Hid (Gr.kindOf 10 = some k) := hk
        obtain ⟨bI, oI, eA, hbI, hcI⟩ := HG4.out.at_ (by omega)
        obtain rfl := eA
        obtain ⟨p0, l0, c0, hc0, hI0⟩ := hcI 0 (by omega)
        rw [Nat.add_zero] at hc0
        rw [rowL_rowsOf L inn 0 (by rw [LI.out]; omega)] at hI0
        obtain ⟨hv0, hv1⟩ := HIN.out (nth inn 0) (nth_mem inn 0 (by rw [LI.out]; omega))
        have HK0 := Lib.hid (HCK.out _ (rowL_mem L (nth inn 0).toNat (by rw [LG.out]; omega)))
        have HL0 : Hid ((Gr.rowAt L (nth inn 0)).length ≤ 4) := (Gr.chk_parts HK0.out).2.1
        have hl0 : l0 ≤ 4 := by have := HL0.out; have := hI0.length; unfold Gr.rowAt at *; unfold rowL at *; omega
        have H0 := Lib.hid hI0
        have hle0 := hI0.le
        have hcl0 := hI0.cap_le
        have hgc := HG4.out.le
        have hgc2 := HG4.out.cap_le
        have hj1 : (0 : Int) < (j : Int) := by omega
        have hj1n : 0 < j := by omega
        clear hI0
        have hch : Gr.chk shp = true := hp8 (F1.out (by omega))
        have hsl : ls ≤ 4 := by have := (Gr.chk_parts hch).2.1; rw [LS.out] at this; exact this
        have HSr := Lib.hid (KS.out.below HW.out)
        have HE1 : Hid (∀ q, Calls Tryz.prog 123 #[.slice p0 l0 c0] (wr.drewN q) fun e w' => e = .returned (.int .i64 (Gr.size (Gr.rowAt L (nth inn 0)))) ∧ w' = wr.drewN q) := fun q => (size_any _ _ _ _ _ (H0.out.drewN q)).mono fun e w' ⟨he, hw⟩ => ⟨he, hw.symm⟩
        have HE2 : Hid (∀ q, Calls Tryz.prog 123 #[.slice sa ls cs] (wr.drewN q) fun e w' => e = .returned (.int .i64 (Gr.size shp)) ∧ w' = wr.drewN q) := fun q => (size_any _ _ _ _ _ (HSr.out.drewN q)).mono fun e w' ⟨he, hw⟩ => ⟨he, hw.symm⟩
        by_cases hsm : Gr.size (Gr.rowAt L (nth inn 0)) = Gr.size shp
        · have HR : Hid (Gr.shapeOf ⟨10, inn, shp, n, pad⟩ L = shp) := by show _ = _; simp [Gr.shapeOf, hsm]
          have heq : (Gr.size (Gr.rowAt L (nth inn 0)) == Gr.size shp) = true := by simp [hsm]
          clear hsm hk hch hcI
          go_wp2_with fail
          go_quiet ((go_at_call 123; first | (with_reducible exact Calls.quiet_of_same (HE1.out _)) | (with_reducible exact Calls.quiet_of_same (HE2.out _))))
          have HW9 := Lib.hid (HW.out.trans (below_drewN wr nq _))
          have H9 := Lib.hid (HSr.out.drewN nq)
          go_wp2_with fail
          refine (clone_any _ _ _ shp _ H9.out (by omega)).mono ?_
          rintro e w5 ⟨v5, rfl, hO5, hb5⟩
          obtain ⟨a5, n5, c5, rfl, hq1, hq2, hq3, hI5, hfr⟩ := (hO5.mono (show w.heap.size ≤ _ from HW9.out.size)).clipped H9.out.wf
          have HF5 : Hid (ShapeF w shp (.returned (.slice a5 n5 n5)) w5) := ⟨_, _, rfl, hI5, hfr, HW9.out.trans (hb5.mono HW9.out.size)⟩
          clear hO5 hb5 hI5 hfr
          go_wp2_with fail
          refine (clip_any _ _ _ _ hq1 hq2 hq3).mono ?_
          rintro e w6 ⟨rfl, rfl⟩
          go_wp2
          go_ret
          rw [HR.out]; exact HF5.out
        · have HR : Hid (Gr.shapeOf ⟨10, inn, shp, n, pad⟩ L = []) := by show _ = _; simp [Gr.shapeOf, hsm]
          have heq : (Gr.size (Gr.rowAt L (nth inn 0)) == Gr.size shp) = false := by simp [hsm]
          clear hsm hk hch hcI
          go_wp2_with fail
          go_quiet ((go_at_call 123; first | (with_reducible exact Calls.quiet_of_same (HE1.out _)) | (with_reducible exact Calls.quiet_of_same (HE2.out _))))
          have HW9 := Lib.hid (HW.out.trans (below_drewN wr nq _))
          have H9 : Hid (Ints (wr.drewN nq) none 0 0 []) := Ints.nil
          go_wp2_with fail
          refine (clone_any _ _ _ [] _ H9.out (by omega)).mono ?_
          rintro e w5 ⟨v5, rfl, hO5, hb5⟩
          obtain ⟨a5, n5, c5, rfl, hq1, hq2, hq3, hI5, hfr⟩ := (hO5.mono (show w.heap.size ≤ _ from HW9.out.size)).clipped H9.out.wf
          have HF5 : Hid (ShapeF w [] (.returned (.slice a5 n5 n5)) w5) := ⟨_, _, rfl, hI5, hfr, HW9.out.trans (hb5.mono HW9.out.size)⟩
          clear hO5 hb5 hI5 hfr
          go_wp2_with fail
          refine (clip_any _ _ _ _ hq1 hq2 hq3).mono ?_
          rintro e w6 ⟨rfl, rfl⟩
          go_wp2
          go_ret
          rw [HR.out]; exact HF5.out
      · have HKD : Hid (Gr.kindOf 11 = some k) := hk
        obtain ⟨bI, oI, eA, hbI, hcI⟩ := HG4.out.at_ (by omega)
        obtain rfl := eA
        obtain ⟨p0, l0, c0, hc0, hI0⟩ := hcI 0 (by omega)
        rw [Nat.add_zero] at hc0
        rw [rowL_rowsOf L inn 0 (by rw [LI.out]; omega)] at hI0
        obtain ⟨hv0, hv1⟩ := HIN.out (nth inn 0) (nth_mem inn 0 (by rw [LI.out]; omega))
        have HK0 := Lib.hid (HCK.out _ (rowL_mem L (nth inn 0).toNat (by rw [LG.out]; omega)))
        have HL0 : Hid ((Gr.rowAt L (nth inn 0)).length ≤ 4) := (Gr.chk_parts HK0.out).2.1
        have hl0 : l0 ≤ 4 := by have := HL0.out; have := hI0.length; unfold Gr.rowAt at *; unfold rowL at *; omega
        have H0 := Lib.hid hI0
        have hle0 := hI0.le
        have hcl0 := hI0.cap_le
        have hgc := HG4.out.le
        have hgc2 := HG4.out.cap_le
        have hj1 : (0 : Int) < (j : Int) := by omega
        have hj1n : 0 < j := by omega
        clear hI0
        have hord : Gr.order shp = true := hp9 (by have := F4.out.2 rfl; omega) (by have := F4.out.2 rfl; omega)
        have HOR := Lib.hid (Gr.order_range hord)
        have hsl : ls ≤ 4 := by have := HOR.out.1; rw [LS.out] at this; exact this
        have HOR2 : Hid (l0 = ls → ∀ x ∈ shp, 0 ≤ x ∧ x < (l0 : Int)) := fun e x hx => by have := HOR.out.2 x hx; rw [LS.out, ← e] at this; exact this
        clear hord
        have HR : Hid (Gr.shapeOf ⟨11, inn, shp, n, pad⟩ L = (Gr.turned (Gr.rowAt L (nth inn 0)) shp)) := by show _ = _; simp [Gr.shapeOf]
        clear hk
        go_wp2_with fail
        have HWd : Hid (Below w.heap.size w wr.drew) := HW.out.drew
        have HB9 : Hid (Below wr.heap.size wr wr.drew) := (Below.refl _ _).drew
        have H0' := Lib.hid (H0.out.below HB9.out)
        have HS' := Lib.hid ((KS.out.below HW.out).below HB9.out)
        refine wp_region_still_call 5 mixed (by kernel_rfl) ?_
        simp only [List.take_succ_cons, List.take_zero, List.getElem?_cons_succ, List.getElem?_cons_zero]
        repeat still_step
        refine wpStill_nil ?_
        intro KC hKC
        simp only [List.drop_succ_cons, List.drop_zero] at hKC
        go_simp
        refine (turned_any _ _ _ _ _ _ _ _ _ H0'.out HS'.out HOR2.out (by omega)).mono ?_
        rintro e w7 ⟨a7, n7, c7, rfl, hI7, hb7⟩
        have HI7 := Lib.hid hI7
        have HW7 : Hid (Below w.heap.size w w7) := HWd.out.trans (hb7.mono HWd.out.size)
        have hn7 : n7 ≤ 1000000 := by have h8 := HI7.out.length; have h9 := Gr.turned_len (Gr.rowAt L (nth inn 0)) shp; have h10 := LS.out; (try rw [HL0e.out] at *); omega
        clear hI7 hb7
        refine hKC _ _ ?_
        clear hKC KC
        repeat still_step
        refine wpStill_nil ?_
        go_wp2_with fail
        refine (clone_any _ _ _ (Gr.turned (Gr.rowAt L (nth inn 0)) shp) _ HI7.out (by omega)).mono ?_
        rintro e w5 ⟨v5, rfl, hO5, hb5⟩
        obtain ⟨a5, n5, c5, rfl, hq1, hq2, hq3, hI5, hfr⟩ := (hO5.mono (show w.heap.size ≤ _ from HW7.out.size)).clipped HI7.out.wf
        have HF5 : Hid (ShapeF w (Gr.turned (Gr.rowAt L (nth inn 0)) shp) (.returned (.slice a5 n5 n5)) w5) := ⟨_, _, rfl, hI5, hfr, HW7.out.trans (hb5.mono HW7.out.size)⟩
        clear hO5 hb5 hI5 hfr
        go_wp2_with fail
        refine (clip_any _ _ _ _ hq1 hq2 hq3).mono ?_
        rintro e w6 ⟨rfl, rfl⟩
        go_wp2
        go_ret
        rw [HR.out]; exact HF5.out
      · have HKD : Hid (Gr.kindOf 12 = some k) := hk
        have HN0 : Hid (0 ≤ n ∧ n ≤ 3) := by have := F4.out.1 (.inl rfl); exact ⟨by omega, by omega⟩
        have hmap : inn.map (Gr.rowAt L) = rowsOf L inn := rfl
        have HR : Hid (Gr.shapeOf ⟨12, inn, shp, n, pad⟩ L = Gr.joined (rowsOf L inn) n) := by show _ = _; simp [Gr.shapeOf, hmap]
        have HCI : Hid (∀ s ∈ rowsOf L inn, Gr.chk s = true) := fun s hs => by
          unfold rowsOf at hs
          obtain ⟨v, hv, rfl⟩ := List.mem_map.1 hs
          obtain ⟨hv0, hv1⟩ := HIN.out v hv
          exact HCK.out _ (rowL_mem L v.toNat (by rw [LG.out]; omega))
        clear hk hmap
        go_wp2_with fail
        refine (joined_any _ _ _ (rowsOf L inn) n _ HG4.out (by omega) (by omega) HCI.out HN0.out.1 HN0.out.2).mono ?_
        rintro e w7 ⟨a7, n7, c7, rfl, hI7, hb7⟩
        have HI7 := Lib.hid hI7
        have HW7 : Hid (Below w.heap.size w w7) := HW.out.trans (hb7.mono HW.out.size)
        have hn7 : n7 ≤ 1000000 := by have h8 := HI7.out.length; have h9 := Gr.joined_len HCI.out n; omega
        clear hI7 hb7
        go_wp2_with fail
        refine (clone_any _ _ _ (Gr.joined (rowsOf L inn) n) _ HI7.out (by omega)).mono ?_
        rintro e w5 ⟨v5, rfl, hO5, hb5⟩
        obtain ⟨a5, n5, c5, rfl, hq1, hq2, hq3, hI5, hfr⟩ := (hO5.mono (show w.heap.size ≤ _ from HW7.out.size)).clipped HI7.out.wf
        have HF5 : Hid (ShapeF w (Gr.joined (rowsOf L inn) n) (.returned (.slice a5 n5 n5)) w5) := ⟨_, _, rfl, hI5, hfr, HW7.out.trans (hb5.mono HW7.out.size)⟩
        clear hO5 hb5 hI5 hfr
        go_wp2_with fail
        refine (clip_any _ _ _ _ hq1 hq2 hq3).mono ?_
        rintro e w6 ⟨rfl, rfl⟩
        go_wp2
        go_ret
        rw [HR.out]; exact HF5.out
      · have HKD : Hid (Gr.kindOf 13 = some k) := hk
        have HN0 : Hid (0 ≤ n ∧ n ≤ 3) := by have := F4.out.1 (.inr rfl); exact ⟨by omega, by omega⟩
        obtain ⟨bI, oI, eA, hbI, hcI⟩ := HG4.out.at_ (by omega)
        obtain rfl := eA
        obtain ⟨p0, l0, c0, hc0, hI0⟩ := hcI 0 (by omega)
        rw [Nat.add_zero] at hc0
        rw [rowL_rowsOf L inn 0 (by rw [LI.out]; omega)] at hI0
        obtain ⟨hv0, hv1⟩ := HIN.out (nth inn 0) (nth_mem inn 0 (by rw [LI.out]; omega))
        have HK0 := Lib.hid (HCK.out _ (rowL_mem L (nth inn 0).toNat (by rw [LG.out]; omega)))
        have HL0 : Hid ((Gr.rowAt L (nth inn 0)).length ≤ 4) := (Gr.chk_parts HK0.out).2.1
        have hl0 : l0 ≤ 4 := by have := HL0.out; have := hI0.length; unfold Gr.rowAt at *; unfold rowL at *; omega
        have H0 := Lib.hid hI0
        have hle0 := hI0.le
        have hcl0 := hI0.cap_le
        have hgc := HG4.out.le
        have hgc2 := HG4.out.cap_le
        have hj1 : (0 : Int) < (j : Int) := by omega
        have hj1n : 0 < j := by omega
        clear hI0
        have HR : Hid (Gr.shapeOf ⟨13, inn, shp, n, pad⟩ L = (Gr.without (Gr.rowAt L (nth inn 0)) n)) := by show _ = _; simp [Gr.shapeOf]
        clear hk
        go_wp2_with fail
        have HWd : Hid (Below w.heap.size w wr.drew) := HW.out.drew
        have HB9 : Hid (Below wr.heap.size wr wr.drew) := (Below.refl _ _).drew
        have H0' := Lib.hid (H0.out.below HB9.out)
        have HS' := Lib.hid ((KS.out.below HW.out).below HB9.out)
        refine wp_region_still_call 5 mixed (by kernel_rfl) ?_
        simp only [List.take_succ_cons, List.take_zero, List.getElem?_cons_succ, List.getElem?_cons_zero]
        repeat still_step
        refine wpStill_nil ?_
        intro KC hKC
        simp only [List.drop_succ_cons, List.drop_zero] at hKC
        go_simp
        refine (without_any _ _ _ _ n _ H0'.out HN0.out.1 (by omega)).mono ?_
        rintro e w7 ⟨a7, n7, c7, rfl, hI7, hb7⟩
        have HI7 := Lib.hid hI7
        have HW7 : Hid (Below w.heap.size w w7) := HWd.out.trans (hb7.mono HWd.out.size)
        have hn7 : n7 ≤ 1000000 := by have h8 := HI7.out.length; have h9 := Gr.without_len (Gr.rowAt L (nth inn 0)) n; have h10 := HL0.out; omega
        clear hI7 hb7
        refine hKC _ _ ?_
        clear hKC KC
        repeat still_step
        refine wpStill_nil ?_
        go_wp2_with fail
        refine (clone_any _ _ _ (Gr.without (Gr.rowAt L (nth inn 0)) n) _ HI7.out (by omega)).mono ?_
        rintro e w5 ⟨v5, rfl, hO5, hb5⟩
        obtain ⟨a5, n5, c5, rfl, hq1, hq2, hq3, hI5, hfr⟩ := (hO5.mono (show w.heap.size ≤ _ from HW7.out.size)).clipped HI7.out.wf
        have HF5 : Hid (ShapeF w (Gr.without (Gr.rowAt L (nth inn 0)) n) (.returned (.slice a5 n5 n5)) w5) := ⟨_, _, rfl, hI5, hfr, HW7.out.trans (hb5.mono HW7.out.size)⟩
        clear hO5 hb5 hI5 hfr
        go_wp2_with fail
        refine (clip_any _ _ _ _ hq1 hq2 hq3).mono ?_
        rintro e w6 ⟨rfl, rfl⟩
        go_wp2
        go_ret
        rw [HR.out]; exact HF5.out
end Go.Proofs.YtekejcnphmnidaaGreatDoor
