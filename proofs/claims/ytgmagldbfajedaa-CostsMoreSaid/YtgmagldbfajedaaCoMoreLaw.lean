/-
  drydocklaw20.CostsMore: the walk cmore_walk (it returns true, and changes nothing below).
-/
import Derived.Test.YtgmagldbfajedaaCoMoreP
namespace Go.Proofs.Ytgmagldbfajedaa
open Go.RowKit

theorem slice_take57 (a : Option Addr) (len cap r : Nat) (h1 : r ≤ len) (h2 : len ≤ cap) (w : World) : (Instr.slice 57 (.slice a len cap) none (some (.int .i64 (r : Int))) none).run Try.prog w = .ok (.slice a r cap) w := by
  obtain ⟨i0, hi, hz0, hz1, hz2⟩ := info_parts Try.info63
  have h3 : Try.prog.elem 57 = 63 := by kernel_rfl
  rw [run_slice_h w 57 a len cap (by rw [h3]; exact Try.underlying57) .i64 (r : Int) (by omega) (by omega), h3]
  have e : (a.map fun x => x.add 0) = a := by cases a <;> simp [Addr.add]
  by_cases c : cap = 0
  · simp [go_sem, hi, hz1, sliced, c]
  · simp [go_sem, hi, hz1, sliced, c, e]
theorem costN_take (C : List Co.Cost) (k i : Nat) (h : i < k) : Co.costN (C.take k) i = Co.costN C i := by
  unfold Co.costN
  simp only [List.getD_eq_getElem?_getD, List.getElem?_take, h, if_true]
theorem CostsIn.take {w : World} {a : Option Addr} {len cap : Nat} {C : List Co.Cost} (h : CostsIn w a len cap C) (k : Nat) (hk : k ≤ len) : CostsIn w a k cap (C.take k) :=
  ⟨Nat.le_trans hk h.le, h.cap_le, by rw [List.length_take, h.length]; omega, fun h0 => by
    obtain ⟨b, off, e, hlt, hc⟩ := h.at_ (by omega)
    refine ⟨b, off, e, hlt, fun i hi => ?_⟩
    rw [costN_take _ _ _ hi]
    exact hc i (by omega)⟩

/-- What stays: the graph's box, and the node's. -/
structure MSt (w : World) (a : Option Addr) (len cap : Nat) (g : List Gr.Node) (ai sa : Option Addr) (li ci ls cs : Nat) (x : Gr.Node) (wk : World) : Prop where
  k : GSt w a len cap g wk
  lt : w.heap.size + 1 < wk.heap.size
  x0 : wk.cell? ⟨w.heap.size + 1, 0, none⟩ = some (.int .u8 x.kind)
  x1 : wk.cell? ⟨w.heap.size + 1, 1, none⟩ = some (.slice ai li ci)
  x2 : wk.cell? ⟨w.heap.size + 1, 2, none⟩ = some (.slice sa ls cs)
  x3 : wk.cell? ⟨w.heap.size + 1, 3, none⟩ = some (.int .i64 x.n)
  x4 : wk.cell? ⟨w.heap.size + 1, 4, none⟩ = some (.int .i64 x.pad)
theorem MSt.on {w : World} {a : Option Addr} {len cap : Nat} {g : List Gr.Node} {ai sa : Option Addr} {li ci ls cs : Nat} {x : Gr.Node} {wk w' : World} (h : MSt w a len cap g ai sa li ci ls cs x wk) (hb : Below wk.heap.size wk w') : MSt w a len cap g ai sa li ci ls cs x w' :=
  ⟨h.k.on hb, Nat.lt_of_lt_of_le h.lt hb.size, (hb.cell (p := ⟨w.heap.size + 1, 0, none⟩) h.lt).trans h.x0, (hb.cell (p := ⟨w.heap.size + 1, 1, none⟩) h.lt).trans h.x1, (hb.cell (p := ⟨w.heap.size + 1, 2, none⟩) h.lt).trans h.x2,
    (hb.cell (p := ⟨w.heap.size + 1, 3, none⟩) h.lt).trans h.x3, (hb.cell (p := ⟨w.heap.size + 1, 4, none⟩) h.lt).trans h.x4⟩
theorem MSt.start {w : World} {a : Option Addr} {len cap : Nat} {g : List Gr.Node} (h : Nodes w a len cap g) (ai sa : Option Addr) (li ci ls cs : Nat) (x : Gr.Node) :
    MSt w a len cap g ai sa li ci ls cs x ((w.alloc (.cells #[.slice a len cap] 38)).alloc (.cells #[.int .u8 x.kind, .slice ai li ci, .slice sa ls cs, .int .i64 x.n, .int .i64 x.pad] 46)) :=
  ⟨(GSt.start h).alloc _, by simp, by rw [World.cell?_alloc_at _ _ _ _ (by simp)]; rfl, by rw [World.cell?_alloc_at _ _ _ _ (by simp)]; rfl, by rw [World.cell?_alloc_at _ _ _ _ (by simp)]; rfl, by rw [World.cell?_alloc_at _ _ _ _ (by simp)]; rfl, by rw [World.cell?_alloc_at _ _ _ _ (by simp)]; rfl⟩

set_option maxHeartbeats 4000000 in
set_option maxRecDepth 100000 in
theorem cmore_walk (a : Option Addr) (len cap : Nat) (g : List Gr.Node) (ai sa : Option Addr) (li ci ls cs : Nat) (x : Gr.Node) (w : World) (HN : Nodes w a len cap g) (HX : NodeV w ai li ci sa ls cs x) :
    Calls Try.prog 13 #[.agg #[.slice a len cap], .agg #[.int .u8 x.kind, .slice ai li ci, .slice sa ls cs, .int .i64 x.n, .int .i64 x.pad]] w fun e w' => e = .returned (.bool true) ∧ Below w.heap.size w w' := by
  have LN := Lib.hid HN.length
  have hle := HN.le
  have hcl := HN.cap_le
  have hll := HN.len_le
  have HWF : Hid (∀ i, i < len → NodeWf (nodeN g i)) := NodesIn.wf HN
  have KX := Lib.hid HX
  have hxl := HX.li
  have hxs := HX.ls
  have M0 := Lib.hid (MSt.start HN ai sa li ci ls cs x)
  clear HN HX
  go_enter Try.func13, Try.ntmps13
  go_wp2_with fail
  refine (gsize2_any _ _ _ g _ M0.out.k.n).mono ?_
  rintro e w3 ⟨v, rfl, ⟨hv0, hv1⟩, hS, hb⟩
  have HS := Lib.hid hS
  have M3 := Lib.hid (M0.out.on hb)
  have c3 := M3.out.k.cell
  have x13 := M3.out.x1
  have x23 := M3.out.x2
  clear hb hS M0
  by_cases hbig : 1000 < v
  · have d : decide (v > 1000) = true := decide_eq_true hbig
    go_wp2_with fail
    refine (clives_any _).mono ?_
    rintro e w4 ⟨rfl, hb⟩
    have K4 := Lib.hid (M3.out.on hb)
    clear hb
    go_wp2
    go_ret
    exact ⟨rfl, K4.out.k.bel⟩
  have d : decide (v > 1000) = false := decide_eq_false hbig
  by_cases hbi : 10 < li
  · have d2 : decide ((li : Int) > 10) = true := decide_eq_true (by omega)
    go_wp2_with fail
    refine (clives_any _).mono ?_
    rintro e w4 ⟨rfl, hb⟩
    have K4 := Lib.hid (M3.out.on hb)
    clear hb
    go_wp2
    go_ret
    exact ⟨rfl, K4.out.k.bel⟩
  have d2 : decide ((li : Int) > 10) = false := decide_eq_false (by omega)
  by_cases hbs : 10 < ls
  · have d3 : decide ((ls : Int) > 10) = true := decide_eq_true (by omega)
    go_wp2_with fail
    refine (clives_any _).mono ?_
    rintro e w4 ⟨rfl, hb⟩
    have K4 := Lib.hid (M3.out.on hb)
    clear hb
    go_wp2
    go_ret
    exact ⟨rfl, K4.out.k.bel⟩
  have d3 : decide ((ls : Int) > 10) = false := decide_eq_false (by omega)
  obtain ⟨hs1, hs2⟩ := HS.out
  have HSZ : Hid (∀ i, i < len → (nodeN g i).inn.length ≤ 1000000 ∧ (nodeN g i).shape.length ≤ 1000000) := fun i hi => by have := hs2 (by omega) i hi; omega
  clear hs2
  go_wp2_with fail
  refine (twinGraph_any _ _ _ g _ M3.out.k.n (by omega) HSZ.out).mono ?_
  rintro e w4 ⟨nb, c, f, h, rfl, hO, hc1, hc2, hb⟩
  have M4 := Lib.hid (M3.out.on hb)
  have HO4 := Lib.hid hO
  have HB34 := Lib.hid hb
  have hw34 := hb.size
  have M5 := Lib.hid (M4.out.on ((Below.refl _ _).alloc (Nat.le_refl _) (.cells #[.slice (some ⟨nb, 0, none⟩) len c] 38)))
  have x0 := M5.out.x0
  have x1 := M5.out.x1
  have x2 := M5.out.x2
  have x3 := M5.out.x3
  have x4 := M5.out.x4
  have hc5 : (w4.alloc (.cells #[.slice (some ⟨nb, 0, none⟩) len c] 38)).cell? ⟨w4.heap.size, 0, none⟩ = some (.slice (some ⟨nb, 0, none⟩) len c) := by rw [World.cell?_alloc_at _ _ _ _ rfl]; rfl
  have hf5 : (w4.alloc (.cells #[.slice (some ⟨nb, 0, none⟩) len c] 38)).frozen? ⟨w4.heap.size, 0, none⟩ = false := World.frozen?_alloc_at _ _ _ _ rfl
  have hz5 : (w4.alloc (.cells #[.slice (some ⟨nb, 0, none⟩) len c] 38)).heap.size = w4.heap.size + 1 := by simp
  have HC5 := Lib.hid hc5
  have HF5 := Lib.hid hf5
  have HZ5 := Lib.hid hz5
  have HO5 := Lib.hid (HO4.out.below ((Below.refl _ _).alloc (Nat.le_refl _) (.cells #[.slice (some ⟨nb, 0, none⟩) len c] 38)))
  have HLT : Hid ((∀ i, i < g.length → w4.heap.size ≠ f i ∧ w4.heap.size ≠ h i) ∧ (Value.slice (some ⟨nb, 0, none⟩) len c).ownBlock ≠ some w4.heap.size ∧ nb < w4.heap.size) := by
    obtain ⟨l1, l2⟩ := HO4.out.lts
    refine ⟨fun i hi => by have := l1 i hi; omega, fun e => ?_, (l2 nb rfl).2⟩
    have := (l2 _ e).2; omega
  have HXV : Hid (NodeV w3 ai li ci sa ls cs x) := KX.out.below M3.out.k.bel
  have HB5 : Hid (Below w3.heap.size w3 (w4.alloc (.cells #[.slice (some ⟨nb, 0, none⟩) len c] 38))) := HB34.out.alloc hw34 _
  clear hO hb hf5 c3 x13 x23 M4
  go_wp2_with (at_builtin; go_must (refine wpList_appY (w4.alloc (.cells #[.slice (some ⟨nb, 0, none⟩) len c] 38)) w3 rfl _ _ rfl w3.heap.size (.slice (some ⟨nb, 0, none⟩) len c) g f h x ai sa li ci ls cs w4.heap.size HO5.out (by rw [LN.out]; exact HWF.out) HXV.out HB5.out (Nat.le_refl _) hw34 (by rw [HZ5.out]; omega) HLT.out.1 HLT.out.2.1 rfl (by show Value.slice (some ⟨w4.heap.size + 1, 0, none⟩) 1 1 = _; simp) (by rw [LN.out]; omega) ?_))
  intro aH lH cH w6 hNH hB6 hg6
  have HNH := Lib.hid (hNH (.slice aH lH cH))
  have y6 := hg6.cell HC5.out (by simp [Value.ownBlock]; have := HLT.out.2.2; omega)
  have z6 : w6.frozen? ⟨w4.heap.size, 0, none⟩ = false := (World.frozen?_of_block (hg6.block w4.heap.size (by rw [HZ5.out]; omega) (by simp [Value.ownBlock]; have := HLT.out.2.2; omega))).trans HF5.out
  have v6 : (w6.setCell ⟨w4.heap.size, 0, none⟩ (.slice aH lH cH)).cell? ⟨w4.heap.size, 0, none⟩ = some (.slice aH lH cH) := World.cell?_setCell_same _ _ _ y6
  have V6 := Lib.hid v6
  have hz6 : w4.heap.size < w6.heap.size := by have := hg6.size; have := HZ5.out; omega
  have HZ6 : Hid (w4.heap.size < (w6.setCell ⟨w4.heap.size, 0, none⟩ (.slice aH lH cH)).heap.size) := by show _ < _; simp [World.setCell]; exact hz6
  have M6 := Lib.hid (M3.out.on (below_setCell (HB5.out.trans hB6) w4.heap.size 0 (.slice aH lH cH) hw34))
  have c6 := M6.out.k.cell
  clear hNH hB6 hg6 v6 x0 x1 x2 x3 x4 hc5 hz5 hz6
  go_wp2_with fail
  generalize w6.setCell ⟨w4.heap.size, 0, none⟩ (.slice aH lH cH) = W6 at *
  refine (cof_any _ _ _ g _ M6.out.k.n).mono ?_
  rintro e w7 ⟨hb, ⟨hs, rfl⟩ | ⟨s, aC, lC, hs, rfl, hC⟩⟩
  · have M7 := Lib.hid (M6.out.on hb)
    have HNH7 := Lib.hid (HNH.out.on hb)
    have v7 := (hb.cell (p := ⟨w4.heap.size, 0, none⟩) HZ6.out).trans V6.out
    clear hb hs c6
    go_wp2_with fail
    refine (cof_any _ _ _ (g ++ [x]) _ HNH7.out).mono ?_
    rintro e w8 ⟨hb, ⟨_, rfl⟩ | ⟨s, aD, lD, _, rfl, _⟩⟩
    · have M8 := Lib.hid (M7.out.on hb)
      clear hb v7
      go_wp2_with fail
      refine (clives_any _).mono ?_
      rintro e w9 ⟨rfl, hb⟩
      have M9 := Lib.hid (M8.out.on hb)
      clear hb
      go_wp2
      go_ret
      exact ⟨rfl, M9.out.k.bel⟩
    · have M8 := Lib.hid (M7.out.on hb)
      clear hb v7
      go_wp2_with fail
      refine (clives_any _).mono ?_
      rintro e w9 ⟨rfl, hb⟩
      have M9 := Lib.hid (M8.out.on hb)
      clear hb
      go_wp2
      go_ret
      exact ⟨rfl, M9.out.k.bel⟩
  have M7 := Lib.hid (M6.out.on hb)
  have HNH7 := Lib.hid (HNH.out.on hb)
  have v7 := (hb.cell (p := ⟨w4.heap.size, 0, none⟩) HZ6.out).trans V6.out
  have HS7 := Lib.hid hs
  have HC7 := Lib.hid hC
  clear hb hs c6 hC
  go_wp2_with fail
  refine (cof_any _ _ _ (g ++ [x]) _ HNH7.out).mono ?_
  rintro e w8 ⟨hb, ⟨_, rfl⟩ | ⟨s', aD, lD, hs', rfl, hD⟩⟩
  · have M8 := Lib.hid (M7.out.on hb)
    clear hb v7
    go_wp2_with fail
    refine (clives_any _).mono ?_
    rintro e w9 ⟨rfl, hb⟩
    have M9 := Lib.hid (M8.out.on hb)
    clear hb
    go_wp2
    go_ret
    exact ⟨rfl, M9.out.k.bel⟩
  have M8 := Lib.hid (M7.out.on hb)
  have HC8 := Lib.hid (HC7.out.below hb)
  have hlC : lC = len := by rw [← HC7.out.length]; unfold Co.costs; rw [Co.costsK_length]; exact LN.out
  subst hlC
  have hlD : lD = lC + 1 := by rw [← hD.length]; unfold Co.costs; rw [Co.costsK_length, List.length_append, LN.out]; rfl
  subst hlD
  have HTD := Lib.hid (hD.take lC (by omega))
  have HE : Hid (∀ i, i < lC → Co.costN ((Co.costs (g ++ [x]) s').take lC) i = Co.costN (Co.costs g s) i) := fun i hi => by
    obtain ⟨t, rfl⟩ := Co.shapes_more HS7.out hs'
    rw [costN_take _ _ _ hi]
    exact Co.costs_more HS7.out t (by rw [LN.out]; exact hi)
  have hsl := slice_take57 aD (lC + 1) (lC + 1) lC (by omega) (Nat.le_refl _)
  clear hb v7 hs' hD
  go_wp2_with fail
  refine (sameCosts_any aC aD lC lC (lC + 1) _ _ _ HC8.out HTD.out HE.out).mono ?_
  rintro e w9 ⟨rfl, hb⟩
  have M9 := Lib.hid (M8.out.on hb)
  clear hb
  go_wp2_with fail
  refine (clives_any _).mono ?_
  rintro e w10 ⟨rfl, hb⟩
  have M10 := Lib.hid (M9.out.on hb)
  clear hb
  go_wp2
  go_ret
  exact ⟨rfl, M10.out.k.bel⟩
end Go.Proofs.Ytgmagldbfajedaa
