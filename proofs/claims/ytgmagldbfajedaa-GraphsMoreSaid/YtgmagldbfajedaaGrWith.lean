/-
  drydocklaw10.With: contract with_any.
-/
import Derived.Test.YtgmagldbfajedaaGrOwnN
import Derived.Test.YtgmagldbfajedaaGrUses
import Derived.Deep.RegionLaw
import Derived.Handy
namespace Go.Proofs.Ytgmagldbfajedaa
open Go.RowKit

/-- 'l = append(l, m...)' of nodes, inside a region that draws its order. -/
theorem step_appN {ops : Array Oper} {o : Oper} {a : Act} {K : Act → World → Prop} {Q : Exit → Act → World → Prop} {E : Prop} (W w0 : World) (hgd : o.guard = none) (s t : Operand)
    (ho : o.op = .call { callee := .builtin .append, args := #[s, t], argTypes := #[36, 36] }) (base : Nat) (v : Value) (g g2 : List Gr.Node) (b off m c : Nat)
    (hown : OwnN w0 base W v g) (h2 : NodesIn W w0 (some ⟨b, off, none⟩) m c g2)
    (hs : a.eval s = v) (ht : a.eval t = .slice (some ⟨b, off, none⟩) m c) (hb : base ≤ W.heap.size) (hlen : g.length ≤ 10000000) (hlen2 : m ≤ 10000000)
    (h : ∀ a' l' c' w', OwnN w0 base w' (.slice a' l' c') (g ++ g2) → Below base W w' → W.grownBy w' v.ownBlock → K (a.put o.dst (.slice a' l' c')) w') :
    if Region.wanted o (yielded ops a.tmps) = true then Oper.wp Try.prog o a W K Q else E := by
  obtain ⟨i0, hi, hz0, hz1, hz2⟩ := info_parts Try.info46
  have hw : Region.wanted o (yielded ops a.tmps) = true := by simp [Region.wanted, hgd]
  rw [if_pos hw]
  obtain ⟨vs, hrow, hvs⟩ := hown
  obtain ⟨news, hn1, hn2, hn3, hn4⟩ := h2.cells
  have hg2 := h2.length
  refine wp_append_own W s t 36 ho base 46 i0 _ 5 72 Try.underlying36 hi hz0 hz1 hz2 rfl (by decide) v g.length vs hs hrow ⟨b, off, none⟩ m c news ht hn1 (fun j u hu => by rw [Addr.add_lit]; exact hn2 j u hu) hn3 ?_ ?_ hb ?_
  · unfold maxLen; omega
  · omega
  · intro v' w' hown' hgrow _
    have hvl : vs.length = g.length * 5 := hrow.1
    have hO : OwnN w0 base w' v' (g ++ g2) := ⟨vs ++ news, by rw [List.length_append, hg2]; exact hown', fun i hi => by
      by_cases hlt : i < g.length
      · rw [nodeN_append_left _ _ _ hlt]
        obtain ⟨ai, li, ci, sa, ls, cs, e0, e1, e2, e3, e4, hv⟩ := hvs i hlt
        refine ⟨ai, li, ci, sa, ls, cs, ?_, ?_, ?_, ?_, ?_, hv⟩ <;> (rw [List.getElem?_append_left (by omega)]; assumption)
      · obtain ⟨k, rfl⟩ : ∃ k, i = g.length + k := ⟨i - g.length, by omega⟩
        rw [nodeN_append_right]
        obtain ⟨ai, li, ci, sa, ls, cs, e0, e1, e2, e3, e4, hv⟩ := hn4 k (by rw [List.length_append] at hi; omega)
        refine ⟨ai, li, ci, sa, ls, cs, ?_, ?_, ?_, ?_, ?_, hv⟩
        · rw [List.getElem?_append_right (by omega), show (g.length + k) * 5 - vs.length = k * 5 by omega]; exact e0
        · rw [List.getElem?_append_right (by omega), show (g.length + k) * 5 + 1 - vs.length = k * 5 + 1 by omega]; exact e1
        · rw [List.getElem?_append_right (by omega), show (g.length + k) * 5 + 2 - vs.length = k * 5 + 2 by omega]; exact e2
        · rw [List.getElem?_append_right (by omega), show (g.length + k) * 5 + 3 - vs.length = k * 5 + 3 by omega]; exact e3
        · rw [List.getElem?_append_right (by omega), show (g.length + k) * 5 + 4 - vs.length = k * 5 + 4 by omega]; exact e4⟩
    have hB : Below base W w' := (Below.refl base W).grown hgrow hb fun k hk => (World.ownsRow.lt hrow k hk).1
    obtain ⟨a', l', c', rfl, _⟩ := hO.nodes (by rw [List.length_append, hg2]; omega)
    exact h a' l' c' w' hO hB hgrow

theorem step_appN1 {ops : Array Oper} {o : Oper} {a : Act} {K : Act → World → Prop} {Q : Exit → Act → World → Prop} {E : Prop} (w3 W w0 : World) (hgd : o.guard = none) (s t : Operand)
    (ho : o.op = .call { callee := .builtin .append, args := #[s, t], argTypes := #[36, 36] }) (v : Value) (g g2 : List Gr.Node) (b off m c : Nat) (hW : Below w3.heap.size w3 W)
    (hown : OwnN w0 w3.heap.size W v g) (h2 : NodesIn W w0 (some ⟨b, off, none⟩) m c g2)
    (hs : a.eval s = v) (ht : a.eval t = .slice (some ⟨b, off, none⟩) m c) (hlen : g.length ≤ 10000000) (hlen2 : m ≤ 10000000)
    (h : ∀ a' l' c' w', OwnN w0 w3.heap.size w' (.slice a' l' c') (g ++ g2) → Below w3.heap.size w3 w' → W.grownBy w' v.ownBlock → K (a.put o.dst (.slice a' l' c')) w') :
    if Region.wanted o (yielded ops a.tmps) = true then Oper.wp Try.prog o a W K Q else E :=
  step_appN W w0 hgd s t ho w3.heap.size v g g2 b off m c hown h2 hs ht hW.size hlen hlen2 fun a' l' c' w' h1 hb hg => h a' l' c' w' h1 (hW.trans hb) hg

theorem NodesIn.grown {w w' w0 : World} {row : Option Nat} {b off len cap : Nat} {g : List Gr.Node} (h : NodesIn w w0 (some ⟨b, off, none⟩) len cap g) (hg : w.grownBy w' row) (hn : some b ≠ row) : NodesIn w' w0 (some ⟨b, off, none⟩) len cap g :=
  ⟨h.le, h.cap_le, h.len_le, h.length, fun h0 => by
    obtain ⟨b', off', e, hlt, hc⟩ := h.at_ h0
    simp only [Option.some.injEq, Addr.mk.injEq] at e
    obtain ⟨rfl, rfl, _⟩ := e
    refine ⟨b, off, rfl, Nat.lt_of_lt_of_le hlt hg.size, fun i hi => ?_⟩
    obtain ⟨ai, li, ci, sa, ls, cs, h0, h1, h2, h3, h4, hv⟩ := hc i hi
    exact ⟨ai, li, ci, sa, ls, cs, hg.cell h0 hn, hg.cell h1 hn, hg.cell h2 hn, hg.cell h3 hn, hg.cell h4 hn, hv⟩⟩

/-- One node in a block of its own. -/
theorem NodesIn.one {w w0 : World} {ai sa : Option Addr} {li ci ls cs : Nat} {x : Gr.Node} (hv : NodeV w0 ai li ci sa ls cs x) :
    NodesIn (w.alloc (.cells #[.int .u8 x.kind, .slice ai li ci, .slice sa ls cs, .int .i64 x.n, .int .i64 x.pad] 46)) w0 (some ⟨w.heap.size, 0, none⟩) 1 1 [x] := by
  refine ⟨Nat.le_refl _, by omega, by omega, rfl, fun _ => ⟨w.heap.size, 0, rfl, by simp, fun i hi => ?_⟩⟩
  obtain rfl : i = 0 := by omega
  refine ⟨ai, li, ci, sa, ls, cs, ?_, ?_, ?_, ?_, ?_, hv⟩ <;> (rw [World.cell?_alloc_at _ _ _ _ rfl]; rfl)

theorem OwnN.store {w0 : World} {base : Nat} {w : World} {v : Value} {g : List Gr.Node} (h : OwnN w0 base w v g) (c o : Nat) (u : Value) (hc : c < base) : OwnN w0 base (w.setCell ⟨c, o, none⟩ u) v g := by
  obtain ⟨vs, ⟨h1, h2⟩, h4⟩ := h
  refine ⟨vs, ⟨h1, ?_⟩, h4⟩
  rcases h2 with h2 | ⟨g', cap, cur, hv, hg', hh, r⟩
  · exact .inl h2
  · exact .inr ⟨g', cap, cur, hv, hg', by rw [Below.heap_setCell _ _ _ _ (by intro e; simp only at e; omega)]; exact hh, r⟩

set_option maxHeartbeats 4000000 in
set_option maxRecDepth 100000 in
theorem with_any (a : Option Addr) (len cap : Nat) (g : List Gr.Node) (ai sa : Option Addr) (li ci ls cs : Nat) (kd n pad : Int) (inn shp : List Int) (w : World) (HN : Nodes w a len cap g) (HV : NodeV w ai li ci sa ls cs ⟨kd, inn, shp, n, pad⟩) (h1 : 1 ≤ len) (h2 : len ≤ 1000) :
    Calls Try.prog 37 #[.agg #[.slice a len cap], .agg #[.int .u8 kd, .slice ai li ci, .slice sa ls cs, .int .i64 n, .int .i64 pad]] w fun e w' =>
      ∃ a' l' c', e = .returned (.agg #[.slice a' l' c']) ∧ Nodes w' a' l' c' (g ++ [⟨kd, inn, shp, n, pad⟩]) ∧ Below w.heap.size w w' := by
  have KN := Lib.hid HN
  have KV := Lib.hid HV
  have LN := Lib.hid HN.length
  have hle := HN.le
  have hcl := HN.cap_le
  obtain ⟨b, off, rfl, hbl, _⟩ := HN.at_ (by omega)
  clear HN HV
  go_enter Try.func37, Try.ntmps37
  go_wp2_with fail
  have hz3 : (((w.alloc (.cells #[.slice (some ⟨b, off, none⟩) len cap] 38)).alloc (.cells #[.int .u8 kd, .slice ai li ci, .slice sa ls cs, .int .i64 n, .int .i64 pad] 46)).alloc (.cells #[.slice none 0 0] 38)).heap.size = w.heap.size + 3 := by simp
  have HB3 : Hid (Below w.heap.size w (((w.alloc (.cells #[.slice (some ⟨b, off, none⟩) len cap] 38)).alloc (.cells #[.int .u8 kd, .slice ai li ci, .slice sa ls cs, .int .i64 n, .int .i64 pad] 46)).alloc (.cells #[.slice none 0 0] 38))) := (((Below.refl _ _).alloc (Nat.le_refl _) _).alloc (by simp) _).alloc (by simp; omega) _
  have cA : (((w.alloc (.cells #[.slice (some ⟨b, off, none⟩) len cap] 38)).alloc (.cells #[.int .u8 kd, .slice ai li ci, .slice sa ls cs, .int .i64 n, .int .i64 pad] 46)).alloc (.cells #[.slice none 0 0] 38)).cell? ⟨w.heap.size, 0, none⟩ = some (.slice (some ⟨b, off, none⟩) len cap) := Lib.cell?_alloc_some _ (Lib.cell?_alloc_some _ (by rw [World.cell?_alloc_at _ _ _ _ rfl]; rfl))
  have x0 : (((w.alloc (.cells #[.slice (some ⟨b, off, none⟩) len cap] 38)).alloc (.cells #[.int .u8 kd, .slice ai li ci, .slice sa ls cs, .int .i64 n, .int .i64 pad] 46)).alloc (.cells #[.slice none 0 0] 38)).cell? ⟨w.heap.size + 1, 0, none⟩ = some (.int .u8 kd) := Lib.cell?_alloc_some _ (by rw [World.cell?_alloc_at _ _ _ _ (by simp)]; rfl)
  have x1 : (((w.alloc (.cells #[.slice (some ⟨b, off, none⟩) len cap] 38)).alloc (.cells #[.int .u8 kd, .slice ai li ci, .slice sa ls cs, .int .i64 n, .int .i64 pad] 46)).alloc (.cells #[.slice none 0 0] 38)).cell? ⟨w.heap.size + 1, 1, none⟩ = some (.slice ai li ci) := Lib.cell?_alloc_some _ (by rw [World.cell?_alloc_at _ _ _ _ (by simp)]; rfl)
  have x2 : (((w.alloc (.cells #[.slice (some ⟨b, off, none⟩) len cap] 38)).alloc (.cells #[.int .u8 kd, .slice ai li ci, .slice sa ls cs, .int .i64 n, .int .i64 pad] 46)).alloc (.cells #[.slice none 0 0] 38)).cell? ⟨w.heap.size + 1, 2, none⟩ = some (.slice sa ls cs) := Lib.cell?_alloc_some _ (by rw [World.cell?_alloc_at _ _ _ _ (by simp)]; rfl)
  have x3 : (((w.alloc (.cells #[.slice (some ⟨b, off, none⟩) len cap] 38)).alloc (.cells #[.int .u8 kd, .slice ai li ci, .slice sa ls cs, .int .i64 n, .int .i64 pad] 46)).alloc (.cells #[.slice none 0 0] 38)).cell? ⟨w.heap.size + 1, 3, none⟩ = some (.int .i64 n) := Lib.cell?_alloc_some _ (by rw [World.cell?_alloc_at _ _ _ _ (by simp)]; rfl)
  have x4 : (((w.alloc (.cells #[.slice (some ⟨b, off, none⟩) len cap] 38)).alloc (.cells #[.int .u8 kd, .slice ai li ci, .slice sa ls cs, .int .i64 n, .int .i64 pad] 46)).alloc (.cells #[.slice none 0 0] 38)).cell? ⟨w.heap.size + 1, 4, none⟩ = some (.int .i64 pad) := Lib.cell?_alloc_some _ (by rw [World.cell?_alloc_at _ _ _ _ (by simp)]; rfl)
  have cC : (((w.alloc (.cells #[.slice (some ⟨b, off, none⟩) len cap] 38)).alloc (.cells #[.int .u8 kd, .slice ai li ci, .slice sa ls cs, .int .i64 n, .int .i64 pad] 46)).alloc (.cells #[.slice none 0 0] 38)).cell? ⟨w.heap.size + 2, 0, none⟩ = some (.slice none 0 0) := by rw [World.cell?_alloc_at _ _ _ _ (by simp)]; rfl
  have fC : (((w.alloc (.cells #[.slice (some ⟨b, off, none⟩) len cap] 38)).alloc (.cells #[.int .u8 kd, .slice ai li ci, .slice sa ls cs, .int .i64 n, .int .i64 pad] 46)).alloc (.cells #[.slice none 0 0] 38)).frozen? ⟨w.heap.size + 2, 0, none⟩ = false := World.frozen?_alloc_at _ _ _ _ (by simp)
  have HNs : Hid (∀ W, Below w.heap.size w W → NodesIn W w (some ⟨b, off, none⟩) len cap g) := fun W hW => KN.out.below hW (Below.refl _ _)
  generalize (((w.alloc (.cells #[.slice (some ⟨b, off, none⟩) len cap] 38)).alloc (.cells #[.int .u8 kd, .slice ai li ci, .slice sa ls cs, .int .i64 n, .int .i64 pad] 46)).alloc (.cells #[.slice none 0 0] 38)) = w3 at *
  have HX : Hid (∀ W, Below w3.heap.size w3 W → NodesIn W w (some ⟨b, off, none⟩) len cap g ∧ W.cell? ⟨w.heap.size, 0, none⟩ = some (.slice (some ⟨b, off, none⟩) len cap) ∧ W.cell? ⟨w.heap.size + 1, 0, none⟩ = some (.int .u8 kd) ∧ W.cell? ⟨w.heap.size + 1, 1, none⟩ = some (.slice ai li ci) ∧
      W.cell? ⟨w.heap.size + 1, 2, none⟩ = some (.slice sa ls cs) ∧ W.cell? ⟨w.heap.size + 1, 3, none⟩ = some (.int .i64 n) ∧ W.cell? ⟨w.heap.size + 1, 4, none⟩ = some (.int .i64 pad) ∧
      W.cell? ⟨w.heap.size + 2, 0, none⟩ = some (.slice none 0 0) ∧ W.frozen? ⟨w.heap.size + 2, 0, none⟩ = false) := fun W hW =>
    ⟨HNs.out W (HB3.out.trans (hW.mono (by omega))), (hW.cell (p := ⟨w.heap.size, 0, none⟩) (show w.heap.size < w3.heap.size by omega)).trans cA, (hW.cell (p := ⟨w.heap.size + 1, 0, none⟩) (show w.heap.size + 1 < w3.heap.size by omega)).trans x0,
      (hW.cell (p := ⟨w.heap.size + 1, 1, none⟩) (show w.heap.size + 1 < w3.heap.size by omega)).trans x1, (hW.cell (p := ⟨w.heap.size + 1, 2, none⟩) (show w.heap.size + 1 < w3.heap.size by omega)).trans x2,
      (hW.cell (p := ⟨w.heap.size + 1, 3, none⟩) (show w.heap.size + 1 < w3.heap.size by omega)).trans x3, (hW.cell (p := ⟨w.heap.size + 1, 4, none⟩) (show w.heap.size + 1 < w3.heap.size by omega)).trans x4,
      (hW.cell (p := ⟨w.heap.size + 2, 0, none⟩) (show w.heap.size + 2 < w3.heap.size by omega)).trans cC, (hW.frozen (p := ⟨w.heap.size + 2, 0, none⟩) (show w.heap.size + 2 < w3.heap.size by omega)).trans fC⟩
  have hBd : Below w3.heap.size w3 w3.drew := (Below.refl _ _).drew
  have hBa : ∀ o, Below w3.heap.size w3 (w3.drew.alloc o) := fun o => hBd.alloc (Nat.le_refl _) o
  have HBd := Lib.hid hBd
  have HBa := Lib.hid hBa
  have HK1 : Hid (∀ W : World, NodesIn (W.alloc (.cells #[.int .u8 kd, .slice ai li ci, .slice sa ls cs, .int .i64 n, .int .i64 pad] 46)) w (some ⟨W.heap.size, 0, none⟩) 1 1 [⟨kd, inn, shp, n, pad⟩]) := fun W => NodesIn.one KV.out
  obtain ⟨_, z0, z1, z2, z3, z4, z5, zC, zF⟩ := HX.out w3.drew hBd
  have zA : ∀ o, (w3.alloc o).cell? ⟨w.heap.size, 0, none⟩ = some (.slice (some ⟨b, off, none⟩) len cap) := fun o => (HX.out _ ((Below.refl _ _).alloc (Nat.le_refl _) o)).2.1
  have HZ3 := Lib.hid hz3
  clear hBd hBa cA x0 x1 x2 x3 x4 cC fC hz3
  go_region_law (first
    | (refine step_appN1 w3 _ w (by rfl) _ _ (by rfl) (.slice none 0 0) [] g b off len cap (by first | exact HBd.out | exact HBa.out _) (OwnN.nil _ _ _) (by first | exact (HX.out _ HBd.out).1 | exact (HX.out _ (HBa.out _)).1) (by rfl) (by rfl) (by simp) (by omega) ?_; intro a7 l7 c7 w7 hO7 hb7 hg7; obtain ⟨_, y0, y1, y2, y3, y4, y5, yC, yF⟩ := HX.out w7 hb7)
    | (refine step_appN1 w3 _ w (by rfl) _ _ (by rfl) (.slice a7 l7 c7) ([] ++ g) [⟨kd, inn, shp, n, pad⟩] w7.heap.size 0 1 1 (by exact hb7.alloc hb7.size _) (by exact hO7.below ((Below.refl _ _).alloc (Nat.le_refl _) _)) (by exact HK1.out w7) (by rfl) (by rfl) (by simp [LN.out]; omega) (by omega) ?_; intro a8 l8 c8 w8 hO8 hb8 hg8; obtain ⟨_, v0, v1, v2, v3, v4, v5, vC, vF⟩ := HX.out w8 hb8)
    | (refine step_appN1 w3 _ w (by rfl) _ _ (by rfl) (.slice a7 l7 c7) ([] ++ g) [⟨kd, inn, shp, n, pad⟩] w3.heap.size 0 1 1 (by exact hb7) (by exact hO7) (by exact (HK1.out w3.drew).grown hg7 (by simp [Value.ownBlock])) (by rfl) (by rfl) (by simp [LN.out]; omega) (by omega) ?_; intro a8 l8 c8 w8 hO8 hb8 hg8; obtain ⟨_, v0, v1, v2, v3, v4, v5, vC, vF⟩ := HX.out w8 hb8))
  all_goals go_wp2
  all_goals (have vS : (w8.setCell ⟨w.heap.size + 1 + 1, 0, none⟩ (.slice a8 l8 c8)).cell? ⟨w.heap.size + 1 + 1, 0, none⟩ = some (.slice a8 l8 c8) := World.cell?_setCell_same _ _ _ vC)
  all_goals (refine bodyPost_ret (by simp [results, Try.results37, go_sem, vS]; try rfl) rfl ?_)
  all_goals
    have hO9 := hO8.store (w.heap.size + 2) 0 (.slice a8 l8 c8) (by have := HZ3.out; omega)
    obtain ⟨a9, l9, c9, e9, hN9⟩ := hO9.nodes (by simp [LN.out]; omega)
    cases e9
    have hB9 : Below w.heap.size w (w8.setCell ⟨w.heap.size + 2, 0, none⟩ (.slice a8 l8 c8)) := below_setCell (HB3.out.trans (hb8.mono (by have := HZ3.out; omega))) _ _ _ (by omega)
    exact ⟨_, _, _, rfl, by simpa using NodesIn.below hN9 (Below.refl _ _) hB9, hB9⟩
end Go.Proofs.Ytgmagldbfajedaa
