/-
  One text out of: GrOwnN, GrWith, GrKnown, GrAlive, GrKindsLawP, GrMoreP.
-/
import Derived.Deep.RegionLaw
import Derived.Handy
import Derived.Test.YtgmagldbfajedaaBf
import Derived.Test.YtgmagldbfajedaaBg
/- GrOwnN: A slice of nodes that the call itself appends to (OwnN).
-/
namespace Go.Proofs.Ytgmagldbfajedaa
open Go.RowKit

theorem Try.info46 : (Try.prog.info? 46).map (fun i => (i.zero, i.size, i.bytes)) = some (some (.agg #[.int .u8 0, .slice none 0 0, .slice none 0 0, .int .i64 0, .int .i64 0]), 5, 72) := by kernel_rfl

/-- Five values are a node's. -/
def NodeVs (w0 : World) (vs : List Value) (o : Nat) (x : Gr.Node) : Prop :=
  ∃ ai li ci sa ls cs, vs[o]? = some (.int .u8 x.kind) ∧ vs[o + 1]? = some (.slice ai li ci) ∧ vs[o + 2]? = some (.slice sa ls cs) ∧ vs[o + 3]? = some (.int .i64 x.n) ∧ vs[o + 4]? = some (.int .i64 x.pad) ∧ NodeV w0 ai li ci sa ls cs x

/-- A slice of nodes that the call itself made: it may be appended to. -/
def OwnN (w0 : World) (base : Nat) (w : World) (v : Value) (g : List Gr.Node) : Prop :=
  ∃ vs : List Value, w.ownsRow base 46 5 v g.length vs ∧ ∀ i, i < g.length → NodeVs w0 vs (i * 5) (nodeN g i)

theorem OwnN.nil (w0 : World) (base : Nat) (w : World) : OwnN w0 base w (.slice none 0 0) [] := ⟨[], World.ownsRow_nil w base 46 5, fun _ hi => absurd hi (Nat.not_lt_zero _)⟩

theorem OwnN.below {w0 : World} {base : Nat} {w w' : World} {v : Value} {g : List Gr.Node} (h : OwnN w0 base w v g) (hb : Below w.heap.size w w') : OwnN w0 base w' v g := by
  obtain ⟨vs, ⟨h1, h2⟩, h4⟩ := h
  refine ⟨vs, ⟨h1, ?_⟩, h4⟩
  rcases h2 with h2 | ⟨g, cap, cur, hv, hg, hh, r⟩
  · exact .inl h2
  · exact .inr ⟨g, cap, cur, hv, hg, by rw [hb.block g (Array.getElem?_eq_some_iff.1 hh).1]; exact hh, r⟩

/-- What an owned slice of nodes reads as. -/
theorem OwnN.nodes {w0 : World} {base : Nat} {w : World} {v : Value} {g : List Gr.Node} (h : OwnN w0 base w v g) (hlen : g.length ≤ 17592186044416) : ∃ a len cap, v = .slice a len cap ∧ NodesIn w w0 a len cap g := by
  obtain ⟨vs, ⟨h1, h2⟩, h4⟩ := h
  rcases h2 with ⟨rfl, h0⟩ | ⟨b, cap, cur, rfl, hg, hh, hn, hm, hc, ht⟩
  · have : g = [] := List.eq_nil_of_length_eq_zero h0
    subst this
    exact ⟨none, 0, 0, rfl, NodesIn.nil⟩
  · have hlt := (Array.getElem?_eq_some_iff.1 hh).1
    have hcell : ∀ i u, vs[i]? = some u → w.cell? ⟨b, 0 + i, none⟩ = some u := fun i u hu => by
      rw [Nat.zero_add, show w.cell? ⟨b, i, none⟩ = cur[i]? by simp [World.cell?, hh]]
      rw [← ht, List.getElem?_take] at hu
      split at hu
      · simpa using hu
      · cases hu
    refine ⟨_, _, _, rfl, ⟨hn, by unfold maxLen at hm; omega, hlen, rfl, fun _ => ⟨b, 0, rfl, hlt, fun i hi => ?_⟩⟩⟩
    obtain ⟨ai, li, ci, sa, ls, cs, e0, e1, e2, e3, e4, hv⟩ := h4 i hi
    exact ⟨ai, li, ci, sa, ls, cs, hcell _ _ e0, hcell _ _ e1, hcell _ _ e2, hcell _ _ e3, hcell _ _ e4, hv⟩

/-- The cells of some nodes, as a list. -/
theorem NodesIn.cells {w w0 : World} {b off len cap : Nat} {g : List Gr.Node} (h : NodesIn w w0 (some ⟨b, off, none⟩) len cap g) :
    ∃ vs : List Value, vs.length = len * 5 ∧ (∀ j u, vs[j]? = some u → w.cell? ⟨b, off + j, none⟩ = some u) ∧ (∀ u ∈ vs, u.oneCell' = true) ∧ ∀ i, i < len → NodeVs w0 vs (i * 5) (nodeN g i) := by
  by_cases h0 : 0 < len
  · obtain ⟨b', off', e, hlt, hc⟩ := h.at_ h0
    simp only [Option.some.injEq, Addr.mk.injEq] at e
    obtain ⟨rfl, rfl, _⟩ := e
    have key : ∀ j, j < len * 5 → ∃ u, w.cell? ⟨b, off + j, none⟩ = some u ∧ u.oneCell' = true := fun j hj => by
      obtain ⟨ai, li, ci, sa, ls, cs, h0, h1, h2, h3, h4, hv⟩ := hc (j / 5) (by omega)
      have hr : j % 5 = 0 ∨ j % 5 = 1 ∨ j % 5 = 2 ∨ j % 5 = 3 ∨ j % 5 = 4 := by omega
      rcases hr with r | r | r | r | r
      · rw [show off + j = off + j / 5 * 5 by omega]; exact ⟨_, h0, rfl⟩
      · rw [show off + j = off + j / 5 * 5 + 1 by omega]; exact ⟨_, h1, rfl⟩
      · rw [show off + j = off + j / 5 * 5 + 2 by omega]; exact ⟨_, h2, rfl⟩
      · rw [show off + j = off + j / 5 * 5 + 3 by omega]; exact ⟨_, h3, rfl⟩
      · rw [show off + j = off + j / 5 * 5 + 4 by omega]; exact ⟨_, h4, rfl⟩
    have hget : ∀ j, j < len * 5 → ((List.range (len * 5)).map fun j => (w.cell? ⟨b, off + j, none⟩).getD (.int .i64 0))[j]? = w.cell? ⟨b, off + j, none⟩ := fun j hj => by
      obtain ⟨u, hu, _⟩ := key j hj
      rw [List.getElem?_map, List.getElem?_range hj, hu]
      simp [hu]
    refine ⟨(List.range (len * 5)).map fun j => (w.cell? ⟨b, off + j, none⟩).getD (.int .i64 0), by simp, fun j u hu => ?_, fun u hu => ?_, fun i hi => ?_⟩
    · have hj : j < len * 5 := by have := (List.getElem?_eq_some_iff.1 hu).1; simpa using this
      rw [← hget j hj]; exact hu
    · obtain ⟨j, hj, rfl⟩ := List.mem_map.1 hu
      obtain ⟨u, hu, h1⟩ := key j (List.mem_range.1 hj)
      rw [hu]; exact h1
    · obtain ⟨ai, li, ci, sa, ls, cs, h0, h1, h2, h3, h4, hv⟩ := hc i hi
      refine ⟨ai, li, ci, sa, ls, cs, ?_, ?_, ?_, ?_, ?_, hv⟩
      · rw [hget _ (by omega)]; exact h0
      · rw [hget _ (by omega)]; exact h1
      · rw [hget _ (by omega)]; exact h2
      · rw [hget _ (by omega)]; exact h3
      · rw [hget _ (by omega)]; exact h4
  · have hz : len = 0 := by omega
    subst hz
    exact ⟨[], rfl, fun j u hu => by simp at hu, fun u hu => (by cases hu), fun i hi => absurd hi (Nat.not_lt_zero _)⟩

theorem nodeN_append_left (g g2 : List Gr.Node) (i : Nat) (h : i < g.length) : nodeN (g ++ g2) i = nodeN g i := by
  unfold nodeN; rw [List.getD_eq_getElem?_getD, List.getD_eq_getElem?_getD, List.getElem?_append_left h]
theorem nodeN_append_right (g g2 : List Gr.Node) (i : Nat) : nodeN (g ++ g2) (g.length + i) = nodeN g2 i := by
  unfold nodeN; rw [List.getD_eq_getElem?_getD, List.getD_eq_getElem?_getD, List.getElem?_append_right (by omega)]; simp

/-- 'l = append(l, m...)' of nodes, on a slice of the call's own. -/
theorem wpList_appN {ops : Array Oper} {rest : List Oper} {o : Oper} {a : Act} {Q : Exit → Act → World → Prop} (w w0 : World) (hgd : o.guard = none) (s t : Operand)
    (ho : o.op = .call { callee := .builtin .append, args := #[s, t], argTypes := #[36, 36] }) (base : Nat) (v : Value) (g g2 : List Gr.Node) (b off m c : Nat)
    (hown : OwnN w0 base w v g) (h2 : NodesIn w w0 (some ⟨b, off, none⟩) m c g2)
    (hs : a.eval s = v) (ht : a.eval t = .slice (some ⟨b, off, none⟩) m c) (hb : base ≤ w.heap.size) (hlen : g.length ≤ 10000000) (hlen2 : m ≤ 10000000)
    (h : ∀ v' w', OwnN w0 base w' v' (g ++ g2) → Below base w w' → w.grownBy w' v.ownBlock → wpList Try.prog ops Q rest (a.put o.dst v') w') :
    wpList Try.prog ops Q (o :: rest) a w := by
  obtain ⟨i0, hi, hz0, hz1, hz2⟩ := info_parts Try.info46
  obtain ⟨vs, hrow, hvs⟩ := hown
  obtain ⟨news, hn1, hn2, hn3, hn4⟩ := h2.cells
  have hg2 := h2.length
  refine wpList_append_own_at _ hgd s t 36 ho base 46 i0 _ 5 72 Try.underlying36 hi hz0 hz1 hz2 rfl (by decide) v g.length vs hs hrow ⟨b, off, none⟩ m c news ht hn1 (fun j u hu => by rw [Addr.add_lit]; exact hn2 j u hu) hn3 ?_ ?_ hb ?_
  · unfold maxLen; omega
  · omega
  · intro v' w' hown' hgrow _ _
    refine h v' w' ⟨vs ++ news, by rw [List.length_append, hg2]; exact hown', fun i hi => ?_⟩ ?_ hgrow
    · have hvl : vs.length = g.length * 5 := hrow.1
      by_cases hlt : i < g.length
      · rw [nodeN_append_left _ _ _ hlt]
        obtain ⟨ai, li, ci, sa, ls, cs, e0, e1, e2, e3, e4, hv⟩ := hvs i hlt
        refine ⟨ai, li, ci, sa, ls, cs, ?_, ?_, ?_, ?_, ?_, hv⟩ <;> (rw [List.getElem?_append_left (by omega)]; assumption)
      · obtain ⟨k, rfl⟩ : ∃ k, i = g.length + k := ⟨i - g.length, by omega⟩
        rw [nodeN_append_right]
        obtain ⟨ai, li, ci, sa, ls, cs, e0, e1, e2, e3, e4, hv⟩ := hn4 k (by rw [List.length_append] at hi; omega)
        refine ⟨ai, li, ci, sa, ls, cs, ?_, ?_, ?_, ?_, ?_, hv⟩
        · rw [List.getElem?_append_right (by omega), show (g.length + k) * 5 - vs.length = k * 5 by omega]; exact e0
        · rw [List.getElem?_append_right (by omega), show (g.length + k) * 5 + 1 - vs.length = k * 5 + 1 by omega]; exact e1
        · rw [List.getElem?_append_right (by omega), show (g.length + k) * 5 + 2 - vs.length = k * 5 + 2 by omega]; exact e2
        · rw [List.getElem?_append_right (by omega), show (g.length + k) * 5 + 3 - vs.length = k * 5 + 3 by omega]; exact e3
        · rw [List.getElem?_append_right (by omega), show (g.length + k) * 5 + 4 - vs.length = k * 5 + 4 by omega]; exact e4
    · exact (Below.refl base w).grown hgrow hb fun k hk => (World.ownsRow.lt hrow k hk).1

end Go.Proofs.Ytgmagldbfajedaa

/- GrWith: drydocklaw10.With: contract with_any.
-/
namespace Go.Proofs.Ytgmagldbfajedaa
open Go.RowKit

/-- 'l = append(l, m...)' of nodes, inside a region that draws its order. -/
theorem step_appN {ops : Array Oper} {o : Oper} {a : Act} {K : Act → World → Prop} {Q : Exit → Act → World → Prop} {E : Prop} (W w0 : World) (hgd : o.guard = none) (s t : Operand)
    (ho : o.op = .call { callee := .builtin .append, args := #[s, t], argTypes := #[36, 36] }) (base : Nat) (v : Value) (g g2 : List Gr.Node) (b off m c : Nat)
    (hown : OwnN w0 base W v g) (h2 : NodesIn W w0 (some ⟨b, off, none⟩) m c g2)
    (hs : a.eval s = v) (ht : a.eval t = .slice (some ⟨b, off, none⟩) m c) (hb : base ≤ W.heap.size) (hlen : g.length ≤ 10000000) (hlen2 : m ≤ 10000000)
    (h : ∀ a' l' c' w', OwnN w0 base w' (.slice a' l' c') (g ++ g2) → Below base W w' → W.grownBy w' v.ownBlock → K (a.put o.dst (.slice a' l' c')) w') :
    if Region.wanted o (yielded ops a.tmps) = true then Oper.wp Try.prog o a W K Q else E := by
  obtain ⟨i0, hi, hz0, hz1, hz2⟩ := info_parts Try.info46
  have hw : Region.wanted o (yielded ops a.tmps) = true := by simp [Region.wanted, hgd]
  rw [if_pos hw]
  obtain ⟨vs, hrow, hvs⟩ := hown
  obtain ⟨news, hn1, hn2, hn3, hn4⟩ := h2.cells
  have hg2 := h2.length
  refine wp_append_own W s t 36 ho base 46 i0 _ 5 72 Try.underlying36 hi hz0 hz1 hz2 rfl (by decide) v g.length vs hs hrow ⟨b, off, none⟩ m c news ht hn1 (fun j u hu => by rw [Addr.add_lit]; exact hn2 j u hu) hn3 ?_ ?_ hb ?_
  · unfold maxLen; omega
  · omega
  · intro v' w' hown' hgrow _
    have hvl : vs.length = g.length * 5 := hrow.1
    have hO : OwnN w0 base w' v' (g ++ g2) := ⟨vs ++ news, by rw [List.length_append, hg2]; exact hown', fun i hi => by
      by_cases hlt : i < g.length
      · rw [nodeN_append_left _ _ _ hlt]
        obtain ⟨ai, li, ci, sa, ls, cs, e0, e1, e2, e3, e4, hv⟩ := hvs i hlt
        refine ⟨ai, li, ci, sa, ls, cs, ?_, ?_, ?_, ?_, ?_, hv⟩ <;> (rw [List.getElem?_append_left (by omega)]; assumption)
      · obtain ⟨k, rfl⟩ : ∃ k, i = g.length + k := ⟨i - g.length, by omega⟩
        rw [nodeN_append_right]
        obtain ⟨ai, li, ci, sa, ls, cs, e0, e1, e2, e3, e4, hv⟩ := hn4 k (by rw [List.length_append] at hi; omega)
        refine ⟨ai, li, ci, sa, ls, cs, ?_, ?_, ?_, ?_, ?_, hv⟩
        · rw [List.getElem?_append_right (by omega), show (g.length + k) * 5 - vs.length = k * 5 by omega]; exact e0
        · rw [List.getElem?_append_right (by omega), show (g.length + k) * 5 + 1 - vs.length = k * 5 + 1 by omega]; exact e1
        · rw [List.getElem?_append_right (by omega), show (g.length + k) * 5 + 2 - vs.length = k * 5 + 2 by omega]; exact e2
        · rw [List.getElem?_append_right (by omega), show (g.length + k) * 5 + 3 - vs.length = k * 5 + 3 by omega]; exact e3
        · rw [List.getElem?_append_right (by omega), show (g.length + k) * 5 + 4 - vs.length = k * 5 + 4 by omega]; exact e4⟩
    have hB : Below base W w' := (Below.refl base W).grown hgrow hb fun k hk => (World.ownsRow.lt hrow k hk).1
    obtain ⟨a', l', c', rfl, _⟩ := hO.nodes (by rw [List.length_append, hg2]; omega)
    exact h a' l' c' w' hO hB hgrow

theorem step_appN1 {ops : Array Oper} {o : Oper} {a : Act} {K : Act → World → Prop} {Q : Exit → Act → World → Prop} {E : Prop} (w3 W w0 : World) (hgd : o.guard = none) (s t : Operand)
    (ho : o.op = .call { callee := .builtin .append, args := #[s, t], argTypes := #[36, 36] }) (v : Value) (g g2 : List Gr.Node) (b off m c : Nat) (hW : Below w3.heap.size w3 W)
    (hown : OwnN w0 w3.heap.size W v g) (h2 : NodesIn W w0 (some ⟨b, off, none⟩) m c g2)
    (hs : a.eval s = v) (ht : a.eval t = .slice (some ⟨b, off, none⟩) m c) (hlen : g.length ≤ 10000000) (hlen2 : m ≤ 10000000)
    (h : ∀ a' l' c' w', OwnN w0 w3.heap.size w' (.slice a' l' c') (g ++ g2) → Below w3.heap.size w3 w' → W.grownBy w' v.ownBlock → K (a.put o.dst (.slice a' l' c')) w') :
    if Region.wanted o (yielded ops a.tmps) = true then Oper.wp Try.prog o a W K Q else E :=
  step_appN W w0 hgd s t ho w3.heap.size v g g2 b off m c hown h2 hs ht hW.size hlen hlen2 fun a' l' c' w' h1 hb hg => h a' l' c' w' h1 (hW.trans hb) hg

theorem NodesIn.grown {w w' w0 : World} {row : Option Nat} {b off len cap : Nat} {g : List Gr.Node} (h : NodesIn w w0 (some ⟨b, off, none⟩) len cap g) (hg : w.grownBy w' row) (hn : some b ≠ row) : NodesIn w' w0 (some ⟨b, off, none⟩) len cap g :=
  ⟨h.le, h.cap_le, h.len_le, h.length, fun h0 => by
    obtain ⟨b', off', e, hlt, hc⟩ := h.at_ h0
    simp only [Option.some.injEq, Addr.mk.injEq] at e
    obtain ⟨rfl, rfl, _⟩ := e
    refine ⟨b, off, rfl, Nat.lt_of_lt_of_le hlt hg.size, fun i hi => ?_⟩
    obtain ⟨ai, li, ci, sa, ls, cs, h0, h1, h2, h3, h4, hv⟩ := hc i hi
    exact ⟨ai, li, ci, sa, ls, cs, hg.cell h0 hn, hg.cell h1 hn, hg.cell h2 hn, hg.cell h3 hn, hg.cell h4 hn, hv⟩⟩

/-- One node in a block of its own. -/
theorem NodesIn.one {w w0 : World} {ai sa : Option Addr} {li ci ls cs : Nat} {x : Gr.Node} (hv : NodeV w0 ai li ci sa ls cs x) :
    NodesIn (w.alloc (.cells #[.int .u8 x.kind, .slice ai li ci, .slice sa ls cs, .int .i64 x.n, .int .i64 x.pad] 46)) w0 (some ⟨w.heap.size, 0, none⟩) 1 1 [x] := by
  refine ⟨Nat.le_refl _, by omega, by omega, rfl, fun _ => ⟨w.heap.size, 0, rfl, by simp, fun i hi => ?_⟩⟩
  obtain rfl : i = 0 := by omega
  refine ⟨ai, li, ci, sa, ls, cs, ?_, ?_, ?_, ?_, ?_, hv⟩ <;> (rw [World.cell?_alloc_at _ _ _ _ rfl]; rfl)

theorem OwnN.store {w0 : World} {base : Nat} {w : World} {v : Value} {g : List Gr.Node} (h : OwnN w0 base w v g) (c o : Nat) (u : Value) (hc : c < base) : OwnN w0 base (w.setCell ⟨c, o, none⟩ u) v g := by
  obtain ⟨vs, ⟨h1, h2⟩, h4⟩ := h
  refine ⟨vs, ⟨h1, ?_⟩, h4⟩
  rcases h2 with h2 | ⟨g', cap, cur, hv, hg', hh, r⟩
  · exact .inl h2
  · exact .inr ⟨g', cap, cur, hv, hg', by rw [Below.heap_setCell _ _ _ _ (by intro e; simp only at e; omega)]; exact hh, r⟩

set_option maxHeartbeats 4000000 in
set_option maxRecDepth 100000 in
theorem with_any (a : Option Addr) (len cap : Nat) (g : List Gr.Node) (ai sa : Option Addr) (li ci ls cs : Nat) (kd n pad : Int) (inn shp : List Int) (w : World) (HN : Nodes w a len cap g) (HV : NodeV w ai li ci sa ls cs ⟨kd, inn, shp, n, pad⟩) (h1 : 1 ≤ len) (h2 : len ≤ 1000) :
    Calls Try.prog 37 #[.agg #[.slice a len cap], .agg #[.int .u8 kd, .slice ai li ci, .slice sa ls cs, .int .i64 n, .int .i64 pad]] w fun e w' =>
      ∃ a' l' c', e = .returned (.agg #[.slice a' l' c']) ∧ Nodes w' a' l' c' (g ++ [⟨kd, inn, shp, n, pad⟩]) ∧ Below w.heap.size w w' := by
  have KN := Lib.hid HN
  have KV := Lib.hid HV
  have LN := Lib.hid HN.length
  have hle := HN.le
  have hcl := HN.cap_le
  obtain ⟨b, off, rfl, hbl, _⟩ := HN.at_ (by omega)
  clear HN HV
  go_enter Try.func37, Try.ntmps37
  go_wp2_with fail
  have hz3 : (((w.alloc (.cells #[.slice (some ⟨b, off, none⟩) len cap] 38)).alloc (.cells #[.int .u8 kd, .slice ai li ci, .slice sa ls cs, .int .i64 n, .int .i64 pad] 46)).alloc (.cells #[.slice none 0 0] 38)).heap.size = w.heap.size + 3 := by simp
  have HB3 : Hid (Below w.heap.size w (((w.alloc (.cells #[.slice (some ⟨b, off, none⟩) len cap] 38)).alloc (.cells #[.int .u8 kd, .slice ai li ci, .slice sa ls cs, .int .i64 n, .int .i64 pad] 46)).alloc (.cells #[.slice none 0 0] 38))) := (((Below.refl _ _).alloc (Nat.le_refl _) _).alloc (by simp) _).alloc (by simp; omega) _
  have cA : (((w.alloc (.cells #[.slice (some ⟨b, off, none⟩) len cap] 38)).alloc (.cells #[.int .u8 kd, .slice ai li ci, .slice sa ls cs, .int .i64 n, .int .i64 pad] 46)).alloc (.cells #[.slice none 0 0] 38)).cell? ⟨w.heap.size, 0, none⟩ = some (.slice (some ⟨b, off, none⟩) len cap) := Lib.cell?_alloc_some _ (Lib.cell?_alloc_some _ (by rw [World.cell?_alloc_at _ _ _ _ rfl]; rfl))
  have x0 : (((w.alloc (.cells #[.slice (some ⟨b, off, none⟩) len cap] 38)).alloc (.cells #[.int .u8 kd, .slice ai li ci, .slice sa ls cs, .int .i64 n, .int .i64 pad] 46)).alloc (.cells #[.slice none 0 0] 38)).cell? ⟨w.heap.size + 1, 0, none⟩ = some (.int .u8 kd) := Lib.cell?_alloc_some _ (by rw [World.cell?_alloc_at _ _ _ _ (by simp)]; rfl)
  have x1 : (((w.alloc (.cells #[.slice (some ⟨b, off, none⟩) len cap] 38)).alloc (.cells #[.int .u8 kd, .slice ai li ci, .slice sa ls cs, .int .i64 n, .int .i64 pad] 46)).alloc (.cells #[.slice none 0 0] 38)).cell? ⟨w.heap.size + 1, 1, none⟩ = some (.slice ai li ci) := Lib.cell?_alloc_some _ (by rw [World.cell?_alloc_at _ _ _ _ (by simp)]; rfl)
  have x2 : (((w.alloc (.cells #[.slice (some ⟨b, off, none⟩) len cap] 38)).alloc (.cells #[.int .u8 kd, .slice ai li ci, .slice sa ls cs, .int .i64 n, .int .i64 pad] 46)).alloc (.cells #[.slice none 0 0] 38)).cell? ⟨w.heap.size + 1, 2, none⟩ = some (.slice sa ls cs) := Lib.cell?_alloc_some _ (by rw [World.cell?_alloc_at _ _ _ _ (by simp)]; rfl)
  have x3 : (((w.alloc (.cells #[.slice (some ⟨b, off, none⟩) len cap] 38)).alloc (.cells #[.int .u8 kd, .slice ai li ci, .slice sa ls cs, .int .i64 n, .int .i64 pad] 46)).alloc (.cells #[.slice none 0 0] 38)).cell? ⟨w.heap.size + 1, 3, none⟩ = some (.int .i64 n) := Lib.cell?_alloc_some _ (by rw [World.cell?_alloc_at _ _ _ _ (by simp)]; rfl)
  have x4 : (((w.alloc (.cells #[.slice (some ⟨b, off, none⟩) len cap] 38)).alloc (.cells #[.int .u8 kd, .slice ai li ci, .slice sa ls cs, .int .i64 n, .int .i64 pad] 46)).alloc (.cells #[.slice none 0 0] 38)).cell? ⟨w.heap.size + 1, 4, none⟩ = some (.int .i64 pad) := Lib.cell?_alloc_some _ (by rw [World.cell?_alloc_at _ _ _ _ (by simp)]; rfl)
  have cC : (((w.alloc (.cells #[.slice (some ⟨b, off, none⟩) len cap] 38)).alloc (.cells #[.int .u8 kd, .slice ai li ci, .slice sa ls cs, .int .i64 n, .int .i64 pad] 46)).alloc (.cells #[.slice none 0 0] 38)).cell? ⟨w.heap.size + 2, 0, none⟩ = some (.slice none 0 0) := by rw [World.cell?_alloc_at _ _ _ _ (by simp)]; rfl
  have fC : (((w.alloc (.cells #[.slice (some ⟨b, off, none⟩) len cap] 38)).alloc (.cells #[.int .u8 kd, .slice ai li ci, .slice sa ls cs, .int .i64 n, .int .i64 pad] 46)).alloc (.cells #[.slice none 0 0] 38)).frozen? ⟨w.heap.size + 2, 0, none⟩ = false := World.frozen?_alloc_at _ _ _ _ (by simp)
  have HNs : Hid (∀ W, Below w.heap.size w W → NodesIn W w (some ⟨b, off, none⟩) len cap g) := fun W hW => KN.out.below hW (Below.refl _ _)
  generalize (((w.alloc (.cells #[.slice (some ⟨b, off, none⟩) len cap] 38)).alloc (.cells #[.int .u8 kd, .slice ai li ci, .slice sa ls cs, .int .i64 n, .int .i64 pad] 46)).alloc (.cells #[.slice none 0 0] 38)) = w3 at *
  have HX : Hid (∀ W, Below w3.heap.size w3 W → NodesIn W w (some ⟨b, off, none⟩) len cap g ∧ W.cell? ⟨w.heap.size, 0, none⟩ = some (.slice (some ⟨b, off, none⟩) len cap) ∧ W.cell? ⟨w.heap.size + 1, 0, none⟩ = some (.int .u8 kd) ∧ W.cell? ⟨w.heap.size + 1, 1, none⟩ = some (.slice ai li ci) ∧
      W.cell? ⟨w.heap.size + 1, 2, none⟩ = some (.slice sa ls cs) ∧ W.cell? ⟨w.heap.size + 1, 3, none⟩ = some (.int .i64 n) ∧ W.cell? ⟨w.heap.size + 1, 4, none⟩ = some (.int .i64 pad) ∧
      W.cell? ⟨w.heap.size + 2, 0, none⟩ = some (.slice none 0 0) ∧ W.frozen? ⟨w.heap.size + 2, 0, none⟩ = false) := fun W hW =>
    ⟨HNs.out W (HB3.out.trans (hW.mono (by omega))), (hW.cell (p := ⟨w.heap.size, 0, none⟩) (show w.heap.size < w3.heap.size by omega)).trans cA, (hW.cell (p := ⟨w.heap.size + 1, 0, none⟩) (show w.heap.size + 1 < w3.heap.size by omega)).trans x0,
      (hW.cell (p := ⟨w.heap.size + 1, 1, none⟩) (show w.heap.size + 1 < w3.heap.size by omega)).trans x1, (hW.cell (p := ⟨w.heap.size + 1, 2, none⟩) (show w.heap.size + 1 < w3.heap.size by omega)).trans x2,
      (hW.cell (p := ⟨w.heap.size + 1, 3, none⟩) (show w.heap.size + 1 < w3.heap.size by omega)).trans x3, (hW.cell (p := ⟨w.heap.size + 1, 4, none⟩) (show w.heap.size + 1 < w3.heap.size by omega)).trans x4,
      (hW.cell (p := ⟨w.heap.size + 2, 0, none⟩) (show w.heap.size + 2 < w3.heap.size by omega)).trans cC, (hW.frozen (p := ⟨w.heap.size + 2, 0, none⟩) (show w.heap.size + 2 < w3.heap.size by omega)).trans fC⟩
  have hBd : Below w3.heap.size w3 w3.drew := (Below.refl _ _).drew
  have hBa : ∀ o, Below w3.heap.size w3 (w3.drew.alloc o) := fun o => hBd.alloc (Nat.le_refl _) o
  have HBd := Lib.hid hBd
  have HBa := Lib.hid hBa
  have HK1 : Hid (∀ W : World, NodesIn (W.alloc (.cells #[.int .u8 kd, .slice ai li ci, .slice sa ls cs, .int .i64 n, .int .i64 pad] 46)) w (some ⟨W.heap.size, 0, none⟩) 1 1 [⟨kd, inn, shp, n, pad⟩]) := fun W => NodesIn.one KV.out
  obtain ⟨_, z0, z1, z2, z3, z4, z5, zC, zF⟩ := HX.out w3.drew hBd
  have zA : ∀ o, (w3.alloc o).cell? ⟨w.heap.size, 0, none⟩ = some (.slice (some ⟨b, off, none⟩) len cap) := fun o => (HX.out _ ((Below.refl _ _).alloc (Nat.le_refl _) o)).2.1
  have HZ3 := Lib.hid hz3
  clear hBd hBa cA x0 x1 x2 x3 x4 cC fC hz3
  go_region_law (first
    | (refine step_appN1 w3 _ w (by rfl) _ _ (by rfl) (.slice none 0 0) [] g b off len cap (by first | exact HBd.out | exact HBa.out _) (OwnN.nil _ _ _) (by first | exact (HX.out _ HBd.out).1 | exact (HX.out _ (HBa.out _)).1) (by rfl) (by rfl) (by simp) (by omega) ?_; intro a7 l7 c7 w7 hO7 hb7 hg7; obtain ⟨_, y0, y1, y2, y3, y4, y5, yC, yF⟩ := HX.out w7 hb7)
    | (refine step_appN1 w3 _ w (by rfl) _ _ (by rfl) (.slice a7 l7 c7) ([] ++ g) [⟨kd, inn, shp, n, pad⟩] w7.heap.size 0 1 1 (by exact hb7.alloc hb7.size _) (by exact hO7.below ((Below.refl _ _).alloc (Nat.le_refl _) _)) (by exact HK1.out w7) (by rfl) (by rfl) (by simp [LN.out]; omega) (by omega) ?_; intro a8 l8 c8 w8 hO8 hb8 hg8; obtain ⟨_, v0, v1, v2, v3, v4, v5, vC, vF⟩ := HX.out w8 hb8)
    | (refine step_appN1 w3 _ w (by rfl) _ _ (by rfl) (.slice a7 l7 c7) ([] ++ g) [⟨kd, inn, shp, n, pad⟩] w3.heap.size 0 1 1 (by exact hb7) (by exact hO7) (by exact (HK1.out w3.drew).grown hg7 (by simp [Value.ownBlock])) (by rfl) (by rfl) (by simp [LN.out]; omega) (by omega) ?_; intro a8 l8 c8 w8 hO8 hb8 hg8; obtain ⟨_, v0, v1, v2, v3, v4, v5, vC, vF⟩ := HX.out w8 hb8))
  all_goals go_wp2
  all_goals (have vS : (w8.setCell ⟨w.heap.size + 1 + 1, 0, none⟩ (.slice a8 l8 c8)).cell? ⟨w.heap.size + 1 + 1, 0, none⟩ = some (.slice a8 l8 c8) := World.cell?_setCell_same _ _ _ vC)
  all_goals (refine bodyPost_ret (by simp [results, Try.results37, go_sem, vS]; try rfl) rfl ?_)
  all_goals
    have hO9 := hO8.store (w.heap.size + 2) 0 (.slice a8 l8 c8) (by have := HZ3.out; omega)
    obtain ⟨a9, l9, c9, e9, hN9⟩ := hO9.nodes (by simp [LN.out]; omega)
    cases e9
    have hB9 : Below w.heap.size w (w8.setCell ⟨w.heap.size + 2, 0, none⟩ (.slice a8 l8 c8)) := below_setCell (HB3.out.trans (hb8.mono (by have := HZ3.out; omega))) _ _ _ (by omega)
    exact ⟨_, _, _, rfl, by simpa using NodesIn.below hN9 (Below.refl _ _) hB9, hB9⟩
end Go.Proofs.Ytgmagldbfajedaa

/- GrKnown: drydocklaw10.known: contract known_any; what is known of the chapter's graph.
-/
namespace Go.Proofs.Ytgmagldbfajedaa
open Go.RowKit

/-- The chapter's graph. -/
def gKnown : List Gr.Node := [⟨1, [], [2, 3], 0, 0⟩, ⟨2, [], [3, 2], 0, 0⟩, ⟨7, [0, 1], [], 0, 0⟩, ⟨5, [2], [], 0, 0⟩]
theorem gKnown_shapes : Gr.shapes gKnown = some [[2, 3], [3, 2], [2, 2], [2, 2]] := by decide
theorem gKnown_weights : Gr.weights gKnown = [1] := by decide
theorem gKnown_input : Gr.inputIx gKnown = 0 := by decide
theorem gKnown_two : Gr.shapes (gKnown.take 2) = none := by decide
theorem gKnown_more : (Gr.shapes (gKnown ++ [⟨7, [1, 2], [], 0, 0⟩])).isSome = true := by decide
theorem gKnown_sum : Gr.shapes (gKnown ++ [⟨13, [3], [], 2, 0⟩]) = none := by decide
theorem shapes_nil : Gr.shapes [] = none := by decide
theorem input_nil : Gr.inputIx [] = -1 := by decide

theorem ints_lits (w : World) (b : Nat) (l : List Int) (hb : b = w.heap.size) (hl : l.length ≤ 1000000) (hwf : ∀ n ∈ l, -9223372036854775808 ≤ n ∧ n ≤ 9223372036854775807) :
    Ints (w.alloc (.cells (l.map (Value.int .i64)).toArray 3)) (some ⟨b, 0, none⟩) l.length l.length l := by
  subst hb
  refine ⟨Nat.le_refl _, by omega, rfl, hwf, fun _ => ⟨w.heap.size, 0, rfl, by simp, fun i hi => ?_⟩⟩
  rw [World.cell?_alloc_at _ _ _ _ rfl, Nat.zero_add]
  simp only [List.getElem?_toArray, List.getElem?_map, List.getElem?_eq_getElem hi]
  rw [nth_eq l i hi]; rfl

theorem nodeV_lit {w : World} {ai sa : Option Addr} {li ci ls cs : Nat} {kd n pad : Int} {inn shp : List Int} (hi : Ints w ai li ci inn) (hs : Ints w sa ls cs shp) (h1 : li ≤ 1000) (h2 : ls ≤ 1000) (h3 : 0 ≤ kd ∧ kd ≤ 255) (h4 : -1000 ≤ n ∧ n ≤ 1000) (h5 : -1000 ≤ pad ∧ pad ≤ 1000) :
    NodeV w ai li ci sa ls cs ⟨kd, inn, shp, n, pad⟩ := ⟨hi, hs, by omega, by omega, h3, ⟨by simp only; omega, by simp only; omega⟩, ⟨by simp only; omega, by simp only; omega⟩⟩

set_option maxRecDepth 100000 in
theorem known_nodes (w1 : World) (b : Nat) (hb : b = w1.heap.size) : Nodes (((((w1.alloc (.cells #[.int .i64 2, .int .i64 3] 3)).alloc (.cells #[.int .i64 3, .int .i64 2] 3)).alloc (.cells #[.int .i64 0, .int .i64 1] 3)).alloc (.cells #[.int .i64 2] 3)).alloc (.cells #[.int .u8 1, .slice none 0 0, .slice (some ⟨b, 0, none⟩) 2 2, .int .i64 0, .int .i64 0, .int .u8 2, .slice none 0 0, .slice (some ⟨b + 1, 0, none⟩) 2 2, .int .i64 0, .int .i64 0, .int .u8 7, .slice (some ⟨b + 1 + 1, 0, none⟩) 2 2, .slice none 0 0, .int .i64 0, .int .i64 0, .int .u8 5, .slice (some ⟨b + 1 + 1 + 1, 0, none⟩) 1 1, .slice none 0 0, .int .i64 0, .int .i64 0] 46)) (some ⟨b + 1 + 1 + 1 + 1, 0, none⟩) 4 4 gKnown := by
  have I1 : Ints (((((w1.alloc (.cells #[.int .i64 2, .int .i64 3] 3)).alloc (.cells #[.int .i64 3, .int .i64 2] 3)).alloc (.cells #[.int .i64 0, .int .i64 1] 3)).alloc (.cells #[.int .i64 2] 3)).alloc (.cells #[.int .u8 1, .slice none 0 0, .slice (some ⟨b, 0, none⟩) 2 2, .int .i64 0, .int .i64 0, .int .u8 2, .slice none 0 0, .slice (some ⟨b + 1, 0, none⟩) 2 2, .int .i64 0, .int .i64 0, .int .u8 7, .slice (some ⟨b + 1 + 1, 0, none⟩) 2 2, .slice none 0 0, .int .i64 0, .int .i64 0, .int .u8 5, .slice (some ⟨b + 1 + 1 + 1, 0, none⟩) 1 1, .slice none 0 0, .int .i64 0, .int .i64 0] 46)) (some ⟨b, 0, none⟩) 2 2 [2, 3] := ((((ints_lits w1 b [2, 3] hb (by decide) (by decide)).alloc _).alloc _).alloc _).alloc _
  have I2 : Ints (((((w1.alloc (.cells #[.int .i64 2, .int .i64 3] 3)).alloc (.cells #[.int .i64 3, .int .i64 2] 3)).alloc (.cells #[.int .i64 0, .int .i64 1] 3)).alloc (.cells #[.int .i64 2] 3)).alloc (.cells #[.int .u8 1, .slice none 0 0, .slice (some ⟨b, 0, none⟩) 2 2, .int .i64 0, .int .i64 0, .int .u8 2, .slice none 0 0, .slice (some ⟨b + 1, 0, none⟩) 2 2, .int .i64 0, .int .i64 0, .int .u8 7, .slice (some ⟨b + 1 + 1, 0, none⟩) 2 2, .slice none 0 0, .int .i64 0, .int .i64 0, .int .u8 5, .slice (some ⟨b + 1 + 1 + 1, 0, none⟩) 1 1, .slice none 0 0, .int .i64 0, .int .i64 0] 46)) (some ⟨b + 1, 0, none⟩) 2 2 [3, 2] := (((ints_lits (w1.alloc (.cells #[.int .i64 2, .int .i64 3] 3)) (b + 1) [3, 2] (by simp [hb]) (by decide) (by decide)).alloc _).alloc _).alloc _
  have I3 : Ints (((((w1.alloc (.cells #[.int .i64 2, .int .i64 3] 3)).alloc (.cells #[.int .i64 3, .int .i64 2] 3)).alloc (.cells #[.int .i64 0, .int .i64 1] 3)).alloc (.cells #[.int .i64 2] 3)).alloc (.cells #[.int .u8 1, .slice none 0 0, .slice (some ⟨b, 0, none⟩) 2 2, .int .i64 0, .int .i64 0, .int .u8 2, .slice none 0 0, .slice (some ⟨b + 1, 0, none⟩) 2 2, .int .i64 0, .int .i64 0, .int .u8 7, .slice (some ⟨b + 1 + 1, 0, none⟩) 2 2, .slice none 0 0, .int .i64 0, .int .i64 0, .int .u8 5, .slice (some ⟨b + 1 + 1 + 1, 0, none⟩) 1 1, .slice none 0 0, .int .i64 0, .int .i64 0] 46)) (some ⟨b + 1 + 1, 0, none⟩) 2 2 [0, 1] := ((ints_lits ((w1.alloc (.cells #[.int .i64 2, .int .i64 3] 3)).alloc (.cells #[.int .i64 3, .int .i64 2] 3)) (b + 1 + 1) [0, 1] (by simp [hb]) (by decide) (by decide)).alloc _).alloc _
  have I4 : Ints (((((w1.alloc (.cells #[.int .i64 2, .int .i64 3] 3)).alloc (.cells #[.int .i64 3, .int .i64 2] 3)).alloc (.cells #[.int .i64 0, .int .i64 1] 3)).alloc (.cells #[.int .i64 2] 3)).alloc (.cells #[.int .u8 1, .slice none 0 0, .slice (some ⟨b, 0, none⟩) 2 2, .int .i64 0, .int .i64 0, .int .u8 2, .slice none 0 0, .slice (some ⟨b + 1, 0, none⟩) 2 2, .int .i64 0, .int .i64 0, .int .u8 7, .slice (some ⟨b + 1 + 1, 0, none⟩) 2 2, .slice none 0 0, .int .i64 0, .int .i64 0, .int .u8 5, .slice (some ⟨b + 1 + 1 + 1, 0, none⟩) 1 1, .slice none 0 0, .int .i64 0, .int .i64 0] 46)) (some ⟨b + 1 + 1 + 1, 0, none⟩) 1 1 [2] := (ints_lits (((w1.alloc (.cells #[.int .i64 2, .int .i64 3] 3)).alloc (.cells #[.int .i64 3, .int .i64 2] 3)).alloc (.cells #[.int .i64 0, .int .i64 1] 3)) (b + 1 + 1 + 1) [2] (by simp [hb]) (by decide) (by decide)).alloc _
  have hz : b + 1 + 1 + 1 + 1 = ((((w1.alloc (.cells #[.int .i64 2, .int .i64 3] 3)).alloc (.cells #[.int .i64 3, .int .i64 2] 3)).alloc (.cells #[.int .i64 0, .int .i64 1] 3)).alloc (.cells #[.int .i64 2] 3)).heap.size := by simp [hb]
  refine ⟨Nat.le_refl _, by omega, by omega, rfl, fun _ => ⟨b + 1 + 1 + 1 + 1, 0, rfl, by rw [hz]; simp, fun i hi => ?_⟩⟩
  rcases (by omega : i = 0 ∨ i = 1 ∨ i = 2 ∨ i = 3) with rfl | rfl | rfl | rfl
  · refine ⟨none, 0, 0, some ⟨b, 0, none⟩, 2, 2, ?_, ?_, ?_, ?_, ?_, nodeV_lit Ints.nil I1 (by omega) (by omega) (by omega) (by omega) (by omega)⟩ <;> (rw [World.cell?_alloc_at _ _ _ _ hz]; rfl)
  · refine ⟨none, 0, 0, some ⟨b + 1, 0, none⟩, 2, 2, ?_, ?_, ?_, ?_, ?_, nodeV_lit Ints.nil I2 (by omega) (by omega) (by omega) (by omega) (by omega)⟩ <;> (rw [World.cell?_alloc_at _ _ _ _ hz]; rfl)
  · refine ⟨some ⟨b + 1 + 1, 0, none⟩, 2, 2, none, 0, 0, ?_, ?_, ?_, ?_, ?_, nodeV_lit I3 Ints.nil (by omega) (by omega) (by omega) (by omega) (by omega)⟩ <;> (rw [World.cell?_alloc_at _ _ _ _ hz]; rfl)
  · refine ⟨some ⟨b + 1 + 1 + 1, 0, none⟩, 1, 1, none, 0, 0, ?_, ?_, ?_, ?_, ?_, nodeV_lit I4 Ints.nil (by omega) (by omega) (by omega) (by omega) (by omega)⟩ <;> (rw [World.cell?_alloc_at _ _ _ _ hz]; rfl)

set_option maxHeartbeats 2000000 in
set_option maxRecDepth 100000 in
theorem known_any (w : World) : Calls Try.prog 66 #[] w fun e w' => ∃ a, e = .returned (.agg #[.slice a 4 4]) ∧ Nodes w' a 4 4 gKnown ∧ Below w.heap.size w w' := by
  go_enter Try.func66, Try.ntmps66
  go_wp2
  have vS : ((((((w.alloc (.cells #[.slice (some ⟨w.heap.size + 1 + 1 + 1 + 1 + 1, 0, none⟩) 4 4] 38)).alloc (.cells #[.int .i64 2, .int .i64 3] 3)).alloc (.cells #[.int .i64 3, .int .i64 2] 3)).alloc (.cells #[.int .i64 0, .int .i64 1] 3)).alloc (.cells #[.int .i64 2] 3)).alloc (.cells #[.int .u8 1, .slice none 0 0, .slice (some ⟨w.heap.size + 1, 0, none⟩) 2 2, .int .i64 0, .int .i64 0, .int .u8 2, .slice none 0 0, .slice (some ⟨w.heap.size + 1 + 1, 0, none⟩) 2 2, .int .i64 0, .int .i64 0, .int .u8 7, .slice (some ⟨w.heap.size + 1 + 1 + 1, 0, none⟩) 2 2, .slice none 0 0, .int .i64 0, .int .i64 0, .int .u8 5, .slice (some ⟨w.heap.size + 1 + 1 + 1 + 1, 0, none⟩) 1 1, .slice none 0 0, .int .i64 0, .int .i64 0] 46)).cell? ⟨w.heap.size, 0, none⟩ = some (.slice (some ⟨w.heap.size + 1 + 1 + 1 + 1 + 1, 0, none⟩) 4 4) :=
    Lib.cell?_alloc_some _ (Lib.cell?_alloc_some _ (Lib.cell?_alloc_some _ (Lib.cell?_alloc_some _ (Lib.cell?_alloc_some _ (by rw [World.cell?_alloc_at _ _ _ _ rfl]; rfl)))))
  have hN := known_nodes (w.alloc (.cells #[.slice (some ⟨w.heap.size + 1 + 1 + 1 + 1 + 1, 0, none⟩) 4 4] 38)) (w.heap.size + 1) (by simp)
  have hB : Below w.heap.size w ((((((w.alloc (.cells #[.slice (some ⟨w.heap.size + 1 + 1 + 1 + 1 + 1, 0, none⟩) 4 4] 38)).alloc (.cells #[.int .i64 2, .int .i64 3] 3)).alloc (.cells #[.int .i64 3, .int .i64 2] 3)).alloc (.cells #[.int .i64 0, .int .i64 1] 3)).alloc (.cells #[.int .i64 2] 3)).alloc (.cells #[.int .u8 1, .slice none 0 0, .slice (some ⟨w.heap.size + 1, 0, none⟩) 2 2, .int .i64 0, .int .i64 0, .int .u8 2, .slice none 0 0, .slice (some ⟨w.heap.size + 1 + 1, 0, none⟩) 2 2, .int .i64 0, .int .i64 0, .int .u8 7, .slice (some ⟨w.heap.size + 1 + 1 + 1, 0, none⟩) 2 2, .slice none 0 0, .int .i64 0, .int .i64 0, .int .u8 5, .slice (some ⟨w.heap.size + 1 + 1 + 1 + 1, 0, none⟩) 1 1, .slice none 0 0, .int .i64 0, .int .i64 0] 46)) := ((((((Below.refl _ _).alloc (Nat.le_refl _) _).alloc (by simp) _).alloc (by simp; omega) _).alloc (by simp; omega) _).alloc (by simp; omega) _).alloc (by simp; omega) _
  generalize ((((((w.alloc (.cells #[.slice (some ⟨w.heap.size + 1 + 1 + 1 + 1 + 1, 0, none⟩) 4 4] 38)).alloc (.cells #[.int .i64 2, .int .i64 3] 3)).alloc (.cells #[.int .i64 3, .int .i64 2] 3)).alloc (.cells #[.int .i64 0, .int .i64 1] 3)).alloc (.cells #[.int .i64 2] 3)).alloc (.cells #[.int .u8 1, .slice none 0 0, .slice (some ⟨w.heap.size + 1, 0, none⟩) 2 2, .int .i64 0, .int .i64 0, .int .u8 2, .slice none 0 0, .slice (some ⟨w.heap.size + 1 + 1, 0, none⟩) 2 2, .int .i64 0, .int .i64 0, .int .u8 7, .slice (some ⟨w.heap.size + 1 + 1 + 1, 0, none⟩) 2 2, .slice none 0 0, .int .i64 0, .int .i64 0, .int .u8 5, .slice (some ⟨w.heap.size + 1 + 1 + 1 + 1, 0, none⟩) 1 1, .slice none 0 0, .int .i64 0, .int .i64 0] 46)) = w6 at *
  refine bodyPost_ret (by simp [results, Try.results66, go_sem, vS]; try rfl) rfl ?_
  exact ⟨_, rfl, hN, hB⟩
end Go.Proofs.Ytgmagldbfajedaa

/- GrAlive: drydocklaw10.alive: contract galive_any (it answers true).
-/
namespace Go.Proofs.Ytgmagldbfajedaa
open Go.RowKit

/-- What stays while the chapter's graph is asked. -/
structure KSt (w : World) (G b off : Nat) (wk : World) : Prop where
  bel : Below w.heap.size w wk
  cell : wk.cell? ⟨G, 0, none⟩ = some (.slice (some ⟨b, off, none⟩) 4 4)
  lt : G < wk.heap.size
  n : Nodes wk (some ⟨b, off, none⟩) 4 4 gKnown

theorem KSt.on {w : World} {G b off : Nat} {wk w' : World} (h : KSt w G b off wk) (hb : Below wk.heap.size wk w') : KSt w G b off w' :=
  ⟨h.bel.trans (hb.mono h.bel.size), (hb.cell (p := ⟨G, 0, none⟩) h.lt).trans h.cell, Nat.lt_of_lt_of_le h.lt hb.size, h.n.on hb⟩
theorem KSt.alloc {w : World} {G b off : Nat} {wk : World} (h : KSt w G b off wk) (o : Obj) : KSt w G b off (wk.alloc o) := h.on ((Below.refl _ _).alloc (Nat.le_refl _) o)

theorem grid_lit (w : World) (b : Nat) (hb : b = w.heap.size) :
    Grid (((((w.alloc (.cells #[.int .i64 2, .int .i64 3] 3)).alloc (.cells #[.int .i64 3, .int .i64 2] 3)).alloc (.cells #[.int .i64 2, .int .i64 2] 3)).alloc (.cells #[.int .i64 2, .int .i64 2] 3)).alloc
      (.cells #[.slice (some ⟨b, 0, none⟩) 2 2, .slice (some ⟨b + 1, 0, none⟩) 2 2, .slice (some ⟨b + 1 + 1, 0, none⟩) 2 2, .slice (some ⟨b + 1 + 1 + 1, 0, none⟩) 2 2] 22)) (some ⟨b + 1 + 1 + 1 + 1, 0, none⟩) 4 4 [[2, 3], [3, 2], [2, 2], [2, 2]] := by
  have I1 := (((((ints_lits w b [2, 3] hb (by decide) (by decide)).alloc (.cells #[.int .i64 3, .int .i64 2] 3)).alloc (.cells #[.int .i64 2, .int .i64 2] 3)).alloc (.cells #[.int .i64 2, .int .i64 2] 3)).alloc
    (.cells #[.slice (some ⟨b, 0, none⟩) 2 2, .slice (some ⟨b + 1, 0, none⟩) 2 2, .slice (some ⟨b + 1 + 1, 0, none⟩) 2 2, .slice (some ⟨b + 1 + 1 + 1, 0, none⟩) 2 2] 22))
  have I2 := ((((ints_lits (w.alloc (.cells #[.int .i64 2, .int .i64 3] 3)) (b + 1) [3, 2] (by simp [hb]) (by decide) (by decide)).alloc (.cells #[.int .i64 2, .int .i64 2] 3)).alloc (.cells #[.int .i64 2, .int .i64 2] 3)).alloc
    (.cells #[.slice (some ⟨b, 0, none⟩) 2 2, .slice (some ⟨b + 1, 0, none⟩) 2 2, .slice (some ⟨b + 1 + 1, 0, none⟩) 2 2, .slice (some ⟨b + 1 + 1 + 1, 0, none⟩) 2 2] 22))
  have I3 := (((ints_lits ((w.alloc (.cells #[.int .i64 2, .int .i64 3] 3)).alloc (.cells #[.int .i64 3, .int .i64 2] 3)) (b + 1 + 1) [2, 2] (by simp [hb]) (by decide) (by decide)).alloc (.cells #[.int .i64 2, .int .i64 2] 3)).alloc
    (.cells #[.slice (some ⟨b, 0, none⟩) 2 2, .slice (some ⟨b + 1, 0, none⟩) 2 2, .slice (some ⟨b + 1 + 1, 0, none⟩) 2 2, .slice (some ⟨b + 1 + 1 + 1, 0, none⟩) 2 2] 22))
  have I4 := ((ints_lits (((w.alloc (.cells #[.int .i64 2, .int .i64 3] 3)).alloc (.cells #[.int .i64 3, .int .i64 2] 3)).alloc (.cells #[.int .i64 2, .int .i64 2] 3)) (b + 1 + 1 + 1) [2, 2] (by simp [hb]) (by decide) (by decide)).alloc
    (.cells #[.slice (some ⟨b, 0, none⟩) 2 2, .slice (some ⟨b + 1, 0, none⟩) 2 2, .slice (some ⟨b + 1 + 1, 0, none⟩) 2 2, .slice (some ⟨b + 1 + 1 + 1, 0, none⟩) 2 2] 22))
  have hz : b + 1 + 1 + 1 + 1 = ((((w.alloc (.cells #[.int .i64 2, .int .i64 3] 3)).alloc (.cells #[.int .i64 3, .int .i64 2] 3)).alloc (.cells #[.int .i64 2, .int .i64 2] 3)).alloc (.cells #[.int .i64 2, .int .i64 2] 3)).heap.size := by simp [hb]
  refine ⟨Nat.le_refl _, by omega, rfl, fun _ => ⟨b + 1 + 1 + 1 + 1, 0, rfl, by rw [hz]; simp, fun i hi => ?_⟩⟩
  rcases (by omega : i = 0 ∨ i = 1 ∨ i = 2 ∨ i = 3) with rfl | rfl | rfl | rfl
  · exact ⟨_, _, _, by rw [World.cell?_alloc_at _ _ _ _ hz]; rfl, I1⟩
  · exact ⟨_, _, _, by rw [World.cell?_alloc_at _ _ _ _ hz]; rfl, I2⟩
  · exact ⟨_, _, _, by rw [World.cell?_alloc_at _ _ _ _ hz]; rfl, I3⟩
  · exact ⟨_, _, _, by rw [World.cell?_alloc_at _ _ _ _ hz]; rfl, I4⟩

theorem grid_same : gridsB [[2, 3], [3, 2], [2, 2], [2, 2]] [[2, 3], [3, 2], [2, 2], [2, 2]] = true := by decide
theorem same_one : sameB [1] [1] = true := by decide

set_option maxHeartbeats 8000000 in
set_option maxRecDepth 100000 in
theorem galive_any (w : World) : Calls Try.prog 31 #[] w fun e w' => e = .returned (.bool true) ∧ Below w.heap.size w w' := by
  go_enter Try.func31, Try.ntmps31
  go_wp2_with fail
  refine (known_any _).mono ?_
  rintro e w1 ⟨a, rfl, hN, hb⟩
  obtain ⟨b, off, rfl, hbl, _⟩ := hN.at_ (by omega)
  have hK : KSt w w1.heap.size b off (w1.alloc (.cells #[.slice (some ⟨b, off, none⟩) 4 4] 38)) :=
    ⟨hb.alloc hb.size _, by rw [World.cell?_alloc_at _ _ _ _ rfl]; rfl, by simp, hN.on ((Below.refl _ _).alloc (Nat.le_refl _) _)⟩
  have K1 := Lib.hid hK
  clear hN hb hK hbl
  go_wp2_with fail
  refine (gshapes_any _ _ _ gKnown _ K1.out.n).mono ?_
  rintro e w2 ⟨hb2, ⟨hs, rfl⟩ | ⟨s, a2, l2, hs, rfl, hG⟩⟩
  · rw [gKnown_shapes] at hs; cases hs
  · rw [gKnown_shapes] at hs
    cases hs
    have KG := Lib.hid hG
    have K2 := Lib.hid (K1.out.on hb2)
    have c2 := K2.out.cell
    have hl2 := hG.length
    clear hG hb2
    go_wp2_with fail
    refine (gcheck_any _ _ _ gKnown _ K2.out.n).mono ?_
    rintro e w3 ⟨rfl, hb3⟩
    rw [gKnown_shapes]
    have K3 := Lib.hid (K2.out.on hb3)
    have KG3 := Lib.hid (KG.out.below hb3)
    clear hb3 c2
    go_wp2_with fail
    refine (grids_any _ _ _ _ _ _ [[2, 3], [3, 2], [2, 2], [2, 2]] [[2, 3], [3, 2], [2, 2], [2, 2]] _ ?_ (grid_lit w3 _ rfl)).mono ?_
    · exact KG3.out.below ((((((Below.refl _ _).alloc (Nat.le_refl _) _).alloc (by simp) _).alloc (by simp; omega) _).alloc (by simp; omega) _).alloc (by simp; omega) _)
    rintro e w4 ⟨rfl, hb4⟩
    rw [grid_same]
    have K4 := Lib.hid ((((((K3.out.alloc _).alloc _).alloc _).alloc _).alloc _).on hb4)
    have c4 := K4.out.cell
    clear hb4
    go_wp2_with fail
    refine (weights_any _ _ _ gKnown _ K4.out.n).mono ?_
    rintro e w5 ⟨a5, l5, rfl, hI5, hb5⟩
    rw [gKnown_weights] at hI5
    have K5 := Lib.hid (K4.out.on hb5)
    have HI5 := Lib.hid hI5
    clear hb5 c4 hI5
    go_wp2_with fail
    refine (same_any _ _ _ _ _ _ [1] [1] _ (HI5.out.alloc _) (ints_lits w5 _ [1] rfl (by decide) (by decide))).mono ?_
    rintro e w6 ⟨rfl, hb6⟩
    rw [same_one]
    have K6 := Lib.hid ((K5.out.alloc _).on hb6)
    have c6 := K6.out.cell
    clear hb6
    go_wp2_with fail
    refine (input_any _ _ _ gKnown _ K6.out.n).mono ?_
    rintro e w7 ⟨rfl, hb7⟩
    rw [gKnown_input]
    have K7 := Lib.hid (K6.out.on hb7)
    have c7 := K7.out.cell
    clear hb7 c6
    go_wp2_with fail
    refine (gcheck_any _ _ _ (gKnown.take 2) _ (K7.out.n.take 2 (by omega))).mono ?_
    rintro e w8 ⟨rfl, hb8⟩
    rw [gKnown_two]
    have K8 := Lib.hid (K7.out.on hb8)
    have c8 := K8.out.cell
    clear hb8 c7
    go_wp2_with fail
    refine (with_any _ _ _ gKnown _ _ _ _ _ _ _ _ _ [1, 2] [] _ (K8.out.alloc _).n (nodeV_lit (ints_lits w8 _ [1, 2] rfl (by decide) (by decide)) Ints.nil (by decide) (by omega) (by omega) (by omega) (by omega)) (by omega) (by omega)).mono ?_
    rintro e w9 ⟨a9, l9, q9, rfl, hN9, hb9⟩
    have K9 := Lib.hid ((K8.out.alloc _).on hb9)
    have HN9 := Lib.hid hN9
    clear hb9 hN9 c8
    go_wp2_with fail
    refine (gcheck_any _ _ _ _ _ HN9.out).mono ?_
    rintro e w10 ⟨rfl, hb10⟩
    rw [gKnown_more]
    have K10 := Lib.hid (K9.out.on hb10)
    have c10 := K10.out.cell
    clear hb10
    go_wp2_with fail
    refine (with_any _ _ _ gKnown _ _ _ _ _ _ _ _ _ [3] [] _ (K10.out.alloc _).n (nodeV_lit (ints_lits w10 _ [3] rfl (by decide) (by decide)) Ints.nil (by decide) (by omega) (by omega) (by omega) (by omega)) (by omega) (by omega)).mono ?_
    rintro e w11 ⟨a11, l11, q11, rfl, hN11, hb11⟩
    have K11 := Lib.hid ((K10.out.alloc _).on hb11)
    have HN11 := Lib.hid hN11
    clear hb11 hN11 c10
    go_wp2_with fail
    refine (gcheck_any _ _ _ _ _ HN11.out).mono ?_
    rintro e w12 ⟨rfl, hb12⟩
    rw [gKnown_sum]
    have K12 := Lib.hid (K11.out.on hb12)
    clear hb12
    go_wp2_with fail
    refine (gcheck_any _ _ _ [] _ NodesIn.nil).mono ?_
    rintro e w13 ⟨rfl, hb13⟩
    rw [shapes_nil]
    have K13 := Lib.hid (K12.out.on hb13)
    clear hb13
    go_wp2_with fail
    refine (input_any _ _ _ [] _ NodesIn.nil).mono ?_
    rintro e w14 ⟨rfl, hb14⟩
    rw [input_nil]
    have K14 := Lib.hid (K13.out.on hb14)
    clear hb14
    go_wp2
    go_ret
    exact ⟨rfl, K14.out.bel⟩
end Go.Proofs.Ytgmagldbfajedaa

/- GrKindsLawP: Plain Lean: what the law GraphsKinds says; what stays while a graph is asked (GSt).
-/
namespace Go.Proofs.Ytgmagldbfajedaa
open Go.RowKit

/-- What stays while a graph is asked: it lies in a box of the call's own. -/
structure GSt (w : World) (a : Option Addr) (len cap : Nat) (g : List Gr.Node) (wk : World) : Prop where
  bel : Below w.heap.size w wk
  cell : wk.cell? ⟨w.heap.size, 0, none⟩ = some (.slice a len cap)
  lt : w.heap.size < wk.heap.size
  n : Nodes wk a len cap g
theorem GSt.on {w : World} {a : Option Addr} {len cap : Nat} {g : List Gr.Node} {wk w' : World} (h : GSt w a len cap g wk) (hb : Below wk.heap.size wk w') : GSt w a len cap g w' :=
  ⟨h.bel.trans (hb.mono h.bel.size), (hb.cell (p := ⟨w.heap.size, 0, none⟩) h.lt).trans h.cell, Nat.lt_of_lt_of_le h.lt hb.size, h.n.on hb⟩
theorem GSt.alloc {w : World} {a : Option Addr} {len cap : Nat} {g : List Gr.Node} {wk : World} (h : GSt w a len cap g wk) (o : Obj) : GSt w a len cap g (wk.alloc o) := h.on ((Below.refl _ _).alloc (Nat.le_refl _) o)
theorem GSt.start {w : World} {a : Option Addr} {len cap : Nat} {g : List Gr.Node} (h : Nodes w a len cap g) : GSt w a len cap g (w.alloc (.cells #[.slice a len cap] 38)) :=
  ⟨(Below.refl _ _).alloc (Nat.le_refl _) _, by rw [World.cell?_alloc_at _ _ _ _ rfl]; rfl, by simp, h.on ((Below.refl _ _).alloc (Nat.le_refl _) _)⟩

namespace Gr
theorem weights_split (g : List Node) (k : Nat) : weights g = weights (g.take k) ++ weightsF (g.take k).length (g.drop k) := by
  have := weightsF_append (g.take k) 0 (g.drop k)
  rw [List.take_append_drop, Nat.zero_add] at this
  exact this
theorem weights_at {g : List Node} {k : Nat} (hk : k < g.length) (h : (nodeN g k).kind = 2) : (weights (g.take k)).length < (weights g).length ∧ nth (weights g) (weights (g.take k)).length = k ∧ (weights (g.take (k + 1))).length = (weights (g.take k)).length + 1 := by
  have h1 := weights_snoc hk
  rw [← nodeN_eq g k hk, if_pos h] at h1
  have h2 := weights_split g (k + 1)
  rw [h1] at h2
  refine ⟨by rw [h2]; simp, ?_, by rw [h1]; simp⟩
  rw [h2]
  unfold nth
  rw [List.getD_eq_getElem?_getD, List.append_assoc, List.getElem?_append_right (Nat.le_refl _)]
  simp
theorem weights_skip {g : List Node} {k : Nat} (hk : k < g.length) (h : (nodeN g k).kind ≠ 2) : weights (g.take (k + 1)) = weights (g.take k) := by
  have h1 := weights_snoc hk
  rw [← nodeN_eq g k hk, if_neg h, List.append_nil] at h1
  exact h1

theorem inputN_snoc : ∀ (a : List Node) (x : Node), inputN (a ++ [x]) = if inputN a < a.length then inputN a else if x.kind = 1 then a.length else a.length + 1
  | [], x => by simp [inputN]
  | y :: r, x => by
    have ih := inputN_snoc r x
    simp only [List.cons_append, inputN, List.length_cons]
    by_cases c : y.kind = 1
    · simp [c]
    · rw [if_neg c, if_neg c, ih]
      by_cases c1 : inputN r < r.length
      · simp [c1]
      · by_cases c2 : x.kind = 1
        · simp [c1, c2]
        · simp [c1, c2]
theorem inputIx_snoc {g : List Node} {k : Nat} (hk : k < g.length) : inputIx (g.take (k + 1)) = if inputIx (g.take k) < 0 then (if (nodeN g k).kind = 1 then (k : Int) else -1) else inputIx (g.take k) := by
  have hl : (g.take k).length = k := by rw [List.length_take]; omega
  have hl1 : (g.take (k + 1)).length = k + 1 := by rw [List.length_take]; omega
  unfold inputIx
  rw [hl, hl1, List.take_succ_eq_append_getElem hk, inputN_snoc, hl, ← nodeN_eq g k hk]
  have hle := inputN_le (g.take k)
  rw [hl] at hle
  by_cases c : inputN (g.take k) < k
  · rw [if_pos c, if_pos c, if_pos (by omega), if_neg (by omega)]
  · rw [if_neg c, if_neg c, if_pos (show (-1 : Int) < 0 by omega)]
    by_cases c1 : (nodeN g k).kind = 1
    · rw [if_pos c1, if_pos c1, if_pos (by omega)]
    · rw [if_neg c1, if_neg c1, if_neg (by omega)]
theorem inputIx_bounds (g : List Node) : -1 ≤ inputIx g ∧ inputIx g < g.length := by
  unfold inputIx
  split <;> omega
theorem inputIx_neg {g : List Node} : inputs g = 0 → inputIx g = -1 := by
  intro h
  unfold inputIx
  rw [if_neg]
  intro hlt
  have h2 : ∀ g : List Node, inputN g < g.length → 1 ≤ inputs g := fun g => by
    induction g with
    | nil => intro h; simp [inputN] at h
    | cons x r ih =>
      intro h
      simp only [inputN, inputs, List.length_cons] at h ⊢
      split at h
      · rename_i c; rw [if_pos c]; omega
      · have := ih (by omega); omega
  have := h2 g hlt
  omega
/-- Of a graph that may be: one input alone. -/
theorem may_input {g : List Node} (h : (shapes g).isSome = true) {k : Nat} (hk : k < g.length) (h1 : (nodeN g k).kind = 1) : inputIx (g.take k) = -1 := by
  obtain ⟨s, hs⟩ := Option.isSome_iff_exists.1 h
  have h2 := (shapes_iff.1 hs).2.2.1
  have h3 := inputs_snoc g k hk
  rw [if_pos h1] at h3
  have h4 := inputs_take_le g (k + 1)
  exact inputIx_neg (by omega)
theorem may_has {g : List Node} (h : (shapes g).isSome = true) : 0 ≤ inputIx g := by
  obtain ⟨s, hs⟩ := Option.isSome_iff_exists.1 h
  have h2 := (shapes_iff.1 hs).2.2.1
  have := inputN_lt g (by omega)
  unfold inputIx
  rw [if_pos this]; omega
/-- Of a graph that may be: those that take in nothing. -/
theorem may_none {g : List Node} (h : (shapes g).isSome = true) {k : Nat} (hk : k < g.length) : (nodeN g k).inn.length = 0 ↔ ((nodeN g k).kind = 1 ∨ (nodeN g k).kind = 2) := by
  obtain ⟨s, hs⟩ := Option.isSome_iff_exists.1 h
  obtain ⟨kd, h1, h2, _⟩ := run_node (shapes_iff.1 hs).2.1 k hk
  obtain ⟨h3, h4, _⟩ := ofB_parts h2
  obtain ⟨h5, h6⟩ := kindOf_least h1
  constructor
  · intro h0
    apply Classical.byContradiction
    intro hc
    have := h6 hc
    omega
  · intro hc
    have := h5 hc
    omega
end Gr

theorem rem_nat {m : Int} {n : Nat} (h0 : 0 ≤ m) (hn : 0 < n) : ∃ r : Nat, Int.tmod m (n : Int) = (r : Int) ∧ r < n := by
  refine ⟨(m % (n : Int)).toNat, ?_, ?_⟩
  · rw [Int.tmod_eq_emod_of_nonneg h0]
    have := Int.emod_nonneg m (show (n : Int) ≠ 0 by omega)
    omega
  · have := Int.emod_lt_of_pos m (show (0 : Int) < (n : Int) by omega)
    have := Int.emod_nonneg m (show (n : Int) ≠ 0 by omega)
    omega

theorem rowL_take (L : List (List Int)) (k i : Nat) (h : i < k) : rowL (L.take k) i = rowL L i := by
  unfold rowL; simp only [List.getD_eq_getElem?_getD, List.getElem?_take, h, if_true]
end Go.Proofs.Ytgmagldbfajedaa

/- GrMoreP: Plain Lean: what the law GraphsMore says; small literals.
-/
namespace Go.Proofs.Ytgmagldbfajedaa
open Go.RowKit

namespace Gr
theorem run_all {g : List Node} {s : List (List Int)} (h : shapes g = some s) : ∀ t ∈ s, chk t = true := run_chk _ _ _ (shapes_iff.1 h).2.1 (fun _ h => by cases h)
theorem more_relu {g : List Node} {s : List (List Int)} (h : shapes g = some s) (r : Nat) (hr : r < g.length) : shapes (g ++ [⟨5, [r], [], 0, 0⟩]) = if g.length < 32 then some (s ++ [rowL s r]) else none := by
  have hl := shapes_len h
  have e : step s ⟨5, [r], [], 0, 0⟩ = some (rowL s r) := by
    rw [step_relu (run_all h)]
    simp only
    rw [if_pos ⟨by omega, by omega, trivial⟩, rowAt_nat]
  rw [shapes_snoc h (by simp) (by simp), e]
theorem more_shift {g : List Node} {s : List (List Int)} (h : shapes g = some s) (r : Nat) (hr : r < g.length) (by_ : Int) : (shapes (g ++ [⟨6, [r], [], by_, 0⟩])).isSome = (decide (g.length < 32) && decide (0 ≤ by_) && decide (by_ ≤ 31)) := by
  have hl := shapes_len h
  rw [shapes_snoc h (by simp) (by simp), step_shift (run_all h) r by_ (by omega) (by omega)]
  by_cases c : g.length < 32
  · rw [if_pos c]
    by_cases c1 : 0 ≤ by_ ∧ by_ ≤ 31
    · rw [if_pos c1]; simp [c, c1.1, c1.2]
    · rw [if_neg c1]
      by_cases c2 : 0 ≤ by_
      · have : ¬ by_ ≤ 31 := fun h => c1 ⟨c2, h⟩
        simp [c, c2, this]
      · simp [c, c2]
  · rw [if_neg c]; simp [c]
theorem more_bad {g : List Node} {s : List (List Int)} (h : shapes g = some s) (inn : List Int) (n : Int) (hb : ∀ k, inn = [k] → ¬ (0 ≤ k ∧ k < s.length ∧ n = 0)) : shapes (g ++ [⟨5, inn, [], n, 0⟩]) = none := by
  rw [shapes_snoc h (by simp) (by simp), step_relu (run_all h)]
  match inn, hb with
  | [], _ => simp
  | [k], hb => simp only; rw [if_neg (hb k rfl)]; simp
  | a :: b :: r, _ => simp
end Gr

theorem ints_k (w : World) (k : Int) (h : -9223372036854775808 ≤ k ∧ k ≤ 9223372036854775807) : Ints (w.alloc (.cells #[.int .i64 k] 3)) (some ⟨w.heap.size, 0, none⟩) 1 1 [k] :=
  ints_lits w _ [k] rfl (by simp) (fun n hn => by simp at hn; subst hn; exact h)
theorem ints_kb (w : World) (b : Nat) (hb : b = w.heap.size) (k : Int) (h : -9223372036854775808 ≤ k ∧ k ≤ 9223372036854775807) : Ints (w.alloc (.cells #[.int .i64 k] 3)) (some ⟨b, 0, none⟩) 1 1 [k] :=
  ints_lits w b [k] hb (by simp) (fun n hn => by simp at hn; subst hn; exact h)
theorem ints_kk (w : World) (k m : Int) (h : -9223372036854775808 ≤ k ∧ k ≤ 9223372036854775807) (h2 : -9223372036854775808 ≤ m ∧ m ≤ 9223372036854775807) : Ints (w.alloc (.cells #[.int .i64 k, .int .i64 m] 3)) (some ⟨w.heap.size, 0, none⟩) 2 2 [k, m] :=
  ints_lits w _ [k, m] rfl (by simp) (fun n hn => by simp at hn; rcases hn with rfl | rfl <;> assumption)
theorem nodeV_lit2 {w : World} {ai sa : Option Addr} {li ci ls cs : Nat} {kd n pad : Int} {inn shp : List Int} (hi : Ints w ai li ci inn) (hs : Ints w sa ls cs shp) (h1 : li ≤ 1000) (h2 : ls ≤ 1000) (h3 : 0 ≤ kd ∧ kd ≤ 255) (h4 : -9223372036854775808 ≤ n ∧ n ≤ 9223372036854775807) (h5 : -1000 ≤ pad ∧ pad ≤ 1000) :
    NodeV w ai li ci sa ls cs ⟨kd, inn, shp, n, pad⟩ := ⟨hi, hs, by omega, by omega, h3, h4, ⟨by simp only; omega, by simp only; omega⟩⟩

end Go.Proofs.Ytgmagldbfajedaa
