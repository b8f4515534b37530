/-
  A slice of nodes that the call itself appends to (OwnN).
-/
import Derived.Test.YtgmagldbfajedaaGrOpen
import Derived.Test.YtgmagldbfajedaaGrGrid
namespace Go.Proofs.Ytgmagldbfajedaa
open Go.RowKit

theorem Try.info46 : (Try.prog.info? 46).map (fun i => (i.zero, i.size, i.bytes)) = some (some (.agg #[.int .u8 0, .slice none 0 0, .slice none 0 0, .int .i64 0, .int .i64 0]), 5, 72) := by kernel_rfl

/-- Five values are a node's. -/
def NodeVs (w0 : World) (vs : List Value) (o : Nat) (x : Gr.Node) : Prop :=
  ∃ ai li ci sa ls cs, vs[o]? = some (.int .u8 x.kind) ∧ vs[o + 1]? = some (.slice ai li ci) ∧ vs[o + 2]? = some (.slice sa ls cs) ∧ vs[o + 3]? = some (.int .i64 x.n) ∧ vs[o + 4]? = some (.int .i64 x.pad) ∧ NodeV w0 ai li ci sa ls cs x

/-- A slice of nodes that the call itself made: it may be appended to. -/
def OwnN (w0 : World) (base : Nat) (w : World) (v : Value) (g : List Gr.Node) : Prop :=
  ∃ vs : List Value, w.ownsRow base 46 5 v g.length vs ∧ ∀ i, i < g.length → NodeVs w0 vs (i * 5) (nodeN g i)

theorem OwnN.nil (w0 : World) (base : Nat) (w : World) : OwnN w0 base w (.slice none 0 0) [] := ⟨[], World.ownsRow_nil w base 46 5, fun i hi => absurd hi (Nat.not_lt_zero _)⟩

theorem OwnN.below {w0 : World} {base : Nat} {w w' : World} {v : Value} {g : List Gr.Node} (h : OwnN w0 base w v g) (hb : Below w.heap.size w w') : OwnN w0 base w' v g := by
  obtain ⟨vs, ⟨h1, h2⟩, h4⟩ := h
  refine ⟨vs, ⟨h1, ?_⟩, h4⟩
  rcases h2 with h2 | ⟨g, cap, cur, hv, hg, hh, r⟩
  · exact .inl h2
  · exact .inr ⟨g, cap, cur, hv, hg, by rw [hb.block g (Array.getElem?_eq_some_iff.1 hh).1]; exact hh, r⟩

/-- What an owned slice of nodes reads as. -/
theorem OwnN.nodes {w0 : World} {base : Nat} {w : World} {v : Value} {g : List Gr.Node} (h : OwnN w0 base w v g) (hlen : g.length ≤ 17592186044416) : ∃ a len cap, v = .slice a len cap ∧ NodesIn w w0 a len cap g := by
  obtain ⟨vs, ⟨h1, h2⟩, h4⟩ := h
  rcases h2 with ⟨rfl, h0⟩ | ⟨b, cap, cur, rfl, hg, hh, hn, hm, hc, ht⟩
  · have : g = [] := List.eq_nil_of_length_eq_zero h0
    subst this
    exact ⟨none, 0, 0, rfl, NodesIn.nil⟩
  · have hlt := (Array.getElem?_eq_some_iff.1 hh).1
    have hcell : ∀ i u, vs[i]? = some u → w.cell? ⟨b, 0 + i, none⟩ = some u := fun i u hu => by
      rw [Nat.zero_add, show w.cell? ⟨b, i, none⟩ = cur[i]? by simp [World.cell?, hh]]
      rw [← ht, List.getElem?_take] at hu
      split at hu
      · simpa using hu
      · cases hu
    refine ⟨_, _, _, rfl, ⟨hn, by unfold maxLen at hm; omega, hlen, rfl, fun _ => ⟨b, 0, rfl, hlt, fun i hi => ?_⟩⟩⟩
    obtain ⟨ai, li, ci, sa, ls, cs, e0, e1, e2, e3, e4, hv⟩ := h4 i hi
    exact ⟨ai, li, ci, sa, ls, cs, hcell _ _ e0, hcell _ _ e1, hcell _ _ e2, hcell _ _ e3, hcell _ _ e4, hv⟩

/-- The cells of some nodes, as a list. -/
theorem NodesIn.cells {w w0 : World} {b off len cap : Nat} {g : List Gr.Node} (h : NodesIn w w0 (some ⟨b, off, none⟩) len cap g) :
    ∃ vs : List Value, vs.length = len * 5 ∧ (∀ j u, vs[j]? = some u → w.cell? ⟨b, off + j, none⟩ = some u) ∧ (∀ u ∈ vs, u.oneCell' = true) ∧ ∀ i, i < len → NodeVs w0 vs (i * 5) (nodeN g i) := by
  by_cases h0 : 0 < len
  · obtain ⟨b', off', e, hlt, hc⟩ := h.at_ h0
    simp only [Option.some.injEq, Addr.mk.injEq] at e
    obtain ⟨rfl, rfl, _⟩ := e
    have key : ∀ j, j < len * 5 → ∃ u, w.cell? ⟨b, off + j, none⟩ = some u ∧ u.oneCell' = true := fun j hj => by
      obtain ⟨ai, li, ci, sa, ls, cs, h0, h1, h2, h3, h4, hv⟩ := hc (j / 5) (by omega)
      have hr : j % 5 = 0 ∨ j % 5 = 1 ∨ j % 5 = 2 ∨ j % 5 = 3 ∨ j % 5 = 4 := by omega
      rcases hr with r | r | r | r | r
      · rw [show off + j = off + j / 5 * 5 by omega]; exact ⟨_, h0, rfl⟩
      · rw [show off + j = off + j / 5 * 5 + 1 by omega]; exact ⟨_, h1, rfl⟩
      · rw [show off + j = off + j / 5 * 5 + 2 by omega]; exact ⟨_, h2, rfl⟩
      · rw [show off + j = off + j / 5 * 5 + 3 by omega]; exact ⟨_, h3, rfl⟩
      · rw [show off + j = off + j / 5 * 5 + 4 by omega]; exact ⟨_, h4, rfl⟩
    have hget : ∀ j, j < len * 5 → ((List.range (len * 5)).map fun j => (w.cell? ⟨b, off + j, none⟩).getD (.int .i64 0))[j]? = w.cell? ⟨b, off + j, none⟩ := fun j hj => by
      obtain ⟨u, hu, _⟩ := key j hj
      rw [List.getElem?_map, List.getElem?_range hj, hu]
      simp [hu]
    refine ⟨(List.range (len * 5)).map fun j => (w.cell? ⟨b, off + j, none⟩).getD (.int .i64 0), by simp, fun j u hu => ?_, fun u hu => ?_, fun i hi => ?_⟩
    · have hj : j < len * 5 := by have := (List.getElem?_eq_some_iff.1 hu).1; simpa using this
      rw [← hget j hj]; exact hu
    · obtain ⟨j, hj, rfl⟩ := List.mem_map.1 hu
      obtain ⟨u, hu, h1⟩ := key j (List.mem_range.1 hj)
      rw [hu]; exact h1
    · obtain ⟨ai, li, ci, sa, ls, cs, h0, h1, h2, h3, h4, hv⟩ := hc i hi
      refine ⟨ai, li, ci, sa, ls, cs, ?_, ?_, ?_, ?_, ?_, hv⟩
      · rw [hget _ (by omega)]; exact h0
      · rw [hget _ (by omega)]; exact h1
      · rw [hget _ (by omega)]; exact h2
      · rw [hget _ (by omega)]; exact h3
      · rw [hget _ (by omega)]; exact h4
  · have hz : len = 0 := by omega
    subst hz
    exact ⟨[], rfl, fun j u hu => by simp at hu, fun u hu => (by cases hu), fun i hi => absurd hi (Nat.not_lt_zero _)⟩

theorem nodeN_append_left (g g2 : List Gr.Node) (i : Nat) (h : i < g.length) : nodeN (g ++ g2) i = nodeN g i := by
  unfold nodeN; rw [List.getD_eq_getElem?_getD, List.getD_eq_getElem?_getD, List.getElem?_append_left h]
theorem nodeN_append_right (g g2 : List Gr.Node) (i : Nat) : nodeN (g ++ g2) (g.length + i) = nodeN g2 i := by
  unfold nodeN; rw [List.getD_eq_getElem?_getD, List.getD_eq_getElem?_getD, List.getElem?_append_right (by omega)]; simp

/-- 'l = append(l, m...)' of nodes, on a slice of the call's own. -/
theorem wpList_appN {ops : Array Oper} {rest : List Oper} {o : Oper} {a : Act} {Q : Exit → Act → World → Prop} (w w0 : World) (hgd : o.guard = none) (s t : Operand)
    (ho : o.op = .call { callee := .builtin .append, args := #[s, t], argTypes := #[36, 36] }) (base : Nat) (v : Value) (g g2 : List Gr.Node) (b off m c : Nat)
    (hown : OwnN w0 base w v g) (h2 : NodesIn w w0 (some ⟨b, off, none⟩) m c g2)
    (hs : a.eval s = v) (ht : a.eval t = .slice (some ⟨b, off, none⟩) m c) (hb : base ≤ w.heap.size) (hlen : g.length ≤ 10000000) (hlen2 : m ≤ 10000000)
    (h : ∀ v' w', OwnN w0 base w' v' (g ++ g2) → Below base w w' → w.grownBy w' v.ownBlock → wpList Try.prog ops Q rest (a.put o.dst v') w') :
    wpList Try.prog ops Q (o :: rest) a w := by
  obtain ⟨i0, hi, hz0, hz1, hz2⟩ := info_parts Try.info46
  obtain ⟨vs, hrow, hvs⟩ := hown
  obtain ⟨news, hn1, hn2, hn3, hn4⟩ := h2.cells
  have hg2 := h2.length
  refine wpList_append_own_at _ hgd s t 36 ho base 46 i0 _ 5 72 Try.underlying36 hi hz0 hz1 hz2 rfl (by decide) v g.length vs hs hrow ⟨b, off, none⟩ m c news ht hn1 (fun j u hu => by rw [Addr.add_lit]; exact hn2 j u hu) hn3 ?_ ?_ hb ?_
  · unfold maxLen; omega
  · omega
  · intro v' w' hown' hgrow _ _
    refine h v' w' ⟨vs ++ news, by rw [List.length_append, hg2]; exact hown', fun i hi => ?_⟩ ?_ hgrow
    · have hvl : vs.length = g.length * 5 := hrow.1
      by_cases hlt : i < g.length
      · rw [nodeN_append_left _ _ _ hlt]
        obtain ⟨ai, li, ci, sa, ls, cs, e0, e1, e2, e3, e4, hv⟩ := hvs i hlt
        refine ⟨ai, li, ci, sa, ls, cs, ?_, ?_, ?_, ?_, ?_, hv⟩ <;> (rw [List.getElem?_append_left (by omega)]; assumption)
      · obtain ⟨k, rfl⟩ : ∃ k, i = g.length + k := ⟨i - g.length, by omega⟩
        rw [nodeN_append_right]
        obtain ⟨ai, li, ci, sa, ls, cs, e0, e1, e2, e3, e4, hv⟩ := hn4 k (by rw [List.length_append] at hi; omega)
        refine ⟨ai, li, ci, sa, ls, cs, ?_, ?_, ?_, ?_, ?_, hv⟩
        · rw [List.getElem?_append_right (by omega), show (g.length + k) * 5 - vs.length = k * 5 by omega]; exact e0
        · rw [List.getElem?_append_right (by omega), show (g.length + k) * 5 + 1 - vs.length = k * 5 + 1 by omega]; exact e1
        · rw [List.getElem?_append_right (by omega), show (g.length + k) * 5 + 2 - vs.length = k * 5 + 2 by omega]; exact e2
        · rw [List.getElem?_append_right (by omega), show (g.length + k) * 5 + 3 - vs.length = k * 5 + 3 by omega]; exact e3
        · rw [List.getElem?_append_right (by omega), show (g.length + k) * 5 + 4 - vs.length = k * 5 + 4 by omega]; exact e4
    · exact (Below.refl base w).grown hgrow hb fun k hk => (World.ownsRow.lt hrow k hk).1

end Go.Proofs.Ytgmagldbfajedaa
