import Derived.Deep.RegionLaw
import Derived.Handy
import Derived.Test.YtekejcnphmnidaaGreatDoorZBf
import Derived.Test.YtekejcnphmnidaaGreatDoorZBg
namespace Go.Proofs.YtekejcnphmnidaaGreatDoor
open Go.RowKit
theorem Tryz.info103 : (Tryz.prog.info? 103).map (fun i => (i.zero, i.size, i.bytes)) = some (some (.agg #[.int .u8 0, .slice none 0 0, .slice none 0 0, .int .i64 0, .int .i64 0]), 5, 72) := by kernel_rfl
def NodeVs (w0 : World) (vs : List Value) (o : Nat) (x : Gr.Node) : Prop :=
  ∃ ai li ci sa ls cs, vs[o]? = some (.int .u8 x.kind) ∧ vs[o + 1]? = some (.slice ai li ci) ∧ vs[o + 2]? = some (.slice sa ls cs) ∧ vs[o + 3]? = some (.int .i64 x.n) ∧ vs[o + 4]? = some (.int .i64 x.pad) ∧ NodeV w0 ai li ci sa ls cs x
def OwnN (w0 : World) (base : Nat) (w : World) (v : Value) (g : List Gr.Node) : Prop :=
  ∃ vs : List Value, w.ownsRow base 103 5 v g.length vs ∧ ∀ i, i < g.length → NodeVs w0 vs (i * 5) (nodeN g i)
theorem OwnN.nil (w0 : World) (base : Nat) (w : World) : OwnN w0 base w (.slice none 0 0) [] := ⟨[], World.ownsRow_nil w base 103 5, fun _ hi => absurd hi (Nat.not_lt_zero _)⟩
theorem OwnN.below {w0 : World} {base : Nat} {w w' : World} {v : Value} {g : List Gr.Node} (h : OwnN w0 base w v g) (hb : Below w.heap.size w w') : OwnN w0 base w' v g := by
  obtain ⟨vs, ⟨h1, h2⟩, h4⟩ := h
  refine ⟨vs, ⟨h1, ?_⟩, h4⟩
  rcases h2 with h2 | ⟨g, cap, cur, hv, hg, hh, r⟩
  · exact .inl h2
  · exact .inr ⟨g, cap, cur, hv, hg, by rw [hb.block g (Array.getElem?_eq_some_iff.1 hh).1]; exact hh, r⟩
theorem OwnN.nodes {w0 : World} {base : Nat} {w : World} {v : Value} {g : List Gr.Node} (h : OwnN w0 base w v g) (hlen : g.length ≤ 17592186044416) : ∃ a len cap, v = .slice a len cap ∧ NodesIn w w0 a len cap g := by
  obtain ⟨vs, ⟨h1, h2⟩, h4⟩ := h
  rcases h2 with ⟨rfl, h0⟩ | ⟨b, cap, cur, rfl, hg, hh, hn, hm, hc, ht⟩
  · have : g = [] := List.eq_nil_of_length_eq_zero h0
    subst this
    exact ⟨none, 0, 0, rfl, NodesIn.nil⟩
  · have hlt := (Array.getElem?_eq_some_iff.1 hh).1
    have hcell : ∀ i u, vs[i]? = some u → w.cell? ⟨b, 0 + i, none⟩ = some u := fun i u hu => by
      rw [Nat.zero_add, show w.cell? ⟨b, i, none⟩ = cur[i]? by simp [World.cell?, hh]]
      rw [← ht, List.getElem?_take] at hu
      split at hu
      · simpa using hu
      · cases hu
    refine ⟨_, _, _, rfl, ⟨hn, by unfold maxLen at hm; omega, hlen, rfl, fun _ => ⟨b, 0, rfl, hlt, fun i hi => ?_⟩⟩⟩
    obtain ⟨ai, li, ci, sa, ls, cs, e0, e1, e2, e3, e4, hv⟩ := h4 i hi
    exact ⟨ai, li, ci, sa, ls, cs, hcell _ _ e0, hcell _ _ e1, hcell _ _ e2, hcell _ _ e3, hcell _ _ e4, hv⟩
theorem NodesIn.cells {w w0 : World} {b off len cap : Nat} {g : List Gr.Node} (h : NodesIn w w0 (some ⟨b, off, none⟩) len cap g) :
    ∃ vs : List Value, vs.length = len * 5 ∧ (∀ j u, vs[j]? = some u → w.cell? ⟨b, off + j, none⟩ = some u) ∧ (∀ u ∈ vs, u.oneCell' = true) ∧ ∀ i, i < len → NodeVs w0 vs (i * 5) (nodeN g i) := by
  by_cases h0 : 0 < len
  · obtain ⟨b', off', e, hlt, hc⟩ := h.at_ h0
    simp only [Option.some.injEq, Addr.mk.injEq] at e
    obtain ⟨rfl, rfl, _⟩ := e
    have key : ∀ j, j < len * 5 → ∃ u, w.cell? ⟨b, off + j, none⟩ = some u ∧ u.oneCell' = true := fun j hj => by
      obtain ⟨ai, li, ci, sa, ls, cs, h0, h1, h2, h3, h4, hv⟩ := hc (j / 5) (by omega)
      have hr : j % 5 = 0 ∨ j % 5 = 1 ∨ j % 5 = 2 ∨ j % 5 = 3 ∨ j % 5 = 4 := by omega
      rcases hr with r | r | r | r | r
      · rw [show off + j = off + j / 5 * 5 by omega]; exact ⟨_, h0, rfl⟩
      · rw [show off + j = off + j / 5 * 5 + 1 by omega]; exact ⟨_, h1, rfl⟩
      · rw [show off + j = off + j / 5 * 5 + 2 by omega]; exact ⟨_, h2, rfl⟩
      · rw [show off + j = off + j / 5 * 5 + 3 by omega]; exact ⟨_, h3, rfl⟩
      · rw [show off + j = off + j / 5 * 5 + 4 by omega]; exact ⟨_, h4, rfl⟩
    have hget : ∀ j, j < len * 5 → ((List.range (len * 5)).map fun j => (w.cell? ⟨b, off + j, none⟩).getD (.int .i64 0))[j]? = w.cell? ⟨b, off + j, none⟩ := fun j hj => by
      obtain ⟨u, hu, _⟩ := key j hj
      rw [List.getElem?_map, List.getElem?_range hj, hu]
      simp [hu]
    refine ⟨(List.range (len * 5)).map fun j => (w.cell? ⟨b, off + j, none⟩).getD (.int .i64 0), by simp, fun j u hu => ?_, fun u hu => ?_, fun i hi => ?_⟩
    · have hj : j < len * 5 := by have := (List.getElem?_eq_some_iff.1 hu).1; simpa using this
      rw [← hget j hj]; exact hu
    · obtain ⟨j, hj, rfl⟩ := List.mem_map.1 hu
      obtain ⟨u, hu, h1⟩ := key j (List.mem_range.1 hj)
      rw [hu]; exact h1
    · obtain ⟨ai, li, ci, sa, ls, cs, h0, h1, h2, h3, h4, hv⟩ := hc i hi
      refine ⟨ai, li, ci, sa, ls, cs, ?_, ?_, ?_, ?_, ?_, hv⟩
      · rw [hget _ (by omega)]; exact h0
      · rw [hget _ (by omega)]; exact h1
      · rw [hget _ (by omega)]; exact h2
      · rw [hget _ (by omega)]; exact h3
      · rw [hget _ (by omega)]; exact h4
  · have hz : len = 0 := by omega
    subst hz
    exact ⟨[], rfl, fun j u hu => by simp at hu, fun u hu => (by cases hu), fun i hi => absurd hi (Nat.not_lt_zero _)⟩
theorem nodeN_append_left (g g2 : List Gr.Node) (i : Nat) (h : i < g.length) : nodeN (g ++ g2) i = nodeN g i := by
  unfold nodeN; rw [List.getD_eq_getElem?_getD, List.getD_eq_getElem?_getD, List.getElem?_append_left h]
end Go.Proofs.YtekejcnphmnidaaGreatDoor
namespace Go.Proofs.YtekejcnphmnidaaGreatDoor
open Go.RowKit
theorem NodesIn.grown {w w' w0 : World} {row : Option Nat} {b off len cap : Nat} {g : List Gr.Node} (h : NodesIn w w0 (some ⟨b, off, none⟩) len cap g) (hg : w.grownBy w' row) (hn : some b ≠ row) : NodesIn w' w0 (some ⟨b, off, none⟩) len cap g :=
  ⟨h.le, h.cap_le, h.len_le, h.length, fun h0 => by
    obtain ⟨b', off', e, hlt, hc⟩ := h.at_ h0
    simp only [Option.some.injEq, Addr.mk.injEq] at e
    obtain ⟨rfl, rfl, _⟩ := e
    refine ⟨b, off, rfl, Nat.lt_of_lt_of_le hlt hg.size, fun i hi => ?_⟩
    obtain ⟨ai, li, ci, sa, ls, cs, h0, h1, h2, h3, h4, hv⟩ := hc i hi
    exact ⟨ai, li, ci, sa, ls, cs, hg.cell h0 hn, hg.cell h1 hn, hg.cell h2 hn, hg.cell h3 hn, hg.cell h4 hn, hv⟩⟩
theorem NodesIn.one {w w0 : World} {ai sa : Option Addr} {li ci ls cs : Nat} {x : Gr.Node} (hv : NodeV w0 ai li ci sa ls cs x) :
    NodesIn (w.alloc (.cells #[.int .u8 x.kind, .slice ai li ci, .slice sa ls cs, .int .i64 x.n, .int .i64 x.pad] 103)) w0 (some ⟨w.heap.size, 0, none⟩) 1 1 [x] := by
  refine ⟨Nat.le_refl _, by omega, by omega, rfl, fun _ => ⟨w.heap.size, 0, rfl, by simp, fun i hi => ?_⟩⟩
  obtain rfl : i = 0 := by omega
  refine ⟨ai, li, ci, sa, ls, cs, ?_, ?_, ?_, ?_, ?_, hv⟩ <;> (rw [World.cell?_alloc_at _ _ _ _ rfl]; rfl)
theorem OwnN.store {w0 : World} {base : Nat} {w : World} {v : Value} {g : List Gr.Node} (h : OwnN w0 base w v g) (c o : Nat) (u : Value) (hc : c < base) : OwnN w0 base (w.setCell ⟨c, o, none⟩ u) v g := by
  obtain ⟨vs, ⟨h1, h2⟩, h4⟩ := h
  refine ⟨vs, ⟨h1, ?_⟩, h4⟩
  rcases h2 with h2 | ⟨g', cap, cur, hv, hg', hh, r⟩
  · exact .inl h2
  · exact .inr ⟨g', cap, cur, hv, hg', by rw [Below.heap_setCell _ _ _ _ (by intro e; simp only at e; omega)]; exact hh, r⟩
end Go.Proofs.YtekejcnphmnidaaGreatDoor
namespace Go.Proofs.YtekejcnphmnidaaGreatDoor
open Go.RowKit
def gKnown : List Gr.Node := [⟨1, [], [2, 3], 0, 0⟩, ⟨2, [], [3, 2], 0, 0⟩, ⟨7, [0, 1], [], 0, 0⟩, ⟨5, [2], [], 0, 0⟩]
theorem shapes_nil : Gr.shapes [] = none := by decide
theorem ints_lits (w : World) (b : Nat) (l : List Int) (hb : b = w.heap.size) (hl : l.length ≤ 1000000) (hwf : ∀ n ∈ l, -9223372036854775808 ≤ n ∧ n ≤ 9223372036854775807) :
    Ints (w.alloc (.cells (l.map (Value.int .i64)).toArray 3)) (some ⟨b, 0, none⟩) l.length l.length l := by
  subst hb
  refine ⟨Nat.le_refl _, by omega, rfl, hwf, fun _ => ⟨w.heap.size, 0, rfl, by simp, fun i hi => ?_⟩⟩
  rw [World.cell?_alloc_at _ _ _ _ rfl, Nat.zero_add]
  simp only [List.getElem?_toArray, List.getElem?_map, List.getElem?_eq_getElem hi]
  rw [nth_eq l i hi]; rfl
theorem nodeV_lit {w : World} {ai sa : Option Addr} {li ci ls cs : Nat} {kd n pad : Int} {inn shp : List Int} (hi : Ints w ai li ci inn) (hs : Ints w sa ls cs shp) (h1 : li ≤ 1000) (h2 : ls ≤ 1000) (h3 : 0 ≤ kd ∧ kd ≤ 255) (h4 : -1000 ≤ n ∧ n ≤ 1000) (h5 : -1000 ≤ pad ∧ pad ≤ 1000) :
    NodeV w ai li ci sa ls cs ⟨kd, inn, shp, n, pad⟩ := ⟨hi, hs, by omega, by omega, h3, ⟨by simp only; omega, by simp only; omega⟩, ⟨by simp only; omega, by simp only; omega⟩⟩
end Go.Proofs.YtekejcnphmnidaaGreatDoor
namespace Go.Proofs.YtekejcnphmnidaaGreatDoor
open Go.RowKit
structure KSt (w : World) (G b off : Nat) (wk : World) : Prop where
  bel : Below w.heap.size w wk
  cell : wk.cell? ⟨G, 0, none⟩ = some (.slice (some ⟨b, off, none⟩) 4 4)
  lt : G < wk.heap.size
  n : Nodes wk (some ⟨b, off, none⟩) 4 4 gKnown
theorem KSt.on {w : World} {G b off : Nat} {wk w' : World} (h : KSt w G b off wk) (hb : Below wk.heap.size wk w') : KSt w G b off w' :=
  ⟨h.bel.trans (hb.mono h.bel.size), (hb.cell (p := ⟨G, 0, none⟩) h.lt).trans h.cell, Nat.lt_of_lt_of_le h.lt hb.size, h.n.on hb⟩
theorem KSt.alloc {w : World} {G b off : Nat} {wk : World} (h : KSt w G b off wk) (o : Obj) : KSt w G b off (wk.alloc o) := h.on ((Below.refl _ _).alloc (Nat.le_refl _) o)
end Go.Proofs.YtekejcnphmnidaaGreatDoor
namespace Go.Proofs.YtekejcnphmnidaaGreatDoor
open Go.RowKit
structure GSt (w : World) (a : Option Addr) (len cap : Nat) (g : List Gr.Node) (wk : World) : Prop where
  bel : Below w.heap.size w wk
  cell : wk.cell? ⟨w.heap.size, 0, none⟩ = some (.slice a len cap)
  lt : w.heap.size < wk.heap.size
  n : Nodes wk a len cap g
theorem GSt.on {w : World} {a : Option Addr} {len cap : Nat} {g : List Gr.Node} {wk w' : World} (h : GSt w a len cap g wk) (hb : Below wk.heap.size wk w') : GSt w a len cap g w' :=
  ⟨h.bel.trans (hb.mono h.bel.size), (hb.cell (p := ⟨w.heap.size, 0, none⟩) h.lt).trans h.cell, Nat.lt_of_lt_of_le h.lt hb.size, h.n.on hb⟩
theorem GSt.alloc {w : World} {a : Option Addr} {len cap : Nat} {g : List Gr.Node} {wk : World} (h : GSt w a len cap g wk) (o : Obj) : GSt w a len cap g (wk.alloc o) := h.on ((Below.refl _ _).alloc (Nat.le_refl _) o)
theorem GSt.start {w : World} {a : Option Addr} {len cap : Nat} {g : List Gr.Node} (h : Nodes w a len cap g) : GSt w a len cap g (w.alloc (.cells #[.slice a len cap] 56)) :=
  ⟨(Below.refl _ _).alloc (Nat.le_refl _) _, by rw [World.cell?_alloc_at _ _ _ _ rfl]; rfl, by simp, h.on ((Below.refl _ _).alloc (Nat.le_refl _) _)⟩
namespace Gr
end Gr
end Go.Proofs.YtekejcnphmnidaaGreatDoor
namespace Go.Proofs.YtekejcnphmnidaaGreatDoor
open Go.RowKit
namespace Gr
end Gr
end Go.Proofs.YtekejcnphmnidaaGreatDoor
