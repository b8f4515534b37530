import Derived.OwnWalk
import Derived.Maps.AppendAt
import Derived.Deep.RegionHeld3
import Derived.Test.YtekejcnphmnidaaGreatDoorZBh
namespace Go.Proofs.YtekejcnphmnidaaGreatDoor
open Go.RowKit
def RowAt (base : Nat) (w : World) (v : Value) (b : Nat) (l : List Int) : Prop := ∃ o c, v = .slice (some ⟨b, o, none⟩) l.length c ∧ Mine base w b o c l
theorem Mine.grown {base : Nat} {w w' : World} {g off cap : Nat} {l : List Int} {row : Option Nat} (h : Mine base w g off cap l) (hg : w.grownBy w' row) (hne : row ≠ some g) : Mine base w' g off cap l :=
  ⟨h.lo, Nat.lt_of_lt_of_le h.lt hg.size, h.le, h.cap_le, fun i hi => hg.cell (h.cell i hi) (Ne.symm hne), fun i hi => (World.frozen?_of_block (hg.block g h.lt (Ne.symm hne))).trans (h.fr i hi)⟩
theorem RowAt.grown {base : Nat} {w w' : World} {v : Value} {b : Nat} {l : List Int} {row : Option Nat} (h : RowAt base w v b l) (hg : w.grownBy w' row) (hne : row ≠ some b) : RowAt base w' v b l := by
  obtain ⟨o, c, e, hM⟩ := h
  exact ⟨o, c, e, hM.grown hg hne⟩
theorem RowAt.below {base : Nat} {w w' : World} {v : Value} {b : Nat} {l : List Int} (h : RowAt base w v b l) (hb : Below w.heap.size w w') : RowAt base w' v b l := by
  obtain ⟨o, c, e, hM⟩ := h
  exact ⟨o, c, e, hM.below hb⟩
theorem RowAt.mono {base base' : Nat} {w : World} {v : Value} {b : Nat} {l : List Int} (h : RowAt base w v b l) (hb : base' ≤ base) : RowAt base' w v b l := by
  obtain ⟨o, c, e, hM⟩ := h
  exact ⟨o, c, e, hM.mono hb⟩
theorem RowAt.lt {base : Nat} {w : World} {v : Value} {b : Nat} {l : List Int} (h : RowAt base w v b l) : base ≤ b ∧ b < w.heap.size := by
  obtain ⟨o, c, e, hM⟩ := h
  exact ⟨hM.lo, hM.lt⟩
theorem RowAt.one {base : Nat} {w : World} {v : Value} {b : Nat} {l : List Int} (h : RowAt base w v b l) : v.oneCell' = true := by
  obtain ⟨o, c, rfl, hM⟩ := h
  rfl
theorem RowAt.store {base : Nat} {w : World} {v : Value} {b : Nat} {l : List Int} (h : RowAt base w v b l) (k o : Nat) (u : Value) (hne : k ≠ b) : RowAt base (w.setCell ⟨k, o, none⟩ u) v b l := by
  obtain ⟨q, c, e, hM⟩ := h
  refine ⟨q, c, e, hM.lo, by simpa [World.setCell] using hM.lt, hM.le, hM.cap_le, fun i hi => ?_, fun i hi => by rw [World.frozen?_setCell]; exact hM.fr i hi⟩
  have hne2 : (⟨b, q + i, none⟩ : Addr) ≠ ⟨k, o, none⟩ := fun c => hne (Addr.mk.inj c).1.symm
  rw [World.cell?_setCell_other _ _ _ _ (by first | exact hne2 | exact hne2.symm)]
  exact hM.cell i hi
def TwinVs (base : Nat) (w : World) (vs : List Value) (o fb hb : Nat) (x : Gr.Node) : Prop :=
  ∃ vi vsh, vs[o]? = some (.int .u8 x.kind) ∧ vs[o + 1]? = some vi ∧ vs[o + 2]? = some vsh ∧ vs[o + 3]? = some (.int .i64 x.n) ∧ vs[o + 4]? = some (.int .i64 x.pad) ∧ RowAt base w vi fb x.inn ∧ RowAt base w vsh hb x.shape
structure OwnT (base : Nat) (w : World) (v : Value) (f h : Nat → Nat) (g : List Gr.Node) : Prop where
  row : ∃ vs : List Value, w.ownsRow base 103 5 v g.length vs ∧ ∀ i, i < g.length → TwinVs base w vs (i * 5) (f i) (h i) (nodeN g i)
  inj : ∀ i j, i < g.length → j < g.length → f i = f j → i = j
  fh : ∀ i j, i < g.length → j < g.length → f i ≠ h j
  ne : ∀ i, i < g.length → v.ownBlock ≠ some (f i) ∧ v.ownBlock ≠ some (h i)
theorem OwnT.below {base : Nat} {w w' : World} {v : Value} {f h : Nat → Nat} {g : List Gr.Node} (H : OwnT base w v f h g) (hb : Below w.heap.size w w') : OwnT base w' v f h g := by
  obtain ⟨⟨vs, ⟨h1, h2⟩, h4⟩, i1, i2, i3⟩ := H
  refine ⟨⟨vs, ⟨h1, ?_⟩, fun i hi => ?_⟩, i1, i2, i3⟩
  · rcases h2 with h2 | ⟨q, cap, cur, hv, hg, hh, r⟩
    · exact .inl h2
    · exact .inr ⟨q, cap, cur, hv, hg, by rw [hb.block q (Array.getElem?_eq_some_iff.1 hh).1]; exact hh, r⟩
  · obtain ⟨vi, vsh, e0, e1, e2, e3, e4, r1, r2⟩ := h4 i hi
    exact ⟨vi, vsh, e0, e1, e2, e3, e4, r1.below hb, r2.below hb⟩
theorem OwnT.lts {base : Nat} {w : World} {v : Value} {f h : Nat → Nat} {g : List Gr.Node} (H : OwnT base w v f h g) : (∀ i, i < g.length → f i < w.heap.size ∧ h i < w.heap.size) ∧ ∀ k, v.ownBlock = some k → base ≤ k ∧ k < w.heap.size := by
  obtain ⟨⟨vs, h1, h4⟩, _⟩ := H
  refine ⟨fun i hi => ?_, World.ownsRow.lt h1⟩
  obtain ⟨vi, vsh, _, _, _, _, _, r1, r2⟩ := h4 i hi
  exact ⟨r1.lt.2, r2.lt.2⟩
structure TwinG (base : Nat) (w : World) (nb : Nat) (f h : Nat → Nat) (g : List Gr.Node) (I : Nat → List Int) : Prop where
  lo : base ≤ nb
  lt : nb < w.heap.size
  at_ : ∀ i, i < g.length → ∃ vi vsh, w.cell? ⟨nb, i * 5, none⟩ = some (.int .u8 (nodeN g i).kind) ∧ w.cell? ⟨nb, i * 5 + 1, none⟩ = some vi ∧ w.cell? ⟨nb, i * 5 + 2, none⟩ = some vsh ∧
    w.cell? ⟨nb, i * 5 + 3, none⟩ = some (.int .i64 (nodeN g i).n) ∧ w.cell? ⟨nb, i * 5 + 4, none⟩ = some (.int .i64 (nodeN g i).pad) ∧ RowAt base w vi (f i) (I i) ∧ RowAt base w vsh (h i) (nodeN g i).shape
  inj : ∀ i j, i < g.length → j < g.length → f i = f j → i = j
  fh : ∀ i j, i < g.length → j < g.length → f i ≠ h j
  ne : ∀ i, i < g.length → nb ≠ f i ∧ nb ≠ h i
theorem TwinG.below {base : Nat} {w w' : World} {nb : Nat} {f h : Nat → Nat} {g : List Gr.Node} {I : Nat → List Int} (H : TwinG base w nb f h g I) (hb : Below w.heap.size w w') : TwinG base w' nb f h g I := by
  refine ⟨H.lo, Nat.lt_of_lt_of_le H.lt hb.size, fun i hi => ?_, H.inj, H.fh, H.ne⟩
  obtain ⟨vi, vsh, e0, e1, e2, e3, e4, r1, r2⟩ := H.at_ i hi
  exact ⟨vi, vsh, (hb.cell (p := ⟨nb, _, none⟩) H.lt).trans e0, (hb.cell (p := ⟨nb, _, none⟩) H.lt).trans e1, (hb.cell (p := ⟨nb, _, none⟩) H.lt).trans e2, (hb.cell (p := ⟨nb, _, none⟩) H.lt).trans e3, (hb.cell (p := ⟨nb, _, none⟩) H.lt).trans e4, r1.below hb, r2.below hb⟩
theorem TwinG.set {base : Nat} {w : World} {nb : Nat} {f h : Nat → Nat} {g : List Gr.Node} {I : Nat → List Int} (H : TwinG base w nb f h g I) {i k : Nat} (hi : i < g.length) (hk : k < (I i).length) {o c : Nat} {li : Nat}
    (hc : w.cell? ⟨nb, i * 5 + 1, none⟩ = some (.slice (some ⟨f i, o, none⟩) li c)) (x : Int) :
    TwinG base (w.setCell ⟨f i, o + k, none⟩ (.int .i64 x)) nb f h g (fun j => if j = i then (I i).set k x else I j) := by
  have hx : ∀ q u, w.cell? ⟨nb, q, none⟩ = some u → (w.setCell ⟨f i, o + k, none⟩ (.int .i64 x)).cell? ⟨nb, q, none⟩ = some u := fun q u hu => by
    rw [World.cell?_setCell_other _ _ _ _ (by intro c; simp at c; exact (H.ne i hi).1 c.1.symm)]; exact hu
  refine ⟨H.lo, by simpa [World.setCell] using H.lt, fun j hj => ?_, H.inj, H.fh, H.ne⟩
  obtain ⟨vi, vsh, e0, e1, e2, e3, e4, r1, r2⟩ := H.at_ j hj
  refine ⟨vi, vsh, hx _ _ e0, hx _ _ e1, hx _ _ e2, hx _ _ e3, hx _ _ e4, ?_, r2.store _ _ _ (H.fh i j hi hj)⟩
  by_cases e : j = i
  · subst e
    rw [if_pos rfl]
    obtain ⟨q, c2, hv, hM⟩ := r1
    rw [e1] at hc
    subst hv
    simp only [Option.some.injEq, Value.slice.injEq, Addr.mk.injEq] at hc
    obtain ⟨⟨_, rfl, _⟩, rfl, rfl⟩ := hc
    exact ⟨q, c2, by rw [List.length_set], hM.set k hk x⟩
  · rw [if_neg e]
    exact r1.store _ _ _ (fun c => e (H.inj i j hi hj c).symm)
def NodeWf (x : Gr.Node) : Prop :=
  x.inn.length ≤ 17592186044416 ∧ x.shape.length ≤ 17592186044416 ∧ (0 ≤ x.kind ∧ x.kind ≤ 255) ∧ (-9223372036854775808 ≤ x.n ∧ x.n ≤ 9223372036854775807) ∧ (-9223372036854775808 ≤ x.pad ∧ x.pad ≤ 9223372036854775807) ∧
  (∀ v ∈ x.inn, -9223372036854775808 ≤ v ∧ v ≤ 9223372036854775807) ∧ (∀ v ∈ x.shape, -9223372036854775808 ≤ v ∧ v ≤ 9223372036854775807)
theorem NodesIn.wf {w w0 : World} {a : Option Addr} {len cap : Nat} {g : List Gr.Node} (h : NodesIn w w0 a len cap g) : ∀ i, i < len → NodeWf (nodeN g i) := fun i hi => by
  obtain ⟨b, off, _, _, hc⟩ := h.at_ (by omega)
  obtain ⟨ai, li, ci, sa, ls, cs, _, _, _, _, _, hv⟩ := hc i hi
  have h1 := hv.i.length
  have h2 := hv.s.length
  exact ⟨by rw [h1]; exact hv.li, by rw [h2]; exact hv.ls, hv.kind, hv.n, hv.pad, hv.i.wf, hv.s.wf⟩
theorem TwinG.nodes {base : Nat} {w : World} {nb : Nat} {f h : Nat → Nat} {g : List Gr.Node} {I : Nat → List Int} (H : TwinG base w nb f h g I) {cap : Nat} (h1 : g.length ≤ cap) (h2 : cap ≤ 9223372036854775807) (h3 : g.length ≤ 17592186044416)
    (g' : List Gr.Node) (hl : g'.length = g.length) (hg : ∀ i, i < g.length → nodeN g' i = { nodeN g i with inn := I i }) (hw : ∀ i, i < g.length → NodeWf (nodeN g' i)) : Nodes w (some ⟨nb, 0, none⟩) g.length cap g' := by
  refine ⟨h1, h2, h3, hl, fun _ => ⟨nb, 0, rfl, H.lt, fun i hi => ?_⟩⟩
  obtain ⟨vi, vsh, e0, e1, e2, e3, e4, ⟨oi, ci, rfl, m1⟩, ⟨os, cs, rfl, m2⟩⟩ := H.at_ i hi
  have hwi := hw i hi
  rw [hg i hi] at hwi ⊢
  obtain ⟨w1, w2, w3, w4, w5, w6, w7⟩ := hwi
  rw [Nat.zero_add]
  exact ⟨_, _, _, _, _, _, e0, e1, e2, e3, e4, ⟨m1.ints w6, m2.ints w7, w1, w2, w3, w4, w5⟩⟩
end Go.Proofs.YtekejcnphmnidaaGreatDoor
namespace Go.Proofs.YtekejcnphmnidaaGreatDoor
open Go.RowKit
end Go.Proofs.YtekejcnphmnidaaGreatDoor
namespace Go.Proofs.YtekejcnphmnidaaGreatDoor
open Go.RowKit
def five (w : World) (G : Nat) (v0 v1 v2 v3 v4 : Value) : World := ((((w.setCell ⟨G, 0, none⟩ v0).setCell ⟨G, 1, none⟩ v1).setCell ⟨G, 2, none⟩ v2).setCell ⟨G, 3, none⟩ v3).setCell ⟨G, 4, none⟩ v4
theorem five_other (w : World) {B G : Nat} (h : B ≠ G) (o : Nat) (v0 v1 v2 v3 v4 : Value) : (((((w.setCell ⟨G, 0, none⟩ v0).setCell ⟨G, 1, none⟩ v1).setCell ⟨G, 2, none⟩ v2).setCell ⟨G, 3, none⟩ v3).setCell ⟨G, 4, none⟩ v4).cell? ⟨B, o, none⟩ = w.cell? ⟨B, o, none⟩ := by
  have hne : ∀ i, (⟨B, o, none⟩ : Addr) ≠ ⟨G, i, none⟩ := fun i c => h (Addr.mk.inj c).1
  rw [World.cell?_setCell_other _ _ _ _ (by first | exact hne 4 | exact (hne 4).symm), World.cell?_setCell_other _ _ _ _ (by first | exact hne 3 | exact (hne 3).symm), World.cell?_setCell_other _ _ _ _ (by first | exact hne 2 | exact (hne 2).symm), World.cell?_setCell_other _ _ _ _ (by first | exact hne 1 | exact (hne 1).symm), World.cell?_setCell_other _ _ _ _ (by first | exact hne 0 | exact (hne 0).symm)]
theorem set_off (w : World) {G i j : Nat} (h : i ≠ j) (v : Value) : (w.setCell ⟨G, i, none⟩ v).cell? ⟨G, j, none⟩ = w.cell? ⟨G, j, none⟩ := by
  have hne : (⟨G, i, none⟩ : Addr) ≠ ⟨G, j, none⟩ := fun c => h (Addr.mk.inj c).2.1
  rw [World.cell?_setCell_other _ _ _ _ (by first | exact hne | exact hne.symm)]
theorem five_same (w : World) {G : Nat} {u0 u1 u2 u3 u4 : Value} (h0 : w.cell? ⟨G, 0, none⟩ = some u0) (h1 : w.cell? ⟨G, 1, none⟩ = some u1) (h2 : w.cell? ⟨G, 2, none⟩ = some u2) (h3 : w.cell? ⟨G, 3, none⟩ = some u3) (h4 : w.cell? ⟨G, 4, none⟩ = some u4) (v0 v1 v2 v3 v4 : Value) :
    (five w G v0 v1 v2 v3 v4).cell? ⟨G, 0, none⟩ = some v0 ∧ (five w G v0 v1 v2 v3 v4).cell? ⟨G, 1, none⟩ = some v1 ∧ (five w G v0 v1 v2 v3 v4).cell? ⟨G, 2, none⟩ = some v2 ∧ (five w G v0 v1 v2 v3 v4).cell? ⟨G, 3, none⟩ = some v3 ∧ (five w G v0 v1 v2 v3 v4).cell? ⟨G, 4, none⟩ = some v4 := by
  unfold five
  refine ⟨?_, ?_, ?_, ?_, ?_⟩
  · rw [set_off _ (by decide), set_off _ (by decide), set_off _ (by decide), set_off _ (by decide)]
    exact World.cell?_setCell_same _ _ _ h0
  · rw [set_off _ (by decide), set_off _ (by decide), set_off _ (by decide)]
    exact World.cell?_setCell_same _ _ _ ((set_off _ (by decide) _).trans h1)
  · rw [set_off _ (by decide), set_off _ (by decide)]
    exact World.cell?_setCell_same _ _ _ ((set_off _ (by decide) _).trans ((set_off _ (by decide) _).trans h2))
  · rw [set_off _ (by decide)]
    exact World.cell?_setCell_same _ _ _ ((set_off _ (by decide) _).trans ((set_off _ (by decide) _).trans ((set_off _ (by decide) _).trans h3)))
  · exact World.cell?_setCell_same _ _ _ ((set_off _ (by decide) _).trans ((set_off _ (by decide) _).trans ((set_off _ (by decide) _).trans ((set_off _ (by decide) _).trans h4))))
theorem five_below {base : Nat} {w0 w : World} (h : Below base w0 w) {G : Nat} (hG : base ≤ G) (v0 v1 v2 v3 v4 : Value) : Below base w0 (five w G v0 v1 v2 v3 v4) :=
  below_setCell (below_setCell (below_setCell (below_setCell (below_setCell h _ _ _ hG) _ _ _ hG) _ _ _ hG) _ _ _ hG) _ _ _ hG
theorem Mine.other {base : Nat} {w : World} {g off cap : Nat} {l : List Int} (h : Mine base w g off cap l) {G : Nat} (hne : G ≠ g) (o : Nat) (u : Value) : Mine base (w.setCell ⟨G, o, none⟩ u) g off cap l := by
  refine ⟨h.lo, by simpa [World.setCell] using h.lt, h.le, h.cap_le, fun i hi => ?_, fun i hi => by rw [World.frozen?_setCell]; exact h.fr i hi⟩
  have hne2 : (⟨g, off + i, none⟩ : Addr) ≠ ⟨G, o, none⟩ := fun c => hne (Addr.mk.inj c).1.symm
  rw [World.cell?_setCell_other _ _ _ _ (by first | exact hne2 | exact hne2.symm)]
  exact h.cell i hi
theorem Mine.five {base : Nat} {w : World} {g off cap : Nat} {l : List Int} (h : Mine base w g off cap l) {G : Nat} (hne : G ≠ g) (v0 v1 v2 v3 v4 : Value) : Mine base (five w G v0 v1 v2 v3 v4) g off cap l :=
  ((((h.other hne _ _).other hne _ _).other hne _ _).other hne _ _).other hne _ _
end Go.Proofs.YtekejcnphmnidaaGreatDoor
