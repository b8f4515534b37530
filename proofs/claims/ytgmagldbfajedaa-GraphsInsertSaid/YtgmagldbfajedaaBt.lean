/-
  One text out of: TwP, Tw, TwNode.
-/
import Derived.OwnWalk
import Derived.Maps.AppendAt
import Derived.Deep.RegionHeld3
import Derived.Test.YtgmagldbfajedaaBh
/- TwP: A slice of nodes that the call itself made, with rows of its own: OwnT, wpList_appT; TwinG: the same, whose rows may be stored into.
-/
namespace Go.Proofs.Ytgmagldbfajedaa
open Go.RowKit

/-- A value that is a row of the call's own, at a block. -/
def RowAt (base : Nat) (w : World) (v : Value) (b : Nat) (l : List Int) : Prop := ∃ o c, v = .slice (some ⟨b, o, none⟩) l.length c ∧ Mine base w b o c l

theorem Mine.grown {base : Nat} {w w' : World} {g off cap : Nat} {l : List Int} {row : Option Nat} (h : Mine base w g off cap l) (hg : w.grownBy w' row) (hne : row ≠ some g) : Mine base w' g off cap l :=
  ⟨h.lo, Nat.lt_of_lt_of_le h.lt hg.size, h.le, h.cap_le, fun i hi => hg.cell (h.cell i hi) (Ne.symm hne), fun i hi => (World.frozen?_of_block (hg.block g h.lt (Ne.symm hne))).trans (h.fr i hi)⟩
theorem RowAt.grown {base : Nat} {w w' : World} {v : Value} {b : Nat} {l : List Int} {row : Option Nat} (h : RowAt base w v b l) (hg : w.grownBy w' row) (hne : row ≠ some b) : RowAt base w' v b l := by
  obtain ⟨o, c, e, hM⟩ := h
  exact ⟨o, c, e, hM.grown hg hne⟩
theorem RowAt.below {base : Nat} {w w' : World} {v : Value} {b : Nat} {l : List Int} (h : RowAt base w v b l) (hb : Below w.heap.size w w') : RowAt base w' v b l := by
  obtain ⟨o, c, e, hM⟩ := h
  exact ⟨o, c, e, hM.below hb⟩
theorem RowAt.mono {base base' : Nat} {w : World} {v : Value} {b : Nat} {l : List Int} (h : RowAt base w v b l) (hb : base' ≤ base) : RowAt base' w v b l := by
  obtain ⟨o, c, e, hM⟩ := h
  exact ⟨o, c, e, hM.mono hb⟩
theorem RowAt.lt {base : Nat} {w : World} {v : Value} {b : Nat} {l : List Int} (h : RowAt base w v b l) : base ≤ b ∧ b < w.heap.size := by
  obtain ⟨o, c, e, hM⟩ := h
  exact ⟨hM.lo, hM.lt⟩
theorem RowAt.one {base : Nat} {w : World} {v : Value} {b : Nat} {l : List Int} (h : RowAt base w v b l) : v.oneCell' = true := by
  obtain ⟨o, c, rfl, hM⟩ := h
  rfl
theorem RowAt.store {base : Nat} {w : World} {v : Value} {b : Nat} {l : List Int} (h : RowAt base w v b l) (k o : Nat) (u : Value) (hne : k ≠ b) : RowAt base (w.setCell ⟨k, o, none⟩ u) v b l := by
  obtain ⟨q, c, e, hM⟩ := h
  refine ⟨q, c, e, hM.lo, by simpa [World.setCell] using hM.lt, hM.le, hM.cap_le, fun i hi => ?_, fun i hi => by rw [World.frozen?_setCell]; exact hM.fr i hi⟩
  have hne2 : (⟨b, q + i, none⟩ : Addr) ≠ ⟨k, o, none⟩ := fun c => hne (Addr.mk.inj c).1.symm
  rw [World.cell?_setCell_other _ _ _ _ (by first | exact hne2 | exact hne2.symm)]
  exact hM.cell i hi

/-- Five values are a node's, whose rows lie at two blocks. -/
def TwinVs (base : Nat) (w : World) (vs : List Value) (o fb hb : Nat) (x : Gr.Node) : Prop :=
  ∃ vi vsh, vs[o]? = some (.int .u8 x.kind) ∧ vs[o + 1]? = some vi ∧ vs[o + 2]? = some vsh ∧ vs[o + 3]? = some (.int .i64 x.n) ∧ vs[o + 4]? = some (.int .i64 x.pad) ∧ RowAt base w vi fb x.inn ∧ RowAt base w vsh hb x.shape

/-- A slice of nodes that the call itself made; so are the rows, each of what a node takes in at a block that nothing else has. -/
structure OwnT (base : Nat) (w : World) (v : Value) (f h : Nat → Nat) (g : List Gr.Node) : Prop where
  row : ∃ vs : List Value, w.ownsRow base 46 5 v g.length vs ∧ ∀ i, i < g.length → TwinVs base w vs (i * 5) (f i) (h i) (nodeN g i)
  inj : ∀ i j, i < g.length → j < g.length → f i = f j → i = j
  fh : ∀ i j, i < g.length → j < g.length → f i ≠ h j
  ne : ∀ i, i < g.length → v.ownBlock ≠ some (f i) ∧ v.ownBlock ≠ some (h i)

theorem OwnT.below {base : Nat} {w w' : World} {v : Value} {f h : Nat → Nat} {g : List Gr.Node} (H : OwnT base w v f h g) (hb : Below w.heap.size w w') : OwnT base w' v f h g := by
  obtain ⟨⟨vs, ⟨h1, h2⟩, h4⟩, i1, i2, i3⟩ := H
  refine ⟨⟨vs, ⟨h1, ?_⟩, fun i hi => ?_⟩, i1, i2, i3⟩
  · rcases h2 with h2 | ⟨q, cap, cur, hv, hg, hh, r⟩
    · exact .inl h2
    · exact .inr ⟨q, cap, cur, hv, hg, by rw [hb.block q (Array.getElem?_eq_some_iff.1 hh).1]; exact hh, r⟩
  · obtain ⟨vi, vsh, e0, e1, e2, e3, e4, r1, r2⟩ := h4 i hi
    exact ⟨vi, vsh, e0, e1, e2, e3, e4, r1.below hb, r2.below hb⟩

theorem OwnT.lts {base : Nat} {w : World} {v : Value} {f h : Nat → Nat} {g : List Gr.Node} (H : OwnT base w v f h g) : (∀ i, i < g.length → f i < w.heap.size ∧ h i < w.heap.size) ∧ ∀ k, v.ownBlock = some k → base ≤ k ∧ k < w.heap.size := by
  obtain ⟨⟨vs, h1, h4⟩, _⟩ := H
  refine ⟨fun i hi => ?_, World.ownsRow.lt h1⟩
  obtain ⟨vi, vsh, _, _, _, _, _, r1, r2⟩ := h4 i hi
  exact ⟨r1.lt.2, r2.lt.2⟩

/-- A node more, at the end of such a slice. -/
theorem wpList_appT {ops : Array Oper} {rest : List Oper} {o : Oper} {a : Act} {Q : Exit → Act → World → Prop} (w : World) (hgd : o.guard = none) (s t : Operand)
    (ho : o.op = .call { callee := .builtin .append, args := #[s, t], argTypes := #[36, 36] }) (base : Nat) (v : Value) (g : List Gr.Node) (f h : Nat → Nat) (x : Gr.Node) (vi vsh : Value) (b s' : Nat)
    (hown : OwnT base w v f h g) (hri : RowAt base w vi b x.inn) (hrs : RowAt base w vsh s' x.shape) (hnew : ∀ i, i < g.length → b ≠ f i ∧ b ≠ h i ∧ s' ≠ f i) (hbs : b ≠ s') (hvo : v.ownBlock ≠ some b ∧ v.ownBlock ≠ some s')
    (hs : a.eval s = v) (ht : a.eval t = .slice (some ⟨w.heap.size, 0, none⟩) 1 1) (hbase : base ≤ w.heap.size) (hlen : g.length ≤ 10000000)
    (hK : ∀ v' w', OwnT base w' v' (fun i => if i = g.length then b else f i) (fun i => if i = g.length then s' else h i) (g ++ [x]) → Below base w w' → wpList Try.prog ops Q rest (a.put o.dst v') w') :
    wpList Try.prog ops Q (o :: rest) a (w.alloc (.cells #[.int .u8 x.kind, vi, vsh, .int .i64 x.n, .int .i64 x.pad] 46)) := by
  obtain ⟨i0, hi, hz0, hz1, hz2⟩ := info_parts Try.info46
  obtain ⟨hl1, hl2⟩ := hown.lts
  obtain ⟨⟨vs, hrow, hvs⟩, i1, i2, i3⟩ := hown
  have hb1 := hri.lt
  have hb2 := hrs.lt
  refine wpList_append_own_at _ hgd s t 36 ho base 46 i0 _ 5 72 Try.underlying36 hi hz0 hz1 hz2 rfl (by decide) v g.length vs hs (hrow.alloc _) ⟨w.heap.size, 0, none⟩ 1 1 [.int .u8 x.kind, vi, vsh, .int .i64 x.n, .int .i64 x.pad] ht rfl
    (fun j u hu => ?_) (fun u hu => ?_) ?_ ?_ (by simp; omega) ?_
  · rw [Addr.add_lit, World.cell?_alloc_at _ _ _ _ rfl]
    rw [← hu]; simp
  · simp only [List.mem_cons, List.not_mem_nil, or_false] at hu
    rcases hu with rfl | rfl | rfl | rfl | rfl
    · rfl
    · exact hri.one
    · exact hrs.one
    · rfl
    · rfl
  · unfold maxLen; omega
  · omega
  · intro v' w' hown' hgrow _ hob
    have hga : w.grownBy w' v.ownBlock := ⟨hgrow.os, hgrow.tape, hgrow.output, Nat.le_trans (by simp) hgrow.size, fun k hk hn => (hgrow.block k (by simp; omega) hn).trans (Below.heap_alloc _ _ _ hk)⟩
    have hob2 : v'.ownBlock = v.ownBlock ∨ ∃ k, v'.ownBlock = some k ∧ w.heap.size ≤ k := by
      rcases hob with h1 | h1
      · exact .inl h1
      · exact .inr ⟨_, h1, by simp⟩
    have hne : ∀ k, k < w.heap.size → v.ownBlock ≠ some k → v'.ownBlock ≠ some k := fun k h1 h2 h3 => by
      rcases hob2 with h4 | ⟨q, h4, h5⟩
      · exact h2 (h4 ▸ h3)
      · rw [h4] at h3; injection h3 with h3; omega
    refine hK v' w' ⟨⟨vs ++ [.int .u8 x.kind, vi, vsh, .int .i64 x.n, .int .i64 x.pad], by rw [List.length_append]; exact hown', fun i hil => ?_⟩, ?_, ?_, ?_⟩ ?_
    · have hvl : vs.length = g.length * 5 := hrow.1
      by_cases hlt : i < g.length
      · have hn : i ≠ g.length := by omega
        rw [nodeN_append_left _ _ _ hlt]
        simp only [if_neg hn]
        obtain ⟨ui, ush, e0, e1, e2, e3, e4, r1, r2⟩ := hvs i hlt
        refine ⟨ui, ush, ?_, ?_, ?_, ?_, ?_, r1.grown hga (i3 i hlt).1, r2.grown hga (i3 i hlt).2⟩ <;> (rw [List.getElem?_append_left (by omega)]; assumption)
      · have he : i = g.length := by rw [List.length_append] at hil; simp at hil; omega
        subst he
        simp only [if_pos]
        rw [show nodeN (g ++ [x]) g.length = x by simp [nodeN]]
        refine ⟨vi, vsh, ?_, ?_, ?_, ?_, ?_, hri.grown hga hvo.1, hrs.grown hga hvo.2⟩ <;> (rw [List.getElem?_append_right (by omega), hvl]; simp [Nat.add_sub_cancel_left])
    · intro i j h1 h2 h3
      rw [List.length_append] at h1 h2
      simp only [List.length_cons, List.length_nil] at h1 h2
      split at h3 <;> split at h3
      · omega
      · exact absurd h3 ((hnew j (by omega)).1)
      · exact absurd h3.symm ((hnew i (by omega)).1)
      · exact i1 i j (by omega) (by omega) h3
    · intro i j h1 h2
      rw [List.length_append] at h1 h2
      simp only [List.length_cons, List.length_nil] at h1 h2
      split <;> split
      · exact hbs
      · exact (hnew j (by omega)).2.1
      · exact Ne.symm ((hnew i (by omega)).2.2)
      · exact i2 i j (by omega) (by omega)
    · intro i h1
      rw [List.length_append] at h1
      simp only [List.length_cons, List.length_nil] at h1
      split
      · exact ⟨hne b hb1.2 hvo.1, hne s' hb2.2 hvo.2⟩
      · exact ⟨hne _ (hl1 i (by omega)).1 (i3 i (by omega)).1, hne _ (hl1 i (by omega)).2 (i3 i (by omega)).2⟩
    · exact (Below.refl base w).grown hga hbase fun k hk => (hl2 k hk).1

/-- Such a slice, as a piece of memory; its rows may be stored into: what node i takes in is I i. -/
structure TwinG (base : Nat) (w : World) (nb : Nat) (f h : Nat → Nat) (g : List Gr.Node) (I : Nat → List Int) : Prop where
  lo : base ≤ nb
  lt : nb < w.heap.size
  at_ : ∀ i, i < g.length → ∃ vi vsh, w.cell? ⟨nb, i * 5, none⟩ = some (.int .u8 (nodeN g i).kind) ∧ w.cell? ⟨nb, i * 5 + 1, none⟩ = some vi ∧ w.cell? ⟨nb, i * 5 + 2, none⟩ = some vsh ∧
    w.cell? ⟨nb, i * 5 + 3, none⟩ = some (.int .i64 (nodeN g i).n) ∧ w.cell? ⟨nb, i * 5 + 4, none⟩ = some (.int .i64 (nodeN g i).pad) ∧ RowAt base w vi (f i) (I i) ∧ RowAt base w vsh (h i) (nodeN g i).shape
  inj : ∀ i j, i < g.length → j < g.length → f i = f j → i = j
  fh : ∀ i j, i < g.length → j < g.length → f i ≠ h j
  ne : ∀ i, i < g.length → nb ≠ f i ∧ nb ≠ h i

theorem TwinG.below {base : Nat} {w w' : World} {nb : Nat} {f h : Nat → Nat} {g : List Gr.Node} {I : Nat → List Int} (H : TwinG base w nb f h g I) (hb : Below w.heap.size w w') : TwinG base w' nb f h g I := by
  refine ⟨H.lo, Nat.lt_of_lt_of_le H.lt hb.size, fun i hi => ?_, H.inj, H.fh, H.ne⟩
  obtain ⟨vi, vsh, e0, e1, e2, e3, e4, r1, r2⟩ := H.at_ i hi
  exact ⟨vi, vsh, (hb.cell (p := ⟨nb, _, none⟩) H.lt).trans e0, (hb.cell (p := ⟨nb, _, none⟩) H.lt).trans e1, (hb.cell (p := ⟨nb, _, none⟩) H.lt).trans e2, (hb.cell (p := ⟨nb, _, none⟩) H.lt).trans e3, (hb.cell (p := ⟨nb, _, none⟩) H.lt).trans e4, r1.below hb, r2.below hb⟩

/-- One number of what a node takes in is stored. -/
theorem TwinG.set {base : Nat} {w : World} {nb : Nat} {f h : Nat → Nat} {g : List Gr.Node} {I : Nat → List Int} (H : TwinG base w nb f h g I) {i k : Nat} (hi : i < g.length) (hk : k < (I i).length) {o c : Nat} {li : Nat}
    (hc : w.cell? ⟨nb, i * 5 + 1, none⟩ = some (.slice (some ⟨f i, o, none⟩) li c)) (x : Int) :
    TwinG base (w.setCell ⟨f i, o + k, none⟩ (.int .i64 x)) nb f h g (fun j => if j = i then (I i).set k x else I j) := by
  have hx : ∀ q u, w.cell? ⟨nb, q, none⟩ = some u → (w.setCell ⟨f i, o + k, none⟩ (.int .i64 x)).cell? ⟨nb, q, none⟩ = some u := fun q u hu => by
    rw [World.cell?_setCell_other _ _ _ _ (by intro c; simp at c; exact (H.ne i hi).1 c.1.symm)]; exact hu
  refine ⟨H.lo, by simpa [World.setCell] using H.lt, fun j hj => ?_, H.inj, H.fh, H.ne⟩
  obtain ⟨vi, vsh, e0, e1, e2, e3, e4, r1, r2⟩ := H.at_ j hj
  refine ⟨vi, vsh, hx _ _ e0, hx _ _ e1, hx _ _ e2, hx _ _ e3, hx _ _ e4, ?_, r2.store _ _ _ (H.fh i j hi hj)⟩
  by_cases e : j = i
  · subst e
    rw [if_pos rfl]
    obtain ⟨q, c2, hv, hM⟩ := r1
    rw [e1] at hc
    subst hv
    simp only [Option.some.injEq, Value.slice.injEq, Addr.mk.injEq] at hc
    obtain ⟨⟨_, rfl, _⟩, rfl, rfl⟩ := hc
    exact ⟨q, c2, by rw [List.length_set], hM.set k hk x⟩
  · rw [if_neg e]
    exact r1.store _ _ _ (fun c => e (H.inj i j hi hj c).symm)

theorem OwnT.twin {base : Nat} {w : World} {v : Value} {f h : Nat → Nat} {g : List Gr.Node} (H : OwnT base w v f h g) (h0 : 0 < g.length) : ∃ nb cap, v = .slice (some ⟨nb, 0, none⟩) g.length cap ∧ g.length ≤ cap ∧ cap ≤ 9223372036854775807 ∧ TwinG base w nb f h g (fun i => (nodeN g i).inn) := by
  obtain ⟨⟨vs, ⟨h1, h2⟩, h4⟩, i1, i2, i3⟩ := H
  rcases h2 with ⟨rfl, h0'⟩ | ⟨b, cap, cur, rfl, hg, hh, hn, hm, hc, ht⟩
  · omega
  · have hlt := (Array.getElem?_eq_some_iff.1 hh).1
    have hcell : ∀ i u, vs[i]? = some u → w.cell? ⟨b, i, none⟩ = some u := fun i u hu => by
      rw [show w.cell? ⟨b, i, none⟩ = cur[i]? by simp [World.cell?, hh]]
      rw [← ht, List.getElem?_take] at hu
      split at hu
      · simpa using hu
      · cases hu
    refine ⟨b, cap, rfl, hn, by unfold maxLen at hm; omega, hg, hlt, fun i hi => ?_, i1, i2, fun i hi => ?_⟩
    · obtain ⟨vi, vsh, e0, e1, e2, e3, e4, r1, r2⟩ := h4 i hi
      exact ⟨vi, vsh, hcell _ _ e0, hcell _ _ e1, hcell _ _ e2, hcell _ _ e3, hcell _ _ e4, r1, r2⟩
    · have := i3 i hi
      simp only [Value.ownBlock, ne_eq, Option.some.injEq] at this
      exact this

/-- A beginning of a slice. -/
theorem slice_take (a : Option Addr) (len cap r : Nat) (h1 : r ≤ len) (h2 : len ≤ cap) (w : World) : (Instr.slice 22 (.slice a len cap) none (some (.int .i64 (r : Int))) none).run Try.prog w = .ok (.slice a r cap) w := by
  obtain ⟨i0, hi, hz0, hz1, hz2⟩ := info_parts Try.info3
  have h3 : Try.prog.elem 22 = 3 := by kernel_rfl
  rw [run_slice_h w 22 a len cap (by rw [h3]; exact Try.underlying22) .i64 (r : Int) (by omega) (by omega), h3]
  have e : (a.map fun x => x.add 0) = a := by cases a <;> simp [Addr.add]
  by_cases c : cap = 0
  · simp [go_sem, sliced, c]
  · simp [go_sem, sliced, c]

/-- The bounds of a graph's numbers. -/
def NodeWf (x : Gr.Node) : Prop :=
  x.inn.length ≤ 17592186044416 ∧ x.shape.length ≤ 17592186044416 ∧ (0 ≤ x.kind ∧ x.kind ≤ 255) ∧ (-9223372036854775808 ≤ x.n ∧ x.n ≤ 9223372036854775807) ∧ (-9223372036854775808 ≤ x.pad ∧ x.pad ≤ 9223372036854775807) ∧
  (∀ v ∈ x.inn, -9223372036854775808 ≤ v ∧ v ≤ 9223372036854775807) ∧ (∀ v ∈ x.shape, -9223372036854775808 ≤ v ∧ v ≤ 9223372036854775807)
theorem NodesIn.wf {w w0 : World} {a : Option Addr} {len cap : Nat} {g : List Gr.Node} (h : NodesIn w w0 a len cap g) : ∀ i, i < len → NodeWf (nodeN g i) := fun i hi => by
  obtain ⟨b, off, _, _, hc⟩ := h.at_ (by omega)
  obtain ⟨ai, li, ci, sa, ls, cs, _, _, _, _, _, hv⟩ := hc i hi
  have h1 := hv.i.length
  have h2 := hv.s.length
  exact ⟨by rw [h1]; exact hv.li, by rw [h2]; exact hv.ls, hv.kind, hv.n, hv.pad, hv.i.wf, hv.s.wf⟩

/-- What such a slice reads as. -/
theorem TwinG.nodes {base : Nat} {w : World} {nb : Nat} {f h : Nat → Nat} {g : List Gr.Node} {I : Nat → List Int} (H : TwinG base w nb f h g I) {cap : Nat} (h1 : g.length ≤ cap) (h2 : cap ≤ 9223372036854775807) (h3 : g.length ≤ 17592186044416)
    (g' : List Gr.Node) (hl : g'.length = g.length) (hg : ∀ i, i < g.length → nodeN g' i = { nodeN g i with inn := I i }) (hw : ∀ i, i < g.length → NodeWf (nodeN g' i)) : Nodes w (some ⟨nb, 0, none⟩) g.length cap g' := by
  refine ⟨h1, h2, h3, hl, fun _ => ⟨nb, 0, rfl, H.lt, fun i hi => ?_⟩⟩
  obtain ⟨vi, vsh, e0, e1, e2, e3, e4, ⟨oi, ci, rfl, m1⟩, ⟨os, cs, rfl, m2⟩⟩ := H.at_ i hi
  have hwi := hw i hi
  rw [hg i hi] at hwi ⊢
  obtain ⟨w1, w2, w3, w4, w5, w6, w7⟩ := hwi
  rw [Nat.zero_add]
  exact ⟨_, _, _, _, _, _, e0, e1, e2, e3, e4, ⟨m1.ints w6, m2.ints w7, w1, w2, w3, w4, w5⟩⟩
end Go.Proofs.Ytgmagldbfajedaa

/- Tw: drydocklaw01.TwinInts: contract twinInts_any.
-/
namespace Go.Proofs.Ytgmagldbfajedaa
open Go.RowKit

set_option maxHeartbeats 2000000 in
set_option maxRecDepth 100000 in
theorem twinInts_any (a : Option Addr) (len cap : Nat) (l : List Int) (w : World) (H : Ints w a len cap l) (hbig : len ≤ 1000000) :
    Calls Try.prog 137 #[.slice a len cap] w fun e w' => ∃ b o c, e = .returned (.slice (some ⟨b, o, none⟩) len c) ∧ Mine w.heap.size w' b o c l ∧ Below w.heap.size w w' := by
  obtain ⟨i0, hi0, hz0, hz1, hz2⟩ := info_parts Try.info3
  have KH := Lib.hid H
  have HL := Lib.hid H.length
  have hle := H.le
  have hcl := H.cap_le
  clear H
  go_enter Try.func137, Try.ntmps137
  go_wp2_with (at_make; refine wpList_make_own _ rfl _ _ 22 rfl w.heap.size 3 i0 (.int .i64 0) 1 Try.underlying22 hi0 hz0 hz1 .i64 .i64 _ (len + 1) rfl rfl (by omega) (by rw [hz2]; omega) (by unfold maxLen; omega) (Nat.le_refl _) ?_)
  intro w1 hown hgrow
  have HB1 : Hid (Below w.heap.size w w1) := (Below.refl _ _).grown hgrow (Nat.le_refl _) (fun k hk => nomatch hk)
  have HO1 : Hid (Own w.heap.size w1 (.slice (some ⟨w.heap.size, 0, none⟩) 0 (len + 1)) (l.take 0)) := hown
  clear hown hgrow
  go_wp2
  go_loopg [3, 4] len (fun gg v i wr => ∃ k : Nat, k ≤ len ∧ len - k ≤ gg ∧ i = .int .i64 k ∧ Hid (Own w.heap.size wr v (l.take k)) ∧ Hid (Below w.heap.size w wr))
  case atStart => exact ⟨0, Nat.zero_le _, by omega, rfl, HO1, HB1⟩
  case round =>
    obtain ⟨k, hk, hg, rfl, HO, HW⟩ := hrel
    by_cases hlt : k < len
    · obtain ⟨b, off, rfl, _, hc⟩ := (KH.out.below HW.out).at_ (by omega)
      have hck := hc k hlt
      have HS := Lib.hid (take_snoc l k (by rw [HL.out]; exact hlt))
      have hln : (l.take k).length ≤ k := List.length_take_le _ _
      clear hc
      generalize nth l k = x at *
      go_wp2_with (at_builtin; go_must (refine wpList_app1w _ rfl _ _ rfl w.heap.size _ _ _ HO.out rfl rfl HW.out.size (by omega) ?_))
      intro v' w3 hown' hbel hgrow
      rw [← HS.out] at hown'
      have HO' := Lib.hid hown'
      have HW3 : Hid (Below w.heap.size w w3) := HW.out.trans hbel
      clear hown' hbel hgrow hck
      go_wp2
      go_roundg (len - (k + 1))
      case measure => exact Nat.lt_of_lt_of_le (Nat.sub_lt_sub_left hlt (Nat.lt_succ_self k)) hg
      case rel => exact ⟨k + 1, Nat.succ_le_of_lt hlt, Nat.le_refl _, by go_num, HO', HW3⟩
    · rw [List.take_of_length_le (by rw [HL.out]; omega)] at HO
      go_wp2_with (at_builtin; go_must (refine wpList_app1w _ rfl _ _ rfl w.heap.size _ _ _ HO.out rfl rfl HW.out.size (by rw [HL.out]; omega) ?_))
      intro v' w3 hown' hbel hgrow
      obtain ⟨g, off, cp, rfl, hM⟩ := hown'.mine (by simp)
      have HM := Lib.hid (hM.take len)
      have hcp := hM.le
      have hcc := hM.cap_le
      have hla : (l ++ [(77 : Int)]).length = len + 1 := by rw [List.length_append, HL.out]; rfl
      rw [hla] at hcp ⊢
      rw [List.take_left' HL.out] at HM
      have hsl := slice_take (some ⟨g, off, none⟩) (len + 1) cp len (by omega) hcp
      have HW3 : Hid (Below w.heap.size w w3) := HW.out.trans hbel
      clear hown' hM hbel hgrow hla
      go_wp2
      go_ret
      exact ⟨_, _, _, rfl, HM.out, HW3.out⟩
end Go.Proofs.Ytgmagldbfajedaa

/- TwNode: drydocklaw01.TwinNode: contract twinNode_any.
-/
namespace Go.Proofs.Ytgmagldbfajedaa
open Go.RowKit

/-- Five cells of a block, stored one behind the other. -/
def five (w : World) (G : Nat) (v0 v1 v2 v3 v4 : Value) : World := ((((w.setCell ⟨G, 0, none⟩ v0).setCell ⟨G, 1, none⟩ v1).setCell ⟨G, 2, none⟩ v2).setCell ⟨G, 3, none⟩ v3).setCell ⟨G, 4, none⟩ v4
theorem five_other (w : World) {B G : Nat} (h : B ≠ G) (o : Nat) (v0 v1 v2 v3 v4 : Value) : (((((w.setCell ⟨G, 0, none⟩ v0).setCell ⟨G, 1, none⟩ v1).setCell ⟨G, 2, none⟩ v2).setCell ⟨G, 3, none⟩ v3).setCell ⟨G, 4, none⟩ v4).cell? ⟨B, o, none⟩ = w.cell? ⟨B, o, none⟩ := by
  have hne : ∀ i, (⟨B, o, none⟩ : Addr) ≠ ⟨G, i, none⟩ := fun i c => h (Addr.mk.inj c).1
  rw [World.cell?_setCell_other _ _ _ _ (by first | exact hne 4 | exact (hne 4).symm), World.cell?_setCell_other _ _ _ _ (by first | exact hne 3 | exact (hne 3).symm), World.cell?_setCell_other _ _ _ _ (by first | exact hne 2 | exact (hne 2).symm), World.cell?_setCell_other _ _ _ _ (by first | exact hne 1 | exact (hne 1).symm), World.cell?_setCell_other _ _ _ _ (by first | exact hne 0 | exact (hne 0).symm)]
theorem set_off (w : World) {G i j : Nat} (h : i ≠ j) (v : Value) : (w.setCell ⟨G, i, none⟩ v).cell? ⟨G, j, none⟩ = w.cell? ⟨G, j, none⟩ := by
  have hne : (⟨G, i, none⟩ : Addr) ≠ ⟨G, j, none⟩ := fun c => h (Addr.mk.inj c).2.1
  rw [World.cell?_setCell_other _ _ _ _ (by first | exact hne | exact hne.symm)]
theorem five_same (w : World) {G : Nat} {u0 u1 u2 u3 u4 : Value} (h0 : w.cell? ⟨G, 0, none⟩ = some u0) (h1 : w.cell? ⟨G, 1, none⟩ = some u1) (h2 : w.cell? ⟨G, 2, none⟩ = some u2) (h3 : w.cell? ⟨G, 3, none⟩ = some u3) (h4 : w.cell? ⟨G, 4, none⟩ = some u4) (v0 v1 v2 v3 v4 : Value) :
    (five w G v0 v1 v2 v3 v4).cell? ⟨G, 0, none⟩ = some v0 ∧ (five w G v0 v1 v2 v3 v4).cell? ⟨G, 1, none⟩ = some v1 ∧ (five w G v0 v1 v2 v3 v4).cell? ⟨G, 2, none⟩ = some v2 ∧ (five w G v0 v1 v2 v3 v4).cell? ⟨G, 3, none⟩ = some v3 ∧ (five w G v0 v1 v2 v3 v4).cell? ⟨G, 4, none⟩ = some v4 := by
  unfold five
  refine ⟨?_, ?_, ?_, ?_, ?_⟩
  · rw [set_off _ (by decide), set_off _ (by decide), set_off _ (by decide), set_off _ (by decide)]
    exact World.cell?_setCell_same _ _ _ h0
  · rw [set_off _ (by decide), set_off _ (by decide), set_off _ (by decide)]
    exact World.cell?_setCell_same _ _ _ ((set_off _ (by decide) _).trans h1)
  · rw [set_off _ (by decide), set_off _ (by decide)]
    exact World.cell?_setCell_same _ _ _ ((set_off _ (by decide) _).trans ((set_off _ (by decide) _).trans h2))
  · rw [set_off _ (by decide)]
    exact World.cell?_setCell_same _ _ _ ((set_off _ (by decide) _).trans ((set_off _ (by decide) _).trans ((set_off _ (by decide) _).trans h3)))
  · exact World.cell?_setCell_same _ _ _ ((set_off _ (by decide) _).trans ((set_off _ (by decide) _).trans ((set_off _ (by decide) _).trans ((set_off _ (by decide) _).trans h4))))
theorem five_below {base : Nat} {w0 w : World} (h : Below base w0 w) {G : Nat} (hG : base ≤ G) (v0 v1 v2 v3 v4 : Value) : Below base w0 (five w G v0 v1 v2 v3 v4) :=
  below_setCell (below_setCell (below_setCell (below_setCell (below_setCell h _ _ _ hG) _ _ _ hG) _ _ _ hG) _ _ _ hG) _ _ _ hG
theorem Mine.other {base : Nat} {w : World} {g off cap : Nat} {l : List Int} (h : Mine base w g off cap l) {G : Nat} (hne : G ≠ g) (o : Nat) (u : Value) : Mine base (w.setCell ⟨G, o, none⟩ u) g off cap l := by
  refine ⟨h.lo, by simpa [World.setCell] using h.lt, h.le, h.cap_le, fun i hi => ?_, fun i hi => by rw [World.frozen?_setCell]; exact h.fr i hi⟩
  have hne2 : (⟨g, off + i, none⟩ : Addr) ≠ ⟨G, o, none⟩ := fun c => hne (Addr.mk.inj c).1.symm
  rw [World.cell?_setCell_other _ _ _ _ (by first | exact hne2 | exact hne2.symm)]
  exact h.cell i hi
theorem Mine.five {base : Nat} {w : World} {g off cap : Nat} {l : List Int} (h : Mine base w g off cap l) {G : Nat} (hne : G ≠ g) (v0 v1 v2 v3 v4 : Value) : Mine base (five w G v0 v1 v2 v3 v4) g off cap l :=
  ((((h.other hne _ _).other hne _ _).other hne _ _).other hne _ _).other hne _ _
set_option maxHeartbeats 8000000 in
set_option maxRecDepth 100000 in
theorem twinNode_any (ai sa : Option Addr) (li ci ls cs : Nat) (kd n pad : Int) (inn shp : List Int) (w : World) (HI : Ints w ai li ci inn) (HS : Ints w sa ls cs shp) (h1 : li ≤ 1000000) (h2 : ls ≤ 1000000) (_ : 0 ≤ kd ∧ kd ≤ 255) :
    Calls Try.prog 117 #[.agg #[.int .u8 kd, .slice ai li ci, .slice sa ls cs, .int .i64 n, .int .i64 pad]] w fun e w' => ∃ b o c b2 o2 c2, e = .returned (.agg #[.int .u8 kd, .slice (some ⟨b, o, none⟩) li c, .slice (some ⟨b2, o2, none⟩) ls c2, .int .i64 n, .int .i64 pad]) ∧
      Mine w.heap.size w' b o c inn ∧ Mine w.heap.size w' b2 o2 c2 shp ∧ b ≠ b2 ∧ Below w.heap.size w w' := by
  have KI := Lib.hid HI
  have KS := Lib.hid HS
  clear HI HS
  go_enter Try.func117, Try.ntmps117
  go_wp2_with fail
  have x0 : ((w.alloc (.cells #[.int .u8 kd, .slice ai li ci, .slice sa ls cs, .int .i64 n, .int .i64 pad] 46)).alloc (.cells #[.int .u8 0, .slice none 0 0, .slice none 0 0, .int .i64 0, .int .i64 0] 46)).cell? ⟨w.heap.size, 0, none⟩ = some (.int .u8 kd) := Lib.cell?_alloc_some _ (by rw [World.cell?_alloc_at _ _ _ _ rfl]; rfl)
  have x1 : ((w.alloc (.cells #[.int .u8 kd, .slice ai li ci, .slice sa ls cs, .int .i64 n, .int .i64 pad] 46)).alloc (.cells #[.int .u8 0, .slice none 0 0, .slice none 0 0, .int .i64 0, .int .i64 0] 46)).cell? ⟨w.heap.size, 1, none⟩ = some (.slice ai li ci) := Lib.cell?_alloc_some _ (by rw [World.cell?_alloc_at _ _ _ _ rfl]; rfl)
  have x2 : ((w.alloc (.cells #[.int .u8 kd, .slice ai li ci, .slice sa ls cs, .int .i64 n, .int .i64 pad] 46)).alloc (.cells #[.int .u8 0, .slice none 0 0, .slice none 0 0, .int .i64 0, .int .i64 0] 46)).cell? ⟨w.heap.size, 2, none⟩ = some (.slice sa ls cs) := Lib.cell?_alloc_some _ (by rw [World.cell?_alloc_at _ _ _ _ rfl]; rfl)
  have x3 : ((w.alloc (.cells #[.int .u8 kd, .slice ai li ci, .slice sa ls cs, .int .i64 n, .int .i64 pad] 46)).alloc (.cells #[.int .u8 0, .slice none 0 0, .slice none 0 0, .int .i64 0, .int .i64 0] 46)).cell? ⟨w.heap.size, 3, none⟩ = some (.int .i64 n) := Lib.cell?_alloc_some _ (by rw [World.cell?_alloc_at _ _ _ _ rfl]; rfl)
  have x4 : ((w.alloc (.cells #[.int .u8 kd, .slice ai li ci, .slice sa ls cs, .int .i64 n, .int .i64 pad] 46)).alloc (.cells #[.int .u8 0, .slice none 0 0, .slice none 0 0, .int .i64 0, .int .i64 0] 46)).cell? ⟨w.heap.size, 4, none⟩ = some (.int .i64 pad) := Lib.cell?_alloc_some _ (by rw [World.cell?_alloc_at _ _ _ _ rfl]; rfl)
  have y0 : ((w.alloc (.cells #[.int .u8 kd, .slice ai li ci, .slice sa ls cs, .int .i64 n, .int .i64 pad] 46)).alloc (.cells #[.int .u8 0, .slice none 0 0, .slice none 0 0, .int .i64 0, .int .i64 0] 46)).cell? ⟨w.heap.size + 1, 0, none⟩ = some (.int .u8 0) := by rw [World.cell?_alloc_at _ _ _ _ (by simp)]; rfl
  have z0 : ((w.alloc (.cells #[.int .u8 kd, .slice ai li ci, .slice sa ls cs, .int .i64 n, .int .i64 pad] 46)).alloc (.cells #[.int .u8 0, .slice none 0 0, .slice none 0 0, .int .i64 0, .int .i64 0] 46)).frozen? ⟨w.heap.size + 1, 0, none⟩ = false := World.frozen?_alloc_at _ _ _ _ (by simp)
  have y1 : ((w.alloc (.cells #[.int .u8 kd, .slice ai li ci, .slice sa ls cs, .int .i64 n, .int .i64 pad] 46)).alloc (.cells #[.int .u8 0, .slice none 0 0, .slice none 0 0, .int .i64 0, .int .i64 0] 46)).cell? ⟨w.heap.size + 1, 1, none⟩ = some (.slice none 0 0) := by rw [World.cell?_alloc_at _ _ _ _ (by simp)]; rfl
  have z1 : ((w.alloc (.cells #[.int .u8 kd, .slice ai li ci, .slice sa ls cs, .int .i64 n, .int .i64 pad] 46)).alloc (.cells #[.int .u8 0, .slice none 0 0, .slice none 0 0, .int .i64 0, .int .i64 0] 46)).frozen? ⟨w.heap.size + 1, 1, none⟩ = false := World.frozen?_alloc_at _ _ _ _ (by simp)
  have y2 : ((w.alloc (.cells #[.int .u8 kd, .slice ai li ci, .slice sa ls cs, .int .i64 n, .int .i64 pad] 46)).alloc (.cells #[.int .u8 0, .slice none 0 0, .slice none 0 0, .int .i64 0, .int .i64 0] 46)).cell? ⟨w.heap.size + 1, 2, none⟩ = some (.slice none 0 0) := by rw [World.cell?_alloc_at _ _ _ _ (by simp)]; rfl
  have z2 : ((w.alloc (.cells #[.int .u8 kd, .slice ai li ci, .slice sa ls cs, .int .i64 n, .int .i64 pad] 46)).alloc (.cells #[.int .u8 0, .slice none 0 0, .slice none 0 0, .int .i64 0, .int .i64 0] 46)).frozen? ⟨w.heap.size + 1, 2, none⟩ = false := World.frozen?_alloc_at _ _ _ _ (by simp)
  have y3 : ((w.alloc (.cells #[.int .u8 kd, .slice ai li ci, .slice sa ls cs, .int .i64 n, .int .i64 pad] 46)).alloc (.cells #[.int .u8 0, .slice none 0 0, .slice none 0 0, .int .i64 0, .int .i64 0] 46)).cell? ⟨w.heap.size + 1, 3, none⟩ = some (.int .i64 0) := by rw [World.cell?_alloc_at _ _ _ _ (by simp)]; rfl
  have z3 : ((w.alloc (.cells #[.int .u8 kd, .slice ai li ci, .slice sa ls cs, .int .i64 n, .int .i64 pad] 46)).alloc (.cells #[.int .u8 0, .slice none 0 0, .slice none 0 0, .int .i64 0, .int .i64 0] 46)).frozen? ⟨w.heap.size + 1, 3, none⟩ = false := World.frozen?_alloc_at _ _ _ _ (by simp)
  have y4 : ((w.alloc (.cells #[.int .u8 kd, .slice ai li ci, .slice sa ls cs, .int .i64 n, .int .i64 pad] 46)).alloc (.cells #[.int .u8 0, .slice none 0 0, .slice none 0 0, .int .i64 0, .int .i64 0] 46)).cell? ⟨w.heap.size + 1, 4, none⟩ = some (.int .i64 0) := by rw [World.cell?_alloc_at _ _ _ _ (by simp)]; rfl
  have z4 : ((w.alloc (.cells #[.int .u8 kd, .slice ai li ci, .slice sa ls cs, .int .i64 n, .int .i64 pad] 46)).alloc (.cells #[.int .u8 0, .slice none 0 0, .slice none 0 0, .int .i64 0, .int .i64 0] 46)).frozen? ⟨w.heap.size + 1, 4, none⟩ = false := World.frozen?_alloc_at _ _ _ _ (by simp)
  have HB2 : Hid (Below w.heap.size w ((w.alloc (.cells #[.int .u8 kd, .slice ai li ci, .slice sa ls cs, .int .i64 n, .int .i64 pad] 46)).alloc (.cells #[.int .u8 0, .slice none 0 0, .slice none 0 0, .int .i64 0, .int .i64 0] 46))) := ((Below.refl _ _).alloc (Nat.le_refl _) _).alloc (by simp) _
  have hsz : ((w.alloc (.cells #[.int .u8 kd, .slice ai li ci, .slice sa ls cs, .int .i64 n, .int .i64 pad] 46)).alloc (.cells #[.int .u8 0, .slice none 0 0, .slice none 0 0, .int .i64 0, .int .i64 0] 46)).heap.size = w.heap.size + 2 := by simp
  generalize ((w.alloc (.cells #[.int .u8 kd, .slice ai li ci, .slice sa ls cs, .int .i64 n, .int .i64 pad] 46)).alloc (.cells #[.int .u8 0, .slice none 0 0, .slice none 0 0, .int .i64 0, .int .i64 0] 46)) = w2 at *
  have HK : Hid (∀ w', Below w2.heap.size w2 w' → w'.cell? ⟨w.heap.size, 0, none⟩ = some (.int .u8 kd) ∧ w'.cell? ⟨w.heap.size, 1, none⟩ = some (.slice ai li ci) ∧ w'.cell? ⟨w.heap.size, 2, none⟩ = some (.slice sa ls cs) ∧ w'.cell? ⟨w.heap.size, 3, none⟩ = some (.int .i64 n) ∧ w'.cell? ⟨w.heap.size, 4, none⟩ = some (.int .i64 pad)) := fun w' hb =>
    ⟨(hb.cell (p := ⟨w.heap.size, 0, none⟩) (show w.heap.size < w2.heap.size by omega)).trans x0, (hb.cell (p := ⟨w.heap.size, 1, none⟩) (show w.heap.size < w2.heap.size by omega)).trans x1, (hb.cell (p := ⟨w.heap.size, 2, none⟩) (show w.heap.size < w2.heap.size by omega)).trans x2, (hb.cell (p := ⟨w.heap.size, 3, none⟩) (show w.heap.size < w2.heap.size by omega)).trans x3, (hb.cell (p := ⟨w.heap.size, 4, none⟩) (show w.heap.size < w2.heap.size by omega)).trans x4⟩
  have HY : Hid (∀ w', Below w2.heap.size w2 w' → w'.cell? ⟨w.heap.size + 1, 0, none⟩ = some (.int .u8 0) ∧ w'.frozen? ⟨w.heap.size + 1, 0, none⟩ = false ∧ w'.cell? ⟨w.heap.size + 1, 1, none⟩ = some (.slice none 0 0) ∧ w'.frozen? ⟨w.heap.size + 1, 1, none⟩ = false ∧ w'.cell? ⟨w.heap.size + 1, 2, none⟩ = some (.slice none 0 0) ∧ w'.frozen? ⟨w.heap.size + 1, 2, none⟩ = false ∧ w'.cell? ⟨w.heap.size + 1, 3, none⟩ = some (.int .i64 0) ∧ w'.frozen? ⟨w.heap.size + 1, 3, none⟩ = false ∧ w'.cell? ⟨w.heap.size + 1, 4, none⟩ = some (.int .i64 0) ∧ w'.frozen? ⟨w.heap.size + 1, 4, none⟩ = false) := fun w' hb =>
    ⟨(hb.cell (p := ⟨w.heap.size + 1, 0, none⟩) (show w.heap.size + 1 < w2.heap.size by omega)).trans y0, (hb.frozen (p := ⟨w.heap.size + 1, 0, none⟩) (show w.heap.size + 1 < w2.heap.size by omega)).trans z0, (hb.cell (p := ⟨w.heap.size + 1, 1, none⟩) (show w.heap.size + 1 < w2.heap.size by omega)).trans y1, (hb.frozen (p := ⟨w.heap.size + 1, 1, none⟩) (show w.heap.size + 1 < w2.heap.size by omega)).trans z1, (hb.cell (p := ⟨w.heap.size + 1, 2, none⟩) (show w.heap.size + 1 < w2.heap.size by omega)).trans y2, (hb.frozen (p := ⟨w.heap.size + 1, 2, none⟩) (show w.heap.size + 1 < w2.heap.size by omega)).trans z2, (hb.cell (p := ⟨w.heap.size + 1, 3, none⟩) (show w.heap.size + 1 < w2.heap.size by omega)).trans y3, (hb.frozen (p := ⟨w.heap.size + 1, 3, none⟩) (show w.heap.size + 1 < w2.heap.size by omega)).trans z3, (hb.cell (p := ⟨w.heap.size + 1, 4, none⟩) (show w.heap.size + 1 < w2.heap.size by omega)).trans y4, (hb.frozen (p := ⟨w.heap.size + 1, 4, none⟩) (show w.heap.size + 1 < w2.heap.size by omega)).trans z4⟩
  have HBd : Hid (Below w2.heap.size w2 w2.drew) := (Below.refl _ _).drew
  have S0 := Lib.hid (HK.out _ HBd.out)
  have hBG : w.heap.size ≠ w.heap.size + 1 := by omega
  have HSZ := Lib.hid hsz
  clear x0 x1 x2 x3 x4 y0 y1 y2 y3 y4 z0 z1 z2 z3 z4 hsz
  go_region_held3 (fun w' => w'.cell? ⟨w.heap.size, 0, none⟩ = some (.int .u8 kd) ∧ w'.cell? ⟨w.heap.size, 1, none⟩ = some (.slice ai li ci) ∧ w'.cell? ⟨w.heap.size, 2, none⟩ = some (.slice sa ls cs) ∧ w'.cell? ⟨w.heap.size, 3, none⟩ = some (.int .i64 n) ∧ w'.cell? ⟨w.heap.size, 4, none⟩ = some (.int .i64 pad))
    (first
      | with_reducible exact S6
      | with_reducible exact S5
      | with_reducible exact S0.out
      | exact ⟨(five_other w6 hBG _ _ _ _ _ _).trans S6.1, (five_other w6 hBG _ _ _ _ _ _).trans S6.2.1, (five_other w6 hBG _ _ _ _ _ _).trans S6.2.2.1, (five_other w6 hBG _ _ _ _ _ _).trans S6.2.2.2.1, (five_other w6 hBG _ _ _ _ _ _).trans S6.2.2.2.2⟩)
    (first
      | (go_simp; go_at_call 137; refine (twinInts_any sa ls cs shp w5 (KS.out.below (HB2.out.trans (HB5.mono (by have := HSZ.out; omega)))) h2).mono ?_; rintro e w6 ⟨b6, o6, c6, rfl, hM6, hb6⟩; have HB6 := HB5.trans (hb6.mono HB5.size); have S6 := HK.out w6 HB6; obtain ⟨y0, z0, y1, z1, y2, z2, y3, z3, y4, z4⟩ := HY.out w6 HB6)
      | (go_simp; go_at_call 137; refine (twinInts_any ai li ci inn w2.drew (KI.out.below (HB2.out.trans (HBd.out.mono (by have := HSZ.out; omega)))) h1).mono ?_; rintro e w5 ⟨b5, o5, c5, rfl, hM5, hb5⟩; have HB5 := HBd.out.trans (hb5.mono HBd.out.size); have S5 := HK.out w5 HB5))
  obtain ⟨v0, v1, v2, v3, v4⟩ := five_same w6 y0 y1 y2 y3 y4 (.int .u8 kd) (.slice (some ⟨b5, o5, none⟩) li c5) (.slice (some ⟨b6, o6, none⟩) ls c6) (.int .i64 n) (.int .i64 pad)
  have hlo5 := hM5.lo
  have hlt5 := hM5.lt
  have hlo6 := hM6.lo
  have hz2 := HSZ.out
  have hz3 : w.heap.size + 2 ≤ w2.drew.heap.size := by show _ ≤ w2.heap.size; omega
  have R5 : Hid (Mine w.heap.size (five w6 (w.heap.size + 1) (.int .u8 kd) (.slice (some ⟨b5, o5, none⟩) li c5) (.slice (some ⟨b6, o6, none⟩) ls c6) (.int .i64 n) (.int .i64 pad)) b5 o5 c5 inn) := ((hM5.below hb6).mono (by omega)).five (by omega) _ _ _ _ _
  have R6 : Hid (Mine w.heap.size (five w6 (w.heap.size + 1) (.int .u8 kd) (.slice (some ⟨b5, o5, none⟩) li c5) (.slice (some ⟨b6, o6, none⟩) ls c6) (.int .i64 n) (.int .i64 pad)) b6 o6 c6 shp) := (hM6.mono (by have := HB5.size; omega)).five (by have := HB5.size; omega) _ _ _ _ _
  have RB : Hid (Below w.heap.size w (five w6 (w.heap.size + 1) (.int .u8 kd) (.slice (some ⟨b5, o5, none⟩) li c5) (.slice (some ⟨b6, o6, none⟩) ls c6) (.int .i64 n) (.int .i64 pad))) := five_below (HB2.out.trans (HB6.mono (by omega))) (by omega) _ _ _ _ _
  have RN : b5 ≠ b6 := by omega
  clear S5 S6 y0 y1 y2 y3 y4 z0 z1 z2 z3 z4 hM5 hM6 hb5 hb6 HB5 HB6 hz3
  unfold five at v0 v1 v2 v3 v4
  go_wp2
  refine bodyPost_ret (by simp [results, Try.results117, go_sem, v0, v1, v2, v3, v4]; try rfl) rfl ?_
  exact ⟨_, _, _, _, _, _, rfl, R5.out, R6.out, RN, RB.out⟩
end Go.Proofs.Ytgmagldbfajedaa
