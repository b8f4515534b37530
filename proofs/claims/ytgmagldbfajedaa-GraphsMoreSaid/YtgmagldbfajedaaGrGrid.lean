/-
  Rows of slices: a row of integers of the call's own, to be stored into (Mine); a slice of slices of integers (Grid); one that the call itself appends to (OwnG).
-/
import Derived.Test.YtgmagldbfajedaaGrShapes
import Derived.Maps.AppendAt
namespace Go.Proofs.Ytgmagldbfajedaa
open Go.RowKit

theorem Try.info22 : (Try.prog.info? 22).map (fun i => (i.zero, i.size, i.bytes)) = some (some (.slice none 0 0), 1, 24) := by kernel_rfl

/-- The shape at a place. -/
def rowL (L : List (List Int)) (i : Nat) : List Int := L.getD i []
theorem rowL_eq (L : List (List Int)) (i : Nat) (h : i < L.length) : rowL L i = L[i] := by
  unfold rowL; rw [List.getD_eq_getElem?_getD, List.getElem?_eq_getElem h]; rfl
theorem rowL_mem (L : List (List Int)) (i : Nat) (h : i < L.length) : rowL L i ∈ L := by rw [rowL_eq L i h]; exact List.getElem_mem h
theorem rowL_snoc_lt (L : List (List Int)) (x : List Int) (i : Nat) (h : i < L.length) : rowL (L ++ [x]) i = rowL L i := by
  unfold rowL; rw [List.getD_eq_getElem?_getD, List.getD_eq_getElem?_getD, List.getElem?_append_left h]
theorem rowL_snoc_last (L : List (List Int)) (x : List Int) : rowL (L ++ [x]) L.length = x := by
  unfold rowL; rw [List.getD_eq_getElem?_getD, List.getElem?_append_right (Nat.le_refl _)]; simp

/-- A row of integers that lies in a block of the call's own, which may be stored into. -/
structure Mine (base : Nat) (w : World) (g off cap : Nat) (l : List Int) : Prop where
  lo : base ≤ g
  lt : g < w.heap.size
  le : l.length ≤ cap
  cap_le : cap ≤ 9223372036854775807
  cell : ∀ i, i < l.length → w.cell? ⟨g, off + i, none⟩ = some (.int .i64 (nth l i))
  fr : ∀ i, i < l.length → w.frozen? ⟨g, off + i, none⟩ = false

theorem Own.mine {base : Nat} {w : World} {v : Value} {l : List Int} (h : Own base w v l) (h0 : 0 < l.length) : ∃ g off cap, v = .slice (some ⟨g, off, none⟩) l.length cap ∧ Mine base w g off cap l := by
  obtain ⟨h1, h2⟩ := h
  rcases h2 with ⟨rfl, h0'⟩ | ⟨g, cap, cur, rfl, hg, hh, hn, hm, hc, ht⟩
  · omega
  · have hlt := (Array.getElem?_eq_some_iff.1 hh).1
    have hcell : ∀ i, w.cell? ⟨g, i, none⟩ = cur[i]? := fun i => by simp [World.cell?, hh]
    refine ⟨g, 0, cap, rfl, hg, hlt, hn, by unfold maxLen at hm; omega, fun i hi => ?_, fun i hi => by simp [World.frozen?, hh]⟩
    rw [Nat.zero_add, hcell]
    have h3 : (cur.toList.take (l.length * 1))[i]? = (l.map (Value.int .i64))[i]? := by rw [ht]
    rw [List.getElem?_take, if_pos (by omega), List.getElem?_map, List.getElem?_eq_getElem hi] at h3
    rw [nth_eq l i hi]
    simpa using h3

theorem Mine.below {base : Nat} {w w' : World} {g off cap : Nat} {l : List Int} (h : Mine base w g off cap l) (hb : Below w.heap.size w w') : Mine base w' g off cap l :=
  ⟨h.lo, Nat.lt_of_lt_of_le h.lt hb.size, h.le, h.cap_le, fun i hi => (hb.cell (p := ⟨g, off + i, none⟩) h.lt).trans (h.cell i hi), fun i hi => (hb.frozen (p := ⟨g, off + i, none⟩) h.lt).trans (h.fr i hi)⟩

theorem Mine.mono {base base' : Nat} {w : World} {g off cap : Nat} {l : List Int} (h : Mine base w g off cap l) (hb : base' ≤ base) : Mine base' w g off cap l := ⟨Nat.le_trans hb h.lo, h.lt, h.le, h.cap_le, h.cell, h.fr⟩

theorem Mine.ints {base : Nat} {w : World} {g off cap : Nat} {l : List Int} (h : Mine base w g off cap l) (hwf : ∀ n ∈ l, -9223372036854775808 ≤ n ∧ n ≤ 9223372036854775807) : Ints w (some ⟨g, off, none⟩) l.length cap l :=
  ⟨h.le, h.cap_le, rfl, hwf, fun _ => ⟨g, off, rfl, h.lt, h.cell⟩⟩

theorem Mine.set {base : Nat} {w : World} {g off cap : Nat} {l : List Int} (h : Mine base w g off cap l) (i : Nat) (hi : i < l.length) (x : Int) : Mine base (w.setCell ⟨g, off + i, none⟩ (.int .i64 x)) g off cap (l.set i x) := by
  refine ⟨h.lo, by simp [World.setCell]; exact h.lt, by rw [List.length_set]; exact h.le, h.cap_le, fun k hk => ?_, fun k hk => by rw [World.frozen?_setCell]; exact h.fr k (by rwa [List.length_set] at hk)⟩
  rw [List.length_set] at hk
  by_cases e : i = k
  · subst e
    rw [World.cell?_setCell_same _ _ _ (h.cell i hi), nth_eq _ _ (by simpa using hk)]
    simp
  · rw [World.cell?_setCell_other _ _ _ _ (by intro e'; simp only [Addr.mk.injEq] at e'; omega), h.cell k hk, nth_eq (l.set i x) k (by simpa using hk), nth_eq l k hk, List.getElem_set_ne e]

theorem below_setCell {base : Nat} {w0 w : World} (h : Below base w0 w) (g o : Nat) (v : Value) (hg : base ≤ g) : Below base w0 (w.setCell ⟨g, o, none⟩ v) :=
  ⟨h.os, h.tape, h.output, by simp [World.setCell]; exact h.size, fun k hk => (Below.heap_setCell _ _ _ _ (by intro e; simp only at e; omega)).trans (h.block k hk)⟩

/-- A slice of slices of integers. -/
structure Grid (w : World) (a : Option Addr) (len cap : Nat) (L : List (List Int)) : Prop where
  le : len ≤ cap
  cap_le : cap ≤ 9223372036854775807
  length : L.length = len
  at_ : 0 < len → ∃ b off, a = some ⟨b, off, none⟩ ∧ b < w.heap.size ∧ ∀ i, i < len → ∃ ai li ci, w.cell? ⟨b, off + i, none⟩ = some (.slice ai li ci) ∧ Ints w ai li ci (rowL L i)

theorem Grid.nil {w : World} : Grid w none 0 0 [] := ⟨Nat.le_refl _, by omega, rfl, (fun h => absurd h (Nat.lt_irrefl 0))⟩
theorem Grid.below {w w' : World} {a : Option Addr} {len cap : Nat} {L : List (List Int)} (h : Grid w a len cap L) (hb : Below w.heap.size w w') : Grid w' a len cap L :=
  ⟨h.le, h.cap_le, h.length, fun h0 => by
    obtain ⟨b, off, rfl, hlt, hc⟩ := h.at_ h0
    refine ⟨b, off, rfl, Nat.lt_of_lt_of_le hlt hb.size, fun i hi => ?_⟩
    obtain ⟨ai, li, ci, h1, h2⟩ := hc i hi
    exact ⟨ai, li, ci, (hb.cell (p := ⟨b, off + i, none⟩) hlt).trans h1, h2.below hb⟩⟩

theorem Ints.grown {w w' : World} {row : Option Nat} {a : Option Addr} {len cap : Nat} {l : List Int} (h : Ints w a len cap l) (hg : w.grownBy w' row) (hn : ∀ p, a = some p → 0 < len → some p.block ≠ row) : Ints w' a len cap l :=
  ⟨h.le, h.cap_le, h.length, h.wf, fun h0 => by
    obtain ⟨b, off, rfl, hlt, hc⟩ := h.at_ h0
    exact ⟨b, off, rfl, Nat.lt_of_lt_of_le hlt hg.size, fun i hi => hg.cell (hc i hi) (show some b ≠ row from hn ⟨b, off, none⟩ rfl h0)⟩⟩

/-- A slice of slices of integers that the call itself made: it may be appended to. Of the blocks of its rows a test is known. -/
def OwnD (D : Nat → Prop) (base : Nat) (w : World) (v : Value) (L : List (List Int)) : Prop :=
  ∃ vs : List Value, w.ownsRow base 22 1 v vs.length vs ∧ vs.length = L.length ∧
    ∀ i, i < L.length → ∃ a len cap, vs[i]? = some (.slice a len cap) ∧ Ints w a len cap (rowL L i) ∧ ∀ p, a = some p → 0 < len → some p.block ≠ v.ownBlock ∧ D p.block

/-- The same, without a test. -/
abbrev OwnG (base : Nat) (w : World) (v : Value) (L : List (List Int)) : Prop := OwnD (fun _ => True) base w v L

theorem OwnD.nil (D : Nat → Prop) (base : Nat) (w : World) : OwnD D base w (.slice none 0 0) [] := ⟨[], World.ownsRow_nil w base 22 1, rfl, fun i hi => absurd hi (Nat.not_lt_zero _)⟩
theorem OwnG.nil (base : Nat) (w : World) : OwnG base w (.slice none 0 0) [] := OwnD.nil _ base w

theorem OwnD.below {D : Nat → Prop} {base : Nat} {w w' : World} {v : Value} {L : List (List Int)} (h : OwnD D base w v L) (hb : Below w.heap.size w w') : OwnD D base w' v L := by
  obtain ⟨vs, ⟨h1, h2⟩, h3, h4⟩ := h
  refine ⟨vs, ⟨h1, ?_⟩, h3, fun i hi => ?_⟩
  · rcases h2 with h2 | ⟨g, cap, cur, hv, hg, hh, r⟩
    · exact .inl h2
    · exact .inr ⟨g, cap, cur, hv, hg, by rw [hb.block g (Array.getElem?_eq_some_iff.1 hh).1]; exact hh, r⟩
  · obtain ⟨a, len, cap, e, hI, hn⟩ := h4 i hi
    exact ⟨a, len, cap, e, hI.below hb, hn⟩

/-- A store into another block. -/
theorem OwnD.store {D : Nat → Prop} {base : Nat} {w : World} {v : Value} {L : List (List Int)} (h : OwnD D base w v L) (g o : Nat) (u : Value) (hg : g < base) (hD : ∀ b, D b → b ≠ g) : OwnD D base (w.setCell ⟨g, o, none⟩ u) v L := by
  obtain ⟨vs, ⟨h1, h2⟩, h3, h4⟩ := h
  refine ⟨vs, ⟨h1, ?_⟩, h3, fun i hi => ?_⟩
  · rcases h2 with h2 | ⟨g', cap, cur, hv, hg', hh, r⟩
    · exact .inl h2
    · exact .inr ⟨g', cap, cur, hv, hg', by rw [Below.heap_setCell _ _ _ _ (by intro e; simp only at e; omega)]; exact hh, r⟩
  · obtain ⟨a, len, cap, e, hI, hn⟩ := h4 i hi
    refine ⟨a, len, cap, e, ⟨hI.le, hI.cap_le, hI.length, hI.wf, fun h0 => ?_⟩, hn⟩
    obtain ⟨b, off, rfl, hlt, hc⟩ := hI.at_ h0
    have hne := hD _ (hn _ rfl h0).2
    refine ⟨b, off, rfl, by simp [World.setCell]; exact hlt, fun j hj => ?_⟩
    rw [World.cell?_setCell_other _ _ _ _ (by intro e'; simp only [Addr.mk.injEq] at e'; exact hne e'.1.symm)]
    exact hc j hj

theorem OwnD.lt {D : Nat → Prop} {base : Nat} {w : World} {v : Value} {L : List (List Int)} (h : OwnD D base w v L) : ∀ k, v.ownBlock = some k → base ≤ k ∧ k < w.heap.size := by
  obtain ⟨vs, h1, _⟩ := h
  exact World.ownsRow.lt h1

/-- What an owned slice of slices reads as. -/
theorem OwnD.grid {D : Nat → Prop} {base : Nat} {w : World} {v : Value} {L : List (List Int)} (h : OwnD D base w v L) : ∃ a len cap, v = .slice a len cap ∧ Grid w a len cap L ∧ ((a = none ∧ len = 0 ∧ cap = 0) ∨ ∃ g, a = some ⟨g, 0, none⟩ ∧ base ≤ g) := by
  obtain ⟨vs, ⟨h1, h2⟩, h3, h4⟩ := h
  rcases h2 with ⟨rfl, h0⟩ | ⟨g, cap, cur, rfl, hg, hh, hn, hm, hc, ht⟩
  · have : L = [] := List.eq_nil_of_length_eq_zero (by omega)
    subst this
    exact ⟨none, 0, 0, rfl, Grid.nil, .inl ⟨rfl, rfl, rfl⟩⟩
  · have hlt := (Array.getElem?_eq_some_iff.1 hh).1
    have hcell : ∀ i, w.cell? ⟨g, i, none⟩ = cur[i]? := fun i => by simp [World.cell?, hh]
    refine ⟨_, _, _, rfl, ⟨hn, by unfold maxLen at hm; omega, h3.symm, fun _ => ⟨g, 0, rfl, hlt, fun i hi => ?_⟩⟩, .inr ⟨g, rfl, hg⟩⟩
    obtain ⟨a, len, cap', e, hI, _⟩ := h4 i (by omega)
    refine ⟨a, len, cap', ?_, hI⟩
    rw [Nat.zero_add, hcell]
    have h5 : (cur.toList.take (vs.length * 1))[i]? = vs[i]? := by rw [ht]
    rw [List.getElem?_take, if_pos (by omega), e] at h5
    simpa using h5

/-- 'l = append(l, x)' on a slice of slices of the call's own: behind the block of one cell that the operand lays. -/
theorem wpList_appD {D : Nat → Prop} {ops : Array Oper} {rest : List Oper} {o : Oper} {a : Act} {Q : Exit → Act → World → Prop} (w : World) (hgd : o.guard = none) (s t : Operand)
    (ho : o.op = .call { callee := .builtin .append, args := #[s, t], argTypes := #[40, 40] }) (base : Nat) (v : Value) (L : List (List Int)) (ax : Option Addr) (lx cx : Nat) (x : List Int)
    (hown : OwnD D base w v L) (hx : Ints w ax lx cx x) (hxn : ∀ p, ax = some p → 0 < lx → some p.block ≠ v.ownBlock ∧ D p.block)
    (hs : a.eval s = v) (ht : a.eval t = .slice (some ⟨w.heap.size, 0, none⟩) 1 1) (hb : base ≤ w.heap.size) (hlen : L.length < 1099511627776)
    (h : ∀ v' w', OwnD D base w' v' (L ++ [x]) → Below base w w' → w.grownBy w' v.ownBlock → wpList Try.prog ops Q rest (a.put o.dst v') w') :
    wpList Try.prog ops Q (o :: rest) a (w.alloc (.cells #[.slice ax lx cx] 22)) := by
  obtain ⟨i0, hi, hz0, hz1, hz2⟩ := info_parts Try.info22
  obtain ⟨vs, hrow, hvl, hrows⟩ := hown
  have hrow1 : (w.alloc (.cells #[.slice ax lx cx] 22)).ownsRow base 22 1 v vs.length vs := hrow.alloc _
  refine wpList_append_own_at _ hgd s t 40 ho base 22 i0 (.slice none 0 0) 1 24 Try.underlying40 hi hz0 hz1 hz2 rfl (by decide) v vs.length vs hs hrow1 ⟨w.heap.size, 0, none⟩ 1 1 [.slice ax lx cx] ht rfl (cell_one_new _ _ _) ?_ ?_ ?_ ?_ ?_
  · intro u hu; simp at hu; subst hu; rfl
  · unfold maxLen; omega
  · omega
  · simp; omega
  · intro v' w' hown' hgrow _ hblk
    have hgw : w.grownBy w' v.ownBlock := ⟨hgrow.os, hgrow.tape, hgrow.output, Nat.le_trans (by simp) hgrow.size, fun k hk hn => (hgrow.block k (by simp; omega) hn).trans (Below.heap_alloc _ _ _ hk)⟩
    have hltb : ∀ p : Addr, p.block < w.heap.size → some p.block ≠ v.ownBlock → some p.block ≠ v'.ownBlock := fun p hp hn e => by
      rcases hblk with hb1 | hb1
      · exact hn (e.trans hb1)
      · rw [hb1] at e; simp at e; omega
    refine h v' w' ⟨vs ++ [.slice ax lx cx], by simpa using hown', by simp [hvl], fun i hi => ?_⟩ ?_ hgw
    · by_cases hlt : i < L.length
      · obtain ⟨ai, li, ci, e, hI, hn⟩ := hrows i hlt
        refine ⟨ai, li, ci, by rw [List.getElem?_append_left (by omega)]; exact e, ?_, fun p hp h0 => ?_⟩
        · rw [rowL_snoc_lt _ _ _ hlt]; exact hI.grown hgw (fun p hp h0 => (hn p hp h0).1)
        · obtain ⟨b, off, e', hlt', _⟩ := hI.at_ h0
          obtain ⟨hn1, hn2⟩ := hn _ hp h0
          rw [hp] at e'; cases e'
          exact ⟨hltb _ hlt' hn1, hn2⟩
      · have : i = L.length := by simp at hi; omega
        subst this
        refine ⟨ax, lx, cx, by rw [← hvl]; simp, ?_, fun p hp h0 => ?_⟩
        · rw [rowL_snoc_last]; exact hx.grown hgw (fun p hp h0 => (hxn p hp h0).1)
        · obtain ⟨b, off, e', hlt', _⟩ := hx.at_ h0
          obtain ⟨hn1, hn2⟩ := hxn _ hp h0
          rw [hp] at e'; cases e'
          exact ⟨hltb _ hlt' hn1, hn2⟩
    · refine ((Below.refl base w).alloc hb _).grown hgrow (by simp; omega) ?_
      intro k hk
      exact (World.ownsRow.lt hrow k hk).1

theorem wpList_appG {ops : Array Oper} {rest : List Oper} {o : Oper} {a : Act} {Q : Exit → Act → World → Prop} (w : World) (hgd : o.guard = none) (s t : Operand)
    (ho : o.op = .call { callee := .builtin .append, args := #[s, t], argTypes := #[40, 40] }) (base : Nat) (v : Value) (L : List (List Int)) (ax : Option Addr) (lx cx : Nat) (x : List Int)
    (hown : OwnG base w v L) (hx : Ints w ax lx cx x) (hxn : ∀ p, ax = some p → 0 < lx → some p.block ≠ v.ownBlock)
    (hs : a.eval s = v) (ht : a.eval t = .slice (some ⟨w.heap.size, 0, none⟩) 1 1) (hb : base ≤ w.heap.size) (hlen : L.length < 1099511627776)
    (h : ∀ v' w', OwnG base w' v' (L ++ [x]) → Below base w w' → w.grownBy w' v.ownBlock → wpList Try.prog ops Q rest (a.put o.dst v') w') :
    wpList Try.prog ops Q (o :: rest) a (w.alloc (.cells #[.slice ax lx cx] 22)) :=
  wpList_appD w hgd s t ho base v L ax lx cx x hown hx (fun p hp h0 => ⟨hxn p hp h0, trivial⟩) hs ht hb hlen h

end Go.Proofs.Ytgmagldbfajedaa
