/-
  appending to a slice in a region of its own: Own, wpList_app1, step_app1.
-/
import Derived.Test.YtgmagldbfajedaaEvCmp
import Derived.Deep.RegionHeld3
import Derived.Deep.AppendLies
namespace Go.Proofs.Ytgmagldbfajedaa
open Go.RowKit Go.Sort

theorem Try.info3 : (Try.prog.info? 3).map (fun i => (i.zero, i.size, i.bytes)) = some (some (.int .i64 0), 1, 8) := by kernel_rfl

/-- A slice of integers that the call itself made (from block base on; nil at first): it may be appended to. -/
def Own (base : Nat) (w : World) (v : Value) (l : List Int) : Prop := w.ownsRow base 3 1 v l.length (l.map (Value.int .i64))

theorem Own.nil (base : Nat) (w : World) : Own base w (.slice none 0 0) [] := World.ownsRow_nil w base 3 1

theorem Own.below {base : Nat} {w w' : World} {v : Value} {l : List Int} (h : Own base w v l) (hb : Below w.heap.size w w') : Own base w' v l := by
  obtain ⟨h1, h2⟩ := h
  refine ⟨h1, ?_⟩
  rcases h2 with h2 | ⟨g, cap, cur, hv, hg, hh, r⟩
  · exact .inl h2
  · exact .inr ⟨g, cap, cur, hv, hg, by rw [hb.block g (Array.getElem?_eq_some_iff.1 hh).1]; exact hh, r⟩

theorem Own.mono {base base' : Nat} {w : World} {v : Value} {l : List Int} (h : Own base w v l) (hb : base' ≤ base) : Own base' w v l := by
  obtain ⟨h1, h2⟩ := h
  refine ⟨h1, ?_⟩
  rcases h2 with h2 | ⟨g, cap, cur, hv, hg, r⟩
  · exact .inl h2
  · exact .inr ⟨g, cap, cur, hv, Nat.le_trans hb hg, r⟩

/-- What an owned slice reads as. -/
theorem Own.ints {base : Nat} {w : World} {v : Value} {l : List Int} (h : Own base w v l) (hwf : ∀ n ∈ l, -9223372036854775808 ≤ n ∧ n ≤ 9223372036854775807) :
    ∃ a len cap, v = .slice a len cap ∧ Ints w a len cap l ∧
      ((a = none ∧ len = 0 ∧ cap = 0) ∨ ∃ g, a = some ⟨g, 0, none⟩ ∧ base ≤ g ∧ g < w.heap.size ∧ ∀ i, i < cap → w.frozen? ⟨g, i, none⟩ = false ∧ ∃ u, w.cell? ⟨g, i, none⟩ = some u) := by
  obtain ⟨h1, h2⟩ := h
  rcases h2 with ⟨rfl, h0⟩ | ⟨g, cap, cur, rfl, hg, hh, hn, hm, hc, ht⟩
  · have : l = [] := List.eq_nil_of_length_eq_zero h0
    subst this
    exact ⟨none, 0, 0, rfl, Ints.nil, .inl ⟨rfl, rfl, rfl⟩⟩
  · have hlt := (Array.getElem?_eq_some_iff.1 hh).1
    have hcell : ∀ i, w.cell? ⟨g, i, none⟩ = cur[i]? := fun i => by simp [World.cell?, hh]
    refine ⟨_, _, _, rfl, ⟨hn, by unfold maxLen at hm; omega, rfl, hwf, fun _ => ⟨g, 0, rfl, hlt, fun i hi => ?_⟩⟩, .inr ⟨g, rfl, hg, hlt, fun i hi => ⟨by simp [World.frozen?, hh], ?_⟩⟩⟩
    · rw [Nat.zero_add, hcell]
      have h3 : (cur.toList.take (l.length * 1))[i]? = (l.map (Value.int .i64))[i]? := by rw [ht]
      rw [List.getElem?_take, if_pos (by omega), List.getElem?_map, List.getElem?_eq_getElem hi] at h3
      rw [nth_eq l i hi]
      simpa using h3
    · rw [hcell]
      exact ⟨_, Array.getElem?_eq_getElem (by omega)⟩

/-- 'l = append(l, x)' on a slice of the call's own: behind the block of one cell that the operand lays. -/
theorem wpList_app1 {ops : Array Oper} {rest : List Oper} {o : Oper} {a : Act} {Q : Exit → Act → World → Prop} (w : World) (hgd : o.guard = none) (s t : Operand)
    (ho : o.op = .call { callee := .builtin .append, args := #[s, t], argTypes := #[22, 22] }) (base : Nat) (v : Value) (l : List Int) (x : Int)
    (hown : Own base w v l) (hs : a.eval s = v) (ht : a.eval t = .slice (some ⟨w.heap.size, 0, none⟩) 1 1) (hb : base ≤ w.heap.size) (hlen : l.length < 1099511627776)
    (h : ∀ v' w', Own base w' v' (l ++ [x]) → Below base w w' → w.grownBy w' v.ownBlock → wpList Try.prog ops Q rest (a.put o.dst v') w') :
    wpList Try.prog ops Q (o :: rest) a (w.alloc (.cells #[.int .i64 x] 3)) := by
  obtain ⟨i0, hi, hz0, hz1, hz2⟩ := info_parts Try.info3
  refine wpList_append_own _ hgd s t 22 ho base 3 i0 (.int .i64 0) 1 8 Try.underlying22 hi hz0 hz1 hz2 rfl (by decide) v l.length (l.map (Value.int .i64)) hs (hown.alloc _) ⟨w.heap.size, 0, none⟩ 1 1 [.int .i64 x] ht rfl ?_ ?_ ?_ ?_ ?_ ?_
  · intro j u hj
    match j, hj with
    | 0, hj => simp at hj; subst hj; simp [Addr.add]
  · intro u hu; simp at hu; subst hu; rfl
  · unfold maxLen; omega
  · omega
  · simp; omega
  · intro v' w' hown' hgrow _
    refine h v' w' ?_ ?_ ?_
    · unfold Own; simpa using hown'
    · refine ((Below.refl base w).alloc hb _).grown hgrow (by simp; omega) ?_
      intro k hk
      exact (World.ownsRow.lt hown k hk).1
    · exact ⟨hgrow.os, hgrow.tape, hgrow.output, Nat.le_trans (by simp) hgrow.size, fun k hk hn => (hgrow.block k (by simp; omega) hn).trans (Below.heap_alloc _ _ _ hk)⟩

/-- The same inside a region that draws its order. -/
theorem step_app1 {ops : Array Oper} {o : Oper} {a : Act} {K : Act → World → Prop} {Q : Exit → Act → World → Prop} {E : Prop} (W : World) (hgd : o.guard = none) (s t : Operand)
    (ho : o.op = .call { callee := .builtin .append, args := #[s, t], argTypes := #[22, 22] }) (base : Nat) (v : Value) (l : List Int) (x : Int) (b : Nat)
    (hown : Own base W v l) (hs : a.eval s = v) (ht : a.eval t = .slice (some ⟨b, 0, none⟩) 1 1) (hnew : W.heap[b]? = some (.cells #[.int .i64 x] 3 (0, 0))) (hb : base ≤ W.heap.size) (hlen : l.length < 1099511627776)
    (h : ∀ v' w', Own base w' v' (l ++ [x]) → W.grownBy w' v.ownBlock → K (a.put o.dst v') w') :
    if Region.wanted o (yielded ops a.tmps) = true then Oper.wp Try.prog o a W K Q else E := by
  obtain ⟨i0, hi, hz0, hz1, hz2⟩ := info_parts Try.info3
  have hw : Region.wanted o (yielded ops a.tmps) = true := by simp [Region.wanted, hgd]
  rw [if_pos hw]
  refine wp_append_own W s t 22 ho base 3 i0 (.int .i64 0) 1 8 Try.underlying22 hi hz0 hz1 hz2 rfl (by decide) v l.length (l.map (Value.int .i64)) hs hown ⟨b, 0, none⟩ 1 1 [.int .i64 x] ht rfl ?_ ?_ ?_ ?_ hb ?_
  · intro j u hj
    match j, hj with
    | 0, hj => simp at hj; subst hj; simp [Addr.add, World.cell?, hnew]
  · intro u hu; simp at hu; subst hu; rfl
  · unfold maxLen; omega
  · omega
  · intro v' w' hown' hgrow _
    exact h v' w' (by unfold Own; simpa using hown') hgrow

theorem Own.lt {base : Nat} {w : World} {v : Value} {l : List Int} (h : Own base w v l) : ∀ k, v.ownBlock = some k → base ≤ k ∧ k < w.heap.size := World.ownsRow.lt h

theorem cell_keep {W w' : World} {row : Option Nat} {b i : Nat} {u : Value} (hg : W.grownBy w' row) (h : W.cell? ⟨b, i, none⟩ = some u) (hb : b < W.heap.size) (hn : some b ≠ row) : w'.cell? ⟨b, i, none⟩ = some u :=
  hg.cell h hn

theorem Ints.alloc {w : World} {a : Option Addr} {len cap : Nat} {l : List Int} (h : Ints w a len cap l) (o : Obj) : Ints (w.alloc o) a len cap l := h.below ((Below.refl _ _).alloc (Nat.le_refl _) o)

end Go.Proofs.Ytgmagldbfajedaa
