/-
  Plain Lean: what the law GraphsKinds says; what stays while a graph is asked (GSt).
-/
import Derived.Test.YtgmagldbfajedaaGrAlive
namespace Go.Proofs.Ytgmagldbfajedaa
open Go.RowKit

/-- What stays while a graph is asked: it lies in a box of the call's own. -/
structure GSt (w : World) (a : Option Addr) (len cap : Nat) (g : List Gr.Node) (wk : World) : Prop where
  bel : Below w.heap.size w wk
  cell : wk.cell? ⟨w.heap.size, 0, none⟩ = some (.slice a len cap)
  lt : w.heap.size < wk.heap.size
  n : Nodes wk a len cap g
theorem GSt.on {w : World} {a : Option Addr} {len cap : Nat} {g : List Gr.Node} {wk w' : World} (h : GSt w a len cap g wk) (hb : Below wk.heap.size wk w') : GSt w a len cap g w' :=
  ⟨h.bel.trans (hb.mono h.bel.size), (hb.cell (p := ⟨w.heap.size, 0, none⟩) h.lt).trans h.cell, Nat.lt_of_lt_of_le h.lt hb.size, h.n.on hb⟩
theorem GSt.alloc {w : World} {a : Option Addr} {len cap : Nat} {g : List Gr.Node} {wk : World} (h : GSt w a len cap g wk) (o : Obj) : GSt w a len cap g (wk.alloc o) := h.on ((Below.refl _ _).alloc (Nat.le_refl _) o)
theorem GSt.start {w : World} {a : Option Addr} {len cap : Nat} {g : List Gr.Node} (h : Nodes w a len cap g) : GSt w a len cap g (w.alloc (.cells #[.slice a len cap] 38)) :=
  ⟨(Below.refl _ _).alloc (Nat.le_refl _) _, by rw [World.cell?_alloc_at _ _ _ _ rfl]; rfl, by simp, h.on ((Below.refl _ _).alloc (Nat.le_refl _) _)⟩

namespace Gr
theorem weights_split (g : List Node) (k : Nat) : weights g = weights (g.take k) ++ weightsF (g.take k).length (g.drop k) := by
  have := weightsF_append (g.take k) 0 (g.drop k)
  rw [List.take_append_drop, Nat.zero_add] at this
  exact this
theorem weights_at {g : List Node} {k : Nat} (hk : k < g.length) (h : (nodeN g k).kind = 2) : (weights (g.take k)).length < (weights g).length ∧ nth (weights g) (weights (g.take k)).length = k ∧ (weights (g.take (k + 1))).length = (weights (g.take k)).length + 1 := by
  have h1 := weights_snoc hk
  rw [← nodeN_eq g k hk, if_pos h] at h1
  have h2 := weights_split g (k + 1)
  rw [h1] at h2
  refine ⟨by rw [h2]; simp, ?_, by rw [h1]; simp⟩
  rw [h2]
  unfold nth
  rw [List.getD_eq_getElem?_getD, List.append_assoc, List.getElem?_append_right (Nat.le_refl _)]
  simp
theorem weights_skip {g : List Node} {k : Nat} (hk : k < g.length) (h : (nodeN g k).kind ≠ 2) : weights (g.take (k + 1)) = weights (g.take k) := by
  have h1 := weights_snoc hk
  rw [← nodeN_eq g k hk, if_neg h, List.append_nil] at h1
  exact h1

theorem inputN_snoc : ∀ (a : List Node) (x : Node), inputN (a ++ [x]) = if inputN a < a.length then inputN a else if x.kind = 1 then a.length else a.length + 1
  | [], x => by simp [inputN]
  | y :: r, x => by
    have ih := inputN_snoc r x
    simp only [List.cons_append, inputN, List.length_cons]
    by_cases c : y.kind = 1
    · simp [c]
    · rw [if_neg c, if_neg c, ih]
      by_cases c1 : inputN r < r.length
      · simp [c1, c]
      · by_cases c2 : x.kind = 1
        · simp [c1, c, c2]
        · simp [c1, c, c2]
theorem inputIx_snoc {g : List Node} {k : Nat} (hk : k < g.length) : inputIx (g.take (k + 1)) = if inputIx (g.take k) < 0 then (if (nodeN g k).kind = 1 then (k : Int) else -1) else inputIx (g.take k) := by
  have hl : (g.take k).length = k := by rw [List.length_take]; omega
  have hl1 : (g.take (k + 1)).length = k + 1 := by rw [List.length_take]; omega
  unfold inputIx
  rw [hl, hl1, List.take_succ_eq_append_getElem hk, inputN_snoc, hl, ← nodeN_eq g k hk]
  have hle := inputN_le (g.take k)
  rw [hl] at hle
  by_cases c : inputN (g.take k) < k
  · rw [if_pos c, if_pos c, if_pos (by omega), if_neg (by omega)]
  · rw [if_neg c, if_neg c, if_pos (show (-1 : Int) < 0 by omega)]
    by_cases c1 : (nodeN g k).kind = 1
    · rw [if_pos c1, if_pos c1, if_pos (by omega)]
    · rw [if_neg c1, if_neg c1, if_neg (by omega)]
theorem inputIx_bounds (g : List Node) : -1 ≤ inputIx g ∧ inputIx g < g.length := by
  unfold inputIx
  split <;> omega
theorem inputIx_neg {g : List Node} : inputs g = 0 → inputIx g = -1 := by
  intro h
  unfold inputIx
  rw [if_neg]
  intro hlt
  have h2 : ∀ g : List Node, inputN g < g.length → 1 ≤ inputs g := fun g => by
    induction g with
    | nil => intro h; simp [inputN] at h
    | cons x r ih =>
      intro h
      simp only [inputN, inputs, List.length_cons] at h ⊢
      split at h
      · rename_i c; rw [if_pos c]; omega
      · have := ih (by omega); omega
  have := h2 g hlt
  omega
/-- Of a graph that may be: one input alone. -/
theorem may_input {g : List Node} (h : (shapes g).isSome = true) {k : Nat} (hk : k < g.length) (h1 : (nodeN g k).kind = 1) : inputIx (g.take k) = -1 := by
  obtain ⟨s, hs⟩ := Option.isSome_iff_exists.1 h
  have h2 := (shapes_iff.1 hs).2.2.1
  have h3 := inputs_snoc g k hk
  rw [if_pos h1] at h3
  have h4 := inputs_take_le g (k + 1)
  exact inputIx_neg (by omega)
theorem may_has {g : List Node} (h : (shapes g).isSome = true) : 0 ≤ inputIx g := by
  obtain ⟨s, hs⟩ := Option.isSome_iff_exists.1 h
  have h2 := (shapes_iff.1 hs).2.2.1
  have := inputN_lt g (by omega)
  unfold inputIx
  rw [if_pos this]; omega
/-- Of a graph that may be: those that take in nothing. -/
theorem may_none {g : List Node} (h : (shapes g).isSome = true) {k : Nat} (hk : k < g.length) : (nodeN g k).inn.length = 0 ↔ ((nodeN g k).kind = 1 ∨ (nodeN g k).kind = 2) := by
  obtain ⟨s, hs⟩ := Option.isSome_iff_exists.1 h
  obtain ⟨kd, h1, h2, _⟩ := run_node (shapes_iff.1 hs).2.1 k hk
  obtain ⟨h3, h4, _⟩ := ofB_parts h2
  obtain ⟨h5, h6⟩ := kindOf_least h1
  constructor
  · intro h0
    apply Classical.byContradiction
    intro hc
    have := h6 hc
    omega
  · intro hc
    have := h5 hc
    omega
end Gr
end Go.Proofs.Ytgmagldbfajedaa
