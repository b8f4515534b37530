/-
  For GraphsInsert: what nodes take in, turned one further on, step by step; a rest of a slice of nodes.
-/
import Derived.Test.YtgmagldbfajedaaTwNodes
namespace Go.Proofs.Ytgmagldbfajedaa
open Go.RowKit

namespace Gr
/-- The first j are turned. -/
def bumpT (k : Nat) (l : List Int) (j : Nat) : List Int := (l.take j).map (bumpI k) ++ l.drop j
theorem bumpT_length (k : Nat) (l : List Int) (j : Nat) : (bumpT k l j).length = l.length := by unfold bumpT; simp; omega
theorem bumpT_zero (k : Nat) (l : List Int) : bumpT k l 0 = l := by unfold bumpT; simp
theorem bumpT_all (k : Nat) (l : List Int) {j : Nat} (h : l.length ≤ j) : bumpT k l j = l.map (bumpI k) := by unfold bumpT; rw [List.take_of_length_le h, List.drop_eq_nil_of_le h, List.append_nil]
theorem bumpT_nth (k : Nat) (l : List Int) {j : Nat} (h : j < l.length) : nth (bumpT k l j) j = nth l j := by
  rw [nth_eq _ j (by rw [bumpT_length]; exact h), nth_eq l j h]
  unfold bumpT
  rw [List.getElem_append_right (by simp; omega)]
  simp [Nat.min_eq_left (Nat.le_of_lt h)]
theorem bumpT_set (k : Nat) (l : List Int) {j : Nat} (h : j < l.length) : (bumpT k l j).set j (bumpI k (nth l j)) = bumpT k l (j + 1) := by
  have h1 : l.drop j = nth l j :: l.drop (j + 1) := by rw [nth_eq l j h, List.drop_eq_getElem_cons h]
  unfold bumpT
  rw [h1, take_snoc l j h, List.map_append]
  have hl : ((l.take j).map (bumpI k)).length = j := by simp; omega
  rw [List.set_append_right _ _ (by omega), hl, Nat.sub_self]
  simp
theorem bumpT_keep (k : Nat) (l : List Int) {j : Nat} (h : j < l.length) (hv : bumpI k (nth l j) = nth l j) : bumpT k l (j + 1) = bumpT k l j := by
  rw [← bumpT_set k l h, hv, ← bumpT_nth k l h, nth_eq _ j (by rw [bumpT_length]; exact h), List.set_getElem_self]

/-- What node i takes in, when those from k on ahead of q are turned, and of q the first j. -/
def insI (g : List Node) (k q j i : Nat) : List Int := if i = q then bumpT k (nodeN g i).inn j else if k ≤ i ∧ i < q then (nodeN g i).inn.map (bumpI k) else (nodeN g i).inn
theorem insI_start (g : List Node) (k i : Nat) : insI g k k 0 i = (nodeN g i).inn := by
  unfold insI
  split
  · exact bumpT_zero _ _
  · rw [if_neg (by omega)]
theorem insI_next (g : List Node) (k q j i : Nat) (hk : k ≤ q) (h : (nodeN g q).inn.length ≤ j) : insI g k (q + 1) 0 i = insI g k q j i := by
  unfold insI
  by_cases c : i = q + 1
  · subst c
    rw [if_pos rfl, if_neg (by omega), if_neg (by omega), bumpT_zero]
  · rw [if_neg c]
    by_cases d : i = q
    · subst d
      rw [if_pos ⟨hk, by omega⟩, if_pos rfl, bumpT_all _ _ h]
    · rw [if_neg d]
      by_cases e : k ≤ i ∧ i < q
      · rw [if_pos ⟨e.1, by omega⟩, if_pos e]
      · rw [if_neg (by omega), if_neg e]
theorem insI_set (g : List Node) (k q j i : Nat) (h : j < (nodeN g q).inn.length) : (if i = q then (insI g k q j q).set j (bumpI k (nth (nodeN g q).inn j)) else insI g k q j i) = insI g k q (j + 1) i := by
  unfold insI
  by_cases c : i = q
  · subst c
    rw [if_pos rfl, if_pos rfl, if_pos rfl, bumpT_set k _ h]
  · rw [if_neg c, if_neg c, if_neg c]
theorem insI_keep (g : List Node) (k q j i : Nat) (h : j < (nodeN g q).inn.length) (hv : bumpI k (nth (nodeN g q).inn j) = nth (nodeN g q).inn j) : insI g k q (j + 1) i = insI g k q j i := by
  unfold insI
  by_cases c : i = q
  · subst c
    rw [if_pos rfl, if_pos rfl, bumpT_keep k _ h hv]
  · rw [if_neg c, if_neg c]

/-- The graph, its nodes from k on turned. -/
def bumped (g : List Node) (k : Nat) : List Node := g.take k ++ (g.drop k).map (bump k)
theorem bumped_length (g : List Node) (k : Nat) : (bumped g k).length = g.length := by unfold bumped; simp; omega
theorem bumped_at (g : List Node) (k i : Nat) (hk : k ≤ g.length) (hi : i < g.length) : nodeN (bumped g k) i = { nodeN g i with inn := insI g k g.length 0 i } := by
  have hne : i ≠ g.length := by omega
  unfold insI
  rw [if_neg hne]
  by_cases c : i < k
  · rw [if_neg (by omega)]
    unfold bumped
    rw [nodeN_append_left _ _ _ (by simp; omega), nodeN_take g k i c]
  · rw [if_pos ⟨by omega, hi⟩]
    unfold bumped
    have hl : (g.take k).length = k := by rw [List.length_take]; omega
    obtain ⟨m, rfl⟩ : ∃ m, i = k + m := ⟨i - k, by omega⟩
    have h1 := nodeN_append_right (g.take k) ((g.drop k).map (bump k)) m
    rw [hl] at h1
    rw [h1, nodeN_eq _ m (by simp; omega), List.getElem_map, List.getElem_drop, ← nodeN_eq g (k + m) hi]
    rfl
theorem bumped_take (g : List Node) (k : Nat) (hk : k ≤ g.length) : (bumped g k).take k = g.take k := by
  unfold bumped; rw [List.take_left' (by rw [List.length_take]; omega)]
theorem bumped_drop (g : List Node) (k : Nat) (hk : k ≤ g.length) : (bumped g k).drop k = (g.drop k).map (bump k) := by
  unfold bumped; rw [List.drop_left' (by rw [List.length_take]; omega)]

/-- A node of a graph that may be is small. -/
theorem node_small {g : List Node} {s : List (List Int)} (h : shapes g = some s) {i : Nat} (hi : i < g.length) : (nodeN g i).inn.length ≤ 4 ∧ (nodeN g i).shape.length ≤ 4 ∧ ∀ v ∈ (nodeN g i).inn, 0 ≤ v ∧ v < i := by
  obtain ⟨k, h1, h2, h3, _⟩ := run_node (shapes_iff.1 h).2.1 i hi
  obtain ⟨_, p2, _, _, _, _, p7, p8, p9⟩ := ofB_parts h2
  have h5 := kindOf_bounds h1
  refine ⟨by omega, ?_, fun v hv => ?_⟩
  · by_cases c : k.shaped = 0
    · rw [p7 c]; omega
    · by_cases d : k.shaped = 1
      · exact (chk_parts (p8 d)).2.1
      · exact (order_range (p9 c d)).1
  · unfold okIn at h3
    have := List.all_eq_true.1 h3 v hv
    simpa using this
end Gr

theorem TwinG.congr {base : Nat} {w : World} {nb : Nat} {f h : Nat → Nat} {g : List Gr.Node} {I J : Nat → List Int} (H : TwinG base w nb f h g I) (e : ∀ i, i < g.length → I i = J i) : TwinG base w nb f h g J :=
  ⟨H.lo, H.lt, fun i hi => by rw [← e i hi]; exact H.at_ i hi, H.inj, H.fh, H.ne⟩

/-- A rest of a slice of nodes. -/
theorem NodesIn.drop {w w0 : World} {b off len cap : Nat} {g : List Gr.Node} (h : NodesIn w w0 (some ⟨b, off, none⟩) len cap g) (k : Nat) (hk : k ≤ len) : NodesIn w w0 (some ⟨b, off + k * 5, none⟩) (len - k) (cap - k) (g.drop k) := by
  have h1 := h.le
  have h2 := h.cap_le
  have h3 := h.len_le
  refine ⟨by omega, by omega, by omega, by rw [List.length_drop, h.length], fun h0 => ?_⟩
  obtain ⟨b', off', e, hlt, hc⟩ := h.at_ (by omega)
  simp only [Option.some.injEq, Addr.mk.injEq] at e
  obtain ⟨rfl, rfl, _⟩ := e
  refine ⟨b, off + k * 5, rfl, hlt, fun i hi => ?_⟩
  obtain ⟨ai, li, ci, sa, ls, cs, e0, e1, e2, e3, e4, hv⟩ := hc (k + i) (by omega)
  have hn : nodeN (g.drop k) i = nodeN g (k + i) := by
    unfold nodeN
    simp only [List.getD_eq_getElem?_getD, List.getElem?_drop]
  rw [hn]
  have ho : off + k * 5 + i * 5 = off + (k + i) * 5 := by omega
  rw [ho]
  exact ⟨ai, li, ci, sa, ls, cs, e0, e1, e2, e3, e4, hv⟩
end Go.Proofs.Ytgmagldbfajedaa
