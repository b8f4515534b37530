import Derived.Test.YtekejcnphmnidaaGreatDoorZBkN
import Derived.ArgAppend
import Derived.Deep.AppendLies
namespace Go.Proofs.YtekejcnphmnidaaGreatDoor
open Go.RowKit
structure Only (S : Nat → Prop) (w w' : World) : Prop where
  os : w'.os = w.os
  tape : w'.tape = w.tape
  output : w'.output = w.output
  size : w.heap.size ≤ w'.heap.size
  block : ∀ k, k < w.heap.size → ¬ S k → w'.heap[k]? = w.heap[k]?
theorem Only.refl (S : Nat → Prop) (w : World) : Only S w w := ⟨rfl, rfl, rfl, Nat.le_refl _, fun _ _ _ => rfl⟩
theorem Only.trans {S : Nat → Prop} {w w1 w2 : World} (h : Only S w w1) (h2 : Only S w1 w2) : Only S w w2 :=
  ⟨h2.os.trans h.os, h2.tape.trans h.tape, h2.output.trans h.output, Nat.le_trans h.size h2.size, fun k hk hs => (h2.block k (Nat.lt_of_lt_of_le hk h.size) hs).trans (h.block k hk hs)⟩
theorem Only.mono {S T : Nat → Prop} {w w1 : World} (h : Only S w w1) (hs : ∀ k, k < w.heap.size → S k → T k) : Only T w w1 :=
  ⟨h.os, h.tape, h.output, h.size, fun k hk ht => h.block k hk (fun e => ht (hs k hk e))⟩
theorem Only.of_below {S : Nat → Prop} {w w1 : World} (h : Below w.heap.size w w1) : Only S w w1 := ⟨h.os, h.tape, h.output, h.size, fun k hk _ => h.block k hk⟩
theorem Only.below {S : Nat → Prop} {base : Nat} {w w1 : World} (h : Only S w w1) (hs : ∀ k, S k → base ≤ k) (hb : base ≤ w.heap.size) : Below base w w1 :=
  ⟨h.os, h.tape, h.output, h.size, fun k hk => h.block k (by omega) (fun e => by have := hs k e; omega)⟩
theorem Only.set {S : Nat → Prop} {w : World} (g o : Nat) (u : Value) (hg : S g) : Only S w (w.setCell ⟨g, o, none⟩ u) :=
  ⟨rfl, rfl, rfl, by simp [World.setCell], fun k _ hs => Below.heap_setCell _ _ _ _ (by intro e; simp only at e; subst e; exact hs hg)⟩
theorem Only.cell {S : Nat → Prop} {w w1 : World} (h : Only S w w1) {g : Nat} (hg : g < w.heap.size) (hs : ¬ S g) (o : Nat) : w1.cell? ⟨g, o, none⟩ = w.cell? ⟨g, o, none⟩ := by
  simp only [World.cell?, h.block g hg hs]
theorem Only.frozen {S : Nat → Prop} {w w1 : World} (h : Only S w w1) {g : Nat} (hg : g < w.heap.size) (hs : ¬ S g) (o : Nat) : w1.frozen? ⟨g, o, none⟩ = w.frozen? ⟨g, o, none⟩ := by
  simp only [World.frozen?, h.block g hg hs]
theorem Only.grown {S : Nat → Prop} {w w1 : World} {row : Option Nat} (h : w.grownBy w1 row) (hs : ∀ k, row = some k → S k) : Only S w w1 :=
  ⟨h.os, h.tape, h.output, h.size, fun k hk hn => h.block k hk (fun e => hn (hs k e.symm))⟩
theorem Bk.only {S : Nat → Prop} {w w' : World} {B : Nat} {f : Nat → Value} (h : Bk w B f) (ho : Only S w w') (hs : ¬ S B) : Bk w' B f := h.other ho.size (ho.block B h.lt hs)
structure Row (c : Nat) (w : World) (g off n cap : Nat) (xs : List Value) : Prop where
  lt : g < w.heap.size
  le : n ≤ cap
  cap_le : cap ≤ 9223372036854775807
  len : xs.length = n * c
  cell : ∀ j u, xs[j]? = some u → w.cell? ⟨g, off + j, none⟩ = some u
  all : ∀ j, j < cap * c → (w.cell? ⟨g, off + j, none⟩).isSome = true ∧ w.frozen? ⟨g, off + j, none⟩ = false
theorem Row.keep {c : Nat} {w w' : World} {g off n cap : Nat} {xs : List Value} (h : Row c w g off n cap xs) (hz : w.heap.size ≤ w'.heap.size) (hb : w'.heap[g]? = w.heap[g]?) : Row c w' g off n cap xs :=
  ⟨Nat.lt_of_lt_of_le h.lt hz, h.le, h.cap_le, h.len, fun j u hj => by rw [← h.cell j u hj]; simp only [World.cell?, hb], fun j hj => by
    have := h.all j hj
    simp only [World.cell?, World.frozen?, hb] at this ⊢
    exact this⟩
theorem Row.set {c : Nat} {w : World} {g off n cap : Nat} {xs : List Value} (h : Row c w g off n cap xs) (j : Nat) (hj : j < n * c) (u : Value) : Row c (w.setCell ⟨g, off + j, none⟩ u) g off n cap (xs.set j u) := by
  have hnc : n * c ≤ cap * c := Nat.mul_le_mul_right c h.le
  refine ⟨by simp [World.setCell]; exact h.lt, h.le, h.cap_le, by rw [List.length_set]; exact h.len, fun k x hx => ?_, fun k hk => ⟨?_, by rw [World.frozen?_setCell]; exact (h.all k hk).2⟩⟩
  · rw [List.getElem?_set] at hx
    by_cases e : j = k
    · subst e
      rw [if_pos rfl, if_pos (by rw [h.len]; exact hj)] at hx
      cases hx
      obtain ⟨y, hy⟩ := Option.isSome_iff_exists.1 (h.all j (by omega)).1
      exact World.cell?_setCell_same _ _ _ hy
    · rw [if_neg e] at hx
      rw [World.cell?_setCell_other _ _ _ _ (by intro e'; simp only [Addr.mk.injEq] at e'; omega)]
      exact h.cell k x hx
  · by_cases e : j = k
    · subst e
      obtain ⟨y, hy⟩ := Option.isSome_iff_exists.1 (h.all j (by omega)).1
      rw [World.cell?_setCell_same _ _ _ hy]; rfl
    · rw [World.cell?_setCell_other _ _ _ _ (by intro e'; simp only [Addr.mk.injEq] at e'; omega)]
      exact (h.all k hk).1
theorem Row.spare {c : Nat} {w : World} {g off n cap : Nat} {xs : List Value} (h : Row c w g off n cap xs) (j : Nat) (hj : n * c ≤ j) (hj2 : j < cap * c) (u : Value) : Row c (w.setCell ⟨g, off + j, none⟩ u) g off n cap xs := by
  refine ⟨by simp [World.setCell]; exact h.lt, h.le, h.cap_le, h.len, fun k x hx => ?_, fun k hk => ⟨?_, by rw [World.frozen?_setCell]; exact (h.all k hk).2⟩⟩
  · have hk : k < xs.length := (List.getElem?_eq_some_iff.1 hx).1
    rw [h.len] at hk
    rw [World.cell?_setCell_other _ _ _ _ (by intro e'; simp only [Addr.mk.injEq] at e'; omega)]
    exact h.cell k x hx
  · by_cases e : j = k
    · subst e
      obtain ⟨y, hy⟩ := Option.isSome_iff_exists.1 (h.all j hj2).1
      rw [World.cell?_setCell_same _ _ _ hy]; rfl
    · rw [World.cell?_setCell_other _ _ _ _ (by intro e'; simp only [Addr.mk.injEq] at e'; omega)]
      exact (h.all k hk).1
theorem Row.push1 {w : World} {g off n cap : Nat} {xs : List Value} (h : Row 1 w g off n cap xs) (hn : n < cap) (u : Value) : Row 1 (w.setCell ⟨g, off + n, none⟩ u) g off (n + 1) cap (xs ++ [u]) := by
  have h2 := h.spare n (by omega) (by omega) u
  have hl := h.len
  refine ⟨h2.lt, by omega, h2.cap_le, by rw [List.length_append]; simp; omega, fun k x hx => ?_, h2.all⟩
  by_cases e : k < xs.length
  · rw [List.getElem?_append_left e] at hx
    exact h2.cell k x hx
  · rw [List.getElem?_append_right (by omega)] at hx
    have hk : k = xs.length := by
      by_cases e2 : k - xs.length = 0
      · omega
      · rw [List.getElem?_eq_none (by simp; omega)] at hx; cases hx
    subst hk
    simp at hx
    subst hx
    rw [show xs.length = n by omega]
    obtain ⟨y, hy⟩ := Option.isSome_iff_exists.1 (h.all n (by omega)).1
    exact World.cell?_setCell_same _ _ _ hy
def RowV (c : Nat) (w : World) (v : Value) (n : Nat) (xs : List Value) : Prop :=
  (v = .slice none 0 0 ∧ n = 0 ∧ xs = []) ∨ ∃ g off cap, v = .slice (some ⟨g, off, none⟩) n cap ∧ Row c w g off n cap xs
theorem RowV.keep {c : Nat} {w w' : World} {v : Value} {n : Nat} {xs : List Value} (h : RowV c w v n xs) (hz : w.heap.size ≤ w'.heap.size) (hb : ∀ k, v.ownBlock = some k → w'.heap[k]? = w.heap[k]?) : RowV c w' v n xs := by
  rcases h with h | ⟨g, off, cap, rfl, h⟩
  · exact .inl h
  · exact .inr ⟨g, off, cap, rfl, h.keep hz (hb g rfl)⟩
theorem RowV.lt {c : Nat} {w : World} {v : Value} {n : Nat} {xs : List Value} (h : RowV c w v n xs) : ∀ k, v.ownBlock = some k → k < w.heap.size := by
  rcases h with ⟨rfl, _⟩ | ⟨g, off, cap, rfl, h⟩
  · intro k hk; cases hk
  · intro k hk; cases hk; exact h.lt
theorem RowV.only {c : Nat} {S : Nat → Prop} {w w' : World} {v : Value} {n : Nat} {xs : List Value} (h : RowV c w v n xs) (ho : Only S w w') (hs : ∀ k, v.ownBlock = some k → ¬ S k) : RowV c w' v n xs :=
  h.keep ho.size (fun k hk => ho.block k (h.lt k hk) (hs k hk))
theorem RowV.slice {c : Nat} {w : World} {v : Value} {n : Nat} {xs : List Value} (h : RowV c w v n xs) : ∃ a cap, v = .slice a n cap ∧ n ≤ cap ∧ cap ≤ 9223372036854775807 ∧ (a = none → n = 0 ∧ cap = 0) := by
  rcases h with ⟨rfl, rfl, _⟩ | ⟨g, off, cap, rfl, h⟩
  · exact ⟨none, 0, rfl, Nat.le_refl _, by omega, fun _ => ⟨rfl, rfl⟩⟩
  · exact ⟨_, cap, rfl, h.le, h.cap_le, fun e => by cases e⟩
theorem RowV.of_owns {c base : Nat} {e : TypeId} {w : World} {v : Value} {n : Nat} {xs : List Value} (h : w.ownsRow base e c v n xs) : RowV c w v n xs := by
  obtain ⟨h1, ⟨rfl, rfl⟩ | ⟨g, cap, cur, rfl, hg, hh, hn, hm, hc, ht⟩⟩ := h
  · exact .inl ⟨rfl, rfl, List.eq_nil_of_length_eq_zero (by simpa using h1)⟩
  · have hcell : ∀ j, w.cell? ⟨g, 0 + j, none⟩ = cur[j]? := fun j => by simp [World.cell?, hh]
    refine .inr ⟨g, 0, cap, rfl, (Array.getElem?_eq_some_iff.1 hh).1, hn, by unfold maxLen at hm; omega, h1, fun j u hu => ?_, fun j hj => ⟨?_, by simp [World.frozen?, hh]⟩⟩
    · rw [hcell]
      rw [← ht, List.getElem?_take] at hu
      split at hu
      · simpa using hu
      · cases hu
    · rw [hcell]
      have : j < cur.size := by omega
      simp [this]
structure Held where
  v : Value
  n : Nat
  xs : List Value
  lg : Value
  num : Int
def Arr (e : TypeId) (base : Nat) (w : World) (vA : Value) (m : Nat) (h : Nat → Held) : Prop :=
  ∃ xs, w.ownsRow base e 3 vA m xs ∧ ∀ i, i < m → xs[i * 3]? = some (h i).v ∧ xs[i * 3 + 1]? = some (h i).lg ∧ xs[i * 3 + 2]? = some (.int .i64 (h i).num)
theorem Arr.lt {e : TypeId} {base : Nat} {w : World} {vA : Value} {m : Nat} {h : Nat → Held} (A : Arr e base w vA m h) : ∀ k, vA.ownBlock = some k → base ≤ k ∧ k < w.heap.size := by
  obtain ⟨xs, h1, _⟩ := A
  exact World.ownsRow.lt h1
theorem Arr.keep {e : TypeId} {base : Nat} {w w' : World} {vA : Value} {m : Nat} {h : Nat → Held} (A : Arr e base w vA m h) (hb : ∀ k, vA.ownBlock = some k → w'.heap[k]? = w.heap[k]?) : Arr e base w' vA m h := by
  obtain ⟨xs, ⟨h1, h2⟩, h4⟩ := A
  refine ⟨xs, ⟨h1, ?_⟩, h4⟩
  rcases h2 with h2 | ⟨g, cap, cur, hv, hg, hh, r⟩
  · exact .inl h2
  · exact .inr ⟨g, cap, cur, hv, hg, by rw [hb g (by rw [hv]; rfl)]; exact hh, r⟩
theorem Arr.only {e : TypeId} {base : Nat} {S : Nat → Prop} {w w' : World} {vA : Value} {m : Nat} {h : Nat → Held} (A : Arr e base w vA m h) (ho : Only S w w') (hs : ∀ k, vA.ownBlock = some k → ¬ S k) : Arr e base w' vA m h :=
  A.keep fun k hk => ho.block k (A.lt k hk).2 (hs k hk)
theorem Arr.at {e : TypeId} {base : Nat} {w : World} {vA : Value} {m : Nat} {h : Nat → Held} (A : Arr e base w vA m h) : ∃ a cap, vA = .slice a m cap ∧ m ≤ cap ∧ cap ≤ 9223372036854775807 ∧ (0 < m → ∃ g, a = some ⟨g, 0, none⟩ ∧ base ≤ g ∧ g < w.heap.size ∧ ∀ i, i < m → w.cell? ⟨g, i * 3, none⟩ = some (h i).v ∧ w.cell? ⟨g, i * 3 + 1, none⟩ = some (h i).lg ∧ w.cell? ⟨g, i * 3 + 2, none⟩ = some (.int .i64 (h i).num) ∧ w.frozen? ⟨g, i * 3 + 1, none⟩ = false) := by
  obtain ⟨xs, ⟨h1, h2⟩, h4⟩ := A
  rcases h2 with ⟨rfl, rfl⟩ | ⟨g, cap, cur, rfl, hg, hh, hn, hm, hc, ht⟩
  · exact ⟨none, 0, rfl, Nat.le_refl _, by omega, fun h => absurd h (Nat.lt_irrefl 0)⟩
  · refine ⟨_, cap, rfl, hn, by unfold maxLen at hm; omega, fun _ => ⟨g, rfl, hg, (Array.getElem?_eq_some_iff.1 hh).1, fun i hi => ?_⟩⟩
    have hcell : ∀ j u, xs[j]? = some u → w.cell? ⟨g, j, none⟩ = some u := fun j u hu => by
      rw [show w.cell? ⟨g, j, none⟩ = cur[j]? by simp [World.cell?, hh]]
      rw [← ht, List.getElem?_take] at hu
      split at hu
      · simpa using hu
      · cases hu
    obtain ⟨e0, e1, e2⟩ := h4 i hi
    exact ⟨hcell _ _ e0, hcell _ _ e1, hcell _ _ e2, by simp [World.frozen?, hh]⟩
theorem Arr.setLong {e : TypeId} {base : Nat} {w : World} {g m cap : Nat} {h : Nat → Held} (A : Arr e base w (.slice (some ⟨g, 0, none⟩) m cap) m h) (i : Nat) (hi : i < m) (u : Value) :
    Arr e base (w.setCell ⟨g, i * 3 + 1, none⟩ u) (.slice (some ⟨g, 0, none⟩) m cap) m (fun j => if j = i then { h i with lg := u } else h j) := by
  obtain ⟨xs, ⟨h1, h2⟩, h4⟩ := A
  rcases h2 with ⟨hv, _⟩ | ⟨g', cap', cur, hv, hg, hh, hn, hm, hc, ht⟩
  · cases hv
  · cases hv
    have hh2 : (w.setCell ⟨g, i * 3 + 1, none⟩ u).heap[g]? = some (.cells (cur.setIfInBounds (i * 3 + 1) u) e (0, 0)) := by
      unfold World.setCell
      rw [Array.getElem?_modify, if_pos rfl, hh]
      rfl
    refine ⟨xs.set (i * 3 + 1) u, ⟨by rw [List.length_set]; exact h1, .inr ⟨g, cap, _, rfl, hg, hh2, hn, hm, by simpa using hc, ?_⟩⟩, fun j hj => ?_⟩
    · rw [Array.toList_setIfInBounds, ← ht, List.take_set]
    · obtain ⟨e0, e1, e2⟩ := h4 j hj
      have hl : i * 3 + 1 < xs.length := by rw [h1]; omega
      by_cases e' : j = i
      · subst e'
        simp only [if_true]
        refine ⟨by rw [List.getElem?_set, if_neg (by omega)]; exact e0, by rw [List.getElem?_set, if_pos rfl, if_pos hl], by rw [List.getElem?_set, if_neg (by omega)]; exact e2⟩
      · simp only [if_neg e']
        refine ⟨by rw [List.getElem?_set, if_neg (by omega)]; exact e0, by rw [List.getElem?_set, if_neg (by omega)]; exact e1, by rw [List.getElem?_set, if_neg (by omega)]; exact e2⟩
end Go.Proofs.YtekejcnphmnidaaGreatDoor
