import Derived.Test.YtekejcnphmnidaaGreatDoorZBkB
namespace Go.Proofs.YtekejcnphmnidaaGreatDoor
open Go.RowKit
theorem blocksOf_heldN (n : Int) (t : TN) (x : Gr.Node) : blocksOf (heldN n t x) = [t.b, t.b'] := rfl
theorem blocksOf_heldsN (n : Int) {ts : List TN} {g : List Gr.Node} (hl : ts.length = g.length) : blocksOf (heldsN n ts g g.length) = blksN ts := by
  have h : ∀ k, k ≤ ts.length → blocksOf (heldsN n ts g k) = blksN (ts.take k) := by
    intro k
    induction k with
    | zero => intro _; rfl
    | succ k ih =>
      intro hk
      rw [heldsN_succ, blocksOf_app, ih (by omega), blocksOf_heldN, List.take_succ_eq_append_getElem (by omega), blksN_snoc]
      simp [tnAt, List.getElem?_eq_getElem (show k < ts.length by omega)]
  rw [← hl, h ts.length (Nat.le_refl _), List.take_length]
theorem heldsN_mem {n : Int} {ts : List TN} {g : List Gr.Node} : ∀ {k : Nat} {h : Held}, h ∈ heldsN n ts g k → ∃ i, i < k ∧ h ∈ heldN (n + 2 * (i : Int)) (tnAt ts i) (nodeN g i)
  | 0, h, hm => by cases hm
  | k + 1, h, hm => by
    rw [heldsN_succ] at hm
    rcases List.mem_append.1 hm with hm | hm
    · obtain ⟨i, h1, h2⟩ := heldsN_mem hm
      exact ⟨i, by omega, h2⟩
    · exact ⟨k, Nat.lt_succ_self _, hm⟩
theorem heldsN_row {n : Int} {w : World} {ts : List TN} {g : List Gr.Node} (R : RowsN w ts g) (hsz : ∀ i, i < g.length → (nodeN g i).inn.length ≤ 1000000 ∧ (nodeN g i).shape.length ≤ 1000000) {len : Nat} (hl : g.length = len) : ∀ h ∈ heldsN n ts g len, RowV 1 w h.v h.n h.xs ∧ h.n ≤ 1000000 := by
  intro h hm
  obtain ⟨i, hi, hm⟩ := heldsN_mem hm
  obtain ⟨t1, t2⟩ := R.tw i (by omega)
  obtain ⟨s1, s2⟩ := hsz i (by omega)
  simp only [heldN, List.mem_cons, List.not_mem_nil, or_false] at hm
  rcases hm with rfl | rfl
  · exact ⟨t1.rowV, s1⟩
  · exact ⟨t2.rowV, s2⟩
theorem nodup_lv {A B : List Nat} {s : Nat} (hA : A.Nodup) (hB : B.Nodup) (h1 : ∀ x ∈ A, x < s) (h2 : ∀ x ∈ B, s ≤ x) : (A ++ B).Nodup := by
  rw [List.nodup_append]
  exact ⟨hA, hB, fun a ha b hb e => by have := h1 a ha; have := h2 b hb; omega⟩
theorem nodup_one (h : Held) : (blocksOf [h]).Nodup := by
  unfold blocksOf
  cases hc : h.v.ownBlock with
  | none => simp [hc]
  | some b => simp [hc]
theorem mem_one {h : Held} {b : Nat} : b ∈ blocksOf [h] ↔ h.v.ownBlock = some b := by
  unfold blocksOf
  cases hc : h.v.ownBlock with
  | none => simp [hc]
  | some c => simp [hc, eq_comm]
end Go.Proofs.YtekejcnphmnidaaGreatDoor
