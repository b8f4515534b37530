/-
  A slice of costs that the call itself appends to (OwnC), and how it reads (CostsIn); what a node of a graph that may be offers to the reckoning of its work.
-/
import Derived.Test.YtgmagldbfajedaaCoWorks
import Derived.Test.YtgmagldbfajedaaBh
import Derived.OwnWalk
import Derived.Maps.AppendAt
namespace Go.Proofs.Ytgmagldbfajedaa
open Go.RowKit

theorem Try.info63 : (Try.prog.info? 63).map (fun i => (i.zero, i.size, i.bytes)) = some (some (.agg #[.int .i64 0, .int .i64 0, .int .i64 0]), 3, 24) := by kernel_rfl

/-- A slice of costs. -/
structure CostsIn (w : World) (a : Option Addr) (len cap : Nat) (C : List Co.Cost) : Prop where
  le : len ≤ cap
  cap_le : cap ≤ 9223372036854775807
  length : C.length = len
  at_ : 0 < len → ∃ b off, a = some ⟨b, off, none⟩ ∧ b < w.heap.size ∧ ∀ i, i < len → w.cell? ⟨b, off + i * 3, none⟩ = some (.int .i64 (Co.costN C i).bytes) ∧
    w.cell? ⟨b, off + i * 3 + 1, none⟩ = some (.int .i64 (Co.costN C i).need) ∧ w.cell? ⟨b, off + i * 3 + 2, none⟩ = some (.int .i64 (Co.costN C i).work)
theorem CostsIn.nil {w : World} : CostsIn w none 0 0 [] := ⟨Nat.le_refl _, by omega, rfl, (fun h => absurd h (Nat.lt_irrefl 0))⟩
theorem CostsIn.below {w w' : World} {a : Option Addr} {len cap : Nat} {C : List Co.Cost} (h : CostsIn w a len cap C) (hb : Below w.heap.size w w') : CostsIn w' a len cap C :=
  ⟨h.le, h.cap_le, h.length, fun h0 => by
    obtain ⟨b, off, rfl, hlt, hc⟩ := h.at_ h0
    refine ⟨b, off, rfl, Nat.lt_of_lt_of_le hlt hb.size, fun i hi => ?_⟩
    obtain ⟨h1, h2, h3⟩ := hc i hi
    exact ⟨(hb.cell (p := ⟨b, _, none⟩) hlt).trans h1, (hb.cell (p := ⟨b, _, none⟩) hlt).trans h2, (hb.cell (p := ⟨b, _, none⟩) hlt).trans h3⟩⟩

/-- A slice of costs that the call itself made. -/
def OwnC (base : Nat) (w : World) (v : Value) (C : List Co.Cost) : Prop :=
  ∃ vs : List Value, w.ownsRow base 63 3 v C.length vs ∧ ∀ i, i < C.length → vs[i * 3]? = some (.int .i64 (Co.costN C i).bytes) ∧ vs[i * 3 + 1]? = some (.int .i64 (Co.costN C i).need) ∧ vs[i * 3 + 2]? = some (.int .i64 (Co.costN C i).work)
theorem OwnC.nil (base : Nat) (w : World) : OwnC base w (.slice none 0 0) [] := ⟨[], World.ownsRow_nil w base 63 3, fun _ hi => absurd hi (Nat.not_lt_zero _)⟩
theorem OwnC.below {base : Nat} {w w' : World} {v : Value} {C : List Co.Cost} (h : OwnC base w v C) (hb : Below w.heap.size w w') : OwnC base w' v C := by
  obtain ⟨vs, ⟨h1, h2⟩, h4⟩ := h
  refine ⟨vs, ⟨h1, ?_⟩, h4⟩
  rcases h2 with h2 | ⟨g, cap, cur, hv, hg, hh, r⟩
  · exact .inl h2
  · exact .inr ⟨g, cap, cur, hv, hg, by rw [hb.block g (Array.getElem?_eq_some_iff.1 hh).1]; exact hh, r⟩
theorem OwnC.lt {base : Nat} {w : World} {v : Value} {C : List Co.Cost} (h : OwnC base w v C) : ∀ k, v.ownBlock = some k → base ≤ k ∧ k < w.heap.size := by
  obtain ⟨vs, h1, _⟩ := h
  exact World.ownsRow.lt h1
theorem OwnC.store {base : Nat} {w : World} {v : Value} {C : List Co.Cost} (h : OwnC base w v C) (g o : Nat) (u : Value) (hg : v.ownBlock ≠ some g) : OwnC base (w.setCell ⟨g, o, none⟩ u) v C := by
  obtain ⟨vs, ⟨h1, h2⟩, h4⟩ := h
  refine ⟨vs, ⟨h1, ?_⟩, h4⟩
  rcases h2 with h2 | ⟨g', cap, cur, hv, hg', hh, r⟩
  · exact .inl h2
  · exact .inr ⟨g', cap, cur, hv, hg', by rw [Below.heap_setCell _ _ _ _ (by intro e; simp only at e; subst e; exact hg (by rw [hv]; rfl))]; exact hh, r⟩
theorem OwnC.costs {base : Nat} {w : World} {v : Value} {C : List Co.Cost} (h : OwnC base w v C) : ∃ a len cap, v = .slice a len cap ∧ CostsIn w a len cap C ∧ (a = none → len = 0 ∧ cap = 0) := by
  obtain ⟨vs, ⟨h1, h2⟩, h4⟩ := h
  rcases h2 with ⟨rfl, h0⟩ | ⟨b, cap, cur, rfl, hg, hh, hn, hm, hc, ht⟩
  · have : C = [] := List.eq_nil_of_length_eq_zero h0
    subst this
    exact ⟨none, 0, 0, rfl, CostsIn.nil, fun _ => ⟨rfl, rfl⟩⟩
  · have hlt := (Array.getElem?_eq_some_iff.1 hh).1
    have hcell : ∀ i u, vs[i]? = some u → w.cell? ⟨b, 0 + i, none⟩ = some u := fun i u hu => by
      rw [Nat.zero_add, show w.cell? ⟨b, i, none⟩ = cur[i]? by simp [World.cell?, hh]]
      rw [← ht, List.getElem?_take] at hu
      split at hu
      · simpa using hu
      · cases hu
    refine ⟨_, _, _, rfl, ⟨hn, by unfold maxLen at hm; omega, rfl, fun _ => ⟨b, 0, rfl, hlt, fun i hi => ?_⟩⟩, fun h => by cases h⟩
    obtain ⟨e0, e1, e2⟩ := h4 i hi
    exact ⟨hcell _ _ e0, hcell _ _ e1, hcell _ _ e2⟩

theorem costN_left (C : List Co.Cost) (c : Co.Cost) (i : Nat) (h : i < C.length) : Co.costN (C ++ [c]) i = Co.costN C i := by
  unfold Co.costN; rw [List.getD_eq_getElem?_getD, List.getD_eq_getElem?_getD, List.getElem?_append_left h]
theorem costN_last (C : List Co.Cost) (c : Co.Cost) : Co.costN (C ++ [c]) C.length = c := by
  unfold Co.costN; rw [List.getD_eq_getElem?_getD, List.getElem?_append_right (Nat.le_refl _)]; simp

/-- One cost more, at the end. -/
theorem wpList_appC {ops : Array Oper} {rest : List Oper} {o : Oper} {a : Act} {Q : Exit → Act → World → Prop} (w : World) (hgd : o.guard = none) (s t : Operand)
    (ho : o.op = .call { callee := .builtin .append, args := #[s, t], argTypes := #[57, 57] }) (base : Nat) (v : Value) (C : List Co.Cost) (c : Co.Cost) (hown : OwnC base w v C)
    (hs : a.eval s = v) (ht : a.eval t = .slice (some ⟨w.heap.size, 0, none⟩) 1 1) (hbase : base ≤ w.heap.size) (hlen : C.length ≤ 10000000)
    (hK : ∀ v' w', OwnC base w' v' (C ++ [c]) → Below base w w' → w.grownBy w' v.ownBlock → wpList Try.prog ops Q rest (a.put o.dst v') w') :
    wpList Try.prog ops Q (o :: rest) a (w.alloc (.cells #[.int .i64 c.bytes, .int .i64 c.need, .int .i64 c.work] 63)) := by
  obtain ⟨i0, hi, hz0, hz1, hz2⟩ := info_parts Try.info63
  have hl2 := hown.lt
  obtain ⟨vs, hrow, hvs⟩ := hown
  refine wpList_append_own_at _ hgd s t 57 ho base 63 i0 _ 3 24 Try.underlying57 hi hz0 hz1 hz2 rfl (by decide) v C.length vs hs (hrow.alloc _) ⟨w.heap.size, 0, none⟩ 1 1 [.int .i64 c.bytes, .int .i64 c.need, .int .i64 c.work] ht rfl
    (fun j u hu => ?_) (fun u hu => ?_) ?_ ?_ (by simp; omega) ?_
  · rw [Addr.add_lit, World.cell?_alloc_at _ _ _ _ rfl]
    rw [← hu]; simp
  · simp only [List.mem_cons, List.not_mem_nil, or_false] at hu
    rcases hu with rfl | rfl | rfl <;> rfl
  · unfold maxLen; omega
  · omega
  · intro v' w' hown' hgrow _ hob
    have hga : w.grownBy w' v.ownBlock := ⟨hgrow.os, hgrow.tape, hgrow.output, Nat.le_trans (by simp) hgrow.size, fun k hk hn => (hgrow.block k (by simp; omega) hn).trans (Below.heap_alloc _ _ _ hk)⟩
    refine hK v' w' ⟨vs ++ [.int .i64 c.bytes, .int .i64 c.need, .int .i64 c.work], by rw [List.length_append]; exact hown', fun i hil => ?_⟩ ?_ hga
    · have hvl : vs.length = C.length * 3 := hrow.1
      by_cases hlt : i < C.length
      · rw [costN_left _ _ _ hlt]
        obtain ⟨e0, e1, e2⟩ := hvs i hlt
        refine ⟨?_, ?_, ?_⟩ <;> (rw [List.getElem?_append_left (by omega)]; assumption)
      · have he : i = C.length := by rw [List.length_append] at hil; simp at hil; omega
        subst he
        rw [costN_last]
        refine ⟨?_, ?_, ?_⟩ <;> (rw [List.getElem?_append_right (by omega), hvl]; simp [Nat.add_sub_cancel_left])
    · exact (Below.refl base w).grown hga hbase fun k hk => (hl2 k hk).1

set_option maxHeartbeats 1000000 in
theorem clipC_any (a : Option Addr) (len cap : Nat) (w : World) (h1 : len ≤ cap) (h2 : cap ≤ 9223372036854775807) (h3 : a = none → len = 0 ∧ cap = 0) :
    Calls Try.prog 80 #[.slice a len cap] w fun e w' => e = .returned (.slice a len len) ∧ w = w' := by
  cases a with
  | none =>
    obtain ⟨rfl, rfl⟩ := h3 rfl
    go_enter Try.func80, Try.ntmps80
    go_wp2
    go_ret
    exact ⟨rfl, rfl⟩
  | some x =>
    clear h3
    go_enter Try.func80, Try.ntmps80
    go_wp2
    go_ret
    exact ⟨rfl, rfl⟩

theorem rowL_map (f : Int → List Int) (l : List Int) (i : Nat) (h : i < l.length) : rowL (l.map f) i = f (nth l i) := by
  rw [rowL_eq _ _ (by simpa using h), List.getElem_map, nth_eq l i h]

/-- What a node of a graph that may be offers. -/
theorem work_ok {g : List Gr.Node} {s : List (List Int)} (h : Gr.shapes g = some s) {i : Nat} (hi : i < g.length) : WorkOk (nodeN g i) (Gr.size (rowL s i)) ((nodeN g i).inn.map (Gr.rowAt s)) := by
  have hsz := Co.size_bounds h hi
  have hsl := Gr.shapes_len h
  obtain ⟨k, h1, h2, h3, h4⟩ := Gr.run_node (Gr.shapes_iff.1 h).2.1 i hi
  obtain ⟨p1, p2, p3, p4, _⟩ := Gr.ofB_parts h2
  have hch := Gr.shapes_chk h i (by omega)
  have hin := (Co.inn_of h hi).2
  have hrow : ∀ v ∈ (nodeN g i).inn, Gr.rowAt (s.take i) v = Gr.rowAt s v := fun v hv => by
    obtain ⟨a0, a1⟩ := hin v hv
    obtain ⟨n, rfl⟩ : ∃ n : Nat, v = (n : Int) := ⟨v.toNat, by omega⟩
    rw [Gr.rowAt_nat, Gr.rowAt_nat]
    unfold rowL
    simp only [List.getD_eq_getElem?_getD, List.getElem?_take]
    rw [if_pos (by omega)]
  rw [h4] at hch
  unfold Gr.shapeOf at hch
  have h64 : ∀ (l : List Int) (j : Nat), Gr.chk l = true → j < l.length → 1 ≤ nth l j ∧ nth l j ≤ 64 := fun l j hc hj => (Gr.chk_parts hc).2.2 _ (nth_mem l j hj)
  have hnil : Gr.chk [] = false := by decide
  refine ⟨by omega, by omega, fun hk => ?_, fun hk => ?_, fun hk => ?_, fun hk => ?_⟩
  · rw [hk] at h1
    have hkk : k = ⟨2, 2, 0, 0, 0, 0⟩ := by simpa [Gr.kindOf] using h1.symm
    subst hkk
    simp only at p1 p2
    simp [hk] at hch
    have n0 := nth_mem (nodeN g i).inn 0 (by omega)
    rw [hrow _ n0, hrow _ (nth_mem (nodeN g i).inn 1 (by omega))] at hch
    rw [rowL_map _ _ _ (by omega)]
    generalize Gr.rowAt s (nth (nodeN g i).inn 0) = a at *
    generalize Gr.rowAt s (nth (nodeN g i).inn 1) = b at *
    unfold Gr.product at hch
    by_cases c1 : Gr.chk a = false ∨ Gr.chk b = false
    · rw [if_pos c1, hnil] at hch; cases hch
    rw [if_neg c1] at hch
    by_cases c2 : a.length ≠ 2 ∨ b.length ≠ 2 ∨ nth a 1 ≠ nth b 0
    · rw [if_pos c2, hnil] at hch; cases hch
    have ha : Gr.chk a = true := by
      cases hc : Gr.chk a with
      | true => rfl
      | false => exact absurd (.inl hc) c1
    have hal : a.length = 2 := by omega
    have := h64 a 1 ha (by omega)
    exact ⟨by simp; omega, by omega, by omega, by omega⟩
  · rw [hk] at h1
    have hkk : k = ⟨2, 2, 1, 8, 8, 0⟩ := by simpa [Gr.kindOf] using h1.symm
    subst hkk
    simp only at p1 p2
    simp [hk] at hch
    rw [hrow _ (nth_mem (nodeN g i).inn 0 (by omega)), hrow _ (nth_mem (nodeN g i).inn 1 (by omega))] at hch
    rw [rowL_map _ _ _ (by omega)]
    generalize Gr.rowAt s (nth (nodeN g i).inn 0) = a at *
    generalize Gr.rowAt s (nth (nodeN g i).inn 1) = b at *
    unfold Gr.window at hch
    by_cases c1 : Gr.chk a = false ∨ Gr.chk b = false ∨ (nodeN g i).n < 1 ∨ 8 < (nodeN g i).n ∨ (nodeN g i).pad < 0 ∨ 8 < (nodeN g i).pad
    · rw [if_pos c1, hnil] at hch; cases hch
    have hb : Gr.chk b = true := by
      cases hc : Gr.chk b with
      | true => rfl
      | false => exact absurd (.inr (.inl hc)) c1
    have hbl := (Gr.chk_parts hb).1
    have := h64 b 0 hb (by omega)
    exact ⟨by simp; omega, by omega, by omega, by omega⟩
  · rw [hk] at h1
    have hkk : k = ⟨1, 1, 1, 64, 0, 0⟩ := by simpa [Gr.kindOf] using h1.symm
    subst hkk
    simp only at p3 p4
    omega
  · rw [hk] at h1
    have hkk : k = ⟨1, 1, 0, 3, 0, 0⟩ := by simpa [Gr.kindOf] using h1.symm
    subst hkk
    simp only at p1
    simp
    omega
end Go.Proofs.Ytgmagldbfajedaa
