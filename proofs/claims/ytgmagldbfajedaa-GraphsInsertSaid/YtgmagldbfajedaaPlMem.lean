/-
  How a plan's making lies in memory (MkSt): its box at block M, and three slices of its own; what is held beside it stays (Keep). The steps: a slice of the call's own (OwnL, wpList_appL).
-/
import Derived.Test.YtgmagldbfajedaaPlA
namespace Go.Proofs.Ytgmagldbfajedaa
open Go.RowKit

theorem Try.info82 : (Try.prog.info? 82).map (fun i => (i.zero, i.size, i.bytes)) = some (some (.agg #[.int .u8 0, .int .i64 0]), 2, 16) := by kernel_rfl

/-- The step at a place. -/
def stepN (l : List (Int × Int)) (i : Nat) : Int × Int := l.getD i (0, 0)
theorem stepN_left (l : List (Int × Int)) (s : Int × Int) (i : Nat) (h : i < l.length) : stepN (l ++ [s]) i = stepN l i := by
  unfold stepN; rw [List.getD_eq_getElem?_getD, List.getD_eq_getElem?_getD, List.getElem?_append_left h]
theorem stepN_last (l : List (Int × Int)) (s : Int × Int) : stepN (l ++ [s]) l.length = s := by
  unfold stepN; rw [List.getD_eq_getElem?_getD, List.getElem?_append_right (Nat.le_refl _)]; simp

/-- A slice of steps. -/
structure StepsIn (w : World) (a : Option Addr) (len cap : Nat) (l : List (Int × Int)) : Prop where
  le : len ≤ cap
  cap_le : cap ≤ 9223372036854775807
  length : l.length = len
  at_ : 0 < len → ∃ b off, a = some ⟨b, off, none⟩ ∧ b < w.heap.size ∧ ∀ i, i < len → w.cell? ⟨b, off + i * 2, none⟩ = some (.int .u8 (stepN l i).1) ∧ w.cell? ⟨b, off + i * 2 + 1, none⟩ = some (.int .i64 (stepN l i).2)
theorem StepsIn.nil {w : World} : StepsIn w none 0 0 [] := ⟨Nat.le_refl _, by omega, rfl, (fun h => absurd h (Nat.lt_irrefl 0))⟩
theorem StepsIn.below {w w' : World} {a : Option Addr} {len cap : Nat} {l : List (Int × Int)} (h : StepsIn w a len cap l) (hb : Below w.heap.size w w') : StepsIn w' a len cap l :=
  ⟨h.le, h.cap_le, h.length, fun h0 => by
    obtain ⟨b, off, rfl, hlt, hc⟩ := h.at_ h0
    refine ⟨b, off, rfl, Nat.lt_of_lt_of_le hlt hb.size, fun i hi => ?_⟩
    obtain ⟨h1, h2⟩ := hc i hi
    exact ⟨(hb.cell (p := ⟨b, _, none⟩) hlt).trans h1, (hb.cell (p := ⟨b, _, none⟩) hlt).trans h2⟩⟩

/-- A slice of steps that the call itself made. -/
def OwnL (base : Nat) (w : World) (v : Value) (l : List (Int × Int)) : Prop :=
  ∃ vs : List Value, w.ownsRow base 82 2 v l.length vs ∧ ∀ i, i < l.length → vs[i * 2]? = some (.int .u8 (stepN l i).1) ∧ vs[i * 2 + 1]? = some (.int .i64 (stepN l i).2)
theorem OwnL.nil (base : Nat) (w : World) : OwnL base w (.slice none 0 0) [] := ⟨[], World.ownsRow_nil w base 82 2, fun _ hi => absurd hi (Nat.not_lt_zero _)⟩
theorem OwnL.lt {base : Nat} {w : World} {v : Value} {l : List (Int × Int)} (h : OwnL base w v l) : ∀ k, v.ownBlock = some k → base ≤ k ∧ k < w.heap.size := by
  obtain ⟨vs, h1, _⟩ := h
  exact World.ownsRow.lt h1
theorem OwnL.steps {base : Nat} {w : World} {v : Value} {l : List (Int × Int)} (h : OwnL base w v l) : ∃ a len cap, v = .slice a len cap ∧ StepsIn w a len cap l ∧ (a = none → len = 0 ∧ cap = 0) := by
  obtain ⟨vs, ⟨h1, h2⟩, h4⟩ := h
  rcases h2 with ⟨rfl, h0⟩ | ⟨b, cap, cur, rfl, hg, hh, hn, hm, hc, ht⟩
  · have : l = [] := List.eq_nil_of_length_eq_zero h0
    subst this
    exact ⟨none, 0, 0, rfl, StepsIn.nil, fun _ => ⟨rfl, rfl⟩⟩
  · have hlt := (Array.getElem?_eq_some_iff.1 hh).1
    have hcell : ∀ i u, vs[i]? = some u → w.cell? ⟨b, 0 + i, none⟩ = some u := fun i u hu => by
      rw [Nat.zero_add, show w.cell? ⟨b, i, none⟩ = cur[i]? by simp [World.cell?, hh]]
      rw [← ht, List.getElem?_take] at hu
      split at hu
      · simpa using hu
      · cases hu
    refine ⟨_, _, _, rfl, ⟨hn, by unfold maxLen at hm; omega, rfl, fun _ => ⟨b, 0, rfl, hlt, fun i hi => ?_⟩⟩, fun h => by cases h⟩
    obtain ⟨e0, e1⟩ := h4 i hi
    exact ⟨hcell _ _ e0, hcell _ _ e1⟩

/-- A block that stays as it was, and the worlds' sizes: an owned slice stays. -/
theorem ownsRow_keep {w w' : World} {base e size n : Nat} {v : Value} {vs : List Value} (h : w.ownsRow base e size v n vs) (hk : ∀ k, v.ownBlock = some k → w'.heap[k]? = w.heap[k]?) : w'.ownsRow base e size v n vs := by
  obtain ⟨h1, h2⟩ := h
  refine ⟨h1, ?_⟩
  rcases h2 with h2 | ⟨g, cap, cur, hv, hg, hh, r⟩
  · exact .inl h2
  · exact .inr ⟨g, cap, cur, hv, hg, by rw [hk g (by rw [hv]; rfl)]; exact hh, r⟩
theorem Own.keep {w w' : World} {base : Nat} {v : Value} {l : List Int} (h : Own base w v l) (hk : ∀ k, v.ownBlock = some k → w'.heap[k]? = w.heap[k]?) : Own base w' v l := ownsRow_keep h hk
theorem OwnL.keep {w w' : World} {base : Nat} {v : Value} {l : List (Int × Int)} (h : OwnL base w v l) (hk : ∀ k, v.ownBlock = some k → w'.heap[k]? = w.heap[k]?) : OwnL base w' v l := by
  obtain ⟨vs, h1, h2⟩ := h
  exact ⟨vs, ownsRow_keep h1 hk, h2⟩

/-- The making's own slices, by their cells: a block that is none of them, nor the box. -/
def Held (M : Nat) (w : World) (k : Nat) : Prop := k < w.heap.size ∧ k ≠ M ∧ ∀ o, o = 7 ∨ o = 8 ∨ o = 9 → ∀ v, w.cell? ⟨M, o, none⟩ = some v → v.ownBlock ≠ some k
/-- What is held beside the making stays. -/
structure Keep (M : Nat) (w w' : World) : Prop where
  size : w.heap.size ≤ w'.heap.size
  held : ∀ k, Held M w k → Held M w' k ∧ w'.heap[k]? = w.heap[k]?
theorem Keep.refl (M : Nat) (w : World) : Keep M w w := ⟨Nat.le_refl _, fun _ h => ⟨h, rfl⟩⟩
theorem Keep.trans {M : Nat} {w w1 w2 : World} (h : Keep M w w1) (h2 : Keep M w1 w2) : Keep M w w2 :=
  ⟨Nat.le_trans h.size h2.size, fun k hk => by
    obtain ⟨a1, a2⟩ := h.held k hk
    obtain ⟨b1, b2⟩ := h2.held k a1
    exact ⟨b1, b2.trans a2⟩⟩
/-- What turns nothing keeps all. -/
theorem Keep.of_below {M : Nat} {w w' : World} (hM : M < w.heap.size) (h : Below w.heap.size w w') : Keep M w w' :=
  ⟨h.size, fun k ⟨h1, h2, h3⟩ => ⟨⟨Nat.lt_of_lt_of_le h1 h.size, h2, fun o ho v hv => h3 o ho v (by rw [← h.cell (p := ⟨M, o, none⟩) hM]; exact hv)⟩, h.block k h1⟩⟩

/-- A slice of integers that is held. -/
def IntsH (M : Nat) (w : World) (a : Option Addr) (len cap : Nat) (l : List Int) : Prop := Ints w a len cap l ∧ ∀ p, a = some p → 0 < len → Held M w p.block
theorem IntsH.keep {M : Nat} {w w' : World} {a : Option Addr} {len cap : Nat} {l : List Int} (h : IntsH M w a len cap l) (hk : Keep M w w') : IntsH M w' a len cap l := by
  obtain ⟨h1, h2⟩ := h
  refine ⟨⟨h1.le, h1.cap_le, h1.length, h1.wf, fun h0 => ?_⟩, fun p hp h0 => (hk.held _ (h2 p hp h0)).1⟩
  obtain ⟨b, off, e, hlt, hc⟩ := h1.at_ h0
  have hh := hk.held b (h2 _ e h0)
  refine ⟨b, off, e, hh.1.1, fun i hi => ?_⟩
  have h3 : w'.cell? ⟨b, off + i, none⟩ = w.cell? ⟨b, off + i, none⟩ := by unfold World.cell?; rw [hh.2]
  rw [h3]; exact hc i hi

/-- The making, as it lies: its box at M, made behind w0. -/
structure MkSt (w0 : World) (M : Nat) (vg vc vb vo : Value) (room : Int) (again : Bool) (at_ : Int) (st : Pl.St) (w : World) : Prop where
  hM : w0.heap.size ≤ M
  lt : M < w.heap.size
  bel : Below w0.heap.size w0 w
  c0 : w.cell? ⟨M, 0, none⟩ = some vg
  c1 : w.cell? ⟨M, 1, none⟩ = some vc
  c2 : w.cell? ⟨M, 2, none⟩ = some vb
  c3 : w.cell? ⟨M, 3, none⟩ = some vo
  c4 : w.cell? ⟨M, 4, none⟩ = some (.int .i64 room)
  c5 : w.cell? ⟨M, 5, none⟩ = some (.bool again)
  c6 : w.cell? ⟨M, 6, none⟩ = some (.int .i64 at_)
  fr : ∀ o, o < 10 → w.frozen? ⟨M, o, none⟩ = false
  own : ∃ vi vd vl, w.cell? ⟨M, 7, none⟩ = some vi ∧ w.cell? ⟨M, 8, none⟩ = some vd ∧ w.cell? ⟨M, 9, none⟩ = some vl ∧ Own (M + 1) w vi st.inn ∧ Own (M + 1) w vd st.disk ∧ OwnL (M + 1) w vl st.l ∧
    (∀ k, vi.ownBlock = some k → vd.ownBlock ≠ some k ∧ vl.ownBlock ≠ some k) ∧ ∀ k, vd.ownBlock = some k → vl.ownBlock ≠ some k

/-- What turns nothing leaves the making as it was. -/
theorem MkSt.on {w0 : World} {M : Nat} {vg vc vb vo : Value} {room : Int} {again : Bool} {at_ : Int} {st : Pl.St} {w w' : World} (h : MkSt w0 M vg vc vb vo room again at_ st w) (hb : Below w.heap.size w w') : MkSt w0 M vg vc vb vo room again at_ st w' := by
  have hc : ∀ o u, w.cell? ⟨M, o, none⟩ = some u → w'.cell? ⟨M, o, none⟩ = some u := fun o u hu => (hb.cell (p := ⟨M, o, none⟩) h.lt).trans hu
  obtain ⟨vi, vd, vl, o1, o2, o3, o4, o5, o6, o7, o8⟩ := h.own
  exact ⟨h.hM, Nat.lt_of_lt_of_le h.lt hb.size, h.bel.trans (hb.mono h.bel.size), hc _ _ h.c0, hc _ _ h.c1, hc _ _ h.c2, hc _ _ h.c3, hc _ _ h.c4, hc _ _ h.c5, hc _ _ h.c6, fun o ho => (hb.frozen (p := ⟨M, o, none⟩) h.lt).trans (h.fr o ho),
    vi, vd, vl, hc _ _ o1, hc _ _ o2, hc _ _ o3, o4.keep (fun k hk => hb.block k (Own.lt o4 k hk).2), o5.keep (fun k hk => hb.block k (Own.lt o5 k hk).2), o6.keep (fun k hk => hb.block k (o6.lt k hk).2), o7, o8⟩

/-- One step more, at the end of such a slice. -/
theorem wpList_appL {ops : Array Oper} {rest : List Oper} {o : Oper} {a : Act} {Q : Exit → Act → World → Prop} (w : World) (hgd : o.guard = none) (s t : Operand)
    (ho : o.op = .call { callee := .builtin .append, args := #[s, t], argTypes := #[75, 75] }) (base : Nat) (v : Value) (l : List (Int × Int)) (x : Int × Int) (hown : OwnL base w v l)
    (hs : a.eval s = v) (ht : a.eval t = .slice (some ⟨w.heap.size, 0, none⟩) 1 1) (hbase : base ≤ w.heap.size) (hlen : l.length ≤ 10000000)
    (hK : ∀ v' w', OwnL base w' v' (l ++ [x]) → Below base w w' → w.grownBy w' v.ownBlock → (v'.ownBlock = v.ownBlock ∨ ∃ k, v'.ownBlock = some k ∧ w.heap.size < k) → wpList Try.prog ops Q rest (a.put o.dst v') w') :
    wpList Try.prog ops Q (o :: rest) a (w.alloc (.cells #[.int .u8 x.1, .int .i64 x.2] 82)) := by
  obtain ⟨i0, hi, hz0, hz1, hz2⟩ := info_parts Try.info82
  have hl2 := hown.lt
  obtain ⟨vs, hrow, hvs⟩ := hown
  refine wpList_append_own_at _ hgd s t 75 ho base 82 i0 _ 2 16 Try.underlying75 hi hz0 hz1 hz2 rfl (by decide) v l.length vs hs (hrow.alloc _) ⟨w.heap.size, 0, none⟩ 1 1 [.int .u8 x.1, .int .i64 x.2] ht rfl
    (fun j u hu => ?_) (fun u hu => ?_) ?_ ?_ (by simp; omega) ?_
  · rw [Addr.add_lit, World.cell?_alloc_at _ _ _ _ rfl]
    rw [← hu]; simp
  · simp only [List.mem_cons, List.not_mem_nil, or_false] at hu
    rcases hu with rfl | rfl <;> rfl
  · unfold maxLen; omega
  · omega
  · intro v' w' hown' hgrow _ hob
    have hga : w.grownBy w' v.ownBlock := ⟨hgrow.os, hgrow.tape, hgrow.output, Nat.le_trans (by simp) hgrow.size, fun k hk hn => (hgrow.block k (by simp; omega) hn).trans (Below.heap_alloc _ _ _ hk)⟩
    refine hK v' w' ⟨vs ++ [.int .u8 x.1, .int .i64 x.2], by rw [List.length_append]; exact hown', fun i hil => ?_⟩ ((Below.refl base w).grown hga hbase fun k hk => (hl2 k hk).1) hga ?_
    · have hvl : vs.length = l.length * 2 := hrow.1
      by_cases hlt : i < l.length
      · rw [stepN_left _ _ _ hlt]
        obtain ⟨e0, e1⟩ := hvs i hlt
        refine ⟨?_, ?_⟩ <;> (rw [List.getElem?_append_left (by omega)]; assumption)
      · have he : i = l.length := by rw [List.length_append] at hil; simp at hil; omega
        subst he
        rw [stepN_last]
        refine ⟨?_, ?_⟩ <;> (rw [List.getElem?_append_right (by omega), hvl]; simp [Nat.add_sub_cancel_left])
    · rcases hob with h1 | h1
      · exact .inl h1
      · exact .inr ⟨_, h1, by simp⟩
end Go.Proofs.Ytgmagldbfajedaa
