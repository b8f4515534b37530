/-
  Slices of steps: a beginning, a rest; many steps appended (for the statements of the chapter 23).
-/
import Derived.Test.YtgmagldbfajedaaChWalk
import Derived.Test.YtgmagldbfajedaaPlDrop
namespace Go.Proofs.Ytgmagldbfajedaa
open Go.RowKit

theorem stepN_take (l : List (Int × Int)) (k i : Nat) (h : i < k) : stepN (l.take k) i = stepN l i := by
  unfold stepN; simp only [List.getD_eq_getElem?_getD, List.getElem?_take, h, if_true]
theorem stepN_drop (l : List (Int × Int)) (k i : Nat) : stepN (l.drop k) i = stepN l (k + i) := by
  unfold stepN; simp only [List.getD_eq_getElem?_getD, List.getElem?_drop]
theorem stepN_left' (l m : List (Int × Int)) (i : Nat) (h : i < l.length) : stepN (l ++ m) i = stepN l i := by
  unfold stepN; simp only [List.getD_eq_getElem?_getD, List.getElem?_append_left h]
theorem stepN_right (l m : List (Int × Int)) (i : Nat) : stepN (l ++ m) (l.length + i) = stepN m i := by
  unfold stepN; simp only [List.getD_eq_getElem?_getD]
  rw [List.getElem?_append_right (by omega), Nat.add_sub_cancel_left]

theorem StepsIn.take {w : World} {a : Option Addr} {len cap : Nat} {l : List (Int × Int)} (h : StepsIn w a len cap l) (k : Nat) (hk : k ≤ len) : StepsIn w a k cap (l.take k) :=
  ⟨Nat.le_trans hk h.le, h.cap_le, by rw [List.length_take, h.length]; omega, fun h0 => by
    obtain ⟨b, off, e, hlt, hc⟩ := h.at_ (by omega)
    exact ⟨b, off, e, hlt, fun i hi => by rw [stepN_take l k i hi]; exact hc i (by omega)⟩⟩
theorem StepsIn.drop {w : World} {b off len cap : Nat} {l : List (Int × Int)} (h : StepsIn w (some ⟨b, off, none⟩) len cap l) (k : Nat) (hk : k < len) : StepsIn w (some ⟨b, off + k * 2, none⟩) (len - k) (cap - k) (l.drop k) :=
  ⟨by have := h.le; omega, by have := h.cap_le; omega, by rw [List.length_drop, h.length], fun _ => by
    obtain ⟨b', off', e, hlt, hc⟩ := h.at_ (by omega)
    simp only [Option.some.injEq, Addr.mk.injEq] at e
    obtain ⟨rfl, rfl, _⟩ := e
    refine ⟨b, off + k * 2, rfl, hlt, fun i hi => ?_⟩
    rw [stepN_drop]
    have := hc (k + i) (by omega)
    rw [show off + (k + i) * 2 = off + k * 2 + i * 2 by omega] at this
    exact this⟩

theorem slice_take75 (a : Option Addr) (len cap r : Nat) (h1 : r ≤ len) (h2 : len ≤ cap) (w : World) : (Instr.slice 75 (.slice a len cap) none (some (.int .i64 (r : Int))) none).run Try.prog w = .ok (.slice a r cap) w := by
  have h3 : Try.prog.elem 75 = 82 := by kernel_rfl
  rw [run_slice_h w 75 a len cap (by rw [h3]; exact Try.underlying75) .i64 (r : Int) (by omega) (by omega), h3]
  have e : (a.map fun x => x.add 0) = a := by cases a <;> simp [Addr.add]
  by_cases c : cap = 0
  · simp [go_sem, sliced, c]
  · simp [go_sem, sliced, c]

theorem slice_rest75 (b off len cap r : Nat) (h1 : r ≤ len) (h2 : len ≤ cap) : ∃ o, (∀ w : World, (Instr.slice 75 (.slice (some ⟨b, off, none⟩) len cap) (some (.int .i64 (r : Int))) none none).run Try.prog w = .ok (.slice (some ⟨b, o, none⟩) (len - r) (cap - r)) w) ∧
    ∀ (W : World) (l : List (Int × Int)), StepsIn W (some ⟨b, off, none⟩) len cap l → StepsIn W (some ⟨b, o, none⟩) (len - r) (cap - r) (l.drop r) := by
  have h3 : Try.prog.elem 75 = 82 := by kernel_rfl
  by_cases c : cap = r
  · subst c
    obtain rfl : len = cap := by omega
    refine ⟨off, fun w => ?_, fun W l h => ⟨by omega, by have := h.cap_le; omega, by rw [List.length_drop, h.length], fun h0 => absurd h0 (by omega)⟩⟩
    rw [run_slice_l w 75 _ len len (by rw [h3]; exact Try.underlying75) .i64 (len : Int) (by omega) (by omega), h3]
    simp [go_sem, sliced]
  · refine ⟨off + r * 2, fun w => ?_, fun W l h => ?_⟩
    · rw [run_slice_l w 75 _ len cap (by rw [h3]; exact Try.underlying75) .i64 (r : Int) (by omega) (by omega), h3]
      have hc : ¬ cap - r = 0 := by omega
      by_cases hr : r = 0
      · subst hr; simp [go_sem, sliced, Addr.add, c]
      · simp [go_sem, sliced, Addr.add, c]
        omega
    · by_cases d : r < len
      · exact h.drop r d
      · exact ⟨by omega, by have := h.cap_le; omega, by rw [List.length_drop, h.length], fun h0 => absurd h0 (by omega)⟩

/-- The cells of some steps, in a row. -/
def cellsL : List (Int × Int) → List Value
  | [] => []
  | x :: r => .int .u8 x.1 :: .int .i64 x.2 :: cellsL r
theorem cellsL_length : ∀ l : List (Int × Int), (cellsL l).length = l.length * 2
  | [] => rfl
  | x :: r => by simp only [cellsL, List.length_cons, cellsL_length r]; omega
theorem cellsL_at : ∀ (l : List (Int × Int)) (i : Nat), i < l.length → (cellsL l)[i * 2]? = some (.int .u8 (stepN l i).1) ∧ (cellsL l)[i * 2 + 1]? = some (.int .i64 (stepN l i).2)
  | x :: r, 0, _ => ⟨rfl, rfl⟩
  | x :: r, i + 1, h => by
    have ih := cellsL_at r i (by simpa using h)
    have e : stepN (x :: r) (i + 1) = stepN r i := rfl
    rw [e]
    refine ⟨?_, ?_⟩
    · rw [show (i + 1) * 2 = i * 2 + 1 + 1 by omega]; exact ih.1
    · rw [show (i + 1) * 2 + 1 = i * 2 + 1 + 1 + 1 by omega]; exact ih.2
theorem cellsL_whole : ∀ (l : List (Int × Int)) (u : Value), u ∈ cellsL l → ∃ k n, u = .int k n
  | x :: r, u, h => by
    simp only [cellsL, List.mem_cons] at h
    rcases h with rfl | rfl | h
    · exact ⟨_, _, rfl⟩
    · exact ⟨_, _, rfl⟩
    · exact cellsL_whole r u h

theorem OwnL.app {base : Nat} {w w' : World} {v v' : Value} {vs : List Value} {l m : List (Int × Int)} (hrow : w.ownsRow base 82 2 v l.length vs) (hvs : ∀ i, i < l.length → vs[i * 2]? = some (.int .u8 (stepN l i).1) ∧ vs[i * 2 + 1]? = some (.int .i64 (stepN l i).2))
    (h : w'.ownsRow base 82 2 v' (l.length + m.length) (vs ++ cellsL m)) : OwnL base w' v' (l ++ m) := by
  refine ⟨vs ++ cellsL m, by rw [List.length_append]; exact h, fun i hi => ?_⟩
  have hvl : vs.length = l.length * 2 := hrow.1
  by_cases hlt : i < l.length
  · rw [stepN_left' _ _ _ hlt]
    obtain ⟨e0, e1⟩ := hvs i hlt
    refine ⟨?_, ?_⟩ <;> (rw [List.getElem?_append_left (by omega)]; assumption)
  · obtain ⟨j, rfl⟩ : ∃ j, i = l.length + j := ⟨i - l.length, by omega⟩
    rw [stepN_right]
    obtain ⟨e0, e1⟩ := cellsL_at m j (by rw [List.length_append] at hi; omega)
    refine ⟨?_, ?_⟩
    · rw [List.getElem?_append_right (by omega), show (l.length + j) * 2 - vs.length = j * 2 by omega]; exact e0
    · rw [List.getElem?_append_right (by omega), show (l.length + j) * 2 + 1 - vs.length = j * 2 + 1 by omega]; exact e1

/-- 'append(l, m...)' of steps, inside a region that draws its order. -/
theorem step_appLs {ops : Array Oper} {o : Oper} {a : Act} {K : Act → World → Prop} {Q : Exit → Act → World → Prop} {E : Prop} (w3 W : World) (hgd : o.guard = none) (s t : Operand)
    (ho : o.op = .call { callee := .builtin .append, args := #[s, t], argTypes := #[75, 75] }) (v : Value) (l m : List (Int × Int)) (b off lm cm : Nat) (hW : Below w3.heap.size w3 W)
    (hown : OwnL w3.heap.size W v l) (h2 : StepsIn W (some ⟨b, off, none⟩) lm cm m) (hs : a.eval s = v) (ht : a.eval t = .slice (some ⟨b, off, none⟩) lm cm) (hlen : l.length ≤ 10000000) (hlen2 : lm ≤ 10000000)
    (h : ∀ a' l' c' w', OwnL w3.heap.size w' (.slice a' l' c') (l ++ m) → Below w3.heap.size w3 w' → W.grownBy w' v.ownBlock → K (a.put o.dst (.slice a' l' c')) w') :
    if Region.wanted o (yielded ops a.tmps) = true then Oper.wp Try.prog o a W K Q else E := by
  obtain ⟨i0, hi, hz0, hz1, hz2⟩ := info_parts Try.info82
  have hl2 := hown.lt
  obtain ⟨vs, hrow, hvs⟩ := hown
  have hw : Region.wanted o (yielded ops a.tmps) = true := by simp [Region.wanted, hgd]
  rw [if_pos hw]
  have hm := h2.length
  have hcl := cellsL_length m
  refine wp_append_own W s t 75 ho w3.heap.size 82 i0 _ 2 16 Try.underlying75 hi hz0 hz1 hz2 rfl (by decide) v l.length vs hs hrow ⟨b, off, none⟩ lm cm (cellsL m) ht (by rw [hcl, hm]) (fun j u hu => ?_) (fun u hu => ?_) ?_ ?_ hW.size ?_
  · rw [Addr.add_lit]
    have hj : j < m.length * 2 := by rw [← hcl]; exact (List.getElem?_eq_some_iff.1 hu).1
    obtain ⟨b', off', e, _, hc⟩ := h2.at_ (by omega)
    simp only [Option.some.injEq, Addr.mk.injEq] at e
    obtain ⟨rfl, rfl, _⟩ := e
    obtain ⟨p0, p1⟩ := hc (j / 2) (by omega)
    obtain ⟨q0, q1⟩ := cellsL_at m (j / 2) (by omega)
    rcases (by omega : j = j / 2 * 2 ∨ j = j / 2 * 2 + 1) with h | h
    · rw [h, q0] at hu
      rw [h, p0]; exact hu
    · rw [h, q1] at hu
      rw [h, ← Nat.add_assoc, p1]; exact hu
  · obtain ⟨k, n, rfl⟩ := cellsL_whole m u hu
    rfl
  · unfold maxLen; omega
  · omega
  · intro v' w' hown' hgrow _
    have hO : OwnL w3.heap.size w' v' (l ++ m) := OwnL.app hrow hvs (by rw [hm]; exact hown')
    have hB : Below w3.heap.size w3 w' := hW.trans ((Below.refl _ W).grown hgrow hW.size fun k hk => (hl2 k hk).1)
    obtain ⟨a', l', c', rfl⟩ := ownsRow_slice hown'
    exact h a' l' c' w' hO hB hgrow
end Go.Proofs.Ytgmagldbfajedaa
