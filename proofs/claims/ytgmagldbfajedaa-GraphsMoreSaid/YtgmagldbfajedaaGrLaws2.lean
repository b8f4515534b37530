/-
  Plain Lean: what the laws GraphsJoined and GraphsInsert say, of the plain shapes.
-/
import Derived.Test.YtgmagldbfajedaaGrLaws
import Derived.Test.YtgmagldbfajedaaGrJoinP
namespace Go.Proofs.Ytgmagldbfajedaa
namespace Gr

theorem step_add {s : List (List Int)} (hs : ∀ t ∈ s, chk t = true) (a b : Nat) (ha : a < s.length) (hb : b < s.length) :
    step s ⟨3, [a, b], [], 0, 0⟩ = if sameB (rowL s a) (rowL s b) = true then some (rowL s a) else none := by
  rw [step_eq (k := ⟨2, 2, 0, 0, 0, 0⟩) rfl]
  have e : shapeOf ⟨3, [a, b], [], 0, 0⟩ s = if sameB (rowL s a) (rowL s b) = true then rowL s a else [] := by
    simp [shapeOf, nth, rowAt_nat]
  by_cases c : sameB (rowL s a) (rowL s b) = true
  · rw [if_pos c] at e ⊢
    rw [e, if_pos ⟨rfl, by simp [okIn]; omega, hs _ (rowL_mem s a ha)⟩]
  · rw [if_neg c] at e ⊢
    rw [e, if_neg (fun h => by have := h.2.2; revert this; decide)]

theorem step_join {s : List (List Int)} (a k : Nat) (ha : a < s.length) (hk : k ≤ 3) :
    step s ⟨12, [a, a], [], k, 0⟩ = if k < (rowL s a).length ∧ chk (longer k (rowL s a) (rowL s a)) = true then some (longer k (rowL s a) (rowL s a)) else none := by
  rw [step_eq (k := ⟨1, 4, 0, 3, 0, 0⟩) rfl]
  have e : shapeOf ⟨12, [a, a], [], k, 0⟩ s = if k < (rowL s a).length then longer k (rowL s a) (rowL s a) else [] := by
    have e1 : shapeOf ⟨12, [a, a], [], k, 0⟩ s = joinF k (rowL s a) [rowL s a] := by simp [shapeOf, joined, rowAt_nat]
    rw [e1]
    by_cases c : k < (rowL s a).length
    · rw [if_pos c, joinF_fit rfl (by omega) (fun _ _ _ => rfl), joinF_nil, longer_length, if_neg (by omega)]
    · rw [if_neg c, joinF_bad (.inr (by omega))]
  have ho : ofB ⟨1, 4, 0, 3, 0, 0⟩ ⟨12, [a, a], [], k, 0⟩ = true := by
    unfold ofB
    rw [if_neg (by simp; omega)]
    rfl
  by_cases c : k < (rowL s a).length
  · rw [if_pos c] at e
    rw [e]
    by_cases c2 : chk (longer k (rowL s a) (rowL s a)) = true
    · rw [if_pos ⟨ho, by simp [okIn]; omega, c2⟩, if_pos ⟨c, c2⟩]
    · rw [if_neg (fun h => c2 h.2.2), if_neg (fun h => c2 h.2)]
  · rw [if_neg c] at e
    rw [e, if_neg (fun h => by have := h.2.2; revert this; decide), if_neg (fun h => c h.1)]

/-- Taken in by one further on. -/
def bumpI (k : Nat) (v : Int) : Int := if (k : Int) ≤ v then v + 1 else v
def bump (k : Nat) (x : Node) : Node := ⟨x.kind, x.inn.map (bumpI k), x.shape, x.n, x.pad⟩
def insG (k : Nat) (s : List Int) (L : List (List Int)) : List (List Int) := L.take k ++ s :: L.drop k

theorem insG_length (k : Nat) (s : List Int) (L : List (List Int)) : (insG k s L).length = L.length + 1 := by
  unfold insG; simp; omega
theorem insG_snoc (k : Nat) (s t : List Int) (L : List (List Int)) (hk : k ≤ L.length) : insG k s L ++ [t] = insG k s (L ++ [t]) := by
  unfold insG
  rw [List.take_append_of_le_length hk, List.drop_append_of_le_length hk]
  simp
theorem rowAt_insG (k : Nat) (s : List Int) (L : List (List Int)) (hk : k ≤ L.length) (v : Int) (h0 : 0 ≤ v) : rowAt (insG k s L) (bumpI k v) = rowAt L v := by
  unfold rowAt insG bumpI
  split
  · rename_i h
    rw [List.getD_eq_getElem?_getD, List.getD_eq_getElem?_getD, List.getElem?_append_right (by simp; omega)]
    rw [List.length_take, Nat.min_eq_left hk, show (v + 1).toNat - k = (v.toNat - k) + 1 by omega, List.getElem?_cons_succ, List.getElem?_drop, show k + (v.toNat - k) = v.toNat by omega]
  · rename_i h
    rw [List.getD_eq_getElem?_getD, List.getD_eq_getElem?_getD, List.getElem?_append_left (by simp; omega), List.getElem?_take, if_pos (by omega)]
theorem okIn_bump (k : Nat) (x : Node) (n : Nat) (hk : k ≤ n) : okIn (bump k x) (n + 1) = okIn x n := by
  unfold okIn bump
  rw [Bool.eq_iff_iff]
  simp only [List.all_eq_true, List.mem_map, Bool.and_eq_true, decide_eq_true_eq]
  constructor
  · intro h v hv
    have := h _ ⟨v, hv, rfl⟩
    unfold bumpI at this
    split at this <;> omega
  · rintro h _ ⟨v, hv, rfl⟩
    have := h v hv
    unfold bumpI
    split <;> omega
theorem ofB_bump (k : Nat) (kd : Kind) (x : Node) : ofB kd (bump k x) = ofB kd x := by unfold ofB bump; simp
theorem nth_bump (k : Nat) (l : List Int) (i : Nat) (hi : i < l.length) : nth (l.map (bumpI k)) i = bumpI k (nth l i) := by
  rw [nth_eq _ _ (by simpa using hi), nth_eq _ _ hi]; simp

theorem shapeOf_bump (k : Nat) (s : List Int) (L : List (List Int)) (hk : k ≤ L.length) {kd : Kind} {x : Node} (hkd : kindOf x.kind = some kd) (ho : ofB kd x = true) (hi : okIn x L.length = true) :
    shapeOf (bump k x) (insG k s L) = shapeOf x L := by
  have hin : ∀ v ∈ x.inn, 0 ≤ v := fun v hv => by
    unfold okIn at hi
    have := List.all_eq_true.1 hi v hv
    simp at this; exact this.1
  have hl := (ofB_parts ho).1
  have hleast : ¬ (x.kind = 1 ∨ x.kind = 2) → 0 < x.inn.length := fun h => by have := (kindOf_least hkd).2 h; omega
  have h0 : ¬ (x.kind = 1 ∨ x.kind = 2) → rowAt (insG k s L) (nth (bump k x).inn 0) = rowAt L (nth x.inn 0) := fun h => by
    show rowAt (insG k s L) (nth (x.inn.map (bumpI k)) 0) = _
    rw [nth_bump k _ _ (hleast h), rowAt_insG k s L hk _ (hin _ (nth_mem _ _ (hleast h)))]
  have htwo : (x.kind = 3 ∨ x.kind = 4 ∨ x.kind = 7 ∨ x.kind = 8) → 1 < x.inn.length := fun h => by
    have : kd.least = 2 := by
      unfold kindOf at hkd
      rcases h with h | h | h | h <;> (rw [h] at hkd; simp at hkd; rw [← hkd])
    omega
  have h1 : (x.kind = 3 ∨ x.kind = 4 ∨ x.kind = 7 ∨ x.kind = 8) → rowAt (insG k s L) (nth (bump k x).inn 1) = rowAt L (nth x.inn 1) := fun h => by
    show rowAt (insG k s L) (nth (x.inn.map (bumpI k)) 1) = _
    rw [nth_bump k _ _ (htwo h), rowAt_insG k s L hk _ (hin _ (nth_mem _ _ (htwo h)))]
  have hm : (bump k x).inn.map (rowAt (insG k s L)) = x.inn.map (rowAt L) := by
    show (x.inn.map (bumpI k)).map (rowAt (insG k s L)) = _
    rw [List.map_map]
    exact List.map_congr_left fun v hv => rowAt_insG k s L hk v (hin v hv)
  unfold shapeOf
  show (if x.kind = 1 ∨ x.kind = 2 then x.shape else _) = _
  by_cases c1 : x.kind = 1 ∨ x.kind = 2
  · rw [if_pos c1, if_pos c1]
  rw [if_neg c1, if_neg c1, h0 c1, hm]
  show (if x.kind = 5 ∨ x.kind = 6 then _ else if x.kind = 3 ∨ x.kind = 4 then _ else if x.kind = 10 then _ else if x.kind = 7 then _ else if x.kind = 8 then _ else _) = _
  by_cases c2 : x.kind = 5 ∨ x.kind = 6
  · rw [if_pos c2, if_pos c2]
  rw [if_neg c2, if_neg c2]
  by_cases c3 : x.kind = 3 ∨ x.kind = 4
  · rw [if_pos c3, if_pos c3, h1 (by omega)]
  rw [if_neg c3, if_neg c3]
  by_cases c4 : x.kind = 10
  · rw [if_pos c4, if_pos c4]; rfl
  rw [if_neg c4, if_neg c4]
  by_cases c5 : x.kind = 7
  · rw [if_pos c5, if_pos c5, h1 (by omega)]
  rw [if_neg c5, if_neg c5]
  by_cases c6 : x.kind = 8
  · rw [if_pos c6, if_pos c6, h1 (by omega)]; rfl
  rw [if_neg c6, if_neg c6]
  rfl

theorem step_bump (k : Nat) (s : List Int) (L : List (List Int)) (hk : k ≤ L.length) (x : Node) : step (insG k s L) (bump k x) = step L x := by
  cases hkd : kindOf x.kind with
  | none => unfold step; rw [show (bump k x).kind = x.kind from rfl, hkd]
  | some kd =>
    rw [step_eq hkd, step_eq (show kindOf (bump k x).kind = some kd from hkd), ofB_bump, insG_length, okIn_bump k x _ hk]
    by_cases c : ofB kd x = true ∧ okIn x L.length = true
    · rw [shapeOf_bump k s L hk hkd c.1 c.2]
    · rw [if_neg (fun h => c ⟨h.1, h.2.1⟩), if_neg (fun h => c ⟨h.1, h.2.1⟩)]

theorem run_bump (k : Nat) (s : List Int) : ∀ (g : List Node) (L : List (List Int)), k ≤ L.length → run (insG k s L) (g.map (bump k)) = (run L g).map (insG k s)
  | [], L, _ => rfl
  | x :: r, L, hk => by
    simp only [List.map_cons, run, step_bump k s L hk]
    cases step L x with
    | none => rfl
    | some t =>
      simp only
      rw [insG_snoc k s t L hk]
      exact run_bump k s r (L ++ [t]) (by simp; omega)

/-- A weight more, ahead of a node. -/
def insert (k : Nat) (s : List Int) (g : List Node) : List Node := g.take k ++ (⟨2, [], s, 0, 0⟩ : Node) :: (g.drop k).map (bump k)

theorem step_weight (L : List (List Int)) (s : List Int) : step L ⟨2, [], s, 0, 0⟩ = if chk s = true then some s else none := by
  rw [step_eq (k := ⟨0, 0, 0, 0, 0, 1⟩) rfl]
  have e : shapeOf ⟨2, [], s, 0, 0⟩ L = s := by simp [shapeOf]
  have ho : ofB ⟨0, 0, 0, 0, 0, 1⟩ ⟨2, [], s, 0, 0⟩ = chk s := rfl
  rw [e, ho]
  by_cases c : chk s = true
  · rw [if_pos ⟨c, rfl, c⟩, if_pos c]
  · rw [if_neg (fun h => c h.1), if_neg c]

theorem inputs_bump (k : Nat) : ∀ g : List Node, inputs (g.map (bump k)) = inputs g
  | [] => rfl
  | x :: r => by simp only [List.map_cons, inputs, inputs_bump k r]; rfl

theorem shapes_insert {g : List Node} {was : List (List Int)} (h : shapes g = some was) (hl : g.length ≤ 31) (k : Nat) (hk : k < g.length) (s : List Int) :
    shapes (insert k s g) = if chk s = true then some (insG k s was) else none := by
  obtain ⟨hl1, hr, hi, he⟩ := shapes_iff.1 h
  have hwl := shapes_len h
  have hrun : run [] (insert k s g) = if chk s = true then some (insG k s was) else none := by
    unfold insert
    rw [run_append, run_prefix hr k (by omega)]
    simp only [run, step_weight]
    by_cases c : chk s = true
    · simp only [if_pos c]
      have h1 : was.take k ++ [s] = insG k s (was.take k) := by
        unfold insG; rw [List.take_take, List.drop_eq_nil_of_le (by rw [List.length_take]; omega), Nat.min_self]
      have h2 : run (was.take k) (g.drop k) = some was := by
        have h3 := run_append (g.take k) [] (g.drop k)
        rw [List.take_append_drop, hr, run_prefix hr k (by omega)] at h3
        exact h3.symm
      rw [h1, run_bump k s _ _ (by simp; omega), h2]
      rfl
    · simp only [if_neg c]
  have hin : inputs (insert k s g) = 1 := by
    unfold insert
    rw [inputs_append, inputs, inputs_bump]
    have := inputs_append (g.take k) (g.drop k)
    rw [List.take_append_drop] at this
    simp only [show ((2 : Int) = 1) = False by simp, if_false]
    omega
  have hen : endB (insert k s g) = true := by
    unfold insert endB
    unfold endB at he
    rw [← List.take_append_drop k g, List.getLast?_append] at he
    rw [List.getLast?_append, List.getLast?_cons, List.getLast?_map]
    cases hq : (g.drop k).getLast? with
    | none =>
      have : g.drop k = [] := by simpa using hq
      have h5 : (g.drop k).length = 0 := by rw [this]; rfl
      rw [List.length_drop] at h5; omega
    | some y =>
      rw [hq] at he
      simp only [Option.some_or] at he
      simpa [bump] using he
  have hlen : (insert k s g).length = g.length + 1 := by unfold insert; simp; omega
  unfold shapes
  rw [if_neg (by omega), hrun]
  by_cases c : chk s = true
  · rw [if_pos c]; simp only [hin, hen, and_self, if_true]
  · rw [if_neg c]

end Gr
end Go.Proofs.Ytgmagldbfajedaa
