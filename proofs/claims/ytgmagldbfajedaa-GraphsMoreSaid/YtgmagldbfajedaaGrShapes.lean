/-
  Plain Lean: shapes of all nodes of a graph (chapter 10), and how they hang together.
-/
import Derived.Test.YtgmagldbfajedaaGrPlain
import Derived.Test.YtgmagldbfajedaaGrTurn
import Derived.Test.YtgmagldbfajedaaGrKinds
namespace Go.Proofs.Ytgmagldbfajedaa
namespace Gr

/-- A shape, looked up. -/
def rowAt (L : List (List Int)) (n : Int) : List Int := L.getD n.toNat []

/-- A shape without a direction. -/
def without (s : List Int) (along : Int) : List Int :=
  if (s.length : Int) ≤ along then [] else if s.length = 1 then [1] else s.eraseIdx along.toNat

/-- Are two shapes the same, but along a direction? -/
def fits (along : Int) (s x : List Int) : Bool := (List.range s.length).all fun k => decide ((k : Int) = along) || decide (nth s k = nth x k)

/-- A shape longer along a direction. -/
def longer (along : Int) (s x : List Int) : List Int := s.set along.toNat (nth s along.toNat + nth x along.toNat)

/-- Shapes joined to one. -/
def joinF (along : Int) : List Int → List (List Int) → List Int
  | s, [] => if (s.length : Int) ≤ along then [] else s
  | s, x :: r => if x.length ≠ s.length ∨ (s.length : Int) ≤ along then [] else if fits along s x = true then joinF along (longer along s x) r else []

/-- Shapes joined along a direction. -/
def joined (l : List (List Int)) (along : Int) : List Int := match l with
  | [] => []
  | s :: r => joinF along s r

/-- What a node's shape is, of those ahead of it. -/
def shapeOf (x : Node) (L : List (List Int)) : List Int :=
  if x.kind = 1 ∨ x.kind = 2 then x.shape
  else if x.kind = 5 ∨ x.kind = 6 then rowAt L (nth x.inn 0)
  else if x.kind = 3 ∨ x.kind = 4 then (if sameB (rowAt L (nth x.inn 0)) (rowAt L (nth x.inn 1)) = true then rowAt L (nth x.inn 0) else [])
  else if x.kind = 10 then (if size (rowAt L (nth x.inn 0)) = size x.shape then x.shape else [])
  else if x.kind = 7 then product (rowAt L (nth x.inn 0)) (rowAt L (nth x.inn 1))
  else if x.kind = 8 then window (rowAt L (nth x.inn 0)) (rowAt L (nth x.inn 1)) x.n x.pad
  else if x.kind = 9 then pool (rowAt L (nth x.inn 0)) x.n
  else if x.kind = 11 then turned (rowAt L (nth x.inn 0)) x.shape
  else if x.kind = 12 then joined (x.inn.map (rowAt L)) x.n
  else if x.kind = 13 then without (rowAt L (nth x.inn 0)) x.n
  else []

/-- Does a node take in only nodes ahead of it? -/
def okIn (x : Node) (n : Nat) : Bool := x.inn.all fun v => decide (0 ≤ v) && decide (v < n)

/-- The next node's shape. -/
def step (L : List (List Int)) (x : Node) : Option (List Int) := match kindOf x.kind with
  | none => none
  | some k => if ofB k x = true ∧ okIn x L.length = true ∧ chk (shapeOf x L) = true then some (shapeOf x L) else none

/-- Shapes of some nodes more. -/
def run : List (List Int) → List Node → Option (List (List Int))
  | L, [] => some L
  | L, x :: r => match step L x with
    | none => none
    | some s => run (L ++ [s]) r

/-- How many inputs. -/
def inputs : List Node → Nat
  | [] => 0
  | x :: r => (if x.kind = 1 then 1 else 0) + inputs r

/-- May a node end a graph? -/
def endB (g : List Node) : Bool := match g.getLast? with
  | none => false
  | some x => decide (x.kind ≠ 1 ∧ x.kind ≠ 2)

/-- Shapes of all nodes, of a graph that may be. -/
def shapes (g : List Node) : Option (List (List Int)) :=
  if g.length < 1 ∨ 32 < g.length then none else match run [] g with
    | none => none
    | some L => if inputs g = 1 ∧ endB g = true then some L else none

/-- The first input's place, or how many nodes there are. -/
def inputN : List Node → Nat
  | [] => 0
  | x :: r => if x.kind = 1 then 0 else inputN r + 1

/-- Which node is the input; below 0: there is none. -/
def inputIx (g : List Node) : Int := if inputN g < g.length then inputN g else -1

/-- The nodes of kind weight, from a place on. -/
def weightsF : Nat → List Node → List Int
  | _, [] => []
  | i, x :: r => if x.kind = 2 then (i : Int) :: weightsF (i + 1) r else weightsF (i + 1) r
def weights (g : List Node) : List Int := weightsF 0 g

theorem run_append : ∀ (a : List Node) (L : List (List Int)) (b : List Node), run L (a ++ b) = match run L a with
    | none => none
    | some M => run M b
  | [], L, b => rfl
  | x :: r, L, b => by
    simp only [List.cons_append, run]
    cases step L x with
    | none => rfl
    | some s => exact run_append r _ b

theorem run_length : ∀ (g : List Node) (L M : List (List Int)), run L g = some M → M.length = L.length + g.length
  | [], L, M, h => by simp only [run, Option.some.injEq] at h; subst h; simp
  | x :: r, L, M, h => by
    simp only [run] at h
    cases hs : step L x with
    | none => rw [hs] at h; cases h
    | some s =>
      rw [hs] at h
      have := run_length r _ _ h
      simp only [List.length_append, List.length_cons, List.length_nil] at this ⊢
      omega

theorem run_take : ∀ (g : List Node) (L M : List (List Int)), run L g = some M → M.take L.length = L
  | [], L, M, h => by simp only [run, Option.some.injEq] at h; subst h; simp
  | x :: r, L, M, h => by
    simp only [run] at h
    cases hs : step L x with
    | none => rw [hs] at h; cases h
    | some s =>
      rw [hs] at h
      have h1 := run_take r _ _ h
      have h2 : (M.take (L ++ [s]).length).take L.length = L := by rw [h1]; simp
      rw [List.take_take] at h2
      simpa using h2

theorem run_prefix {g : List Node} {M : List (List Int)} (h : run [] g = some M) (n : Nat) (hn : n ≤ g.length) : run [] (g.take n) = some (M.take n) := by
  have h1 := run_append (g.take n) [] (g.drop n)
  rw [List.take_append_drop, h] at h1
  cases hr : run [] (g.take n) with
  | none => rw [hr] at h1; cases h1
  | some N =>
    rw [hr] at h1
    simp only at h1
    have h2 := run_take _ _ _ h1.symm
    have h3 := run_length _ _ _ hr
    simp only [List.length_nil, Nat.zero_add, List.length_take, Nat.min_eq_left hn] at h3
    rw [h3] at h2
    rw [h2]

theorem step_some {L : List (List Int)} {x : Node} {s : List Int} (h : step L x = some s) :
    ∃ k, kindOf x.kind = some k ∧ ofB k x = true ∧ okIn x L.length = true ∧ chk (shapeOf x L) = true ∧ s = shapeOf x L := by
  unfold step at h
  split at h
  · cases h
  · rename_i k hk
    split at h
    · rename_i hc
      cases h
      exact ⟨k, hk, hc.1, hc.2.1, hc.2.2, rfl⟩
    · cases h

theorem step_eq {L : List (List Int)} {x : Node} {k : Kind} (hk : kindOf x.kind = some k) :
    step L x = if ofB k x = true ∧ okIn x L.length = true ∧ chk (shapeOf x L) = true then some (shapeOf x L) else none := by
  unfold step; rw [hk]

theorem run_chk : ∀ (g : List Node) (L M : List (List Int)), run L g = some M → (∀ s ∈ L, chk s = true) → ∀ s ∈ M, chk s = true
  | [], L, M, h, hL => by simp only [run, Option.some.injEq] at h; subst h; exact hL
  | x :: r, L, M, h, hL => by
    simp only [run] at h
    cases hs : step L x with
    | none => rw [hs] at h; cases h
    | some s =>
      rw [hs] at h
      refine run_chk r _ _ h fun t ht => ?_
      rcases List.mem_append.1 ht with ht | ht
      · exact hL t ht
      · obtain ⟨k, _, _, _, hc, rfl⟩ := step_some hs
        rw [List.mem_singleton.1 ht]; exact hc

theorem run_snoc (g : List Node) (L : List (List Int)) (x : Node) : run L (g ++ [x]) = match run L g with
    | none => none
    | some M => match step M x with
      | none => none
      | some s => some (M ++ [s]) := by
  rw [run_append]
  cases run L g with
  | none => rfl
  | some M =>
    simp only [run]

/-- Of a graph's beginning that fails, the whole fails. -/
theorem run_fail {g : List Node} {k : Nat} (hk : k < g.length) {M : List (List Int)} (h : run [] (g.take k) = some M) (hs : step M g[k] = none) : run [] g = none := by
  have h1 := run_append (g.take k) [] (g.drop k)
  rw [List.take_append_drop, h, List.drop_eq_getElem_cons hk] at h1
  simp only [run, hs] at h1
  exact h1

theorem run_more {g : List Node} {k : Nat} (hk : k < g.length) {M : List (List Int)} {s : List Int} (h : run [] (g.take k) = some M) (hs : step M g[k] = some s) : run [] (g.take (k + 1)) = some (M ++ [s]) := by
  rw [List.take_succ_eq_append_getElem hk, run_snoc, h]
  simp only [hs]

theorem inputs_append : ∀ (a b : List Node), inputs (a ++ b) = inputs a + inputs b
  | [], b => by simp [inputs]
  | x :: r, b => by simp only [List.cons_append, inputs, inputs_append r b]; omega

theorem inputs_le_length : ∀ g : List Node, inputs g ≤ g.length
  | [] => Nat.le_refl _
  | x :: r => by
    have := inputs_le_length r
    simp only [inputs, List.length_cons]
    split <;> omega

theorem inputs_take_le (g : List Node) (n : Nat) : inputs (g.take n) ≤ inputs g := by
  have h := inputs_append (g.take n) (g.drop n)
  rw [List.take_append_drop] at h
  omega

theorem inputs_one : ∀ (g : List Node) (n : Nat), inputs g = 1 → (inputs (g.take n) = 1 ↔ inputN g < n)
  | [], n, h => by simp [inputs] at h
  | x :: r, 0, h => by simp [inputs]
  | x :: r, n + 1, h => by
    simp only [inputs, List.take_succ_cons, inputN] at h ⊢
    by_cases c : x.kind = 1
    · rw [if_pos c] at h
      simp only [if_pos c]
      have := inputs_take_le r n
      constructor
      · intro _; omega
      · intro _; omega
    · rw [if_neg c] at h
      simp only [if_neg c]
      have := inputs_one r n (by omega)
      constructor
      · intro h1; have := this.1 (by omega); omega
      · intro h1; have := this.2 (by omega); omega

theorem inputN_lt : ∀ (g : List Node), 1 ≤ inputs g → inputN g < g.length
  | [], h => by simp [inputs] at h
  | x :: r, h => by
    simp only [inputs, inputN, List.length_cons] at h ⊢
    by_cases c : x.kind = 1
    · rw [if_pos c]; omega
    · rw [if_neg c] at h ⊢
      have := inputN_lt r (by omega)
      omega

theorem inputN_le : ∀ (g : List Node), inputN g ≤ g.length
  | [] => Nat.le_refl _
  | x :: r => by
    have := inputN_le r
    simp only [inputN, List.length_cons]
    split <;> omega

theorem inputN_eq {g : List Node} {k : Nat} (hk : k < g.length) (h0 : ∀ j (hj : j < g.length), j < k → g[j].kind ≠ 1) (h1 : g[k].kind = 1) : inputN g = k := by
  induction g generalizing k with
  | nil => simp at hk
  | cons x r ih =>
    cases k with
    | zero => simp only [List.getElem_cons_zero] at h1; simp [inputN, h1]
    | succ k =>
      have hx : x.kind ≠ 1 := h0 0 (by simp) (by omega)
      simp only [inputN, if_neg hx]
      rw [ih (k := k) (by simpa using hk) (fun j hj hjk => h0 (j + 1) (by simpa using hj) (by omega)) (by simpa using h1)]

theorem inputN_none {g : List Node} (h0 : ∀ j (hj : j < g.length), g[j].kind ≠ 1) : inputN g = g.length := by
  induction g with
  | nil => rfl
  | cons x r ih =>
    have hx : x.kind ≠ 1 := h0 0 (by simp)
    simp only [inputN, if_neg hx, List.length_cons]
    rw [ih (fun j hj => h0 (j + 1) (by simpa using hj))]

theorem weightsF_append : ∀ (a : List Node) (i : Nat) (b : List Node), weightsF i (a ++ b) = weightsF i a ++ weightsF (i + a.length) b
  | [], i, b => by simp [weightsF]
  | x :: r, i, b => by
    simp only [List.cons_append, weightsF, List.length_cons]
    rw [weightsF_append r (i + 1) b, show i + 1 + r.length = i + (r.length + 1) by omega]
    split <;> rfl

theorem weights_snoc {g : List Node} {k : Nat} (hk : k < g.length) : weights (g.take (k + 1)) = weights (g.take k) ++ (if g[k].kind = 2 then [(k : Int)] else []) := by
  unfold weights
  rw [List.take_succ_eq_append_getElem hk, weightsF_append]
  simp only [List.length_take, Nat.min_eq_left (Nat.le_of_lt hk), Nat.zero_add, weightsF]
theorem weightsF_length : ∀ (g : List Node) (i : Nat), (weightsF i g).length ≤ g.length
  | [], _ => Nat.le_refl _
  | x :: r, i => by
    have := weightsF_length r (i + 1)
    simp only [weightsF]
    split <;> simp <;> omega
theorem weightsF_mem : ∀ (g : List Node) (i : Nat) (v : Int), v ∈ weightsF i g → (i : Int) ≤ v ∧ v < (i : Int) + g.length
  | [], _, v, h => by cases h
  | x :: r, i, v, h => by
    simp only [weightsF] at h
    simp only [List.length_cons]
    split at h
    · rcases List.mem_cons.1 h with rfl | h
      · omega
      · have := weightsF_mem r (i + 1) v h; omega
    · have := weightsF_mem r (i + 1) v h; omega

theorem kindOf_most {k : Int} {kd : Kind} (h : kindOf k = some kd) : kd.most = 0 ↔ (k = 1 ∨ k = 2) := by
  obtain ⟨i, hi⟩ := kind_ins h
  exact (show ∀ p ∈ insL, p.2.2.most = 0 ↔ (p.2.1 = 1 ∨ p.2.1 = 2) by decide) _ hi

theorem kindOf_least {k : Int} {kd : Kind} (h : kindOf k = some kd) : (k = 1 ∨ k = 2 → kd.least = 0 ∧ kd.most = 0) ∧ (¬ (k = 1 ∨ k = 2) → 1 ≤ kd.least) := by
  obtain ⟨i, hi⟩ := kind_ins h
  exact (show ∀ p ∈ insL, (p.2.1 = 1 ∨ p.2.1 = 2 → p.2.2.least = 0 ∧ p.2.2.most = 0) ∧ (¬ (p.2.1 = 1 ∨ p.2.1 = 2) → 1 ≤ p.2.2.least) by decide) _ hi

theorem ofB_parts {k : Kind} {x : Node} (h : ofB k x = true) : k.least ≤ (x.inn.length : Int) ∧ (x.inn.length : Int) ≤ k.most ∧ k.low ≤ x.n ∧ x.n ≤ k.high ∧ 0 ≤ x.pad ∧ x.pad ≤ k.around ∧
    (k.shaped = 0 → x.shape.length = 0) ∧ (k.shaped = 1 → chk x.shape = true) ∧ (k.shaped ≠ 0 → k.shaped ≠ 1 → order x.shape = true) := by
  unfold ofB at h
  split at h
  · cases h
  · rename_i hc
    refine ⟨by omega, by omega, by omega, by omega, by omega, by omega, ?_, ?_, ?_⟩
    · intro h0; rw [if_pos h0] at h; have := of_decide_eq_true h; omega
    · intro h1; rw [if_neg (by omega), if_pos h1] at h; exact h
    · intro h0 h1; rw [if_neg h0, if_neg h1] at h; exact h

end Gr
end Go.Proofs.Ytgmagldbfajedaa
