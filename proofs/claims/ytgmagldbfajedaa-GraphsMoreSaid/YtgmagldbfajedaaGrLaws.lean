/-
  Plain Lean: what the laws of chapter 10 say, of the plain shapes.
-/
import Derived.Test.YtgmagldbfajedaaGrOpen
import Derived.Test.YtgmagldbfajedaaGrGrid
namespace Go.Proofs.Ytgmagldbfajedaa
namespace Gr

theorem shapes_iff {g : List Node} {s : List (List Int)} : shapes g = some s ↔ (1 ≤ g.length ∧ g.length ≤ 32) ∧ run [] g = some s ∧ inputs g = 1 ∧ endB g = true := by
  unfold shapes
  constructor
  · intro h
    split at h
    · cases h
    · rename_i hl
      split at h
      · cases h
      · rename_i L hr
        split at h
        · rename_i hc
          cases h
          exact ⟨by omega, hr, hc.1, hc.2⟩
        · cases h
  · rintro ⟨hl, hr, h1, h2⟩
    rw [if_neg (by omega), hr]
    simp only
    rw [if_pos ⟨h1, h2⟩]

theorem endB_take {g : List Node} {n : Nat} (h1 : 1 ≤ n) (hn : n ≤ g.length) : endB (g.take n) = decide ((nodeN g (n - 1)).kind ≠ 1 ∧ (nodeN g (n - 1)).kind ≠ 2) := by
  obtain ⟨m, rfl⟩ : ∃ m, n = m + 1 := ⟨n - 1, by omega⟩
  unfold endB
  rw [List.take_succ_eq_append_getElem (by omega), List.getLast?_append, nodeN_eq g _ (by omega)]
  simp

theorem endB_snoc (g : List Node) (x : Node) : endB (g ++ [x]) = decide (x.kind ≠ 1 ∧ x.kind ≠ 2) := by
  unfold endB; simp

theorem shapes_len {g : List Node} {s : List (List Int)} (h : shapes g = some s) : s.length = g.length := by
  have := run_length _ _ _ (shapes_iff.1 h).2.1
  simpa using this

theorem shapes_chk {g : List Node} {s : List (List Int)} (h : shapes g = some s) (i : Nat) (hi : i < s.length) : chk (rowL s i) = true :=
  run_chk _ _ _ (shapes_iff.1 h).2.1 (fun _ h => by cases h) _ (rowL_mem s i hi)

/-- A beginning of a graph that may be. -/
theorem shapes_take {g : List Node} {s : List (List Int)} (h : shapes g = some s) {n : Nat} (h1 : 1 ≤ n) (hn : n ≤ g.length) :
    shapes (g.take n) = if inputN g < n ∧ (nodeN g (n - 1)).kind ≠ 1 ∧ (nodeN g (n - 1)).kind ≠ 2 then some (s.take n) else none := by
  obtain ⟨hl, hr, hi, he⟩ := shapes_iff.1 h
  unfold shapes
  rw [if_neg (by rw [List.length_take]; omega), run_prefix hr n hn]
  simp only
  have h2 := inputs_one g n hi
  have h3 := endB_take h1 hn
  by_cases c1 : inputN g < n
  · by_cases c2 : (nodeN g (n - 1)).kind ≠ 1 ∧ (nodeN g (n - 1)).kind ≠ 2
    · rw [if_pos ⟨h2.2 c1, by rw [h3]; exact decide_eq_true c2⟩, if_pos ⟨c1, c2⟩]
    · rw [if_neg (fun e => c2 (by rw [h3] at e; exact of_decide_eq_true e.2)), if_neg (fun e => c2 e.2)]
  · rw [if_neg (fun e => c1 (h2.1 e.1)), if_neg (fun e => c1 e.1)]

/-- One node more, behind a graph that may be. -/
theorem shapes_snoc {g : List Node} {s : List (List Int)} (h : shapes g = some s) {x : Node} (h1 : x.kind ≠ 1) (h2 : x.kind ≠ 2) :
    shapes (g ++ [x]) = if g.length < 32 then (match step s x with | none => none | some t => some (s ++ [t])) else none := by
  obtain ⟨hl, hr, hi, he⟩ := shapes_iff.1 h
  unfold shapes
  have hin : inputs (g ++ [x]) = 1 := by rw [inputs_append]; simp [inputs, hi, h1]
  have hen : endB (g ++ [x]) = true := by rw [endB_snoc]; exact decide_eq_true ⟨h1, h2⟩
  by_cases c : g.length < 32
  · rw [if_neg (by simp; omega), if_pos c, run_snoc, hr]
    simp only
    cases step s x with
    | none => rfl
    | some t => simp only [hin, hen, and_self, if_true]
  · rw [if_pos (by simp; omega), if_neg c]

theorem shapes_snoc_end {g : List Node} {x : Node} (h : x.kind = 1 ∨ x.kind = 2) : shapes (g ++ [x]) = none := by
  cases hs : shapes (g ++ [x]) with
  | none => rfl
  | some s =>
    have := (shapes_iff.1 hs).2.2.2
    rw [endB_snoc] at this
    have := of_decide_eq_true this
    omega

theorem rowAt_nat (L : List (List Int)) (k : Nat) : rowAt L (k : Int) = rowL L k := by unfold rowAt rowL; rfl

/-- What is known of each node of a graph that may be. -/
theorem run_node {g : List Node} {s : List (List Int)} (h : run [] g = some s) (i : Nat) (hi : i < g.length) :
    ∃ k, kindOf (nodeN g i).kind = some k ∧ ofB k (nodeN g i) = true ∧ okIn (nodeN g i) i = true ∧ rowL s i = shapeOf (nodeN g i) (s.take i) := by
  have hp := run_prefix h i (by omega)
  have hp1 := run_prefix h (i + 1) (by omega)
  have hl := run_length _ _ _ h
  simp only [List.length_nil, Nat.zero_add] at hl
  rw [List.take_succ_eq_append_getElem hi, run_snoc, hp] at hp1
  simp only at hp1
  cases hs : step (s.take i) g[i] with
  | none => rw [hs] at hp1; cases hp1
  | some t =>
    rw [hs] at hp1
    simp only [Option.some.injEq] at hp1
    obtain ⟨k, h1, h2, h3, h4, h5⟩ := step_some hs
    rw [nodeN_eq g i hi]
    refine ⟨k, h1, h2, by simpa [List.length_take, Nat.min_eq_left (show i ≤ s.length by omega)] using h3, ?_⟩
    rw [← h5]
    have h6 : rowL (s.take (i + 1)) i = t := by
      rw [← hp1]
      have := rowL_snoc_last (s.take i) t
      rwa [List.length_take, Nat.min_eq_left (by omega)] at this
    rw [← h6]
    unfold rowL
    simp only [List.getD_eq_getElem?_getD, List.getElem?_take, Nat.lt_succ_self, if_true]

/-- A node of relu. -/
theorem step_relu {s : List (List Int)} (hs : ∀ t ∈ s, chk t = true) (inn : List Int) (n : Int) :
    step s ⟨5, inn, [], n, 0⟩ = match inn with
      | [k] => if 0 ≤ k ∧ k < s.length ∧ n = 0 then some (rowAt s k) else none
      | _ => none := by
  rw [step_eq (k := ⟨1, 1, 0, 0, 0, 0⟩) rfl]
  match inn with
  | [] => rfl
  | [k] =>
    simp only
    by_cases c : 0 ≤ k ∧ k < s.length ∧ n = 0
    · rw [if_pos c, if_pos]
      · simp [shapeOf, nth]
      · obtain ⟨c1, c2, c3⟩ := c
        subst c3
        refine ⟨rfl, by simp [okIn]; omega, ?_⟩
        have : k.toNat < s.length := by omega
        have h1 := hs _ (rowL_mem s k.toNat this)
        simpa [shapeOf, nth, rowAt, rowL] using h1
    · rw [if_neg c, if_neg]
      rintro ⟨h1, h2, h3⟩
      obtain ⟨_, _, h4, h5, _⟩ := ofB_parts h1
      simp only at h4 h5
      simp [okIn] at h2
      exact c ⟨by omega, by omega, by omega⟩
  | a :: b :: r =>
    simp only
    rw [if_neg]
    rintro ⟨h1, _⟩
    have h2 := (ofB_parts h1).2.1
    simp only [List.length_cons] at h2
    omega

theorem step_shift {s : List (List Int)} (hs : ∀ t ∈ s, chk t = true) (k n : Int) (h0 : 0 ≤ k) (h1 : k < s.length) :
    step s ⟨6, [k], [], n, 0⟩ = if 0 ≤ n ∧ n ≤ 31 then some (rowAt s k) else none := by
  rw [step_eq (k := ⟨1, 1, 0, 31, 0, 0⟩) rfl]
  by_cases c : 0 ≤ n ∧ n ≤ 31
  · rw [if_pos c, if_pos]
    · simp [shapeOf, nth]
    · refine ⟨?_, by simp [okIn]; omega, ?_⟩
      · unfold ofB
        rw [if_neg (by simp; omega)]
        rfl
      · have : k.toNat < s.length := by omega
        have h1 := hs _ (rowL_mem s k.toNat this)
        simpa [shapeOf, nth, rowAt, rowL] using h1
  · rw [if_neg c, if_neg]
    rintro ⟨h1, h2, h3⟩
    obtain ⟨_, _, h4, h5, _⟩ := ofB_parts h1
    simp only at h4 h5
    exact c ⟨h4, h5⟩

end Gr
end Go.Proofs.Ytgmagldbfajedaa
