/-
  Plain Lean: costs of nodes (chapter 20), as the program reckons them, and what the laws say of them.
-/
import Derived.Test.YtgmagldbfajedaaOrNeedLaw
namespace Go.Proofs.Ytgmagldbfajedaa
namespace Co
open Gr Od

/-- What a node costs. -/
structure Cost where
  bytes : Int
  need : Int
  work : Int

/-- The size of a shape, looked up. -/
def sizeAt (s : List (List Int)) (v : Int) : Int := size (Gr.rowAt s v)
theorem sizeAt_range (s : List (List Int)) (v : Int) : 0 ≤ sizeAt s v ∧ sizeAt s v ≤ 4096 := size_range _

/-- The bytes of the first k that a node takes in, each once. -/
def insK (s : List (List Int)) (inn : List Int) : Nat → Int
  | 0 => 0
  | k + 1 => insK s inn k + (if hasB (inn.take k) (nth inn k) = true then 0 else 4 * sizeAt s (nth inn k))
/-- The same, each as often as it stands there. -/
def allK (s : List (List Int)) (inn : List Int) : Nat → Int
  | 0 => 0
  | k + 1 => allK s inn k + 4 * sizeAt s (nth inn k)

theorem insK_range (s : List (List Int)) (inn : List Int) : ∀ k : Nat, 0 ≤ insK s inn k ∧ insK s inn k ≤ allK s inn k ∧ allK s inn k ≤ 16384 * (k : Int)
  | 0 => by unfold insK allK; omega
  | k + 1 => by
    have h := insK_range s inn k
    have h1 := sizeAt_range s (nth inn k)
    unfold insK allK
    split <;> omega

theorem insK_ge (s : List (List Int)) (inn : List Int) : ∀ K : Nat, K ≤ inn.length → ∀ j, j < K → 4 * sizeAt s (nth inn j) ≤ insK s inn K
  | 0, _, j, hj => by omega
  | K + 1, hK, j, hj => by
    have h := insK_range s inn K
    have h1 := sizeAt_range s (nth inn K)
    unfold insK
    by_cases c : j < K
    · have := insK_ge s inn K (by omega) j c
      split <;> omega
    · obtain rfl : j = K := by omega
      split
      · rename_i hm
        obtain ⟨i, hi, he⟩ := mem_nth ((hasB_iff _ _).1 hm)
        rw [List.length_take] at hi
        have hi2 : i < j := by omega
        rw [nth_eq _ _ (by rw [List.length_take]; omega), List.getElem_take, ← nth_eq inn i (by omega)] at he
        have := insK_ge s inn j (by omega) i hi2
        rw [he] at this
        omega
      · omega

/-- What reckoning a node costs. -/
def workF (x : Gr.Node) (sz : Int) (ins : List (List Int)) : Int :=
  if x.kind = 1 ∨ x.kind = 2 then 0
  else if x.kind = 7 then sz * nth (rowL ins 0) 1
  else if x.kind = 8 then sz * Int.tdiv (size (rowL ins 1)) (nth (rowL ins 1) 0)
  else if x.kind = 9 then sz * x.n * x.n
  else if x.kind = 13 then size (rowL ins 0)
  else sz

/-- What a node costs, of the shapes. -/
def cost (s : List (List Int)) (x : Gr.Node) (i : Nat) : Cost :=
  ⟨4 * size (rowL s i), 4 * size (rowL s i) + insK s x.inn x.inn.length, workF x (size (rowL s i)) (x.inn.map (Gr.rowAt s))⟩
/-- What the first k nodes cost. -/
def costsK (g : List Gr.Node) (s : List (List Int)) (k : Nat) : List Cost := (List.range k).map fun i => cost s (nodeN g i) i
def costs (g : List Gr.Node) (s : List (List Int)) : List Cost := costsK g s g.length
def costN (c : List Cost) (i : Nat) : Cost := c.getD i ⟨0, 0, 0⟩

theorem costsK_length (g : List Gr.Node) (s : List (List Int)) (k : Nat) : (costsK g s k).length = k := by unfold costsK; simp
theorem costsK_snoc (g : List Gr.Node) (s : List (List Int)) (k : Nat) : costsK g s (k + 1) = costsK g s k ++ [cost s (nodeN g k) k] := by
  unfold costsK; rw [List.range_succ, List.map_append]; rfl
theorem costsK_at (g : List Gr.Node) (s : List (List Int)) (k i : Nat) (h : i < k) : costN (costsK g s k) i = cost s (nodeN g i) i := by
  unfold costN costsK
  rw [List.getD_eq_getElem?_getD, List.getElem?_map, List.getElem?_range h]; rfl

theorem size_bounds {g : List Gr.Node} {s : List (List Int)} (h : shapes g = some s) {i : Nat} (hi : i < g.length) : 1 ≤ size (rowL s i) ∧ size (rowL s i) ≤ 4096 := by
  have h1 := chk_size (shapes_chk h i (by rw [shapes_len h]; exact hi))
  have h2 := size_range (rowL s i)
  omega

/-- The least room: the greatest need of those that count. -/
def mx (x y : Int) : Int := if x < y then y else x
def leastF (c : List Cost) (ord : List Int) : Int := ord.foldl (fun n v => mx n (costN c v.toNat).need) 0

theorem least_fold (c : List Cost) : ∀ (ord : List Int) (n : Int), n ≤ ord.foldl (fun n v => mx n (costN c v.toNat).need) n ∧
    (∀ v ∈ ord, (costN c v.toNat).need ≤ ord.foldl (fun n v => mx n (costN c v.toNat).need) n) ∧
    (ord.foldl (fun n v => mx n (costN c v.toNat).need) n = n ∨ ∃ v ∈ ord, ord.foldl (fun n v => mx n (costN c v.toNat).need) n = (costN c v.toNat).need)
  | [], n => ⟨Int.le_refl _, (fun v h => by cases h), .inl rfl⟩
  | x :: r, n => by
    obtain ⟨h1, h2, h3⟩ := least_fold c r (mx n (costN c x.toNat).need)
    rw [List.foldl_cons]
    have hm1 : n ≤ mx n (costN c x.toNat).need := by unfold mx; split <;> omega
    have hm2 : (costN c x.toNat).need ≤ mx n (costN c x.toNat).need := by unfold mx; split <;> omega
    have hm3 : mx n (costN c x.toNat).need = n ∨ mx n (costN c x.toNat).need = (costN c x.toNat).need := by unfold mx; split <;> simp
    refine ⟨Int.le_trans hm1 h1, fun v hv => ?_, ?_⟩
    · rcases List.mem_cons.1 hv with rfl | hv
      · exact Int.le_trans hm2 h1
      · exact h2 v hv
    · rcases h3 with h3 | ⟨v, hv, h3⟩
      · rw [h3]
        rcases hm3 with h4 | h4
        · exact .inl h4
        · exact .inr ⟨x, by simp, h4⟩
      · exact .inr ⟨v, by simp [hv], h3⟩

theorem least_ge (c : List Cost) (ord : List Int) {v : Int} (h : v ∈ ord) : (costN c v.toNat).need ≤ leastF c ord := (least_fold c ord 0).2.1 v h
theorem least_at (c : List Cost) (ord : List Int) (h0 : ∀ v ∈ ord, 0 < (costN c v.toNat).need) (hne : 0 < ord.length) : ∃ v ∈ ord, leastF c ord = (costN c v.toNat).need := by
  obtain ⟨_, h2, h3⟩ := least_fold c ord 0
  rcases h3 with h3 | h3
  · have hm := nth_mem ord 0 hne
    have := h2 _ hm
    have := h0 _ hm
    omega
  · exact h3

/-- One node more. -/
theorem shapes_more {g : List Gr.Node} {x : Gr.Node} {s s' : List (List Int)} (h : shapes g = some s) (h' : shapes (g ++ [x]) = some s') : ∃ t, s' = s ++ [t] := by
  by_cases c : x.kind = 1 ∨ x.kind = 2
  · rw [shapes_snoc_end c] at h'; cases h'
  · rw [shapes_snoc h (by omega) (by omega)] at h'
    split at h'
    · split at h'
      · cases h'
      · cases h'; exact ⟨_, rfl⟩
    · cases h'

theorem rowAt_more (s : List (List Int)) (t : List Int) (v : Int) (h0 : 0 ≤ v) (h : v < s.length) : Gr.rowAt (s ++ [t]) v = Gr.rowAt s v := by
  obtain ⟨n, rfl⟩ : ∃ n : Nat, v = (n : Int) := ⟨v.toNat, by omega⟩
  rw [rowAt_nat, rowAt_nat, rowL_snoc_lt _ _ _ (by omega)]

theorem insK_congr {s s' : List (List Int)} {inn : List Int} (h : ∀ v ∈ inn, Gr.rowAt s' v = Gr.rowAt s v) : ∀ k, k ≤ inn.length → insK s' inn k = insK s inn k
  | 0, _ => rfl
  | k + 1, hk => by
    unfold insK
    rw [insK_congr h k (by omega)]
    unfold sizeAt
    rw [h _ (nth_mem inn k (by omega))]

theorem cost_more {g : List Gr.Node} {s : List (List Int)} (h : shapes g = some s) (t : List Int) {i : Nat} (hi : i < g.length) : cost (s ++ [t]) (nodeN g i) i = cost s (nodeN g i) i := by
  have hl := shapes_len h
  obtain ⟨k, _, _, hin, _⟩ := run_node (shapes_iff.1 h).2.1 i hi
  have hr : ∀ v ∈ (nodeN g i).inn, Gr.rowAt (s ++ [t]) v = Gr.rowAt s v := fun v hv => by
    unfold okIn at hin
    have h2 := List.all_eq_true.1 hin v hv
    simp only [Bool.and_eq_true, decide_eq_true_eq] at h2
    exact rowAt_more s t v h2.1 (by omega)
  unfold cost
  rw [rowL_snoc_lt _ _ _ (by omega), insK_congr hr _ (Nat.le_refl _), List.map_congr_left hr]

theorem costs_more {g : List Gr.Node} {x : Gr.Node} {s : List (List Int)} (h : shapes g = some s) (t : List Int) {i : Nat} (hi : i < g.length) : costN (costs (g ++ [x]) (s ++ [t])) i = costN (costs g s) i := by
  unfold costs
  rw [costsK_at _ _ _ _ (by simp; omega), costsK_at _ _ _ _ hi, nodeN_append_left _ _ _ hi, cost_more h t hi]

/-- What a node takes in, of a graph that may be. -/
theorem inn_of {g : List Gr.Node} {s : List (List Int)} (h : shapes g = some s) {i : Nat} (hi : i < g.length) : (nodeN g i).inn.length ≤ 4 ∧ ∀ v ∈ (nodeN g i).inn, 0 ≤ v ∧ v < i := by
  obtain ⟨k, h1, h2, h3, _⟩ := run_node (shapes_iff.1 h).2.1 i hi
  have h4 := (ofB_parts h2).2.1
  have h5 := kindOf_bounds h1
  refine ⟨by omega, fun v hv => ?_⟩
  unfold okIn at h3
  have := List.all_eq_true.1 h3 v hv
  simpa using this

/-- Numbers that the laws hold against one another. -/
theorem need_bounds {g : List Gr.Node} {s : List (List Int)} (h : shapes g = some s) {i : Nat} (hi : i < g.length) :
    (cost s (nodeN g i) i).bytes = 4 * size (rowL s i) ∧ (cost s (nodeN g i) i).need = 4 * size (rowL s i) + insK s (nodeN g i).inn (nodeN g i).inn.length ∧
    4 ≤ 4 * size (rowL s i) ∧ 4 * size (rowL s i) ≤ 16384 ∧ (cost s (nodeN g i) i).need ≤ 81920 := by
  have h1 := size_bounds h hi
  have h2 := insK_range s (nodeN g i).inn (nodeN g i).inn.length
  have h3 := (inn_of h hi).1
  refine ⟨rfl, rfl, by omega, by omega, ?_⟩
  show 4 * size (rowL s i) + insK s (nodeN g i).inn (nodeN g i).inn.length ≤ 81920
  omega
end Co
end Go.Proofs.Ytgmagldbfajedaa
