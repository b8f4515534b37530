/-
  Plain Lean, no program: shapes and graphs as the program reckons them (chapters 4 and 10).
-/
import Derived.Test.YtgmagldbfajedaaLists
namespace Go.Proofs.Ytgmagldbfajedaa
namespace Gr

/-- The product of directions, from n on; 0: one is none, or it is too great. -/
def timesF : Int → List Int → Int
  | n, [] => n
  | n, x :: r => if x < 1 ∨ 64 < x then 0 else if 4096 < n * x then 0 else timesF (n * x) r

/-- How many numbers. -/
def size (s : List Int) : Int := if s.length < 1 ∨ 4 < s.length then 0 else timesF 1 s

/-- May a shape be? -/
def chk (s : List Int) : Bool := decide (0 < size s)

/-- Has a list each number below its length, and is it short? -/
def order (l : List Int) : Bool := ((List.range l.length).all fun i => hasB l (i : Int)) && decide (l.length ≤ 4)

/-- How many places there are. -/
def slides (rows look step : Int) : Int := if rows < look then 0 else Int.tdiv (rows - look) step + 1

theorem timesF_at (n : Int) (l : List Int) (k : Nat) (hk : k < l.length) :
    timesF n (l.drop k) = if nth l k < 1 ∨ 64 < nth l k then 0 else if 4096 < n * nth l k then 0 else timesF (n * nth l k) (l.drop (k + 1)) := by
  rw [List.drop_eq_getElem_cons hk, nth_eq l k hk]; rfl

theorem timesF_range : ∀ (l : List Int) (n : Int), 1 ≤ n → n ≤ 4096 → timesF n l = 0 ∨ (1 ≤ timesF n l ∧ timesF n l ≤ 4096)
  | [], n, h1, h2 => .inr ⟨h1, h2⟩
  | x :: r, n, h1, h2 => by
    unfold timesF
    split
    · exact .inl rfl
    · split
      · exact .inl rfl
      · rename_i hx hn
        refine timesF_range r (n * x) ?_ (by omega)
        have hp : 0 < n * x := Int.mul_pos (by omega) (by omega)
        omega

theorem size_range (s : List Int) : 0 ≤ size s ∧ size s ≤ 4096 := by
  unfold size
  split
  · omega
  · rcases timesF_range s 1 (by omega) (by omega) with h | h <;> omega

theorem chk_size {s : List Int} (h : chk s = true) : 0 < size s := by unfold chk at h; simpa using h

theorem timesF_pos : ∀ (l : List Int) (n : Int), 0 < timesF n l → ∀ x ∈ l, 1 ≤ x ∧ x ≤ 64
  | [], _, _, x, hx => by cases hx
  | y :: r, n, h, x, hx => by
    unfold timesF at h
    split at h
    · omega
    · rename_i hy
      split at h
      · omega
      · cases hx with
        | head => omega
        | tail _ hx => exact timesF_pos r _ h x hx

theorem chk_parts {s : List Int} (h : chk s = true) : 1 ≤ s.length ∧ s.length ≤ 4 ∧ ∀ x ∈ s, 1 ≤ x ∧ x ≤ 64 := by
  have h0 := chk_size h
  unfold size at h0
  split at h0
  · omega
  · rename_i hl
    exact ⟨by omega, by omega, timesF_pos s 1 h0⟩

theorem order_hit {l : List Int} {k : Nat} (hk : k < l.length) (h : hasB l (k : Int) = false) : order l = false := by
  unfold order
  have : ((List.range l.length).all fun i => hasB l (i : Int)) = false := by
    rw [List.all_eq_false]
    exact ⟨k, List.mem_range.2 hk, by simp [h]⟩
  rw [this]; rfl

theorem order_all {l : List Int} (h : ∀ i : Nat, i < l.length → hasB l (i : Int) = true) : order l = decide (l.length ≤ 4) := by
  unfold order
  have : ((List.range l.length).all fun i => hasB l (i : Int)) = true := by
    rw [List.all_eq_true]
    exact fun i hi => h i (List.mem_range.1 hi)
  rw [this]; rfl

theorem slides_range (rows look step : Int) (h0 : -9223372036854775808 ≤ rows - look) (h : rows - look < 9223372036854775807) (hs : 1 ≤ step) : 0 ≤ slides rows look step ∧ slides rows look step ≤ 9223372036854775807 := by
  unfold slides
  split
  · omega
  · rename_i hl
    rw [Int.tdiv_eq_ediv_of_nonneg (by omega)]
    have h1 := Int.ediv_nonneg (a := rows - look) (b := step) (by omega) (by omega)
    have h2 : (rows - look) / step ≤ rows - look := Int.ediv_le_self _ (by omega)
    omega

/-- A node of a graph. -/
structure Node where
  kind : Int
  inn : List Int
  shape : List Int
  n : Int
  pad : Int

/-- How many a node of a kind takes in, and from what to what its numbers are. -/
structure Kind where
  least : Int
  most : Int
  low : Int
  high : Int
  around : Int
  shaped : Int
deriving DecidableEq

/-- The kinds of nodes. -/
def kindOf (k : Int) : Option Kind :=
  if k = 1 then some ⟨0, 0, 0, 0, 0, 1⟩ else if k = 2 then some ⟨0, 0, 0, 0, 0, 1⟩ else if k = 3 then some ⟨2, 2, 0, 0, 0, 0⟩ else if k = 4 then some ⟨2, 2, 0, 0, 0, 0⟩
  else if k = 5 then some ⟨1, 1, 0, 0, 0, 0⟩ else if k = 6 then some ⟨1, 1, 0, 31, 0, 0⟩ else if k = 7 then some ⟨2, 2, 0, 0, 0, 0⟩ else if k = 8 then some ⟨2, 2, 1, 8, 8, 0⟩
  else if k = 9 then some ⟨1, 1, 1, 64, 0, 0⟩ else if k = 10 then some ⟨1, 1, 0, 0, 0, 1⟩ else if k = 11 then some ⟨1, 1, 0, 0, 0, 2⟩ else if k = 12 then some ⟨1, 4, 0, 3, 0, 0⟩
  else if k = 13 then some ⟨1, 1, 0, 3, 0, 0⟩ else none

/-- Is a node one of a kind? -/
def ofB (k : Kind) (x : Node) : Bool :=
  if (x.inn.length : Int) < k.least ∨ k.most < (x.inn.length : Int) ∨ x.n < k.low ∨ k.high < x.n ∨ x.pad < 0 ∨ k.around < x.pad then false
  else if k.shaped = 0 then decide ((x.shape.length : Int) = 0) else if k.shaped = 1 then chk x.shape else order x.shape

/-- Products of rows with columns: the shape; none: []. -/
def product (a b : List Int) : List Int :=
  if chk a = false ∨ chk b = false then [] else if a.length ≠ 2 ∨ b.length ≠ 2 ∨ nth a 1 ≠ nth b 0 then [] else [nth a 0, nth b 1]

/-- The windows of one, by another. -/
def window (t w : List Int) (step pad : Int) : List Int :=
  if chk t = false ∨ chk w = false ∨ step < 1 ∨ 8 < step ∨ pad < 0 ∨ 8 < pad then []
  else if t.length ≠ 3 ∨ w.length ≠ 4 ∨ nth t 0 ≠ nth w 1 then []
  else
    let s := [nth w 0, slides (nth t 1 + 2 * pad) (nth w 2) step, slides (nth t 2 + 2 * pad) (nth w 3) step]
    if chk s then s else []

/-- The greatest of each window. -/
def pool (t : List Int) (wide : Int) : List Int :=
  if chk t = false ∨ wide < 1 ∨ 64 < wide then [] else if t.length ≠ 3 ∨ min (nth t 1) (nth t 2) < wide then [] else [nth t 0, slides (nth t 1) wide wide, slides (nth t 2) wide wide]
end Gr
end Go.Proofs.Ytgmagldbfajedaa
