import Derived.Maps.AppendAt
import Derived.Deep.RegionLaw
import Derived.Lib.Walk
import Derived.Lib.SliceRun
import Derived.Lib.SlicesDelete
import Derived.Lib.SlicesCompact
import Derived.ProofKit
import Derived.SizedLaws
import Derived.Deep.Slices
import Derived.ChangeOld
import Derived.OpenShut
import Derived.Test.YtekejcnphmnidaaGreatDoorZBc
import Derived.Test.YtekejcnphmnidaaGreatDoorZBe
import Derived.Test.YtekejcnphmnidaaGreatDoorZBb
import Derived.Test.YtekejcnphmnidaaGreatDoorZBa
namespace Go.Proofs.YtekejcnphmnidaaGreatDoor
namespace Gr
def rowAt (L : List (List Int)) (n : Int) : List Int := L.getD n.toNat []
def without (s : List Int) (along : Int) : List Int :=
  if (s.length : Int) ≤ along then [] else if s.length = 1 then [1] else s.eraseIdx along.toNat
def fits (along : Int) (s x : List Int) : Bool := (List.range s.length).all fun k => decide ((k : Int) = along) || decide (nth s k = nth x k)
def longer (along : Int) (s x : List Int) : List Int := s.set along.toNat (nth s along.toNat + nth x along.toNat)
def joinF (along : Int) : List Int → List (List Int) → List Int
  | s, [] => if (s.length : Int) ≤ along then [] else s
  | s, x :: r => if x.length ≠ s.length ∨ (s.length : Int) ≤ along then [] else if fits along s x = true then joinF along (longer along s x) r else []
def joined (l : List (List Int)) (along : Int) : List Int := match l with
  | [] => []
  | s :: r => joinF along s r
def shapeOf (x : Node) (L : List (List Int)) : List Int :=
  if x.kind = 1 ∨ x.kind = 2 then x.shape
  else if x.kind = 5 ∨ x.kind = 6 then rowAt L (nth x.inn 0)
  else if x.kind = 3 ∨ x.kind = 4 then (if sameB (rowAt L (nth x.inn 0)) (rowAt L (nth x.inn 1)) = true then rowAt L (nth x.inn 0) else [])
  else if x.kind = 10 then (if size (rowAt L (nth x.inn 0)) = size x.shape then x.shape else [])
  else if x.kind = 7 then product (rowAt L (nth x.inn 0)) (rowAt L (nth x.inn 1))
  else if x.kind = 8 then window (rowAt L (nth x.inn 0)) (rowAt L (nth x.inn 1)) x.n x.pad
  else if x.kind = 9 then pool (rowAt L (nth x.inn 0)) x.n
  else if x.kind = 11 then turned (rowAt L (nth x.inn 0)) x.shape
  else if x.kind = 12 then joined (x.inn.map (rowAt L)) x.n
  else if x.kind = 13 then without (rowAt L (nth x.inn 0)) x.n
  else []
def okIn (x : Node) (n : Nat) : Bool := x.inn.all fun v => decide (0 ≤ v) && decide (v < n)
def step (L : List (List Int)) (x : Node) : Option (List Int) := match kindOf x.kind with
  | none => none
  | some k => if ofB k x = true ∧ okIn x L.length = true ∧ chk (shapeOf x L) = true then some (shapeOf x L) else none
def run : List (List Int) → List Node → Option (List (List Int))
  | L, [] => some L
  | L, x :: r => match step L x with
    | none => none
    | some s => run (L ++ [s]) r
def inputs : List Node → Nat
  | [] => 0
  | x :: r => (if x.kind = 1 then 1 else 0) + inputs r
def endB (g : List Node) : Bool := match g.getLast? with
  | none => false
  | some x => decide (x.kind ≠ 1 ∧ x.kind ≠ 2)
def shapes (g : List Node) : Option (List (List Int)) :=
  if g.length < 1 ∨ 32 < g.length then none else match run [] g with
    | none => none
    | some L => if inputs g = 1 ∧ endB g = true then some L else none
def inputN : List Node → Nat
  | [] => 0
  | x :: r => if x.kind = 1 then 0 else inputN r + 1
def inputIx (g : List Node) : Int := if inputN g < g.length then inputN g else -1
def weightsF : Nat → List Node → List Int
  | _, [] => []
  | i, x :: r => if x.kind = 2 then (i : Int) :: weightsF (i + 1) r else weightsF (i + 1) r
def weights (g : List Node) : List Int := weightsF 0 g
theorem run_append : ∀ (a : List Node) (L : List (List Int)) (b : List Node), run L (a ++ b) = match run L a with
    | none => none
    | some M => run M b
  | [], L, b => rfl
  | x :: r, L, b => by
    simp only [List.cons_append, run]
    cases step L x with
    | none => rfl
    | some s => exact run_append r _ b
theorem run_length : ∀ (g : List Node) (L M : List (List Int)), run L g = some M → M.length = L.length + g.length
  | [], L, M, h => by simp only [run, Option.some.injEq] at h; subst h; simp
  | x :: r, L, M, h => by
    simp only [run] at h
    cases hs : step L x with
    | none => rw [hs] at h; cases h
    | some s =>
      rw [hs] at h
      have := run_length r _ _ h
      simp only [List.length_append, List.length_cons, List.length_nil] at this ⊢
      omega
theorem run_take : ∀ (g : List Node) (L M : List (List Int)), run L g = some M → M.take L.length = L
  | [], L, M, h => by simp only [run, Option.some.injEq] at h; subst h; simp
  | x :: r, L, M, h => by
    simp only [run] at h
    cases hs : step L x with
    | none => rw [hs] at h; cases h
    | some s =>
      rw [hs] at h
      have h1 := run_take r _ _ h
      have h2 : (M.take (L ++ [s]).length).take L.length = L := by rw [h1]; simp
      rw [List.take_take] at h2
      simpa using h2
theorem run_prefix {g : List Node} {M : List (List Int)} (h : run [] g = some M) (n : Nat) (hn : n ≤ g.length) : run [] (g.take n) = some (M.take n) := by
  have h1 := run_append (g.take n) [] (g.drop n)
  rw [List.take_append_drop, h] at h1
  cases hr : run [] (g.take n) with
  | none => rw [hr] at h1; cases h1
  | some N =>
    rw [hr] at h1
    simp only at h1
    have h2 := run_take _ _ _ h1.symm
    have h3 := run_length _ _ _ hr
    simp only [List.length_nil, Nat.zero_add, List.length_take, Nat.min_eq_left hn] at h3
    rw [h3] at h2
    rw [h2]
theorem step_some {L : List (List Int)} {x : Node} {s : List Int} (h : step L x = some s) :
    ∃ k, kindOf x.kind = some k ∧ ofB k x = true ∧ okIn x L.length = true ∧ chk (shapeOf x L) = true ∧ s = shapeOf x L := by
  unfold step at h
  split at h
  · cases h
  · rename_i k hk
    split at h
    · rename_i hc
      cases h
      exact ⟨k, hk, hc.1, hc.2.1, hc.2.2, rfl⟩
    · cases h
theorem step_eq {L : List (List Int)} {x : Node} {k : Kind} (hk : kindOf x.kind = some k) :
    step L x = if ofB k x = true ∧ okIn x L.length = true ∧ chk (shapeOf x L) = true then some (shapeOf x L) else none := by
  unfold step; rw [hk]
theorem run_chk : ∀ (g : List Node) (L M : List (List Int)), run L g = some M → (∀ s ∈ L, chk s = true) → ∀ s ∈ M, chk s = true
  | [], L, M, h, hL => by simp only [run, Option.some.injEq] at h; subst h; exact hL
  | x :: r, L, M, h, hL => by
    simp only [run] at h
    cases hs : step L x with
    | none => rw [hs] at h; cases h
    | some s =>
      rw [hs] at h
      refine run_chk r _ _ h fun t ht => ?_
      rcases List.mem_append.1 ht with ht | ht
      · exact hL t ht
      · obtain ⟨k, _, _, _, hc, rfl⟩ := step_some hs
        rw [List.mem_singleton.1 ht]; exact hc
theorem run_snoc (g : List Node) (L : List (List Int)) (x : Node) : run L (g ++ [x]) = match run L g with
    | none => none
    | some M => match step M x with
      | none => none
      | some s => some (M ++ [s]) := by
  rw [run_append]
  cases run L g with
  | none => rfl
  | some M =>
    simp only [run]
theorem run_fail {g : List Node} {k : Nat} (hk : k < g.length) {M : List (List Int)} (h : run [] (g.take k) = some M) (hs : step M g[k] = none) : run [] g = none := by
  have h1 := run_append (g.take k) [] (g.drop k)
  rw [List.take_append_drop, h, List.drop_eq_getElem_cons hk] at h1
  simp only [run, hs] at h1
  exact h1
theorem run_more {g : List Node} {k : Nat} (hk : k < g.length) {M : List (List Int)} {s : List Int} (h : run [] (g.take k) = some M) (hs : step M g[k] = some s) : run [] (g.take (k + 1)) = some (M ++ [s]) := by
  rw [List.take_succ_eq_append_getElem hk, run_snoc, h]
  simp only [hs]
theorem inputs_append : ∀ (a b : List Node), inputs (a ++ b) = inputs a + inputs b
  | [], b => by simp [inputs]
  | x :: r, b => by simp only [List.cons_append, inputs, inputs_append r b]; omega
theorem inputs_le_length : ∀ g : List Node, inputs g ≤ g.length
  | [] => Nat.le_refl _
  | x :: r => by
    have := inputs_le_length r
    simp only [inputs, List.length_cons]
    split <;> omega
theorem inputN_eq {g : List Node} {k : Nat} (hk : k < g.length) (h0 : ∀ j (hj : j < g.length), j < k → g[j].kind ≠ 1) (h1 : g[k].kind = 1) : inputN g = k := by
  induction g generalizing k with
  | nil => simp at hk
  | cons x r ih =>
    cases k with
    | zero => simp only [List.getElem_cons_zero] at h1; simp [inputN, h1]
    | succ k =>
      have hx : x.kind ≠ 1 := h0 0 (by simp) (by omega)
      simp only [inputN, if_neg hx]
      rw [ih (k := k) (by simpa using hk) (fun j hj hjk => h0 (j + 1) (by simpa using hj) (by omega)) (by simpa using h1)]
theorem inputN_none {g : List Node} (h0 : ∀ j (hj : j < g.length), g[j].kind ≠ 1) : inputN g = g.length := by
  induction g with
  | nil => rfl
  | cons x r ih =>
    have hx : x.kind ≠ 1 := h0 0 (by simp)
    simp only [inputN, if_neg hx, List.length_cons]
    rw [ih (fun j hj => h0 (j + 1) (by simpa using hj))]
theorem weightsF_append : ∀ (a : List Node) (i : Nat) (b : List Node), weightsF i (a ++ b) = weightsF i a ++ weightsF (i + a.length) b
  | [], i, b => by simp [weightsF]
  | x :: r, i, b => by
    simp only [List.cons_append, weightsF, List.length_cons]
    rw [weightsF_append r (i + 1) b, show i + 1 + r.length = i + (r.length + 1) by omega]
    split <;> rfl
theorem weights_snoc {g : List Node} {k : Nat} (hk : k < g.length) : weights (g.take (k + 1)) = weights (g.take k) ++ (if g[k].kind = 2 then [(k : Int)] else []) := by
  unfold weights
  rw [List.take_succ_eq_append_getElem hk, weightsF_append]
  simp only [List.length_take, Nat.min_eq_left (Nat.le_of_lt hk), Nat.zero_add, weightsF]
theorem weightsF_length : ∀ (g : List Node) (i : Nat), (weightsF i g).length ≤ g.length
  | [], _ => Nat.le_refl _
  | x :: r, i => by
    have := weightsF_length r (i + 1)
    simp only [weightsF]
    split <;> simp <;> omega
theorem weightsF_mem : ∀ (g : List Node) (i : Nat) (v : Int), v ∈ weightsF i g → (i : Int) ≤ v ∧ v < (i : Int) + g.length
  | [], _, v, h => by cases h
  | x :: r, i, v, h => by
    simp only [weightsF] at h
    simp only [List.length_cons]
    split at h
    · rcases List.mem_cons.1 h with rfl | h
      · omega
      · have := weightsF_mem r (i + 1) v h; omega
    · have := weightsF_mem r (i + 1) v h; omega
theorem kindOf_most {k : Int} {kd : Kind} (h : kindOf k = some kd) : kd.most = 0 ↔ (k = 1 ∨ k = 2) := by
  obtain ⟨i, hi⟩ := kind_ins h
  exact (show ∀ p ∈ insL, p.2.2.most = 0 ↔ (p.2.1 = 1 ∨ p.2.1 = 2) by decide) _ hi
theorem kindOf_least {k : Int} {kd : Kind} (h : kindOf k = some kd) : (k = 1 ∨ k = 2 → kd.least = 0 ∧ kd.most = 0) ∧ (¬ (k = 1 ∨ k = 2) → 1 ≤ kd.least) := by
  obtain ⟨i, hi⟩ := kind_ins h
  exact (show ∀ p ∈ insL, (p.2.1 = 1 ∨ p.2.1 = 2 → p.2.2.least = 0 ∧ p.2.2.most = 0) ∧ (¬ (p.2.1 = 1 ∨ p.2.1 = 2) → 1 ≤ p.2.2.least) by decide) _ hi
theorem ofB_parts {k : Kind} {x : Node} (h : ofB k x = true) : k.least ≤ (x.inn.length : Int) ∧ (x.inn.length : Int) ≤ k.most ∧ k.low ≤ x.n ∧ x.n ≤ k.high ∧ 0 ≤ x.pad ∧ x.pad ≤ k.around ∧
    (k.shaped = 0 → x.shape.length = 0) ∧ (k.shaped = 1 → chk x.shape = true) ∧ (k.shaped ≠ 0 → k.shaped ≠ 1 → order x.shape = true) := by
  unfold ofB at h
  split at h
  · cases h
  · rename_i hc
    refine ⟨by omega, by omega, by omega, by omega, by omega, by omega, ?_, ?_, ?_⟩
    · intro h0; rw [if_pos h0] at h; have := of_decide_eq_true h; omega
    · intro h1; rw [if_neg (by omega), if_pos h1] at h; exact h
    · intro h0 h1; rw [if_neg h0, if_neg h1] at h; exact h
end Gr
end Go.Proofs.YtekejcnphmnidaaGreatDoor
namespace Go.Proofs.YtekejcnphmnidaaGreatDoor
open Go.RowKit
theorem Tryz.info22 : (Tryz.prog.info? 22).map (fun i => (i.zero, i.size, i.bytes)) = some (some (.slice none 0 0), 1, 24) := by kernel_rfl
def rowL (L : List (List Int)) (i : Nat) : List Int := L.getD i []
theorem rowL_eq (L : List (List Int)) (i : Nat) (h : i < L.length) : rowL L i = L[i] := by
  unfold rowL; rw [List.getD_eq_getElem?_getD, List.getElem?_eq_getElem h]; rfl
theorem rowL_mem (L : List (List Int)) (i : Nat) (h : i < L.length) : rowL L i ∈ L := by rw [rowL_eq L i h]; exact List.getElem_mem h
theorem rowL_snoc_lt (L : List (List Int)) (x : List Int) (i : Nat) (h : i < L.length) : rowL (L ++ [x]) i = rowL L i := by
  unfold rowL; rw [List.getD_eq_getElem?_getD, List.getD_eq_getElem?_getD, List.getElem?_append_left h]
theorem rowL_snoc_last (L : List (List Int)) (x : List Int) : rowL (L ++ [x]) L.length = x := by
  unfold rowL; rw [List.getD_eq_getElem?_getD, List.getElem?_append_right (Nat.le_refl _)]; simp
structure Mine (base : Nat) (w : World) (g off cap : Nat) (l : List Int) : Prop where
  lo : base ≤ g
  lt : g < w.heap.size
  le : l.length ≤ cap
  cap_le : cap ≤ 9223372036854775807
  cell : ∀ i, i < l.length → w.cell? ⟨g, off + i, none⟩ = some (.int .i64 (nth l i))
  fr : ∀ i, i < l.length → w.frozen? ⟨g, off + i, none⟩ = false
theorem Own.mine {base : Nat} {w : World} {v : Value} {l : List Int} (h : Own base w v l) (h0 : 0 < l.length) : ∃ g off cap, v = .slice (some ⟨g, off, none⟩) l.length cap ∧ Mine base w g off cap l := by
  obtain ⟨h1, h2⟩ := h
  rcases h2 with ⟨rfl, h0'⟩ | ⟨g, cap, cur, rfl, hg, hh, hn, hm, hc, ht⟩
  · omega
  · have hlt := (Array.getElem?_eq_some_iff.1 hh).1
    have hcell : ∀ i, w.cell? ⟨g, i, none⟩ = cur[i]? := fun i => by simp [World.cell?, hh]
    refine ⟨g, 0, cap, rfl, hg, hlt, hn, by unfold maxLen at hm; omega, fun i hi => ?_, fun i hi => by simp [World.frozen?, hh]⟩
    rw [Nat.zero_add, hcell]
    have h3 : (cur.toList.take (l.length * 1))[i]? = (l.map (Value.int .i64))[i]? := by rw [ht]
    rw [List.getElem?_take, if_pos (by omega), List.getElem?_map, List.getElem?_eq_getElem hi] at h3
    rw [nth_eq l i hi]
    simpa using h3
theorem Mine.below {base : Nat} {w w' : World} {g off cap : Nat} {l : List Int} (h : Mine base w g off cap l) (hb : Below w.heap.size w w') : Mine base w' g off cap l :=
  ⟨h.lo, Nat.lt_of_lt_of_le h.lt hb.size, h.le, h.cap_le, fun i hi => (hb.cell (p := ⟨g, off + i, none⟩) h.lt).trans (h.cell i hi), fun i hi => (hb.frozen (p := ⟨g, off + i, none⟩) h.lt).trans (h.fr i hi)⟩
theorem Mine.mono {base base' : Nat} {w : World} {g off cap : Nat} {l : List Int} (h : Mine base w g off cap l) (hb : base' ≤ base) : Mine base' w g off cap l := ⟨Nat.le_trans hb h.lo, h.lt, h.le, h.cap_le, h.cell, h.fr⟩
theorem Mine.ints {base : Nat} {w : World} {g off cap : Nat} {l : List Int} (h : Mine base w g off cap l) (hwf : ∀ n ∈ l, -9223372036854775808 ≤ n ∧ n ≤ 9223372036854775807) : Ints w (some ⟨g, off, none⟩) l.length cap l :=
  ⟨h.le, h.cap_le, rfl, hwf, fun _ => ⟨g, off, rfl, h.lt, h.cell⟩⟩
theorem Mine.set {base : Nat} {w : World} {g off cap : Nat} {l : List Int} (h : Mine base w g off cap l) (i : Nat) (hi : i < l.length) (x : Int) : Mine base (w.setCell ⟨g, off + i, none⟩ (.int .i64 x)) g off cap (l.set i x) := by
  refine ⟨h.lo, by simp [World.setCell]; exact h.lt, by rw [List.length_set]; exact h.le, h.cap_le, fun k hk => ?_, fun k hk => by rw [World.frozen?_setCell]; exact h.fr k (by rwa [List.length_set] at hk)⟩
  rw [List.length_set] at hk
  by_cases e : i = k
  · subst e
    rw [World.cell?_setCell_same _ _ _ (h.cell i hi), nth_eq _ _ (by simpa using hk)]
    simp
  · rw [World.cell?_setCell_other _ _ _ _ (by intro e'; simp only [Addr.mk.injEq] at e'; omega), h.cell k hk, nth_eq (l.set i x) k (by simpa using hk), nth_eq l k hk, List.getElem_set_ne e]
theorem below_setCell {base : Nat} {w0 w : World} (h : Below base w0 w) (g o : Nat) (v : Value) (hg : base ≤ g) : Below base w0 (w.setCell ⟨g, o, none⟩ v) :=
  ⟨h.os, h.tape, h.output, by simp [World.setCell]; exact h.size, fun k hk => (Below.heap_setCell _ _ _ _ (by intro e; simp only at e; omega)).trans (h.block k hk)⟩
structure Grid (w : World) (a : Option Addr) (len cap : Nat) (L : List (List Int)) : Prop where
  le : len ≤ cap
  cap_le : cap ≤ 9223372036854775807
  length : L.length = len
  at_ : 0 < len → ∃ b off, a = some ⟨b, off, none⟩ ∧ b < w.heap.size ∧ ∀ i, i < len → ∃ ai li ci, w.cell? ⟨b, off + i, none⟩ = some (.slice ai li ci) ∧ Ints w ai li ci (rowL L i)
theorem Grid.nil {w : World} : Grid w none 0 0 [] := ⟨Nat.le_refl _, by omega, rfl, (fun h => absurd h (Nat.lt_irrefl 0))⟩
theorem Grid.below {w w' : World} {a : Option Addr} {len cap : Nat} {L : List (List Int)} (h : Grid w a len cap L) (hb : Below w.heap.size w w') : Grid w' a len cap L :=
  ⟨h.le, h.cap_le, h.length, fun h0 => by
    obtain ⟨b, off, rfl, hlt, hc⟩ := h.at_ h0
    refine ⟨b, off, rfl, Nat.lt_of_lt_of_le hlt hb.size, fun i hi => ?_⟩
    obtain ⟨ai, li, ci, h1, h2⟩ := hc i hi
    exact ⟨ai, li, ci, (hb.cell (p := ⟨b, off + i, none⟩) hlt).trans h1, h2.below hb⟩⟩
theorem Ints.grown {w w' : World} {row : Option Nat} {a : Option Addr} {len cap : Nat} {l : List Int} (h : Ints w a len cap l) (hg : w.grownBy w' row) (hn : ∀ p, a = some p → 0 < len → some p.block ≠ row) : Ints w' a len cap l :=
  ⟨h.le, h.cap_le, h.length, h.wf, fun h0 => by
    obtain ⟨b, off, rfl, hlt, hc⟩ := h.at_ h0
    exact ⟨b, off, rfl, Nat.lt_of_lt_of_le hlt hg.size, fun i hi => hg.cell (hc i hi) (show some b ≠ row from hn ⟨b, off, none⟩ rfl h0)⟩⟩
def OwnD (D : Nat → Prop) (base : Nat) (w : World) (v : Value) (L : List (List Int)) : Prop :=
  ∃ vs : List Value, w.ownsRow base 22 1 v vs.length vs ∧ vs.length = L.length ∧
    ∀ i, i < L.length → ∃ a len cap, vs[i]? = some (.slice a len cap) ∧ Ints w a len cap (rowL L i) ∧ ∀ p, a = some p → 0 < len → some p.block ≠ v.ownBlock ∧ D p.block
abbrev OwnG (base : Nat) (w : World) (v : Value) (L : List (List Int)) : Prop := OwnD (fun _ => True) base w v L
theorem OwnD.nil (D : Nat → Prop) (base : Nat) (w : World) : OwnD D base w (.slice none 0 0) [] := ⟨[], World.ownsRow_nil w base 22 1, rfl, fun _ hi => absurd hi (Nat.not_lt_zero _)⟩
theorem OwnG.nil (base : Nat) (w : World) : OwnG base w (.slice none 0 0) [] := OwnD.nil _ base w
theorem OwnD.below {D : Nat → Prop} {base : Nat} {w w' : World} {v : Value} {L : List (List Int)} (h : OwnD D base w v L) (hb : Below w.heap.size w w') : OwnD D base w' v L := by
  obtain ⟨vs, ⟨h1, h2⟩, h3, h4⟩ := h
  refine ⟨vs, ⟨h1, ?_⟩, h3, fun i hi => ?_⟩
  · rcases h2 with h2 | ⟨g, cap, cur, hv, hg, hh, r⟩
    · exact .inl h2
    · exact .inr ⟨g, cap, cur, hv, hg, by rw [hb.block g (Array.getElem?_eq_some_iff.1 hh).1]; exact hh, r⟩
  · obtain ⟨a, len, cap, e, hI, hn⟩ := h4 i hi
    exact ⟨a, len, cap, e, hI.below hb, hn⟩
theorem OwnD.store {D : Nat → Prop} {base : Nat} {w : World} {v : Value} {L : List (List Int)} (h : OwnD D base w v L) (g o : Nat) (u : Value) (hg : g < base) (hD : ∀ b, D b → b ≠ g) : OwnD D base (w.setCell ⟨g, o, none⟩ u) v L := by
  obtain ⟨vs, ⟨h1, h2⟩, h3, h4⟩ := h
  refine ⟨vs, ⟨h1, ?_⟩, h3, fun i hi => ?_⟩
  · rcases h2 with h2 | ⟨g', cap, cur, hv, hg', hh, r⟩
    · exact .inl h2
    · exact .inr ⟨g', cap, cur, hv, hg', by rw [Below.heap_setCell _ _ _ _ (by intro e; simp only at e; omega)]; exact hh, r⟩
  · obtain ⟨a, len, cap, e, hI, hn⟩ := h4 i hi
    refine ⟨a, len, cap, e, ⟨hI.le, hI.cap_le, hI.length, hI.wf, fun h0 => ?_⟩, hn⟩
    obtain ⟨b, off, rfl, hlt, hc⟩ := hI.at_ h0
    have hne := hD _ (hn _ rfl h0).2
    refine ⟨b, off, rfl, by simp [World.setCell]; exact hlt, fun j hj => ?_⟩
    rw [World.cell?_setCell_other _ _ _ _ (by intro e'; simp only [Addr.mk.injEq] at e'; exact hne e'.1.symm)]
    exact hc j hj
theorem OwnD.lt {D : Nat → Prop} {base : Nat} {w : World} {v : Value} {L : List (List Int)} (h : OwnD D base w v L) : ∀ k, v.ownBlock = some k → base ≤ k ∧ k < w.heap.size := by
  obtain ⟨vs, h1, _⟩ := h
  exact World.ownsRow.lt h1
theorem OwnD.grid {D : Nat → Prop} {base : Nat} {w : World} {v : Value} {L : List (List Int)} (h : OwnD D base w v L) : ∃ a len cap, v = .slice a len cap ∧ Grid w a len cap L ∧ ((a = none ∧ len = 0 ∧ cap = 0) ∨ ∃ g, a = some ⟨g, 0, none⟩ ∧ base ≤ g) := by
  obtain ⟨vs, ⟨h1, h2⟩, h3, h4⟩ := h
  rcases h2 with ⟨rfl, h0⟩ | ⟨g, cap, cur, rfl, hg, hh, hn, hm, hc, ht⟩
  · have : L = [] := List.eq_nil_of_length_eq_zero (by omega)
    subst this
    exact ⟨none, 0, 0, rfl, Grid.nil, .inl ⟨rfl, rfl, rfl⟩⟩
  · have hlt := (Array.getElem?_eq_some_iff.1 hh).1
    have hcell : ∀ i, w.cell? ⟨g, i, none⟩ = cur[i]? := fun i => by simp [World.cell?, hh]
    refine ⟨_, _, _, rfl, ⟨hn, by unfold maxLen at hm; omega, h3.symm, fun _ => ⟨g, 0, rfl, hlt, fun i hi => ?_⟩⟩, .inr ⟨g, rfl, hg⟩⟩
    obtain ⟨a, len, cap', e, hI, _⟩ := h4 i (by omega)
    refine ⟨a, len, cap', ?_, hI⟩
    rw [Nat.zero_add, hcell]
    have h5 : (cur.toList.take (vs.length * 1))[i]? = vs[i]? := by rw [ht]
    rw [List.getElem?_take, if_pos (by omega), e] at h5
    simpa using h5
theorem wpList_appD {D : Nat → Prop} {ops : Array Oper} {rest : List Oper} {o : Oper} {a : Act} {Q : Exit → Act → World → Prop} (w : World) (hgd : o.guard = none) (s t : Operand)
    (ho : o.op = .call { callee := .builtin .append, args := #[s, t], argTypes := #[59, 59] }) (base : Nat) (v : Value) (L : List (List Int)) (ax : Option Addr) (lx cx : Nat) (x : List Int)
    (hown : OwnD D base w v L) (hx : Ints w ax lx cx x) (hxn : ∀ p, ax = some p → 0 < lx → some p.block ≠ v.ownBlock ∧ D p.block)
    (hs : a.eval s = v) (ht : a.eval t = .slice (some ⟨w.heap.size, 0, none⟩) 1 1) (hb : base ≤ w.heap.size) (hlen : L.length < 1099511627776)
    (h : ∀ v' w', OwnD D base w' v' (L ++ [x]) → Below base w w' → w.grownBy w' v.ownBlock → wpList Tryz.prog ops Q rest (a.put o.dst v') w') :
    wpList Tryz.prog ops Q (o :: rest) a (w.alloc (.cells #[.slice ax lx cx] 22)) := by
  obtain ⟨i0, hi, hz0, hz1, hz2⟩ := info_parts Tryz.info22
  obtain ⟨vs, hrow, hvl, hrows⟩ := hown
  have hrow1 : (w.alloc (.cells #[.slice ax lx cx] 22)).ownsRow base 22 1 v vs.length vs := hrow.alloc _
  refine wpList_append_own_at _ hgd s t 59 ho base 22 i0 (.slice none 0 0) 1 24 Tryz.underlying59 hi hz0 hz1 hz2 rfl (by decide) v vs.length vs hs hrow1 ⟨w.heap.size, 0, none⟩ 1 1 [.slice ax lx cx] ht rfl (cell_one_new _ _ _) ?_ ?_ ?_ ?_ ?_
  · intro u hu; simp at hu; subst hu; rfl
  · unfold maxLen; omega
  · omega
  · simp; omega
  · intro v' w' hown' hgrow _ hblk
    have hgw : w.grownBy w' v.ownBlock := ⟨hgrow.os, hgrow.tape, hgrow.output, Nat.le_trans (by simp) hgrow.size, fun k hk hn => (hgrow.block k (by simp; omega) hn).trans (Below.heap_alloc _ _ _ hk)⟩
    have hltb : ∀ p : Addr, p.block < w.heap.size → some p.block ≠ v.ownBlock → some p.block ≠ v'.ownBlock := fun p hp hn e => by
      rcases hblk with hb1 | hb1
      · exact hn (e.trans hb1)
      · rw [hb1] at e; simp at e; omega
    refine h v' w' ⟨vs ++ [.slice ax lx cx], by simpa using hown', by simp [hvl], fun i hi => ?_⟩ ?_ hgw
    · by_cases hlt : i < L.length
      · obtain ⟨ai, li, ci, e, hI, hn⟩ := hrows i hlt
        refine ⟨ai, li, ci, by rw [List.getElem?_append_left (by omega)]; exact e, ?_, fun p hp h0 => ?_⟩
        · rw [rowL_snoc_lt _ _ _ hlt]; exact hI.grown hgw (fun p hp h0 => (hn p hp h0).1)
        · obtain ⟨b, off, e', hlt', _⟩ := hI.at_ h0
          obtain ⟨hn1, hn2⟩ := hn _ hp h0
          rw [hp] at e'; cases e'
          exact ⟨hltb _ hlt' hn1, hn2⟩
      · have : i = L.length := by simp at hi; omega
        subst this
        refine ⟨ax, lx, cx, by rw [← hvl]; simp, ?_, fun p hp h0 => ?_⟩
        · rw [rowL_snoc_last]; exact hx.grown hgw (fun p hp h0 => (hxn p hp h0).1)
        · obtain ⟨b, off, e', hlt', _⟩ := hx.at_ h0
          obtain ⟨hn1, hn2⟩ := hxn _ hp h0
          rw [hp] at e'; cases e'
          exact ⟨hltb _ hlt' hn1, hn2⟩
    · refine ((Below.refl base w).alloc hb _).grown hgrow (by simp; omega) ?_
      intro k hk
      exact (World.ownsRow.lt hrow k hk).1
theorem wpList_appG {ops : Array Oper} {rest : List Oper} {o : Oper} {a : Act} {Q : Exit → Act → World → Prop} (w : World) (hgd : o.guard = none) (s t : Operand)
    (ho : o.op = .call { callee := .builtin .append, args := #[s, t], argTypes := #[59, 59] }) (base : Nat) (v : Value) (L : List (List Int)) (ax : Option Addr) (lx cx : Nat) (x : List Int)
    (hown : OwnG base w v L) (hx : Ints w ax lx cx x) (hxn : ∀ p, ax = some p → 0 < lx → some p.block ≠ v.ownBlock)
    (hs : a.eval s = v) (ht : a.eval t = .slice (some ⟨w.heap.size, 0, none⟩) 1 1) (hb : base ≤ w.heap.size) (hlen : L.length < 1099511627776)
    (h : ∀ v' w', OwnG base w' v' (L ++ [x]) → Below base w w' → w.grownBy w' v.ownBlock → wpList Tryz.prog ops Q rest (a.put o.dst v') w') :
    wpList Tryz.prog ops Q (o :: rest) a (w.alloc (.cells #[.slice ax lx cx] 22)) :=
  wpList_appD w hgd s t ho base v L ax lx cx x hown hx (fun p hp h0 => ⟨hxn p hp h0, trivial⟩) hs ht hb hlen h
end Go.Proofs.YtekejcnphmnidaaGreatDoor
namespace Go.Proofs.YtekejcnphmnidaaGreatDoor
namespace Gr
def midJ (along : Int) (s x : List Int) (k : Nat) : List Int := if along < (k : Int) then longer along s x else s
theorem longer_length (along : Int) (s x : List Int) : (longer along s x).length = s.length := by unfold longer; simp
theorem midJ_length (along : Int) (s x : List Int) (k : Nat) : (midJ along s x k).length = s.length := by
  unfold midJ; split
  · exact longer_length _ _ _
  · rfl
theorem midJ_zero {along : Int} (h : 0 ≤ along) (s x : List Int) : midJ along s x 0 = s := by unfold midJ; rw [if_neg (by omega)]
theorem midJ_end {along : Int} {s : List Int} (h : along < s.length) (x : List Int) : midJ along s x s.length = longer along s x := by unfold midJ; rw [if_pos h]
theorem midJ_eq {along : Int} {k : Nat} (h : (k : Int) = along) (s x : List Int) : midJ along s x k = s ∧ midJ along s x (k + 1) = s.set k (nth s k + nth x k) := by
  unfold midJ longer
  subst h
  exact ⟨if_neg (by omega), by rw [if_pos (by omega)]; rfl⟩
theorem midJ_ne {along : Int} {k : Nat} (h : (k : Int) ≠ along) (s x : List Int) : midJ along s x (k + 1) = midJ along s x k := by
  unfold midJ
  by_cases c : along < (k : Int)
  · rw [if_pos c, if_pos (by omega)]
  · rw [if_neg c, if_neg (by omega)]
theorem midJ_nth {along : Int} {k : Nat} (h0 : 0 ≤ along) (_ : (k : Int) ≠ along) (s x : List Int) : nth (midJ along s x k) k = nth s k := by
  unfold midJ
  split
  · unfold longer nth
    simp only [List.getD_eq_getElem?_getD, List.getElem?_set]
    rw [if_neg (by omega)]
  · rfl
theorem joinF_bad {along : Int} {s x : List Int} {r : List (List Int)} (h : x.length ≠ s.length ∨ (s.length : Int) ≤ along) : joinF along s (x :: r) = [] := by
  unfold joinF; rw [if_pos h]
theorem joinF_unfit {along : Int} {s x : List Int} {r : List (List Int)} {k : Nat} (hk : k < s.length) (h : (k : Int) ≠ along) (hv : nth s k ≠ nth x k) : joinF along s (x :: r) = [] := by
  unfold joinF
  split
  · rfl
  · rw [if_neg]
    intro hf
    unfold fits at hf
    rw [List.all_eq_true] at hf
    have := hf k (List.mem_range.2 hk)
    simp only [Bool.or_eq_true, decide_eq_true_eq] at this
    rcases this with h1 | h1
    · exact h h1
    · exact hv h1
theorem joinF_fit {along : Int} {s x : List Int} {r : List (List Int)} (hl : x.length = s.length) (ha : along < s.length) (h : ∀ k, k < s.length → (k : Int) ≠ along → nth s k = nth x k) :
    joinF along s (x :: r) = joinF along (longer along s x) r := by
  conv => lhs; unfold joinF
  rw [if_neg (by omega), if_pos]
  unfold fits
  rw [List.all_eq_true]
  intro k hk
  rw [List.mem_range] at hk
  by_cases c : (k : Int) = along
  · simp [c]
  · simp [h k hk c]
theorem joinF_nil {along : Int} {s : List Int} : joinF along s [] = if (s.length : Int) ≤ along then [] else s := by unfold joinF; rfl
theorem longer_bounds {along M : Int} {s x : List Int} (ha0 : 0 ≤ along) (ha : along < s.length) (hl : x.length = s.length) (hs : ∀ v ∈ s, 1 ≤ v ∧ v ≤ M) (hx : ∀ v ∈ x, 1 ≤ v ∧ v ≤ 64) : ∀ v ∈ longer along s x, 1 ≤ v ∧ v ≤ M + 64 := by
  intro v hv
  unfold longer at hv
  have h1 := hs _ (nth_mem s along.toNat (by omega))
  have h2 := hx _ (nth_mem x along.toNat (by omega))
  rcases List.mem_or_eq_of_mem_set hv with h | h
  · have := hs v h; omega
  · omega
theorem perm_range : ∀ (n : Nat) (l : List Int), l.length = n → (∀ i : Nat, i < n → (i : Int) ∈ l) → ∀ x ∈ l, 0 ≤ x ∧ x < n
  | 0, l, hl, _, x, hx => by rw [List.eq_nil_of_length_eq_zero hl] at hx; cases hx
  | n + 1, l, hl, h, x, hx => by
    have hn := h n (by omega)
    by_cases e : x = n
    · omega
    · have h1 := perm_range n (l.erase n) (by rw [List.length_erase_of_mem hn]; omega) (fun i hi => (List.mem_erase_of_ne (by omega)).2 (h i (by omega))) x ((List.mem_erase_of_ne e).2 hx)
      omega
theorem order_range {l : List Int} (h : order l = true) : l.length ≤ 4 ∧ ∀ x ∈ l, 0 ≤ x ∧ x < l.length := by
  unfold order at h
  simp only [Bool.and_eq_true, List.all_eq_true, List.mem_range, decide_eq_true_eq] at h
  exact ⟨h.2, perm_range l.length l rfl fun i hi => (hasB_iff l i).1 (h.1 i hi)⟩
end Gr
end Go.Proofs.YtekejcnphmnidaaGreatDoor
namespace Go.Proofs.YtekejcnphmnidaaGreatDoor
open Go.RowKit Go.Lib Go.Sort
set_option maxHeartbeats 4000000 in
set_option maxRecDepth 1000000 in
theorem delete_any (blk off cap i j : Nat) (d : Array Int) (w : World) (hH : Holds ei w blk off d) (hcap : d.size ≤ cap) (hm : cap ≤ 9223372036854775807) (hij : i < j) (hj : j ≤ d.size) :
    Calls Tryz.prog 204 #[.slice (some ⟨blk, off, none⟩) d.size cap, .int .i64 i, .int .i64 j] w fun e w' => e = .returned (.slice (some ⟨blk, off, none⟩) (d.size - (j - i)) cap) ∧ ∃ q, w' = putRow ei (Sort.ahead w q) blk off (d.toList.take i ++ d.toList.drop j ++ List.replicate (j - i) 0).toArray := by
  obtain ⟨i0, hi0, hz0, hz1, hz2⟩ := info_parts Tryz.info3
  have v3 : ∀ w, (zeroValue 3).run Tryz.prog w = .ok (Value.int IntKind.i64 0) w := fun w => Tryz.zeroValue3 w
  have hlt : i < j := by omega
  obtain ⟨news, hnews⟩ : ∃ news, news = (d.toList.drop j).map ei := ⟨_, rfl⟩
  have hlen : news.length = d.size - j := by rw [hnews]; simp
  have hget : ∀ t, t < d.size - j → news[t]? = some (ei d[j + t]!) := by
    intro t ht
    rw [hnews, List.getElem?_map, List.getElem?_drop, Array.getElem?_toList, getElem!_pos d (j + t) (by omega), Array.getElem?_eq_getElem (by omega)]
    rfl
  obtain ⟨A, hA, hsrc⟩ : ∃ A : Addr, (if cap = j then some (⟨blk, off, none⟩ : Addr) else some ⟨blk, off + j, none⟩) = some A ∧ Hid (∀ t u, news[t]? = some u → w.drew.cell? (A.add t) = some u) := by
    by_cases h : cap = j
    · refine ⟨⟨blk, off, none⟩, by simp [h], fun t u hu => ?_⟩
      have h0 : news.length = 0 := by rw [hlen]; omega
      rw [List.length_eq_zero_iff.1 h0] at hu
      simp at hu
    · refine ⟨⟨blk, off + j, none⟩, by simp [h], fun t u hu => ?_⟩
      have ht : t < d.size - j := by
        have := (List.getElem?_eq_some_iff.1 hu).1
        rwa [hlen] at this
      rw [hget t ht] at hu
      rw [Addr.add_lit, show off + j + t = off + (j + t) by omega]
      exact (hH (j + t) (by omega)).1.trans hu
  have s1 : Hid (news.length = (d.size - j) * 1) := by rw [Nat.mul_one]; exact hlen
  have s2 : Hid (∀ u ∈ news, u.oneCell' = true) := by
    intro u hu
    rw [hnews] at hu
    obtain ⟨x, _, rfl⟩ := List.mem_map.1 hu
    rfl
  have s3 : Hid (∀ t, t < news.length → (w.drew.cell? ⟨blk, off + i * 1 + t, none⟩).isSome = true ∧ w.drew.frozen? ⟨blk, off + i * 1 + t, none⟩ = false) := by
    intro t ht
    rw [hlen] at ht
    rw [Nat.mul_one, Nat.add_assoc]
    exact ⟨by show (w.cell? _).isSome = true; rw [(hH (i + t) (by omega)).1]; rfl, (hH (i + t) (by omega)).2⟩
  obtain ⟨W1, hW1⟩ : ∃ W1, W1 = w.drew.setCells blk (off + i * 1) news := ⟨_, rfl⟩
  have hW1' : W1 = putRow ei (Sort.ahead w 1) blk off (lay d i (d.toList.drop j)) := by
    rw [hW1, hnews, Nat.mul_one, ← putRow_setCells ei (Sort.ahead w 1) blk off _ d i (by simp; omega), putRow_self ei (Sort.ahead w 1) blk off d (holds_ahead ei w 1 blk off d hH)]
    rfl
  have hH1 : Holds ei W1 blk off (lay d i (d.toList.drop j)) := by rw [hW1']; exact holds_putRow ei _ blk off d _ (holds_ahead ei w 1 blk off d hH) (lay_size _ _ _)
  have hcl : ∀ ty, (Builtin.clear_ #[22] ty #[.slice (some ⟨blk, off + (i + (d.size - j)), none⟩) (d.size - (i + (d.size - j))) (cap - (i + (d.size - j)))]).run Tryz.prog W1 = .ok (.tuple #[]) (W1.setCells blk (off + (i + (d.size - j))) (List.replicate (d.size - (i + (d.size - j))) (ei 0))) :=
    fun ty => Lib.run_clear_slice W1 _ _ ty _ Tryz.underlying22 v3 rfl rfl blk (off + (i + (d.size - j))) _ _ (by omega) (fun t ht => by rw [show off + (i + (d.size - j)) + t = off + (i + (d.size - j) + t) by omega, (hH1 _ (by rw [lay_size]; omega)).1]; rfl) (fun t ht => by rw [show off + (i + (d.size - j)) + t = off + (i + (d.size - j) + t) by omega]; exact (hH1 _ (by rw [lay_size]; omega)).2)
  have X : Hid (W1 = putRow ei (Sort.ahead w 1) blk off (lay d i (d.toList.drop j))) := hW1'
  have hW : Hid (W1 = w.drew.setCells blk (off + i * 1) news) := hW1
  have hic : i ≤ cap := by omega
  have hjc : j ≤ cap := by omega
  clear hW1 hW1' hH1 hH hget hnews hlen
  go_enter Tryz.func204, Tryz.ntmps204
  go_wp2_with fail
  go_region_law (refine step_append_room rfl (.tmp 22) (.tmp 25) 22 rfl 3 i0 1 Tryz.underlying22 hi0 hz1 blk off i cap (by simp [Act.eval, Act.put]) A (d.size - j) (cap - j) news (by simp [Act.eval, Act.put]) s1.out hsrc.out s2.out (by omega) s3.out ?_; rw [← hW.out])
  go_wp2
  go_ret
  refine ⟨by rw [show d.size - (j - i) = i + (d.size - j) by omega]; rfl, 1, ?_⟩
  rw [← delete_arr d i j 0 (Nat.le_of_lt hij) hj, ← putRow_setCells ei _ blk off _ _ (i + (d.size - j)) (by rw [lay_size]; simp; omega), ← X.out, List.map_replicate, show d.size - (i + (d.size - j)) = j - i by omega]
end Go.Proofs.YtekejcnphmnidaaGreatDoor
namespace Go.Proofs.YtekejcnphmnidaaGreatDoor
open Go.RowKit Go.Sort
theorem Mine.holds {base : Nat} {w : World} {g off cap : Nat} {l : List Int} (h : Mine base w g off cap l) : Holds ei w g off l.toArray := fun j hj => by
  have hj' : j < l.length := by simpa using hj
  refine ⟨?_, h.fr j hj'⟩
  rw [h.cell j hj', nth_eq l j hj', getElem!_pos l.toArray j hj]
  simp
theorem Mine.put {base : Nat} {w : World} {g off cap : Nat} {l m : List Int} (h : Mine base w g off cap l) (hm : m.length = l.length) (q : Nat) : Mine base (putRow ei (Sort.ahead w q) g off m.toArray) g off cap m := by
  have hH := holds_putRow ei (Sort.ahead w q) g off l.toArray m.toArray (holds_ahead ei w q g off _ h.holds) (by simpa using hm)
  refine ⟨h.lo, by simp [putRow, mapBlock]; exact h.lt, by rw [hm]; exact h.le, h.cap_le, fun i hi => ?_, fun i hi => (hH i (by simpa using hi)).2⟩
  rw [(hH i (by simpa using hi)).1, nth_eq m i hi, getElem!_pos m.toArray i (by simpa using hi)]
  simp
theorem Mine.take {base : Nat} {w : World} {g off cap : Nat} {l : List Int} (h : Mine base w g off cap l) (k : Nat) : Mine base w g off cap (l.take k) := by
  refine ⟨h.lo, h.lt, Nat.le_trans (by rw [List.length_take]; omega) h.le, h.cap_le, fun i hi => ?_, fun i hi => h.fr i (by rw [List.length_take] at hi; omega)⟩
  rw [List.length_take] at hi
  rw [h.cell i (by omega)]
  unfold nth
  simp only [List.getD_eq_getElem?_getD, List.getElem?_take, show i < k by omega, if_true]
theorem below_putRow {base : Nat} {w0 w : World} (h : Below base w0 w) (g off : Nat) (d : Array Int) (q : Nat) (hg : base ≤ g) : Below base w0 (putRow ei (Sort.ahead w q) g off d) :=
  ⟨h.os, h.tape, h.output, by simp [putRow, mapBlock]; exact h.size, fun k hk => by
    have : (putRow ei (Sort.ahead w q) g off d).heap[k]? = w.heap[k]? := by
      simp only [putRow, mapBlock, heap_ahead, Array.getElem?_modify]
      rw [if_neg (by omega)]
    rw [this]; exact h.block k hk⟩
set_option maxHeartbeats 2000000 in
set_option maxRecDepth 100000 in
theorem without_any (a : Option Addr) (la ca : Nat) (l : List Int) (along : Int) (w : World) (HA : Ints w a la ca l) (h0 : 0 ≤ along) (hl : la ≤ 1000000) :
    Calls Tryz.prog 183 #[.slice a la ca, .int .i64 along] w fun e w' => ShapeS w (Gr.without l along) e w' := by
  have KA := Lib.hid HA
  have LA := Lib.hid HA.length
  have ha1 := HA.le
  clear HA
  by_cases c1 : (la : Int) ≤ along
  · have d1 : decide (along ≥ (la : Int)) = true := decide_eq_true c1
    have HR := Lib.hid (show Gr.without l along = [] by unfold Gr.without; rw [if_pos (by rw [LA.out]; exact c1)])
    clear c1
    go_enter Tryz.func183, Tryz.ntmps183
    go_wp2
    go_ret
    exact ⟨_, _, _, rfl, by rw [HR.out]; exact Ints.nil, Below.refl _ _⟩
  · have d1 : decide (along ≥ (la : Int)) = false := decide_eq_false c1
    have HP := Lib.hid (show Gr.without l along = if l.length = 1 then [1] else l.eraseIdx along.toNat by unfold Gr.without; rw [if_neg (by rw [LA.out]; exact c1)])
    by_cases c2 : la = 1
    · subst c2
      have HR := Lib.hid (show Gr.without l along = [1] by rw [HP.out, if_pos LA.out])
      have d2 : decide ((1 : Int) ≤ along) = false := decide_eq_false (by omega)
      clear c1 d1
      go_enter Tryz.func183, Tryz.ntmps183
      go_wp2
      go_ret
      refine ⟨_, _, _, rfl, ?_, (Below.refl _ _).alloc (Nat.le_refl _) _⟩
      rw [HR.out]
      refine ⟨Nat.le_refl _, by omega, rfl, fun n hn => by simp at hn; omega, fun _ => ⟨w.heap.size, 0, rfl, by simp, fun i hi => ?_⟩⟩
      obtain rfl : i = 0 := by omega
      rw [World.cell?_alloc_at _ _ _ _ rfl]; rfl
    · have e1 : ((la : Int) == 1) = false := by simp; omega
      have HR := Lib.hid (show Gr.without l along = l.eraseIdx along.toNat by rw [HP.out, if_neg (by rw [LA.out]; exact c2)])
      obtain ⟨k, rfl⟩ : ∃ k : Nat, along = (k : Int) := ⟨along.toNat, by omega⟩
      clear h0 HP
      go_enter Tryz.func183, Tryz.ntmps183
      go_wp2_with fail
      refine (clone_any _ _ _ l _ KA.out hl).mono ?_
      rintro e w1 ⟨v, rfl, hO, hb⟩
      obtain ⟨g, off, cap, rfl, hM⟩ := hO.mine (by rw [LA.out]; omega)
      have HM := Lib.hid hM
      have HB := Lib.hid hb
      clear hO hM hb
      have hdel := delete_any g off cap k (k + 1) l.toArray w1 HM.out.holds (by simpa using HM.out.le) HM.out.cap_le (by omega) (by simp [LA.out]; omega)
      rw [show l.toArray.size = l.length by simp, show l.toArray.toList = l by simp, show ((k + 1 : Nat) : Int) = (k : Int) + 1 by omega] at hdel
      have HDel := Lib.hid hdel
      clear hdel
      go_wp2_with fail
      refine HDel.out.mono ?_
      rintro e w2 ⟨rfl, q, rfl⟩
      have hlen : (l.take k ++ l.drop (k + 1) ++ List.replicate (k + 1 - k) 0).length = l.length := by simp; rw [LA.out]; omega
      have hM2 := HM.out.put hlen q
      have hbel := below_putRow HB.out g off (l.take k ++ l.drop (k + 1) ++ List.replicate (k + 1 - k) 0).toArray q HM.out.lo
      have hM3 := hM2.take (l.length - 1)
      have htk : (l.take k ++ l.drop (k + 1) ++ List.replicate (k + 1 - k) 0).take (l.length - 1) = l.eraseIdx k := by
        rw [List.take_append_of_le_length (by simp; rw [LA.out]; omega), List.take_of_length_le (by simp; rw [LA.out]; omega), List.eraseIdx_eq_take_drop_succ]
      rw [htk] at hM3
      have hI := hM3.ints (fun n hn => KA.out.wf n (List.mem_of_mem_eraseIdx hn))
      have hel : (l.eraseIdx k).length = l.length - (k + 1 - k) := by rw [List.length_eraseIdx, if_pos (by rw [LA.out]; omega)]; omega
      rw [hel] at hI
      have HI := Lib.hid hI
      have HB2 := Lib.hid hbel
      clear hI hbel hM2 hM3 htk hlen hel HDel
      generalize putRow ei (Sort.ahead w1 q) g off (l.take k ++ l.drop (k + 1) ++ List.replicate (k + 1 - k) 0).toArray = w2 at *
      go_wp2
      go_ret
      exact ⟨_, _, _, rfl, by rw [HR.out]; simpa using HI.out, HB2.out⟩
end Go.Proofs.YtekejcnphmnidaaGreatDoor
namespace Go.Proofs.YtekejcnphmnidaaGreatDoor
open Go.RowKit
theorem rowL_drop (L : List (List Int)) (k i : Nat) : rowL (L.drop k) i = rowL L (k + i) := by
  unfold rowL; simp only [List.getD_eq_getElem?_getD, List.getElem?_drop]
theorem drop_rowL (L : List (List Int)) (k : Nat) (h : k < L.length) : L.drop k = rowL L k :: L.drop (k + 1) := by
  rw [List.drop_eq_getElem_cons h, rowL_eq L k h]
theorem Grid.tail {w : World} {b off len cap : Nat} {L : List (List Int)} (h : Grid w (some ⟨b, off, none⟩) len cap L) (h1 : 1 ≤ len) :
    ∃ A : Addr, (if cap = 1 then (some ⟨b, off, none⟩ : Option Addr) else some ⟨b, off + 1, none⟩) = some A ∧ Grid w (some A) (len - 1) (cap - 1) (L.drop 1) := by
  have hle := h.le
  have hcl := h.cap_le
  have hl := h.length
  obtain ⟨b', off', e, hlt, hc⟩ := h.at_ (by omega)
  simp only [Option.some.injEq, Addr.mk.injEq] at e
  obtain ⟨rfl, rfl, _⟩ := e
  by_cases c : cap = 1
  · exact ⟨_, if_pos c, by omega, by omega, by rw [List.length_drop]; omega, fun h0 => by omega⟩
  · refine ⟨_, if_neg c, by omega, by omega, by rw [List.length_drop]; omega, fun h0 => ⟨b, off + 1, rfl, hlt, fun i hi => ?_⟩⟩
    obtain ⟨ai, li, ci, h2, h3⟩ := hc (1 + i) (by omega)
    exact ⟨ai, li, ci, by rw [Nat.add_assoc]; exact h2, by rw [rowL_drop]; exact h3⟩
set_option maxHeartbeats 4000000 in
set_option maxRecDepth 100000 in
theorem joined_any (a : Option Addr) (len cap : Nat) (L : List (List Int)) (along : Int) (w : World) (HG : Grid w a len cap L) (h1 : 1 ≤ len) (h4 : len ≤ 4) (hchk : ∀ s ∈ L, Gr.chk s = true) (ha0 : 0 ≤ along) (_ : along ≤ 3) :
    Calls Tryz.prog 182 #[.slice a len cap, .int .i64 along] w fun e w' => ShapeS w (Gr.joined L along) e w' := by
  have hle := HG.le
  have hcl := HG.cap_le
  have LL := Lib.hid HG.length
  obtain ⟨b, off, rfl, hb, hc⟩ := HG.at_ (by omega)
  obtain ⟨A, hA, hT⟩ := HG.tail h1
  have HT := Lib.hid hT
  obtain ⟨a0, l0, c0, hc0, hI0⟩ := hc 0 (by omega)
  rw [Nat.add_zero] at hc0
  have H0 := Lib.hid hI0
  have HCK := Lib.hid hchk
  have HK0 := Lib.hid (hchk _ (rowL_mem L 0 (by rw [LL.out]; omega)))
  obtain ⟨hk1, hk2, hk3⟩ := Gr.chk_parts HK0.out
  have hll := hI0.length
  rw [hll] at hk1 hk2
  have HK3 := Lib.hid hk3
  have HJ0 : Hid (Gr.joined L along = Gr.joinF along (rowL L 0) (L.drop 1)) := by
    show _ = _
    have : L = rowL L 0 :: L.drop 1 := by conv => lhs; rw [← List.drop_zero (l := L), drop_rowL L 0 (by rw [LL.out]; omega)]
    conv => lhs; rw [this]
    rfl
  clear HG hT hI0 hchk hk3 hc
  go_enter Tryz.func182, Tryz.ntmps182
  go_wp2_with fail
  refine (clone_any _ _ _ (rowL L 0) _ H0.out (by omega)).mono ?_
  rintro e w1 ⟨v, rfl, hO, hbel⟩
  obtain ⟨g, og, cg, rfl, hM⟩ := hO.mine (by rw [hll]; omega)
  rw [hll]
  have HM := Lib.hid hM
  have HB := Lib.hid hbel
  have hcg := hM.le
  rw [hll] at hcg
  have hcg2 := hM.cap_le
  have hlog := hM.lo
  clear hO hM hbel hc0 H0
  have HLL := Lib.hid hll
  clear hll
  go_wp2
  go_loopg [17] (len - 1) (fun gg i wr => ∃ (j : Nat) (s : List Int), j ≤ len - 1 ∧ len - 1 - j ≤ gg ∧ i = .int .i64 j ∧ Hid (s.length = l0) ∧ Hid (∀ v ∈ s, 1 ≤ v ∧ v ≤ 64 * ((j : Int) + 1)) ∧
    Hid (Mine w.heap.size wr g og cg s) ∧ Hid (Below w.heap.size w wr) ∧ Hid (Gr.joined L along = Gr.joinF along s (L.drop (j + 1))))
  case atStart => exact ⟨0, rowL L 0, by omega, by omega, rfl, HLL, fun v hv => by have := HK3.out v hv; omega, HM, HB, HJ0⟩
  case round =>
    obtain ⟨j, s, hj, hg, rfl, HSL, HSB, HMr, HBr, HJ⟩ := hrel
    have HJL : Hid (j + 1 < len → L.drop (j + 1) = rowL L (j + 1) :: L.drop (j + 2)) := fun h => drop_rowL L (j + 1) (by rw [LL.out]; exact h)
    by_cases hlt : j < len - 1
    · obtain ⟨bA, oA, eA, hbA, hcA⟩ := HT.out.at_ (by omega)
      obtain rfl := Option.some.inj eA
      obtain ⟨ax, lx, cx, hcx, hIx⟩ := hcA j hlt
      rw [rowL_drop, Nat.add_comm 1 j] at hIx
      have hcr := (HBr.out.cell (p := ⟨bA, oA + j, none⟩) hbA).trans hcx
      have HX := Lib.hid hIx
      have HXL := Lib.hid hIx.length
      have hx1 := hIx.le
      have hx2 := hIx.cap_le
      have HXB := Lib.hid (Gr.chk_parts (HCK.out _ (rowL_mem L (j + 1) (by rw [LL.out]; omega)))).2.2
      rw [HJL.out (by omega)] at HJ
      clear hcA hcx hIx HJL
      generalize rowL L (j + 1) = x at *
      by_cases c1 : lx = l0
      · subst c1
        have hne : ((lx : Int) != (lx : Int)) = false := by simp
        by_cases c2 : (lx : Int) ≤ along
        · have d2 : decide (along ≥ (lx : Int)) = true := decide_eq_true c2
          have HR := Lib.hid (HJ.out.trans (Gr.joinF_bad (.inr (by rw [HSL.out]; exact c2))))
          go_wp2
          go_ret
          exact ⟨_, _, _, rfl, by rw [HR.out]; exact Ints.nil, HBr.out⟩
        · have d2 : decide (along ≥ (lx : Int)) = false := decide_eq_false c2
          have hal : along < (lx : Int) := by omega
          go_wp2
          have HM0 : Hid (Mine w.heap.size wr g og cg (Gr.midJ along s x 0)) := by rw [Gr.midJ_zero ha0]; exact HMr
          go_loopg [34] lx (fun gg i wv => ∃ k : Nat, k ≤ lx ∧ lx - k ≤ gg ∧ i = .int .i64 k ∧ Hid (Mine w.heap.size wv g og cg (Gr.midJ along s x k)) ∧ Hid (Below w.heap.size w wv) ∧
            Hid (∀ i, i < k → (i : Int) ≠ along → nth s i = nth x i))
          case atStart => exact ⟨0, Nat.zero_le _, by omega, rfl, HM0, HBr, fun i hi => absurd hi (Nat.not_lt_zero _)⟩
          case round =>
            rename World => wx
            obtain ⟨k, hk, hgk, rfl, HMk, HBk, HF⟩ := hrel
            by_cases hltk : k < lx
            · obtain ⟨bx, ox, rfl, _, hcx⟩ := (HX.out.below HBk.out).at_ (by omega)
              have hxk := hcx k hltk
              clear hcx
              have hks : k < s.length := by rw [HSL.out]; exact hltk
              obtain ⟨hx3, hx4⟩ := HXB.out (nth x k) (nth_mem x k (by rw [HXL.out]; exact hltk))
              obtain ⟨hs3, hs4⟩ := HSB.out (nth s k) (nth_mem s k hks)
              have hmk := HMk.out.cell k (by rw [Gr.midJ_length]; exact hks)
              have hfk := HMk.out.fr k (by rw [Gr.midJ_length]; exact hks)
              by_cases ck : (k : Int) = along
              · have dk : ((k : Int) == along) = true := by simp [ck]
                obtain ⟨e1, e2⟩ := Gr.midJ_eq ck s x
                have HM2 := HMk.out.set k (by rw [Gr.midJ_length]; exact hks) (nth s k + nth x k)
                rw [e1] at hmk HM2
                rw [← e2] at HM2
                have HM2 := Lib.hid HM2
                have HB2 := Lib.hid (below_setCell HBk.out g (og + k) (.int .i64 (nth s k + nth x k)) hlog)
                have HF2 : Hid (∀ i, i < k + 1 → (i : Int) ≠ along → nth s i = nth x i) := fun i hi hn => HF.out i (by omega) hn
                clear e1 e2 ck
                generalize nth s k = sv at *
                generalize nth x k = xv at *
                go_wp2
                go_roundg (lx - (k + 1))
                case measure => omega
                case rel => exact ⟨k + 1, by omega, by omega, by go_num, HM2, HB2, HF2⟩
              · have dk : ((k : Int) == along) = false := by simp [ck]
                rw [Gr.midJ_nth ha0 ck] at hmk
                by_cases cv : nth s k = nth x k
                · have ev : (nth s k != nth x k) = false := by simp [cv]
                  have HF2 : Hid (∀ i, i < k + 1 → (i : Int) ≠ along → nth s i = nth x i) := fun i hi hn => by
                    rcases Nat.lt_succ_iff_lt_or_eq.1 hi with h | h
                    · exact HF.out i h hn
                    · rw [h]; exact cv
                  have HM2 := HMk.out
                  rw [← Gr.midJ_ne ck] at HM2
                  have HM2 := Lib.hid HM2
                  clear cv
                  go_wp2
                  go_roundg (lx - (k + 1))
                  case measure => omega
                  case rel => exact ⟨k + 1, by omega, by omega, by go_num, HM2, HBk, HF2⟩
                · have ev : (nth s k != nth x k) = true := by simp [cv]
                  have HR := Lib.hid (HJ.out.trans (Gr.joinF_unfit hks ck cv))
                  clear cv
                  go_wp2
                  go_ret
                  exact ⟨_, _, _, rfl, by rw [HR.out]; exact Ints.nil, HBk.out⟩
            · obtain rfl : k = lx := by omega
              have HM2 := HMk.out
              rw [← HSL.out, Gr.midJ_end (by rw [HSL.out]; exact hal)] at HM2
              have HM2 := Lib.hid HM2
              have HJ2 := Lib.hid (HJ.out.trans (Gr.joinF_fit (by rw [HXL.out, HSL.out]) (by rw [HSL.out]; exact hal) (fun i hi hn => HF.out i (by rw [← HSL.out]; exact hi) hn)))
              have HB2 := Lib.hid (Gr.longer_bounds ha0 (by rw [HSL.out]; exact hal) (by rw [HXL.out, HSL.out]) HSB.out HXB.out)
              have HL2 : Hid ((Gr.longer along s x).length = k) := by show _ = _; rw [Gr.longer_length]; exact HSL.out
              go_wp2
              go_roundg (len - 1 - (j + 1))
              case measure => omega
              case rel => exact ⟨j + 1, Gr.longer along s x, by omega, by omega, by go_num, HL2, fun v hv => by have := HB2.out v hv; omega, HM2, HBk, HJ2⟩
      · have hne : ((lx : Int) != (l0 : Int)) = true := by simp; omega
        have HR := Lib.hid (HJ.out.trans (Gr.joinF_bad (.inl (by rw [HXL.out, HSL.out]; exact c1))))
        go_wp2
        go_ret
        exact ⟨_, _, _, rfl, by rw [HR.out]; exact Ints.nil, HBr.out⟩
    · have hj2 : L.length ≤ j + 1 := by rw [LL.out]; omega
      rw [List.drop_eq_nil_of_le hj2, Gr.joinF_nil] at HJ
      by_cases c2 : (l0 : Int) ≤ along
      · have d2 : decide (along ≥ (l0 : Int)) = true := decide_eq_true c2
        have HR := Lib.hid (HJ.out.trans (if_pos (by rw [HSL.out]; exact c2)))
        go_wp2
        go_ret
        exact ⟨_, _, _, rfl, by rw [HR.out]; exact Ints.nil, HBr.out⟩
      · have d2 : decide (along ≥ (l0 : Int)) = false := decide_eq_false c2
        have HR := Lib.hid (HJ.out.trans (if_neg (by rw [HSL.out]; exact c2)))
        have hI := HMr.out.ints (fun v hv => by have := HSB.out v hv; omega)
        rw [HSL.out] at hI
        have HI := Lib.hid hI
        clear hI
        go_wp2
        go_ret
        exact ⟨_, _, _, rfl, by rw [HR.out]; exact HI.out, HBr.out⟩
end Go.Proofs.YtekejcnphmnidaaGreatDoor
namespace Go.Proofs.YtekejcnphmnidaaGreatDoor
open Go.ChangeShapes Go.WideShapes Go.ChangeAt Go.RowKit
theorem own : ownKnob Tryz.prog.godebug = none := by kernel_rfl
theorem laidOut : laidOutB Tryz.prog = true := by kernel_rfl
theorem Tryz.cells3 : Tryz.prog.cellsOf 3 = 1 := by kernel_rfl
theorem Tryz.cells22 : Tryz.prog.cellsOf 22 = 1 := by kernel_rfl
theorem Tryz.bytes3 : Tryz.prog.bytesOf 3 = 8 := by kernel_rfl
section
variable {H : Type} {enc : TypeId × Value → H} {W : World}
theorem wf_bounds {n : Int} (h : (Lit.int .i64 n).wf = true) : -9223372036854775808 ≤ n ∧ n ≤ 9223372036854775807 := by
  have h1 : IntKind.i64.min = -9223372036854775808 := rfl
  have h2 : IntKind.i64.max = 9223372036854775807 := rfl
  simp only [Lit.wf, Bool.and_eq_true, decide_eq_true_eq] at h
  omega
theorem ints_of_trod {n : Nat} {cs : List Value} {y : DataW H × List MemPlace} (hf : DataW.trod enc Tryz.prog W 0 (fun _ => true) true n 22 cs = some y) (hlt : ∀ x ∈ y.2, x.block < W.heap.size)
    (hw : ∀ m ∈ y.1.weights Tryz.prog 22, m ≤ reachBytes) : ∃ a len cap l, cs = [.slice a len cap] ∧ Ints W a len cap l ∧ len ≤ 17592186044416 := by
  rcases open_ints Tryz.underlying22 Tryz.underlying3 Tryz.cells3 hf with ⟨rfl, rfl⟩ | ⟨a, len, cap, zs, rfl, _, hl, hm, hz, hx, hcell, hwz⟩
  · exact ⟨none, 0, 0, [], rfl, Ints.nil, by omega⟩
  · simp only [if_true] at hz
    have hlen : len * 8 ≤ 140737488351232 := by
      have := hw ((zs.take len).length * 8 + (zs.drop len).length * 8) (by
        rw [hx]; simp only [DataW.weights, Tryz.underlying22, Tryz.bytes3, List.mem_cons]; left; simp [lits, Nat.add_mul])
      simp only [List.length_take, List.length_drop, reachBytes] at this
      omega
    refine ⟨some a, len, cap, zs.take len, rfl, ⟨hl, by unfold maxLen at hm; omega, by rw [List.length_take]; omega, fun m hm => wf_bounds (hwz m (List.mem_of_mem_take hm)), fun h0 => ?_⟩, by omega⟩
    obtain ⟨b, off, spot⟩ := a
    have hspot : spot = none := by simpa [Addr.add] using World.cell?_spot (hcell 0 (by omega))
    subst hspot
    refine ⟨b, off, rfl, hlt (.cell b off) (by rw [hx]; exact MemPlace.mem_row.2 ⟨0, by omega, by simp⟩), fun i hi => ?_⟩
    have h1 := hcell i (by omega)
    rw [add_plain] at h1
    rw [h1]
    unfold nth
    simp only [List.getD_eq_getElem?_getD, List.getElem?_take, hi, if_true]
end
end Go.Proofs.YtekejcnphmnidaaGreatDoor
namespace Go.Proofs.YtekejcnphmnidaaGreatDoor
open Go.ChangeShapes Go.WideShapes Go.ChangeAt Go.RowKit
def nodeN (g : List Gr.Node) (i : Nat) : Gr.Node := g.getD i ⟨0, [], [], 0, 0⟩
theorem nodeN_eq (g : List Gr.Node) (i : Nat) (h : i < g.length) : nodeN g i = g[i] := by
  unfold nodeN; rw [List.getD_eq_getElem?_getD, List.getElem?_eq_getElem h]; rfl
theorem nodeN_take (g : List Gr.Node) (k i : Nat) (h : i < k) : nodeN (g.take k) i = nodeN g i := by
  unfold nodeN; simp only [List.getD_eq_getElem?_getD, List.getElem?_take, h, if_true]
structure NodeV (w : World) (ai : Option Addr) (li ci : Nat) (sa : Option Addr) (ls cs : Nat) (x : Gr.Node) : Prop where
  i : Ints w ai li ci x.inn
  s : Ints w sa ls cs x.shape
  li : li ≤ 17592186044416
  ls : ls ≤ 17592186044416
  kind : 0 ≤ x.kind ∧ x.kind ≤ 255
  n : -9223372036854775808 ≤ x.n ∧ x.n ≤ 9223372036854775807
  pad : -9223372036854775808 ≤ x.pad ∧ x.pad ≤ 9223372036854775807
theorem NodeV.below {w w' : World} {ai sa : Option Addr} {li ci ls cs : Nat} {x : Gr.Node} (h : NodeV w ai li ci sa ls cs x) (hb : Below w.heap.size w w') : NodeV w' ai li ci sa ls cs x :=
  ⟨h.i.below hb, h.s.below hb, h.li, h.ls, h.kind, h.n, h.pad⟩
def NodeAt (w w0 : World) (b o : Nat) (x : Gr.Node) : Prop :=
  ∃ ai li ci sa ls cs, w.cell? ⟨b, o, none⟩ = some (.int .u8 x.kind) ∧ w.cell? ⟨b, o + 1, none⟩ = some (.slice ai li ci) ∧ w.cell? ⟨b, o + 2, none⟩ = some (.slice sa ls cs) ∧
    w.cell? ⟨b, o + 3, none⟩ = some (.int .i64 x.n) ∧ w.cell? ⟨b, o + 4, none⟩ = some (.int .i64 x.pad) ∧ NodeV w0 ai li ci sa ls cs x
theorem NodeAt.below {w w' w0 w0' : World} {b o : Nat} {x : Gr.Node} (h : NodeAt w w0 b o x) (hlt : b < w.heap.size) (hb : Below w.heap.size w w') (hb0 : Below w0.heap.size w0 w0') : NodeAt w' w0' b o x := by
  obtain ⟨ai, li, ci, sa, ls, cs, h0, h1, h2, h3, h4, hv⟩ := h
  exact ⟨ai, li, ci, sa, ls, cs, (hb.cell (p := ⟨b, _, none⟩) hlt).trans h0, (hb.cell (p := ⟨b, _, none⟩) hlt).trans h1, (hb.cell (p := ⟨b, _, none⟩) hlt).trans h2,
    (hb.cell (p := ⟨b, _, none⟩) hlt).trans h3, (hb.cell (p := ⟨b, _, none⟩) hlt).trans h4, hv.below hb0⟩
structure NodesIn (w w0 : World) (a : Option Addr) (len cap : Nat) (g : List Gr.Node) : Prop where
  le : len ≤ cap
  cap_le : cap ≤ 9223372036854775807
  len_le : len ≤ 17592186044416
  length : g.length = len
  at_ : 0 < len → ∃ b off, a = some ⟨b, off, none⟩ ∧ b < w.heap.size ∧ ∀ i, i < len → NodeAt w w0 b (off + i * 5) (nodeN g i)
abbrev Nodes (w : World) (a : Option Addr) (len cap : Nat) (g : List Gr.Node) : Prop := NodesIn w w a len cap g
theorem NodesIn.nil {w w0 : World} : NodesIn w w0 none 0 0 [] := ⟨Nat.le_refl _, by omega, by omega, rfl, (fun h => absurd h (Nat.lt_irrefl 0))⟩
theorem NodesIn.below {w w' w0 w0' : World} {a : Option Addr} {len cap : Nat} {g : List Gr.Node} (h : NodesIn w w0 a len cap g) (hb : Below w.heap.size w w') (hb0 : Below w0.heap.size w0 w0') : NodesIn w' w0' a len cap g :=
  ⟨h.le, h.cap_le, h.len_le, h.length, fun h0 => by
    obtain ⟨b, off, rfl, hlt, hc⟩ := h.at_ h0
    exact ⟨b, off, rfl, Nat.lt_of_lt_of_le hlt hb.size, fun i hi => (hc i hi).below hlt hb hb0⟩⟩
theorem NodesIn.take {w w0 : World} {a : Option Addr} {len cap : Nat} {g : List Gr.Node} (h : NodesIn w w0 a len cap g) (k : Nat) (hk : k ≤ len) : NodesIn w w0 a k cap (g.take k) :=
  ⟨Nat.le_trans hk h.le, h.cap_le, by have := h.len_le; omega, by rw [List.length_take, h.length]; omega, fun h0 => by
    obtain ⟨b, off, e, hlt, hc⟩ := h.at_ (by omega)
    exact ⟨b, off, e, hlt, fun i hi => by rw [nodeN_take g k i hi]; exact hc i (by omega)⟩⟩
section
variable {H : Type} {enc : TypeId × Value → H} {W : World}
theorem weights_mem_all {P : Program} {e : TypeId} : ∀ (l : List (DataW H)) (d : DataW H), d ∈ l → ∀ m ∈ d.weights P e, m ∈ DataW.weightsAll P e l
  | x :: r, d, hd, m, hm => by
    simp only [DataW.weightsAll, List.mem_append]
    rcases List.mem_cons.1 hd with rfl | hd
    · exact .inl hm
    · exact .inr (weights_mem_all r d hd m hm)
theorem u8_bounds {n : Int} (h : (Lit.int .u8 n).wf = true) : 0 ≤ n ∧ n ≤ 255 := by
  have h1 : IntKind.u8.min = 0 := rfl
  have h2 : IntKind.u8.max = 255 := rfl
  simp only [Lit.wf, Bool.and_eq_true, decide_eq_true_eq] at h
  omega
theorem Tryz.cells103 : Tryz.prog.cellsOf 103 = 5 := by kernel_rfl
theorem Tryz.cells101 : Tryz.prog.cellsOf 101 = 1 := by kernel_rfl
theorem Tryz.cells54 : Tryz.prog.cellsOf 54 = 1 := by kernel_rfl
theorem Tryz.cells56 : Tryz.prog.cellsOf 56 = 1 := by kernel_rfl
theorem Tryz.bytes103 : Tryz.prog.bytesOf 103 = 72 := by kernel_rfl
set_option maxRecDepth 100000 in
theorem node_of_trod {n b o : Nat} {cs : List Value} {y : DataW H × List MemPlace} (hf : DataW.trod enc Tryz.prog W 0 (fun _ => true) true n 103 cs = some y) (hc : ∀ i, i < 5 → W.cell? ⟨b, o + i, none⟩ = cs[i]?)
    (hlt : ∀ x ∈ y.2, x.block < W.heap.size) (hw : ∀ m ∈ y.1.weights Tryz.prog 103, m ≤ reachBytes) : ∃ x, NodeAt W W b o x := by
  obtain ⟨xs, n, _, hx, hl, hlen, hfs⟩ := DataW.trod_struct Tryz.underlying103 hf
  rw [Tryz.cells103] at hl
  match cs, hl with
  | [c0, c1, c2, c3, c4], _ =>
  match xs, hlen with
  | [y0, y1, y2, y3, y4], _ =>
    subst hx
    have f0 : DataW.trod enc Tryz.prog W 0 (fun _ => true) true n 101 [c0] = some y0 := by simpa [Tryz.cells101, Tryz.cells22, Tryz.cells3] using hfs 0 _ rfl
    have f1 : DataW.trod enc Tryz.prog W 0 (fun _ => true) true n 22 [c1] = some y1 := by simpa [Tryz.cells101, Tryz.cells22, Tryz.cells3] using hfs 1 _ rfl
    have f2 : DataW.trod enc Tryz.prog W 0 (fun _ => true) true n 22 [c2] = some y2 := by simpa [Tryz.cells101, Tryz.cells22, Tryz.cells3] using hfs 2 _ rfl
    have f3 : DataW.trod enc Tryz.prog W 0 (fun _ => true) true n 3 [c3] = some y3 := by simpa [Tryz.cells101, Tryz.cells22, Tryz.cells3] using hfs 3 _ rfl
    have f4 : DataW.trod enc Tryz.prog W 0 (fun _ => true) true n 3 [c4] = some y4 := by simpa [Tryz.cells101, Tryz.cells22, Tryz.cells3] using hfs 4 _ rfl
    simp only [List.flatMap_cons, List.flatMap_nil, List.append_nil, List.mem_append] at hlt
    simp only [DataW.weights, Tryz.underlying103, DataW.weightsEach, List.map_cons, List.map_nil, List.mem_append] at hw
    obtain ⟨kd, e0, _, w0⟩ := DataW.trod_int Tryz.underlying101 f0
    obtain ⟨ai, li, ci, inn, e1, i1, r1⟩ := ints_of_trod f1 (fun x hx => hlt x (by simp [hx])) (fun m hm => hw m (by simp [hm]))
    obtain ⟨sa, ls, cs, shp, e2, i2, r2⟩ := ints_of_trod f2 (fun x hx => hlt x (by simp [hx])) (fun m hm => hw m (by simp [hm]))
    obtain ⟨nn, e3, _, w3⟩ := DataW.trod_int Tryz.underlying3 f3
    obtain ⟨pad, e4, _, w4⟩ := DataW.trod_int Tryz.underlying3 f4
    simp only [List.cons.injEq, and_true] at e0 e1 e2 e3 e4
    subst e0; subst e1; subst e2; subst e3; subst e4
    exact ⟨⟨kd, inn, shp, nn, pad⟩, ai, li, ci, sa, ls, cs, hc 0 (by omega), hc 1 (by omega), hc 2 (by omega), hc 3 (by omega), hc 4 (by omega), i1, i2, r1, r2, u8_bounds w0, wf_bounds w3, wf_bounds w4⟩
theorem nodes_of_trod {n : Nat} {cs : List Value} {y : DataW H × List MemPlace} (hf : DataW.trod enc Tryz.prog W 0 (fun _ => true) true n 54 cs = some y) (hlt : ∀ x ∈ y.2, x.block < W.heap.size)
    (hw : ∀ m ∈ y.1.weights Tryz.prog 54, m ≤ reachBytes) : ∃ a len cap g, cs = [.slice a len cap] ∧ Nodes W a len cap g := by
  rcases Go.Deep.open_slice Tryz.underlying54 hf with ⟨rfl, rfl⟩ | ⟨a, len, cap, m, n, D, Pl, rfl, _, hl, hm, hmm, rfl, hx⟩
  · exact ⟨none, 0, 0, [], rfl, NodesIn.nil⟩
  · simp only [if_true] at hmm
    subst hmm
    have hlen : m * 72 ≤ 140737488351232 := by
      have := hw ((((List.range len).map D).length + ((List.range (m - len)).map fun j => D (len + j)).length) * 72) (by
        simp only [DataW.weights, Tryz.underlying54, Tryz.bytes103, List.mem_cons, true_or])
      simp only [List.length_map, List.length_range, reachBytes] at this
      omega
    rw [Tryz.cells103] at hx
    obtain ⟨b, off, spot⟩ := a
    by_cases h0 : 0 < len
    · have hspot : spot = none := by
        obtain ⟨cs', h1, h2⟩ := hx 0 (by omega)
        obtain ⟨_, hl5, hc5⟩ := World.cells?_some h1
        have h3 := hc5 0 (by omega)
        rw [List.getElem?_eq_getElem (by omega)] at h3
        simpa [Addr.add] using World.cell?_spot h3
      subst hspot
      have hnode : ∀ i, i < len → ∃ x, NodeAt W W b (off + i * 5) x := by
        intro i hi
        obtain ⟨cs', h1, h2⟩ := hx i (by omega)
        obtain ⟨_, hl5, hc5⟩ := World.cells?_some h1
        refine node_of_trod h2 (fun k hk => ?_) (fun x hx' => hlt x ?_) (fun m' hm' => hw m' ?_)
        · have h4 := hc5 k hk
          rw [Addr.add_lit, Addr.add_lit] at h4
          exact h4
        · simp only [List.mem_append, List.mem_flatMap]
          exact .inr ⟨i, by simp; omega, hx'⟩
        · simp only [DataW.weights, Tryz.underlying54, List.mem_cons, List.mem_append]
          exact .inr (.inl (weights_mem_all _ (D i) (by simp only [List.mem_map, List.mem_range]; exact ⟨i, hi, rfl⟩) m' hm'))
      haveI : Inhabited Gr.Node := ⟨⟨0, [], [], 0, 0⟩⟩
      obtain ⟨X, hX⟩ := Go.Deep.choose_lt hnode
      refine ⟨some ⟨b, off, none⟩, len, m, (List.range len).map X, rfl, ⟨hl, by unfold maxLen at hm; omega, by omega, by simp, fun _ => ⟨b, off, rfl, ?_, fun i hi => ?_⟩⟩⟩
      · exact hlt (.cell b off) (by simp only [List.mem_append, Tryz.cells103]; left; exact MemPlace.mem_row.2 ⟨0, by omega, by simp⟩)
      · rw [show nodeN ((List.range len).map X) i = X i by rw [nodeN_eq _ _ (by simpa using hi)]; simp]
        exact hX i hi
    · have : len = 0 := by omega
      subst this
      exact ⟨some ⟨b, off, spot⟩, 0, m, [], rfl, ⟨hl, by unfold maxLen at hm; omega, by omega, rfl, fun h => absurd h (by omega)⟩⟩
theorem array1 {α : Type} {cs : Array α} (h : cs.size = 1) : ∃ c0, cs = #[c0] := by
  obtain ⟨l⟩ := cs
  match l, h with
  | [c0], _ => exact ⟨c0, rfl⟩
set_option maxRecDepth 100000 in
theorem graph_open {base : Nat} {v : Value} {d : DataW H} {p : List MemPlace} (hv : Value.okWide Tryz.prog W .any base 56 v) (h : DataW.Trod enc Tryz.prog W 0 (fun _ => true) true 56 v d p)
    (hlt : ∀ x ∈ p, x.block < W.heap.size) (hw : ∀ m ∈ d.weights Tryz.prog 56, m ≤ reachBytes) : ∃ a len cap g, v = .agg #[.slice a len cap] ∧ Nodes W a len cap g := by
  obtain ⟨cs, rfl, hsz⟩ := okWide_struct Tryz.underlying56 hv
  obtain ⟨c0, rfl⟩ := array1 (hsz.trans Tryz.cells56)
  obtain ⟨fuel, hf⟩ := h
  obtain ⟨xs, n, _, hx, hl, hlen, hfs⟩ := DataW.trod_struct Tryz.underlying56 hf
  match xs, hlen with
  | [y0], _ =>
    simp only [Prod.mk.injEq] at hx
    obtain ⟨rfl, rfl⟩ := hx
    have f0 : DataW.trod enc Tryz.prog W 0 (fun _ => true) true n 54 [c0] = some y0 := by simpa [Value.cells, Tryz.cells54] using hfs 0 _ rfl
    simp only [List.flatMap_cons, List.flatMap_nil, List.append_nil] at hlt
    simp only [DataW.weights, Tryz.underlying56, DataW.weightsEach, List.map_cons, List.map_nil, List.append_nil] at hw
    obtain ⟨a, len, cap, g, e, N⟩ := nodes_of_trod f0 hlt hw
    simp only [List.cons.injEq, and_true] at e
    subst e
    exact ⟨a, len, cap, g, rfl, N⟩
end
end Go.Proofs.YtekejcnphmnidaaGreatDoor
namespace Go.Proofs.YtekejcnphmnidaaGreatDoor
theorem head_words {s : String} {l : List Char} (h : s = String.ofList l) (hf : ((behindMainWord (wordsSigns l)).head? == some "cut".toList) = true) :
    ((behindMainWord (wordsSigns s.toList)).head? == some "cut".toList) = true := by
  subst h; rw [String.toList_ofList]; exact hf
set_option maxRecDepth 100000 in
theorem head_cut : ((behindMainWord (wordsSigns Tryz.prog.initOrder.toList)).head? == some "cut".toList) = true := head_words (s := Tryz.prog.initOrder) rfl (by kernel_rfl)
theorem head_form : ∃ r, behindMainWord (wordsSigns Tryz.prog.initOrder.toList) = "cut".toList :: r := by
  have h := head_cut
  cases hw : behindMainWord (wordsSigns Tryz.prog.initOrder.toList) with
  | nil => rw [hw] at h; simp at h
  | cons c r =>
    rw [hw] at h
    simp only [List.head?_cons, beq_iff_eq, Option.some.injEq] at h
    exact ⟨r, by rw [h]⟩
theorem strip_cut (r : List (List Char)) : stripLifts liftWords ("cut".toList :: r) = ([], "cut".toList :: r) := by
  unfold liftWords
  simp [stripLifts]
theorem lifts_of_head {P : Program} {r : List (List Char)} (hr : behindMainWord (wordsSigns P.initOrder.toList) = "cut".toList :: r) : P.headLifts = [] := by
  unfold Program.headLifts
  rw [hr, strip_cut]; simp
theorem make_of_head {P : Program} {r : List (List Char)} (hr : behindMainWord (wordsSigns P.initOrder.toList) = "cut".toList :: r) : P.make = some .cut := by
  unfold Program.make
  rw [hr]; simp
theorem final_of_head {P : Program} {r : List (List Char)} (hr : behindMainWord (wordsSigns P.initOrder.toList) = "cut".toList :: r) : P.liftsFinal = false := by
  have h := lifts_of_head hr
  unfold Program.liftsFinal
  rw [hr, h]; simp
theorem enter_of_head {P : Program} {r : List (List Char)} (hr : behindMainWord (wordsSigns P.initOrder.toList) = "cut".toList :: r) (h1 : P.laysLater = false) (h2 : P.bearsReflect = false) (h3 : P.doorFits [] = true) : P.mayEnter = true := by
  unfold Program.mayEnter
  rw [hr]
  simp only [strip_cut, h1, h2, h3]
  simp
theorem closed_make : Tryz.prog.make = some .cut := by
  obtain ⟨r, hr⟩ := head_form
  exact make_of_head hr
theorem closed_lifts : Tryz.prog.liftsFinal = false := by
  obtain ⟨r, hr⟩ := head_form
  exact final_of_head hr
theorem closed_later : Tryz.prog.laysLater = false := by kernel_rfl
theorem closed_reflect : Tryz.prog.bearsReflect = false := by kernel_rfl
theorem closed_door : Tryz.prog.doorFits [] = true := by kernel_rfl
theorem closed_enter : Tryz.prog.mayEnter = true := by
  obtain ⟨r, hr⟩ := head_form
  exact enter_of_head hr closed_later closed_reflect closed_door
end Go.Proofs.YtekejcnphmnidaaGreatDoor
