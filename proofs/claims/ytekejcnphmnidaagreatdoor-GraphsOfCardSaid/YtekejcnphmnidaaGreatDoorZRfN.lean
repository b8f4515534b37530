import Derived.Test.YtekejcnphmnidaaGreatDoorZRfB
import Derived.OwnWalk
namespace Go.Proofs.YtekejcnphmnidaaGreatDoor
open Go.RowKit
namespace Gr
def nodeB (x : Node) : Bool := match kindOf x.kind with
  | none => false
  | some k => ofB k x
theorem ofB_no_in {k : Kind} {x : Node} (h : ¬ (k.least ≤ (x.inn.length : Int) ∧ (x.inn.length : Int) ≤ k.most)) : ofB k x = false := by
  unfold ofB; rw [if_pos (by omega)]
theorem ofB_no_n {k : Kind} {x : Node} (h : ¬ (k.low ≤ x.n ∧ x.n ≤ k.high)) : ofB k x = false := by
  unfold ofB; rw [if_pos (by omega)]
theorem ofB_no_pad {k : Kind} {x : Node} (h : ¬ (0 ≤ x.pad ∧ x.pad ≤ k.around)) : ofB k x = false := by
  unfold ofB; rw [if_pos (by omega)]
theorem ofB_no_shape {k : Kind} {x : Node} (h : (if k.shaped = 0 then decide ((x.shape.length : Int) = 0) else if k.shaped = 1 then chk x.shape else order x.shape) = false) : ofB k x = false := by
  unfold ofB; split
  · rfl
  · exact h
theorem ofB_yes {k : Kind} {x : Node} (h1 : k.least ≤ (x.inn.length : Int) ∧ (x.inn.length : Int) ≤ k.most) (h2 : k.low ≤ x.n ∧ x.n ≤ k.high) (h3 : 0 ≤ x.pad ∧ x.pad ≤ k.around)
    (h : (if k.shaped = 0 then decide ((x.shape.length : Int) = 0) else if k.shaped = 1 then chk x.shape else order x.shape) = true) : ofB k x = true := by
  unfold ofB; rw [if_neg (by omega)]; exact h
end Gr
theorem rtakes_1 (w : World) : Calls Tryz.prog 205 #[.int .u8 1] w fun e w' => e = .returned (.tuple #[.int .i64 0, .int .i64 0, .bool true]) ∧ w = w' := by
  go_enter Tryz.func205, Tryz.ntmps205
  go_wp2
  go_ret3
  exact ⟨rfl, rfl⟩
theorem rtakes_2 (w : World) : Calls Tryz.prog 205 #[.int .u8 2] w fun e w' => e = .returned (.tuple #[.int .i64 0, .int .i64 0, .bool true]) ∧ w = w' := by
  go_enter Tryz.func205, Tryz.ntmps205
  go_wp2
  go_ret3
  exact ⟨rfl, rfl⟩
theorem rtakes_3 (w : World) : Calls Tryz.prog 205 #[.int .u8 3] w fun e w' => e = .returned (.tuple #[.int .i64 2, .int .i64 2, .bool true]) ∧ w = w' := by
  go_enter Tryz.func205, Tryz.ntmps205
  go_wp2
  go_ret3
  exact ⟨rfl, rfl⟩
theorem rtakes_4 (w : World) : Calls Tryz.prog 205 #[.int .u8 4] w fun e w' => e = .returned (.tuple #[.int .i64 2, .int .i64 2, .bool true]) ∧ w = w' := by
  go_enter Tryz.func205, Tryz.ntmps205
  go_wp2
  go_ret3
  exact ⟨rfl, rfl⟩
theorem rtakes_5 (w : World) : Calls Tryz.prog 205 #[.int .u8 5] w fun e w' => e = .returned (.tuple #[.int .i64 1, .int .i64 1, .bool true]) ∧ w = w' := by
  go_enter Tryz.func205, Tryz.ntmps205
  go_wp2
  go_ret3
  exact ⟨rfl, rfl⟩
theorem rtakes_6 (w : World) : Calls Tryz.prog 205 #[.int .u8 6] w fun e w' => e = .returned (.tuple #[.int .i64 1, .int .i64 1, .bool true]) ∧ w = w' := by
  go_enter Tryz.func205, Tryz.ntmps205
  go_wp2
  go_ret3
  exact ⟨rfl, rfl⟩
theorem rtakes_7 (w : World) : Calls Tryz.prog 205 #[.int .u8 7] w fun e w' => e = .returned (.tuple #[.int .i64 2, .int .i64 2, .bool true]) ∧ w = w' := by
  go_enter Tryz.func205, Tryz.ntmps205
  go_wp2
  go_ret3
  exact ⟨rfl, rfl⟩
theorem rtakes_8 (w : World) : Calls Tryz.prog 205 #[.int .u8 8] w fun e w' => e = .returned (.tuple #[.int .i64 2, .int .i64 2, .bool true]) ∧ w = w' := by
  go_enter Tryz.func205, Tryz.ntmps205
  go_wp2
  go_ret3
  exact ⟨rfl, rfl⟩
theorem rtakes_9 (w : World) : Calls Tryz.prog 205 #[.int .u8 9] w fun e w' => e = .returned (.tuple #[.int .i64 1, .int .i64 1, .bool true]) ∧ w = w' := by
  go_enter Tryz.func205, Tryz.ntmps205
  go_wp2
  go_ret3
  exact ⟨rfl, rfl⟩
theorem rtakes_10 (w : World) : Calls Tryz.prog 205 #[.int .u8 10] w fun e w' => e = .returned (.tuple #[.int .i64 1, .int .i64 1, .bool true]) ∧ w = w' := by
  go_enter Tryz.func205, Tryz.ntmps205
  go_wp2
  go_ret3
  exact ⟨rfl, rfl⟩
theorem rtakes_11 (w : World) : Calls Tryz.prog 205 #[.int .u8 11] w fun e w' => e = .returned (.tuple #[.int .i64 1, .int .i64 1, .bool true]) ∧ w = w' := by
  go_enter Tryz.func205, Tryz.ntmps205
  go_wp2
  go_ret3
  exact ⟨rfl, rfl⟩
theorem rtakes_12 (w : World) : Calls Tryz.prog 205 #[.int .u8 12] w fun e w' => e = .returned (.tuple #[.int .i64 1, .int .i64 4, .bool true]) ∧ w = w' := by
  go_enter Tryz.func205, Tryz.ntmps205
  go_wp2
  go_ret3
  exact ⟨rfl, rfl⟩
theorem rtakes_13 (w : World) : Calls Tryz.prog 205 #[.int .u8 13] w fun e w' => e = .returned (.tuple #[.int .i64 1, .int .i64 1, .bool true]) ∧ w = w' := by
  go_enter Tryz.func205, Tryz.ntmps205
  go_wp2
  go_ret3
  exact ⟨rfl, rfl⟩
theorem rtakes_none (k : Int) (hk : Gr.kindOf k = none) (w : World) : Calls Tryz.prog 205 #[.int .u8 k] w fun e w' => e = .returned (.tuple #[.int .i64 0, .int .i64 0, .bool false]) ∧ w = w' := by
  have h : ∀ c : Int, (Gr.kindOf c).isSome = true → (k == c) = false := fun c hc => by
    have : k ≠ c := fun e => by rw [← e, hk] at hc; cases hc
    simp [this]
  have n1 := h 1 (by decide)
  have n2 := h 2 (by decide)
  have n3 := h 3 (by decide)
  have n4 := h 4 (by decide)
  have n5 := h 5 (by decide)
  have n6 := h 6 (by decide)
  have n7 := h 7 (by decide)
  have n8 := h 8 (by decide)
  have n9 := h 9 (by decide)
  have n10 := h 10 (by decide)
  have n11 := h 11 (by decide)
  have n12 := h 12 (by decide)
  have n13 := h 13 (by decide)
  clear h hk
  go_enter Tryz.func205, Tryz.ntmps205
  go_wp2
  go_ret3
  exact ⟨rfl, rfl⟩
set_option maxHeartbeats 2000000 in
theorem rnode_1 (n pad : Int) (ai sa : Option Addr) (li ci ls cs : Nat) (inn shp : List Int) (w : World) (HI : Ints w ai li ci inn) (HS : Ints w sa ls cs shp) :
    Calls Tryz.prog 185 #[.agg #[.int .u8 1, .slice ai li ci, .slice sa ls cs, .int .i64 n, .int .i64 pad]] w fun e w' => e = .returned (.bool (Gr.ofB (⟨0, 0, 0, 0, 0, 1⟩ : Gr.Kind) (⟨1, inn, shp, n, pad⟩ : Gr.Node))) ∧ Below w.heap.size w w' := by
  have hle := HI.le
  have hcap := HI.cap_le
  have hls := HS.le
  have hcs := HS.cap_le
  have LI := HI.length
  have LS := HS.length
  have KS := Lib.hid HS
  have hB : Hid (∀ o1, Below w.heap.size w (w.alloc o1)) := fun o1 => (Below.refl _ _).alloc (Nat.le_refl _) _
  have NIN : Hid (¬ ((0 : Int) ≤ (li : Int) ∧ (li : Int) ≤ 0) → Gr.ofB (⟨0, 0, 0, 0, 0, 1⟩ : Gr.Kind) (⟨1, inn, shp, n, pad⟩ : Gr.Node) = false) := fun h => Gr.ofB_no_in (by dsimp only; rw [LI]; exact h)
  have NN : Hid (¬ ((0 : Int) ≤ n ∧ n ≤ 0) → Gr.ofB (⟨0, 0, 0, 0, 0, 1⟩ : Gr.Kind) (⟨1, inn, shp, n, pad⟩ : Gr.Node) = false) := fun h => Gr.ofB_no_n h
  have NP : Hid (¬ ((0 : Int) ≤ pad ∧ pad ≤ 0) → Gr.ofB (⟨0, 0, 0, 0, 0, 1⟩ : Gr.Kind) (⟨1, inn, shp, n, pad⟩ : Gr.Node) = false) := fun h => Gr.ofB_no_pad h
  have NS : Hid (Gr.chk shp = false → Gr.ofB (⟨0, 0, 0, 0, 0, 1⟩ : Gr.Kind) (⟨1, inn, shp, n, pad⟩ : Gr.Node) = false) := fun h => Gr.ofB_no_shape (by dsimp only; rw [if_neg (by decide), if_pos rfl]; exact h)
  have YS : Hid ((0 : Int) ≤ (li : Int) ∧ (li : Int) ≤ 0 → (0 : Int) ≤ n ∧ n ≤ 0 → (0 : Int) ≤ pad ∧ pad ≤ 0 → Gr.chk shp = true → Gr.ofB (⟨0, 0, 0, 0, 0, 1⟩ : Gr.Kind) (⟨1, inn, shp, n, pad⟩ : Gr.Node) = true) := fun h1 h2 h3 h => Gr.ofB_yes (by dsimp only; rw [LI]; exact h1) h2 h3 (by dsimp only; rw [if_neg (by decide), if_pos rfl]; exact h)
  clear HI HS LI LS
  go_enter Tryz.func185, Tryz.ntmps185
  go_wp2_with fail
  refine (rtakes_1 _).mono ?_
  rintro e w1 ⟨rfl, rfl⟩
  go_wp2_with fail
  refine (rwithin_any _ _ _ _).mono ?_
  rintro e w1 ⟨rfl, rfl⟩
  by_cases c1 : (0 : Int) ≤ (li : Int) ∧ (li : Int) ≤ 0
  rotate_left
  · have HR := Lib.hid (NIN.out c1)
    have e1 : (decide ((0 : Int) ≤ (li : Int)) && decide ((li : Int) ≤ 0)) = false := by rw [Bool.and_eq_false_iff, decide_eq_false_iff_not, decide_eq_false_iff_not]; omega
    rw [e1]
    clear e1 c1
    go_wp2
    go_ret
    exact ⟨by rw [HR.out]; rfl, hB.out _⟩
  have e1 : (decide ((0 : Int) ≤ (li : Int)) && decide ((li : Int) ≤ 0)) = true := by rw [Bool.and_eq_true, decide_eq_true_eq, decide_eq_true_eq]; omega
  rw [e1]
  clear e1
  go_wp2_with fail
  refine (rcheck_any _ _ _ shp _ (KS.out.alloc _)).mono ?_
  rintro e w1 ⟨rfl, rfl⟩
  cases hc : Gr.chk shp with
  | false =>
    have HR := Lib.hid (NS.out hc)
    clear hc c1
    go_wp2
    go_ret
    exact ⟨by rw [HR.out]; rfl, hB.out _⟩
  | true =>
    by_cases c4 : n = 0
    rotate_left
    · have d4 : (n == 0) = false := by simp [c4]
      have HR := Lib.hid (NN.out (by omega))
      clear c4 c1
      go_wp2
      go_ret
      exact ⟨by rw [HR.out]; rfl, hB.out _⟩
    have d4 : (n == 0) = true := by simp [c4]
    by_cases c5 : pad = 0
    rotate_left
    · have d5 : (pad == 0) = false := by simp [c5]
      have HR := Lib.hid (NP.out (by omega))
      clear c4 c5 c1 hc
      go_wp2
      go_ret
      exact ⟨by rw [HR.out]; rfl, hB.out _⟩
    have d5 : (pad == 0) = true := by simp [c5]
    have HR := Lib.hid (YS.out c1 (by omega) (by omega) hc)
    clear c4 c5 c1 hc
    go_wp2
    go_ret
    exact ⟨by rw [HR.out]; rfl, hB.out _⟩
set_option maxHeartbeats 2000000 in
theorem rnode_2 (n pad : Int) (ai sa : Option Addr) (li ci ls cs : Nat) (inn shp : List Int) (w : World) (HI : Ints w ai li ci inn) (HS : Ints w sa ls cs shp) :
    Calls Tryz.prog 185 #[.agg #[.int .u8 2, .slice ai li ci, .slice sa ls cs, .int .i64 n, .int .i64 pad]] w fun e w' => e = .returned (.bool (Gr.ofB (⟨0, 0, 0, 0, 0, 1⟩ : Gr.Kind) (⟨2, inn, shp, n, pad⟩ : Gr.Node))) ∧ Below w.heap.size w w' := by
  have hle := HI.le
  have hcap := HI.cap_le
  have hls := HS.le
  have hcs := HS.cap_le
  have LI := HI.length
  have LS := HS.length
  have KS := Lib.hid HS
  have hB : Hid (∀ o1, Below w.heap.size w (w.alloc o1)) := fun o1 => (Below.refl _ _).alloc (Nat.le_refl _) _
  have NIN : Hid (¬ ((0 : Int) ≤ (li : Int) ∧ (li : Int) ≤ 0) → Gr.ofB (⟨0, 0, 0, 0, 0, 1⟩ : Gr.Kind) (⟨2, inn, shp, n, pad⟩ : Gr.Node) = false) := fun h => Gr.ofB_no_in (by dsimp only; rw [LI]; exact h)
  have NN : Hid (¬ ((0 : Int) ≤ n ∧ n ≤ 0) → Gr.ofB (⟨0, 0, 0, 0, 0, 1⟩ : Gr.Kind) (⟨2, inn, shp, n, pad⟩ : Gr.Node) = false) := fun h => Gr.ofB_no_n h
  have NP : Hid (¬ ((0 : Int) ≤ pad ∧ pad ≤ 0) → Gr.ofB (⟨0, 0, 0, 0, 0, 1⟩ : Gr.Kind) (⟨2, inn, shp, n, pad⟩ : Gr.Node) = false) := fun h => Gr.ofB_no_pad h
  have NS : Hid (Gr.chk shp = false → Gr.ofB (⟨0, 0, 0, 0, 0, 1⟩ : Gr.Kind) (⟨2, inn, shp, n, pad⟩ : Gr.Node) = false) := fun h => Gr.ofB_no_shape (by dsimp only; rw [if_neg (by decide), if_pos rfl]; exact h)
  have YS : Hid ((0 : Int) ≤ (li : Int) ∧ (li : Int) ≤ 0 → (0 : Int) ≤ n ∧ n ≤ 0 → (0 : Int) ≤ pad ∧ pad ≤ 0 → Gr.chk shp = true → Gr.ofB (⟨0, 0, 0, 0, 0, 1⟩ : Gr.Kind) (⟨2, inn, shp, n, pad⟩ : Gr.Node) = true) := fun h1 h2 h3 h => Gr.ofB_yes (by dsimp only; rw [LI]; exact h1) h2 h3 (by dsimp only; rw [if_neg (by decide), if_pos rfl]; exact h)
  clear HI HS LI LS
  go_enter Tryz.func185, Tryz.ntmps185
  go_wp2_with fail
  refine (rtakes_2 _).mono ?_
  rintro e w1 ⟨rfl, rfl⟩
  go_wp2_with fail
  refine (rwithin_any _ _ _ _).mono ?_
  rintro e w1 ⟨rfl, rfl⟩
  by_cases c1 : (0 : Int) ≤ (li : Int) ∧ (li : Int) ≤ 0
  rotate_left
  · have HR := Lib.hid (NIN.out c1)
    have e1 : (decide ((0 : Int) ≤ (li : Int)) && decide ((li : Int) ≤ 0)) = false := by rw [Bool.and_eq_false_iff, decide_eq_false_iff_not, decide_eq_false_iff_not]; omega
    rw [e1]
    clear e1 c1
    go_wp2
    go_ret
    exact ⟨by rw [HR.out]; rfl, hB.out _⟩
  have e1 : (decide ((0 : Int) ≤ (li : Int)) && decide ((li : Int) ≤ 0)) = true := by rw [Bool.and_eq_true, decide_eq_true_eq, decide_eq_true_eq]; omega
  rw [e1]
  clear e1
  go_wp2_with fail
  refine (rcheck_any _ _ _ shp _ (KS.out.alloc _)).mono ?_
  rintro e w1 ⟨rfl, rfl⟩
  cases hc : Gr.chk shp with
  | false =>
    have HR := Lib.hid (NS.out hc)
    clear hc c1
    go_wp2
    go_ret
    exact ⟨by rw [HR.out]; rfl, hB.out _⟩
  | true =>
    by_cases c4 : n = 0
    rotate_left
    · have d4 : (n == 0) = false := by simp [c4]
      have HR := Lib.hid (NN.out (by omega))
      clear c4 c1
      go_wp2
      go_ret
      exact ⟨by rw [HR.out]; rfl, hB.out _⟩
    have d4 : (n == 0) = true := by simp [c4]
    by_cases c5 : pad = 0
    rotate_left
    · have d5 : (pad == 0) = false := by simp [c5]
      have HR := Lib.hid (NP.out (by omega))
      clear c4 c5 c1 hc
      go_wp2
      go_ret
      exact ⟨by rw [HR.out]; rfl, hB.out _⟩
    have d5 : (pad == 0) = true := by simp [c5]
    have HR := Lib.hid (YS.out c1 (by omega) (by omega) hc)
    clear c4 c5 c1 hc
    go_wp2
    go_ret
    exact ⟨by rw [HR.out]; rfl, hB.out _⟩
set_option maxHeartbeats 2000000 in
theorem rnode_3 (n pad : Int) (ai sa : Option Addr) (li ci ls cs : Nat) (inn shp : List Int) (w : World) (HI : Ints w ai li ci inn) (HS : Ints w sa ls cs shp) :
    Calls Tryz.prog 185 #[.agg #[.int .u8 3, .slice ai li ci, .slice sa ls cs, .int .i64 n, .int .i64 pad]] w fun e w' => e = .returned (.bool (Gr.ofB (⟨2, 2, 0, 0, 0, 0⟩ : Gr.Kind) (⟨3, inn, shp, n, pad⟩ : Gr.Node))) ∧ Below w.heap.size w w' := by
  have hle := HI.le
  have hcap := HI.cap_le
  have hls := HS.le
  have hcs := HS.cap_le
  have LI := HI.length
  have LS := HS.length
  have KS := Lib.hid HS
  have hB : Hid (∀ o1, Below w.heap.size w (w.alloc o1)) := fun o1 => (Below.refl _ _).alloc (Nat.le_refl _) _
  have NIN : Hid (¬ ((2 : Int) ≤ (li : Int) ∧ (li : Int) ≤ 2) → Gr.ofB (⟨2, 2, 0, 0, 0, 0⟩ : Gr.Kind) (⟨3, inn, shp, n, pad⟩ : Gr.Node) = false) := fun h => Gr.ofB_no_in (by dsimp only; rw [LI]; exact h)
  have NN : Hid (¬ ((0 : Int) ≤ n ∧ n ≤ 0) → Gr.ofB (⟨2, 2, 0, 0, 0, 0⟩ : Gr.Kind) (⟨3, inn, shp, n, pad⟩ : Gr.Node) = false) := fun h => Gr.ofB_no_n h
  have NP : Hid (¬ ((0 : Int) ≤ pad ∧ pad ≤ 0) → Gr.ofB (⟨2, 2, 0, 0, 0, 0⟩ : Gr.Kind) (⟨3, inn, shp, n, pad⟩ : Gr.Node) = false) := fun h => Gr.ofB_no_pad h
  have NS : Hid (decide ((ls : Int) = 0) = false → Gr.ofB (⟨2, 2, 0, 0, 0, 0⟩ : Gr.Kind) (⟨3, inn, shp, n, pad⟩ : Gr.Node) = false) := fun h => Gr.ofB_no_shape (by dsimp only; rw [if_pos rfl]; rw [LS]; exact h)
  have YS : Hid ((2 : Int) ≤ (li : Int) ∧ (li : Int) ≤ 2 → (0 : Int) ≤ n ∧ n ≤ 0 → (0 : Int) ≤ pad ∧ pad ≤ 0 → decide ((ls : Int) = 0) = true → Gr.ofB (⟨2, 2, 0, 0, 0, 0⟩ : Gr.Kind) (⟨3, inn, shp, n, pad⟩ : Gr.Node) = true) := fun h1 h2 h3 h => Gr.ofB_yes (by dsimp only; rw [LI]; exact h1) h2 h3 (by dsimp only; rw [if_pos rfl]; rw [LS]; exact h)
  clear HI HS LI LS
  go_enter Tryz.func185, Tryz.ntmps185
  go_wp2_with fail
  refine (rtakes_3 _).mono ?_
  rintro e w1 ⟨rfl, rfl⟩
  go_wp2_with fail
  refine (rwithin_any _ _ _ _).mono ?_
  rintro e w1 ⟨rfl, rfl⟩
  by_cases c1 : (2 : Int) ≤ (li : Int) ∧ (li : Int) ≤ 2
  rotate_left
  · have HR := Lib.hid (NIN.out c1)
    have e1 : (decide ((2 : Int) ≤ (li : Int)) && decide ((li : Int) ≤ 2)) = false := by rw [Bool.and_eq_false_iff, decide_eq_false_iff_not, decide_eq_false_iff_not]; omega
    rw [e1]
    clear e1 c1
    go_wp2
    go_ret
    exact ⟨by rw [HR.out]; rfl, hB.out _⟩
  have e1 : (decide ((2 : Int) ≤ (li : Int)) && decide ((li : Int) ≤ 2)) = true := by rw [Bool.and_eq_true, decide_eq_true_eq, decide_eq_true_eq]; omega
  rw [e1]
  clear e1
  by_cases c3 : 0 < ls
  · have d3 : decide ((ls : Int) > 0) = true := decide_eq_true (by omega)
    have HR := Lib.hid (NS.out (decide_eq_false (by omega)))
    have c3n : ls ≠ 0 := by omega
    clear c3 c1
    go_wp2
    go_ret
    exact ⟨by rw [HR.out]; rfl, hB.out _⟩
  have d3 : decide ((ls : Int) > 0) = false := decide_eq_false (by omega)
  have h3 : decide ((ls : Int) = 0) = true := decide_eq_true (by omega)
  obtain rfl : ls = 0 := by omega
  by_cases c5 : pad = 0
  rotate_left
  · have d5 : (pad != 0) = true := by simp [c5]
    have HR := Lib.hid (NP.out (by omega))
    clear c3 c5 c1 h3
    go_wp2
    go_ret
    exact ⟨by rw [HR.out]; rfl, hB.out _⟩
  have d5 : (pad != 0) = false := by simp [c5]
  by_cases c4 : n = 0
  rotate_left
  · have d4 : (n == 0) = false := by simp [c4]
    have HR := Lib.hid (NN.out (by omega))
    clear c4 c1
    go_wp2
    go_ret
    exact ⟨by rw [HR.out]; rfl, hB.out _⟩
  have d4 : (n == 0) = true := by simp [c4]
  have HR := Lib.hid (YS.out c1 (by omega) (by omega) h3)
  clear c3 c4 c5 c1 h3
  go_wp2
  go_ret
  exact ⟨by rw [HR.out]; rfl, hB.out _⟩
set_option maxHeartbeats 2000000 in
theorem rnode_4 (n pad : Int) (ai sa : Option Addr) (li ci ls cs : Nat) (inn shp : List Int) (w : World) (HI : Ints w ai li ci inn) (HS : Ints w sa ls cs shp) :
    Calls Tryz.prog 185 #[.agg #[.int .u8 4, .slice ai li ci, .slice sa ls cs, .int .i64 n, .int .i64 pad]] w fun e w' => e = .returned (.bool (Gr.ofB (⟨2, 2, 0, 0, 0, 0⟩ : Gr.Kind) (⟨4, inn, shp, n, pad⟩ : Gr.Node))) ∧ Below w.heap.size w w' := by
  have hle := HI.le
  have hcap := HI.cap_le
  have hls := HS.le
  have hcs := HS.cap_le
  have LI := HI.length
  have LS := HS.length
  have KS := Lib.hid HS
  have hB : Hid (∀ o1, Below w.heap.size w (w.alloc o1)) := fun o1 => (Below.refl _ _).alloc (Nat.le_refl _) _
  have NIN : Hid (¬ ((2 : Int) ≤ (li : Int) ∧ (li : Int) ≤ 2) → Gr.ofB (⟨2, 2, 0, 0, 0, 0⟩ : Gr.Kind) (⟨4, inn, shp, n, pad⟩ : Gr.Node) = false) := fun h => Gr.ofB_no_in (by dsimp only; rw [LI]; exact h)
  have NN : Hid (¬ ((0 : Int) ≤ n ∧ n ≤ 0) → Gr.ofB (⟨2, 2, 0, 0, 0, 0⟩ : Gr.Kind) (⟨4, inn, shp, n, pad⟩ : Gr.Node) = false) := fun h => Gr.ofB_no_n h
  have NP : Hid (¬ ((0 : Int) ≤ pad ∧ pad ≤ 0) → Gr.ofB (⟨2, 2, 0, 0, 0, 0⟩ : Gr.Kind) (⟨4, inn, shp, n, pad⟩ : Gr.Node) = false) := fun h => Gr.ofB_no_pad h
  have NS : Hid (decide ((ls : Int) = 0) = false → Gr.ofB (⟨2, 2, 0, 0, 0, 0⟩ : Gr.Kind) (⟨4, inn, shp, n, pad⟩ : Gr.Node) = false) := fun h => Gr.ofB_no_shape (by dsimp only; rw [if_pos rfl]; rw [LS]; exact h)
  have YS : Hid ((2 : Int) ≤ (li : Int) ∧ (li : Int) ≤ 2 → (0 : Int) ≤ n ∧ n ≤ 0 → (0 : Int) ≤ pad ∧ pad ≤ 0 → decide ((ls : Int) = 0) = true → Gr.ofB (⟨2, 2, 0, 0, 0, 0⟩ : Gr.Kind) (⟨4, inn, shp, n, pad⟩ : Gr.Node) = true) := fun h1 h2 h3 h => Gr.ofB_yes (by dsimp only; rw [LI]; exact h1) h2 h3 (by dsimp only; rw [if_pos rfl]; rw [LS]; exact h)
  clear HI HS LI LS
  go_enter Tryz.func185, Tryz.ntmps185
  go_wp2_with fail
  refine (rtakes_4 _).mono ?_
  rintro e w1 ⟨rfl, rfl⟩
  go_wp2_with fail
  refine (rwithin_any _ _ _ _).mono ?_
  rintro e w1 ⟨rfl, rfl⟩
  by_cases c1 : (2 : Int) ≤ (li : Int) ∧ (li : Int) ≤ 2
  rotate_left
  · have HR := Lib.hid (NIN.out c1)
    have e1 : (decide ((2 : Int) ≤ (li : Int)) && decide ((li : Int) ≤ 2)) = false := by rw [Bool.and_eq_false_iff, decide_eq_false_iff_not, decide_eq_false_iff_not]; omega
    rw [e1]
    clear e1 c1
    go_wp2
    go_ret
    exact ⟨by rw [HR.out]; rfl, hB.out _⟩
  have e1 : (decide ((2 : Int) ≤ (li : Int)) && decide ((li : Int) ≤ 2)) = true := by rw [Bool.and_eq_true, decide_eq_true_eq, decide_eq_true_eq]; omega
  rw [e1]
  clear e1
  by_cases c3 : 0 < ls
  · have d3 : decide ((ls : Int) > 0) = true := decide_eq_true (by omega)
    have HR := Lib.hid (NS.out (decide_eq_false (by omega)))
    have c3n : ls ≠ 0 := by omega
    clear c3 c1
    go_wp2
    go_ret
    exact ⟨by rw [HR.out]; rfl, hB.out _⟩
  have d3 : decide ((ls : Int) > 0) = false := decide_eq_false (by omega)
  have h3 : decide ((ls : Int) = 0) = true := decide_eq_true (by omega)
  obtain rfl : ls = 0 := by omega
  by_cases c5 : pad = 0
  rotate_left
  · have d5 : (pad != 0) = true := by simp [c5]
    have HR := Lib.hid (NP.out (by omega))
    clear c3 c5 c1 h3
    go_wp2
    go_ret
    exact ⟨by rw [HR.out]; rfl, hB.out _⟩
  have d5 : (pad != 0) = false := by simp [c5]
  by_cases c4 : n = 0
  rotate_left
  · have d4 : (n == 0) = false := by simp [c4]
    have HR := Lib.hid (NN.out (by omega))
    clear c4 c1
    go_wp2
    go_ret
    exact ⟨by rw [HR.out]; rfl, hB.out _⟩
  have d4 : (n == 0) = true := by simp [c4]
  have HR := Lib.hid (YS.out c1 (by omega) (by omega) h3)
  clear c3 c4 c5 c1 h3
  go_wp2
  go_ret
  exact ⟨by rw [HR.out]; rfl, hB.out _⟩
set_option maxHeartbeats 2000000 in
theorem rnode_5 (n pad : Int) (ai sa : Option Addr) (li ci ls cs : Nat) (inn shp : List Int) (w : World) (HI : Ints w ai li ci inn) (HS : Ints w sa ls cs shp) :
    Calls Tryz.prog 185 #[.agg #[.int .u8 5, .slice ai li ci, .slice sa ls cs, .int .i64 n, .int .i64 pad]] w fun e w' => e = .returned (.bool (Gr.ofB (⟨1, 1, 0, 0, 0, 0⟩ : Gr.Kind) (⟨5, inn, shp, n, pad⟩ : Gr.Node))) ∧ Below w.heap.size w w' := by
  have hle := HI.le
  have hcap := HI.cap_le
  have hls := HS.le
  have hcs := HS.cap_le
  have LI := HI.length
  have LS := HS.length
  have KS := Lib.hid HS
  have hB : Hid (∀ o1, Below w.heap.size w (w.alloc o1)) := fun o1 => (Below.refl _ _).alloc (Nat.le_refl _) _
  have NIN : Hid (¬ ((1 : Int) ≤ (li : Int) ∧ (li : Int) ≤ 1) → Gr.ofB (⟨1, 1, 0, 0, 0, 0⟩ : Gr.Kind) (⟨5, inn, shp, n, pad⟩ : Gr.Node) = false) := fun h => Gr.ofB_no_in (by dsimp only; rw [LI]; exact h)
  have NN : Hid (¬ ((0 : Int) ≤ n ∧ n ≤ 0) → Gr.ofB (⟨1, 1, 0, 0, 0, 0⟩ : Gr.Kind) (⟨5, inn, shp, n, pad⟩ : Gr.Node) = false) := fun h => Gr.ofB_no_n h
  have NP : Hid (¬ ((0 : Int) ≤ pad ∧ pad ≤ 0) → Gr.ofB (⟨1, 1, 0, 0, 0, 0⟩ : Gr.Kind) (⟨5, inn, shp, n, pad⟩ : Gr.Node) = false) := fun h => Gr.ofB_no_pad h
  have NS : Hid (decide ((ls : Int) = 0) = false → Gr.ofB (⟨1, 1, 0, 0, 0, 0⟩ : Gr.Kind) (⟨5, inn, shp, n, pad⟩ : Gr.Node) = false) := fun h => Gr.ofB_no_shape (by dsimp only; rw [if_pos rfl]; rw [LS]; exact h)
  have YS : Hid ((1 : Int) ≤ (li : Int) ∧ (li : Int) ≤ 1 → (0 : Int) ≤ n ∧ n ≤ 0 → (0 : Int) ≤ pad ∧ pad ≤ 0 → decide ((ls : Int) = 0) = true → Gr.ofB (⟨1, 1, 0, 0, 0, 0⟩ : Gr.Kind) (⟨5, inn, shp, n, pad⟩ : Gr.Node) = true) := fun h1 h2 h3 h => Gr.ofB_yes (by dsimp only; rw [LI]; exact h1) h2 h3 (by dsimp only; rw [if_pos rfl]; rw [LS]; exact h)
  clear HI HS LI LS
  go_enter Tryz.func185, Tryz.ntmps185
  go_wp2_with fail
  refine (rtakes_5 _).mono ?_
  rintro e w1 ⟨rfl, rfl⟩
  go_wp2_with fail
  refine (rwithin_any _ _ _ _).mono ?_
  rintro e w1 ⟨rfl, rfl⟩
  by_cases c1 : (1 : Int) ≤ (li : Int) ∧ (li : Int) ≤ 1
  rotate_left
  · have HR := Lib.hid (NIN.out c1)
    have e1 : (decide ((1 : Int) ≤ (li : Int)) && decide ((li : Int) ≤ 1)) = false := by rw [Bool.and_eq_false_iff, decide_eq_false_iff_not, decide_eq_false_iff_not]; omega
    rw [e1]
    clear e1 c1
    go_wp2
    go_ret
    exact ⟨by rw [HR.out]; rfl, hB.out _⟩
  have e1 : (decide ((1 : Int) ≤ (li : Int)) && decide ((li : Int) ≤ 1)) = true := by rw [Bool.and_eq_true, decide_eq_true_eq, decide_eq_true_eq]; omega
  rw [e1]
  clear e1
  by_cases c3 : 0 < ls
  · have d3 : decide ((ls : Int) > 0) = true := decide_eq_true (by omega)
    have HR := Lib.hid (NS.out (decide_eq_false (by omega)))
    have c3n : ls ≠ 0 := by omega
    clear c3 c1
    go_wp2
    go_ret
    exact ⟨by rw [HR.out]; rfl, hB.out _⟩
  have d3 : decide ((ls : Int) > 0) = false := decide_eq_false (by omega)
  have h3 : decide ((ls : Int) = 0) = true := decide_eq_true (by omega)
  obtain rfl : ls = 0 := by omega
  by_cases c5 : pad = 0
  rotate_left
  · have d5 : (pad != 0) = true := by simp [c5]
    have HR := Lib.hid (NP.out (by omega))
    clear c3 c5 c1 h3
    go_wp2
    go_ret
    exact ⟨by rw [HR.out]; rfl, hB.out _⟩
  have d5 : (pad != 0) = false := by simp [c5]
  by_cases c4 : n = 0
  rotate_left
  · have d4 : (n == 0) = false := by simp [c4]
    have HR := Lib.hid (NN.out (by omega))
    clear c4 c1
    go_wp2
    go_ret
    exact ⟨by rw [HR.out]; rfl, hB.out _⟩
  have d4 : (n == 0) = true := by simp [c4]
  have HR := Lib.hid (YS.out c1 (by omega) (by omega) h3)
  clear c3 c4 c5 c1 h3
  go_wp2
  go_ret
  exact ⟨by rw [HR.out]; rfl, hB.out _⟩
set_option maxHeartbeats 2000000 in
theorem rnode_6 (n pad : Int) (ai sa : Option Addr) (li ci ls cs : Nat) (inn shp : List Int) (w : World) (HI : Ints w ai li ci inn) (HS : Ints w sa ls cs shp) :
    Calls Tryz.prog 185 #[.agg #[.int .u8 6, .slice ai li ci, .slice sa ls cs, .int .i64 n, .int .i64 pad]] w fun e w' => e = .returned (.bool (Gr.ofB (⟨1, 1, 0, 31, 0, 0⟩ : Gr.Kind) (⟨6, inn, shp, n, pad⟩ : Gr.Node))) ∧ Below w.heap.size w w' := by
  have hle := HI.le
  have hcap := HI.cap_le
  have hls := HS.le
  have hcs := HS.cap_le
  have LI := HI.length
  have LS := HS.length
  have KS := Lib.hid HS
  have hB : Hid (∀ o1, Below w.heap.size w (w.alloc o1)) := fun o1 => (Below.refl _ _).alloc (Nat.le_refl _) _
  have NIN : Hid (¬ ((1 : Int) ≤ (li : Int) ∧ (li : Int) ≤ 1) → Gr.ofB (⟨1, 1, 0, 31, 0, 0⟩ : Gr.Kind) (⟨6, inn, shp, n, pad⟩ : Gr.Node) = false) := fun h => Gr.ofB_no_in (by dsimp only; rw [LI]; exact h)
  have NN : Hid (¬ ((0 : Int) ≤ n ∧ n ≤ 31) → Gr.ofB (⟨1, 1, 0, 31, 0, 0⟩ : Gr.Kind) (⟨6, inn, shp, n, pad⟩ : Gr.Node) = false) := fun h => Gr.ofB_no_n h
  have NP : Hid (¬ ((0 : Int) ≤ pad ∧ pad ≤ 0) → Gr.ofB (⟨1, 1, 0, 31, 0, 0⟩ : Gr.Kind) (⟨6, inn, shp, n, pad⟩ : Gr.Node) = false) := fun h => Gr.ofB_no_pad h
  have NS : Hid (decide ((ls : Int) = 0) = false → Gr.ofB (⟨1, 1, 0, 31, 0, 0⟩ : Gr.Kind) (⟨6, inn, shp, n, pad⟩ : Gr.Node) = false) := fun h => Gr.ofB_no_shape (by dsimp only; rw [if_pos rfl]; rw [LS]; exact h)
  have YS : Hid ((1 : Int) ≤ (li : Int) ∧ (li : Int) ≤ 1 → (0 : Int) ≤ n ∧ n ≤ 31 → (0 : Int) ≤ pad ∧ pad ≤ 0 → decide ((ls : Int) = 0) = true → Gr.ofB (⟨1, 1, 0, 31, 0, 0⟩ : Gr.Kind) (⟨6, inn, shp, n, pad⟩ : Gr.Node) = true) := fun h1 h2 h3 h => Gr.ofB_yes (by dsimp only; rw [LI]; exact h1) h2 h3 (by dsimp only; rw [if_pos rfl]; rw [LS]; exact h)
  clear HI HS LI LS
  go_enter Tryz.func185, Tryz.ntmps185
  go_wp2_with fail
  refine (rtakes_6 _).mono ?_
  rintro e w1 ⟨rfl, rfl⟩
  go_wp2_with fail
  refine (rwithin_any _ _ _ _).mono ?_
  rintro e w1 ⟨rfl, rfl⟩
  by_cases c1 : (1 : Int) ≤ (li : Int) ∧ (li : Int) ≤ 1
  rotate_left
  · have HR := Lib.hid (NIN.out c1)
    have e1 : (decide ((1 : Int) ≤ (li : Int)) && decide ((li : Int) ≤ 1)) = false := by rw [Bool.and_eq_false_iff, decide_eq_false_iff_not, decide_eq_false_iff_not]; omega
    rw [e1]
    clear e1 c1
    go_wp2
    go_ret
    exact ⟨by rw [HR.out]; rfl, hB.out _⟩
  have e1 : (decide ((1 : Int) ≤ (li : Int)) && decide ((li : Int) ≤ 1)) = true := by rw [Bool.and_eq_true, decide_eq_true_eq, decide_eq_true_eq]; omega
  rw [e1]
  clear e1
  by_cases c3 : 0 < ls
  · have d3 : decide ((ls : Int) > 0) = true := decide_eq_true (by omega)
    have HR := Lib.hid (NS.out (decide_eq_false (by omega)))
    have c3n : ls ≠ 0 := by omega
    clear c3 c1
    go_wp2
    go_ret
    exact ⟨by rw [HR.out]; rfl, hB.out _⟩
  have d3 : decide ((ls : Int) > 0) = false := decide_eq_false (by omega)
  have h3 : decide ((ls : Int) = 0) = true := decide_eq_true (by omega)
  obtain rfl : ls = 0 := by omega
  by_cases c5 : pad = 0
  rotate_left
  · have d5 : (pad != 0) = true := by simp [c5]
    have HR := Lib.hid (NP.out (by omega))
    clear c3 c5 c1 h3
    go_wp2
    go_ret
    exact ⟨by rw [HR.out]; rfl, hB.out _⟩
  have d5 : (pad != 0) = false := by simp [c5]
  have HR : Hid (Gr.ofB (⟨1, 1, 0, 31, 0, 0⟩ : Gr.Kind) (⟨6, inn, shp, n, pad⟩ : Gr.Node) = (decide ((0 : Int) ≤ n) && decide (n ≤ 31))) := by
    show _ = _
    by_cases c7 : (0 : Int) ≤ n ∧ n ≤ 31
    · rw [YS.out c1 c7 (by omega) h3, decide_eq_true c7.1, decide_eq_true c7.2]; rfl
    · rw [NN.out c7]
      symm
      rw [Bool.and_eq_false_iff, decide_eq_false_iff_not, decide_eq_false_iff_not]; omega
  clear c3 c5 c1 h3
  go_wp2_with fail
  refine (rwithin_any _ _ _ _).mono ?_
  rintro e w1 ⟨rfl, rfl⟩
  go_wp2
  go_ret
  exact ⟨by first | (rw [HR.out]; done) | (rw [HR.out]; rfl), hB.out _⟩
set_option maxHeartbeats 2000000 in
theorem rnode_7 (n pad : Int) (ai sa : Option Addr) (li ci ls cs : Nat) (inn shp : List Int) (w : World) (HI : Ints w ai li ci inn) (HS : Ints w sa ls cs shp) :
    Calls Tryz.prog 185 #[.agg #[.int .u8 7, .slice ai li ci, .slice sa ls cs, .int .i64 n, .int .i64 pad]] w fun e w' => e = .returned (.bool (Gr.ofB (⟨2, 2, 0, 0, 0, 0⟩ : Gr.Kind) (⟨7, inn, shp, n, pad⟩ : Gr.Node))) ∧ Below w.heap.size w w' := by
  have hle := HI.le
  have hcap := HI.cap_le
  have hls := HS.le
  have hcs := HS.cap_le
  have LI := HI.length
  have LS := HS.length
  have KS := Lib.hid HS
  have hB : Hid (∀ o1, Below w.heap.size w (w.alloc o1)) := fun o1 => (Below.refl _ _).alloc (Nat.le_refl _) _
  have NIN : Hid (¬ ((2 : Int) ≤ (li : Int) ∧ (li : Int) ≤ 2) → Gr.ofB (⟨2, 2, 0, 0, 0, 0⟩ : Gr.Kind) (⟨7, inn, shp, n, pad⟩ : Gr.Node) = false) := fun h => Gr.ofB_no_in (by dsimp only; rw [LI]; exact h)
  have NN : Hid (¬ ((0 : Int) ≤ n ∧ n ≤ 0) → Gr.ofB (⟨2, 2, 0, 0, 0, 0⟩ : Gr.Kind) (⟨7, inn, shp, n, pad⟩ : Gr.Node) = false) := fun h => Gr.ofB_no_n h
  have NP : Hid (¬ ((0 : Int) ≤ pad ∧ pad ≤ 0) → Gr.ofB (⟨2, 2, 0, 0, 0, 0⟩ : Gr.Kind) (⟨7, inn, shp, n, pad⟩ : Gr.Node) = false) := fun h => Gr.ofB_no_pad h
  have NS : Hid (decide ((ls : Int) = 0) = false → Gr.ofB (⟨2, 2, 0, 0, 0, 0⟩ : Gr.Kind) (⟨7, inn, shp, n, pad⟩ : Gr.Node) = false) := fun h => Gr.ofB_no_shape (by dsimp only; rw [if_pos rfl]; rw [LS]; exact h)
  have YS : Hid ((2 : Int) ≤ (li : Int) ∧ (li : Int) ≤ 2 → (0 : Int) ≤ n ∧ n ≤ 0 → (0 : Int) ≤ pad ∧ pad ≤ 0 → decide ((ls : Int) = 0) = true → Gr.ofB (⟨2, 2, 0, 0, 0, 0⟩ : Gr.Kind) (⟨7, inn, shp, n, pad⟩ : Gr.Node) = true) := fun h1 h2 h3 h => Gr.ofB_yes (by dsimp only; rw [LI]; exact h1) h2 h3 (by dsimp only; rw [if_pos rfl]; rw [LS]; exact h)
  clear HI HS LI LS
  go_enter Tryz.func185, Tryz.ntmps185
  go_wp2_with fail
  refine (rtakes_7 _).mono ?_
  rintro e w1 ⟨rfl, rfl⟩
  go_wp2_with fail
  refine (rwithin_any _ _ _ _).mono ?_
  rintro e w1 ⟨rfl, rfl⟩
  by_cases c1 : (2 : Int) ≤ (li : Int) ∧ (li : Int) ≤ 2
  rotate_left
  · have HR := Lib.hid (NIN.out c1)
    have e1 : (decide ((2 : Int) ≤ (li : Int)) && decide ((li : Int) ≤ 2)) = false := by rw [Bool.and_eq_false_iff, decide_eq_false_iff_not, decide_eq_false_iff_not]; omega
    rw [e1]
    clear e1 c1
    go_wp2
    go_ret
    exact ⟨by rw [HR.out]; rfl, hB.out _⟩
  have e1 : (decide ((2 : Int) ≤ (li : Int)) && decide ((li : Int) ≤ 2)) = true := by rw [Bool.and_eq_true, decide_eq_true_eq, decide_eq_true_eq]; omega
  rw [e1]
  clear e1
  by_cases c3 : 0 < ls
  · have d3 : decide ((ls : Int) > 0) = true := decide_eq_true (by omega)
    have HR := Lib.hid (NS.out (decide_eq_false (by omega)))
    have c3n : ls ≠ 0 := by omega
    clear c3 c1
    go_wp2
    go_ret
    exact ⟨by rw [HR.out]; rfl, hB.out _⟩
  have d3 : decide ((ls : Int) > 0) = false := decide_eq_false (by omega)
  have h3 : decide ((ls : Int) = 0) = true := decide_eq_true (by omega)
  obtain rfl : ls = 0 := by omega
  by_cases c5 : pad = 0
  rotate_left
  · have d5 : (pad != 0) = true := by simp [c5]
    have HR := Lib.hid (NP.out (by omega))
    clear c3 c5 c1 h3
    go_wp2
    go_ret
    exact ⟨by rw [HR.out]; rfl, hB.out _⟩
  have d5 : (pad != 0) = false := by simp [c5]
  by_cases c4 : n = 0
  rotate_left
  · have d4 : (n == 0) = false := by simp [c4]
    have HR := Lib.hid (NN.out (by omega))
    clear c4 c1
    go_wp2
    go_ret
    exact ⟨by rw [HR.out]; rfl, hB.out _⟩
  have d4 : (n == 0) = true := by simp [c4]
  have HR := Lib.hid (YS.out c1 (by omega) (by omega) h3)
  clear c3 c4 c5 c1 h3
  go_wp2
  go_ret
  exact ⟨by rw [HR.out]; rfl, hB.out _⟩
set_option maxHeartbeats 2000000 in
theorem rnode_8 (n pad : Int) (ai sa : Option Addr) (li ci ls cs : Nat) (inn shp : List Int) (w : World) (HI : Ints w ai li ci inn) (HS : Ints w sa ls cs shp) :
    Calls Tryz.prog 185 #[.agg #[.int .u8 8, .slice ai li ci, .slice sa ls cs, .int .i64 n, .int .i64 pad]] w fun e w' => e = .returned (.bool (Gr.ofB (⟨2, 2, 1, 8, 8, 0⟩ : Gr.Kind) (⟨8, inn, shp, n, pad⟩ : Gr.Node))) ∧ Below w.heap.size w w' := by
  have hle := HI.le
  have hcap := HI.cap_le
  have hls := HS.le
  have hcs := HS.cap_le
  have LI := HI.length
  have LS := HS.length
  have KS := Lib.hid HS
  have hB : Hid (∀ o1, Below w.heap.size w (w.alloc o1)) := fun o1 => (Below.refl _ _).alloc (Nat.le_refl _) _
  have NIN : Hid (¬ ((2 : Int) ≤ (li : Int) ∧ (li : Int) ≤ 2) → Gr.ofB (⟨2, 2, 1, 8, 8, 0⟩ : Gr.Kind) (⟨8, inn, shp, n, pad⟩ : Gr.Node) = false) := fun h => Gr.ofB_no_in (by dsimp only; rw [LI]; exact h)
  have NN : Hid (¬ ((1 : Int) ≤ n ∧ n ≤ 8) → Gr.ofB (⟨2, 2, 1, 8, 8, 0⟩ : Gr.Kind) (⟨8, inn, shp, n, pad⟩ : Gr.Node) = false) := fun h => Gr.ofB_no_n h
  have NP : Hid (¬ ((0 : Int) ≤ pad ∧ pad ≤ 8) → Gr.ofB (⟨2, 2, 1, 8, 8, 0⟩ : Gr.Kind) (⟨8, inn, shp, n, pad⟩ : Gr.Node) = false) := fun h => Gr.ofB_no_pad h
  have NS : Hid (decide ((ls : Int) = 0) = false → Gr.ofB (⟨2, 2, 1, 8, 8, 0⟩ : Gr.Kind) (⟨8, inn, shp, n, pad⟩ : Gr.Node) = false) := fun h => Gr.ofB_no_shape (by dsimp only; rw [if_pos rfl]; rw [LS]; exact h)
  have YS : Hid ((2 : Int) ≤ (li : Int) ∧ (li : Int) ≤ 2 → (1 : Int) ≤ n ∧ n ≤ 8 → (0 : Int) ≤ pad ∧ pad ≤ 8 → decide ((ls : Int) = 0) = true → Gr.ofB (⟨2, 2, 1, 8, 8, 0⟩ : Gr.Kind) (⟨8, inn, shp, n, pad⟩ : Gr.Node) = true) := fun h1 h2 h3 h => Gr.ofB_yes (by dsimp only; rw [LI]; exact h1) h2 h3 (by dsimp only; rw [if_pos rfl]; rw [LS]; exact h)
  clear HI HS LI LS
  go_enter Tryz.func185, Tryz.ntmps185
  go_wp2_with fail
  refine (rtakes_8 _).mono ?_
  rintro e w1 ⟨rfl, rfl⟩
  go_wp2_with fail
  refine (rwithin_any _ _ _ _).mono ?_
  rintro e w1 ⟨rfl, rfl⟩
  by_cases c1 : (2 : Int) ≤ (li : Int) ∧ (li : Int) ≤ 2
  rotate_left
  · have HR := Lib.hid (NIN.out c1)
    have e1 : (decide ((2 : Int) ≤ (li : Int)) && decide ((li : Int) ≤ 2)) = false := by rw [Bool.and_eq_false_iff, decide_eq_false_iff_not, decide_eq_false_iff_not]; omega
    rw [e1]
    clear e1 c1
    go_wp2
    go_ret
    exact ⟨by rw [HR.out]; rfl, hB.out _⟩
  have e1 : (decide ((2 : Int) ≤ (li : Int)) && decide ((li : Int) ≤ 2)) = true := by rw [Bool.and_eq_true, decide_eq_true_eq, decide_eq_true_eq]; omega
  rw [e1]
  clear e1
  by_cases c3 : 0 < ls
  · have d3 : decide ((ls : Int) > 0) = true := decide_eq_true (by omega)
    have HR := Lib.hid (NS.out (decide_eq_false (by omega)))
    have c3n : ls ≠ 0 := by omega
    clear c3 c1
    go_wp2
    go_ret
    exact ⟨by rw [HR.out]; rfl, hB.out _⟩
  have d3 : decide ((ls : Int) > 0) = false := decide_eq_false (by omega)
  have h3 : decide ((ls : Int) = 0) = true := decide_eq_true (by omega)
  obtain rfl : ls = 0 := by omega
  go_wp2_with fail
  refine (rwithin_any _ _ _ _).mono ?_
  rintro e w1 ⟨rfl, rfl⟩
  by_cases c4 : (1 : Int) ≤ n ∧ n ≤ 8
  rotate_left
  · have HR := Lib.hid (NN.out c4)
    have e1 : (decide ((1 : Int) ≤ n) && decide (n ≤ 8)) = false := by rw [Bool.and_eq_false_iff, decide_eq_false_iff_not, decide_eq_false_iff_not]; omega
    rw [e1]
    clear e1 c1 c3 c4 h3
    go_wp2
    go_ret
    exact ⟨by rw [HR.out]; rfl, hB.out _⟩
  have e1 : (decide ((1 : Int) ≤ n) && decide (n ≤ 8)) = true := by rw [Bool.and_eq_true, decide_eq_true_eq, decide_eq_true_eq]; omega
  rw [e1]
  have HR : Hid (Gr.ofB (⟨2, 2, 1, 8, 8, 0⟩ : Gr.Kind) (⟨8, inn, shp, n, pad⟩ : Gr.Node) = (decide ((0 : Int) ≤ pad) && decide (pad ≤ 8))) := by
    show _ = _
    by_cases c7 : (0 : Int) ≤ pad ∧ pad ≤ 8
    · rw [YS.out c1 c4 c7 h3, decide_eq_true c7.1, decide_eq_true c7.2]; rfl
    · rw [NP.out c7]
      symm
      rw [Bool.and_eq_false_iff, decide_eq_false_iff_not, decide_eq_false_iff_not]; omega
  clear e1 c1 c3 c4 h3
  go_wp2_with fail
  refine (rwithin_any _ _ _ _).mono ?_
  rintro e w1 ⟨rfl, rfl⟩
  go_wp2
  go_ret
  exact ⟨by first | (rw [HR.out]; done) | (rw [HR.out]; rfl), hB.out _⟩
set_option maxHeartbeats 2000000 in
theorem rnode_9 (n pad : Int) (ai sa : Option Addr) (li ci ls cs : Nat) (inn shp : List Int) (w : World) (HI : Ints w ai li ci inn) (HS : Ints w sa ls cs shp) :
    Calls Tryz.prog 185 #[.agg #[.int .u8 9, .slice ai li ci, .slice sa ls cs, .int .i64 n, .int .i64 pad]] w fun e w' => e = .returned (.bool (Gr.ofB (⟨1, 1, 1, 64, 0, 0⟩ : Gr.Kind) (⟨9, inn, shp, n, pad⟩ : Gr.Node))) ∧ Below w.heap.size w w' := by
  have hle := HI.le
  have hcap := HI.cap_le
  have hls := HS.le
  have hcs := HS.cap_le
  have LI := HI.length
  have LS := HS.length
  have KS := Lib.hid HS
  have hB : Hid (∀ o1, Below w.heap.size w (w.alloc o1)) := fun o1 => (Below.refl _ _).alloc (Nat.le_refl _) _
  have NIN : Hid (¬ ((1 : Int) ≤ (li : Int) ∧ (li : Int) ≤ 1) → Gr.ofB (⟨1, 1, 1, 64, 0, 0⟩ : Gr.Kind) (⟨9, inn, shp, n, pad⟩ : Gr.Node) = false) := fun h => Gr.ofB_no_in (by dsimp only; rw [LI]; exact h)
  have NN : Hid (¬ ((1 : Int) ≤ n ∧ n ≤ 64) → Gr.ofB (⟨1, 1, 1, 64, 0, 0⟩ : Gr.Kind) (⟨9, inn, shp, n, pad⟩ : Gr.Node) = false) := fun h => Gr.ofB_no_n h
  have NP : Hid (¬ ((0 : Int) ≤ pad ∧ pad ≤ 0) → Gr.ofB (⟨1, 1, 1, 64, 0, 0⟩ : Gr.Kind) (⟨9, inn, shp, n, pad⟩ : Gr.Node) = false) := fun h => Gr.ofB_no_pad h
  have NS : Hid (decide ((ls : Int) = 0) = false → Gr.ofB (⟨1, 1, 1, 64, 0, 0⟩ : Gr.Kind) (⟨9, inn, shp, n, pad⟩ : Gr.Node) = false) := fun h => Gr.ofB_no_shape (by dsimp only; rw [if_pos rfl]; rw [LS]; exact h)
  have YS : Hid ((1 : Int) ≤ (li : Int) ∧ (li : Int) ≤ 1 → (1 : Int) ≤ n ∧ n ≤ 64 → (0 : Int) ≤ pad ∧ pad ≤ 0 → decide ((ls : Int) = 0) = true → Gr.ofB (⟨1, 1, 1, 64, 0, 0⟩ : Gr.Kind) (⟨9, inn, shp, n, pad⟩ : Gr.Node) = true) := fun h1 h2 h3 h => Gr.ofB_yes (by dsimp only; rw [LI]; exact h1) h2 h3 (by dsimp only; rw [if_pos rfl]; rw [LS]; exact h)
  clear HI HS LI LS
  go_enter Tryz.func185, Tryz.ntmps185
  go_wp2_with fail
  refine (rtakes_9 _).mono ?_
  rintro e w1 ⟨rfl, rfl⟩
  go_wp2_with fail
  refine (rwithin_any _ _ _ _).mono ?_
  rintro e w1 ⟨rfl, rfl⟩
  by_cases c1 : (1 : Int) ≤ (li : Int) ∧ (li : Int) ≤ 1
  rotate_left
  · have HR := Lib.hid (NIN.out c1)
    have e1 : (decide ((1 : Int) ≤ (li : Int)) && decide ((li : Int) ≤ 1)) = false := by rw [Bool.and_eq_false_iff, decide_eq_false_iff_not, decide_eq_false_iff_not]; omega
    rw [e1]
    clear e1 c1
    go_wp2
    go_ret
    exact ⟨by rw [HR.out]; rfl, hB.out _⟩
  have e1 : (decide ((1 : Int) ≤ (li : Int)) && decide ((li : Int) ≤ 1)) = true := by rw [Bool.and_eq_true, decide_eq_true_eq, decide_eq_true_eq]; omega
  rw [e1]
  clear e1
  by_cases c3 : 0 < ls
  · have d3 : decide ((ls : Int) > 0) = true := decide_eq_true (by omega)
    have HR := Lib.hid (NS.out (decide_eq_false (by omega)))
    have c3n : ls ≠ 0 := by omega
    clear c3 c1
    go_wp2
    go_ret
    exact ⟨by rw [HR.out]; rfl, hB.out _⟩
  have d3 : decide ((ls : Int) > 0) = false := decide_eq_false (by omega)
  have h3 : decide ((ls : Int) = 0) = true := decide_eq_true (by omega)
  obtain rfl : ls = 0 := by omega
  by_cases c5 : pad = 0
  rotate_left
  · have d5 : (pad != 0) = true := by simp [c5]
    have HR := Lib.hid (NP.out (by omega))
    clear c3 c5 c1 h3
    go_wp2
    go_ret
    exact ⟨by rw [HR.out]; rfl, hB.out _⟩
  have d5 : (pad != 0) = false := by simp [c5]
  have HR : Hid (Gr.ofB (⟨1, 1, 1, 64, 0, 0⟩ : Gr.Kind) (⟨9, inn, shp, n, pad⟩ : Gr.Node) = (decide ((1 : Int) ≤ n) && decide (n ≤ 64))) := by
    show _ = _
    by_cases c7 : (1 : Int) ≤ n ∧ n ≤ 64
    · rw [YS.out c1 c7 (by omega) h3, decide_eq_true c7.1, decide_eq_true c7.2]; rfl
    · rw [NN.out c7]
      symm
      rw [Bool.and_eq_false_iff, decide_eq_false_iff_not, decide_eq_false_iff_not]; omega
  clear c3 c5 c1 h3
  go_wp2_with fail
  refine (rwithin_any _ _ _ _).mono ?_
  rintro e w1 ⟨rfl, rfl⟩
  go_wp2
  go_ret
  exact ⟨by first | (rw [HR.out]; done) | (rw [HR.out]; rfl), hB.out _⟩
set_option maxHeartbeats 2000000 in
theorem rnode_10 (n pad : Int) (ai sa : Option Addr) (li ci ls cs : Nat) (inn shp : List Int) (w : World) (HI : Ints w ai li ci inn) (HS : Ints w sa ls cs shp) :
    Calls Tryz.prog 185 #[.agg #[.int .u8 10, .slice ai li ci, .slice sa ls cs, .int .i64 n, .int .i64 pad]] w fun e w' => e = .returned (.bool (Gr.ofB (⟨1, 1, 0, 0, 0, 1⟩ : Gr.Kind) (⟨10, inn, shp, n, pad⟩ : Gr.Node))) ∧ Below w.heap.size w w' := by
  have hle := HI.le
  have hcap := HI.cap_le
  have hls := HS.le
  have hcs := HS.cap_le
  have LI := HI.length
  have LS := HS.length
  have KS := Lib.hid HS
  have hB : Hid (∀ o1, Below w.heap.size w (w.alloc o1)) := fun o1 => (Below.refl _ _).alloc (Nat.le_refl _) _
  have NIN : Hid (¬ ((1 : Int) ≤ (li : Int) ∧ (li : Int) ≤ 1) → Gr.ofB (⟨1, 1, 0, 0, 0, 1⟩ : Gr.Kind) (⟨10, inn, shp, n, pad⟩ : Gr.Node) = false) := fun h => Gr.ofB_no_in (by dsimp only; rw [LI]; exact h)
  have NN : Hid (¬ ((0 : Int) ≤ n ∧ n ≤ 0) → Gr.ofB (⟨1, 1, 0, 0, 0, 1⟩ : Gr.Kind) (⟨10, inn, shp, n, pad⟩ : Gr.Node) = false) := fun h => Gr.ofB_no_n h
  have NP : Hid (¬ ((0 : Int) ≤ pad ∧ pad ≤ 0) → Gr.ofB (⟨1, 1, 0, 0, 0, 1⟩ : Gr.Kind) (⟨10, inn, shp, n, pad⟩ : Gr.Node) = false) := fun h => Gr.ofB_no_pad h
  have NS : Hid (Gr.chk shp = false → Gr.ofB (⟨1, 1, 0, 0, 0, 1⟩ : Gr.Kind) (⟨10, inn, shp, n, pad⟩ : Gr.Node) = false) := fun h => Gr.ofB_no_shape (by dsimp only; rw [if_neg (by decide), if_pos rfl]; exact h)
  have YS : Hid ((1 : Int) ≤ (li : Int) ∧ (li : Int) ≤ 1 → (0 : Int) ≤ n ∧ n ≤ 0 → (0 : Int) ≤ pad ∧ pad ≤ 0 → Gr.chk shp = true → Gr.ofB (⟨1, 1, 0, 0, 0, 1⟩ : Gr.Kind) (⟨10, inn, shp, n, pad⟩ : Gr.Node) = true) := fun h1 h2 h3 h => Gr.ofB_yes (by dsimp only; rw [LI]; exact h1) h2 h3 (by dsimp only; rw [if_neg (by decide), if_pos rfl]; exact h)
  clear HI HS LI LS
  go_enter Tryz.func185, Tryz.ntmps185
  go_wp2_with fail
  refine (rtakes_10 _).mono ?_
  rintro e w1 ⟨rfl, rfl⟩
  go_wp2_with fail
  refine (rwithin_any _ _ _ _).mono ?_
  rintro e w1 ⟨rfl, rfl⟩
  by_cases c1 : (1 : Int) ≤ (li : Int) ∧ (li : Int) ≤ 1
  rotate_left
  · have HR := Lib.hid (NIN.out c1)
    have e1 : (decide ((1 : Int) ≤ (li : Int)) && decide ((li : Int) ≤ 1)) = false := by rw [Bool.and_eq_false_iff, decide_eq_false_iff_not, decide_eq_false_iff_not]; omega
    rw [e1]
    clear e1 c1
    go_wp2
    go_ret
    exact ⟨by rw [HR.out]; rfl, hB.out _⟩
  have e1 : (decide ((1 : Int) ≤ (li : Int)) && decide ((li : Int) ≤ 1)) = true := by rw [Bool.and_eq_true, decide_eq_true_eq, decide_eq_true_eq]; omega
  rw [e1]
  clear e1
  go_wp2_with fail
  refine (rcheck_any _ _ _ shp _ (KS.out.alloc _)).mono ?_
  rintro e w1 ⟨rfl, rfl⟩
  cases hc : Gr.chk shp with
  | false =>
    have HR := Lib.hid (NS.out hc)
    clear hc c1
    go_wp2
    go_ret
    exact ⟨by rw [HR.out]; rfl, hB.out _⟩
  | true =>
    by_cases c4 : n = 0
    rotate_left
    · have d4 : (n == 0) = false := by simp [c4]
      have HR := Lib.hid (NN.out (by omega))
      clear c4 c1
      go_wp2
      go_ret
      exact ⟨by rw [HR.out]; rfl, hB.out _⟩
    have d4 : (n == 0) = true := by simp [c4]
    by_cases c5 : pad = 0
    rotate_left
    · have d5 : (pad == 0) = false := by simp [c5]
      have HR := Lib.hid (NP.out (by omega))
      clear c4 c5 c1 hc
      go_wp2
      go_ret
      exact ⟨by rw [HR.out]; rfl, hB.out _⟩
    have d5 : (pad == 0) = true := by simp [c5]
    have HR := Lib.hid (YS.out c1 (by omega) (by omega) hc)
    clear c4 c5 c1 hc
    go_wp2
    go_ret
    exact ⟨by rw [HR.out]; rfl, hB.out _⟩
set_option maxHeartbeats 2000000 in
theorem rnode_11 (n pad : Int) (ai sa : Option Addr) (li ci ls cs : Nat) (inn shp : List Int) (w : World) (HI : Ints w ai li ci inn) (HS : Ints w sa ls cs shp) :
    Calls Tryz.prog 185 #[.agg #[.int .u8 11, .slice ai li ci, .slice sa ls cs, .int .i64 n, .int .i64 pad]] w fun e w' => e = .returned (.bool (Gr.ofB (⟨1, 1, 0, 0, 0, 2⟩ : Gr.Kind) (⟨11, inn, shp, n, pad⟩ : Gr.Node))) ∧ Below w.heap.size w w' := by
  have hle := HI.le
  have hcap := HI.cap_le
  have hls := HS.le
  have hcs := HS.cap_le
  have LI := HI.length
  have LS := HS.length
  have KS := Lib.hid HS
  have hB : Hid (∀ o1, Below w.heap.size w (w.alloc o1)) := fun o1 => (Below.refl _ _).alloc (Nat.le_refl _) _
  have NIN : Hid (¬ ((1 : Int) ≤ (li : Int) ∧ (li : Int) ≤ 1) → Gr.ofB (⟨1, 1, 0, 0, 0, 2⟩ : Gr.Kind) (⟨11, inn, shp, n, pad⟩ : Gr.Node) = false) := fun h => Gr.ofB_no_in (by dsimp only; rw [LI]; exact h)
  have NN : Hid (¬ ((0 : Int) ≤ n ∧ n ≤ 0) → Gr.ofB (⟨1, 1, 0, 0, 0, 2⟩ : Gr.Kind) (⟨11, inn, shp, n, pad⟩ : Gr.Node) = false) := fun h => Gr.ofB_no_n h
  have NP : Hid (¬ ((0 : Int) ≤ pad ∧ pad ≤ 0) → Gr.ofB (⟨1, 1, 0, 0, 0, 2⟩ : Gr.Kind) (⟨11, inn, shp, n, pad⟩ : Gr.Node) = false) := fun h => Gr.ofB_no_pad h
  have NS : Hid (Gr.order shp = false → Gr.ofB (⟨1, 1, 0, 0, 0, 2⟩ : Gr.Kind) (⟨11, inn, shp, n, pad⟩ : Gr.Node) = false) := fun h => Gr.ofB_no_shape (by dsimp only; rw [if_neg (by decide), if_neg (by decide)]; exact h)
  have YS : Hid ((1 : Int) ≤ (li : Int) ∧ (li : Int) ≤ 1 → (0 : Int) ≤ n ∧ n ≤ 0 → (0 : Int) ≤ pad ∧ pad ≤ 0 → Gr.order shp = true → Gr.ofB (⟨1, 1, 0, 0, 0, 2⟩ : Gr.Kind) (⟨11, inn, shp, n, pad⟩ : Gr.Node) = true) := fun h1 h2 h3 h => Gr.ofB_yes (by dsimp only; rw [LI]; exact h1) h2 h3 (by dsimp only; rw [if_neg (by decide), if_neg (by decide)]; exact h)
  clear HI HS LI LS
  go_enter Tryz.func185, Tryz.ntmps185
  go_wp2_with fail
  refine (rtakes_11 _).mono ?_
  rintro e w1 ⟨rfl, rfl⟩
  go_wp2_with fail
  refine (rwithin_any _ _ _ _).mono ?_
  rintro e w1 ⟨rfl, rfl⟩
  by_cases c1 : (1 : Int) ≤ (li : Int) ∧ (li : Int) ≤ 1
  rotate_left
  · have HR := Lib.hid (NIN.out c1)
    have e1 : (decide ((1 : Int) ≤ (li : Int)) && decide ((li : Int) ≤ 1)) = false := by rw [Bool.and_eq_false_iff, decide_eq_false_iff_not, decide_eq_false_iff_not]; omega
    rw [e1]
    clear e1 c1
    go_wp2
    go_ret
    exact ⟨by rw [HR.out]; rfl, hB.out _⟩
  have e1 : (decide ((1 : Int) ≤ (li : Int)) && decide ((li : Int) ≤ 1)) = true := by rw [Bool.and_eq_true, decide_eq_true_eq, decide_eq_true_eq]; omega
  rw [e1]
  clear e1
  have HOR : Hid (Gr.order shp = (Gr.allIn shp && decide (ls ≤ 4))) := by show _ = _; rw [Gr.order_allIn, KS.out.length]
  by_cases c6 : ls ≤ 4
  rotate_left
  · have d6 : decide ((ls : Int) ≤ 4) = false := decide_eq_false (by omega)
    have HR := Lib.hid (NS.out (HOR.out.trans (by rw [decide_eq_false c6, Bool.and_false])))
    clear c6 c1
    go_wp2
    go_ret
    exact ⟨by rw [HR.out]; rfl, hB.out _⟩
  have d6 : decide ((ls : Int) ≤ 4) = true := decide_eq_true (by omega)
  go_wp2_with fail
  refine (rorder_any _ _ _ shp _ (KS.out.alloc _) (by omega)).mono ?_
  rintro e w1 ⟨rfl, rfl⟩
  cases hc : Gr.allIn shp with
  | false =>
    have HR := Lib.hid (NS.out (HOR.out.trans (by rw [hc, Bool.false_and])))
    clear hc c1 c6
    go_wp2
    go_ret
    exact ⟨by rw [HR.out]; rfl, hB.out _⟩
  | true =>
    by_cases c4 : n = 0
    rotate_left
    · have d4 : (n == 0) = false := by simp [c4]
      have HR := Lib.hid (NN.out (by omega))
      clear c4 c1
      go_wp2
      go_ret
      exact ⟨by rw [HR.out]; rfl, hB.out _⟩
    have d4 : (n == 0) = true := by simp [c4]
    by_cases c5 : pad = 0
    rotate_left
    · have d5 : (pad == 0) = false := by simp [c5]
      have HR := Lib.hid (NP.out (by omega))
      clear c4 c5 c1 hc c6
      go_wp2
      go_ret
      exact ⟨by rw [HR.out]; rfl, hB.out _⟩
    have d5 : (pad == 0) = true := by simp [c5]
    have HR := Lib.hid (YS.out c1 (by omega) (by omega) (HOR.out.trans (by rw [hc, decide_eq_true c6]; rfl)))
    clear c4 c5 c1 hc c6
    go_wp2
    go_ret
    exact ⟨by rw [HR.out]; rfl, hB.out _⟩
set_option maxHeartbeats 2000000 in
theorem rnode_12 (n pad : Int) (ai sa : Option Addr) (li ci ls cs : Nat) (inn shp : List Int) (w : World) (HI : Ints w ai li ci inn) (HS : Ints w sa ls cs shp) :
    Calls Tryz.prog 185 #[.agg #[.int .u8 12, .slice ai li ci, .slice sa ls cs, .int .i64 n, .int .i64 pad]] w fun e w' => e = .returned (.bool (Gr.ofB (⟨1, 4, 0, 3, 0, 0⟩ : Gr.Kind) (⟨12, inn, shp, n, pad⟩ : Gr.Node))) ∧ Below w.heap.size w w' := by
  have hle := HI.le
  have hcap := HI.cap_le
  have hls := HS.le
  have hcs := HS.cap_le
  have LI := HI.length
  have LS := HS.length
  have KS := Lib.hid HS
  have hB : Hid (∀ o1, Below w.heap.size w (w.alloc o1)) := fun o1 => (Below.refl _ _).alloc (Nat.le_refl _) _
  have NIN : Hid (¬ ((1 : Int) ≤ (li : Int) ∧ (li : Int) ≤ 4) → Gr.ofB (⟨1, 4, 0, 3, 0, 0⟩ : Gr.Kind) (⟨12, inn, shp, n, pad⟩ : Gr.Node) = false) := fun h => Gr.ofB_no_in (by dsimp only; rw [LI]; exact h)
  have NN : Hid (¬ ((0 : Int) ≤ n ∧ n ≤ 3) → Gr.ofB (⟨1, 4, 0, 3, 0, 0⟩ : Gr.Kind) (⟨12, inn, shp, n, pad⟩ : Gr.Node) = false) := fun h => Gr.ofB_no_n h
  have NP : Hid (¬ ((0 : Int) ≤ pad ∧ pad ≤ 0) → Gr.ofB (⟨1, 4, 0, 3, 0, 0⟩ : Gr.Kind) (⟨12, inn, shp, n, pad⟩ : Gr.Node) = false) := fun h => Gr.ofB_no_pad h
  have NS : Hid (decide ((ls : Int) = 0) = false → Gr.ofB (⟨1, 4, 0, 3, 0, 0⟩ : Gr.Kind) (⟨12, inn, shp, n, pad⟩ : Gr.Node) = false) := fun h => Gr.ofB_no_shape (by dsimp only; rw [if_pos rfl]; rw [LS]; exact h)
  have YS : Hid ((1 : Int) ≤ (li : Int) ∧ (li : Int) ≤ 4 → (0 : Int) ≤ n ∧ n ≤ 3 → (0 : Int) ≤ pad ∧ pad ≤ 0 → decide ((ls : Int) = 0) = true → Gr.ofB (⟨1, 4, 0, 3, 0, 0⟩ : Gr.Kind) (⟨12, inn, shp, n, pad⟩ : Gr.Node) = true) := fun h1 h2 h3 h => Gr.ofB_yes (by dsimp only; rw [LI]; exact h1) h2 h3 (by dsimp only; rw [if_pos rfl]; rw [LS]; exact h)
  clear HI HS LI LS
  go_enter Tryz.func185, Tryz.ntmps185
  go_wp2_with fail
  refine (rtakes_12 _).mono ?_
  rintro e w1 ⟨rfl, rfl⟩
  go_wp2_with fail
  refine (rwithin_any _ _ _ _).mono ?_
  rintro e w1 ⟨rfl, rfl⟩
  by_cases c1 : (1 : Int) ≤ (li : Int) ∧ (li : Int) ≤ 4
  rotate_left
  · have HR := Lib.hid (NIN.out c1)
    have e1 : (decide ((1 : Int) ≤ (li : Int)) && decide ((li : Int) ≤ 4)) = false := by rw [Bool.and_eq_false_iff, decide_eq_false_iff_not, decide_eq_false_iff_not]; omega
    rw [e1]
    clear e1 c1
    go_wp2
    go_ret
    exact ⟨by rw [HR.out]; rfl, hB.out _⟩
  have e1 : (decide ((1 : Int) ≤ (li : Int)) && decide ((li : Int) ≤ 4)) = true := by rw [Bool.and_eq_true, decide_eq_true_eq, decide_eq_true_eq]; omega
  rw [e1]
  clear e1
  by_cases c3 : 0 < ls
  · have d3 : decide ((ls : Int) > 0) = true := decide_eq_true (by omega)
    have HR := Lib.hid (NS.out (decide_eq_false (by omega)))
    have c3n : ls ≠ 0 := by omega
    clear c3 c1
    go_wp2
    go_ret
    exact ⟨by rw [HR.out]; rfl, hB.out _⟩
  have d3 : decide ((ls : Int) > 0) = false := decide_eq_false (by omega)
  have h3 : decide ((ls : Int) = 0) = true := decide_eq_true (by omega)
  obtain rfl : ls = 0 := by omega
  by_cases c5 : pad = 0
  rotate_left
  · have d5 : (pad != 0) = true := by simp [c5]
    have HR := Lib.hid (NP.out (by omega))
    clear c3 c5 c1 h3
    go_wp2
    go_ret
    exact ⟨by rw [HR.out]; rfl, hB.out _⟩
  have d5 : (pad != 0) = false := by simp [c5]
  have HR : Hid (Gr.ofB (⟨1, 4, 0, 3, 0, 0⟩ : Gr.Kind) (⟨12, inn, shp, n, pad⟩ : Gr.Node) = (decide ((0 : Int) ≤ n) && decide (n ≤ 3))) := by
    show _ = _
    by_cases c7 : (0 : Int) ≤ n ∧ n ≤ 3
    · rw [YS.out c1 c7 (by omega) h3, decide_eq_true c7.1, decide_eq_true c7.2]; rfl
    · rw [NN.out c7]
      symm
      rw [Bool.and_eq_false_iff, decide_eq_false_iff_not, decide_eq_false_iff_not]; omega
  clear c3 c5 c1 h3
  go_wp2_with fail
  refine (rwithin_any _ _ _ _).mono ?_
  rintro e w1 ⟨rfl, rfl⟩
  go_wp2
  go_ret
  exact ⟨by first | (rw [HR.out]; done) | (rw [HR.out]; rfl), hB.out _⟩
set_option maxHeartbeats 2000000 in
theorem rnode_13 (n pad : Int) (ai sa : Option Addr) (li ci ls cs : Nat) (inn shp : List Int) (w : World) (HI : Ints w ai li ci inn) (HS : Ints w sa ls cs shp) :
    Calls Tryz.prog 185 #[.agg #[.int .u8 13, .slice ai li ci, .slice sa ls cs, .int .i64 n, .int .i64 pad]] w fun e w' => e = .returned (.bool (Gr.ofB (⟨1, 1, 0, 3, 0, 0⟩ : Gr.Kind) (⟨13, inn, shp, n, pad⟩ : Gr.Node))) ∧ Below w.heap.size w w' := by
  have hle := HI.le
  have hcap := HI.cap_le
  have hls := HS.le
  have hcs := HS.cap_le
  have LI := HI.length
  have LS := HS.length
  have KS := Lib.hid HS
  have hB : Hid (∀ o1, Below w.heap.size w (w.alloc o1)) := fun o1 => (Below.refl _ _).alloc (Nat.le_refl _) _
  have NIN : Hid (¬ ((1 : Int) ≤ (li : Int) ∧ (li : Int) ≤ 1) → Gr.ofB (⟨1, 1, 0, 3, 0, 0⟩ : Gr.Kind) (⟨13, inn, shp, n, pad⟩ : Gr.Node) = false) := fun h => Gr.ofB_no_in (by dsimp only; rw [LI]; exact h)
  have NN : Hid (¬ ((0 : Int) ≤ n ∧ n ≤ 3) → Gr.ofB (⟨1, 1, 0, 3, 0, 0⟩ : Gr.Kind) (⟨13, inn, shp, n, pad⟩ : Gr.Node) = false) := fun h => Gr.ofB_no_n h
  have NP : Hid (¬ ((0 : Int) ≤ pad ∧ pad ≤ 0) → Gr.ofB (⟨1, 1, 0, 3, 0, 0⟩ : Gr.Kind) (⟨13, inn, shp, n, pad⟩ : Gr.Node) = false) := fun h => Gr.ofB_no_pad h
  have NS : Hid (decide ((ls : Int) = 0) = false → Gr.ofB (⟨1, 1, 0, 3, 0, 0⟩ : Gr.Kind) (⟨13, inn, shp, n, pad⟩ : Gr.Node) = false) := fun h => Gr.ofB_no_shape (by dsimp only; rw [if_pos rfl]; rw [LS]; exact h)
  have YS : Hid ((1 : Int) ≤ (li : Int) ∧ (li : Int) ≤ 1 → (0 : Int) ≤ n ∧ n ≤ 3 → (0 : Int) ≤ pad ∧ pad ≤ 0 → decide ((ls : Int) = 0) = true → Gr.ofB (⟨1, 1, 0, 3, 0, 0⟩ : Gr.Kind) (⟨13, inn, shp, n, pad⟩ : Gr.Node) = true) := fun h1 h2 h3 h => Gr.ofB_yes (by dsimp only; rw [LI]; exact h1) h2 h3 (by dsimp only; rw [if_pos rfl]; rw [LS]; exact h)
  clear HI HS LI LS
  go_enter Tryz.func185, Tryz.ntmps185
  go_wp2_with fail
  refine (rtakes_13 _).mono ?_
  rintro e w1 ⟨rfl, rfl⟩
  go_wp2_with fail
  refine (rwithin_any _ _ _ _).mono ?_
  rintro e w1 ⟨rfl, rfl⟩
  by_cases c1 : (1 : Int) ≤ (li : Int) ∧ (li : Int) ≤ 1
  rotate_left
  · have HR := Lib.hid (NIN.out c1)
    have e1 : (decide ((1 : Int) ≤ (li : Int)) && decide ((li : Int) ≤ 1)) = false := by rw [Bool.and_eq_false_iff, decide_eq_false_iff_not, decide_eq_false_iff_not]; omega
    rw [e1]
    clear e1 c1
    go_wp2
    go_ret
    exact ⟨by rw [HR.out]; rfl, hB.out _⟩
  have e1 : (decide ((1 : Int) ≤ (li : Int)) && decide ((li : Int) ≤ 1)) = true := by rw [Bool.and_eq_true, decide_eq_true_eq, decide_eq_true_eq]; omega
  rw [e1]
  clear e1
  by_cases c3 : 0 < ls
  · have d3 : decide ((ls : Int) > 0) = true := decide_eq_true (by omega)
    have HR := Lib.hid (NS.out (decide_eq_false (by omega)))
    have c3n : ls ≠ 0 := by omega
    clear c3 c1
    go_wp2
    go_ret
    exact ⟨by rw [HR.out]; rfl, hB.out _⟩
  have d3 : decide ((ls : Int) > 0) = false := decide_eq_false (by omega)
  have h3 : decide ((ls : Int) = 0) = true := decide_eq_true (by omega)
  obtain rfl : ls = 0 := by omega
  by_cases c5 : pad = 0
  rotate_left
  · have d5 : (pad != 0) = true := by simp [c5]
    have HR := Lib.hid (NP.out (by omega))
    clear c3 c5 c1 h3
    go_wp2
    go_ret
    exact ⟨by rw [HR.out]; rfl, hB.out _⟩
  have d5 : (pad != 0) = false := by simp [c5]
  have HR : Hid (Gr.ofB (⟨1, 1, 0, 3, 0, 0⟩ : Gr.Kind) (⟨13, inn, shp, n, pad⟩ : Gr.Node) = (decide ((0 : Int) ≤ n) && decide (n ≤ 3))) := by
    show _ = _
    by_cases c7 : (0 : Int) ≤ n ∧ n ≤ 3
    · rw [YS.out c1 c7 (by omega) h3, decide_eq_true c7.1, decide_eq_true c7.2]; rfl
    · rw [NN.out c7]
      symm
      rw [Bool.and_eq_false_iff, decide_eq_false_iff_not, decide_eq_false_iff_not]; omega
  clear c3 c5 c1 h3
  go_wp2_with fail
  refine (rwithin_any _ _ _ _).mono ?_
  rintro e w1 ⟨rfl, rfl⟩
  go_wp2
  go_ret
  exact ⟨by first | (rw [HR.out]; done) | (rw [HR.out]; rfl), hB.out _⟩
theorem rnode_none (kd n pad : Int) (hk : Gr.kindOf kd = none) (ai sa : Option Addr) (li ci ls cs : Nat) (w : World) :
    Calls Tryz.prog 185 #[.agg #[.int .u8 kd, .slice ai li ci, .slice sa ls cs, .int .i64 n, .int .i64 pad]] w fun e w' => e = .returned (.bool false) ∧ Below w.heap.size w w' := by
  have HK := Lib.hid hk
  have hB : Hid (∀ o1, Below w.heap.size w (w.alloc o1)) := fun o1 => (Below.refl _ _).alloc (Nat.le_refl _) _
  clear hk
  go_enter Tryz.func185, Tryz.ntmps185
  go_wp2_with fail
  refine (rtakes_none _ HK.out _).mono ?_
  rintro e w1 ⟨rfl, rfl⟩
  go_wp2
  go_ret
  exact ⟨rfl, hB.out _⟩
theorem rnode_any (kd n pad : Int) (ai sa : Option Addr) (li ci ls cs : Nat) (inn shp : List Int) (w : World) (HI : Ints w ai li ci inn) (HS : Ints w sa ls cs shp) :
    Calls Tryz.prog 185 #[.agg #[.int .u8 kd, .slice ai li ci, .slice sa ls cs, .int .i64 n, .int .i64 pad]] w fun e w' => e = .returned (.bool (Gr.nodeB ⟨kd, inn, shp, n, pad⟩)) ∧ Below w.heap.size w w' := by
  cases hk : Gr.kindOf kd with
  | none =>
    have : Gr.nodeB ⟨kd, inn, shp, n, pad⟩ = false := by unfold Gr.nodeB; rw [show Gr.kindOf (⟨kd, inn, shp, n, pad⟩ : Gr.Node).kind = none from hk]
    rw [this]
    exact rnode_none _ _ _ hk _ _ _ _ _ _ _
  | some k =>
    rcases kindOf_cases hk with rfl | rfl | rfl | rfl | rfl | rfl | rfl | rfl | rfl | rfl | rfl | rfl | rfl
    · exact rnode_1 _ _ _ _ _ _ _ _ _ _ _ HI HS
    · exact rnode_2 _ _ _ _ _ _ _ _ _ _ _ HI HS
    · exact rnode_3 _ _ _ _ _ _ _ _ _ _ _ HI HS
    · exact rnode_4 _ _ _ _ _ _ _ _ _ _ _ HI HS
    · exact rnode_5 _ _ _ _ _ _ _ _ _ _ _ HI HS
    · exact rnode_6 _ _ _ _ _ _ _ _ _ _ _ HI HS
    · exact rnode_7 _ _ _ _ _ _ _ _ _ _ _ HI HS
    · exact rnode_8 _ _ _ _ _ _ _ _ _ _ _ HI HS
    · exact rnode_9 _ _ _ _ _ _ _ _ _ _ _ HI HS
    · exact rnode_10 _ _ _ _ _ _ _ _ _ _ _ HI HS
    · exact rnode_11 _ _ _ _ _ _ _ _ _ _ _ HI HS
    · exact rnode_12 _ _ _ _ _ _ _ _ _ _ _ HI HS
    · exact rnode_13 _ _ _ _ _ _ _ _ _ _ _ HI HS
end Go.Proofs.YtekejcnphmnidaaGreatDoor
