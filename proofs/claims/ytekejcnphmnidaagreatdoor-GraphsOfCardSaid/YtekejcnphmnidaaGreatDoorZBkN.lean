import Derived.Test.YtekejcnphmnidaaGreatDoorZBa
import Derived.OwnWalk
import Derived.Handy
namespace Go.Proofs.YtekejcnphmnidaaGreatDoor
open Go.RowKit
structure Bk (w : World) (B : Nat) (f : Nat → Value) : Prop where
  lt : B < w.heap.size
  cell : ∀ i, i < 16 → w.cell? ⟨B, i, none⟩ = some (f i)
  fr : ∀ i, i < 16 → w.frozen? ⟨B, i, none⟩ = false
theorem Bk.below {w w' : World} {B : Nat} {f : Nat → Value} (h : Bk w B f) (hb : Below w.heap.size w w') : Bk w' B f :=
  ⟨Nat.lt_of_lt_of_le h.lt hb.size, fun i hi => (hb.cell (p := ⟨B, i, none⟩) h.lt).trans (h.cell i hi), fun i hi => (hb.frozen (p := ⟨B, i, none⟩) h.lt).trans (h.fr i hi)⟩
theorem Bk.other {w w' : World} {B : Nat} {f : Nat → Value} (h : Bk w B f) (hz : w.heap.size ≤ w'.heap.size) (hb : w'.heap[B]? = w.heap[B]?) : Bk w' B f :=
  ⟨Nat.lt_of_lt_of_le h.lt hz, fun i hi => by rw [← h.cell i hi]; simp only [World.cell?, hb], fun i hi => by rw [← h.fr i hi]; simp only [World.frozen?, hb]⟩
theorem Bk.set {w : World} {B : Nat} {f : Nat → Value} (h : Bk w B f) (i : Nat) (hi : i < 16) (v : Value) : Bk (w.setCell ⟨B, i, none⟩ v) B (fun j => if j = i then v else f j) := by
  refine ⟨by simp [World.setCell]; exact h.lt, fun j hj => ?_, fun j hj => by rw [World.frozen?_setCell]; exact h.fr j hj⟩
  by_cases e : j = i
  · subst e; rw [World.cell?_setCell_same _ _ _ (h.cell j hj), if_pos rfl]
  · rw [World.cell?_setCell_other _ _ _ _ (by intro e'; simp only [Addr.mk.injEq] at e'; omega), h.cell j hj, if_neg e]
theorem fillByte_nil (w : World) (B : Nat) (f : Nat → Value) (h : Bk w B f) (h0 : f 1 = .slice none 0 0) : Calls Tryz.prog 61 #[.pointer (some ⟨B, 0, none⟩)] w fun e w' => e = .returned (.tuple #[]) ∧ w' = w := by
  have c := h.cell 1 (by omega)
  rw [h0] at c
  clear h h0
  go_enter Tryz.func61, Tryz.ntmps61
  go_wp2
  go_loopg [2] 1 (fun _ i wr => i = .int .i64 0 ∧ wr = w)
  case atStart => exact ⟨rfl, rfl⟩
  case round =>
    obtain ⟨rfl, rfl⟩ := hrel
    go_wp2
    go_returns
    exact ⟨rfl, rfl⟩
theorem growByte_nil (w : World) (B : Nat) (f : Nat → Value) (h : Bk w B f) (h0 : f 1 = .slice none 0 0) : Calls Tryz.prog 76 #[.pointer (some ⟨B, 0, none⟩)] w fun e w' => e = .returned (.tuple #[]) ∧ w' = w := by
  have c := h.cell 1 (by omega)
  rw [h0] at c
  clear h h0
  go_enter Tryz.func76, Tryz.ntmps76
  go_wp2
  go_loopg [2] 1 (fun _ i wr => i = .int .i64 0 ∧ wr = w)
  case atStart => exact ⟨rfl, rfl⟩
  case round =>
    obtain ⟨rfl, rfl⟩ := hrel
    go_wp2
    go_returns
    exact ⟨rfl, rfl⟩
theorem lookByte_nil (w : World) (B : Nat) (f : Nat → Value) (h : Bk w B f) (h0 : f 1 = .slice none 0 0) : Calls Tryz.prog 91 #[.pointer (some ⟨B, 0, none⟩)] w fun e w' => e = .returned (.bool true) ∧ w' = w := by
  have c := h.cell 1 (by omega)
  rw [h0] at c
  clear h h0
  go_enter Tryz.func91, Tryz.ntmps91
  go_wp2
  go_loopg [3] 1 (fun _ i wr => i = .int .i64 0 ∧ wr = w)
  case atStart => exact ⟨rfl, rfl⟩
  case round =>
    obtain ⟨rfl, rfl⟩ := hrel
    go_wp2
    go_ret
    exact ⟨rfl, rfl⟩
theorem fillNumber_nil (w : World) (B : Nat) (f : Nat → Value) (h : Bk w B f) (h0 : f 3 = .slice none 0 0) : Calls Tryz.prog 63 #[.pointer (some ⟨B, 0, none⟩)] w fun e w' => e = .returned (.tuple #[]) ∧ w' = w := by
  have c := h.cell 3 (by omega)
  rw [h0] at c
  clear h h0
  go_enter Tryz.func63, Tryz.ntmps63
  go_wp2
  go_loopg [2] 1 (fun _ i wr => i = .int .i64 0 ∧ wr = w)
  case atStart => exact ⟨rfl, rfl⟩
  case round =>
    obtain ⟨rfl, rfl⟩ := hrel
    go_wp2
    go_returns
    exact ⟨rfl, rfl⟩
theorem growNumber_nil (w : World) (B : Nat) (f : Nat → Value) (h : Bk w B f) (h0 : f 3 = .slice none 0 0) : Calls Tryz.prog 78 #[.pointer (some ⟨B, 0, none⟩)] w fun e w' => e = .returned (.tuple #[]) ∧ w' = w := by
  have c := h.cell 3 (by omega)
  rw [h0] at c
  clear h h0
  go_enter Tryz.func78, Tryz.ntmps78
  go_wp2
  go_loopg [2] 1 (fun _ i wr => i = .int .i64 0 ∧ wr = w)
  case atStart => exact ⟨rfl, rfl⟩
  case round =>
    obtain ⟨rfl, rfl⟩ := hrel
    go_wp2
    go_returns
    exact ⟨rfl, rfl⟩
theorem lookNumber_nil (w : World) (B : Nat) (f : Nat → Value) (h : Bk w B f) (h0 : f 3 = .slice none 0 0) : Calls Tryz.prog 93 #[.pointer (some ⟨B, 0, none⟩)] w fun e w' => e = .returned (.bool true) ∧ w' = w := by
  have c := h.cell 3 (by omega)
  rw [h0] at c
  clear h h0
  go_enter Tryz.func93, Tryz.ntmps93
  go_wp2
  go_loopg [3] 1 (fun _ i wr => i = .int .i64 0 ∧ wr = w)
  case atStart => exact ⟨rfl, rfl⟩
  case round =>
    obtain ⟨rfl, rfl⟩ := hrel
    go_wp2
    go_ret
    exact ⟨rfl, rfl⟩
theorem fillId_nil (w : World) (B : Nat) (f : Nat → Value) (h : Bk w B f) (h0 : f 4 = .slice none 0 0) : Calls Tryz.prog 64 #[.pointer (some ⟨B, 0, none⟩)] w fun e w' => e = .returned (.tuple #[]) ∧ w' = w := by
  have c := h.cell 4 (by omega)
  rw [h0] at c
  clear h h0
  go_enter Tryz.func64, Tryz.ntmps64
  go_wp2
  go_loopg [2] 1 (fun _ i wr => i = .int .i64 0 ∧ wr = w)
  case atStart => exact ⟨rfl, rfl⟩
  case round =>
    obtain ⟨rfl, rfl⟩ := hrel
    go_wp2
    go_returns
    exact ⟨rfl, rfl⟩
theorem growId_nil (w : World) (B : Nat) (f : Nat → Value) (h : Bk w B f) (h0 : f 4 = .slice none 0 0) : Calls Tryz.prog 79 #[.pointer (some ⟨B, 0, none⟩)] w fun e w' => e = .returned (.tuple #[]) ∧ w' = w := by
  have c := h.cell 4 (by omega)
  rw [h0] at c
  clear h h0
  go_enter Tryz.func79, Tryz.ntmps79
  go_wp2
  go_loopg [2] 1 (fun _ i wr => i = .int .i64 0 ∧ wr = w)
  case atStart => exact ⟨rfl, rfl⟩
  case round =>
    obtain ⟨rfl, rfl⟩ := hrel
    go_wp2
    go_returns
    exact ⟨rfl, rfl⟩
theorem lookId_nil (w : World) (B : Nat) (f : Nat → Value) (h : Bk w B f) (h0 : f 4 = .slice none 0 0) : Calls Tryz.prog 94 #[.pointer (some ⟨B, 0, none⟩)] w fun e w' => e = .returned (.bool true) ∧ w' = w := by
  have c := h.cell 4 (by omega)
  rw [h0] at c
  clear h h0
  go_enter Tryz.func94, Tryz.ntmps94
  go_wp2
  go_loopg [3] 1 (fun _ i wr => i = .int .i64 0 ∧ wr = w)
  case atStart => exact ⟨rfl, rfl⟩
  case round =>
    obtain ⟨rfl, rfl⟩ := hrel
    go_wp2
    go_ret
    exact ⟨rfl, rfl⟩
theorem fillText_nil (w : World) (B : Nat) (f : Nat → Value) (h : Bk w B f) (h0 : f 5 = .slice none 0 0) : Calls Tryz.prog 65 #[.pointer (some ⟨B, 0, none⟩)] w fun e w' => e = .returned (.tuple #[]) ∧ w' = w := by
  have c := h.cell 5 (by omega)
  rw [h0] at c
  clear h h0
  go_enter Tryz.func65, Tryz.ntmps65
  go_wp2
  go_loopg [2] 1 (fun _ i wr => i = .int .i64 0 ∧ wr = w)
  case atStart => exact ⟨rfl, rfl⟩
  case round =>
    obtain ⟨rfl, rfl⟩ := hrel
    go_wp2
    go_returns
    exact ⟨rfl, rfl⟩
theorem growText_nil (w : World) (B : Nat) (f : Nat → Value) (h : Bk w B f) (h0 : f 5 = .slice none 0 0) : Calls Tryz.prog 80 #[.pointer (some ⟨B, 0, none⟩)] w fun e w' => e = .returned (.tuple #[]) ∧ w' = w := by
  have c := h.cell 5 (by omega)
  rw [h0] at c
  clear h h0
  go_enter Tryz.func80, Tryz.ntmps80
  go_wp2
  go_loopg [2] 1 (fun _ i wr => i = .int .i64 0 ∧ wr = w)
  case atStart => exact ⟨rfl, rfl⟩
  case round =>
    obtain ⟨rfl, rfl⟩ := hrel
    go_wp2
    go_returns
    exact ⟨rfl, rfl⟩
theorem lookText_nil (w : World) (B : Nat) (f : Nat → Value) (h : Bk w B f) (h0 : f 5 = .slice none 0 0) : Calls Tryz.prog 95 #[.pointer (some ⟨B, 0, none⟩)] w fun e w' => e = .returned (.bool true) ∧ w' = w := by
  have c := h.cell 5 (by omega)
  rw [h0] at c
  clear h h0
  go_enter Tryz.func95, Tryz.ntmps95
  go_wp2
  go_loopg [3] 1 (fun _ i wr => i = .int .i64 0 ∧ wr = w)
  case atStart => exact ⟨rfl, rfl⟩
  case round =>
    obtain ⟨rfl, rfl⟩ := hrel
    go_wp2
    go_ret
    exact ⟨rfl, rfl⟩
theorem fillTensor_nil (w : World) (B : Nat) (f : Nat → Value) (h : Bk w B f) (h0 : f 6 = .slice none 0 0) : Calls Tryz.prog 66 #[.pointer (some ⟨B, 0, none⟩)] w fun e w' => e = .returned (.tuple #[]) ∧ w' = w := by
  have c := h.cell 6 (by omega)
  rw [h0] at c
  clear h h0
  go_enter Tryz.func66, Tryz.ntmps66
  go_wp2
  go_loopg [2] 1 (fun _ i wr => i = .int .i64 0 ∧ wr = w)
  case atStart => exact ⟨rfl, rfl⟩
  case round =>
    obtain ⟨rfl, rfl⟩ := hrel
    go_wp2
    go_returns
    exact ⟨rfl, rfl⟩
theorem growTensor_nil (w : World) (B : Nat) (f : Nat → Value) (h : Bk w B f) (h0 : f 6 = .slice none 0 0) : Calls Tryz.prog 81 #[.pointer (some ⟨B, 0, none⟩)] w fun e w' => e = .returned (.tuple #[]) ∧ w' = w := by
  have c := h.cell 6 (by omega)
  rw [h0] at c
  clear h h0
  go_enter Tryz.func81, Tryz.ntmps81
  go_wp2
  go_loopg [2] 1 (fun _ i wr => i = .int .i64 0 ∧ wr = w)
  case atStart => exact ⟨rfl, rfl⟩
  case round =>
    obtain ⟨rfl, rfl⟩ := hrel
    go_wp2
    go_returns
    exact ⟨rfl, rfl⟩
theorem lookTensor_nil (w : World) (B : Nat) (f : Nat → Value) (h : Bk w B f) (h0 : f 6 = .slice none 0 0) : Calls Tryz.prog 96 #[.pointer (some ⟨B, 0, none⟩)] w fun e w' => e = .returned (.bool true) ∧ w' = w := by
  have c := h.cell 6 (by omega)
  rw [h0] at c
  clear h h0
  go_enter Tryz.func96, Tryz.ntmps96
  go_wp2
  go_loopg [3] 1 (fun _ i wr => i = .int .i64 0 ∧ wr = w)
  case atStart => exact ⟨rfl, rfl⟩
  case round =>
    obtain ⟨rfl, rfl⟩ := hrel
    go_wp2
    go_ret
    exact ⟨rfl, rfl⟩
theorem fillRecord_nil (w : World) (B : Nat) (f : Nat → Value) (h : Bk w B f) (h0 : f 10 = .slice none 0 0) : Calls Tryz.prog 70 #[.pointer (some ⟨B, 0, none⟩)] w fun e w' => e = .returned (.tuple #[]) ∧ w' = w := by
  have c := h.cell 10 (by omega)
  rw [h0] at c
  clear h h0
  go_enter Tryz.func70, Tryz.ntmps70
  go_wp2
  go_loopg [2] 1 (fun _ i wr => i = .int .i64 0 ∧ wr = w)
  case atStart => exact ⟨rfl, rfl⟩
  case round =>
    obtain ⟨rfl, rfl⟩ := hrel
    go_wp2
    go_returns
    exact ⟨rfl, rfl⟩
theorem growRecord_nil (w : World) (B : Nat) (f : Nat → Value) (h : Bk w B f) (h0 : f 10 = .slice none 0 0) : Calls Tryz.prog 85 #[.pointer (some ⟨B, 0, none⟩)] w fun e w' => e = .returned (.tuple #[]) ∧ w' = w := by
  have c := h.cell 10 (by omega)
  rw [h0] at c
  clear h h0
  go_enter Tryz.func85, Tryz.ntmps85
  go_wp2
  go_loopg [2] 1 (fun _ i wr => i = .int .i64 0 ∧ wr = w)
  case atStart => exact ⟨rfl, rfl⟩
  case round =>
    obtain ⟨rfl, rfl⟩ := hrel
    go_wp2
    go_returns
    exact ⟨rfl, rfl⟩
theorem lookRecord_nil (w : World) (B : Nat) (f : Nat → Value) (h : Bk w B f) (h0 : f 10 = .slice none 0 0) : Calls Tryz.prog 100 #[.pointer (some ⟨B, 0, none⟩)] w fun e w' => e = .returned (.bool true) ∧ w' = w := by
  have c := h.cell 10 (by omega)
  rw [h0] at c
  clear h h0
  go_enter Tryz.func100, Tryz.ntmps100
  go_wp2
  go_loopg [3] 1 (fun _ i wr => i = .int .i64 0 ∧ wr = w)
  case atStart => exact ⟨rfl, rfl⟩
  case round =>
    obtain ⟨rfl, rfl⟩ := hrel
    go_wp2
    go_ret
    exact ⟨rfl, rfl⟩
theorem fillPlace_nil (w : World) (B : Nat) (f : Nat → Value) (h : Bk w B f) (h0 : f 11 = .slice none 0 0) : Calls Tryz.prog 71 #[.pointer (some ⟨B, 0, none⟩)] w fun e w' => e = .returned (.tuple #[]) ∧ w' = w := by
  have c := h.cell 11 (by omega)
  rw [h0] at c
  clear h h0
  go_enter Tryz.func71, Tryz.ntmps71
  go_wp2
  go_loopg [2] 1 (fun _ i wr => i = .int .i64 0 ∧ wr = w)
  case atStart => exact ⟨rfl, rfl⟩
  case round =>
    obtain ⟨rfl, rfl⟩ := hrel
    go_wp2
    go_returns
    exact ⟨rfl, rfl⟩
theorem growPlace_nil (w : World) (B : Nat) (f : Nat → Value) (h : Bk w B f) (h0 : f 11 = .slice none 0 0) : Calls Tryz.prog 86 #[.pointer (some ⟨B, 0, none⟩)] w fun e w' => e = .returned (.tuple #[]) ∧ w' = w := by
  have c := h.cell 11 (by omega)
  rw [h0] at c
  clear h h0
  go_enter Tryz.func86, Tryz.ntmps86
  go_wp2
  go_loopg [2] 1 (fun _ i wr => i = .int .i64 0 ∧ wr = w)
  case atStart => exact ⟨rfl, rfl⟩
  case round =>
    obtain ⟨rfl, rfl⟩ := hrel
    go_wp2
    go_returns
    exact ⟨rfl, rfl⟩
theorem lookPlace_nil (w : World) (B : Nat) (f : Nat → Value) (h : Bk w B f) (h0 : f 11 = .slice none 0 0) : Calls Tryz.prog 101 #[.pointer (some ⟨B, 0, none⟩)] w fun e w' => e = .returned (.bool true) ∧ w' = w := by
  have c := h.cell 11 (by omega)
  rw [h0] at c
  clear h h0
  go_enter Tryz.func101, Tryz.ntmps101
  go_wp2
  go_loopg [3] 1 (fun _ i wr => i = .int .i64 0 ∧ wr = w)
  case atStart => exact ⟨rfl, rfl⟩
  case round =>
    obtain ⟨rfl, rfl⟩ := hrel
    go_wp2
    go_ret
    exact ⟨rfl, rfl⟩
theorem fillAsk_nil (w : World) (B : Nat) (f : Nat → Value) (h : Bk w B f) (h0 : f 12 = .slice none 0 0) : Calls Tryz.prog 72 #[.pointer (some ⟨B, 0, none⟩)] w fun e w' => e = .returned (.tuple #[]) ∧ w' = w := by
  have c := h.cell 12 (by omega)
  rw [h0] at c
  clear h h0
  go_enter Tryz.func72, Tryz.ntmps72
  go_wp2
  go_loopg [2] 1 (fun _ i wr => i = .int .i64 0 ∧ wr = w)
  case atStart => exact ⟨rfl, rfl⟩
  case round =>
    obtain ⟨rfl, rfl⟩ := hrel
    go_wp2
    go_returns
    exact ⟨rfl, rfl⟩
theorem growAsk_nil (w : World) (B : Nat) (f : Nat → Value) (h : Bk w B f) (h0 : f 12 = .slice none 0 0) : Calls Tryz.prog 87 #[.pointer (some ⟨B, 0, none⟩)] w fun e w' => e = .returned (.tuple #[]) ∧ w' = w := by
  have c := h.cell 12 (by omega)
  rw [h0] at c
  clear h h0
  go_enter Tryz.func87, Tryz.ntmps87
  go_wp2
  go_loopg [2] 1 (fun _ i wr => i = .int .i64 0 ∧ wr = w)
  case atStart => exact ⟨rfl, rfl⟩
  case round =>
    obtain ⟨rfl, rfl⟩ := hrel
    go_wp2
    go_returns
    exact ⟨rfl, rfl⟩
theorem lookAsk_nil (w : World) (B : Nat) (f : Nat → Value) (h : Bk w B f) (h0 : f 12 = .slice none 0 0) : Calls Tryz.prog 102 #[.pointer (some ⟨B, 0, none⟩)] w fun e w' => e = .returned (.bool true) ∧ w' = w := by
  have c := h.cell 12 (by omega)
  rw [h0] at c
  clear h h0
  go_enter Tryz.func102, Tryz.ntmps102
  go_wp2
  go_loopg [3] 1 (fun _ i wr => i = .int .i64 0 ∧ wr = w)
  case atStart => exact ⟨rfl, rfl⟩
  case round =>
    obtain ⟨rfl, rfl⟩ := hrel
    go_wp2
    go_ret
    exact ⟨rfl, rfl⟩
theorem fillDone_nil (w : World) (B : Nat) (f : Nat → Value) (h : Bk w B f) (h0 : f 13 = .slice none 0 0) : Calls Tryz.prog 73 #[.pointer (some ⟨B, 0, none⟩)] w fun e w' => e = .returned (.tuple #[]) ∧ w' = w := by
  have c := h.cell 13 (by omega)
  rw [h0] at c
  clear h h0
  go_enter Tryz.func73, Tryz.ntmps73
  go_wp2
  go_loopg [2] 1 (fun _ i wr => i = .int .i64 0 ∧ wr = w)
  case atStart => exact ⟨rfl, rfl⟩
  case round =>
    obtain ⟨rfl, rfl⟩ := hrel
    go_wp2
    go_returns
    exact ⟨rfl, rfl⟩
theorem growDone_nil (w : World) (B : Nat) (f : Nat → Value) (h : Bk w B f) (h0 : f 13 = .slice none 0 0) : Calls Tryz.prog 88 #[.pointer (some ⟨B, 0, none⟩)] w fun e w' => e = .returned (.tuple #[]) ∧ w' = w := by
  have c := h.cell 13 (by omega)
  rw [h0] at c
  clear h h0
  go_enter Tryz.func88, Tryz.ntmps88
  go_wp2
  go_loopg [2] 1 (fun _ i wr => i = .int .i64 0 ∧ wr = w)
  case atStart => exact ⟨rfl, rfl⟩
  case round =>
    obtain ⟨rfl, rfl⟩ := hrel
    go_wp2
    go_returns
    exact ⟨rfl, rfl⟩
theorem lookDone_nil (w : World) (B : Nat) (f : Nat → Value) (h : Bk w B f) (h0 : f 13 = .slice none 0 0) : Calls Tryz.prog 103 #[.pointer (some ⟨B, 0, none⟩)] w fun e w' => e = .returned (.bool true) ∧ w' = w := by
  have c := h.cell 13 (by omega)
  rw [h0] at c
  clear h h0
  go_enter Tryz.func103, Tryz.ntmps103
  go_wp2
  go_loopg [3] 1 (fun _ i wr => i = .int .i64 0 ∧ wr = w)
  case atStart => exact ⟨rfl, rfl⟩
  case round =>
    obtain ⟨rfl, rfl⟩ := hrel
    go_wp2
    go_ret
    exact ⟨rfl, rfl⟩
theorem fillGrid_nil (w : World) (B : Nat) (f : Nat → Value) (h : Bk w B f) (h0 : f 14 = .slice none 0 0) : Calls Tryz.prog 74 #[.pointer (some ⟨B, 0, none⟩)] w fun e w' => e = .returned (.tuple #[]) ∧ w' = w := by
  have c := h.cell 14 (by omega)
  rw [h0] at c
  clear h h0
  go_enter Tryz.func74, Tryz.ntmps74
  go_wp2
  go_loopg [2] 1 (fun _ i wr => i = .int .i64 0 ∧ wr = w)
  case atStart => exact ⟨rfl, rfl⟩
  case round =>
    obtain ⟨rfl, rfl⟩ := hrel
    go_wp2
    go_returns
    exact ⟨rfl, rfl⟩
theorem growGrid_nil (w : World) (B : Nat) (f : Nat → Value) (h : Bk w B f) (h0 : f 14 = .slice none 0 0) : Calls Tryz.prog 89 #[.pointer (some ⟨B, 0, none⟩)] w fun e w' => e = .returned (.tuple #[]) ∧ w' = w := by
  have c := h.cell 14 (by omega)
  rw [h0] at c
  clear h h0
  go_enter Tryz.func89, Tryz.ntmps89
  go_wp2
  go_loopg [2] 1 (fun _ i wr => i = .int .i64 0 ∧ wr = w)
  case atStart => exact ⟨rfl, rfl⟩
  case round =>
    obtain ⟨rfl, rfl⟩ := hrel
    go_wp2
    go_returns
    exact ⟨rfl, rfl⟩
theorem lookGrid_nil (w : World) (B : Nat) (f : Nat → Value) (h : Bk w B f) (h0 : f 14 = .slice none 0 0) : Calls Tryz.prog 104 #[.pointer (some ⟨B, 0, none⟩)] w fun e w' => e = .returned (.bool true) ∧ w' = w := by
  have c := h.cell 14 (by omega)
  rw [h0] at c
  clear h h0
  go_enter Tryz.func104, Tryz.ntmps104
  go_wp2
  go_loopg [3] 1 (fun _ i wr => i = .int .i64 0 ∧ wr = w)
  case atStart => exact ⟨rfl, rfl⟩
  case round =>
    obtain ⟨rfl, rfl⟩ := hrel
    go_wp2
    go_ret
    exact ⟨rfl, rfl⟩
theorem fillList_nil (w : World) (B : Nat) (f : Nat → Value) (h : Bk w B f) (h0 : f 15 = .slice none 0 0) : Calls Tryz.prog 75 #[.pointer (some ⟨B, 0, none⟩)] w fun e w' => e = .returned (.tuple #[]) ∧ w' = w := by
  have c := h.cell 15 (by omega)
  rw [h0] at c
  clear h h0
  go_enter Tryz.func75, Tryz.ntmps75
  go_wp2
  go_loopg [2] 1 (fun _ i wr => i = .int .i64 0 ∧ wr = w)
  case atStart => exact ⟨rfl, rfl⟩
  case round =>
    obtain ⟨rfl, rfl⟩ := hrel
    go_wp2
    go_returns
    exact ⟨rfl, rfl⟩
theorem growList_nil (w : World) (B : Nat) (f : Nat → Value) (h : Bk w B f) (h0 : f 15 = .slice none 0 0) : Calls Tryz.prog 90 #[.pointer (some ⟨B, 0, none⟩)] w fun e w' => e = .returned (.tuple #[]) ∧ w' = w := by
  have c := h.cell 15 (by omega)
  rw [h0] at c
  clear h h0
  go_enter Tryz.func90, Tryz.ntmps90
  go_wp2
  go_loopg [2] 1 (fun _ i wr => i = .int .i64 0 ∧ wr = w)
  case atStart => exact ⟨rfl, rfl⟩
  case round =>
    obtain ⟨rfl, rfl⟩ := hrel
    go_wp2
    go_returns
    exact ⟨rfl, rfl⟩
theorem lookList_nil (w : World) (B : Nat) (f : Nat → Value) (h : Bk w B f) (h0 : f 15 = .slice none 0 0) : Calls Tryz.prog 105 #[.pointer (some ⟨B, 0, none⟩)] w fun e w' => e = .returned (.bool true) ∧ w' = w := by
  have c := h.cell 15 (by omega)
  rw [h0] at c
  clear h h0
  go_enter Tryz.func105, Tryz.ntmps105
  go_wp2
  go_loopg [3] 1 (fun _ i wr => i = .int .i64 0 ∧ wr = w)
  case atStart => exact ⟨rfl, rfl⟩
  case round =>
    obtain ⟨rfl, rfl⟩ := hrel
    go_wp2
    go_ret
    exact ⟨rfl, rfl⟩
end Go.Proofs.YtekejcnphmnidaaGreatDoor
