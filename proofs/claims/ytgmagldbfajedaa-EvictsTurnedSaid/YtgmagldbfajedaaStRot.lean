/-
  slices rotateCmpFunc: contract rotate_any.
-/
import Derived.Test.YtgmagldbfajedaaStSwap
namespace Go.Proofs.Ytgmagldbfajedaa
open Go.RowKit Go.Sort

theorem rotL_eq (m f i : Nat) (d : Array Int) (hf : 0 < f) : St.rotL m f i i d = St.swR (m - i) m 0 i d := by
  cases f with
  | zero => omega
  | succ f => unfold St.rotL; rw [if_pos rfl]
theorem rotL_gt (m f i j : Nat) (d : Array Int) (h : j < i) : St.rotL m (f + 1) i j d = St.rotL m f (i - j) j (St.swR (m - i) m 0 j d) := by
  conv => lhs; unfold St.rotL
  rw [if_neg (by omega), if_pos h]
theorem rotL_lt (m f i j : Nat) (d : Array Int) (h : i < j) : St.rotL m (f + 1) i j d = St.rotL m f i (j - i) (St.swR (m - i) (m + j - i) 0 i d) := by
  conv => lhs; unfold St.rotL
  rw [if_neg (by omega), if_neg (by omega)]

set_option maxHeartbeats 4000000 in
set_option maxRecDepth 100000 in
theorem rotate_any (blk off n cap : Nat) (dom : Int → Prop) (w0 : World) (d : Array Int) (fv : Value) (a m b : Nat) (w : World) (S : SV blk off n dom w0 d w) (hn : n < 4611686018427387904) (ham : a < m) (hmb : m < b) (hb : b ≤ n) :
    Calls Try.prog 146 #[.slice (some ⟨blk, off, none⟩) n cap, .int .i64 a, .int .i64 m, .int .i64 b, fv] w fun e w' => e = .returned (.tuple #[]) ∧ SV blk off n dom w0 (St.rotate d a m b) w' := by
  have S0 := Lib.hid S; clear S
  have es : IntKind.i64.wrap ((m : Int) - (a : Int)) = ((m - a : Nat) : Int) := by rw [IntKind.wrap_i64]; omega
  have et : IntKind.i64.wrap ((b : Int) - (m : Int)) = ((b - m : Nat) : Int) := by rw [IntKind.wrap_i64]; omega
  go_enter Try.func146, Try.ntmps146
  go_wp2
  go_loopg [10, 11] (b - a) (fun gg vi vj wr => ∃ (i j f : Nat) (dk : Array Int), vi = .int .i64 i ∧ vj = .int .i64 j ∧ 0 < i ∧ 0 < j ∧ a + i ≤ m ∧ m + j ≤ b ∧ i + j ≤ gg ∧ i + j ≤ f ∧ Hid (SV blk off n dom w0 dk wr) ∧ Hid (St.rotL m f i j dk = St.rotate d a m b))
  case atStart => exact ⟨m - a, b - m, b - a, d, by first | rfl | (congr 1; omega), by first | rfl | (congr 1; omega), by omega, by omega, by omega, by omega, by omega, by omega, S0, rfl⟩
  case round =>
    clear S0 es et
    obtain ⟨i, j, f, dk, rfl, rfl, hi, hj, hia, hjb, hg, hf, S, HO⟩ := hrel
    obtain ⟨f, rfl⟩ : ∃ q, f = q + 1 := ⟨f - 1, by omega⟩
    have e1 : (m : Int) - (i : Int) = ((m - i : Nat) : Int) := by omega
    rcases Nat.lt_trichotomy i j with hlt | heq | hgt
    · have e2 : (m : Int) + (j : Int) - (i : Int) = ((m + j - i : Nat) : Int) := by omega
      have hne : ((i : Int) != (j : Int)) = true := by simp; omega
      have hd : decide ((i : Int) > (j : Int)) = false := decide_eq_false (by omega)
      go_wp2_with fail
      refine (swapRange_any blk off n cap dom w0 dk fv (m - i) (m + j - i) i _ S.out hn (by omega) (by omega)).mono ?_
      rintro e w1 ⟨rfl, hs⟩
      have S1 := Lib.hid hs; clear hs S
      go_wp2
      go_roundg (i + (j - i))
      case measure => omega
      case rel => exact ⟨i, j - i, f, _, by go_num, by go_num, by omega, by omega, by omega, by omega, by omega, by omega, S1, by show _ = _; rw [← HO.out, rotL_lt _ _ _ _ _ hlt]⟩
    · subst heq
      have hne : ((i : Int) != (i : Int)) = false := by simp
      go_wp2_with fail
      refine (swapRange_any blk off n cap dom w0 dk fv (m - i) m i _ S.out hn (by omega) (by omega)).mono ?_
      rintro e w1 ⟨rfl, hs⟩
      have S1 := Lib.hid hs; clear hs S
      go_wp2
      go_end0
      refine ⟨rfl, ?_⟩
      rw [← HO.out, rotL_eq _ _ _ _ (by omega)]
      exact S1.out
    · have hne : ((i : Int) != (j : Int)) = true := by simp; omega
      have hd : decide ((i : Int) > (j : Int)) = true := decide_eq_true (by omega)
      go_wp2_with fail
      refine (swapRange_any blk off n cap dom w0 dk fv (m - i) m j _ S.out hn (by omega) (by omega)).mono ?_
      rintro e w1 ⟨rfl, hs⟩
      have S1 := Lib.hid hs; clear hs S
      go_wp2
      go_roundg (i - j + j)
      case measure => omega
      case rel => exact ⟨i - j, j, f, _, by go_num, by go_num, by omega, by omega, by omega, by omega, by omega, by omega, S1, by show _ = _; rw [← HO.out, rotL_gt _ _ _ _ _ hgt]⟩
end Go.Proofs.Ytgmagldbfajedaa
