/-
  slices swapRangeCmpFunc: contract swapRange_any.
-/
import Derived.Test.YtgmagldbfajedaaStBase
namespace Go.Proofs.Ytgmagldbfajedaa
open Go.RowKit Go.Sort

set_option maxHeartbeats 4000000 in
set_option maxRecDepth 100000 in
theorem swapRange_any (blk off n cap : Nat) (dom : Int → Prop) (w0 : World) (d : Array Int) (fv : Value) (a b m : Nat) (w : World) (S : SV blk off n dom w0 d w) (hn : n < 4611686018427387904) (ha : a + m ≤ n) (hb : b + m ≤ n) :
    Calls Try.prog 158 #[.slice (some ⟨blk, off, none⟩) n cap, .int .i64 a, .int .i64 b, .int .i64 m, fv] w fun e w' => e = .returned (.tuple #[]) ∧ SV blk off n dom w0 (St.swR a b 0 m d) w' := by
  have S0 := Lib.hid S; clear S
  go_enter Try.func158, Try.ntmps158
  go_wp2
  go_loopg [10] m (fun gg vi wr => ∃ (i : Nat) (dk : Array Int), vi = .int .i64 i ∧ i ≤ m ∧ m - i ≤ gg ∧ Hid (SV blk off n dom w0 dk wr) ∧ Hid (St.swR a b i (m - i) dk = St.swR a b 0 m d))
  case atStart => exact ⟨0, d, rfl, by omega, by omega, S0, rfl⟩
  case round =>
    clear S0
    obtain ⟨i, dk, rfl, hi, hg, S, HO⟩ := hrel
    by_cases hlt : i < m
    · have hltz : (i : Int) < (m : Int) := by omega
      obtain ⟨iN, hiN⟩ : ∃ q, q = a + i := ⟨_, rfl⟩
      obtain ⟨jN, hjN⟩ : ∃ q, q = b + i := ⟨_, rfl⟩
      have ea : ((a : Int) + (i : Int)).toNat = iN := by omega
      have pa : (0 : Int) ≤ (a : Int) + (i : Int) := by omega
      have ba : (a : Int) + (i : Int) < (n : Int) := by omega
      have ra : IntKind.i64.wrap ((a : Int) + (i : Int)) = (a : Int) + (i : Int) := by rw [IntKind.wrap_i64]; omega
      have ec : ((b : Int) + (i : Int)).toNat = jN := by omega
      have pc : (0 : Int) ≤ (b : Int) + (i : Int) := by omega
      have bc : (b : Int) + (i : Int) < (n : Int) := by omega
      have rc : IntKind.i64.wrap ((b : Int) + (i : Int)) = (b : Int) + (i : Int) := by rw [IntKind.wrap_i64]; omega
      obtain ⟨x, hx⟩ : ∃ x, x = dk[a + i]! := ⟨_, rfl⟩
      obtain ⟨y, hy⟩ : ∃ x, x = dk[b + i]! := ⟨_, rfl⟩
      have S3 : Hid (SV blk off n dom w0 (swp dk (a + i) (b + i)) ((wr.setCell ⟨blk, off + iN, none⟩ (.int .i64 y)).setCell ⟨blk, off + jN, none⟩ (.int .i64 x)).drew) := by
        rw [hiN, hjN, hx, hy]; exact (S.out.swap (a + i) (b + i) (by omega) (by omega)).drew
      have c1a := S.out.c1 (a + i) (by omega)
      have c1b := S.out.c1 (b + i) (by omega)
      have f1a := S.out.f1 (a + i) (by omega)
      have f1b := S.out.f1 (b + i) (by omega)
      obtain ⟨u, c1c⟩ := S.out.c2 (a + i) (b + i) (by omega) (by omega) (.int .i64 y)
      rw [← hjN, ← hiN] at c1c
      rw [← hx, ← hiN] at c1a
      rw [← hy, ← hjN] at c1b
      rw [← hiN] at f1a
      rw [← hjN] at f1b
      clear S hx hy hiN hjN
      go_wp2_with fail
      go_big_region
      clear c1a c1b c1c f1a f1b
      generalize ((wr.setCell ⟨blk, off + iN, none⟩ (.int .i64 y)).setCell ⟨blk, off + jN, none⟩ (.int .i64 x)).drew = w3 at S3 ⊢
      clear ea ec ra rc
      go_wp2
      go_roundg (m - (i + 1))
      case measure => omega
      case rel => exact ⟨i + 1, swp dk (a + i) (b + i), by go_num, by omega, by omega, S3, by
        show _ = _
        rw [← HO.out]
        obtain ⟨r, hr⟩ : ∃ r, m - i = r + 1 := ⟨m - i - 1, by omega⟩
        rw [hr, show m - (i + 1) = r by omega]; rfl⟩
    · have hltz : ¬ (i : Int) < (m : Int) := by omega
      go_wp2
      go_end0
      refine ⟨rfl, ?_⟩
      rw [← HO.out, show m - i = 0 by omega]
      exact S.out
end Go.Proofs.Ytgmagldbfajedaa
