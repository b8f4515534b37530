/-
  slices symMergeCmpFunc, part 2: the walk of the two searches.
-/
import Derived.Test.YtgmagldbfajedaaStSym1
namespace Go.Proofs.Ytgmagldbfajedaa
open Go.RowKit Go.Sort

set_option maxHeartbeats 8000000 in
set_option maxRecDepth 1000000 in
theorem sym2_any (blk off n cap : Nat) (dom : Int → Prop) (w0 : World) (d : Array Int) (g : Nat) (cb : Array Value) (cf : Int → Int → Int) (a m b : Nat) (w : World) (hm : b = m + 1)
    (eg : ∀ args w, (callFunc g args).run Try.prog w = .ok (.enter g args) w) (hc : CmpOk g cb cf dom blk w0) (S : SV blk off n dom w0 d w) (hn : n < 4611686018427387904) (ham : a + 1 < m) (hb : b ≤ n) :
    Calls Try.prog 133 #[.slice (some ⟨blk, off, none⟩) n cap, .int .i64 a, .int .i64 m, .int .i64 b, .func (.func g) #[] cb] w fun e w' => e = .returned (.tuple #[]) ∧ SV blk off n dom w0 (St.dnSw m (m - St.bs (St.p2 (ltc cf) d m) a m) d) w' := by
  have mixed := mixed
  have HC := Lib.hid hc; clear hc
  have S0 := Lib.hid S; clear S
  have et : ((m : Int) - (a : Int) == 1) = false := by simp; omega
  have et2 : ((b : Int) - (m : Int) == 1) = true := by simp; omega
  have hm1 : m + 1 ≤ b := by omega
  have hm2 : b ≤ m + 1 := by omega
  have HM := Lib.hid hm; clear hm
  go_enter Try.func133, Try.ntmps133
  go_wp2
  go_loopg [14, 15, 16] m (fun gg vi vj vh wr => ∃ (i j : Nat), vi = .int .i64 i ∧ vj = .int .i64 j ∧ a ≤ i ∧ i ≤ j ∧ j ≤ m ∧ j - i ≤ gg ∧ Hid (SV blk off n dom w0 d wr) ∧ Hid (St.bs (St.p2 (ltc cf) d m) i j = St.bs (St.p2 (ltc cf) d m) a m))
  case atStart => exact ⟨a, m, rfl, rfl, by omega, by omega, by omega, by omega, S0, rfl⟩
  case round =>
    clear S0
    obtain ⟨i, j, rfl, rfl, hai, hij, hjb, hg, S, HO⟩ := hrel
    by_cases hlt : i < j
    · have hltz : (i : Int) < (j : Int) := by omega
      obtain ⟨h, hh⟩ : ∃ q, q = (i + j) / 2 := ⟨_, rfl⟩
      have eh : ((i : Int) + (j : Int)) / 2 = (h : Int) := by omega
      have h1 : i ≤ h := by omega
      have h2 : h < j := by omega
      have HH := Lib.hid hh; clear hh
      have pa : (0 : Int) ≤ (h : Int) := by omega
      have ba : (h : Int) < (n : Int) := by omega
      have bc : (m : Int) < (n : Int) := by omega
      have dx := S.out.dom m (by omega)
      have dy := S.out.dom h (by omega)
      obtain ⟨x, hx⟩ : ∃ x, x = d[m]! := ⟨_, rfl⟩
      obtain ⟨y, hy⟩ : ∃ x, x = d[h]! := ⟨_, rfl⟩
      have la := S.out.cl m (by omega)
      have lb := S.out.cl h (by omega)
      rw [← hx] at la
      rw [← hy] at lb
      have hcc := S.out.cmp HC.out x y (by rw [hx]; exact dx) (by rw [hy]; exact dy)
      have HP : Hid (St.p2 (ltc cf) d m h = !decide (cf x y < 0)) := by show _ = _; rw [hx, hy]; rfl
      clear hx hy dx dy
      cases hd : decide (cf x y < 0) with
      | false =>
        have hv : ¬ cf x y < 0 := of_decide_eq_false hd
        have HB := Lib.hid (bs_yes (St.p2 (ltc cf) d m) i j h HH.out hlt (by rw [HP.out, hd]; rfl))
        go_wp2_with fail
        go_quiet_grown (first | (go_at_fn g; refine Calls.grown_of (hcc _ _)))
        have S2 : Hid (SV blk off n dom w0 d (grow (wr.drewN nq) osq)) := S.out.more ⟨nq, osq, rfl⟩
        clear la lb hcc S
        generalize grow (wr.drewN nq) osq = w2 at S2 ⊢
        clear nq osq
        go_wp2
        go_roundg (j - (h + 1))
        case measure => omega
        case rel => exact ⟨h + 1, j, by go_num, rfl, by omega, by omega, by omega, by omega, S2, by show _ = _; rw [← HB.out]; exact HO.out⟩
      | true =>
        have hv : cf x y < 0 := of_decide_eq_true hd
        have HB := Lib.hid (bs_no (St.p2 (ltc cf) d m) i j h HH.out hlt (by rw [HP.out, hd]; rfl))
        go_wp2_with fail
        go_quiet_grown (first | (go_at_fn g; refine Calls.grown_of (hcc _ _)))
        have S2 : Hid (SV blk off n dom w0 d (grow (wr.drewN nq) osq)) := S.out.more ⟨nq, osq, rfl⟩
        clear la lb hcc S
        generalize grow (wr.drewN nq) osq = w2 at S2 ⊢
        clear nq osq
        go_wp2
        go_roundg (h - i)
        case measure => omega
        case rel => exact ⟨i, h, rfl, by go_num, by omega, by omega, by omega, by omega, S2, by show _ = _; rw [← HB.out]; exact HO.out⟩
    · have hltz : ¬ (i : Int) < (j : Int) := by omega
      have HF : Hid (St.bs (St.p2 (ltc cf) d m) a m = i) := by show _ = _; rw [← HO.out, bs_end _ _ _ hlt]
      clear HO
      go_wp2
      go_loopg [17] (m - i) (fun gg vk wr => ∃ (k : Nat) (dk : Array Int), vk = .int .i64 k ∧ k ≤ m ∧ i ≤ k ∧ k - i ≤ gg ∧ Hid (SV blk off n dom w0 dk wr) ∧ Hid (St.dnSw k (k - i) dk = St.dnSw m (m - i) d))
      case atStart => exact ⟨m, d, rfl, by omega, by omega, by omega, S, rfl⟩
      case round =>
        clear S
        obtain ⟨k, dk, rfl, hak, hki, hg2, S, HO⟩ := hrel
        by_cases hlk : i < k
        · obtain ⟨kp, hkp⟩ : ∃ q, q + 1 = k := ⟨k - 1, by omega⟩
          have zkp : (k : Int) = (kp : Int) + 1 := by omega
          have hlz : (i : Int) < (kp : Int) + 1 := by omega
          obtain ⟨iN, hiN⟩ : ∃ q, q = k := ⟨_, rfl⟩
          obtain ⟨jN, hjN⟩ : ∃ q, q = k - 1 := ⟨_, rfl⟩
          have ea : ((kp : Int) + 1).toNat = iN := by omega
          have pa : (0 : Int) ≤ (kp : Int) + 1 := by omega
          have ba : (kp : Int) + 1 < (n : Int) := by omega
          have ra : IntKind.i64.wrap ((kp : Int) + 1) = (kp : Int) + 1 := by rw [IntKind.wrap_i64]; omega
          have ec : ((kp : Int)).toNat = jN := by omega
          have pc : (0 : Int) ≤ (kp : Int) := by omega
          have bc : (kp : Int) < (n : Int) := by omega
          have rc : IntKind.i64.wrap ((kp : Int)) = (kp : Int) := by rw [IntKind.wrap_i64]; omega
          obtain ⟨x, hx⟩ : ∃ x, x = dk[k]! := ⟨_, rfl⟩
          obtain ⟨y, hy⟩ : ∃ x, x = dk[k - 1]! := ⟨_, rfl⟩
          have S3 : Hid (SV blk off n dom w0 (swp dk k (k - 1)) ((wr.setCell ⟨blk, off + iN, none⟩ (.int .i64 y)).setCell ⟨blk, off + jN, none⟩ (.int .i64 x)).drew) := by
            rw [hiN, hjN, hx, hy]; exact (S.out.swap k (k - 1) (by omega) (by omega)).drew
          have c1a := S.out.c1 k (by omega)
          have c1b := S.out.c1 (k - 1) (by omega)
          have f1a := S.out.f1 k (by omega)
          have f1b := S.out.f1 (k - 1) (by omega)
          obtain ⟨u, c1c⟩ := S.out.c2 k (k - 1) (by omega) (by omega) (.int .i64 y)
          rw [← hjN, ← hiN] at c1c
          rw [← hx, ← hiN] at c1a
          rw [← hy, ← hjN] at c1b
          rw [← hiN] at f1a
          rw [← hjN] at f1b
          clear S hx hy hjN hiN
          go_wp2_with fail
          go_big_region
          clear c1a c1b c1c f1a f1b
          generalize ((wr.setCell ⟨blk, off + iN, none⟩ (.int .i64 y)).setCell ⟨blk, off + jN, none⟩ (.int .i64 x)).drew = w3 at S3 ⊢
          clear ea ec
          go_wp2
          go_roundg (k - 1 - i)
          case measure => omega
          case rel => exact ⟨k - 1, swp dk k (k - 1), by first | rfl | go_num | (congr 1; omega), by omega, by omega, by omega, S3, by
            show _ = _
            rw [← HO.out]
            obtain ⟨r, hr⟩ : ∃ r, k - i = r + 1 := ⟨k - i - 1, by omega⟩
            rw [hr, show k - 1 - i = r by omega]; rfl⟩
        · have hlz : decide ((k : Int) > (i : Int)) = false := decide_eq_false (by omega)
          have hlz' : ¬ (i : Int) < (k : Int) := by omega
          go_wp2
          refine bodyPost_ret (results_none rfl _ _ _) rfl ?_
          refine ⟨rfl, ?_⟩
          rw [HF.out, ← HO.out, show k - i = 0 by omega]
          exact S.out
end Go.Proofs.Ytgmagldbfajedaa
