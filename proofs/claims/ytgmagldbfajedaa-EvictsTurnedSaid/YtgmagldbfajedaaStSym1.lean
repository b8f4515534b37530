/-
  slices symMergeCmpFunc, part 1: the plain spec and the search.
-/
import Derived.Test.YtgmagldbfajedaaStIns
namespace Go.Proofs.Ytgmagldbfajedaa
open Go.RowKit Go.Sort

theorem bs_yes (p : Nat → Bool) (i j h : Nat) (hh : h = (i + j) / 2) (hlt : i < j) (hp : p h = true) : St.bs p i j = St.bs p (h + 1) j := by
  subst hh; conv => lhs; rw [St.bs]
  rw [if_pos hlt, if_pos hp]
theorem bs_no (p : Nat → Bool) (i j h : Nat) (hh : h = (i + j) / 2) (hlt : i < j) (hp : p h = false) : St.bs p i j = St.bs p i h := by
  subst hh; conv => lhs; rw [St.bs]
  rw [if_pos hlt, hp]; rfl
theorem bs_end (p : Nat → Bool) (i j : Nat) (hlt : ¬ i < j) : St.bs p i j = i := by rw [St.bs, if_neg hlt]

set_option maxHeartbeats 8000000 in
set_option maxRecDepth 1000000 in
theorem sym1_any (blk off n cap : Nat) (dom : Int → Prop) (w0 : World) (d : Array Int) (g : Nat) (cb : Array Value) (cf : Int → Int → Int) (a m b : Nat) (w : World) (hm : m = a + 1)
    (eg : ∀ args w, (callFunc g args).run Try.prog w = .ok (.enter g args) w) (hc : CmpOk g cb cf dom blk w0) (S : SV blk off n dom w0 d w) (hn : n < 4611686018427387904) (hab : a + 1 < b) (hb : b ≤ n) :
    Calls Try.prog 133 #[.slice (some ⟨blk, off, none⟩) n cap, .int .i64 a, .int .i64 m, .int .i64 b, .func (.func g) #[] cb] w fun e w' => e = .returned (.tuple #[]) ∧ SV blk off n dom w0 (St.upSw a (St.bs (St.p1 (ltc cf) d a) m b - 1 - a) d) w' := by
  have mixed := mixed
  have HC := Lib.hid hc; clear hc
  have S0 := Lib.hid S; clear S
  have et : ((m : Int) - (a : Int) == 1) = true := by simp; omega
  have hm1 : a + 1 ≤ m := by omega
  have hm2 : m ≤ a + 1 := by omega
  have HM := Lib.hid hm; clear hm
  go_enter Try.func133, Try.ntmps133
  go_wp2
  go_loopg [10, 11, 12] b (fun gg vi vj vh wr => ∃ (i j : Nat), vi = .int .i64 i ∧ vj = .int .i64 j ∧ a + 1 ≤ i ∧ i ≤ j ∧ j ≤ b ∧ j - i ≤ gg ∧ Hid (SV blk off n dom w0 d wr) ∧ Hid (St.bs (St.p1 (ltc cf) d a) i j = St.bs (St.p1 (ltc cf) d a) m b))
  case atStart => exact ⟨m, b, rfl, rfl, by omega, by omega, by omega, by omega, S0, rfl⟩
  case round =>
    clear S0
    obtain ⟨i, j, rfl, rfl, hai, hij, hjb, hg, S, HO⟩ := hrel
    by_cases hlt : i < j
    · have hltz : (i : Int) < (j : Int) := by omega
      obtain ⟨h, hh⟩ : ∃ q, q = (i + j) / 2 := ⟨_, rfl⟩
      have eh : ((i : Int) + (j : Int)) / 2 = (h : Int) := by omega
      have h1 : i ≤ h := by omega
      have h2 : h < j := by omega
      have HH := Lib.hid hh; clear hh
      have pa : (0 : Int) ≤ (h : Int) := by omega
      have ba : (h : Int) < (n : Int) := by omega
      have bc : (a : Int) < (n : Int) := by omega
      have dx := S.out.dom h (by omega)
      have dy := S.out.dom a (by omega)
      obtain ⟨x, hx⟩ : ∃ x, x = d[h]! := ⟨_, rfl⟩
      obtain ⟨y, hy⟩ : ∃ x, x = d[a]! := ⟨_, rfl⟩
      have la := S.out.cl h (by omega)
      have lb := S.out.cl a (by omega)
      rw [← hx] at la
      rw [← hy] at lb
      have hcc := S.out.cmp HC.out x y (by rw [hx]; exact dx) (by rw [hy]; exact dy)
      have HP : Hid (St.p1 (ltc cf) d a h = decide (cf x y < 0)) := by show _ = _; rw [hx, hy]; rfl
      clear hx hy dx dy
      cases hd : decide (cf x y < 0) with
      | true =>
        have hv : cf x y < 0 := of_decide_eq_true hd
        have HB := Lib.hid (bs_yes (St.p1 (ltc cf) d a) i j h HH.out hlt (by rw [HP.out, hd]))
        go_wp2_with fail
        go_quiet_grown (first | (go_at_fn g; refine Calls.grown_of (hcc _ _)))
        have S2 : Hid (SV blk off n dom w0 d (grow (wr.drewN nq) osq)) := S.out.more ⟨nq, osq, rfl⟩
        clear la lb hcc S
        generalize grow (wr.drewN nq) osq = w2 at S2 ⊢
        clear nq osq
        go_wp2
        go_roundg (j - (h + 1))
        case measure => omega
        case rel => exact ⟨h + 1, j, by go_num, rfl, by omega, by omega, by omega, by omega, S2, by show _ = _; rw [← HB.out]; exact HO.out⟩
      | false =>
        have hv : ¬ cf x y < 0 := of_decide_eq_false hd
        have HB := Lib.hid (bs_no (St.p1 (ltc cf) d a) i j h HH.out hlt (by rw [HP.out, hd]))
        go_wp2_with fail
        go_quiet_grown (first | (go_at_fn g; refine Calls.grown_of (hcc _ _)))
        have S2 : Hid (SV blk off n dom w0 d (grow (wr.drewN nq) osq)) := S.out.more ⟨nq, osq, rfl⟩
        clear la lb hcc S
        generalize grow (wr.drewN nq) osq = w2 at S2 ⊢
        clear nq osq
        go_wp2
        go_roundg (h - i)
        case measure => omega
        case rel => exact ⟨i, h, rfl, by go_num, by omega, by omega, by omega, by omega, S2, by show _ = _; rw [← HB.out]; exact HO.out⟩
    · have hltz : ¬ (i : Int) < (j : Int) := by omega
      have HF : Hid (St.bs (St.p1 (ltc cf) d a) m b = i) := by show _ = _; rw [← HO.out, bs_end _ _ _ hlt]
      clear HO
      go_wp2
      go_loopg [13] (i - a) (fun gg vk wr => ∃ (k : Nat) (dk : Array Int), vk = .int .i64 k ∧ a ≤ k ∧ k + 1 ≤ i ∧ i - k ≤ gg ∧ Hid (SV blk off n dom w0 dk wr) ∧ Hid (St.upSw k (i - 1 - k) dk = St.upSw a (i - 1 - a) d))
      case atStart => exact ⟨a, d, rfl, by omega, by omega, by omega, S, rfl⟩
      case round =>
        clear S
        obtain ⟨k, dk, rfl, hak, hki, hg2, S, HO⟩ := hrel
        by_cases hlk : k + 1 < i
        · have hlz : (k : Int) < (i : Int) - 1 := by omega
          obtain ⟨jN, hjN⟩ : ∃ q, q = k + 1 := ⟨_, rfl⟩
          have ec : ((k : Int) + 1).toNat = jN := by omega
          have pc : (0 : Int) ≤ (k : Int) + 1 := by omega
          have bk : (k : Int) < (n : Int) := by omega
          have bc : (k : Int) + 1 < (n : Int) := by omega
          have rc : IntKind.i64.wrap ((k : Int) + 1) = (k : Int) + 1 := by rw [IntKind.wrap_i64]; omega
          obtain ⟨x, hx⟩ : ∃ x, x = dk[k]! := ⟨_, rfl⟩
          obtain ⟨y, hy⟩ : ∃ x, x = dk[k + 1]! := ⟨_, rfl⟩
          have S3 : Hid (SV blk off n dom w0 (swp dk k (k + 1)) ((wr.setCell ⟨blk, off + k, none⟩ (.int .i64 y)).setCell ⟨blk, off + jN, none⟩ (.int .i64 x)).drew) := by
            rw [hjN, hx, hy]; exact (S.out.swap k (k + 1) (by omega) (by omega)).drew
          have c1a := S.out.c1 k (by omega)
          have c1b := S.out.c1 (k + 1) (by omega)
          have f1a := S.out.f1 k (by omega)
          have f1b := S.out.f1 (k + 1) (by omega)
          obtain ⟨u, c1c⟩ := S.out.c2 k (k + 1) (by omega) (by omega) (.int .i64 y)
          rw [← hjN] at c1c
          rw [← hx] at c1a
          rw [← hy, ← hjN] at c1b
          rw [← hjN] at f1b
          clear S hx hy hjN
          go_wp2_with fail
          go_big_region
          clear c1a c1b c1c f1a f1b
          generalize ((wr.setCell ⟨blk, off + k, none⟩ (.int .i64 y)).setCell ⟨blk, off + jN, none⟩ (.int .i64 x)).drew = w3 at S3 ⊢
          clear ec rc
          go_wp2
          go_roundg (i - (k + 1))
          case measure => omega
          case rel => exact ⟨k + 1, swp dk k (k + 1), by go_num, by omega, by omega, by omega, S3, by
            show _ = _
            rw [← HO.out]
            obtain ⟨r, hr⟩ : ∃ r, i - 1 - k = r + 1 := ⟨i - 1 - k - 1, by omega⟩
            rw [hr, show i - 1 - (k + 1) = r by omega]; rfl⟩
        · have hlz : ¬ (k : Int) < (i : Int) - 1 := by omega
          go_wp2
          refine bodyPost_ret (results_none rfl _ _ _) rfl ?_
          refine ⟨rfl, ?_⟩
          rw [HF.out, ← HO.out, show i - 1 - k = 0 by omega]
          exact S.out
end Go.Proofs.Ytgmagldbfajedaa
