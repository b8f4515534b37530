/-
  slices symMergeCmpFunc, part 3: contract symMerge_any (the text was printed by gen_sym3.py).
-/
import Derived.Test.YtgmagldbfajedaaStSym2
import Derived.Test.YtgmagldbfajedaaStRot
namespace Go.Proofs.Ytgmagldbfajedaa
open Go.RowKit Go.Sort

/-- symMerge's steps behind the search, s: what the search found. -/
def smTail (lt : Int → Int → Bool) (f : Nat) (d : Array Int) (a m b mid s e : Nat) : Array Int :=
  let d1 := if s < m ∧ s < mid then St.rotate d s m e else d
  let d2 := if a < s ∧ s < mid then St.symF lt f d1 a s mid else d1
  if s < m ∧ e < b then St.symF lt f d2 mid e b else d2

theorem symF_gen (lt : Int → Int → Bool) (f : Nat) (d : Array Int) (a m b mid s e : Nat) (h1 : a + 1 < m) (h2 : m + 1 < b) (hmid : mid = (a + b) / 2) (hs : s = St.smAt lt d a m b) (he : e = mid + m - s) :
    St.symF lt (f + 1) d a m b = smTail lt f d a m b mid s e := by
  have hst : St.smStart a m b ≤ St.smEnd a m b := by unfold St.smStart St.smEnd; split <;> omega
  have hle : St.smEnd a m b ≤ (a + b) / 2 ∧ St.smEnd a m b ≤ m := by unfold St.smEnd; split <;> omega
  obtain ⟨k1, k2, _, _⟩ := St.bs_all (St.p3 lt d ((a + b) / 2 + m - 1)) (St.smStart a m b) (St.smEnd a m b) hst
  change St.smStart a m b ≤ St.smAt lt d a m b at k1
  change St.smAt lt d a m b ≤ St.smEnd a m b at k2
  have hs2 : s ≤ mid ∧ s ≤ m := by omega
  subst he
  conv => lhs; unfold St.symF
  rw [if_neg (by omega), if_neg (by omega)]
  unfold St.smRot smTail
  rw [← hs, ← hmid]
  have e1 : (s < m ∧ m < mid + m - s) = (s < m ∧ s < mid) := by apply propext; omega
  have e2 : (mid < mid + m - s ∧ mid + m - s < b) = (s < m ∧ mid + m - s < b) := by apply propext; omega
  simp only [e1, e2]

set_option maxHeartbeats 16000000 in
set_option maxRecDepth 1000000 in
theorem symMerge_any (g : Nat) (cb : Array Value) (cf : Int → Int → Int) (eg : ∀ args w, (callFunc g args).run Try.prog w = .ok (.enter g args) w) (blk off n cap : Nat) (dom : Int → Prop) (w0 : World) (hc : CmpOk g cb cf dom blk w0) (hn : n < 4611686018427387904) :
    ∀ (f : Nat) (d : Array Int) (a m b : Nat) (w : World), SV blk off n dom w0 d w → b ≤ a + f → a < m → m < b → b ≤ n →
    Calls Try.prog 133 #[.slice (some ⟨blk, off, none⟩) n cap, .int .i64 a, .int .i64 m, .int .i64 b, .func (.func g) #[] cb] w fun e w' => e = .returned (.tuple #[]) ∧ SV blk off n dom w0 (St.symF (ltc cf) f d a m b) w' := by
  intro f
  induction f with
  | zero => intro d a m b w S h1 h2 h3; omega
  | succ f ih =>
    intro d a m b w S hf ham hmb hb
    by_cases hm1 : m = a + 1
    · refine (sym1_any blk off n cap dom w0 d g cb cf a m b w hm1 eg hc S hn (by omega) hb).mono fun e w' ⟨he, hS⟩ => ⟨he, ?_⟩
      unfold St.symF
      rw [if_pos hm1]; exact hS
    by_cases hm2 : b = m + 1
    · refine (sym2_any blk off n cap dom w0 d g cb cf a m b w hm2 eg hc S hn (by omega) hb).mono fun e w' ⟨he, hS⟩ => ⟨he, ?_⟩
      unfold St.symF
      rw [if_neg hm1, if_pos hm2]; exact hS
    have mixed := mixed
    have IH := Lib.hid ih; clear ih
    have HC := Lib.hid hc; clear hc
    have S0 := Lib.hid S; clear S
    have et : ((m : Int) - (a : Int) == 1) = false := by simp; omega
    have et2 : ((b : Int) - (m : Int) == 1) = false := by simp; omega
    have g1 : a + 1 < m := by omega
    have g2 : m + 1 < b := by omega
    clear hm1 hm2
    obtain ⟨mid, hmid⟩ : ∃ q, q = (a + b) / 2 := ⟨_, rfl⟩
    have emid : ((a : Int) + (b : Int)) / 2 = (mid : Int) := by omega
    have hmid1 : 2 * mid ≤ a + b := by omega
    have hmid2 : a + b ≤ 2 * mid + 1 := by omega
    have HMid := Lib.hid hmid; clear hmid
    by_cases hgt : mid < m
    · have hgd : decide ((m : Int) > (mid : Int)) = true := decide_eq_true (by omega)
      obtain ⟨st, hst⟩ : ∃ q, q = mid + m - b := ⟨_, rfl⟩
      have est : (mid : Int) + (m : Int) - (b : Int) = (st : Int) := by omega
      have HS : Hid (St.bs (St.p3 (ltc cf) d (mid + m - 1)) st mid = St.smAt (ltc cf) d a m b) := by
        show _ = _
        unfold St.smAt St.smStart St.smEnd
        rw [← HMid.out, if_pos hgt, if_pos hgt, hst]
      have b1 : a ≤ st := by omega
      have b2 : st ≤ mid := by omega
      have b4 : mid + m ≤ st + b := by omega
      clear hst
      go_enter Try.func133, Try.ntmps133
      go_wp2
      go_loopg [20, 21, 23] b (fun gg vi vr vc wr => ∃ (i r : Nat), vi = .int .i64 i ∧ vr = .int .i64 r ∧ a ≤ i ∧ i ≤ r ∧ r ≤ mid ∧ r ≤ m ∧ mid + m ≤ i + b ∧ r - i ≤ gg ∧ Hid (SV blk off n dom w0 d wr) ∧ Hid (St.bs (St.p3 (ltc cf) d (mid + m - 1)) i r = St.smAt (ltc cf) d a m b))
      case atStart => exact ⟨st, mid, rfl, rfl, by omega, by omega, by omega, by omega, by omega, by omega, S0, HS⟩
      case round =>
        clear S0 HS
        obtain ⟨i, r, rfl, rfl, hai, hir, hrm, hrm2, hib, hg, S, HO⟩ := hrel
        by_cases hlt : i < r
        · have hltz : (i : Int) < (r : Int) := by omega
          obtain ⟨h, hh⟩ : ∃ q, q = (i + r) / 2 := ⟨_, rfl⟩
          have eh : ((i : Int) + (r : Int)) / 2 = (h : Int) := by omega
          have h1 : i ≤ h := by omega
          have h2 : h < r := by omega
          have HH := Lib.hid hh; clear hh
          obtain ⟨pN, hpN⟩ : ∃ q, q = mid + m - 1 - h := ⟨_, rfl⟩
          have ep : (mid : Int) + (m : Int) - 1 - (h : Int) = (pN : Int) := by omega
          have rp : IntKind.i64.wrap ((mid : Int) + (m : Int) - 1 - (h : Int)) = (pN : Int) := by rw [IntKind.wrap_i64]; omega
          have rp2 : IntKind.i64.wrap (pN : Int) = (pN : Int) := by rw [IntKind.wrap_i64]; omega
          have hpn : pN < n := by omega
          have pa : (0 : Int) ≤ (h : Int) := by omega
          have ba : (h : Int) < (n : Int) := by omega
          have pc : (0 : Int) ≤ (pN : Int) := by omega
          have bc : (pN : Int) < (n : Int) := by omega
          have dx := S.out.dom pN hpn
          have dy := S.out.dom h (by omega)
          obtain ⟨x, hx⟩ : ∃ x, x = d[pN]! := ⟨_, rfl⟩
          obtain ⟨y, hy⟩ : ∃ x, x = d[h]! := ⟨_, rfl⟩
          have la := S.out.cl pN hpn
          have lb := S.out.cl h (by omega)
          rw [← hx] at la
          rw [← hy] at lb
          have hcc := S.out.cmp HC.out x y (by rw [hx]; exact dx) (by rw [hy]; exact dy)
          have HP : Hid (St.p3 (ltc cf) d (mid + m - 1) h = !decide (cf x y < 0)) := by show _ = _; rw [hx, hy, hpN]; rfl
          clear hx hy dx dy hpN
          cases hd : decide (cf x y < 0) with
          | false =>
            have hv : ¬ cf x y < 0 := of_decide_eq_false hd
            have HB := Lib.hid (bs_yes (St.p3 (ltc cf) d (mid + m - 1)) i r h HH.out hlt (by rw [HP.out, hd]; rfl))
            go_wp2_with fail
            go_quiet_grown (first | (go_at_fn g; refine Calls.grown_of (hcc _ _)))
            have S2 : Hid (SV blk off n dom w0 d (grow (wr.drewN nq) osq)) := S.out.more ⟨nq, osq, rfl⟩
            clear la lb hcc S
            generalize grow (wr.drewN nq) osq = w2 at S2 ⊢
            clear nq osq
            clear ep rp rp2
            go_wp2
            go_roundg (r - (h + 1))
            case measure => omega
            case rel => exact ⟨h + 1, r, by go_num, rfl, by omega, by omega, by omega, by omega, by omega, by omega, S2, by show _ = _; rw [← HB.out]; exact HO.out⟩
          | true =>
            have hv : cf x y < 0 := of_decide_eq_true hd
            have HB := Lib.hid (bs_no (St.p3 (ltc cf) d (mid + m - 1)) i r h HH.out hlt (by rw [HP.out, hd]; rfl))
            go_wp2_with fail
            go_quiet_grown (first | (go_at_fn g; refine Calls.grown_of (hcc _ _)))
            have S2 : Hid (SV blk off n dom w0 d (grow (wr.drewN nq) osq)) := S.out.more ⟨nq, osq, rfl⟩
            clear la lb hcc S
            generalize grow (wr.drewN nq) osq = w2 at S2 ⊢
            clear nq osq
            clear ep rp rp2
            go_wp2
            go_roundg (h - i)
            case measure => omega
            case rel => exact ⟨i, h, rfl, by go_num, by omega, by omega, by omega, by omega, by omega, by omega, S2, by show _ = _; rw [← HB.out]; exact HO.out⟩
        · have hltz : ¬ (i : Int) < (r : Int) := by omega
          obtain ⟨e, he⟩ : ∃ q, q = mid + m - i := ⟨_, rfl⟩
          have ee : (mid : Int) + (m : Int) - (i : Int) = (e : Int) := by omega
          have HF : Hid (St.symF (ltc cf) (f + 1) d a m b = smTail (ltc cf) f d a m b mid i e) :=
            symF_gen (ltc cf) f d a m b mid i e g1 g2 HMid.out (by rw [← HO.out, bs_end _ _ _ hlt]) he
          have he1 : e + i = mid + m := by omega
          have HE := Lib.hid he1
          have he2 : e + i ≤ mid + m := by omega
          have he3 : mid + m ≤ e + i := by omega
          clear he he1 HO hlt
          by_cases hA : i < m <;> by_cases hB : i < mid <;> by_cases hC : a < i <;> by_cases hD : e < b
          all_goals (have HQ := Lib.hid (And.intro hA (And.intro hB (And.intro hC hD))))
          all_goals
            (go_wp2_with (first
              | (go_at_call 146; refine (rotate_any blk off n cap dom w0 d _ i m e _ S.out hn (by omega) (by omega) (by omega)).mono ?_; rintro e1 w1 ⟨rfl, hs1⟩; have S := Lib.hid hs1; clear hs1)
              | (go_at_call_of 133 (Value.int IntKind.i64 (b : Int)); refine (IH.out _ mid e b _ S.out (by omega) (by omega) (by omega) (by omega)).mono ?_; rintro e1 w1 ⟨rfl, hs1⟩; have S := Lib.hid hs1; clear hs1)
              | (go_at_call_of 133 (Value.int IntKind.i64 (a : Int)); refine (IH.out _ a i mid _ S.out (by omega) (by omega) (by omega) (by omega)).mono ?_; rintro e1 w1 ⟨rfl, hs1⟩; have S := Lib.hid hs1; clear hs1)))
          all_goals go_end0
          all_goals
            (refine ⟨rfl, ?_⟩
             obtain ⟨kA, kB, kC, kD⟩ := HQ.out
             have S1 := S.out
             rw [HF.out]
             simp only [smTail, kA, kB, kC, kD, and_self, and_true, and_false, if_true, if_false]
             exact S1)
    · have hgd : decide ((m : Int) > (mid : Int)) = false := decide_eq_false (by omega)
      have HS : Hid (St.bs (St.p3 (ltc cf) d (mid + m - 1)) a m = St.smAt (ltc cf) d a m b) := by
        show _ = _
        unfold St.smAt St.smStart St.smEnd
        rw [← HMid.out, if_neg hgt, if_neg hgt]
      go_enter Try.func133, Try.ntmps133
      go_wp2
      go_loopg [20, 21, 23] b (fun gg vi vr vc wr => ∃ (i r : Nat), vi = .int .i64 i ∧ vr = .int .i64 r ∧ a ≤ i ∧ i ≤ r ∧ r ≤ mid ∧ r ≤ m ∧ mid + m ≤ i + b ∧ r - i ≤ gg ∧ Hid (SV blk off n dom w0 d wr) ∧ Hid (St.bs (St.p3 (ltc cf) d (mid + m - 1)) i r = St.smAt (ltc cf) d a m b))
      case atStart => exact ⟨a, m, rfl, rfl, by omega, by omega, by omega, by omega, by omega, by omega, S0, HS⟩
      case round =>
        clear S0 HS
        obtain ⟨i, r, rfl, rfl, hai, hir, hrm, hrm2, hib, hg, S, HO⟩ := hrel
        by_cases hlt : i < r
        · have hltz : (i : Int) < (r : Int) := by omega
          obtain ⟨h, hh⟩ : ∃ q, q = (i + r) / 2 := ⟨_, rfl⟩
          have eh : ((i : Int) + (r : Int)) / 2 = (h : Int) := by omega
          have h1 : i ≤ h := by omega
          have h2 : h < r := by omega
          have HH := Lib.hid hh; clear hh
          obtain ⟨pN, hpN⟩ : ∃ q, q = mid + m - 1 - h := ⟨_, rfl⟩
          have ep : (mid : Int) + (m : Int) - 1 - (h : Int) = (pN : Int) := by omega
          have rp : IntKind.i64.wrap ((mid : Int) + (m : Int) - 1 - (h : Int)) = (pN : Int) := by rw [IntKind.wrap_i64]; omega
          have rp2 : IntKind.i64.wrap (pN : Int) = (pN : Int) := by rw [IntKind.wrap_i64]; omega
          have hpn : pN < n := by omega
          have pa : (0 : Int) ≤ (h : Int) := by omega
          have ba : (h : Int) < (n : Int) := by omega
          have pc : (0 : Int) ≤ (pN : Int) := by omega
          have bc : (pN : Int) < (n : Int) := by omega
          have dx := S.out.dom pN hpn
          have dy := S.out.dom h (by omega)
          obtain ⟨x, hx⟩ : ∃ x, x = d[pN]! := ⟨_, rfl⟩
          obtain ⟨y, hy⟩ : ∃ x, x = d[h]! := ⟨_, rfl⟩
          have la := S.out.cl pN hpn
          have lb := S.out.cl h (by omega)
          rw [← hx] at la
          rw [← hy] at lb
          have hcc := S.out.cmp HC.out x y (by rw [hx]; exact dx) (by rw [hy]; exact dy)
          have HP : Hid (St.p3 (ltc cf) d (mid + m - 1) h = !decide (cf x y < 0)) := by show _ = _; rw [hx, hy, hpN]; rfl
          clear hx hy dx dy hpN
          cases hd : decide (cf x y < 0) with
          | false =>
            have hv : ¬ cf x y < 0 := of_decide_eq_false hd
            have HB := Lib.hid (bs_yes (St.p3 (ltc cf) d (mid + m - 1)) i r h HH.out hlt (by rw [HP.out, hd]; rfl))
            go_wp2_with fail
            go_quiet_grown (first | (go_at_fn g; refine Calls.grown_of (hcc _ _)))
            have S2 : Hid (SV blk off n dom w0 d (grow (wr.drewN nq) osq)) := S.out.more ⟨nq, osq, rfl⟩
            clear la lb hcc S
            generalize grow (wr.drewN nq) osq = w2 at S2 ⊢
            clear nq osq
            clear ep rp rp2
            go_wp2
            go_roundg (r - (h + 1))
            case measure => omega
            case rel => exact ⟨h + 1, r, by go_num, rfl, by omega, by omega, by omega, by omega, by omega, by omega, S2, by show _ = _; rw [← HB.out]; exact HO.out⟩
          | true =>
            have hv : cf x y < 0 := of_decide_eq_true hd
            have HB := Lib.hid (bs_no (St.p3 (ltc cf) d (mid + m - 1)) i r h HH.out hlt (by rw [HP.out, hd]; rfl))
            go_wp2_with fail
            go_quiet_grown (first | (go_at_fn g; refine Calls.grown_of (hcc _ _)))
            have S2 : Hid (SV blk off n dom w0 d (grow (wr.drewN nq) osq)) := S.out.more ⟨nq, osq, rfl⟩
            clear la lb hcc S
            generalize grow (wr.drewN nq) osq = w2 at S2 ⊢
            clear nq osq
            clear ep rp rp2
            go_wp2
            go_roundg (h - i)
            case measure => omega
            case rel => exact ⟨i, h, rfl, by go_num, by omega, by omega, by omega, by omega, by omega, by omega, S2, by show _ = _; rw [← HB.out]; exact HO.out⟩
        · have hltz : ¬ (i : Int) < (r : Int) := by omega
          obtain ⟨e, he⟩ : ∃ q, q = mid + m - i := ⟨_, rfl⟩
          have ee : (mid : Int) + (m : Int) - (i : Int) = (e : Int) := by omega
          have HF : Hid (St.symF (ltc cf) (f + 1) d a m b = smTail (ltc cf) f d a m b mid i e) :=
            symF_gen (ltc cf) f d a m b mid i e g1 g2 HMid.out (by rw [← HO.out, bs_end _ _ _ hlt]) he
          have he1 : e + i = mid + m := by omega
          have HE := Lib.hid he1
          have he2 : e + i ≤ mid + m := by omega
          have he3 : mid + m ≤ e + i := by omega
          clear he he1 HO hlt
          by_cases hA : i < m <;> by_cases hB : i < mid <;> by_cases hC : a < i <;> by_cases hD : e < b
          all_goals (have HQ := Lib.hid (And.intro hA (And.intro hB (And.intro hC hD))))
          all_goals
            (go_wp2_with (first
              | (go_at_call 146; refine (rotate_any blk off n cap dom w0 d _ i m e _ S.out hn (by omega) (by omega) (by omega)).mono ?_; rintro e1 w1 ⟨rfl, hs1⟩; have S := Lib.hid hs1; clear hs1)
              | (go_at_call_of 133 (Value.int IntKind.i64 (b : Int)); refine (IH.out _ mid e b _ S.out (by omega) (by omega) (by omega) (by omega)).mono ?_; rintro e1 w1 ⟨rfl, hs1⟩; have S := Lib.hid hs1; clear hs1)
              | (go_at_call_of 133 (Value.int IntKind.i64 (a : Int)); refine (IH.out _ a i mid _ S.out (by omega) (by omega) (by omega) (by omega)).mono ?_; rintro e1 w1 ⟨rfl, hs1⟩; have S := Lib.hid hs1; clear hs1)))
          all_goals go_end0
          all_goals
            (refine ⟨rfl, ?_⟩
             obtain ⟨kA, kB, kC, kD⟩ := HQ.out
             have S1 := S.out
             rw [HF.out]
             simp only [smTail, kA, kB, kC, kD, and_self, and_true, and_false, if_true, if_false]
             exact S1)
end Go.Proofs.Ytgmagldbfajedaa
