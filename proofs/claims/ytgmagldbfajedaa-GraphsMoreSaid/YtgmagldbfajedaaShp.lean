/-
  shapes.times, Size, Check; graphs.order; slices.Equal: contracts times_any, size_any, check_any, order_any, equal_any.
-/
import Derived.Test.YtgmagldbfajedaaGrPlain
import Derived.Test.YtgmagldbfajedaaEvNodes
import Derived.Test.YtgmagldbfajedaaSame
namespace Go.Proofs.Ytgmagldbfajedaa
open Go.RowKit

set_option maxHeartbeats 1000000 in
theorem times_any (a : Option Addr) (len cap : Nat) (l : List Int) (w : World) (H : Ints w a len cap l) :
    Calls Try.prog 116 #[.slice a len cap] w fun e w' => e = .returned (.int .i64 (Gr.timesF 1 l)) ∧ w = w' := by
  have hle := H.le
  have hcap := H.cap_le
  have HL := Lib.hid H.length
  have KH := Lib.hid H
  clear H
  go_enter Try.func116, Try.ntmps116
  go_wp2
  go_loop [3, 8] (fun p i => ∃ (k : Nat) (n : Int), k ≤ len ∧ i = .int .i64 k ∧ p = .int .i64 n ∧ 1 ≤ n ∧ n ≤ 4096 ∧ Hid (Gr.timesF 1 l = Gr.timesF n (l.drop k))) (fun _ i => len - (intOf i).toNat)
  case atStart => exact ⟨0, 1, Nat.zero_le _, rfl, rfl, by omega, by omega, rfl⟩
  case round =>
    obtain ⟨k, n, hk, rfl, rfl, hn0, hn1, HT⟩ := hrel
    by_cases hlt : k < len
    · obtain ⟨b, off, rfl, _, hc⟩ := KH.out.at_ (by omega)
      have hck := hc k hlt
      have HA := Lib.hid (Gr.timesF_at n l k (by rw [HL.out]; exact hlt))
      have hwf := KH.out.nth_wf hlt
      obtain ⟨hwf0, hwf1⟩ := hwf
      clear hc
      generalize nth l k = x at *
      by_cases h1 : x < 1
      · have HR := Lib.hid (show Gr.timesF 1 l = 0 by rw [HT.out, HA.out, if_pos (.inl h1)])
        have d1 : decide (x < 1) = true := decide_eq_true h1
        go_wp2
        go_ret
        exact ⟨by rw [HR.out]; rfl, rfl⟩
      · have d1 : decide (x < 1) = false := decide_eq_false h1
        by_cases h2 : 64 < x
        · have HR := Lib.hid (show Gr.timesF 1 l = 0 by rw [HT.out, HA.out, if_pos (.inr h2)])
          have d2 : decide (x > 64) = true := decide_eq_true h2
          go_wp2
          go_ret
          exact ⟨by rw [HR.out]; rfl, rfl⟩
        · have d2 : decide (x > 64) = false := decide_eq_false h2
          have hp0 : 0 < n * x := Int.mul_pos (by omega) (by omega)
          have hp1 : n * x ≤ 4096 * 64 := Int.mul_le_mul hn1 (by omega) (by omega) (by omega)
          by_cases h3 : 4096 < n * x
          · have HR := Lib.hid (show Gr.timesF 1 l = 0 by rw [HT.out, HA.out, if_neg (by omega), if_pos h3])
            have d3 : decide (n * x > 4096) = true := decide_eq_true h3
            go_wp2
            go_ret
            exact ⟨by rw [HR.out]; rfl, rfl⟩
          · have HR := Lib.hid (show Gr.timesF 1 l = Gr.timesF (n * x) (l.drop (k + 1)) by rw [HT.out, HA.out, if_neg (by omega), if_neg h3])
            have d3 : decide (n * x > 4096) = false := decide_eq_false h3
            go_wp2
            go_round
            case rel => exact ⟨k + 1, n * x, by omega, by go_num, by go_num, by omega, by omega, HR⟩
            case measure => simp [intOf]; omega
    · have HR := Lib.hid (show Gr.timesF 1 l = n by rw [HT.out, List.drop_eq_nil_of_le (by rw [HL.out]; omega)]; rfl)
      go_wp2
      go_ret
      exact ⟨by rw [HR.out]; rfl, rfl⟩

theorem size_any (a : Option Addr) (len cap : Nat) (l : List Int) (w : World) (H : Ints w a len cap l) :
    Calls Try.prog 77 #[.slice a len cap] w fun e w' => e = .returned (.int .i64 (Gr.size l)) ∧ w = w' := by
  have hle := H.le
  have hcap := H.cap_le
  have HL := Lib.hid H.length
  have KH := Lib.hid H
  clear H
  by_cases h1 : len < 1
  · have HR := Lib.hid (show Gr.size l = 0 by unfold Gr.size; rw [if_pos (by rw [HL.out]; omega)])
    have d1 : decide ((len : Int) < 1) = true := decide_eq_true (by omega)
    go_enter Try.func77, Try.ntmps77
    go_wp2
    go_ret
    exact ⟨by rw [HR.out]; rfl, rfl⟩
  · have d1 : decide ((len : Int) < 1) = false := decide_eq_false (by omega)
    by_cases h2 : 4 < len
    · have HR := Lib.hid (show Gr.size l = 0 by unfold Gr.size; rw [if_pos (by rw [HL.out]; omega)])
      have d2 : decide ((len : Int) > 4) = true := decide_eq_true (by omega)
      go_enter Try.func77, Try.ntmps77
      go_wp2
      go_ret
      exact ⟨by rw [HR.out]; rfl, rfl⟩
    · have HR := Lib.hid (show Gr.size l = Gr.timesF 1 l by unfold Gr.size; rw [if_neg (by rw [HL.out]; omega)])
      have d2 : decide ((len : Int) > 4) = false := decide_eq_false (by omega)
      go_enter Try.func77, Try.ntmps77
      go_wp2_with fail
      refine (times_any _ _ _ l _ KH.out).mono ?_
      rintro e w1 ⟨rfl, rfl⟩
      go_wp2
      go_ret
      exact ⟨by rw [HR.out]; rfl, rfl⟩

theorem check_any (a : Option Addr) (len cap : Nat) (l : List Int) (w : World) (H : Ints w a len cap l) :
    Calls Try.prog 36 #[.slice a len cap] w fun e w' => e = .returned (.bool (Gr.chk l)) ∧ w = w' := by
  have HC := Lib.hid (show Gr.chk l = decide (Gr.size l > 0) from rfl)
  go_enter Try.func36, Try.ntmps36
  go_wp2_with fail
  refine (size_any _ _ _ l _ H).mono ?_
  rintro e w1 ⟨rfl, rfl⟩
  go_wp2
  go_ret
  exact ⟨by rw [HC.out]; rfl, rfl⟩

set_option maxHeartbeats 1000000 in
theorem order_any (a : Option Addr) (len cap : Nat) (l : List Int) (w : World) (H : Ints w a len cap l) :
    Calls Try.prog 107 #[.slice a len cap] w fun e w' => e = .returned (.bool (Gr.order l)) ∧ w = w' := by
  have hle := H.le
  have hcap := H.cap_le
  have HL := Lib.hid H.length
  have KH := Lib.hid H
  clear H
  go_enter Try.func107, Try.ntmps107
  go_wp2
  go_loop [6] (fun i => ∃ k : Nat, k ≤ len ∧ i = .int .i64 k ∧ Hid (∀ j : Nat, j < k → hasB l (j : Int) = true)) (fun i => len - (intOf i).toNat)
  case atStart => exact ⟨0, Nat.zero_le _, rfl, fun j hj => absurd hj (Nat.not_lt_zero _)⟩
  case round =>
    obtain ⟨k, hk, rfl, HT⟩ := hrel
    by_cases hlt : k < len
    · cases hh : hasB l (k : Int) with
      | true =>
        have HN : Hid (∀ j : Nat, j < k + 1 → hasB l (j : Int) = true) := fun j hj => by
          rcases Nat.lt_succ_iff_lt_or_eq.1 hj with h | rfl
          · exact HT.out j h
          · exact hh
        have HH := Lib.hid hh; clear hh
        go_wp2_with fail
        refine (contains_any _ _ _ l _ _ KH.out).mono ?_
        rintro e w1 ⟨rfl, rfl⟩
        rw [HH.out]
        go_wp2
        go_round
        case rel => exact ⟨k + 1, by omega, by go_num, HN⟩
        case measure => simp [intOf]; omega
      | false =>
        have HR := Lib.hid (Gr.order_hit (l := l) (k := k) (by rw [HL.out]; exact hlt) hh)
        have HH := Lib.hid hh; clear hh
        go_wp2_with fail
        refine (contains_any _ _ _ l _ _ KH.out).mono ?_
        rintro e w1 ⟨rfl, rfl⟩
        rw [HH.out]
        go_wp2
        go_ret
        exact ⟨by rw [HR.out]; rfl, rfl⟩
    · have hkl : k = len := by omega
      subst hkl
      have HR : Hid (Gr.order l = decide ((k : Int) ≤ 4)) := by
        show _ = _
        rw [Gr.order_all (fun i hi => HT.out i (by rw [HL.out] at hi; exact hi)), HL.out]
        exact decide_eq_decide.2 (by omega)
      go_wp2
      go_ret
      exact ⟨by rw [HR.out]; rfl, rfl⟩

set_option maxHeartbeats 1000000 in
theorem equal_any (a b : Option Addr) (la ca lb cb : Nat) (l m : List Int) (w : World) (HA : Ints w a la ca l) (HB : Ints w b lb cb m) :
    Calls Try.prog 109 #[.slice a la ca, .slice b lb cb] w fun e w' => e = .returned (.bool (sameB l m)) ∧ ∃ n, w' = w.drewN n := by
  have KA := Lib.hid HA
  have KB := Lib.hid HB
  have ha1 := HA.le
  have ha2 := HA.cap_le
  have hb1 := HB.le
  have hb2 := HB.cap_le
  have LA := Lib.hid HA.length
  have LB := Lib.hid HB.length
  clear HA HB
  by_cases hl : la = lb
  · subst hl
    have hne : ((la : Int) != (la : Int)) = false := by simp
    go_enter Try.func109, Try.ntmps109
    go_wp2
    go_loopg [13] la (fun gg i wr => ∃ k : Nat, k ≤ la ∧ la - k ≤ gg ∧ i = .int .i64 k ∧ Hid (l.take k = m.take k) ∧ Hid (∃ n, wr = w.drewN n))
    case atStart => exact ⟨0, Nat.zero_le _, by omega, rfl, rfl, 0, rfl⟩
    case round =>
      obtain ⟨k, hk, hg, rfl, HT, HWr⟩ := hrel
      obtain ⟨nw, rfl⟩ := HWr.out
      by_cases hlt : k < la
      · obtain ⟨ba, oa, rfl, _, hca⟩ := KA.out.at_ (by omega)
        obtain ⟨bb, ob, rfl, _, hcb⟩ := KB.out.at_ (by omega)
        have hak := hca k hlt
        have hbk := hcb k hlt
        clear hca hcb
        by_cases hv : nth l k = nth m k
        · have HN := Lib.hid (take_more (by rw [LA.out]; exact hlt) (by rw [LB.out]; exact hlt) HT.out hv)
          have hvb : (nth l k != nth m k) = false := by simp [hv]
          clear hv
          go_wp2_with fail
          go_quiet (fail)
          go_wp2
          go_roundg (la - (k + 1))
          case measure => omega
          case rel => exact ⟨k + 1, by omega, by omega, by go_num, HN.out, ⟨_, rfl⟩⟩
        · have HN := Lib.hid (sameB_miss hv)
          have hvb : (nth l k != nth m k) = true := by simp [hv]
          clear hv
          go_wp2_with fail
          go_quiet (fail)
          go_wp2
          go_ret
          exact ⟨by rw [HN.out]; rfl, ⟨nw + nq, by simp⟩⟩
      · have HN := Lib.hid (sameB_end (l := l) (m := m) (k := k) (by rw [LA.out, LB.out]) (by rw [LA.out]; omega) HT.out)
        go_wp2
        go_ret
        exact ⟨by rw [HN.out]; rfl, ⟨_, rfl⟩⟩
  · have hne : ((la : Int) != (lb : Int)) = true := by simp; omega
    have HN := Lib.hid (sameB_len (l := l) (m := m) (by rw [LA.out, LB.out]; exact hl))
    clear hl
    go_enter Try.func109, Try.ntmps109
    go_wp2
    go_ret
    exact ⟨by rw [HN.out]; rfl, ⟨0, rfl⟩⟩
end Go.Proofs.Ytgmagldbfajedaa
