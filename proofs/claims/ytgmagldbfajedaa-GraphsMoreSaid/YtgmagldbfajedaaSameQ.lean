/-
  SameInts, quietly: contract same_quiet.
-/
import Derived.Test.YtgmagldbfajedaaSame
import Derived.Test.YtgmagldbfajedaaGrOf
namespace Go.Proofs.Ytgmagldbfajedaa
open Go.RowKit

set_option maxHeartbeats 1000000 in
theorem same_quiet (a b : Option Addr) (la ca lb cb : Nat) (l m : List Int) (w : World) (HA : Ints w a la ca l) (HB : Ints w b lb cb m) :
    Calls Try.prog 30 #[.slice a la ca, .slice b lb cb] w fun e w' => e = .returned (.bool (sameB l m)) ∧ ∃ n, w' = w.drewN n := by
  have KA := Lib.hid HA
  have KB := Lib.hid HB
  have ha1 := HA.le
  have ha2 := HA.cap_le
  have hb1 := HB.le
  have hb2 := HB.cap_le
  have LA := Lib.hid HA.length
  have LB := Lib.hid HB.length
  clear HA HB
  by_cases hl : la = lb
  · subst hl
    have hne : ((la : Int) != (la : Int)) = false := by simp
    go_enter Try.func30, Try.ntmps30
    go_wp2
    go_loopg [5] la (fun gg i wr => ∃ k : Nat, k ≤ la ∧ la - k ≤ gg ∧ i = .int .i64 k ∧ Hid (l.take k = m.take k) ∧ Hid (∃ n, wr = w.drewN n))
    case atStart => exact ⟨0, Nat.zero_le _, by omega, rfl, rfl, 0, rfl⟩
    case round =>
      obtain ⟨k, hk, hg, rfl, HT, HWr⟩ := hrel
      obtain ⟨nw, rfl⟩ := HWr.out
      by_cases hlt : k < la
      · obtain ⟨ba, oa, rfl, _, hca⟩ := KA.out.at_ (by omega)
        obtain ⟨bb, ob, rfl, _, hcb⟩ := KB.out.at_ (by omega)
        have hak := hca k hlt
        have hbk := hcb k hlt
        clear hca hcb
        by_cases hv : nth l k = nth m k
        · have HN := Lib.hid (take_more (by rw [LA.out]; exact hlt) (by rw [LB.out]; exact hlt) HT.out hv)
          have hvb : (nth l k != nth m k) = false := by simp [hv]
          clear hv
          go_wp2_with fail
          go_quiet (fail)
          go_wp2
          go_roundg (la - (k + 1))
          case measure => omega
          case rel => exact ⟨k + 1, by omega, by omega, by go_num, HN.out, ⟨_, rfl⟩⟩
        · have HN := Lib.hid (sameB_miss hv)
          have hvb : (nth l k != nth m k) = true := by simp [hv]
          clear hv
          go_wp2_with fail
          go_quiet (fail)
          go_wp2
          go_ret
          exact ⟨by rw [HN.out]; rfl, ⟨nw + nq, by simp⟩⟩
      · have HN := Lib.hid (sameB_end (l := l) (m := m) (k := k) (by rw [LA.out, LB.out]) (by rw [LA.out]; omega) HT.out)
        go_wp2
        go_ret
        exact ⟨by rw [HN.out]; rfl, ⟨nw, rfl⟩⟩
  · have hne : ((la : Int) != (lb : Int)) = true := by simp; omega
    have HN := Lib.hid (sameB_len (l := l) (m := m) (by rw [LA.out, LB.out]; exact hl))
    clear hl
    go_enter Try.func30, Try.ntmps30
    go_wp2
    go_ret
    exact ⟨by rw [HN.out]; rfl, ⟨0, rfl⟩⟩
end Go.Proofs.Ytgmagldbfajedaa
