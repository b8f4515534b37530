/-
  drydocklaw01.SameInts: contract same_any (whether two slices of ints are the same).
-/
import Derived.Test.YtgmagldbfajedaaBase
namespace Go.Proofs.Ytgmagldbfajedaa
open Go.RowKit

def sameB (l m : List Int) : Bool := decide (l = m)

theorem sameB_self (l : List Int) : sameB l l = true := by simp [sameB]
theorem sameB_iff (l m : List Int) : sameB l m = true ↔ l = m := by simp [sameB]
theorem sameB_len {l m : List Int} (h : l.length ≠ m.length) : sameB l m = false := by
  unfold sameB; exact decide_eq_false fun e => h (by rw [e])
theorem sameB_miss {l m : List Int} {k : Nat} (h : nth l k ≠ nth m k) : sameB l m = false := by
  unfold sameB; exact decide_eq_false fun e => h (by rw [e])
theorem sameB_end {l m : List Int} {k : Nat} (h : l.length = m.length) (hk : l.length ≤ k) (ht : l.take k = m.take k) : sameB l m = true := by
  rw [List.take_of_length_le hk, List.take_of_length_le (by omega)] at ht
  rw [ht]; exact sameB_self m
theorem take_more {l m : List Int} {k : Nat} (h1 : k < l.length) (h2 : k < m.length) (ht : l.take k = m.take k) (hn : nth l k = nth m k) : l.take (k + 1) = m.take (k + 1) := by
  rw [nth_eq l k h1, nth_eq m k h2] at hn
  rw [List.take_succ_eq_append_getElem h1, List.take_succ_eq_append_getElem h2, ht, hn]

set_option maxHeartbeats 1000000 in
theorem same_any (a b : Option Addr) (la ca lb cb : Nat) (l m : List Int) (w : World) (HA : Ints w a la ca l) (HB : Ints w b lb cb m) :
    Calls Try.prog 30 #[.slice a la ca, .slice b lb cb] w fun e w' => e = .returned (.bool (sameB l m)) ∧ Below w.heap.size w w' := by
  have KA := Lib.hid HA
  have KB := Lib.hid HB
  have ha1 := HA.le
  have ha2 := HA.cap_le
  have hb1 := HB.le
  have hb2 := HB.cap_le
  have LA := Lib.hid HA.length
  have LB := Lib.hid HB.length
  clear HA HB
  by_cases hl : la = lb
  · subst hl
    have hne : ((la : Int) != (la : Int)) = false := by simp
    go_enter Try.func30, Try.ntmps30
    go_wp2
    go_loopg [5] la (fun gg i wr => ∃ k : Nat, k ≤ la ∧ la - k ≤ gg ∧ i = .int .i64 k ∧ Hid (l.take k = m.take k) ∧ Hid (Below w.heap.size w wr))
    case atStart => exact ⟨0, Nat.zero_le _, by omega, rfl, rfl, Below.refl _ _⟩
    case round =>
      obtain ⟨k, hk, hg, rfl, HT, HWr⟩ := hrel
      by_cases hlt : k < la
      · obtain ⟨ba, oa, rfl, _, hca⟩ := (KA.out.below HWr.out).at_ (by omega)
        obtain ⟨bb, ob, rfl, _, hcb⟩ := (KB.out.below HWr.out).at_ (by omega)
        have hak := hca k hlt
        have hbk := hcb k hlt
        clear hca hcb
        by_cases hv : nth l k = nth m k
        · have HN := Lib.hid (take_more (by rw [LA.out]; exact hlt) (by rw [LB.out]; exact hlt) HT.out hv)
          have hvb : (nth l k != nth m k) = false := by simp [hv]
          clear hv
          go_wp2_with fail
          go_quiet (fail)
          go_wp2
          go_roundg (la - (k + 1))
          case measure => omega
          case rel => exact ⟨k + 1, by omega, by omega, by go_num, HN.out, HWr.out.trans (below_drewN _ _ _)⟩
        · have HN := Lib.hid (sameB_miss hv)
          have hvb : (nth l k != nth m k) = true := by simp [hv]
          clear hv
          go_wp2_with fail
          go_quiet (fail)
          go_wp2
          go_ret
          exact ⟨by rw [HN.out]; rfl, HWr.out.trans (below_drewN _ _ _)⟩
      · have HN := Lib.hid (sameB_end (l := l) (m := m) (k := k) (by rw [LA.out, LB.out]) (by rw [LA.out]; omega) HT.out)
        go_wp2
        go_ret
        exact ⟨by rw [HN.out]; rfl, HWr.out⟩
  · have hne : ((la : Int) != (lb : Int)) = true := by simp; omega
    have HN := Lib.hid (sameB_len (l := l) (m := m) (by rw [LA.out, LB.out]; exact hl))
    clear hl
    go_enter Try.func30, Try.ntmps30
    go_wp2
    go_ret
    exact ⟨by rw [HN.out]; rfl, Below.refl _ _⟩
end Go.Proofs.Ytgmagldbfajedaa
