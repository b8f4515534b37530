/-
  drydocklaw21 has: contract has_any (whether a value is in a slice).
-/
import Derived.Test.YtgmagldbfajedaaBase
namespace Go.Proofs.Ytgmagldbfajedaa
open Go.RowKit

set_option maxHeartbeats 400000 in
theorem has_any (a : Option Addr) (len cap : Nat) (l : List Int) (v : Int) (w : World) (H : Ints w a len cap l) :
    Calls Try.prog 29 #[.slice a len cap, .int .i64 v] w fun e w' => e = .returned (.bool (hasB l v)) ∧ w = w' := by
  obtain ⟨hle, hcap, hlen, _, hat⟩ := H
  have HL := Lib.hid hlen; clear hlen
  go_enter Try.func29, Try.ntmps29
  go_wp2
  go_loop [5] (fun i => ∃ k : Nat, k ≤ len ∧ i = .int .i64 k ∧ Hid (hasB (l.take k) v = false)) (fun i => len - (intOf i).toNat)
  case atStart => exact ⟨0, Nat.zero_le _, rfl, hasB_nil v⟩
  case round =>
    obtain ⟨k, hk, rfl, HN⟩ := hrel
    by_cases hlt : k < len
    · obtain ⟨b, off, rfl, _, hc⟩ := hat (by omega)
      have hck := hc k hlt
      clear hc hat
      by_cases hv : nth l k = v
      · have HC := Lib.hid (hasB_hit l v k (by have := HL.out; omega) hv)
        have hvb : (nth l k == v) = true := by simpa using hv
        clear hv
        go_wp2
        go_ret
        exact ⟨by rw [HC.out]; rfl, rfl⟩
      · have HC := Lib.hid (hasB_snoc l v k (by have := HL.out; omega) HN.out hv)
        have hvb : (nth l k == v) = false := by simpa using hv
        clear hv
        go_wp2
        go_round
        case rel => exact ⟨k + 1, by omega, by go_num, HC.out⟩
        case measure => simp [intOf]; omega
    · go_wp2
      go_ret
      exact ⟨by rw [hasB_all l v k (by have := HL.out; omega) HN.out]; rfl, rfl⟩
end Go.Proofs.Ytgmagldbfajedaa
