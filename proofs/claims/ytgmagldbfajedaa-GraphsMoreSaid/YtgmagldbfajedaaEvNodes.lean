/-
  the node check of the evicts document: contract nodes_any.
-/
import Derived.Test.YtgmagldbfajedaaBase
import Derived.Test.YtgmagldbfajedaaEvPlain
namespace Go.Proofs.Ytgmagldbfajedaa
open Go.RowKit

/-- What slices.Index answers, as far as slices.Contains asks. -/
def IsIdx (l : List Int) (v : Int) (e : Ending) : Prop := ∃ i : Int, e = .returned (.int .i64 i) ∧ decide (0 ≤ i) = hasB l v

set_option maxHeartbeats 400000 in
theorem index_any (a : Option Addr) (len cap : Nat) (l : List Int) (v : Int) (w : World) (H : Ints w a len cap l) :
    Calls Try.prog 101 #[.slice a len cap, .int .i64 v] w fun e w' => IsIdx l v e ∧ w = w' := by
  obtain ⟨hle, hcap, hlen, _, hat⟩ := H
  have HL := Lib.hid hlen; clear hlen
  go_enter Try.func101, Try.ntmps101
  go_wp2
  go_loop [8] (fun i => ∃ k : Nat, k ≤ len ∧ i = .int .i64 k ∧ Hid (hasB (l.take k) v = false)) (fun i => len - (intOf i).toNat)
  case atStart => exact ⟨0, Nat.zero_le _, rfl, hasB_nil v⟩
  case round =>
    obtain ⟨k, hk, rfl, HN⟩ := hrel
    by_cases hlt : k < len
    · obtain ⟨b, off, rfl, _, hc⟩ := hat (by omega)
      have hck := hc k hlt
      clear hc hat
      by_cases hv : nth l k = v
      · have HC := Lib.hid (hasB_hit l v k (by have := HL.out; omega) hv)
        have hvb : (v == nth l k) = true := by simp [hv]
        clear hv
        go_wp2
        go_ret
        exact ⟨⟨k, rfl, by rw [HC.out]; simp⟩, rfl⟩
      · have HC := Lib.hid (hasB_snoc l v k (by have := HL.out; omega) HN.out hv)
        have hvb : (v == nth l k) = false := by simpa using fun h => hv h.symm
        clear hv
        go_wp2
        go_round
        case rel => exact ⟨k + 1, by omega, by go_num, HC.out⟩
        case measure => simp [intOf]; omega
    · go_wp2
      go_ret
      exact ⟨⟨-1, rfl, by rw [hasB_all l v k (by have := HL.out; omega) HN.out]; rfl⟩, rfl⟩

theorem contains_any (a : Option Addr) (len cap : Nat) (l : List Int) (v : Int) (w : World) (H : Ints w a len cap l) :
    Calls Try.prog 61 #[.slice a len cap, .int .i64 v] w fun e w' => e = .returned (.bool (hasB l v)) ∧ w = w' := by
  go_enter Try.func61, Try.ntmps61
  go_wp2_with fail
  refine (index_any _ _ _ l _ _ H).mono ?_
  rintro e w1 ⟨⟨i, rfl, hi⟩, rfl⟩
  have HI := Lib.hid hi; clear hi
  go_wp2
  go_ret
  exact ⟨by rw [← HI.out]; rfl, rfl⟩

set_option maxHeartbeats 400000 in
theorem nodes_any (a : Option Addr) (len cap : Nat) (l : List Int) (many : Int) (w : World) (H : Ints w a len cap l) :
    Calls Try.prog 59 #[.slice a len cap, .int .i64 many] w fun e w' => e = .returned (.bool (Ev.nodesB many [] l)) ∧ w = w' := by
  have HI := Lib.hid H
  obtain ⟨hle, hcap, hlen, _, hat⟩ := H
  have HL := Lib.hid hlen; clear hlen
  go_enter Try.func59, Try.ntmps59
  go_wp2
  go_loop [9] (fun i => ∃ k : Nat, k ≤ len ∧ i = .int .i64 k ∧ Hid (Ev.nodesB many [] l = Ev.nodesB many (l.take k) (l.drop k))) (fun i => len - (intOf i).toNat)
  case atStart => exact ⟨0, Nat.zero_le _, rfl, rfl⟩
  case round =>
    obtain ⟨k, hk, rfl, HN⟩ := hrel
    by_cases hlt : k < len
    · obtain ⟨b, off, rfl, _, hc⟩ := hat (by omega)
      have hck := hc k hlt
      clear hc hat
      have HS : Hid (Ev.nodesB many [] l = (decide (0 ≤ nth l k) && decide (nth l k < many) && !hasB (l.take k) (nth l k) && Ev.nodesB many (l.take (k + 1)) (l.drop (k + 1)))) := by
        have hk' : k < l.length := by have := HL.out; omega
        show _ = _
        rw [HN.out, List.drop_eq_getElem_cons hk', take_snoc l k hk', nth_eq l k hk']
        rfl
      by_cases h0 : 0 ≤ nth l k
      · by_cases hm : nth l k < many
        · have hp0 : decide (nth l k < 0) = false := decide_eq_false (by omega)
          have hp1 : decide (nth l k ≥ many) = false := decide_eq_false (by omega)
          cases hh : hasB (l.take k) (nth l k) with
          | true =>
            have HR := Lib.hid (show Ev.nodesB many [] l = false by rw [HS.out, hh]; simp)
            have HH := Lib.hid hh; clear hh
            go_wp2_with (go_at_call 61; refine (contains_any _ _ _ (l.take k) _ _ (HI.out.take k (by omega))).mono ?_; rintro e w1 ⟨rfl, rfl⟩; rw [HH.out])
            go_ret
            exact ⟨by rw [HR.out]; rfl, rfl⟩
          | false =>
            have HH := Lib.hid hh; clear hh
            go_wp2_with (go_at_call 61; refine (contains_any _ _ _ (l.take k) _ _ (HI.out.take k (by omega))).mono ?_; rintro e w1 ⟨rfl, rfl⟩; rw [HH.out])
            go_round
            case rel => exact ⟨k + 1, by omega, by go_num, by show _ = _; rw [HS.out, HH.out]; simp [h0, hm]⟩
            case measure => simp [intOf]; omega
        · have hp0 : decide (nth l k < 0) = false := decide_eq_false (by omega)
          have hp1 : decide (nth l k ≥ many) = true := decide_eq_true (by omega)
          have HR := Lib.hid (show Ev.nodesB many [] l = false by rw [HS.out]; simp [hm])
          go_wp2
          go_ret
          exact ⟨by rw [HR.out]; rfl, rfl⟩
      · have hp0 : decide (nth l k < 0) = true := decide_eq_true (by omega)
        have HR := Lib.hid (show Ev.nodesB many [] l = false by rw [HS.out]; simp [h0])
        go_wp2
        go_ret
        exact ⟨by rw [HR.out]; rfl, rfl⟩
    · go_wp2
      go_ret
      have hk' : l.length ≤ k := by have := HL.out; omega
      exact ⟨by rw [HN.out, List.drop_eq_nil_of_le hk']; rfl, rfl⟩
end Go.Proofs.Ytgmagldbfajedaa
