/-
  within of the evicts document: contracts within1_any, within_any.
-/
import Derived.Test.YtgmagldbfajedaaBase
import Derived.Test.YtgmagldbfajedaaEvPlain
namespace Go.Proofs.Ytgmagldbfajedaa
open Go.RowKit

/-- What slices.IndexFunc answers, as far as slices.ContainsFunc asks. -/
def IsIdxF (p : Int → Bool) (l : List Int) (e : Ending) : Prop := ∃ i : Int, e = .returned (.int .i64 i) ∧ decide (0 ≤ i) = anyB p l

set_option maxHeartbeats 400000 in
theorem indexFunc_any (g : Nat) (cb : Array Value) (p : Int → Bool) (eg : ∀ args w, (callFunc g args).run Try.prog w = .ok (.enter g args) w) (a : Option Addr) (len cap : Nat) (l : List Int) (w : World) (H : Ints w a len cap l) (hp : PredAt g cb p w) :
    Calls Try.prog 108 #[.slice a len cap, .func (.func g) #[] cb] w fun e w' => IsIdxF p l e ∧ Below w.heap.size w w' := by
  have HI := Lib.hid H
  have HP := Lib.hid hp; clear hp
  obtain ⟨hle, hcap, hlen, _, _⟩ := H
  have HL := Lib.hid hlen; clear hlen
  go_enter Try.func108, Try.ntmps108
  go_wp2
  go_loopg [5, 8] len (fun gg _ i wr => ∃ k : Nat, k ≤ len ∧ len - k ≤ gg ∧ i = .int .i64 k ∧ Hid (anyB p (l.take k) = false) ∧ Hid (Below w.heap.size w wr))
  case atStart => exact ⟨0, Nat.zero_le _, by omega, rfl, anyB_nil p, Below.refl _ _⟩
  case round =>
    obtain ⟨k, hk, hg, rfl, HN, HB⟩ := hrel
    by_cases hlt : k < len
    · obtain ⟨b, off, rfl, _, hc⟩ := (HI.out.below HB.out).at_ (by omega)
      have hck := hc k hlt
      clear hc
      have hwf := HI.out.nth_wf hlt
      have hcall := HP.out wr HB.out (nth l k) hwf.1 hwf.2
      cases hv : p (nth l k) with
      | true =>
        rw [hv] at hcall
        have HC := Lib.hid (anyB_hit p l k (by have := HL.out; omega) hv); clear hv
        have HCall := Lib.hid hcall; clear hcall
        go_wp2_with (go_at_fn g; refine HCall.out.mono ?_; rintro e w1 ⟨rfl, hb1⟩)
        go_ret
        exact ⟨⟨k, rfl, by rw [HC.out]; simp⟩, below_step HB.out hb1 HB.out.size⟩
      | false =>
        rw [hv] at hcall
        have HC := Lib.hid (anyB_snoc p l k (by have := HL.out; omega) HN.out hv); clear hv
        have HCall := Lib.hid hcall; clear hcall
        go_wp2_with (go_at_fn g; refine HCall.out.mono ?_; rintro e w1 ⟨rfl, hb1⟩)
        go_roundg (len - (k + 1))
        case measure => omega
        case rel => exact ⟨k + 1, by omega, by omega, by go_num, HC.out, below_step HB.out hb1 HB.out.size⟩
    · go_wp2
      go_ret
      exact ⟨⟨-1, rfl, by rw [anyB_all p l k (by have := HL.out; omega) HN.out]; rfl⟩, HB.out⟩

theorem containsFunc_any (g : Nat) (cb : Array Value) (p : Int → Bool) (eg : ∀ args w, (callFunc g args).run Try.prog w = .ok (.enter g args) w) (a : Option Addr) (len cap : Nat) (l : List Int) (w : World) (H : Ints w a len cap l) (hp : PredAt g cb p w) :
    Calls Try.prog 70 #[.slice a len cap, .func (.func g) #[] cb] w fun e w' => e = .returned (.bool (anyB p l)) ∧ Below w.heap.size w w' := by
  have HP := Lib.hid hp; clear hp
  have HG := Lib.hid eg; clear eg
  have HI := Lib.hid H; clear H
  go_enter Try.func70, Try.ntmps70
  go_wp2_with fail
  refine (indexFunc_any g cb p HG.out _ _ _ l _ HI.out HP.out).mono ?_
  rintro e w1 ⟨⟨i, rfl, hi⟩, hb⟩
  have HJ := Lib.hid hi; clear hi
  have HB := Lib.hid hb; clear hb
  go_wp2
  go_ret
  exact ⟨by rw [← HJ.out]; rfl, HB.out⟩

def outB (x : Int) : Bool := decide (x < 0) || decide (1048576 < x)

theorem within1_any (x : Int) (w : World) (h0 : -9223372036854775808 ≤ x) (h1 : x ≤ 9223372036854775807) :
    Calls Try.prog 100 #[.int .i64 x] w fun e w' => e = .returned (.bool (outB x)) ∧ w = w' := by
  by_cases h : x < 0
  · have hd : decide (x < 0) = true := decide_eq_true h
    have HR := Lib.hid (show outB x = true by simp [outB, h])
    clear h
    go_enter Try.func100, Try.ntmps100
    go_wp2
    go_ret
    exact ⟨by rw [HR.out]; rfl, rfl⟩
  · have hd : decide (x < 0) = false := decide_eq_false h
    by_cases h2 : 1048576 < x
    · have HR := Lib.hid (show outB x = true by simp [outB, h2])
      go_enter Try.func100, Try.ntmps100
      go_wp2
      go_ret
      exact ⟨by rw [HR.out]; rfl, rfl⟩
    · have HR := Lib.hid (show outB x = false by simp [outB, h, h2])
      go_enter Try.func100, Try.ntmps100
      go_wp2
      go_ret
      exact ⟨by rw [HR.out]; rfl, rfl⟩

theorem within1_pred (B : World) : PredAt 100 #[] outB B := fun w _ x h0 h1 => (within1_any x w h0 h1).mono fun e w' ⟨he, hw⟩ => ⟨he, hw ▸ Below.refl _ _⟩

theorem within_anyB (l : List Int) : Ev.within l = !anyB outB l := by
  unfold Ev.within anyB
  induction l with
  | nil => rfl
  | cons v r ih =>
    simp only [List.all_cons, List.any_cons, ih, Bool.not_or]
    congr 1
    unfold outB
    by_cases h : v < 0 <;> by_cases h2 : 1048576 < v <;> simp [h, h2] <;> omega

theorem within_any (a : Option Addr) (len cap : Nat) (l : List Int) (w : World) (H : Ints w a len cap l) :
    Calls Try.prog 60 #[.slice a len cap] w fun e w' => e = .returned (.bool (Ev.within l)) ∧ Below w.heap.size w w' := by
  have HI := Lib.hid H; clear H
  have HR := Lib.hid (within_anyB l)
  go_enter Try.func60, Try.ntmps60
  go_wp2_with fail
  refine (containsFunc_any 100 #[] outB (enters_of Try.func100 (by kernel_rfl) rfl) _ _ _ l _ HI.out (within1_pred _)).mono ?_
  rintro e w1 ⟨rfl, hb⟩
  have HB := Lib.hid hb; clear hb
  go_wp2
  go_ret
  exact ⟨by rw [HR.out]; rfl, HB.out⟩
end Go.Proofs.Ytgmagldbfajedaa
