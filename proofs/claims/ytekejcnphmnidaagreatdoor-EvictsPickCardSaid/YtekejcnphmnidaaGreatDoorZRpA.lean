/-
  The document's answer, chapter 21: contracts rhas_any (has), rnodes_any (nodes), rfar_any (farther).
-/
import Derived.Test.YtekejcnphmnidaaGreatDoorZBs
import Derived.Test.YtekejcnphmnidaaGreatDoorZBkL
namespace Go.Proofs.YtekejcnphmnidaaGreatDoor
open Go.RowKit

theorem rhasB_hit {l : List Int} {x : Int} {k : Nat} (hk : k < l.length) (h : nth l k = x) : hasB l x = true := (hasB_iff _ _).2 (h ▸ nth_mem l k hk)
theorem rhasB_miss {l : List Int} {x : Int} (h : ∀ k, k < l.length → nth l k ≠ x) : hasB l x = false := by
  cases hc : hasB l x with
  | false => rfl
  | true =>
    obtain ⟨k, hk, e⟩ := List.getElem_of_mem ((hasB_iff _ _).1 hc)
    exact absurd (by rw [nth_eq l k hk]; exact e) (h k hk)

set_option maxHeartbeats 1000000 in
theorem rhas_any (a : Option Addr) (len cap : Nat) (l : List Int) (x : Int) (w : World) (H : Ints w a len cap l) :
    Calls Tryz.prog 58 #[.slice a len cap, .int .i64 x] w fun e w' => e = .returned (.bool (hasB l x)) ∧ w = w' := by
  have hle := H.le
  have hcap := H.cap_le
  have HL := Lib.hid H.length
  have KH := Lib.hid H
  clear H
  go_enter Tryz.func58, Tryz.ntmps58
  go_wp2
  go_loop [5] (fun i => ∃ k : Nat, k ≤ len ∧ i = .int .i64 k ∧ Hid (∀ j, j < k → nth l j ≠ x)) (fun i => len - (intOf i).toNat)
  case atStart => exact ⟨0, Nat.zero_le _, rfl, fun j hj => absurd hj (Nat.not_lt_zero _)⟩
  case round =>
    obtain ⟨k, hk, rfl, HT⟩ := hrel
    by_cases hlt : k < len
    · obtain ⟨b, off, rfl, _, hc⟩ := KH.out.at_ (by omega)
      have hck := hc k hlt
      have HIT : Hid (nth l k = x → hasB l x = true) := fun h => rhasB_hit (by rw [HL.out]; exact hlt) h
      have HN : Hid (nth l k ≠ x → ∀ j, j < k + 1 → nth l j ≠ x) := fun h j hj => by
        by_cases e : j = k
        · subst e; exact h
        · exact HT.out j (by omega)
      clear hc
      generalize nth l k = y at *
      by_cases hv : y = x
      · have hb : (y == x) = true := by simp [hv]
        have HR := Lib.hid (HIT.out hv)
        clear hv
        go_wp2
        go_ret
        exact ⟨by rw [HR.out]; rfl, rfl⟩
      · have hb : (y == x) = false := by simp [hv]
        have HN2 := Lib.hid (HN.out hv)
        clear hv
        go_wp2
        go_round
        case rel => exact ⟨k + 1, by omega, by go_num, HN2⟩
        case measure => simp [intOf]; omega
    · have HR := Lib.hid (rhasB_miss (l := l) (x := x) (fun k hk => HT.out k (by rw [HL.out] at hk; omega)))
      go_wp2
      go_ret
      exact ⟨by rw [HR.out]; rfl, rfl⟩

set_option maxHeartbeats 2000000 in
theorem rnodes_any (a : Option Addr) (len cap : Nat) (l : List Int) (many : Int) (w : World) (H : Ints w a len cap l) :
    Calls Tryz.prog 57 #[.slice a len cap, .int .i64 many] w fun e w' => e = .returned (.bool (Ev.nodesB many [] l)) ∧ ∃ n, w' = w.drewN n := by
  have hle := H.le
  have hcap := H.cap_le
  have HL := Lib.hid H.length
  have KH := Lib.hid H
  clear H
  go_enter Tryz.func57, Tryz.ntmps57
  go_wp2
  go_loopg [5] len (fun gg i wr => ∃ k : Nat, k ≤ len ∧ len - k ≤ gg ∧ i = .int .i64 k ∧ Hid (Ev.nodesB many [] l = Ev.nodesB many (l.take k) (l.drop k)) ∧ Hid (∃ n, wr = w.drewN n))
  case atStart => exact ⟨0, Nat.zero_le _, by omega, rfl, rfl, 0, rfl⟩
  case round =>
    obtain ⟨k, hk, hg, rfl, HN, HWr⟩ := hrel
    obtain ⟨nw, rfl⟩ := HWr.out
    by_cases hlt : k < len
    · have dkl : decide ((k : Int) < (len : Int)) = true := decide_eq_true (by omega)
      obtain ⟨b, off, rfl, _, hc⟩ := KH.out.at_ (by omega)
      have hck := hc k hlt
      have hkc : k ≤ cap := by omega
      have hki : (k : Int) < (len : Int) := by omega
      have HS : Hid (Ev.nodesB many [] l = (decide (0 ≤ nth l k) && decide (nth l k < many) && !hasB (l.take k) (nth l k) && Ev.nodesB many (l.take (k + 1)) (l.drop (k + 1)))) := by
        have hk' : k < l.length := by have := HL.out; omega
        show _ = _
        rw [HN.out, List.drop_eq_getElem_cons hk', take_snoc l k hk', nth_eq l k hk']
        rfl
      have HTK : Hid (Ints w (some ⟨b, off, none⟩) k cap (l.take k)) := KH.out.take k (by omega)
      clear hc
      generalize nth l k = x at *
      by_cases h0 : x < 0
      · have hp0 : decide (x < 0) = true := decide_eq_true h0
        have HR := Lib.hid (show Ev.nodesB many [] l = false by rw [HS.out, decide_eq_false (show ¬ 0 ≤ x by omega)]; rfl)
        clear h0
        go_wp2_with fail
        go_quiet (fail)
        go_wp2
        go_ret
        exact ⟨by rw [HR.out]; rfl, ⟨nw + nq, by simp⟩⟩
      have hp0 : decide (x < 0) = false := decide_eq_false h0
      by_cases h1 : many ≤ x
      · have hp1 : decide (x ≥ many) = true := decide_eq_true h1
        have HR := Lib.hid (show Ev.nodesB many [] l = false by rw [HS.out, decide_eq_false (show ¬ x < many by omega), Bool.and_false]; rfl)
        clear h0 h1
        go_wp2_with fail
        go_quiet (fail)
        go_wp2
        go_ret
        exact ⟨by rw [HR.out]; rfl, ⟨nw + nq, by simp⟩⟩
      have hp1 : decide (x ≥ many) = false := decide_eq_false h1
      cases hh : hasB (l.take k) x with
      | true =>
        have HC : Hid (∀ s, Calls Tryz.prog 58 #[.slice (some ⟨b, off, none⟩) k cap, .int .i64 x] (w.drewN s) fun e w' => e = .returned (.bool true) ∧ w' = w.drewN s) := fun s => (rhas_any _ _ _ _ _ _ (HTK.out.drewN s)).mono fun _ _ ⟨he, hw⟩ => ⟨by rw [he, hh], hw.symm⟩
        have HR := Lib.hid (show Ev.nodesB many [] l = false by rw [HS.out, hh]; simp)
        clear h0 h1 hh
        go_wp2_with fail
        go_quiet ((go_at_call 58; exact quiet_more (HC.out _)))
        go_wp2
        go_ret
        exact ⟨by rw [HR.out]; rfl, ⟨nw + nq, by simp⟩⟩
      | false =>
        have HC : Hid (∀ s, Calls Tryz.prog 58 #[.slice (some ⟨b, off, none⟩) k cap, .int .i64 x] (w.drewN s) fun e w' => e = .returned (.bool false) ∧ w' = w.drewN s) := fun s => (rhas_any _ _ _ _ _ _ (HTK.out.drewN s)).mono fun _ _ ⟨he, hw⟩ => ⟨by rw [he, hh], hw.symm⟩
        have HN2 : Hid (Ev.nodesB many [] l = Ev.nodesB many (l.take (k + 1)) (l.drop (k + 1))) := by
          show _ = _
          rw [HS.out, hh, decide_eq_true (show 0 ≤ x by omega), decide_eq_true (show x < many by omega)]; rfl
        clear h0 h1 hh
        go_wp2_with fail
        go_quiet ((go_at_call 58; exact quiet_more (HC.out _)))
        go_wp2
        go_roundg (len - (k + 1))
        case measure => omega
        case rel => exact ⟨k + 1, by omega, by omega, by go_num, HN2, ⟨nw + nq, by simp⟩⟩
    · have dkl : decide ((k : Int) < (len : Int)) = false := decide_eq_false (by omega)
      have HR : Hid (Ev.nodesB many [] l = true) := by
        show _ = _
        rw [HN.out, List.drop_eq_nil_of_le (by have := HL.out; omega)]; rfl
      go_wp2
      go_ret
      exact ⟨by rw [HR.out]; rfl, ⟨_, rfl⟩⟩

namespace Ev
/-- Does one go ahead of another one? -/
def fartherB (bytes next : List Int) (a b : Int) : Bool :=
  if at_ next a < 0 ∧ 0 ≤ at_ next b then true else if 0 ≤ at_ next a ∧ at_ next b < 0 then false
  else if 0 ≤ at_ next a ∧ at_ next a ≠ at_ next b then decide (at_ next a > at_ next b)
  else if at_ bytes a ≠ at_ bytes b then decide (at_ bytes a > at_ bytes b) else decide (a < b)
theorem fartherB_far (bytes next : List Int) (a b : Int) : fartherB bytes next a b = decide (far bytes next a b < 0) := by
  unfold fartherB far cmpI orI
  generalize at_ next a = x
  generalize at_ next b = y
  generalize at_ bytes a = p
  generalize at_ bytes b = q
  repeat' split
  all_goals first
    | (exfalso; omega)
    | (symm; exact decide_eq_true (by omega))
    | (symm; exact decide_eq_false (by omega))
    | (rw [decide_eq_decide]; omega)
end Ev

set_option maxHeartbeats 2000000 in
theorem rfar_any (ab an : Option Addr) (lb cb cn : Nat) (bytes next : List Int) (x y : Int) (w : World) (HB : Ints w ab lb cb bytes) (HN : Ints w an lb cn next) (hx0 : 0 ≤ x) (hx1 : x < lb) (hy0 : 0 ≤ y) (hy1 : y < lb) :
    Calls Tryz.prog 59 #[.int .i64 x, .int .i64 y, .slice ab lb cb, .slice an lb cn] w fun e w' => e = .returned (.bool (Ev.fartherB bytes next x y)) ∧ ∃ n, w' = w.drewN n := by
  have hb1 := HB.le
  have hn1 := HN.le
  have hb2 := HB.cap_le
  have hn2 := HN.cap_le
  obtain ⟨bb, ob, rfl, _, hcb⟩ := HB.at_ (by omega)
  obtain ⟨bn, on, rfl, _, hcn⟩ := HN.at_ (by omega)
  have b1 := hcb x.toNat (by omega)
  have b2 := hcb y.toNat (by omega)
  have n1 := hcn x.toNat (by omega)
  have n2 := hcn y.toNat (by omega)
  have HF : Hid (Ev.fartherB bytes next x y = if nth next x.toNat < 0 ∧ 0 ≤ nth next y.toNat then true else if 0 ≤ nth next x.toNat ∧ nth next y.toNat < 0 then false
    else if 0 ≤ nth next x.toNat ∧ nth next x.toNat ≠ nth next y.toNat then decide (nth next x.toNat > nth next y.toNat)
    else if nth bytes x.toNat ≠ nth bytes y.toNat then decide (nth bytes x.toNat > nth bytes y.toNat) else decide (x < y)) := rfl
  clear HB HN hcb hcn
  generalize nth next x.toNat = p at *
  generalize nth next y.toNat = q at *
  generalize nth bytes x.toNat = r at *
  generalize nth bytes y.toNat = s at *
  by_cases h1 : p < 0 <;> by_cases h2 : q < 0
  · have d1 : decide (p < 0) = true := decide_eq_true h1
    have d2 : decide (q < 0) = true := decide_eq_true h2
    have d3 : decide (p ≥ 0) = false := decide_eq_false (by omega)
    by_cases h3 : r = s
    · have d4 : (r != s) = false := by simp [h3]
      have HR : Hid (Ev.fartherB bytes next x y = decide (x < y)) := by show _ = _; rw [HF.out, if_neg (by omega), if_neg (by omega), if_neg (by omega), if_neg (by omega)]
      clear h1 h2 h3
      go_enter Tryz.func59, Tryz.ntmps59
      go_wp2_with fail
      go_quiet (fail)
      go_wp2_with fail
      go_quiet (fail)
      go_wp2
      go_ret
      exact ⟨by rw [HR.out]; rfl, ⟨_, by first | rfl | simp; rfl⟩⟩
    · have d4 : (r != s) = true := by simp [h3]
      have HR : Hid (Ev.fartherB bytes next x y = decide (r > s)) := by show _ = _; rw [HF.out, if_neg (by omega), if_neg (by omega), if_neg (by omega), if_pos (by omega)]
      clear h1 h2 h3
      go_enter Tryz.func59, Tryz.ntmps59
      go_wp2_with fail
      go_quiet (fail)
      go_wp2_with fail
      go_quiet (fail)
      go_wp2_with fail
      go_quiet (fail)
      go_wp2
      go_ret
      exact ⟨by rw [HR.out]; rfl, ⟨_, by first | rfl | simp; rfl⟩⟩
  · have d1 : decide (p < 0) = true := decide_eq_true h1
    have d2 : decide (q < 0) = false := decide_eq_false h2
    have HR : Hid (Ev.fartherB bytes next x y = true) := by show _ = _; rw [HF.out, if_pos (by omega)]
    clear h1 h2
    go_enter Tryz.func59, Tryz.ntmps59
    go_wp2_with fail
    go_quiet (fail)
    go_wp2
    go_ret
    exact ⟨by rw [HR.out]; rfl, ⟨_, rfl⟩⟩
  · have d1 : decide (p < 0) = false := decide_eq_false h1
    have d2 : decide (q < 0) = true := decide_eq_true h2
    have HR : Hid (Ev.fartherB bytes next x y = false) := by show _ = _; rw [HF.out, if_neg (by omega), if_pos (by omega)]
    clear h1 h2
    go_enter Tryz.func59, Tryz.ntmps59
    go_wp2_with fail
    go_quiet (fail)
    go_wp2
    go_ret
    exact ⟨by rw [HR.out]; rfl, ⟨_, rfl⟩⟩
  · have d1 : decide (p < 0) = false := decide_eq_false h1
    have d2 : decide (q < 0) = false := decide_eq_false h2
    have d3 : decide (p ≥ 0) = true := decide_eq_true (by omega)
    by_cases h4 : p = q
    · have d5 : (p != q) = false := by simp [h4]
      by_cases h3 : r = s
      · have d4 : (r != s) = false := by simp [h3]
        have HR : Hid (Ev.fartherB bytes next x y = decide (x < y)) := by show _ = _; rw [HF.out, if_neg (by omega), if_neg (by omega), if_neg (by omega), if_neg (by omega)]
        clear h1 h2 h3 h4
        go_enter Tryz.func59, Tryz.ntmps59
        go_wp2_with fail
        go_quiet (fail)
        go_wp2_with fail
        go_quiet (fail)
        go_wp2
        go_ret
        exact ⟨by rw [HR.out]; rfl, ⟨_, by first | rfl | simp; rfl⟩⟩
      · have d4 : (r != s) = true := by simp [h3]
        have HR : Hid (Ev.fartherB bytes next x y = decide (r > s)) := by show _ = _; rw [HF.out, if_neg (by omega), if_neg (by omega), if_neg (by omega), if_pos (by omega)]
        clear h1 h2 h3 h4
        go_enter Tryz.func59, Tryz.ntmps59
        go_wp2_with fail
        go_quiet (fail)
        go_wp2_with fail
        go_quiet (fail)
        go_wp2_with fail
        go_quiet (fail)
        go_wp2
        go_ret
        exact ⟨by rw [HR.out]; rfl, ⟨_, by first | rfl | simp; rfl⟩⟩
    · have d5 : (p != q) = true := by simp [h4]
      have HR : Hid (Ev.fartherB bytes next x y = decide (p > q)) := by show _ = _; rw [HF.out, if_neg (by omega), if_neg (by omega), if_pos (by omega)]
      clear h1 h2 h4
      go_enter Tryz.func59, Tryz.ntmps59
      go_wp2_with fail
      go_quiet (fail)
      go_wp2
      go_ret
      exact ⟨by rw [HR.out]; rfl, ⟨_, rfl⟩⟩
end Go.Proofs.YtekejcnphmnidaaGreatDoor
