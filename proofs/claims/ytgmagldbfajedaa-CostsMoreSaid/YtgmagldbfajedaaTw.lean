/-
  drydocklaw01.TwinInts: contract twinInts_any.
-/
import Derived.Test.YtgmagldbfajedaaTwP
import Derived.Deep.RegionHeld3
namespace Go.Proofs.Ytgmagldbfajedaa
open Go.RowKit

set_option maxHeartbeats 2000000 in
set_option maxRecDepth 100000 in
theorem twinInts_any (a : Option Addr) (len cap : Nat) (l : List Int) (w : World) (H : Ints w a len cap l) (hbig : len ≤ 1000000) :
    Calls Try.prog 137 #[.slice a len cap] w fun e w' => ∃ b o c, e = .returned (.slice (some ⟨b, o, none⟩) len c) ∧ Mine w.heap.size w' b o c l ∧ Below w.heap.size w w' := by
  obtain ⟨i0, hi0, hz0, hz1, hz2⟩ := info_parts Try.info3
  have KH := Lib.hid H
  have HL := Lib.hid H.length
  have hle := H.le
  have hcl := H.cap_le
  clear H
  go_enter Try.func137, Try.ntmps137
  go_wp2_with (at_make; refine wpList_make_own _ rfl _ _ 22 rfl w.heap.size 3 i0 (.int .i64 0) 1 Try.underlying22 hi0 hz0 hz1 .i64 .i64 _ (len + 1) rfl rfl (by omega) (by rw [hz2]; omega) (by unfold maxLen; omega) (Nat.le_refl _) ?_)
  intro w1 hown hgrow
  have HB1 : Hid (Below w.heap.size w w1) := (Below.refl _ _).grown hgrow (Nat.le_refl _) (fun k hk => nomatch hk)
  have HO1 : Hid (Own w.heap.size w1 (.slice (some ⟨w.heap.size, 0, none⟩) 0 (len + 1)) (l.take 0)) := hown
  clear hown hgrow
  go_wp2
  go_loopg [3, 4] len (fun gg v i wr => ∃ k : Nat, k ≤ len ∧ len - k ≤ gg ∧ i = .int .i64 k ∧ Hid (Own w.heap.size wr v (l.take k)) ∧ Hid (Below w.heap.size w wr))
  case atStart => exact ⟨0, Nat.zero_le _, by omega, rfl, HO1, HB1⟩
  case round =>
    obtain ⟨k, hk, hg, rfl, HO, HW⟩ := hrel
    by_cases hlt : k < len
    · obtain ⟨b, off, rfl, _, hc⟩ := (KH.out.below HW.out).at_ (by omega)
      have hck := hc k hlt
      have HS := Lib.hid (take_snoc l k (by rw [HL.out]; exact hlt))
      have hln : (l.take k).length ≤ k := List.length_take_le _ _
      clear hc
      generalize nth l k = x at *
      go_wp2_with (at_builtin; go_must (refine wpList_app1w _ rfl _ _ rfl w.heap.size _ _ _ HO.out rfl rfl HW.out.size (by omega) ?_))
      intro v' w3 hown' hbel hgrow
      rw [← HS.out] at hown'
      have HO' := Lib.hid hown'
      have HW3 : Hid (Below w.heap.size w w3) := HW.out.trans hbel
      clear hown' hbel hgrow hck
      go_wp2
      go_roundg (len - (k + 1))
      case measure => exact Nat.lt_of_lt_of_le (Nat.sub_lt_sub_left hlt (Nat.lt_succ_self k)) hg
      case rel => exact ⟨k + 1, Nat.succ_le_of_lt hlt, Nat.le_refl _, by go_num, HO', HW3⟩
    · rw [List.take_of_length_le (by rw [HL.out]; omega)] at HO
      go_wp2_with (at_builtin; go_must (refine wpList_app1w _ rfl _ _ rfl w.heap.size _ _ _ HO.out rfl rfl HW.out.size (by rw [HL.out]; omega) ?_))
      intro v' w3 hown' hbel hgrow
      obtain ⟨g, off, cp, rfl, hM⟩ := hown'.mine (by simp)
      have HM := Lib.hid (hM.take len)
      have hcp := hM.le
      have hcc := hM.cap_le
      have hla : (l ++ [(77 : Int)]).length = len + 1 := by rw [List.length_append, HL.out]; rfl
      rw [hla] at hcp ⊢
      rw [List.take_left' HL.out] at HM
      have hsl := slice_take (some ⟨g, off, none⟩) (len + 1) cp len (by omega) hcp
      have HW3 : Hid (Below w.heap.size w w3) := HW.out.trans hbel
      clear hown' hM hbel hgrow hla
      go_wp2
      go_ret
      exact ⟨_, _, _, rfl, HM.out, HW3.out⟩
end Go.Proofs.Ytgmagldbfajedaa
