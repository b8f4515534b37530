/-
  drydocklaw21.EvictsRoom: the walk room_walk (it returns true, and changes nothing below).
-/
import Derived.Test.YtgmagldbfajedaaEvLives
import Derived.Test.YtgmagldbfajedaaEvGreat
import Derived.Test.YtgmagldbfajedaaEvHas
namespace Go.Proofs.Ytgmagldbfajedaa
open Go.RowKit

/-- has, inside a region that draws. -/
theorem has_at {w : World} {a : Option Addr} {len cap : Nat} {l : List Int} {v : Int} {b : Bool} (H : Ints w a len cap l) (hb : hasB l v = b) (n : Nat) :
    Calls Try.prog 29 #[.slice a len cap, .int .i64 v] (w.drewN n) fun e w' => e = .returned (.bool b) ∧ w' = w.drewN n :=
  (has_any a len cap l v _ (H.drewN n)).mono fun _ _ ⟨he, hw⟩ => ⟨by rw [he, hb], hw.symm⟩

set_option maxHeartbeats 8000000 in
set_option maxRecDepth 100000 in
theorem room_walk (ai ap ab an : Option Addr) (li ci lp cp lb cb ln cn : Nat) (inn pin bytes next : List Int) (room need : Int) (w : World)
    (HI : Ints w ai li ci inn) (HP : Ints w ap lp cp pin) (HB : Ints w ab lb cb bytes) (HN : Ints w an ln cn next)
    (g1 : li ≤ 17592186044416) (g2 : lp ≤ 17592186044416) (g3 : lb ≤ 17592186044416) (g4 : ln ≤ 17592186044416)
    (hr : -9223372036854775808 ≤ room ∧ room ≤ 9223372036854775807) (hd : -9223372036854775808 ≤ need ∧ need ≤ 9223372036854775807) :
    Calls Try.prog 3 #[.agg #[.slice ai li ci, .slice ap lp cp, .int .i64 room, .int .i64 need, .slice ab lb cb, .slice an ln cn]] w fun e w' => e = .returned (.bool true) ∧ Below w.heap.size w w' := by
  have KI := Lib.hid HI
  have KP := Lib.hid HP
  have KB := Lib.hid HB
  have KN := Lib.hid HN
  clear HI HP HB HN
  go_enter Try.func3, Try.ntmps3
  go_wp2_with fail
  refine (great_any ai ap ab an li ci lp cp lb cb ln cn _ _ room need rfl rfl _ g1 g2 g3 g4).mono ?_
  rintro e w1 ⟨rfl, hb⟩
  have hb1 : Below w.heap.size w w1 := ((Below.refl _ _).alloc (Nat.le_refl _) _).trans (hb.mono (by simp))
  have hs1 : w.heap.size < w1.heap.size := by have := hb.size; simp at this; omega
  by_cases hgr : 400 < li + lp + lb + ln
  · rw [decide_eq_true hgr]
    have HB1 := Lib.hid hb1; clear hb hb1
    go_wp2_with fail
    refine (lives21_any _).mono ?_
    rintro e w2 ⟨rfl, hb2⟩
    have HB2 := Lib.hid (HB1.out.trans (hb2.mono HB1.out.size)); clear hb2
    go_wp2
    go_ret
    exact ⟨rfl, HB2.out⟩
  · rw [decide_eq_false hgr]
    have c0 : w1.cell? ⟨w.heap.size, 0, none⟩ = some (.slice ai li ci) := by rw [hb.cell (p := ⟨w.heap.size, 0, none⟩) (by simp), World.cell?_alloc_at _ _ _ _ rfl]; rfl
    have c1 : w1.cell? ⟨w.heap.size, 1, none⟩ = some (.slice ap lp cp) := by rw [hb.cell (p := ⟨w.heap.size, 1, none⟩) (by simp), World.cell?_alloc_at _ _ _ _ rfl]; rfl
    have c2 : w1.cell? ⟨w.heap.size, 2, none⟩ = some (.int .i64 room) := by rw [hb.cell (p := ⟨w.heap.size, 2, none⟩) (by simp), World.cell?_alloc_at _ _ _ _ rfl]; rfl
    have c3 : w1.cell? ⟨w.heap.size, 3, none⟩ = some (.int .i64 need) := by rw [hb.cell (p := ⟨w.heap.size, 3, none⟩) (by simp), World.cell?_alloc_at _ _ _ _ rfl]; rfl
    have c4 : w1.cell? ⟨w.heap.size, 4, none⟩ = some (.slice ab lb cb) := by rw [hb.cell (p := ⟨w.heap.size, 4, none⟩) (by simp), World.cell?_alloc_at _ _ _ _ rfl]; rfl
    have c5 : w1.cell? ⟨w.heap.size, 5, none⟩ = some (.slice an ln cn) := by rw [hb.cell (p := ⟨w.heap.size, 5, none⟩) (by simp), World.cell?_alloc_at _ _ _ _ rfl]; rfl
    have HB1 := Lib.hid hb1; clear hb hb1
    go_wp2_with fail
    refine (pick_any _ _ _ _ _ _ _ _ _ _ _ _ inn pin bytes next room need _ (KI.out.below HB1.out) (KP.out.below HB1.out) (KB.out.below HB1.out) (KN.out.below HB1.out) (by omega) hr hd).mono ?_
    rintro e w2 ⟨al, ll, cl, rfl, hL, hb2, _⟩
    have KL := Lib.hid hL; clear hL
    have d0 := (hb2.cell (p := ⟨w.heap.size, 0, none⟩) hs1).trans c0
    have d1 := (hb2.cell (p := ⟨w.heap.size, 1, none⟩) hs1).trans c1
    have d2 := (hb2.cell (p := ⟨w.heap.size, 2, none⟩) hs1).trans c2
    have d3 := (hb2.cell (p := ⟨w.heap.size, 3, none⟩) hs1).trans c3
    have d4 := (hb2.cell (p := ⟨w.heap.size, 4, none⟩) hs1).trans c4
    have HB2 := Lib.hid (HB1.out.trans (hb2.mono (by omega)))
    have hs2 : w.heap.size < w2.heap.size := Nat.lt_of_lt_of_le hs1 hb2.size
    clear hb2 c0 c1 c2 c3 c4 c5 hs1
    by_cases hE : Ev.pickE inn pin bytes next room need = 0
    · rw [hE]
      have HE := Lib.hid hE
      obtain ⟨hargs, _⟩ := Ev.args_of_ok hE
      obtain ⟨n1, n2, n3, n4, ⟨hr0, hr1⟩, ⟨hd0, hd1⟩⟩ := Ev.args_parts hargs
      rw [KB.out.length] at n1 n2
      have N1 := Lib.hid n1
      have KW := Lib.hid n4
      clear hE hargs n1 n2 n3 n4 hr hd g1 g2 g3 g4
      go_wp2
      go_loopg [5, 6] li (fun gg u i wr => ∃ k : Nat, k ≤ li ∧ li - k ≤ gg ∧ i = .int .i64 k ∧ u = .int .i64 (need + Ev.sumB bytes (inn.take k)) ∧ Hid (Below w2.heap.size w2 wr))
      case atStart => exact ⟨0, Nat.zero_le _, by omega, rfl, by simp [Ev.sumB], Below.refl _ _⟩
      case round =>
        obtain ⟨k, hk, hg, rfl, rfl, HWr⟩ := hrel
        have r0 := (HWr.out.cell (p := ⟨w.heap.size, 0, none⟩) hs2).trans d0
        have r4 := (HWr.out.cell (p := ⟨w.heap.size, 4, none⟩) hs2).trans d4
        have hsum := Ev.sumB_bounds bytes (inn.take k) KW.out (fun v hv => by rw [KB.out.length]; exact Ev.nodesB_mem N1.out v (List.mem_of_mem_take hv))
        have hlen1 : (inn.take k).length ≤ k := List.length_take_le _ _
        obtain ⟨hs0, hs1⟩ := hsum
        by_cases hlt : k < li
        · have hkl : k < inn.length := by rw [KI.out.length]; exact hlt
          obtain ⟨hv0, hv1⟩ := Ev.nodesB_mem N1.out (nth inn k) (nth_mem inn k hkl)
          have KIr := (KI.out.below HB2.out).below HWr.out
          have KBr := (KB.out.below HB2.out).below HWr.out
          obtain ⟨bi, oi, rfl, _, hci⟩ := KIr.at_ (by omega)
          have hck := hci k hlt
          obtain ⟨bb, ob, rfl, _, hcb⟩ := KBr.get hv0 hv1
          obtain ⟨hw0, hw1⟩ := Ev.at_within bytes KW.out (nth inn k) hv0 (by rw [KB.out.length]; exact hv1)
          have HS := Lib.hid (Ev.sumB_snoc bytes inn k hkl)
          have hki : (k : Int) < (li : Int) := by omega
          have rs : IntKind.i64.wrap (need + Ev.sumB bytes (inn.take k) + Ev.at_ bytes (nth inn k)) = need + Ev.sumB bytes (inn.take k) + Ev.at_ bytes (nth inn k) := by rw [IntKind.wrap_i64]; omega
          clear KIr KBr hci
          go_wp2_with fail
          go_quiet (fail)
          clear rs
          have HWq := Lib.hid (HWr.out.trans (below_drewN wr nq w2.heap.size))
          go_wp2
          go_roundg (li - (k + 1))
          case measure => omega
          case rel => exact ⟨k + 1, by omega, by omega, by go_num, by rw [HS.out, ← Int.add_assoc], HWq⟩
        · have hkl : inn.length ≤ k := by rw [KI.out.length]; omega
          rw [List.take_of_length_le hkl]
          rw [List.take_of_length_le hkl] at hs0 hs1
          have hend := Ev.room_end HE.out
          have hU1 : Ev.sumB bytes inn ≤ 1048576 * 400 := by have := KI.out.length; omega
          have RS := Lib.hid (fun j hj => Ev.room_step HE.out j hj)
          have RM := Lib.hid (fun v (hv : v ∈ Ev.pickL inn pin bytes next room need) => Ev.pickL_mem hv)
          have RN := Lib.hid (Ev.pickL_nodup (inn := inn) (pin := pin) (bytes := bytes) (next := next) (room := room) (need := need))
          have hLL : ll ≤ li := by
            rw [← KL.out.length, ← KI.out.length]
            obtain ⟨t, ht⟩ := Ev.greedy_prefix bytes room (Ev.sorted bytes next (Ev.frees pin inn)) (need + Ev.sumB bytes inn)
            have h1 : (Ev.pickL inn pin bytes next room need).length ≤ (Ev.sorted bytes next (Ev.frees pin inn)).length := by
              unfold Ev.pickL; rw [if_pos HE.out]
              conv => rhs; rw [ht]
              simp
            rw [(Ev.sorted_perm bytes next _).length_eq] at h1
            exact Nat.le_trans h1 (List.length_filter_le _ _)
          have KL2 := Lib.hid (KL.out.below HWr.out)
          have HB3 := Lib.hid (HB2.out.trans (HWr.out.mono (by omega)))
          have KI3 := Lib.hid (KI.out.below HB3.out)
          have KP3 := Lib.hid (KP.out.below HB3.out)
          have KB3 := Lib.hid (KB.out.below HB3.out)
          have t0 := (HWr.out.cell (p := ⟨w.heap.size, 0, none⟩) hs2).trans d0
          have t1 := (HWr.out.cell (p := ⟨w.heap.size, 1, none⟩) hs2).trans d1
          have t2 := (HWr.out.cell (p := ⟨w.heap.size, 2, none⟩) hs2).trans d2
          have t4 := (HWr.out.cell (p := ⟨w.heap.size, 4, none⟩) hs2).trans d4
          have hs3 : w.heap.size < wr.heap.size := Nat.lt_of_lt_of_le hs2 HWr.out.size
          clear r0 r4 d0 d1 d2 d3 d4 KL HE
          generalize Ev.pickL inn pin bytes next room need = L at *
          have LL := Lib.hid KL2.out.length
          go_wp2
          go_loopg [5, 7] ll (fun gg u i wv => ∃ j : Nat, j ≤ ll ∧ ll - j ≤ gg ∧ i = .int .i64 j ∧ u = .int .i64 (need + Ev.sumB bytes inn - Ev.sumB bytes (L.take j)) ∧ Hid (Below wr.heap.size wr wv))
          case atStart => exact ⟨0, Nat.zero_le _, by omega, rfl, by simp [Ev.sumB], Below.refl _ _⟩
          case round =>
            obtain ⟨j, hj, hg2, rfl, rfl, HWv⟩ := hrel
            have v0 := (HWv.out.cell (p := ⟨w.heap.size, 0, none⟩) hs3).trans t0
            have v1 := (HWv.out.cell (p := ⟨w.heap.size, 1, none⟩) hs3).trans t1
            have v2 := (HWv.out.cell (p := ⟨w.heap.size, 2, none⟩) hs3).trans t2
            have v4 := (HWv.out.cell (p := ⟨w.heap.size, 4, none⟩) hs3).trans t4
            have hsum2 := Ev.sumB_bounds bytes (L.take j) KW.out (fun v hv => by rw [KB.out.length]; exact Ev.nodesB_mem N1.out v (RM.out v (List.mem_of_mem_take hv)).1)
            have hlen2 : (L.take j).length ≤ j := List.length_take_le _ _
            obtain ⟨hq0, hq1⟩ := hsum2
            have KLv := Lib.hid (KL2.out.below HWv.out)
            have KIv := Lib.hid (KI3.out.below HWv.out)
            have KPv := Lib.hid (KP3.out.below HWv.out)
            have KBv := Lib.hid (KB3.out.below HWv.out)
            by_cases hlt2 : j < ll
            · have hjl : j < L.length := by rw [LL.out]; exact hlt2
              obtain ⟨hm1, hm2⟩ := RM.out (nth L j) (nth_mem L j hjl)
              obtain ⟨hv0, hv1⟩ := Ev.nodesB_mem N1.out (nth L j) hm1
              have hstep := RS.out j hjl
              have hA : hasB inn (nth L j) = true := (hasB_iff _ _).2 hm1
              have hB : hasB pin (nth L j) = false := (hasB_false _ _).2 hm2
              have hC : hasB (L.take j) (nth L j) = false := (hasB_false _ _).2 (by rw [nth_eq L j hjl]; exact Ev.not_mem_take RN.out j hjl)
              have HA := Lib.hid (fun n => has_at KIv.out hA n)
              have HP' := Lib.hid (fun n => has_at KPv.out hB n)
              obtain ⟨bL, oL, rfl, _, hcL⟩ := KLv.out.at_ (by omega)
              have hck := hcL j hlt2
              have HC := Lib.hid (fun n => has_at (KLv.out.take j hj) hC n)
              obtain ⟨bb, ob, rfl, _, hcb⟩ := KBv.out.get hv0 hv1
              obtain ⟨hw0, hw1⟩ := Ev.at_within bytes KW.out (nth L j) hv0 (by rw [KB.out.length]; exact hv1)
              have HS := Lib.hid (Ev.sumB_snoc bytes L j hjl)
              have hji : (j : Int) < (ll : Int) := by omega
              have hlc : ll ≤ cl := KLv.out.le
              have hjc : (j : Int) ≤ (cl : Int) := by omega
              have hle : decide (need + Ev.sumB bytes inn - Ev.sumB bytes (L.take j) ≤ room) = false := decide_eq_false (by omega)
              have rs : IntKind.i64.wrap (need + Ev.sumB bytes inn - Ev.sumB bytes (L.take j) - Ev.at_ bytes (nth L j)) = need + Ev.sumB bytes inn - Ev.sumB bytes (L.take j) - Ev.at_ bytes (nth L j) := by rw [IntKind.wrap_i64]; omega
              clear hcL hA hB hC hm1 hm2
              go_wp2_with fail
              go_quiet ((go_at_call 29; first | (with_reducible exact Calls.quiet_of_same (HA.out _)) | (with_reducible exact Calls.quiet_of_same (HP'.out _)) | (with_reducible exact Calls.quiet_of_same (HC.out _))))
              go_wp2_with fail
              go_quiet (fail)
              clear rs
              go_wp2
              go_roundg (ll - (j + 1))
              case measure => omega
              case rel => exact ⟨j + 1, by omega, by omega, by go_num, by rw [HS.out]; congr 1; omega, HWv.out.trans (below_drewN _ _ _)⟩
            · have hje : L.length ≤ j := by rw [LL.out]; omega
              rw [List.take_of_length_le hje]
              have hfin : decide (need + Ev.sumB bytes inn - Ev.sumB bytes L ≤ room) = true := decide_eq_true hend
              go_wp2_with (go_at_call 27; refine (lives21_any _).mono ?_; rintro e w3 ⟨rfl, hb3⟩; have HL3 := Lib.hid hb3; clear hb3)
              go_ret
              exact ⟨rfl, (HB3.out.trans (HWv.out.mono (by omega))).trans (HL3.out.mono (by have := HWv.out.size; omega))⟩
    · have hL := pickL_of_err (E := Ev.pickE inn pin bytes next room need) rfl hE
      rw [hL] at KL
      have hl0 := KL.out.length
      simp only [List.length_nil] at hl0
      obtain rfl : ll = 0 := hl0.symm
      have hne : (Ev.pickE inn pin bytes next room need != 0) = true := by simp [hE]
      clear hE hL hl0
      go_wp2_with (go_at_call 27; refine (lives21_any _).mono ?_; rintro e w3 ⟨rfl, hb3⟩; have HL3 := Lib.hid hb3; clear hb3)
      go_ret
      exact ⟨rfl, HB2.out.trans (HL3.out.mono (by omega))⟩
end Go.Proofs.Ytgmagldbfajedaa
