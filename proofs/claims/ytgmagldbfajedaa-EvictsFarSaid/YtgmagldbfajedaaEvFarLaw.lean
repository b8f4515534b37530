/-
  drydocklaw21.EvictsFar: the walk farlaw_walk (it returns true, and changes nothing below).
-/
import Derived.Test.YtgmagldbfajedaaEvRoom
namespace Go.Proofs.Ytgmagldbfajedaa
open Go.RowKit

set_option maxHeartbeats 8000000 in
set_option maxRecDepth 100000 in
theorem farlaw_walk (ai ap ab an : Option Addr) (li ci lp cp lb cb ln cn : Nat) (inn pin bytes next : List Int) (room need : Int) (w : World)
    (HI : Ints w ai li ci inn) (HP : Ints w ap lp cp pin) (HB : Ints w ab lb cb bytes) (HN : Ints w an ln cn next)
    (g1 : li ≤ 17592186044416) (g2 : lp ≤ 17592186044416) (g3 : lb ≤ 17592186044416) (g4 : ln ≤ 17592186044416)
    (hr : -9223372036854775808 ≤ room ∧ room ≤ 9223372036854775807) (hd : -9223372036854775808 ≤ need ∧ need ≤ 9223372036854775807) :
    Calls Try.prog 5 #[.agg #[.slice ai li ci, .slice ap lp cp, .int .i64 room, .int .i64 need, .slice ab lb cb, .slice an ln cn]] w fun e w' => e = .returned (.bool true) ∧ Below w.heap.size w w' := by
  have KI := Lib.hid HI
  have KP := Lib.hid HP
  have KB := Lib.hid HB
  have KN := Lib.hid HN
  clear HI HP HB HN
  go_enter Try.func5, Try.ntmps5
  go_wp2_with fail
  refine (great_any ai ap ab an li ci lp cp lb cb ln cn _ _ room need rfl rfl _ g1 g2 g3 g4).mono ?_
  rintro e w1 ⟨rfl, hb⟩
  have hb1 : Below w.heap.size w w1 := ((Below.refl _ _).alloc (Nat.le_refl _) _).trans (hb.mono (by simp))
  have hs1 : w.heap.size < w1.heap.size := by have := hb.size; simp at this; omega
  by_cases hgr : 400 < li + lp + lb + ln
  · rw [decide_eq_true hgr]
    have HB1 := Lib.hid hb1; clear hb hb1
    go_wp2_with fail
    refine (lives21_any _).mono ?_
    rintro e w2 ⟨rfl, hb2⟩
    have HB2 := Lib.hid (HB1.out.trans (hb2.mono HB1.out.size)); clear hb2
    go_wp2
    go_ret
    exact ⟨rfl, HB2.out⟩
  · rw [decide_eq_false hgr]
    have c0 : w1.cell? ⟨w.heap.size, 0, none⟩ = some (.slice ai li ci) := by rw [hb.cell (p := ⟨w.heap.size, 0, none⟩) (by simp), World.cell?_alloc_at _ _ _ _ rfl]; rfl
    have c1 : w1.cell? ⟨w.heap.size, 1, none⟩ = some (.slice ap lp cp) := by rw [hb.cell (p := ⟨w.heap.size, 1, none⟩) (by simp), World.cell?_alloc_at _ _ _ _ rfl]; rfl
    have c2 : w1.cell? ⟨w.heap.size, 2, none⟩ = some (.int .i64 room) := by rw [hb.cell (p := ⟨w.heap.size, 2, none⟩) (by simp), World.cell?_alloc_at _ _ _ _ rfl]; rfl
    have c3 : w1.cell? ⟨w.heap.size, 3, none⟩ = some (.int .i64 need) := by rw [hb.cell (p := ⟨w.heap.size, 3, none⟩) (by simp), World.cell?_alloc_at _ _ _ _ rfl]; rfl
    have c4 : w1.cell? ⟨w.heap.size, 4, none⟩ = some (.slice ab lb cb) := by rw [hb.cell (p := ⟨w.heap.size, 4, none⟩) (by simp), World.cell?_alloc_at _ _ _ _ rfl]; rfl
    have c5 : w1.cell? ⟨w.heap.size, 5, none⟩ = some (.slice an ln cn) := by rw [hb.cell (p := ⟨w.heap.size, 5, none⟩) (by simp), World.cell?_alloc_at _ _ _ _ rfl]; rfl
    have HB1 := Lib.hid hb1; clear hb hb1
    go_wp2_with fail
    refine (pick_any _ _ _ _ _ _ _ _ _ _ _ _ inn pin bytes next room need _ (KI.out.below HB1.out) (KP.out.below HB1.out) (KB.out.below HB1.out) (KN.out.below HB1.out) (by omega) hr hd).mono ?_
    rintro e w2 ⟨al, ll, cl, rfl, hL, hb2, _⟩
    have KL := Lib.hid hL; clear hL
    have d0 := (hb2.cell (p := ⟨w.heap.size, 0, none⟩) hs1).trans c0
    have d1 := (hb2.cell (p := ⟨w.heap.size, 1, none⟩) hs1).trans c1
    have d5 := (hb2.cell (p := ⟨w.heap.size, 5, none⟩) hs1).trans c5
    have HB2 := Lib.hid (HB1.out.trans (hb2.mono (by omega)))
    have hs2 : w.heap.size < w2.heap.size := Nat.lt_of_lt_of_le hs1 hb2.size
    clear hb2 c0 c1 c2 c3 c4 c5 hs1
    by_cases hE : Ev.pickE inn pin bytes next room need = 0
    · rw [hE]
      obtain ⟨hargs, _⟩ := Ev.args_of_ok hE
      obtain ⟨n1, n2, n3, n4, ⟨hr0, hr1⟩, ⟨hd0, hd1⟩⟩ := Ev.args_parts hargs
      rw [KB.out.length] at n1 n2 n3
      rw [KN.out.length] at n3
      have N1 := Lib.hid n1
      have N3 := Lib.hid n3
      have RM := Lib.hid (fun v (hv : v ∈ Ev.pickL inn pin bytes next room need) => (Ev.pickL_mem hv).1)
      have RF := Lib.hid (fun u v (hu : u ∈ Ev.pickL inn pin bytes next room need) (hv : v ∈ inn) (hp : ¬ v ∈ pin) (hn : ¬ v ∈ Ev.pickL inn pin bytes next room need) => Ev.far_of hu hv hp hn)
      generalize Ev.pickL inn pin bytes next room need = L at *
      clear hE hargs n1 n2 n3 n4 hr hd g1 g2 g3 g4
      go_wp2
      go_loopg [5] li (fun gg i wr => ∃ k : Nat, k ≤ li ∧ li - k ≤ gg ∧ i = .int .i64 k ∧ Hid (Below w2.heap.size w2 wr))
      case atStart => exact ⟨0, Nat.zero_le _, by omega, rfl, Below.refl _ _⟩
      case round =>
        obtain ⟨k, hk, hg, rfl, HWr⟩ := hrel
        have r0 := (HWr.out.cell (p := ⟨w.heap.size, 0, none⟩) hs2).trans d0
        have r1 := (HWr.out.cell (p := ⟨w.heap.size, 1, none⟩) hs2).trans d1
        by_cases hlt : k < li
        · have hkl : k < inn.length := by rw [KI.out.length]; exact hlt
          have hvm := nth_mem inn k hkl
          obtain ⟨hv0, hv1⟩ := Ev.nodesB_mem N1.out (nth inn k) hvm
          have VM := Lib.hid hvm
          have KIr := (KI.out.below HB2.out).below HWr.out
          have KPr := Lib.hid ((KP.out.below HB2.out).below HWr.out)
          have KLr := Lib.hid (KL.out.below HWr.out)
          obtain ⟨bi, oi, rfl, _, hci⟩ := KIr.at_ (by omega)
          have hck := hci k hlt
          clear KIr hci hvm
          by_cases hA : hasB L (nth inn k) = true
          · go_wp2_with fail
            refine (has_any al ll cl L (nth inn k) _ KLr.out).mono ?_
            rintro e w3 ⟨rfl, rfl⟩
            rw [hA]
            go_wp2
            go_roundg (li - (k + 1))
            case measure => omega
            case rel => exact ⟨k + 1, by omega, by omega, by go_num, HWr.out⟩
          · have hA' : hasB L (nth inn k) = false := by simpa using hA
            have HA := Lib.hid hA'
            clear hA hA'
            by_cases hB : hasB pin (nth inn k) = true
            · go_wp2_with fail
              refine (has_any al ll cl L (nth inn k) _ KLr.out).mono ?_
              rintro e w3 ⟨rfl, rfl⟩
              rw [HA.out]
              go_wp2_with fail
              refine (has_any ap lp cp pin (nth inn k) _ KPr.out).mono ?_
              rintro e w3 ⟨rfl, rfl⟩
              rw [hB]
              go_wp2
              go_roundg (li - (k + 1))
              case measure => omega
              case rel => exact ⟨k + 1, by omega, by omega, by go_num, HWr.out⟩
            · have hB' : hasB pin (nth inn k) = false := by simpa using hB
              have HB' := Lib.hid hB'
              clear hB hB'
              go_wp2_with fail
              refine (has_any al ll cl L (nth inn k) _ KLr.out).mono ?_
              rintro e w3 ⟨rfl, rfl⟩
              rw [HA.out]
              go_wp2_with fail
              refine (has_any ap lp cp pin (nth inn k) _ KPr.out).mono ?_
              rintro e w3 ⟨rfl, rfl⟩
              rw [HB'.out]
              have hs3 : w.heap.size < wr.heap.size := Nat.lt_of_lt_of_le hs2 HWr.out.size
              have t5 := (HWr.out.cell (p := ⟨w.heap.size, 5, none⟩) hs2).trans d5
              have KNr := Lib.hid ((KN.out.below HB2.out).below HWr.out)
              rename World => wx
              clear r0 r1 hck KPr
              go_wp2
              go_loopg [7] ll (fun gg i wr => ∃ j : Nat, j ≤ ll ∧ ll - j ≤ gg ∧ i = .int .i64 j ∧ Hid (Below wx.heap.size wx wr))
              case atStart => exact ⟨0, Nat.zero_le _, by omega, rfl, Below.refl _ _⟩
              case round =>
                obtain ⟨j, hj, hgj, rfl, HWv⟩ := hrel
                have v5 := (HWv.out.cell (p := ⟨w.heap.size, 5, none⟩) hs3).trans t5
                have KLv := Lib.hid (KLr.out.below HWv.out)
                have KNv := Lib.hid (KNr.out.below HWv.out)
                by_cases hlt2 : j < ll
                · have hjl : j < L.length := by rw [KLr.out.length]; exact hlt2
                  have hum := nth_mem L j hjl
                  obtain ⟨hu0, hu1⟩ := Ev.nodesB_mem N1.out (nth L j) (RM.out _ hum)
                  obtain ⟨f1, f2⟩ := RF.out _ _ hum VM.out ((hasB_false _ _).1 HB'.out) ((hasB_false _ _).1 HA.out)
                  obtain ⟨bL, oL, rfl, _, hcL⟩ := KLv.out.at_ (by omega)
                  have hcj := hcL j hlt2
                  have hn3 := N3.out
                  obtain ⟨hlc, hcc, _, _, _⟩ := KLv.out
                  obtain ⟨bn, on, rfl, _, hcv⟩ := KNv.out.get (x := nth inn k) hv0 (by omega)
                  obtain ⟨bn', on', hnn, _, hcu⟩ := KNv.out.get (x := nth L j) hu0 (by omega)
                  obtain ⟨rfl, rfl⟩ : bn' = bn ∧ on' = on := by cases hnn; exact ⟨rfl, rfl⟩
                  clear hnn hcL hum
                  by_cases hx : Ev.at_ next (nth inn k) < 0
                  · have e1 : decide (Ev.at_ next (nth inn k) < 0) = true := decide_eq_true hx
                    have e2 : decide (Ev.at_ next (nth inn k) ≥ 0) = false := decide_eq_false (by omega)
                    have e3 : decide (Ev.at_ next (nth L j) ≥ 0) = false := decide_eq_false (by omega)
                    clear hx f1 f2
                    go_wp2_with fail
                    go_quiet (fail)
                    go_wp2
                    go_roundg (ll - (j + 1))
                    case measure => omega
                    case rel => exact ⟨j + 1, by omega, by omega, by go_num, HWv.out.trans (below_drewN _ _ _)⟩
                  · have e1 : decide (Ev.at_ next (nth inn k) < 0) = false := decide_eq_false hx
                    have e2 : decide (Ev.at_ next (nth inn k) ≥ 0) = true := decide_eq_true (by omega)
                    by_cases hy : 0 ≤ Ev.at_ next (nth L j)
                    · have e3 : decide (Ev.at_ next (nth L j) ≥ 0) = true := decide_eq_true hy
                      have e4 : decide (Ev.at_ next (nth L j) < Ev.at_ next (nth inn k)) = false := decide_eq_false (by omega)
                      have e5 : decide (Ev.at_ next (nth inn k) > Ev.at_ next (nth L j)) = false := decide_eq_false (by omega)
                      clear hx hy f1 f2
                      go_wp2_with fail
                      go_quiet (fail)
                      go_wp2
                      go_roundg (ll - (j + 1))
                      case measure => omega
                      case rel => exact ⟨j + 1, by omega, by omega, by go_num, HWv.out.trans (below_drewN _ _ _)⟩
                    · have e3 : decide (Ev.at_ next (nth L j) ≥ 0) = false := decide_eq_false (by omega)
                      clear hx hy f1 f2
                      go_wp2_with fail
                      go_quiet (fail)
                      go_wp2
                      go_roundg (ll - (j + 1))
                      case measure => omega
                      case rel => exact ⟨j + 1, by omega, by omega, by go_num, HWv.out.trans (below_drewN _ _ _)⟩
                · go_wp2
                  go_roundg (li - (k + 1))
                  case measure => omega
                  case rel => exact ⟨k + 1, by omega, by omega, by go_num, HWr.out.trans (HWv.out.mono HWr.out.size)⟩
        · go_wp2_with fail
          refine (lives21_any _).mono ?_
          rintro e w3 ⟨rfl, hb3⟩
          have HL3 := Lib.hid hb3; clear hb3
          go_wp2
          go_ret
          exact ⟨rfl, (HB2.out.trans (HWr.out.mono (by omega))).trans (HL3.out.mono (by have := HWr.out.size; omega))⟩
    · have hne : (Ev.pickE inn pin bytes next room need != 0) = true := by simp [hE]
      clear hE
      go_wp2_with fail
      refine (lives21_any _).mono ?_
      rintro e w3 ⟨rfl, hb3⟩
      have HL3 := Lib.hid hb3; clear hb3
      go_wp2
      go_ret
      exact ⟨rfl, HB2.out.trans (HL3.out.mono (by omega))⟩
end Go.Proofs.Ytgmagldbfajedaa
