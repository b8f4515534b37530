/-
  drydocklaw12.OrdersTurned: the walk oturned_walk (it returns true, and changes nothing below).
-/
import Derived.Test.YtgmagldbfajedaaOrUsesLaw
namespace Go.Proofs.Ytgmagldbfajedaa
open Go.RowKit

set_option maxHeartbeats 8000000 in
set_option maxRecDepth 100000 in
theorem oturned_walk (a : Option Addr) (len cap : Nat) (g : List Gr.Node) (ao : Option Addr) (lo co : Nat) (l : List Int) (w : World) (HN : Nodes w a len cap g) (HO : Ints w ao lo co l) :
    Calls Try.prog 18 #[.agg #[.slice a len cap], .slice ao lo co] w fun e w' => e = .returned (.bool true) ∧ Below w.heap.size w w' := by
  have LN := Lib.hid HN.length
  have LO := Lib.hid HO.length
  have hle := HN.le
  have hcl := HN.cap_le
  have hll := HN.len_le
  have hol := HO.le
  have hocl := HO.cap_le
  have K0 := Lib.hid (GSt.start HN)
  have KO := Lib.hid HO
  have HWF : Hid (∀ n ∈ l.reverse, -9223372036854775808 ≤ n ∧ n ≤ 9223372036854775807) := fun n hn => HO.wf n (List.mem_reverse.1 hn)
  clear HN HO
  go_enter Try.func18, Try.ntmps18
  go_wp2_with fail
  refine (oalive_any _).mono ?_
  rintro e w2 ⟨rfl, hb⟩
  have K2 := Lib.hid (K0.out.on hb)
  have c2 := K2.out.cell
  clear hb K0
  go_wp2_with fail
  refine (gsize_any _ _ _ g _ K2.out.n).mono ?_
  rintro e w3 ⟨v, rfl, ⟨hv0, hv1⟩, hb⟩
  have K3 := Lib.hid (K2.out.on hb)
  have c3 := K3.out.cell
  clear hb c2
  by_cases hbig : 20000 < v
  · have d : decide (v > 20000) = true := decide_eq_true hbig
    go_wp2_with fail
    refine (oalive_any _).mono ?_
    rintro e w4 ⟨rfl, hb⟩
    have K4 := Lib.hid (K3.out.on hb)
    clear hb
    go_wp2
    go_ret
    exact ⟨rfl, K4.out.bel⟩
  have d : decide (v > 20000) = false := decide_eq_false hbig
  by_cases hbig2 : 40 < lo
  · have d2 : decide ((lo : Int) > 40) = true := decide_eq_true (by omega)
    go_wp2_with fail
    refine (oalive_any _).mono ?_
    rintro e w4 ⟨rfl, hb⟩
    have K4 := Lib.hid (K3.out.on hb)
    clear hb
    go_wp2
    go_ret
    exact ⟨rfl, K4.out.bel⟩
  have d2 : decide ((lo : Int) > 40) = false := decide_eq_false (by omega)
  have HOwn0 : Hid (Own w3.heap.size w3 (.slice none 0 0) (l.reverse.take 0)) := Own.nil _ _
  go_wp2
  go_loopg [5, 6] lo (fun gg v i wr => ∃ s : Nat, s ≤ lo ∧ lo - s ≤ gg ∧ i = .int .i64 ((lo : Int) - 1 - s) ∧ Hid (Own w3.heap.size wr v (l.reverse.take s)) ∧ Hid (Below w3.heap.size w3 wr))
  case atStart => exact ⟨0, Nat.zero_le _, by omega, by go_num, HOwn0, Below.refl _ _⟩
  case round =>
    obtain ⟨s, hs, hg, rfl, HOw, HW⟩ := hrel
    by_cases hlt : s < lo
    · obtain ⟨m, hm⟩ : ∃ m : Nat, (lo : Int) - 1 - s = (m : Int) := ⟨lo - 1 - s, by omega⟩
      have hml : m < lo := by omega
      have hm40 : m ≤ 40 := by omega
      obtain ⟨bo, oo, rfl, _, hco⟩ := (KO.out.below (K3.out.on HW.out).bel).at_ (by omega)
      have hck := hco m hml
      have HS : Hid (l.reverse.take s ++ [nth l m] = l.reverse.take (s + 1)) := by
        show _ = _
        rw [take_snoc l.reverse s (by rw [List.length_reverse, LO.out]; exact hlt), Od.nth_rev l s (by rw [LO.out]; exact hlt), LO.out, show lo - 1 - s = m by omega]
      have hln : (l.reverse.take s).length ≤ 40 := by rw [List.length_take]; omega
      clear hco
      rw [hm]
      generalize nth l m = x at *
      go_wp2_with (at_builtin; go_must (refine wpList_app1w _ rfl _ _ rfl w3.heap.size _ _ _ HOw.out rfl rfl HW.out.size (by omega) ?_))
      intro v' w5 hown' hbel hgrow
      rw [HS.out] at hown'
      have HO' := Lib.hid hown'
      have HW5 : Hid (Below w3.heap.size w3 w5) := HW.out.trans hbel
      clear hown' hbel hgrow hck
      go_wp2
      go_roundg (lo - (s + 1))
      case measure => exact Nat.lt_of_lt_of_le (Nat.sub_lt_sub_left hlt (Nat.lt_succ_self s)) hg
      case rel => exact ⟨s + 1, Nat.succ_le_of_lt hlt, Nat.le_refl _, by rw [show (lo : Int) - 1 - ((s + 1 : Nat) : Int) = (m : Int) - 1 by omega], HO', HW5⟩
    · have hse : (lo : Int) - 1 - s = -1 := by omega
      rw [hse]
      rw [List.take_of_length_le (by rw [List.length_reverse, LO.out]; omega)] at HOw
      clear hse
      obtain ⟨aT, lT, cT, rfl, hIT, _⟩ := HOw.out.ints HWF.out
      have hlT : lT = lo := by rw [← hIT.length, List.length_reverse, LO.out]
      subst hlT
      have HT3 := Lib.hid hIT
      have hTl := hIT.le
      have hTc := hIT.cap_le
      clear hIT HOw
      have K4 := Lib.hid (K3.out.on HW.out)
      have KO4 := Lib.hid (KO.out.below K4.out.bel)
      have c4 := K4.out.cell
      clear c3 HW
      cases hm : Od.mayB g l with
      | false =>
        have hm2 : Od.mayB g l.reverse = false := by rw [Od.may_rev]; exact hm
        have hu1 : Od.usesO g l = none := if_neg (by rw [hm]; simp)
        have hu2 : Od.usesO g l.reverse = none := if_neg (by rw [hm2]; simp)
        have hn1 : Od.nextO g l (-1) = none := Od.nextO_none hm
        have hn2 : Od.nextO g l.reverse (-1) = none := Od.nextO_none hm2
        go_wp2_with fail
        refine (uses_any _ _ _ g _ _ _ l _ K4.out.n KO4.out (by omega)).mono ?_
        rintro e w6 ⟨hb, ⟨_, rfl⟩ | ⟨u, au, lu, cu, hs, rfl, hI⟩⟩
        case inr => rw [hu1] at hs; cases hs
        have K6 := Lib.hid (K4.out.on hb)
        have KO6 := Lib.hid (KO4.out.below hb)
        have HT6 := Lib.hid (HT3.out.below hb)
        have c6 := K6.out.cell
        clear hb c4
        go_wp2_with fail
        refine (uses_any _ _ _ g _ _ _ l.reverse _ K6.out.n HT6.out (by omega)).mono ?_
        rintro e w7 ⟨hb, ⟨_, rfl⟩ | ⟨u, au, lu, cu, hs, rfl, hI⟩⟩
        case inr => rw [hu2] at hs; cases hs
        have K7 := Lib.hid (K6.out.on hb)
        have KO7 := Lib.hid (KO6.out.below hb)
        have HT7 := Lib.hid (HT6.out.below hb)
        have c7 := K7.out.cell
        clear hb c6
        go_wp2_with fail
        refine (next_any _ _ _ g _ _ _ l (-1) _ K7.out.n KO7.out (by omega) (by omega) (by omega)).mono ?_
        rintro e w8 ⟨hb, ⟨_, rfl⟩ | ⟨u, au, lu, cu, hs, rfl, hI⟩⟩
        case inr => rw [hn1] at hs; cases hs
        have K8 := Lib.hid (K7.out.on hb)
        have HT8 := Lib.hid (HT7.out.below hb)
        have c8 := K8.out.cell
        clear hb c7
        go_wp2_with fail
        refine (next_any _ _ _ g _ _ _ l.reverse (-1) _ K8.out.n HT8.out (by omega) (by omega) (by omega)).mono ?_
        rintro e w9 ⟨hb, ⟨_, rfl⟩ | ⟨u, au, lu, cu, hs, rfl, hI⟩⟩
        case inr => rw [hn2] at hs; cases hs
        have K9 := Lib.hid (K8.out.on hb)
        clear hb c8
        go_wp2
        go_ret
        exact ⟨rfl, K9.out.bel⟩
      | true =>
        have HM := Lib.hid hm
        have HM2 : Hid (Od.mayB g l.reverse = true) := by show _ = _; rw [Od.may_rev]; exact hm
        obtain ⟨hl1, hl2, _⟩ := Od.may_parts hm
        rw [LN.out] at hl1 hl2
        clear hm
        go_wp2_with fail
        refine (uses_any _ _ _ g _ _ _ l _ K4.out.n KO4.out (by omega)).mono ?_
        rintro e w6 ⟨hb, ⟨hs, rfl⟩ | ⟨u, au, lu, cu, hs, rfl, hI⟩⟩
        · rw [Od.usesO_of HM.out] at hs; cases hs
        rw [Od.usesO_of HM.out] at hs
        cases hs
        have K6 := Lib.hid (K4.out.on hb)
        have KO6 := Lib.hid (KO4.out.below hb)
        have HT6 := Lib.hid (HT3.out.below hb)
        have HU6 := Lib.hid hI
        have c6 := K6.out.cell
        have hlu : lu = len := by rw [← hI.length, Od.uses_length, LN.out]
        subst hlu
        clear hb c4 hI
        go_wp2_with fail
        refine (uses_any _ _ _ g _ _ _ l.reverse _ K6.out.n HT6.out (by omega)).mono ?_
        rintro e w7 ⟨hb, ⟨hs, rfl⟩ | ⟨u, av, lv, cv, hs, rfl, hI⟩⟩
        · rw [Od.usesO_of HM2.out] at hs; cases hs
        rw [Od.usesO_of HM2.out] at hs
        cases hs
        have K7 := Lib.hid (K6.out.on hb)
        have KO7 := Lib.hid (KO6.out.below hb)
        have HT7 := Lib.hid (HT6.out.below hb)
        have HU7 := Lib.hid (HU6.out.below hb)
        have HV7 : Hid (Ints w7 av lv cv (Od.uses g l)) := by have := hI; rw [Od.uses_rev HM.out] at this; exact this
        have c7 := K7.out.cell
        have hlv : lv = lu := by rw [← hI.length, Od.uses_length, LN.out]
        subst hlv
        clear hb c6 hI
        go_wp2_with fail
        refine (next_any _ _ _ g _ _ _ l (-1) _ K7.out.n KO7.out (by omega) (by omega) (by omega)).mono ?_
        rintro e w8 ⟨hb, ⟨hs, rfl⟩ | ⟨u, ax, lx, cx, hs, rfl, hI⟩⟩
        · rw [Od.nextO_of HM.out (by omega) (by omega)] at hs; cases hs
        rw [Od.nextO_of HM.out (by omega) (by omega)] at hs
        cases hs
        have K8 := Lib.hid (K7.out.on hb)
        have HT8 := Lib.hid (HT7.out.below hb)
        have HU8 := Lib.hid (HU7.out.below hb)
        have HV8 := Lib.hid (HV7.out.below hb)
        have HX8 := Lib.hid hI
        have c8 := K8.out.cell
        have hlx : lx = lv := by rw [← hI.length, Od.next_length, LN.out]
        subst hlx
        clear hb c7 hI
        go_wp2_with fail
        refine (next_any _ _ _ g _ _ _ l.reverse (-1) _ K8.out.n HT8.out (by omega) (by omega) (by omega)).mono ?_
        rintro e w9 ⟨hb, ⟨hs, rfl⟩ | ⟨u, ay, ly, cy, hs, rfl, hI⟩⟩
        · rw [Od.nextO_of HM2.out (by omega) (by omega)] at hs; cases hs
        rw [Od.nextO_of HM2.out (by omega) (by omega)] at hs
        cases hs
        have K9 := Lib.hid (K8.out.on hb)
        have HU9 := Lib.hid (HU8.out.below hb)
        have HV9 := Lib.hid (HV8.out.below hb)
        have HX9 := Lib.hid (HX8.out.below hb)
        have HY9 := Lib.hid hI
        have hly : ly = lx := by rw [← hI.length, Od.next_length, LN.out]
        subst hly
        clear hb c8 hI HU6 HU7 HU8 HV7 HV8 HX8 HT3 HT6 HT7 HT8 K2 K3 K4 K6 K7 K8 KO4 KO6 KO7
        go_wp2_with fail
        refine (same_any _ _ _ _ _ _ _ _ _ HU9.out HV9.out).mono ?_
        rintro e w10 ⟨rfl, hb⟩
        rw [sameB_self]
        have K10 := Lib.hid (K9.out.on hb)
        have HU := Lib.hid (HU9.out.below hb)
        have HX := Lib.hid (HX9.out.below hb)
        have HY := Lib.hid (HY9.out.below hb)
        clear hb HU9 HV9 HX9 HY9 K9
        go_wp2
        go_loopg [15] ly (fun gg i wv => ∃ k : Nat, k ≤ ly ∧ ly - k ≤ gg ∧ i = .int .i64 k ∧ Hid (Below w10.heap.size w10 wv))
        case atStart => exact ⟨0, Nat.zero_le _, by omega, rfl, Below.refl _ _⟩
        case round =>
          rename World => wx
          obtain ⟨k, hk, hg2, rfl, HWx⟩ := hrel
          by_cases hlt2 : k < ly - 1
          · have dk : decide ((k : Int) < (ly : Int) - 1) = true := decide_eq_true (by omega)
            obtain ⟨bU, oU, rfl, _, hcU⟩ := (HU.out.below HWx.out).at_ (by omega)
            obtain ⟨bX, oX, rfl, _, hcX⟩ := (HX.out.below HWx.out).at_ (by omega)
            obtain ⟨bY, oY, rfl, _, hcY⟩ := (HY.out.below HWx.out).at_ (by omega)
            have kU := hcU k (by omega)
            have kX := hcX k (by omega)
            have kY := hcY k (by omega)
            obtain ⟨z1, z2⟩ := Od.next_rev HM.out (n := k) (by rw [LN.out]; exact hlt2)
            rw [LO.out] at z2
            obtain ⟨x0, x1⟩ := HX.out.nth_wf (k := k) (by omega)
            obtain ⟨y0, y1⟩ := HY.out.nth_wf (k := k) (by omega)
            clear hcU hcX hcY
            generalize nth (Od.uses g l) k = u at *
            generalize nth (Od.next g l (-1)) k = x at *
            generalize nth (Od.next g l.reverse (-1)) k = y at *
            by_cases cx : x < 0
            · have qx : decide (x < 0) = true := decide_eq_true cx
              have qy : decide (y < 0) = true := decide_eq_true (z1.1 cx)
              by_cases cu : u = 1
              · have qu : (u == 1) = true := by simp [cu]
                have hxy := z2 cu
                have b0 : -1 ≤ x + y := by omega
                have b1 : x + y ≤ 40 := by omega
                have qs : (x + y != (lT : Int) - 1) = false := by simp [hxy]
                clear z1 z2 cx cu hxy
                go_wp2_with fail
                go_quiet (fail)
                have HW9 := Lib.hid (HWx.out.trans (below_drewN wx nq _))
                go_wp2
                go_roundg (ly - (k + 1))
                case measure => exact Nat.lt_of_lt_of_le (Nat.sub_lt_sub_left (by omega) (Nat.lt_succ_self k)) hg2
                case rel => exact ⟨k + 1, by omega, Nat.le_refl _, by go_num, HW9⟩
              · have qu : (u == 1) = false := by simp [cu]
                clear z1 z2 cx cu
                go_wp2_with fail
                go_quiet (fail)
                have HW9 := Lib.hid (HWx.out.trans (below_drewN wx nq _))
                go_wp2
                go_roundg (ly - (k + 1))
                case measure => exact Nat.lt_of_lt_of_le (Nat.sub_lt_sub_left (by omega) (Nat.lt_succ_self k)) hg2
                case rel => exact ⟨k + 1, by omega, Nat.le_refl _, by go_num, HW9⟩
            · have qx : decide (x < 0) = false := decide_eq_false cx
              have qy : decide (y < 0) = false := decide_eq_false (fun h => cx (z1.2 h))
              by_cases cu : u = 1
              · have qu : (u == 1) = true := by simp [cu]
                have hxy := z2 cu
                have b0 : -1 ≤ x + y := by omega
                have b1 : x + y ≤ 40 := by omega
                have qs : (x + y != (lT : Int) - 1) = false := by simp [hxy]
                clear z1 z2 cx cu hxy
                go_wp2_with fail
                go_quiet (fail)
                have HW9 := Lib.hid (HWx.out.trans (below_drewN wx nq _))
                go_wp2
                go_roundg (ly - (k + 1))
                case measure => exact Nat.lt_of_lt_of_le (Nat.sub_lt_sub_left (by omega) (Nat.lt_succ_self k)) hg2
                case rel => exact ⟨k + 1, by omega, Nat.le_refl _, by go_num, HW9⟩
              · have qu : (u == 1) = false := by simp [cu]
                clear z1 z2 cx cu
                go_wp2_with fail
                go_quiet (fail)
                have HW9 := Lib.hid (HWx.out.trans (below_drewN wx nq _))
                go_wp2
                go_roundg (ly - (k + 1))
                case measure => exact Nat.lt_of_lt_of_le (Nat.sub_lt_sub_left (by omega) (Nat.lt_succ_self k)) hg2
                case rel => exact ⟨k + 1, by omega, Nat.le_refl _, by go_num, HW9⟩
          · have dk : decide ((k : Int) < (ly : Int) - 1) = false := decide_eq_false (by omega)
            go_wp2
            go_ret
            exact ⟨rfl, (K10.out.on HWx.out).bel⟩
end Go.Proofs.Ytgmagldbfajedaa
