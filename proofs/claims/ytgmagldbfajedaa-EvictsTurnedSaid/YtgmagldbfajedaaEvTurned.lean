/-
  drydocklaw21.EvictsTurned: the walk turned_walk (it returns true, and changes nothing below).
-/
import Derived.Test.YtgmagldbfajedaaEvNone
import Derived.Test.YtgmagldbfajedaaSame
namespace Go.Proofs.Ytgmagldbfajedaa
open Go.RowKit

theorem nth_reverse (l : List Int) (q r : Nat) (h : q < l.length) (hr : r + q + 1 = l.length) : nth l.reverse r = nth l q := by
  rw [nth_eq l q h, nth_eq l.reverse r (by rw [List.length_reverse]; omega), List.getElem_reverse]
  congr 1; omega

theorem reverse_more (l : List Int) (q : Nat) (h : q < l.length) : l.reverse.take (l.length - q) = l.reverse.take (l.length - (q + 1)) ++ [nth l q] := by
  have h1 : l.length - q = (l.length - (q + 1)) + 1 := by omega
  rw [h1, take_snoc l.reverse _ (by rw [List.length_reverse]; omega), nth_reverse l q _ h (by omega)]

set_option maxHeartbeats 2000000 in
set_option maxRecDepth 100000 in
theorem turned_walk (ai ap ab an : Option Addr) (li ci lp cp lb cb ln cn : Nat) (inn pin bytes next : List Int) (room need more : Int) (w : World)
    (HI : Ints w ai li ci inn) (HP : Ints w ap lp cp pin) (HB : Ints w ab lb cb bytes) (HN : Ints w an ln cn next)
    (g1 : li ≤ 17592186044416) (g2 : lp ≤ 17592186044416) (g3 : lb ≤ 17592186044416) (g4 : ln ≤ 17592186044416)
    (hr : -9223372036854775808 ≤ room ∧ room ≤ 9223372036854775807) (hd : -9223372036854775808 ≤ need ∧ need ≤ 9223372036854775807) (hm0 : 0 ≤ more) (hm1 : more ≤ 65535) :
    Calls Try.prog 4 #[.agg #[.slice ai li ci, .slice ap lp cp, .int .i64 room, .int .i64 need, .slice ab lb cb, .slice an ln cn], .int .u16 more] w fun e w' => e = .returned (.bool true) ∧ Below w.heap.size w w' := by
  have KI := Lib.hid HI
  have KP := Lib.hid HP
  have KB := Lib.hid HB
  have KN := Lib.hid HN
  clear HI HP HB HN
  go_enter Try.func4, Try.ntmps4
  go_wp2_with fail
  refine (great_any ai ap ab an li ci lp cp lb cb ln cn _ _ room need rfl rfl _ g1 g2 g3 g4).mono ?_
  rintro e w1 ⟨rfl, hb⟩
  have hb1 : Below w.heap.size w w1 := ((Below.refl _ _).alloc (Nat.le_refl _) _).trans (hb.mono (by simp))
  have hs1 : w.heap.size < w1.heap.size := by have := hb.size; simp at this; omega
  by_cases hgr : 400 < li + lp + lb + ln
  · rw [decide_eq_true hgr]
    have HB1 := Lib.hid hb1; clear hb hb1
    go_wp2_with fail
    refine (lives21_any _).mono ?_
    rintro e w2 ⟨rfl, hb2⟩
    have HB2 := Lib.hid (HB1.out.trans (hb2.mono HB1.out.size)); clear hb2
    go_wp2
    go_ret
    exact ⟨rfl, HB2.out⟩
  · rw [decide_eq_false hgr]
    have c0 : w1.cell? ⟨w.heap.size, 0, none⟩ = some (.slice ai li ci) := by rw [hb.cell (p := ⟨w.heap.size, 0, none⟩) (by simp), World.cell?_alloc_at _ _ _ _ rfl]; rfl
    have c1 : w1.cell? ⟨w.heap.size, 1, none⟩ = some (.slice ap lp cp) := by rw [hb.cell (p := ⟨w.heap.size, 1, none⟩) (by simp), World.cell?_alloc_at _ _ _ _ rfl]; rfl
    have c2 : w1.cell? ⟨w.heap.size, 2, none⟩ = some (.int .i64 room) := by rw [hb.cell (p := ⟨w.heap.size, 2, none⟩) (by simp), World.cell?_alloc_at _ _ _ _ rfl]; rfl
    have c3 : w1.cell? ⟨w.heap.size, 3, none⟩ = some (.int .i64 need) := by rw [hb.cell (p := ⟨w.heap.size, 3, none⟩) (by simp), World.cell?_alloc_at _ _ _ _ rfl]; rfl
    have c4 : w1.cell? ⟨w.heap.size, 4, none⟩ = some (.slice ab lb cb) := by rw [hb.cell (p := ⟨w.heap.size, 4, none⟩) (by simp), World.cell?_alloc_at _ _ _ _ rfl]; rfl
    have c5 : w1.cell? ⟨w.heap.size, 5, none⟩ = some (.slice an ln cn) := by rw [hb.cell (p := ⟨w.heap.size, 5, none⟩) (by simp), World.cell?_alloc_at _ _ _ _ rfl]; rfl
    have HB1 := Lib.hid hb1; clear hb hb1
    have NI := Lib.hid KI.out.length
    go_wp2
    go_loopg [5, 6] li (fun gg fr i wr => ∃ (q : Nat) (z : Int), q ≤ li ∧ q ≤ gg ∧ i = .int .i64 z ∧ z + 1 = q ∧ Hid (Own w1.heap.size wr fr (inn.reverse.take (inn.length - q))) ∧ Hid (Below w1.heap.size w1 wr))
    case atStart => exact ⟨li, (li : Int) - 1, Nat.le_refl _, Nat.le_refl _, by go_num, by omega, by rw [NI.out, Nat.sub_self]; exact Own.nil _ _, Below.refl _ _⟩
    case round =>
      obtain ⟨q, z, hq, hg, rfl, hz, HO, HWr⟩ := hrel
      have r0 := (HWr.out.cell (p := ⟨w.heap.size, 0, none⟩) hs1).trans c0
      have hsz1 := HWr.out.size
      by_cases hlt : 0 ≤ z
      · obtain ⟨k, rfl⟩ := Int.eq_ofNat_of_zero_le hlt
        obtain rfl : q = k + 1 := by omega
        have hkl : k < inn.length := by rw [NI.out]; omega
        obtain ⟨bi, oi, rfl, _, hci⟩ := ((KI.out.below HB1.out).below HWr.out).at_ (by omega)
        have hck := hci k (by omega)
        have HV := Lib.hid (reverse_more inn k hkl)
        have hlen : (inn.reverse.take (inn.length - (k + 1))).length < 1099511627776 := by
          rw [List.length_take, List.length_reverse, NI.out]; omega
        have hge : decide ((k : Int) ≥ 0) = true := decide_eq_true hlt
        have hge2 : decide (0 ≤ (k : Int)) = true := decide_eq_true hlt
        clear hci hz
        go_wp2_with (at_builtin; go_must (refine wpList_app1 _ rfl _ _ rfl w1.heap.size _ _ _ HO.out rfl rfl HWr.out.size ?c1 ?_))
        case c1 => exact hlen
        intro v' w3 hown' hbel hgrow
        have HO' := Lib.hid hown'
        have HW3 : Hid (Below w1.heap.size w1 w3) := HWr.out.trans hbel
        clear hown' hbel hgrow
        go_wp2
        go_roundg k
        case measure => omega
        case rel => exact ⟨k, (k : Int) - 1, by omega, by omega, by go_num, by omega, by rw [HV.out]; exact HO', HW3⟩
      · obtain rfl : q = 0 := by omega
        obtain rfl : z = -1 := by omega
        have r1 := (HWr.out.cell (p := ⟨w.heap.size, 1, none⟩) hs1).trans c1
        have r2 := (HWr.out.cell (p := ⟨w.heap.size, 2, none⟩) hs1).trans c2
        have r3 := (HWr.out.cell (p := ⟨w.heap.size, 3, none⟩) hs1).trans c3
        have r4 := (HWr.out.cell (p := ⟨w.heap.size, 4, none⟩) hs1).trans c4
        have r5 := (HWr.out.cell (p := ⟨w.heap.size, 5, none⟩) hs1).trans c5
        rw [Nat.sub_zero, List.take_of_length_le (by rw [List.length_reverse]; omega)] at HO
        obtain ⟨ar, lr, cr, rfl, HRi, _⟩ := HO.out.ints (fun n hn => KI.out.wf n (List.mem_reverse.1 hn))
        have KR := Lib.hid HRi
        obtain rfl : li = lr := by rw [← HRi.length, List.length_reverse, NI.out]
        have HB3 := Lib.hid (HB1.out.trans (HWr.out.mono (by omega)))
        have TE := Lib.hid (fun room => Ev.pickE_turned inn pin bytes next room need)
        have TL := Lib.hid (fun room => Ev.pickL_turned inn pin bytes next room need)
        have hs3 : w.heap.size < wr.heap.size := Nat.lt_of_lt_of_le hs1 HWr.out.size
        clear HO HRi c0 c1 c2 c3 c4 c5 hz HWr hs1 hsz1
        go_wp2_with fail
        refine (pick_any _ _ _ _ _ _ _ _ _ _ _ _ inn pin bytes next room need _ (KI.out.below HB3.out) (KP.out.below HB3.out) (KB.out.below HB3.out) (KN.out.below HB3.out) (by omega) hr hd).mono ?_
        rintro e w3 ⟨al, ll, cl, rfl, hL3, hb3, _⟩
        have KL := Lib.hid hL3
        have HB4 := Lib.hid (HB3.out.trans (hb3.mono (by omega)))
        have KR4 := Lib.hid (KR.out.below hb3)
        have s1 := (hb3.cell (p := ⟨w.heap.size, 1, none⟩) hs3).trans r1
        have s2 := (hb3.cell (p := ⟨w.heap.size, 2, none⟩) hs3).trans r2
        have s3 := (hb3.cell (p := ⟨w.heap.size, 3, none⟩) hs3).trans r3
        have s4 := (hb3.cell (p := ⟨w.heap.size, 4, none⟩) hs3).trans r4
        have s5 := (hb3.cell (p := ⟨w.heap.size, 5, none⟩) hs3).trans r5
        have hs4 : w.heap.size < w3.heap.size := Nat.lt_of_lt_of_le hs3 hb3.size
        clear hL3 hb3 r0 r1 r2 r3 r4 r5 KR
        go_wp2_with fail
        refine (pick_any _ _ _ _ _ _ _ _ _ _ _ _ inn.reverse pin bytes next room need _ KR4.out (KP.out.below HB4.out) (KB.out.below HB4.out) (KN.out.below HB4.out) (by omega) hr hd).mono ?_
        rintro e w4 ⟨am, lm, cm, rfl, hL4, hb4, _⟩
        rw [TE.out]
        rw [TL.out] at hL4
        have KM := Lib.hid hL4
        have KL4 := Lib.hid (KL.out.below hb4)
        have KR5 := Lib.hid (KR4.out.below hb4)
        have HB5 := Lib.hid (HB4.out.trans (hb4.mono (by omega)))
        have t1 := (hb4.cell (p := ⟨w.heap.size, 1, none⟩) hs4).trans s1
        have t2 := (hb4.cell (p := ⟨w.heap.size, 2, none⟩) hs4).trans s2
        have t3 := (hb4.cell (p := ⟨w.heap.size, 3, none⟩) hs4).trans s3
        have t4 := (hb4.cell (p := ⟨w.heap.size, 4, none⟩) hs4).trans s4
        have t5 := (hb4.cell (p := ⟨w.heap.size, 5, none⟩) hs4).trans s5
        have hs5 : w.heap.size < w4.heap.size := Nat.lt_of_lt_of_le hs4 hb4.size
        have hee : (Ev.pickE inn pin bytes next room need != Ev.pickE inn pin bytes next room need) = false := by simp
        clear hL4 hb4 s1 s2 s3 s4 s5 KR4 KL
        go_wp2_with fail
        refine (same_any al am ll cl lm cm _ _ _ KL4.out KM.out).mono ?_
        rintro e w5 ⟨rfl, hb5⟩
        rw [sameB_self]
        have KL5 := Lib.hid (KL4.out.below hb5)
        have KR6 := Lib.hid (KR5.out.below hb5)
        have HB6 := Lib.hid (HB5.out.trans (hb5.mono (by omega)))
        have u1 := (hb5.cell (p := ⟨w.heap.size, 1, none⟩) hs5).trans t1
        have u2 := (hb5.cell (p := ⟨w.heap.size, 2, none⟩) hs5).trans t2
        have u3 := (hb5.cell (p := ⟨w.heap.size, 3, none⟩) hs5).trans t3
        have u4 := (hb5.cell (p := ⟨w.heap.size, 4, none⟩) hs5).trans t4
        have u5 := (hb5.cell (p := ⟨w.heap.size, 5, none⟩) hs5).trans t5
        have hs6 : w.heap.size < w5.heap.size := Nat.lt_of_lt_of_le hs5 hb5.size
        clear hb5 t1 t2 t3 t4 t5 KM KL4 KR5 hee
        by_cases hE : Ev.pickE inn pin bytes next room need = 0
        · obtain ⟨hargs, _⟩ := Ev.args_of_ok hE
          obtain ⟨_, _, _, _, ⟨hr0, hr1⟩, _⟩ := Ev.args_parts hargs
          have HM := Lib.hid (fun h => Ev.pickL_more (room' := room + more) (by omega) hE h)
          rw [hE]
          clear hE hargs
          go_wp2_with fail
          refine (pick_any _ _ _ _ _ _ _ _ _ _ _ _ inn.reverse pin bytes next (room + more) need _ KR6.out (KP.out.below HB6.out) (KB.out.below HB6.out) (KN.out.below HB6.out) (by omega) ⟨by omega, by omega⟩ hd).mono ?_
          rintro e w6 ⟨ax, lx, cx, rfl, hL6, hb6, _⟩
          rw [TE.out]
          rw [TL.out] at hL6
          have KX := Lib.hid hL6
          have KL6 := Lib.hid (KL5.out.below hb6)
          have HB7 := Lib.hid (HB6.out.trans (hb6.mono (by omega)))
          have hs7 : w.heap.size < w6.heap.size := Nat.lt_of_lt_of_le hs6 hb6.size
          clear hL6 hb6 u1 u2 u3 u4 u5 KL5
          by_cases hF : Ev.pickE inn pin bytes next (room + more) need = 0
          · rw [hF]
            obtain ⟨t, ht⟩ := HM.out hF
            rw [ht] at KL6
            have hlx : lx ≤ ll := by rw [← KX.out.length, ← KL6.out.length]; simp
            have hlc := KL6.out.le
            have hcx : lx ≤ cl := by omega
            have hcp := KL6.out.cap_le
            have hcxi : (lx : Int) ≤ (cl : Int) := by omega
            have hle : decide ((lx : Int) ≤ (ll : Int)) = true := decide_eq_true (by omega)
            have KT := Lib.hid (KL6.out.take lx hlx)
            have hT : (Ev.pickL inn pin bytes next (room + more) need ++ t).take lx = Ev.pickL inn pin bytes next (room + more) need := by
              rw [← KX.out.length]; simp
            rw [hT] at KT
            clear hF ht HM hT TE TL
            go_wp2_with fail
            refine (same_any ax al lx cx lx cl _ _ _ KX.out KT.out).mono ?_
            rintro e w7 ⟨rfl, hb7⟩
            rw [sameB_self]
            have HB8 := Lib.hid (HB7.out.trans (hb7.mono (by omega)))
            have hs8 : w.heap.size < w7.heap.size := Nat.lt_of_lt_of_le hs7 hb7.size
            clear hb7 KT
            go_wp2_with fail
            refine (lives21_any _).mono ?_
            rintro e w8 ⟨rfl, hb8⟩
            have HB9 := Lib.hid (HB8.out.trans (hb8.mono (by omega)))
            clear hb8
            go_wp2
            go_ret
            exact ⟨rfl, HB9.out⟩
          · have hne : (Ev.pickE inn pin bytes next (room + more) need != 0) = true := by simp [hF]
            clear hF HM TE TL
            go_wp2_with fail
            refine (lives21_any _).mono ?_
            rintro e w8 ⟨rfl, hb8⟩
            have HB9 := Lib.hid (HB7.out.trans (hb8.mono (by omega)))
            clear hb8
            go_wp2
            go_ret
            exact ⟨rfl, HB9.out⟩
        · have hne : (Ev.pickE inn pin bytes next room need != 0) = true := by simp [hE]
          clear hE
          go_wp2_with fail
          refine (pick_any _ _ _ _ _ _ _ _ _ _ _ _ inn.reverse pin bytes next _ need _ KR6.out (KP.out.below HB6.out) (KB.out.below HB6.out) (KN.out.below HB6.out) (by omega) (by unfold wrap64; omega) hd).mono ?_
          rintro e w6 ⟨ax, lx, cx, rfl, hL6, hb6, _⟩
          have HB7 := Lib.hid (HB6.out.trans (hb6.mono (by omega)))
          have hs7 : w.heap.size < w6.heap.size := Nat.lt_of_lt_of_le hs6 hb6.size
          clear hL6 hb6 u1 u2 u3 u4 u5 KL5 TE TL
          go_wp2_with fail
          refine (lives21_any _).mono ?_
          rintro e w8 ⟨rfl, hb8⟩
          have HB9 := Lib.hid (HB7.out.trans (hb8.mono (by omega)))
          clear hb8
          go_wp2
          go_ret
          exact ⟨rfl, HB9.out⟩
end Go.Proofs.Ytgmagldbfajedaa
