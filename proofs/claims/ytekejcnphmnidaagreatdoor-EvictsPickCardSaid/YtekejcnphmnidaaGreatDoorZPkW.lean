/-
  drydocklaw21.EvictsPick: the walk epick_walk (it returns true, and changes nothing below).
-/
import Derived.Test.YtekejcnphmnidaaGreatDoorZPkR
import Derived.Test.YtekejcnphmnidaaGreatDoorZEvLives
import Derived.Test.YtekejcnphmnidaaGreatDoorZEvGreat
import Derived.Test.YtekejcnphmnidaaGreatDoorZBkS
namespace Go.Proofs.YtekejcnphmnidaaGreatDoor
open Go.RowKit

theorem blocksOf_append (L M : List Held) : blocksOf (L ++ M) = blocksOf L ++ blocksOf M := List.filterMap_append ..
theorem NewRow.rowV {B : Nat} {a : Option Addr} {len cap : Nat} {w : World} {l : List Int} (h : NewRow B a len cap w) (hI : Ints w a len cap l) : RowV 1 w (.slice a len cap) len (l.map (Value.int .i64)) ∧ ∀ k, Value.ownBlock (.slice a len cap) = some k → B ≤ k ∧ k < w.heap.size := by
  rcases h with ⟨rfl, rfl, rfl⟩ | ⟨g, rfl, hB, hlt, rfl, hc⟩
  · have : l = [] := List.eq_nil_of_length_eq_zero hI.length
    subst this
    exact ⟨.inl ⟨rfl, rfl, rfl⟩, fun k hk => by cases hk⟩
  · refine ⟨.inr ⟨g, 0, cap, rfl, hlt, Nat.le_refl _, hI.cap_le, by rw [List.length_map, hI.length]; omega, fun j u hj => ?_, fun j hj => ?_⟩, fun k hk => by cases hk; exact ⟨hB, hlt⟩⟩
    · have hl : j < l.length := by have := (List.getElem?_eq_some_iff.1 hj).1; simpa using this
      obtain ⟨b, off, e, _, hcell⟩ := hI.at_ (by have := hI.length; omega)
      cases e
      rw [List.getElem?_map, List.getElem?_eq_getElem hl] at hj
      cases hj
      rw [hcell j (by have := hI.length; omega), nth_eq l j hl]
    · have := hc j (by omega)
      rw [Nat.zero_add]
      obtain ⟨h1, u, h2⟩ := this
      exact ⟨by rw [h2]; rfl, h1⟩

theorem pickL_len (inn pin bytes next : List Int) (room need : Int) : (Ev.pickL inn pin bytes next room need).length ≤ inn.length := by
  unfold Ev.pickL
  split
  · obtain ⟨t, ht⟩ := Ev.greedy_prefix bytes room (Ev.sorted bytes next (Ev.frees pin inn)) (need + Ev.sumB bytes inn)
    have h1 : (Ev.greedy bytes room (need + Ev.sumB bytes inn) (Ev.sorted bytes next (Ev.frees pin inn))).length ≤ (Ev.sorted bytes next (Ev.frees pin inn)).length := by
      conv => rhs; rw [ht]
      simp
    rw [(Ev.sorted_perm bytes next _).length_eq] at h1
    exact Nat.le_trans h1 (List.length_filter_le _ _)
  · exact Nat.zero_le _

set_option maxHeartbeats 8000000 in
set_option maxRecDepth 100000 in
theorem epick_walk (ai ap ab an : Option Addr) (li ci lp cp lb cb ln cn : Nat) (inn pin bytes next : List Int) (room need : Int) (w : World)
    (HI : Ints w ai li ci inn) (HP : Ints w ap lp cp pin) (HB : Ints w ab lb cb bytes) (HN : Ints w an ln cn next)
    (g1 : li ≤ 17592186044416) (g2 : lp ≤ 17592186044416) (g3 : lb ≤ 17592186044416) (g4 : ln ≤ 17592186044416)
    (hr : -9223372036854775808 ≤ room ∧ room ≤ 9223372036854775807) (hd : -9223372036854775808 ≤ need ∧ need ≤ 9223372036854775807) :
    Calls Tryz.prog 3 #[.agg #[.slice ai li ci, .slice ap lp cp, .int .i64 room, .int .i64 need, .slice ab lb cb, .slice an ln cn]] w fun e w' => e = .returned (.bool true) ∧ Below w.heap.size w w' := by
  have KI := Lib.hid HI
  have KP := Lib.hid HP
  have KB := Lib.hid HB
  have KN := Lib.hid HN
  clear HI HP HB HN
  go_enter Tryz.func3, Tryz.ntmps3
  go_wp2_with fail
  refine (great_any ai ap ab an li ci lp cp lb cb ln cn _ _ room need rfl rfl _ g1 g2 g3 g4).mono ?_
  rintro e w1 ⟨rfl, hb⟩
  have hb1 : Below w.heap.size w w1 := ((Below.refl _ _).alloc (Nat.le_refl _) _).trans (hb.mono (by simp))
  have hs1 : w.heap.size < w1.heap.size := by have := hb.size; simp at this; omega
  by_cases hgr : 400 < li + lp + lb + ln
  · rw [decide_eq_true hgr]
    have HB1 := Lib.hid hb1; clear hb hb1
    go_wp2_with fail
    refine (lives21_any _).mono ?_
    rintro e w2 ⟨rfl, hb2⟩
    have HB2 := Lib.hid (HB1.out.trans (hb2.mono HB1.out.size)); clear hb2
    go_wp2
    go_ret
    exact ⟨rfl, HB2.out⟩
  · rw [decide_eq_false hgr]
    have c0 : w1.cell? ⟨w.heap.size, 0, none⟩ = some (.slice ai li ci) := by rw [hb.cell (p := ⟨w.heap.size, 0, none⟩) (by simp), World.cell?_alloc_at _ _ _ _ rfl]; rfl
    have c1 : w1.cell? ⟨w.heap.size, 1, none⟩ = some (.slice ap lp cp) := by rw [hb.cell (p := ⟨w.heap.size, 1, none⟩) (by simp), World.cell?_alloc_at _ _ _ _ rfl]; rfl
    have c2 : w1.cell? ⟨w.heap.size, 2, none⟩ = some (.int .i64 room) := by rw [hb.cell (p := ⟨w.heap.size, 2, none⟩) (by simp), World.cell?_alloc_at _ _ _ _ rfl]; rfl
    have c3 : w1.cell? ⟨w.heap.size, 3, none⟩ = some (.int .i64 need) := by rw [hb.cell (p := ⟨w.heap.size, 3, none⟩) (by simp), World.cell?_alloc_at _ _ _ _ rfl]; rfl
    have c4 : w1.cell? ⟨w.heap.size, 4, none⟩ = some (.slice ab lb cb) := by rw [hb.cell (p := ⟨w.heap.size, 4, none⟩) (by simp), World.cell?_alloc_at _ _ _ _ rfl]; rfl
    have c5 : w1.cell? ⟨w.heap.size, 5, none⟩ = some (.slice an ln cn) := by rw [hb.cell (p := ⟨w.heap.size, 5, none⟩) (by simp), World.cell?_alloc_at _ _ _ _ rfl]; rfl
    have HB1 := Lib.hid hb1; clear hb hb1
    go_wp2_with fail
    refine twins_region (wq := w1) (gb := w.heap.size) (vi := .slice ai li ci) (vp := .slice ap lp cp) (li := li) (lp := lp) (inn := inn) (pin := pin) (room := room) ⟨rfl, ⟨_, rfl, rfl, rfl, by kernel_rfl⟩, ⟨_, rfl, rfl, rfl, by kernel_rfl⟩, ⟨_, rfl, rfl, rfl, by kernel_rfl⟩, ⟨_, rfl, rfl, rfl, by kernel_rfl⟩, ⟨_, rfl, rfl, rfl, by kernel_rfl⟩, ⟨_, rfl, rfl, rfl, by kernel_rfl⟩, ⟨_, rfl, rfl, rfl, by kernel_rfl⟩, ⟨_, rfl, rfl, rfl, by kernel_rfl⟩, ⟨_, rfl, rfl, rfl, by kernel_rfl⟩, ⟨_, rfl, rfl, rfl, by kernel_rfl⟩, ⟨_, rfl, rfl, rfl, by kernel_rfl⟩⟩ ai ap ci cp rfl rfl rfl (by kernel_rfl) rfl hs1 c0 c1 c2 (KI.out.below HB1.out) (KP.out.below HB1.out) (by omega) (by omega) ?_
    intro nb b c b' c' W F
    simp only [Act.put, List.setIfInBounds_toArray, List.set_cons_succ, List.set_cons_zero]
    have d0 := (F.bel.cell (p := ⟨w.heap.size, 0, none⟩) hs1).trans c0
    have d1 := (F.bel.cell (p := ⟨w.heap.size, 1, none⟩) hs1).trans c1
    have d2 := (F.bel.cell (p := ⟨w.heap.size, 2, none⟩) hs1).trans c2
    have d3 := (F.bel.cell (p := ⟨w.heap.size, 3, none⟩) hs1).trans c3
    have d4 := (F.bel.cell (p := ⟨w.heap.size, 4, none⟩) hs1).trans c4
    have d5 := (F.bel.cell (p := ⟨w.heap.size, 5, none⟩) hs1).trans c5
    have HF := Lib.hid F
    have HB2 := Lib.hid (HB1.out.trans (F.bel.mono (by omega)))
    have hs2 : w.heap.size < W.heap.size := by have := F.bel.size; omega
    clear F c0 c1 c2 c3 c4 c5
    go_wp2_with fail
    refine (twinI_any ab lb cb bytes W (KB.out.below HB2.out) (by omega)).mono ?_
    rintro e w3 ⟨b3, c3, rfl, hlo3, hT3, hb3⟩
    have HT3 := Lib.hid hT3
    have e0 := (hb3.cell (p := ⟨w.heap.size, 0, none⟩) hs2).trans d0
    have e1 := (hb3.cell (p := ⟨w.heap.size, 1, none⟩) hs2).trans d1
    have e2 := (hb3.cell (p := ⟨w.heap.size, 2, none⟩) hs2).trans d2
    have e3 := (hb3.cell (p := ⟨w.heap.size, 3, none⟩) hs2).trans d3
    have e4 := (hb3.cell (p := ⟨w.heap.size, 4, none⟩) hs2).trans d4
    have e5 := (hb3.cell (p := ⟨w.heap.size, 5, none⟩) hs2).trans d5
    have HW3 := Lib.hid hb3
    have Z3 := Lib.hid hT3.row.lt
    have HB3 := Lib.hid (HB2.out.trans (hb3.mono (by omega)))
    have hs3 : w.heap.size < w3.heap.size := by have := hb3.size; omega
    clear d0 d1 d2 d3 d4 d5 hT3 hb3
    go_wp2_with fail
    refine (twinI_any an ln cn next w3 (KN.out.below HB3.out) (by omega)).mono ?_
    rintro e w4 ⟨b4, c4, rfl, hlo4, hT4, hb4⟩
    have HT4 := Lib.hid hT4
    have HF4 := Lib.hid (HW3.out.trans (hb4.mono HW3.out.size))
    have hnl : nb < W.heap.size := HF.out.lt
    have d0 := (hb4.cell (p := ⟨w.heap.size, 0, none⟩) hs3).trans e0
    have d1 := (hb4.cell (p := ⟨w.heap.size, 1, none⟩) hs3).trans e1
    have d2 := (hb4.cell (p := ⟨w.heap.size, 2, none⟩) hs3).trans e2
    have d3 := (hb4.cell (p := ⟨w.heap.size, 3, none⟩) hs3).trans e3
    have d4 := (hb4.cell (p := ⟨w.heap.size, 4, none⟩) hs3).trans e4
    have d5 := (hb4.cell (p := ⟨w.heap.size, 5, none⟩) hs3).trans e5
    have n0 := (HF4.out.cell (p := ⟨nb, 0, none⟩) hnl).trans HF.out.x0
    have n1 := (HF4.out.cell (p := ⟨nb, 1, none⟩) hnl).trans HF.out.x1
    have n2 := (HF4.out.cell (p := ⟨nb, 2, none⟩) hnl).trans HF.out.x2
    have T1 : Hid (TwinI w4 b li c inn) := HF.out.t1.below HF4.out
    have T2 : Hid (TwinI w4 b' lp c' pin) := HF.out.t2.below HF4.out
    have T3 : Hid (TwinI w4 b3 lb c3 bytes) := HT3.out.below hb4
    have HW4 := Lib.hid hb4
    have HB4 := Lib.hid (HB3.out.trans (hb4.mono (by omega)))
    have hs4 : w.heap.size < w4.heap.size := by have := hb4.size; omega
    have hnl4 : nb < w4.heap.size := by have := HF4.out.size; omega
    clear e0 e1 e2 e3 e4 e5 hT4 hb4 HT3
    have HWF : Hid ((∀ n ∈ inn, -9223372036854775808 ≤ n ∧ n ≤ 9223372036854775807) ∧ (∀ n ∈ pin, -9223372036854775808 ≤ n ∧ n ≤ 9223372036854775807) ∧ (∀ n ∈ bytes, -9223372036854775808 ≤ n ∧ n ≤ 9223372036854775807) ∧ (∀ n ∈ next, -9223372036854775808 ≤ n ∧ n ≤ 9223372036854775807)) := ⟨KI.out.wf, KP.out.wf, KB.out.wf, KN.out.wf⟩
    go_wp2_with fail
    refine (pick_any _ _ _ _ li c lp c' lb c3 ln c4 inn pin bytes next room need w4 (T1.out.ints HWF.out.1) (T2.out.ints HWF.out.2.1) (T3.out.ints HWF.out.2.2.1) (HT4.out.ints HWF.out.2.2.2) (by omega) hr hd).mono ?_
    rintro e w5 ⟨a5, l5, c5, rfl, hI5, hb5, hN5⟩
    have HI5 := Lib.hid hI5
    have HN5 := Lib.hid hN5
    have HW5 := Lib.hid hb5
    have HB5 := Lib.hid (HB4.out.trans (hb5.mono (by omega)))
    have e0 := (hb5.cell (p := ⟨w.heap.size, 0, none⟩) hs4).trans d0
    have e1 := (hb5.cell (p := ⟨w.heap.size, 1, none⟩) hs4).trans d1
    have e2 := (hb5.cell (p := ⟨w.heap.size, 2, none⟩) hs4).trans d2
    have e3 := (hb5.cell (p := ⟨w.heap.size, 3, none⟩) hs4).trans d3
    have e4 := (hb5.cell (p := ⟨w.heap.size, 4, none⟩) hs4).trans d4
    have e5 := (hb5.cell (p := ⟨w.heap.size, 5, none⟩) hs4).trans d5
    have m0 := (hb5.cell (p := ⟨nb, 0, none⟩) hnl4).trans n0
    have m1 := (hb5.cell (p := ⟨nb, 1, none⟩) hnl4).trans n1
    have hs5 : w.heap.size < w5.heap.size := by have := hb5.size; omega
    have hnl5 : nb < w5.heap.size := by have := hb5.size; omega
    clear d0 d1 d2 d3 d4 d5 n0 n1 n2 hI5 hN5 hb5
    go_wp2_with fail
    refine (rpick_any ai ap ab an li ci lp cp lb cb ln cn inn pin bytes next room need w5 (KI.out.below HB5.out) (KP.out.below HB5.out) (KB.out.below HB5.out) (KN.out.below HB5.out) (by omega)).mono ?_
    rintro e w6 ⟨a6, l6, c6, rfl, hI6, hb6⟩
    have HI6 := Lib.hid hI6
    have HW6 := Lib.hid hb6
    have HB6 := Lib.hid (HB5.out.trans (hb6.mono (by omega)))
    have d0 := (hb6.cell (p := ⟨w.heap.size, 0, none⟩) hs5).trans e0
    have d1 := (hb6.cell (p := ⟨w.heap.size, 1, none⟩) hs5).trans e1
    have d4 := (hb6.cell (p := ⟨w.heap.size, 4, none⟩) hs5).trans e4
    have d5 := (hb6.cell (p := ⟨w.heap.size, 5, none⟩) hs5).trans e5
    have n0 := (hb6.cell (p := ⟨nb, 0, none⟩) hnl5).trans m0
    have n1 := (hb6.cell (p := ⟨nb, 1, none⟩) hnl5).trans m1
    have hs6 : w.heap.size < w6.heap.size := by have := hb6.size; omega
    have hnl6 : nb < w6.heap.size := by have := hb6.size; omega
    have hnE : (Ev.pickE inn pin bytes next room need != Ev.pickE inn pin bytes next room need) = false := by simp
    clear e0 e1 e2 e3 e4 e5 m0 m1 hI6 hb6
    have HIL := Lib.hid (HI5.out.below HW6.out)
    have HSB := Lib.hid (sameB_self (Ev.pickL inn pin bytes next room need))
    go_wp2_with fail
    refine (same_any a5 a6 l5 c5 l6 c6 _ _ w6 HIL.out HI6.out).mono ?_
    rintro e w7 ⟨rfl, hb7⟩
    rw [HSB.out]
    have HW7 : Hid (Below w4.heap.size w4 w7) := (HW5.out.trans (HW6.out.mono HW5.out.size)).trans (hb7.mono (by have := HW5.out.size; have := HW6.out.size; omega))
    have HB7 := Lib.hid (HB6.out.trans (hb7.mono (by omega)))
    have e0 := (hb7.cell (p := ⟨w.heap.size, 0, none⟩) hs6).trans d0
    have e1 := (hb7.cell (p := ⟨w.heap.size, 1, none⟩) hs6).trans d1
    have e4 := (hb7.cell (p := ⟨w.heap.size, 4, none⟩) hs6).trans d4
    have e5 := (hb7.cell (p := ⟨w.heap.size, 5, none⟩) hs6).trans d5
    have m0 := (hb7.cell (p := ⟨nb, 0, none⟩) hnl6).trans n0
    have m1 := (hb7.cell (p := ⟨nb, 1, none⟩) hnl6).trans n1
    have HN7 : Hid (NewRow w4.heap.size a5 l5 c5 w7) := by
      have hall := HW6.out.trans (hb7.mono HW6.out.size)
      show NewRow _ _ _ _ _
      rcases HN5.out with h | ⟨g, h1, h2, h3, h4, h5⟩
      · exact .inl h
      · exact .inr ⟨g, h1, h2, Nat.lt_of_lt_of_le h3 hall.size, h4, fun i hi => by rw [hall.frozen (p := ⟨g, i, none⟩) h3, hall.cell (p := ⟨g, i, none⟩) h3]; exact h5 i hi⟩
    have HIL7 := Lib.hid (HI5.out.below (HW6.out.trans (hb7.mono HW6.out.size)))
    clear d0 d1 d4 d5 n0 n1 hb7
    have U1 := Lib.hid (T1.out.below HW7.out)
    have U2 := Lib.hid (T2.out.below HW7.out)
    have U3 := Lib.hid (T3.out.below HW7.out)
    have U4 := Lib.hid (HT4.out.below HW7.out)
    have QI := Lib.hid (KI.out.below HB7.out)
    have QP := Lib.hid (KP.out.below HB7.out)
    have QB := Lib.hid (KB.out.below HB7.out)
    have QN := Lib.hid (KN.out.below HB7.out)
    have hs7 : w.heap.size < w7.heap.size := by have := HW7.out.size; omega
    have hnl7 : nb < w7.heap.size := by have := HW7.out.size; omega
    go_wp2_with fail
    refine (leftI_any b c ai li ci inn w7 U1.out QI.out (by omega)).mono ?_
    rintro e w8 ⟨rfl, t8, rfl⟩
    go_wp2_with fail
    refine (leftI_any b' c' ap lp cp pin (w7.drewN t8) (U2.out.below (below_drewN _ _ _)) (QP.out.drewN t8) (by omega)).mono ?_
    rintro e w8 ⟨rfl, t9, rfl⟩
    go_wp2_with fail
    refine (leftI_any b3 c3 ab lb cb bytes (w7.drewN (t8 + t9)) (U3.out.below (below_drewN _ _ _)) (QB.out.drewN (t8 + t9)) (by omega)).mono ?_
    rintro e w8 ⟨rfl, t10, rfl⟩
    go_wp2_with fail
    refine (leftI_any b4 c4 an ln cn next (w7.drewN (t8 + t9 + t10)) (U4.out.below (below_drewN _ _ _)) (QN.out.drewN (t8 + t9 + t10)) (by omega)).mono ?_
    rintro e w8 ⟨rfl, t11, rfl⟩
    simp only [World.drewN_drewN]
    have HBd : Hid (Below w7.heap.size w7 (w7.drewN (t8 + t9 + t10 + t11))) := below_drewN _ _ _
    have hz8 : (w7.drewN (t8 + t9 + t10 + t11)).heap.size = w7.heap.size := rfl
    generalize w7.drewN (t8 + t9 + t10 + t11) = w8 at *
    have hB8 : nb < w8.heap.size := by omega
    have h78 : w7.heap.size ≤ w8.heap.size := by omega
    have HZ8 := Lib.hid hz8
    clear hz8
    have S0 := Lib.hid (BkS.start w8)
    have HA8 : Hid (∀ o, Below w8.heap.size w8 (w8.alloc o)) := fun o => (Below.refl _ _).alloc (Nat.le_refl _) o
    have f0 := (HA8.out (.cells #[.int .i64 0, .slice none 0 0, .slice none 0 0, .slice none 0 0, .slice none 0 0, .slice none 0 0, .slice none 0 0, .slice none 0 0, .slice none 0 0, .slice none 0 0, .slice none 0 0, .slice none 0 0, .slice none 0 0, .slice none 0 0, .slice none 0 0, .slice none 0 0] 52)).cell (p := ⟨nb, 0, none⟩) hB8 |>.trans ((HBd.out.cell (p := ⟨nb, 0, none⟩) hnl7).trans m0)
    have f1 := (HA8.out (.cells #[.int .i64 0, .slice none 0 0, .slice none 0 0, .slice none 0 0, .slice none 0 0, .slice none 0 0, .slice none 0 0, .slice none 0 0, .slice none 0 0, .slice none 0 0, .slice none 0 0, .slice none 0 0, .slice none 0 0, .slice none 0 0, .slice none 0 0, .slice none 0 0] 52)).cell (p := ⟨nb, 1, none⟩) hB8 |>.trans ((HBd.out.cell (p := ⟨nb, 1, none⟩) hnl7).trans m1)
    have HBA : Hid (Below w7.heap.size w7 (w8.alloc (.cells #[.int .i64 0, .slice none 0 0, .slice none 0 0, .slice none 0 0, .slice none 0 0, .slice none 0 0, .slice none 0 0, .slice none 0 0, .slice none 0 0, .slice none 0 0, .slice none 0 0, .slice none 0 0, .slice none 0 0, .slice none 0 0, .slice none 0 0, .slice none 0 0] 52))) := HBd.out.trans ((HA8.out _).mono h78)
    clear e0 e1 e4 e5 m0 m1
    have HR5 := Lib.hid (HN7.out.rowV HIL7.out)
    have hlen5 : l5 ≤ 1000000 := by have h1 := HIL7.out.length; have h2 := pickL_len inn pin bytes next room need; have h3 := KI.out.length; omega
    go_wp2_with fail
    generalize w8.alloc (.cells #[.int .i64 0, .slice none 0 0, .slice none 0 0, .slice none 0 0, .slice none 0 0, .slice none 0 0, .slice none 0 0, .slice none 0 0, .slice none 0 0, .slice none 0 0, .slice none 0 0, .slice none 0 0, .slice none 0 0, .slice none 0 0, .slice none 0 0, .slice none 0 0] 52) = w9 at *
    refine (told_ints w9 _ _ _ _ _ _ _ _ (some ⟨b, 0, none⟩) li c (inn.map (Value.int .i64)) S0.out (by simp) (by omega)).mono ?_
    rintro e w10 ⟨rfl, hS, hb⟩
    have S1 := Lib.hid hS
    have HX := Lib.hid (HBA.out.trans (hb.mono h78))
    have g1' := (hb.cell (p := ⟨nb, 1, none⟩) hB8).trans f1
    clear hS hb f0 f1
    go_wp2_with fail
    refine (told_ints w10 _ _ _ _ _ _ _ _ (some ⟨b', 0, none⟩) lp c' (pin.map (Value.int .i64)) S1.out (by simp) (by omega)).mono ?_
    rintro e w11 ⟨rfl, hS, hb⟩
    have S2 := Lib.hid hS
    have HX2 := Lib.hid (HX.out.trans (hb.mono h78))
    clear hS hb g1'
    go_wp2_with fail
    refine (told_ints w11 _ _ _ _ _ _ _ _ (some ⟨b3, 0, none⟩) lb c3 (bytes.map (Value.int .i64)) S2.out (by simp) (by omega)).mono ?_
    rintro e w12 ⟨rfl, hS, hb⟩
    have S3 := Lib.hid hS
    have HX3 := Lib.hid (HX2.out.trans (hb.mono h78))
    clear hS hb
    go_wp2_with fail
    refine (told_ints w12 _ _ _ _ _ _ _ _ (some ⟨b4, 0, none⟩) ln c4 (next.map (Value.int .i64)) S3.out (by simp) (by omega)).mono ?_
    rintro e w13 ⟨rfl, hS, hb⟩
    have S4 := Lib.hid hS
    have HX4 := Lib.hid (HX3.out.trans (hb.mono h78))
    clear hS hb
    go_wp2_with fail
    refine (told_ints w13 _ _ _ _ _ _ _ _ a5 l5 c5 ((Ev.pickL inn pin bytes next room need).map (Value.int .i64)) S4.out (by simp) (by omega)).mono ?_
    rintro e w14 ⟨rfl, hS, hb⟩
    have S5 := Lib.hid hS
    have HX5 : Hid (Below w7.heap.size w7 w14) := HX4.out.trans (hb.mono h78)
    clear hS hb
    have HV1 := Lib.hid (U1.out.below HX5.out).rowV
    have HV2 := Lib.hid (U2.out.below HX5.out).rowV
    have HV3 := Lib.hid (U3.out.below HX5.out).rowV
    have HV4 := Lib.hid (U4.out.below HX5.out).rowV
    have HV5 : Hid (RowV 1 w14 (.slice a5 l5 c5) l5 ((Ev.pickL inn pin bytes next room need).map (Value.int .i64))) := HR5.out.1.keep HX5.out.size (fun k hk => HX5.out.block k (HR5.out.2 k hk).2)
    have HB14 : Hid (Below w.heap.size w w14) := HB7.out.trans (HX5.out.mono (by omega))
    have q1 := HF.out.t1.row.lt
    have q2 := HF.out.t2.row.lt
    have q3 := U3.out.row.lt
    have q4 := U4.out.row.lt
    have q5 := HF.out.lo1
    have q6 := HF.out.lo2
    have q7 := HF.out.ne
    have q8 := T3.out.row.lt
    have q9 := HT4.out.row.lt
    have z1 := HW7.out.size
    have z2 := HW3.out.size
    have z3 := HW4.out.size
    have z4 : b3 < w3.heap.size := Z3.out
    have HNB : Hid ((∀ x ∈ blocksOf [(⟨.slice (some ⟨b, 0, none⟩) li c, li, inn.map (Value.int .i64), .slice none 0 0, 0 + 1⟩ : Held), ⟨.slice (some ⟨b', 0, none⟩) lp c', lp, pin.map (Value.int .i64), .slice none 0 0, 0 + 1 + 1⟩, ⟨.slice (some ⟨b3, 0, none⟩) lb c3, lb, bytes.map (Value.int .i64), .slice none 0 0, 0 + 1 + 1 + 1⟩, ⟨.slice (some ⟨b4, 0, none⟩) ln c4, ln, next.map (Value.int .i64), .slice none 0 0, 0 + 1 + 1 + 1 + 1⟩,
        ⟨.slice a5 l5 c5, l5, (Ev.pickL inn pin bytes next room need).map (Value.int .i64), .slice none 0 0, 0 + 1 + 1 + 1 + 1 + 1⟩], w.heap.size ≤ x ∧ x < w8.heap.size) ∧
        (blocksOf [(⟨.slice (some ⟨b, 0, none⟩) li c, li, inn.map (Value.int .i64), .slice none 0 0, 0 + 1⟩ : Held), ⟨.slice (some ⟨b', 0, none⟩) lp c', lp, pin.map (Value.int .i64), .slice none 0 0, 0 + 1 + 1⟩, ⟨.slice (some ⟨b3, 0, none⟩) lb c3, lb, bytes.map (Value.int .i64), .slice none 0 0, 0 + 1 + 1 + 1⟩, ⟨.slice (some ⟨b4, 0, none⟩) ln c4, ln, next.map (Value.int .i64), .slice none 0 0, 0 + 1 + 1 + 1 + 1⟩,
        ⟨.slice a5 l5 c5, l5, (Ev.pickL inn pin bytes next room need).map (Value.int .i64), .slice none 0 0, 0 + 1 + 1 + 1 + 1 + 1⟩]).Nodup) := by
      show _ ∧ _
      cases a5 with
      | none =>
        simp only [blocksOf, List.filterMap_cons, List.filterMap_nil, Value.ownBlock, List.mem_cons, List.not_mem_nil, or_false, List.nodup_cons, List.nodup_nil]
        refine ⟨fun x hx => by omega, by omega, by omega, by omega, by simp⟩
      | some ad =>
        have hk := HR5.out.2 ad.block rfl
        simp only [blocksOf, List.filterMap_cons, List.filterMap_nil, Value.ownBlock, List.mem_cons, List.not_mem_nil, or_false, List.nodup_cons, List.nodup_nil]
        refine ⟨fun x hx => by omega, by omega, by omega, by omega, by omega, by simp⟩
    have hwz : w.heap.size ≤ w8.heap.size := by omega
    have HRA : Hid (∀ h ∈ [(⟨.slice (some ⟨b, 0, none⟩) li c, li, inn.map (Value.int .i64), .slice none 0 0, 0 + 1⟩ : Held), ⟨.slice (some ⟨b', 0, none⟩) lp c', lp, pin.map (Value.int .i64), .slice none 0 0, 0 + 1 + 1⟩, ⟨.slice (some ⟨b3, 0, none⟩) lb c3, lb, bytes.map (Value.int .i64), .slice none 0 0, 0 + 1 + 1 + 1⟩, ⟨.slice (some ⟨b4, 0, none⟩) ln c4, ln, next.map (Value.int .i64), .slice none 0 0, 0 + 1 + 1 + 1 + 1⟩,
        ⟨.slice a5 l5 c5, l5, (Ev.pickL inn pin bytes next room need).map (Value.int .i64), .slice none 0 0, 0 + 1 + 1 + 1 + 1 + 1⟩], RowV 1 w14 h.v h.n h.xs ∧ h.n ≤ 1000000) := by
      intro h hm
      simp only [List.mem_cons, List.not_mem_nil, or_false] at hm
      rcases hm with rfl | rfl | rfl | rfl | rfl
      · exact ⟨HV1.out, show li ≤ _ by omega⟩
      · exact ⟨HV2.out, show lp ≤ _ by omega⟩
      · exact ⟨HV3.out, show lb ≤ _ by omega⟩
      · exact ⟨HV4.out, show ln ≤ _ by omega⟩
      · exact ⟨HV5.out, hlen5⟩
    clear q1 q2 q3 q4 q5 q6 q7 q8 q9 z1 z2 z3 z4
    go_wp2_with fail
    refine (apartI w14 _ _ w.heap.size _ _ S5.out (by simp) (by omega) HRA.out HNB.out.1 HNB.out.2 hwz).mono ?_
    rintro e w15 ⟨rfl, hb⟩
    have HB15 := Lib.hid (HB14.out.trans hb)
    clear hb
    go_wp2_with fail
    refine (lives21_any _).mono ?_
    rintro e w16 ⟨rfl, hb⟩
    have HB16 := Lib.hid (HB15.out.trans (hb.mono HB15.out.size))
    clear hb
    go_wp2
    go_ret
    exact ⟨rfl, HB16.out⟩
end Go.Proofs.YtekejcnphmnidaaGreatDoor
