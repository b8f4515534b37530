/-
  drydocklaw22.PlansWhole: the walk pwhole_walk (it returns true, and changes nothing below).
-/
import Derived.Test.YtgmagldbfajedaaPlOrdLaw
import Derived.Test.YtgmagldbfajedaaPlWhole
import Derived.StillTailTactics
namespace Go.Proofs.Ytgmagldbfajedaa
open Go.RowKit

namespace Pl
/-- How often a node came, and ten for each time that it went. -/
def cntF (u : Nat) (l : List (Int × Int)) : Int := (cT (u : Int) l : Int) + 10 * (cD (u : Int) l : Int)
theorem cntF_snoc (u : Nat) (l : List (Int × Int)) (kd : Int) (n : Nat) : cntF u (l ++ [(kd, (n : Int))]) = cntF u l + (if u = n then (if kd = 1 ∨ kd = 3 then 1 else if kd = 5 then 10 else 0) else 0) := by
  unfold cntF
  rw [cT_snoc, cD_snoc]
  simp only
  by_cases e : u = n
  · subst e
    simp only [and_true, if_true]
    by_cases h1 : kd = 1 ∨ kd = 3
    · rw [if_pos h1, if_pos h1, if_neg (by omega)]; omega
    · rw [if_neg h1, if_neg h1]
      by_cases h5 : kd = 5
      · rw [if_pos h5, if_pos h5]; omega
      · rw [if_neg h5, if_neg h5]; omega
  · rw [if_neg (by omega), if_neg (by omega), if_neg e]; omega
theorem cntF_bounds (u : Nat) (l : List (Int × Int)) : 0 ≤ cntF u l ∧ cntF u l ≤ 11 * l.length := by
  unfold cntF cT cD
  have h1 := List.countP_le_length (p := fun s : Int × Int => (decide (s.1 = 1) || decide (s.1 = 3)) && decide (s.2 = (u : Int))) (l := l)
  have h2 := List.countP_le_length (p := fun s : Int × Int => decide (s.1 = 5) && decide (s.2 = (u : Int))) (l := l)
  omega
/-- The bytes of the first k. -/
def sumK (g : List Gr.Node) (s : List (List Int)) (k : Nat) : Int := Ev.sumB (bytesOf g s) ((List.range k).map fun (i : Nat) => (i : Int))
theorem sumK_succ (g : List Gr.Node) (s : List (List Int)) (k : Nat) : sumK g s (k + 1) = sumK g s k + nth (bytesOf g s) k := by
  unfold sumK
  rw [List.range_succ, List.map_append, Ev.sumB_append]
  simp [Ev.sumB, Ev.at_]
theorem whole_law {g : List Gr.Node} {s : List (List Int)} (h : Gr.shapes g = some s) (hB : sumK g s g.length ≤ 1048576) :
    (∀ x ∈ (planSt g s 1048576).l, x.1 ≠ 4) ∧ (∀ u : Nat, u + 1 < g.length → cntF u (planSt g s 1048576).l = 0 ∨ cntF u (planSt g s 1048576).l = 11) ∧ (1 ≤ g.length → cntF (g.length - 1) (planSt g s 1048576).l = 1) := by
  have hE := env_ok h (room := 1048576) (by omega) true
  have hO := ordOk hE
  obtain ⟨h1, h2, h3, h4, h5⟩ := try_big hE hO hB
  have he : planSt g s 1048576 = (tryF (planEnv g s 1048576 true)).1 := if_pos h1
  rw [he]
  refine ⟨h2, fun u hu => ?_, fun hl => ?_⟩
  · have h6 := h3 (u : Int) (by omega) (by show (u : Int) < (g.length : Int) - 1; omega)
    unfold cntF; omega
  · have e : ((g.length - 1 : Nat) : Int) = (g.length : Int) - 1 := by omega
    have h7 : cT ((g.length : Int) - 1) (tryF (planEnv g s 1048576 true)).1.l = 1 := h4
    have h8 : cD ((g.length : Int) - 1) (tryF (planEnv g s 1048576 true)).1.l = 0 := h5
    unfold cntF
    rw [e]; omega
end Pl

set_option maxHeartbeats 4000000 in
set_option maxRecDepth 100000 in
theorem pwhole_walk (a : Option Addr) (len cap : Nat) (g : List Gr.Node) (w : World) (HN : Nodes w a len cap g) :
    Calls Try.prog 21 #[.agg #[.slice a len cap]] w fun e w' => e = .returned (.bool true) ∧ Below w.heap.size w w' := by
  obtain ⟨i0, hi0, hz0, hz1, hz2⟩ := info_parts Try.info3
  have LN := Lib.hid HN.length
  have hle := HN.le
  have hcl := HN.cap_le
  have K0 := Lib.hid (GSt.start HN)
  clear HN
  go_enter Try.func21, Try.ntmps21
  go_wp2_with fail
  refine (gsize_any _ _ _ g _ K0.out.n).mono ?_
  rintro e w3 ⟨v, rfl, ⟨hv0, hv1⟩, hb⟩
  have K3 := Lib.hid (K0.out.on hb)
  have c3 := K3.out.cell
  clear hb K0
  by_cases hbig : 600 < v
  · have d : decide (v > 600) = true := decide_eq_true hbig
    go_wp2_with fail
    refine (plives_any _).mono ?_
    rintro e w4 ⟨rfl, hb⟩
    have K4 := Lib.hid (K3.out.on hb)
    clear hb
    go_wp2
    go_ret
    exact ⟨rfl, K4.out.bel⟩
  have d : decide (v > 600) = false := decide_eq_false hbig
  go_wp2_with fail
  refine (gcheck_any _ _ _ g _ K3.out.n).mono ?_
  rintro e w4 ⟨rfl, hb⟩
  have K4 := Lib.hid (K3.out.on hb)
  have c4 := K4.out.cell
  clear hb c3
  cases hsm : (Gr.shapes g).isSome with
  | false =>
    clear hsm
    go_wp2_with fail
    refine (plives_any _).mono ?_
    rintro e w5 ⟨rfl, hb⟩
    have K5 := Lib.hid (K4.out.on hb)
    clear hb
    go_wp2
    go_ret
    exact ⟨rfl, K5.out.bel⟩
  | true =>
    obtain ⟨s, hs⟩ := Option.isSome_iff_exists.1 hsm
    have HS := Lib.hid hs
    have hlb := Pl.least_bounds hs
    have HPL : Hid (Pl.Plan g s 1048576 (Pl.planSt g s 1048576).l) := Pl.plan_good hs (by omega) (by omega)
    have HSZ := Lib.hid (fun i (hi : i < len) => (show 0 ≤ nth (Pl.bytesOf g s) i ∧ nth (Pl.bytesOf g s) i ≤ 20000 by
      rw [Pl.bytes_at (by rw [LN.out]; exact hi)]
      have := Co.size_bounds HS.out (i := i) (by rw [LN.out]; exact hi)
      omega))
    have HWH := Lib.hid (Pl.whole_law HS.out)
    obtain ⟨⟨hl1, hl2⟩, _, _⟩ := Gr.shapes_iff.1 hs
    rw [LN.out] at hl1 hl2
    clear hsm hs
    go_wp2_with fail
    refine (pof_any a len cap g 1048576 _ K4.out.n (by omega) (by omega)).mono ?_
    rintro e w6 ⟨hb, ⟨hbad, _⟩ | ⟨s2, hs2, hr, ⟨hlt2, _⟩ | ⟨_, aL, lL, rfl, hL⟩⟩⟩
    · exfalso
      rcases hbad with h | h | h
      · rw [HS.out] at h; cases h
      · omega
      · omega
    · exfalso
      obtain rfl : s2 = s := by rw [HS.out] at hs2; exact (Option.some.inj hs2).symm
      omega
    obtain rfl : s2 = s := by rw [HS.out] at hs2; exact (Option.some.inj hs2).symm
    have HOK : Hid (∀ x ∈ (Pl.planSt g s2 1048576).l, OkStep len x) := fun x hx => by
      have := Pl.plan_steps HPL.out x hx
      rw [LN.out] at this
      exact this
    have hlL : lL ≤ 2300 := by rw [← hL.length]; exact HPL.out.len
    have LL := Lib.hid hL.length
    have KL := Lib.hid hL
    have K6 := Lib.hid (K4.out.on hb)
    have c6 := K6.out.cell
    have hLle := hL.le
    have hLcl := hL.cap_le
    clear hb hs2 hr hL c4 hlb HPL
    generalize (Pl.planSt g s2 1048576).l = L at *
    go_wp2_with fail
    refine (cof_any _ _ _ g _ K6.out.n).mono ?_
    rintro e w7 ⟨hb, ⟨hs, _⟩ | ⟨s', aC, lC, hs, rfl, hC⟩⟩
    · rw [HS.out] at hs; cases hs
    obtain rfl : s' = s2 := by rw [HS.out] at hs; exact (Option.some.inj hs).symm
    have hlC : lC = g.length := by rw [← hC.length]; exact Co.costsK_length _ _ _
    obtain rfl : lC = len := by rw [hlC]; exact LN.out
    have hCle := hC.le
    have hCcl := hC.cap_le
    have K7 := Lib.hid (K6.out.on hb)
    have KL7 := Lib.hid (KL.out.below hb)
    have HC := Lib.hid hC
    have HCB : Hid (∀ k, k < lC → (Co.costN (Co.costs g s') k).bytes = nth (Pl.bytesOf g s') k) := fun k hk => (Pl.bytes_nth (by rw [LN.out]; exact hk)).symm
    clear hb hs hC hlC c6 K4 K6 KL
    go_wp2
    go_loopg [7, 8] lC (fun gg s i wr => ∃ k : Nat, k ≤ lC ∧ lC - k ≤ gg ∧ i = .int .i64 k ∧ s = .int .i64 (Pl.sumK g s' k) ∧ Hid (0 ≤ Pl.sumK g s' k ∧ Pl.sumK g s' k ≤ 20000 * (k : Int)) ∧ w7 = wr)
    case atStart => exact ⟨0, Nat.zero_le _, by omega, rfl, rfl, (by show 0 ≤ (0 : Int) ∧ (0 : Int) ≤ _; omega), rfl⟩
    case round =>
      obtain ⟨k, hk, hg, rfl, rfl, HSB, rfl⟩ := hrel
      by_cases hlt : k < lC
      · have dlt : decide ((k : Int) < (lC : Int)) = true := decide_eq_true (by omega)
        obtain ⟨bC, oC, rfl, _, hcC⟩ := HC.out.at_ (by omega)
        have kc := (hcC k hlt).1
        rw [HCB.out k hlt] at kc
        obtain ⟨h1, h2⟩ := HSZ.out k hlt
        obtain ⟨h3, h4⟩ := HSB.out
        have HSS := Lib.hid (Pl.sumK_succ g s' k)
        have HSB2 : Hid (0 ≤ Pl.sumK g s' (k + 1) ∧ Pl.sumK g s' (k + 1) ≤ 20000 * ((k + 1 : Nat) : Int)) := by
          show _ ∧ _
          rw [HSS.out]; omega
        clear hcC
        generalize Pl.sumK g s' k = sk at *
        generalize nth (Pl.bytesOf g s') k = bk at *
        go_wp2
        go_roundg (lC - (k + 1))
        case measure => exact Nat.lt_of_lt_of_le (Nat.sub_lt_sub_left hlt (Nat.lt_succ_self k)) hg
        case rel => exact ⟨k + 1, Nat.succ_le_of_lt hlt, Nat.le_refl _, by go_num, by rw [HSS.out], HSB2, rfl⟩
      · have d2l : decide ((k : Int) < (lC : Int)) = false := decide_eq_false (by omega)
        obtain rfl : k = lC := by omega
        by_cases hbig : 1048576 < Pl.sumK g s' k
        · have dbg : decide (Pl.sumK g s' k > 1048576) = true := decide_eq_true hbig
          obtain ⟨h3, h4⟩ := HSB.out
          clear hbig
          generalize Pl.sumK g s' k = sk at *
          go_wp2_with fail
          refine (plives_any _).mono ?_
          rintro e w20 ⟨rfl, hb⟩
          have K9 := Lib.hid (K7.out.on hb)
          clear hb
          go_wp2
          go_ret
          exact ⟨rfl, K9.out.bel⟩
        have dbg : decide (Pl.sumK g s' k > 1048576) = false := decide_eq_false hbig
        obtain ⟨hno4, hcnt, hend⟩ := HWH.out (by rw [LN.out]; omega)
        have HN4 := Lib.hid hno4
        have HCN := Lib.hid hcnt
        have HEN := Lib.hid (hend (by rw [LN.out]; exact hl1))
        have HMR := Lib.hid (made_mine w7 k (by omega))
        have HBm : Hid (Below w7.heap.size w7 (w7.alloc (.cells (madeCells #[.int .i64 0] k) 3))) := (Below.refl _ _).alloc (Nat.le_refl _) _
        obtain ⟨h3, h4⟩ := HSB.out
        clear hbig hno4 hcnt hend HSB HWH
        generalize Pl.sumK g s' k = sk at *
        go_wp2_with (refine wpList_make_row _ rfl _ _ 22 rfl 3 i0 (.int .i64 0) Try.underlying22 hi0 hz0 hz1 rfl .i64 .i64 k rfl rfl (by rw [hz2]; omega) (by omega) ?_)
        go_wp2
        go_loopg [10] lL (fun gg i wr => ∃ (j : Nat) (P : List Int), j ≤ lL ∧ lL - j ≤ gg ∧ i = .int .i64 j ∧ Hid (Mine w7.heap.size wr w7.heap.size 0 k P) ∧ Hid (P.length = k) ∧ Hid (∀ u : Nat, u < k → nth P u = Pl.cntF u (L.take j)) ∧ Hid (Below w7.heap.size w7 wr))
        case atStart => exact ⟨0, List.replicate k 0, Nat.zero_le _, by omega, rfl, HMR, by show _ = _; simp, (fun u hu => by
          unfold nth; rw [List.getD_eq_getElem?_getD, List.getElem?_replicate, if_pos hu]; rfl), HBm⟩
        case round =>
          obtain ⟨j, P, hj, hg2, rfl, HM, HPL, HP1, HW⟩ := hrel
          by_cases hjl : j < lL
          · have djl : decide ((j : Int) < (lL : Int)) = true := decide_eq_true (by omega)
            have hkl : j < L.length := by rw [LL.out]; exact hjl
            obtain ⟨b1, o1, rfl, hb1, hc1⟩ := KL7.out.at_ (by omega)
            obtain ⟨t0, t1⟩ := hc1 j hjl
            have p0 := (HW.out.cell (p := ⟨b1, o1 + j * 2, none⟩) hb1).trans t0
            have p1 := (HW.out.cell (p := ⟨b1, o1 + j * 2 + 1, none⟩) hb1).trans t1
            have q1 : b1 ≠ w7.heap.size := Nat.ne_of_lt hb1
            have q2 : w7.heap.size ≠ b1 := Ne.symm q1
            have HTK := Lib.hid (take_step hkl)
            obtain ⟨⟨hk1, hk5⟩, hv0, hv1⟩ := HOK.out _ (stepN_mem hkl)
            have h4n := HN4.out _ (stepN_mem hkl)
            clear hc1 t0 t1 hkl
            generalize stepN L j = st at *
            obtain ⟨kd, v⟩ := st
            simp only at p0 p1 hk1 hk5 hv0 hv1 h4n
            obtain ⟨n, rfl⟩ : ∃ n : Nat, v = (n : Int) := ⟨v.toNat, by omega⟩
            have hn : n < k := by omega
            have hnP : n < P.length := by rw [HPL.out]; exact hn
            have m0 := HM.out.cell n hnP
            have mf := HM.out.fr n hnP
            rw [Nat.zero_add] at m0 mf
            have hpb := Pl.cntF_bounds n (L.take j)
            rw [← HP1.out n hn] at hpb
            have hlt2 : (L.take j).length ≤ 2300 := Nat.le_trans (List.length_take_le _ _) (by omega)
            have hp0 : 0 ≤ nth P n := hpb.1
            have hp9 : nth P n ≤ 30000 := by omega
            have HSET : Hid (∀ x : Int, Mine w7.heap.size (wr.setCell ⟨w7.heap.size, n, none⟩ (.int .i64 x)) w7.heap.size 0 k (P.set n x) ∧ (P.set n x).length = k ∧ Below w7.heap.size w7 (wr.setCell ⟨w7.heap.size, n, none⟩ (.int .i64 x))) := fun x => by
              have h := HM.out.set n hnP x
              rw [Nat.zero_add] at h
              exact ⟨h, by rw [List.length_set]; exact HPL.out, below_setCell HW.out w7.heap.size n (.int .i64 x) (Nat.le_refl _)⟩
            have HCS : Hid (∀ inc : Int, (if kd = 1 ∨ kd = 3 then 1 else if kd = 5 then 10 else 0) = inc → ∀ u : Nat, u < k → nth (P.set n (nth P n + inc)) u = Pl.cntF u (L.take (j + 1))) := fun inc hi u hu => by
              rw [HTK.out, Pl.cntF_snoc, hi]
              by_cases e : u = n
              · subst e; rw [nth_set_at _ _ _ hnP, if_pos rfl, HP1.out u hu]
              · rw [nth_set_ne _ _ _ _ e, if_neg e, HP1.out u hu]; omega
            have HC0 : Hid (¬ (kd = 1 ∨ kd = 3) → kd ≠ 5 → ∀ u : Nat, u < k → nth P u = Pl.cntF u (L.take (j + 1))) := fun n1 n5 u hu => by
              rw [HTK.out, Pl.cntF_snoc, if_neg n1, if_neg n5, HP1.out u hu]
              split <;> omega
            clear hpb hlt2
            generalize nth P n = pn at *
            by_cases k1 : kd = 1
            · subst k1
              have f1 : ((1 : Int) == 1) = true := rfl
              have HC1 := Lib.hid (HCS.out 1 rfl)
              obtain ⟨x1, x2, x3⟩ := HSET.out (pn + 1)
              have X1 := Lib.hid x1
              have X2 := Lib.hid x2
              have X3 := Lib.hid x3
              clear HCS HC0 x1 x2 x3
              go_wp2
              go_roundg (lL - (j + 1))
              case measure => exact Nat.lt_of_lt_of_le (Nat.sub_lt_sub_left hjl (Nat.lt_succ_self j)) hg2
              case rel => exact ⟨j + 1, P.set n (pn + 1), Nat.succ_le_of_lt hjl, Nat.le_refl _, by go_num, X1, X2, HC1, X3⟩
            have f1 : (kd == 1) = false := by simpa using k1
            by_cases k3 : kd = 3
            · subst k3
              have f3 : ((3 : Int) == 3) = true := rfl
              have HC1 := Lib.hid (HCS.out 1 rfl)
              obtain ⟨x1, x2, x3⟩ := HSET.out (pn + 1)
              have X1 := Lib.hid x1
              have X2 := Lib.hid x2
              have X3 := Lib.hid x3
              clear HCS HC0 x1 x2 x3
              go_wp2
              go_roundg (lL - (j + 1))
              case measure => exact Nat.lt_of_lt_of_le (Nat.sub_lt_sub_left hjl (Nat.lt_succ_self j)) hg2
              case rel => exact ⟨j + 1, P.set n (pn + 1), Nat.succ_le_of_lt hjl, Nat.le_refl _, by go_num, X1, X2, HC1, X3⟩
            have f3 : (kd == 3) = false := by simpa using k3
            by_cases k5 : kd = 5
            · subst k5
              have f5 : ((5 : Int) == 5) = true := rfl
              have HC1 := Lib.hid (HCS.out 10 rfl)
              have HWd : Hid (Below w7.heap.size w7 wr.drew) := HW.out.drew
              have HMd : Hid (Mine w7.heap.size wr.drew w7.heap.size 0 k P) := HM.out.below ((Below.refl _ wr).drew)
              have md : wr.drew.cell? ⟨w7.heap.size, n, none⟩ = some (.int .i64 pn) := m0
              have mfd : wr.drew.frozen? ⟨w7.heap.size, n, none⟩ = false := mf
              clear HCS HC0 HSET
              go_wp2_with fail
              go_still_tail 16, (by kernel_rfl)
              change wpList _ _ _ _ _ wr.drew
              clear m0 mf p0 p1 HM HW HP1
              generalize wr.drew = w8 at *
              have x1 := HMd.out.set n hnP (pn + 10)
              rw [Nat.zero_add] at x1
              have X1 := Lib.hid x1
              have X2 : Hid ((P.set n (pn + 10)).length = k) := by show _ = _; rw [List.length_set]; exact HPL.out
              have X3 := Lib.hid (below_setCell HWd.out w7.heap.size n (.int .i64 (pn + 10)) (Nat.le_refl _))
              clear x1
              go_wp2
              go_roundg (lL - (j + 1))
              case measure => exact Nat.lt_of_lt_of_le (Nat.sub_lt_sub_left hjl (Nat.lt_succ_self j)) hg2
              case rel => exact ⟨j + 1, P.set n (pn + 10), Nat.succ_le_of_lt hjl, Nat.le_refl _, by go_num, X1, X2, HC1, X3⟩
            · have f5 : (kd == 5) = false := by simpa using k5
              have f4 : (kd == 4) = false := by simpa using h4n
              have HC1 := Lib.hid (HC0.out (by omega) k5)
              clear HCS HC0 k1 k3 k5 h4n
              go_wp2
              go_roundg (lL - (j + 1))
              case measure => exact Nat.lt_of_lt_of_le (Nat.sub_lt_sub_left hjl (Nat.lt_succ_self j)) hg2
              case rel => exact ⟨j + 1, P, Nat.succ_le_of_lt hjl, Nat.le_refl _, by go_num, HM, HPL, HC1, HW⟩
          · have djl : decide ((j : Int) < (lL : Int)) = false := decide_eq_false (by omega)
            obtain rfl : j = lL := by omega
            have HP2 : Hid (∀ u : Nat, u < k → nth P u = Pl.cntF u L) := fun u hu => by
              have := HP1.out u hu
              rw [List.take_of_length_le (by rw [LL.out]; exact Nat.le_refl _)] at this
              exact this
            go_wp2
            go_loopg [11] k (fun gg i wx => ∃ u : Nat, u + 1 ≤ k ∧ k - u ≤ gg ∧ i = .int .i64 u ∧ wx = wr)
            case atStart => exact ⟨0, by omega, by omega, rfl, rfl⟩
            case round =>
              rename World => wx
              obtain ⟨u, hu, hg3, rfl, rfl⟩ := hrel
              by_cases hul : u + 1 < k
              · have dul : decide ((u : Int) < (k : Int) - 1) = true := decide_eq_true (by omega)
                have s0 := HM.out.cell u (by rw [HPL.out]; omega)
                rw [Nat.zero_add, HP2.out u (by omega)] at s0
                rcases HCN.out u (by rw [LN.out]; exact hul) with h | h
                · rw [h] at s0
                  have f0 : ((0 : Int) != 0) = false := rfl
                  clear h
                  go_wp2
                  go_roundg (k - (u + 1))
                  case measure => exact Nat.lt_of_lt_of_le (Nat.sub_lt_sub_left (by omega) (Nat.lt_succ_self u)) hg3
                  case rel => exact ⟨u + 1, hul, Nat.le_refl _, by go_num, rfl⟩
                · rw [h] at s0
                  have f0 : ((11 : Int) != 0) = true := rfl
                  have f9 : ((11 : Int) != 11) = false := rfl
                  clear h
                  go_wp2
                  go_roundg (k - (u + 1))
                  case measure => exact Nat.lt_of_lt_of_le (Nat.sub_lt_sub_left (by omega) (Nat.lt_succ_self u)) hg3
                  case rel => exact ⟨u + 1, hul, Nat.le_refl _, by go_num, rfl⟩
              · have dul : decide ((u : Int) < (k : Int) - 1) = false := decide_eq_false (by omega)
                obtain rfl : k = u + 1 := by omega
                have s0 := HM.out.cell u (by rw [HPL.out]; omega)
                have hen := HEN.out
                rw [LN.out, Nat.add_sub_cancel] at hen
                rw [Nat.zero_add, HP2.out u (by omega), hen] at s0
                have f1 : ((1 : Int) == 1) = true := rfl
                clear hen
                go_wp2_with fail
                refine (plives_any _).mono ?_
                rintro e w20 ⟨rfl, hb⟩
                have K9 := Lib.hid ((K7.out.on HW.out).on hb)
                clear hb
                go_wp2
                go_ret
                exact ⟨rfl, K9.out.bel⟩
end Go.Proofs.Ytgmagldbfajedaa
