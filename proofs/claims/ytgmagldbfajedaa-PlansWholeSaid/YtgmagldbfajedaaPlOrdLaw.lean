/-
  drydocklaw22.PlansOrder: the walk porder_walk (it returns true, and changes nothing below).
-/
import Derived.Test.YtgmagldbfajedaaPlRoomLaw
namespace Go.Proofs.Ytgmagldbfajedaa
open Go.RowKit

theorem take_step {l : List (Int × Int)} {k : Nat} (hk : k < l.length) : l.take (k + 1) = l.take k ++ [stepN l k] := by
  unfold stepN
  rw [List.take_add_one, List.getElem?_eq_getElem hk, List.getD_eq_getElem?_getD, List.getElem?_eq_getElem hk]
  rfl
theorem stepN_last' {l : List (Int × Int)} {k : Nat} (hk : l.length = k + 1) : l = l.take k ++ [stepN l k] := by
  rw [← take_step (by omega), ← hk, List.take_length]

set_option maxHeartbeats 4000000 in
set_option maxRecDepth 100000 in
theorem porder_walk (a : Option Addr) (len cap : Nat) (g : List Gr.Node) (m : Int) (w : World) (HN : Nodes w a len cap g) (hm0 : 0 ≤ m) (hm1 : m ≤ 65535) :
    Calls Try.prog 22 #[.agg #[.slice a len cap], .int .u16 m] w fun e w' => e = .returned (.bool true) ∧ Below w.heap.size w w' := by
  obtain ⟨i0, hi0, hz0, hz1, hz2⟩ := info_parts Try.info3
  have LN := Lib.hid HN.length
  have hle := HN.le
  have hcl := HN.cap_le
  have K0 := Lib.hid (GSt.start HN)
  clear HN
  go_enter Try.func22, Try.ntmps22
  go_wp2_with fail
  refine (gsize_any _ _ _ g _ K0.out.n).mono ?_
  rintro e w3 ⟨v, rfl, ⟨hv0, hv1⟩, hb⟩
  have K3 := Lib.hid (K0.out.on hb)
  have c3 := K3.out.cell
  clear hb K0
  by_cases hbig : 600 < v
  · have d : decide (v > 600) = true := decide_eq_true hbig
    go_wp2_with fail
    refine (plives_any _).mono ?_
    rintro e w4 ⟨rfl, hb⟩
    have K4 := Lib.hid (K3.out.on hb)
    clear hb
    go_wp2
    go_ret
    exact ⟨rfl, K4.out.bel⟩
  have d : decide (v > 600) = false := decide_eq_false hbig
  go_wp2_with fail
  refine (gcheck_any _ _ _ g _ K3.out.n).mono ?_
  rintro e w4 ⟨rfl, hb⟩
  have K4 := Lib.hid (K3.out.on hb)
  have c4 := K4.out.cell
  clear hb c3
  cases hsm : (Gr.shapes g).isSome with
  | false =>
    clear hsm
    go_wp2_with fail
    refine (plives_any _).mono ?_
    rintro e w5 ⟨rfl, hb⟩
    have K5 := Lib.hid (K4.out.on hb)
    clear hb
    go_wp2
    go_ret
    exact ⟨rfl, K5.out.bel⟩
  | true =>
    obtain ⟨s, hs⟩ := Option.isSome_iff_exists.1 hsm
    have HS := Lib.hid hs
    have hlb := Pl.least_bounds hs
    obtain ⟨⟨hl1, hl2⟩, _, _⟩ := Gr.shapes_iff.1 hs
    rw [LN.out] at hl1 hl2
    clear hsm hs
    go_wp2_with fail
    refine (cleast_any _ _ _ g _ K4.out.n).mono ?_
    rintro e w5 ⟨hb, ⟨hs, _⟩ | ⟨s', hs, rfl⟩⟩
    · rw [HS.out] at hs; cases hs
    obtain rfl : s' = s := by rw [HS.out] at hs; exact (Option.some.inj hs).symm
    have K5 := Lib.hid (K4.out.on hb)
    have c5 := K5.out.cell
    have HPL := Lib.hid (fun (room : Int) (h1 : Co.leastF (Co.costs g s') (Od.ordOf g) ≤ room) (h2 : room ≤ 1048576) => Pl.plan_good HS.out h1 ⟨by omega, h2⟩)
    have HPO := Lib.hid (fun (room : Int) (w : World) (HN : Nodes w a len cap g) (h0 : -9223372036854775808 ≤ room) (h1 : room ≤ 9223372036854775807) => pof_any a len cap g room w HN h0 h1)
    unfold PlanE at HPO
    clear hb hs c4
    have HQ : Hid (∀ s2, Gr.shapes g = some s2 → Co.leastF (Co.costs g s2) (Od.ordOf g) = Co.leastF (Co.costs g s') (Od.ordOf g)) := fun s2 h2 => by rw [HS.out] at h2; cases h2; rfl
    generalize Co.leastF (Co.costs g s') (Od.ordOf g) = q at *
    have hmin := min_run2
    have hmn : mnI 1048576 (q + m) = q + m := if_pos (by omega)
    go_wp2_with fail
    refine (HPO.out (q + m) _ K5.out.n (by omega) (by omega)).mono ?_
    rintro e w6 ⟨hb, ⟨hbad, _⟩ | ⟨s2, hs2, hr, ⟨hlt2, _⟩ | ⟨_, aL, lL, rfl, hL⟩⟩⟩
    · exfalso
      rcases hbad with h | h | h
      · rw [HS.out] at h; cases h
      · omega
      · omega
    · exfalso
      have := HQ.out _ hs2
      omega
    obtain rfl : s2 = s' := by rw [HS.out] at hs2; exact (Option.some.inj hs2).symm
    have hpl := HPL.out (q + m) (by omega) (by omega)
    have HOK : Hid (∀ x ∈ (Pl.planSt g s2 (q + m)).l, OkStep len x) := fun x hx => by
      have := Pl.plan_steps hpl x hx
      rw [LN.out] at this
      exact this
    have hlL : lL ≤ 2300 := by rw [← hL.length]; exact hpl.len
    have LL := Lib.hid hL.length
    have HPN := Lib.hid hpl
    have KL := Lib.hid hL
    have K6 := Lib.hid (K5.out.on hb)
    have c6 := K6.out.cell
    have hLle := hL.le
    have hLcl := hL.cap_le
    clear hb hs2 hr hL hpl HPO HPL HQ c5 hmn K5 K4 K3
    generalize (Pl.planSt g s2 (q + m)).l = L at *
    have HPE := Lib.hid (Pl.plan_end HPN.out (by rw [LN.out]; exact hl1))
    have HMR := Lib.hid (made_mine w6 len (by omega))
    have HBm : Hid (Below w6.heap.size w6 (w6.alloc (.cells (madeCells #[.int .i64 0] len) 3))) := (Below.refl _ _).alloc (Nat.le_refl _) _
    obtain ⟨bg, og, rfl, hnA⟩ : ∃ b o, a = some ⟨b, o, none⟩ ∧ True := by
      obtain ⟨b, off, ai, li, ci, sa, ls, cs, h, _⟩ := K6.out.n.get (Below.refl _ w6) (k := 0) (by omega)
      exact ⟨b, off, h, trivial⟩
    clear hnA
    go_wp2_with (refine wpList_make_row _ rfl _ _ 22 rfl 3 i0 (.int .i64 0) Try.underlying22 hi0 hz0 hz1 rfl .i64 .i64 len rfl rfl (by rw [hz2]; omega) (by omega) ?_)
    go_wp2
    go_loopg [10] lL (fun gg i wr => ∃ (k : Nat) (P : List Int), k ≤ lL ∧ lL - k ≤ gg ∧ i = .int .i64 k ∧ Hid (Mine w6.heap.size wr w6.heap.size 0 len P) ∧ Hid (P.length = len) ∧ Hid (∀ n : Nat, n < len → (2, (n : Int)) ∈ L.take k ∨ (3, (n : Int)) ∈ L.take k → nth P n = 1) ∧ Hid (Below w6.heap.size w6 wr))
    case atStart => exact ⟨0, List.replicate len 0, Nat.zero_le _, by omega, rfl, HMR, by show _ = _; simp, (fun n _ h => by simp at h), HBm⟩
    case round =>
      obtain ⟨k, P, hk, hg, rfl, HM, HPL, HP1, HW⟩ := hrel
      have c7 := (K6.out.on HW.out).cell
      by_cases hlt : k < lL
      · have dlt : decide ((k : Int) < (lL : Int)) = true := decide_eq_true (by omega)
        have hkl : k < L.length := by rw [LL.out]; exact hlt
        obtain ⟨b1, o1, rfl, hb1, hc1⟩ := KL.out.at_ (by omega)
        obtain ⟨t0, t1⟩ := hc1 k hlt
        have p0 := (HW.out.cell (p := ⟨b1, o1 + k * 2, none⟩) hb1).trans t0
        have p1 := (HW.out.cell (p := ⟨b1, o1 + k * 2 + 1, none⟩) hb1).trans t1
        have q1 : b1 ≠ w6.heap.size := Nat.ne_of_lt hb1
        have q2 : w6.heap.size ≠ b1 := Ne.symm q1
        have HTK := Lib.hid (take_step hkl)
        have HKD : Hid (L = L.take k ++ stepN L k :: L.drop (k + 1)) := by
          show _ = _
          rw [← drop_step hkl]; exact (List.take_append_drop k L).symm
        obtain ⟨⟨hk1, hk5⟩, hv0, hv1⟩ := HOK.out _ (stepN_mem hkl)
        clear hc1 t0 t1 hkl
        generalize stepN L k = st at *
        obtain ⟨kd, v⟩ := st
        simp only at p0 p1 hk1 hk5 hv0 hv1
        obtain ⟨n, rfl⟩ : ∃ n : Nat, v = (n : Int) := ⟨v.toNat, by omega⟩
        have hn : n < len := by omega
        have hnP : n < P.length := by rw [HPL.out]; exact hn
        have m0 := HM.out.cell n hnP
        have mf := HM.out.fr n hnP
        rw [Nat.zero_add] at m0 mf
        have HM2 : Hid (Mine w6.heap.size (wr.setCell ⟨w6.heap.size, n, none⟩ (.int .i64 1)) w6.heap.size 0 len (P.set n 1)) := by
          have h := HM.out.set n hnP 1
          rw [Nat.zero_add] at h
          exact h
        have HB2 := Lib.hid (below_setCell HW.out w6.heap.size n (.int .i64 1) (Nat.le_refl _))
        have HPL2 : Hid ((P.set n 1).length = len) := by show _ = _; rw [List.length_set]; exact HPL.out
        have HS1 : Hid (∀ m : Nat, m < len → (2, (m : Int)) ∈ L.take (k + 1) ∨ (3, (m : Int)) ∈ L.take (k + 1) → nth (P.set n 1) m = 1) := fun m hm h => by
          by_cases e : m = n
          · subst e; exact nth_set_at _ _ _ hnP
          · rw [nth_set_ne _ _ _ _ e]
            refine HP1.out m hm ?_
            rw [HTK.out] at h
            simp only [List.mem_append, List.mem_singleton, Prod.mk.injEq] at h
            rcases h with (h | ⟨_, h⟩) | (h | ⟨_, h⟩)
            · exact .inl h
            · omega
            · exact .inr h
            · omega
        have HS0 : Hid (kd ≠ 2 → kd ≠ 3 → ∀ m : Nat, m < len → (2, (m : Int)) ∈ L.take (k + 1) ∨ (3, (m : Int)) ∈ L.take (k + 1) → nth P m = 1) := fun n2 n3 m hm h => by
          refine HP1.out m hm ?_
          rw [HTK.out] at h
          simp only [List.mem_append, List.mem_singleton, Prod.mk.injEq] at h
          rcases h with (h | ⟨h, _⟩) | (h | ⟨h, _⟩)
          · exact .inl h
          · exact absurd h.symm n2
          · exact .inr h
          · exact absurd h.symm n3
        generalize nth P n = pn at *
        by_cases c2 : kd = 2
        · subst c2
          have f2 : ((2 : Int) == 2) = true := rfl
          have f3 : ((2 : Int) != 3) = true := rfl
          clear HKD HS0
          go_wp2
          go_roundg (lL - (k + 1))
          case measure => exact Nat.lt_of_lt_of_le (Nat.sub_lt_sub_left hlt (Nat.lt_succ_self k)) hg
          case rel => exact ⟨k + 1, P.set n 1, Nat.succ_le_of_lt hlt, Nat.le_refl _, by go_num, HM2, HPL2, HS1, HB2⟩
        have f2 : (kd == 2) = false := by simpa using c2
        by_cases c3 : kd = 3
        · subst c3
          have f3 : ((3 : Int) != 3) = false := rfl
          have HOR := Lib.hid (Pl.plan_order HPN.out HKD.out)
          obtain ⟨hin4, hinr⟩ := Co.inn_of HS.out (i := n) (by rw [LN.out]; exact hn)
          obtain ⟨bn, offn, ai, li, ci, sa, ls, cs, he, _, n0, n1, n2, n3, n4, hV⟩ := (K6.out.on HW.out).n.get (Below.refl _ wr) hn
          cases he
          have HV := Lib.hid hV.i
          have HVL := Lib.hid hV.i.length
          have hvl := hV.li
          have hvc := hV.i.le
          have hvc2 := hV.i.cap_le
          have HIN : Hid (∀ u ∈ (nodeN g n).inn, (0 ≤ u ∧ u < (len : Int)) ∧ nth P u.toNat = 1) := fun u hu => by
            have h1 := hinr u hu
            have h2 := HOR.out u (by rw [Int.toNat_natCast]; exact hu)
            exact ⟨by omega, HP1.out u.toNat (by omega) h2⟩
          clear HKD HS0 hV hin4 hinr HOR f2 c2 n0 n2 n3 n4
          generalize (nodeN g n).inn = I at *
          go_wp2
          go_loopg [12] li (fun gg i wx => ∃ j : Nat, j ≤ li ∧ li - j ≤ gg ∧ i = .int .i64 j ∧ wx = wr)
          case atStart => exact ⟨0, Nat.zero_le _, by omega, rfl, rfl⟩
          case round =>
            rename World => wx
            obtain ⟨j, hj, hg2, rfl, rfl⟩ := hrel
            by_cases hjl : j < li
            · have djl : decide ((j : Int) < (li : Int)) = true := decide_eq_true (by omega)
              obtain ⟨b3, o3, rfl, _, hc3⟩ := HV.out.at_ (by omega)
              have r0 := hc3 j hjl
              obtain ⟨⟨hu0, hu1⟩, hu2⟩ := HIN.out _ (nth_mem I j (by rw [HVL.out]; exact hjl))
              generalize nth I j = u at *
              obtain ⟨m, rfl⟩ : ∃ m : Nat, u = (m : Int) := ⟨u.toNat, by omega⟩
              rw [Int.toNat_natCast] at hu2
              have s0 := HM.out.cell m (by rw [HPL.out]; omega)
              rw [Nat.zero_add, hu2] at s0
              have f0 : ((1 : Int) == 0) = false := rfl
              clear hc3 hu2
              go_wp2
              go_roundg (li - (j + 1))
              case measure => exact Nat.lt_of_lt_of_le (Nat.sub_lt_sub_left hjl (Nat.lt_succ_self j)) hg2
              case rel => exact ⟨j + 1, Nat.succ_le_of_lt hjl, Nat.le_refl _, by go_num, rfl⟩
            · have djl : decide ((j : Int) < (li : Int)) = false := decide_eq_false (by omega)
              go_wp2
              go_roundg (lL - (k + 1))
              case measure => exact Nat.lt_of_lt_of_le (Nat.sub_lt_sub_left hlt (Nat.lt_succ_self k)) hg
              case rel => exact ⟨k + 1, P.set n 1, Nat.succ_le_of_lt hlt, Nat.le_refl _, by go_num, HM2, HPL2, HS1, HB2⟩
        · have f3 : (kd != 3) = true := by simpa using c3
          have HS2 := Lib.hid (HS0.out c2 c3)
          clear HKD HS0 c2 c3
          go_wp2
          go_roundg (lL - (k + 1))
          case measure => exact Nat.lt_of_lt_of_le (Nat.sub_lt_sub_left hlt (Nat.lt_succ_self k)) hg
          case rel => exact ⟨k + 1, P, Nat.succ_le_of_lt hlt, Nat.le_refl _, by go_num, HM, HPL, HS2, HW⟩
      · have d2l : decide ((k : Int) < (lL : Int)) = false := decide_eq_false (by omega)
        obtain rfl : k = lL := by omega
        obtain ⟨hlast, hno⟩ := HPE.out
        rw [LN.out] at hlast
        have hpos : 0 < k := by
          rcases Nat.eq_zero_or_pos k with h | h
          · exfalso
            have : L = [] := List.eq_nil_of_length_eq_zero (LL.out.trans h)
            rw [this] at hlast
            simp at hlast
          · exact h
        have h1 : nth P (len - 1) = 1 := HP1.out (len - 1) (by omega) (by rw [List.take_of_length_le (by rw [LL.out]; exact Nat.le_refl _)]; exact hlast)
        have s0 := HM.out.cell (len - 1) (by rw [HPL.out]; omega)
        rw [Nat.zero_add, h1] at s0
        obtain ⟨k, rfl⟩ : ∃ k', k = k' + 1 := ⟨k - 1, by omega⟩
        have hne := hno _ _ (stepN_last' (l := L) (k := k) LL.out)
        obtain ⟨b1, o1, rfl, hb1, hc1⟩ := KL.out.at_ (by omega)
        have p0 := (HW.out.cell (p := ⟨b1, o1 + k * 2, none⟩) hb1).trans (hc1 k (by omega)).1
        have f0 : decide (((k + 1 : Nat) : Int) > 0) = true := decide_eq_true (by omega)
        have f1 : ((stepN L k).1 != 1) = true := by simpa using hne
        have f2 : ((1 : Int) == 1) = true := rfl
        clear hlast hno h1 hne hc1
        generalize (stepN L k).1 = kd at *
        go_wp2_with fail
        refine (plives_any _).mono ?_
        rintro e w20 ⟨rfl, hb⟩
        have K9 := Lib.hid ((K6.out.on HW.out).on hb)
        clear hb
        go_wp2
        go_ret
        exact ⟨rfl, K9.out.bel⟩
end Go.Proofs.Ytgmagldbfajedaa
