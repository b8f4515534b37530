/-
  drydocklaw22.PlansStore: the walk pstore_walk (it returns true, and changes nothing below).
-/
import Derived.Test.YtgmagldbfajedaaPlRoomLaw
namespace Go.Proofs.Ytgmagldbfajedaa
open Go.RowKit

theorem stepN_drop {l : List (Int × Int)} {a i : Nat} (h0 : a ≤ i) (h : i < l.length) : stepN l i ∈ l.drop a := by
  rw [List.mem_drop_iff_getElem]
  refine ⟨i - a, by omega, ?_⟩
  unfold stepN
  rw [List.getD_eq_getElem?_getD, List.getElem?_eq_getElem h, Option.getD_some]
  congr 1
  omega
theorem drop_stepN {l : List (Int × Int)} {a : Nat} {x : Int × Int} (h : x ∈ l.drop a) : ∃ i, a ≤ i ∧ i < l.length ∧ stepN l i = x := by
  rw [List.mem_drop_iff_getElem] at h
  obtain ⟨i, hi, e⟩ := h
  refine ⟨a + i, by omega, by omega, ?_⟩
  unfold stepN
  rw [List.getD_eq_getElem?_getD, List.getElem?_eq_getElem (by omega), Option.getD_some]
  exact e

set_option maxHeartbeats 4000000 in
set_option maxRecDepth 100000 in
theorem pstore_walk (a : Option Addr) (len cap : Nat) (g : List Gr.Node) (m : Int) (w : World) (HN : Nodes w a len cap g) (hm0 : 0 ≤ m) (hm1 : m ≤ 65535) :
    Calls Try.prog 23 #[.agg #[.slice a len cap], .int .u16 m] w fun e w' => e = .returned (.bool true) ∧ Below w.heap.size w w' := by
  have LN := Lib.hid HN.length
  have hle := HN.le
  have hcl := HN.cap_le
  have K0 := Lib.hid (GSt.start HN)
  clear HN
  go_enter Try.func23, Try.ntmps23
  go_wp2_with fail
  refine (gsize_any _ _ _ g _ K0.out.n).mono ?_
  rintro e w3 ⟨v, rfl, ⟨hv0, hv1⟩, hb⟩
  have K3 := Lib.hid (K0.out.on hb)
  have c3 := K3.out.cell
  clear hb K0
  by_cases hbig : 600 < v
  · have d : decide (v > 600) = true := decide_eq_true hbig
    go_wp2_with fail
    refine (plives_any _).mono ?_
    rintro e w4 ⟨rfl, hb⟩
    have K4 := Lib.hid (K3.out.on hb)
    clear hb
    go_wp2
    go_ret
    exact ⟨rfl, K4.out.bel⟩
  have d : decide (v > 600) = false := decide_eq_false hbig
  go_wp2_with fail
  refine (gcheck_any _ _ _ g _ K3.out.n).mono ?_
  rintro e w4 ⟨rfl, hb⟩
  have K4 := Lib.hid (K3.out.on hb)
  have c4 := K4.out.cell
  clear hb c3
  cases hsm : (Gr.shapes g).isSome with
  | false =>
    clear hsm
    go_wp2_with fail
    refine (plives_any _).mono ?_
    rintro e w5 ⟨rfl, hb⟩
    have K5 := Lib.hid (K4.out.on hb)
    clear hb
    go_wp2
    go_ret
    exact ⟨rfl, K5.out.bel⟩
  | true =>
    obtain ⟨s, hs⟩ := Option.isSome_iff_exists.1 hsm
    have HS := Lib.hid hs
    have hlb := Pl.least_bounds hs
    obtain ⟨⟨hl1, hl2⟩, _, _⟩ := Gr.shapes_iff.1 hs
    rw [LN.out] at hl1 hl2
    clear hsm hs
    go_wp2_with fail
    refine (cleast_any _ _ _ g _ K4.out.n).mono ?_
    rintro e w5 ⟨hb, ⟨hs, _⟩ | ⟨s', hs, rfl⟩⟩
    · rw [HS.out] at hs; cases hs
    obtain rfl : s' = s := by rw [HS.out] at hs; exact (Option.some.inj hs).symm
    have K5 := Lib.hid (K4.out.on hb)
    have c5 := K5.out.cell
    have HPL := Lib.hid (fun (room : Int) (h1 : Co.leastF (Co.costs g s') (Od.ordOf g) ≤ room) (h2 : room ≤ 1048576) => Pl.plan_good HS.out h1 ⟨by omega, h2⟩)
    have HPO := Lib.hid (fun (room : Int) (w : World) (HN : Nodes w a len cap g) (h0 : -9223372036854775808 ≤ room) (h1 : room ≤ 9223372036854775807) => pof_any a len cap g room w HN h0 h1)
    unfold PlanE at HPO
    clear hb hs c4
    have HQ : Hid (∀ s2, Gr.shapes g = some s2 → Co.leastF (Co.costs g s2) (Od.ordOf g) = Co.leastF (Co.costs g s') (Od.ordOf g)) := fun s2 h2 => by rw [HS.out] at h2; cases h2; rfl
    generalize Co.leastF (Co.costs g s') (Od.ordOf g) = q at *
    have hmin := min_run2
    have hmn : mnI 1048576 (q + m) = q + m := if_pos (by omega)
    go_wp2_with fail
    refine (HPO.out (q + m) _ K5.out.n (by omega) (by omega)).mono ?_
    rintro e w6 ⟨hb, ⟨hbad, _⟩ | ⟨s2, hs2, hr, ⟨hlt2, _⟩ | ⟨_, aL, lL, rfl, hL⟩⟩⟩
    · exfalso
      rcases hbad with h | h | h
      · rw [HS.out] at h; cases h
      · omega
      · omega
    · exfalso
      have := HQ.out _ hs2
      omega
    obtain rfl : s2 = s' := by rw [HS.out] at hs2; exact (Option.some.inj hs2).symm
    have hpl := HPL.out (q + m) (by omega) (by omega)
    have HOK : Hid (∀ x ∈ (Pl.planSt g s2 (q + m)).l, OkStep len x) := fun x hx => by
      have := Pl.plan_steps hpl x hx
      rw [LN.out] at this
      exact this
    have hlL : lL ≤ 2300 := by rw [← hL.length]; exact hpl.len
    have LL := Lib.hid hL.length
    have HPN := Lib.hid hpl
    have KL := Lib.hid hL
    have K6 := Lib.hid (K5.out.on hb)
    have c6 := K6.out.cell
    have hLle := hL.le
    have hLcl := hL.cap_le
    clear hb hs2 hr hL hpl HPO HPL HQ c5 hmn K5 K4 K3
    generalize (Pl.planSt g s2 (q + m)).l = L at *
    go_wp2
    go_loopg [9] lL (fun gg i wr => ∃ k : Nat, k ≤ lL ∧ lL - k ≤ gg ∧ i = .int .i64 k ∧ Hid (Below w6.heap.size w6 wr))
    case atStart => exact ⟨0, Nat.zero_le _, by omega, rfl, Below.refl _ _⟩
    case round =>
      obtain ⟨k, hk, hg, rfl, HW⟩ := hrel
      have c7 := (K6.out.on HW.out).cell
      by_cases hlt : k < lL
      · have dlt : decide ((k : Int) < (lL : Int)) = true := decide_eq_true (by omega)
        obtain ⟨b1, o1, rfl, _, hc1⟩ := (KL.out.below HW.out).at_ (by omega)
        obtain ⟨p0, p1⟩ := hc1 k hlt
        have HKD : Hid (L = L.take k ++ stepN L k :: L.drop (k + 1)) := by
          show _ = _
          rw [← drop_step (by rw [LL.out]; exact hlt)]; exact (List.take_append_drop k L).symm
        by_cases h4 : (stepN L k).1 = 4
        · rw [h4] at p0
          have e4 : ((4 : Int) != 4) = false := rfl
          have hst := Pl.plan_store HPN.out (p := L.take k) (q := L.drop (k + 1)) (u := (stepN L k).2) (by rw [← h4]; exact HKD.out)
          obtain ⟨⟨hv0, hv1⟩, hsrc, ⟨q', hq'⟩, h1m, h4n⟩ := hst
          obtain ⟨u, hu⟩ := Int.eq_ofNat_of_zero_le hv0
          rw [hu] at p1 hv1 hsrc hq' h1m h4n
          rw [LN.out] at hv1
          have hul : u < len := by omega
          have hsrc' : Pl.srcB (nodeN g u) = false := hsrc
          unfold Pl.srcB at hsrc'
          simp only [Bool.or_eq_false_iff, decide_eq_false_iff_not] at hsrc'
          have hk1 : k + 1 < lL := by
            have := congrArg List.length hq'
            simp only [List.length_drop, List.length_cons] at this
            rw [LL.out] at this
            omega
          have hs5 : stepN L (k + 1) = (5, (u : Int)) := by
            have h9 := drop_step (l := L) (k := k + 1) (by rw [LL.out]; exact hk1)
            rw [hq'] at h9
            exact (List.cons.inj h9).1.symm
          obtain ⟨p2, p3⟩ := hc1 (k + 1) hk1
          rw [hs5] at p2 p3
          obtain ⟨bn, offn, ai, li, ci, sa, ls, cs, rfl, _, n0, n1, n2, n3, n4, hV⟩ := (K6.out.on HW.out).n.get (Below.refl _ wr) hul
          have HASK := Lib.hid (drop_stepN h1m)
          have HNOT : Hid (∀ i, k + 1 ≤ i → i < L.length → stepN L i ≠ (4, (u : Int))) := fun i h0 h1 e => h4n (e ▸ stepN_drop h0 h1)
          have e1 : ((nodeN g u).kind == 1) = false := by simpa using hsrc'.1
          have e2 : ((nodeN g u).kind == 2) = false := by simpa using hsrc'.2
          have dge : decide ((k : Int) + 1 ≥ (lL : Int)) = false := decide_eq_false (by omega)
          have eu : ((u : Int) == (u : Int)) = true := by simp
          clear hc1 h4 HKD hV n1 n2 n3 n4 hsrc hsrc' hq' h1m h4n hs5 hu hv0
          generalize (nodeN g u).kind = kn at *
          go_wp2_with fail
          clear p0 p1 p2 p3 n0 e1 e2 dge
          go_loopg [12, 13] lL (fun gg b i wr => ∃ (j : Nat) (bb : Bool), k + 1 ≤ j ∧ j ≤ lL ∧ lL - j ≤ gg ∧ b = .bool bb ∧ i = .int .i64 j ∧ Hid (bb = false → ∀ i, k + 1 ≤ i → i < j → stepN L i ≠ (1, (u : Int))) ∧ Hid (Below w6.heap.size w6 wr))
          case atStart => exact ⟨k + 1, false, Nat.le_refl _, Nat.le_of_lt hk1, by omega, rfl, by go_num, fun _ i h0 h1 => by omega, HW⟩
          case round =>
            rename World => wx
            obtain ⟨j, bb, hj0, hj1, hg2, rfl, rfl, HAS, HW2⟩ := hrel
            by_cases hjl : j < lL
            · have djl : decide ((j : Int) < (lL : Int)) = true := decide_eq_true (by omega)
              obtain ⟨b2, o2, he, _, hc2⟩ := (KL.out.below HW2.out).at_ (by omega)
              cases he
              obtain ⟨r0, r1⟩ := hc2 j hjl
              have HN4 : Hid (stepN L j ≠ (4, (u : Int))) := HNOT.out j hj0 (by rw [LL.out]; exact hjl)
              clear hc2
              have HST : Hid (stepN L j = ((stepN L j).1, (stepN L j).2)) := rfl
              generalize (stepN L j).1 = kd at *
              generalize (stepN L j).2 = vj at *
              by_cases c4 : kd = 4
              · subst c4
                have cu : vj ≠ (u : Int) := fun e => HN4.out (by rw [HST.out, e])
                have f1 : ((4 : Int) == 1) = false := rfl
                have f4 : ((4 : Int) == 4) = true := rfl
                have fu : (vj == (u : Int)) = false := by simpa using cu
                have HAS2 : Hid (bb = false → ∀ i, k + 1 ≤ i → i < j + 1 → stepN L i ≠ (1, (u : Int))) := fun hb i h0 h1 => by
                  by_cases e : i = j
                  · subst e; rw [HST.out]; intro e2; have h3 : (4 : Int) = 1 := congrArg Prod.fst e2; omega
                  · exact HAS.out hb i h0 (by omega)
                clear cu HAS HN4 HST
                cases bb with
                | true =>
                  go_wp2
                  go_roundg (lL - (j + 1))
                  case measure => exact Nat.lt_of_lt_of_le (Nat.sub_lt_sub_left hjl (Nat.lt_succ_self j)) hg2
                  case rel => exact ⟨j + 1, _, Nat.le_succ_of_le hj0, Nat.succ_le_of_lt hjl, Nat.le_refl _, rfl, by go_num, (fun h => by cases h), HW2⟩
                | false =>
                  go_wp2
                  go_roundg (lL - (j + 1))
                  case measure => exact Nat.lt_of_lt_of_le (Nat.sub_lt_sub_left hjl (Nat.lt_succ_self j)) hg2
                  case rel => exact ⟨j + 1, _, Nat.le_succ_of_le hj0, Nat.succ_le_of_lt hjl, Nat.le_refl _, rfl, by go_num, (fun _ => HAS2.out (by trivial)), HW2⟩
              have f4 : (kd == 4) = false := by simpa using c4
              by_cases c1 : kd = 1
              · subst c1
                have f1 : ((1 : Int) == 1) = true := rfl
                by_cases cu : vj = (u : Int)
                · subst cu
                  clear HAS HN4 HST
                  cases bb with
                  | true =>
                    go_wp2
                    go_roundg (lL - (j + 1))
                    case measure => exact Nat.lt_of_lt_of_le (Nat.sub_lt_sub_left hjl (Nat.lt_succ_self j)) hg2
                    case rel => exact ⟨j + 1, _, Nat.le_succ_of_le hj0, Nat.succ_le_of_lt hjl, Nat.le_refl _, rfl, by go_num, (fun h => by cases h), HW2⟩
                  | false =>
                    go_wp2
                    go_roundg (lL - (j + 1))
                    case measure => exact Nat.lt_of_lt_of_le (Nat.sub_lt_sub_left hjl (Nat.lt_succ_self j)) hg2
                    case rel => exact ⟨j + 1, _, Nat.le_succ_of_le hj0, Nat.succ_le_of_lt hjl, Nat.le_refl _, rfl, by go_num, (fun h => by cases h), HW2⟩
                · have fu : (vj == (u : Int)) = false := by simpa using cu
                  have HAS2 : Hid (bb = false → ∀ i, k + 1 ≤ i → i < j + 1 → stepN L i ≠ (1, (u : Int))) := fun hb i h0 h1 => by
                    by_cases e : i = j
                    · subst e; rw [HST.out]; intro e2; exact cu (congrArg Prod.snd e2)
                    · exact HAS.out hb i h0 (by omega)
                  clear cu HAS HN4 HST
                  cases bb with
                  | true =>
                    go_wp2
                    go_roundg (lL - (j + 1))
                    case measure => exact Nat.lt_of_lt_of_le (Nat.sub_lt_sub_left hjl (Nat.lt_succ_self j)) hg2
                    case rel => exact ⟨j + 1, _, Nat.le_succ_of_le hj0, Nat.succ_le_of_lt hjl, Nat.le_refl _, rfl, by go_num, (fun h => by cases h), HW2⟩
                  | false =>
                    go_wp2
                    go_roundg (lL - (j + 1))
                    case measure => exact Nat.lt_of_lt_of_le (Nat.sub_lt_sub_left hjl (Nat.lt_succ_self j)) hg2
                    case rel => exact ⟨j + 1, _, Nat.le_succ_of_le hj0, Nat.succ_le_of_lt hjl, Nat.le_refl _, rfl, by go_num, (fun _ => HAS2.out (by trivial)), HW2⟩
              · have f1 : (kd == 1) = false := by simpa using c1
                have HAS2 : Hid (bb = false → ∀ i, k + 1 ≤ i → i < j + 1 → stepN L i ≠ (1, (u : Int))) := fun hb i h0 h1 => by
                  by_cases e : i = j
                  · subst e; rw [HST.out]; intro e2; exact c1 (congrArg Prod.fst e2)
                  · exact HAS.out hb i h0 (by omega)
                clear c1 c4 HAS HN4 HST
                cases bb with
                | true =>
                  go_wp2
                  go_roundg (lL - (j + 1))
                  case measure => exact Nat.lt_of_lt_of_le (Nat.sub_lt_sub_left hjl (Nat.lt_succ_self j)) hg2
                  case rel => exact ⟨j + 1, _, Nat.le_succ_of_le hj0, Nat.succ_le_of_lt hjl, Nat.le_refl _, rfl, by go_num, (fun h => by cases h), HW2⟩
                | false =>
                  go_wp2
                  go_roundg (lL - (j + 1))
                  case measure => exact Nat.lt_of_lt_of_le (Nat.sub_lt_sub_left hjl (Nat.lt_succ_self j)) hg2
                  case rel => exact ⟨j + 1, _, Nat.le_succ_of_le hj0, Nat.succ_le_of_lt hjl, Nat.le_refl _, rfl, by go_num, (fun _ => HAS2.out (by trivial)), HW2⟩
            · have djl : decide ((j : Int) < (lL : Int)) = false := decide_eq_false (by omega)
              have hbb : bb = true := by
                cases bb with
                | true => rfl
                | false =>
                  obtain ⟨i, h0, h1, h2⟩ := HASK.out
                  exact absurd h2 (HAS.out rfl i h0 (by rw [LL.out] at h1; omega))
              subst hbb
              go_wp2
              go_roundg (lL - (k + 1))
              case measure => exact Nat.lt_of_lt_of_le (Nat.sub_lt_sub_left hlt (Nat.lt_succ_self k)) hg
              case rel => exact ⟨k + 1, Nat.succ_le_of_lt hlt, Nat.le_refl _, by go_num, HW2⟩
        · have e4 : ((stepN L k).1 != 4) = true := by simpa using h4
          clear hc1 h4 HKD
          generalize (stepN L k).1 = kd at *
          generalize (stepN L k).2 = v at *
          go_wp2
          go_roundg (lL - (k + 1))
          case measure => exact Nat.lt_of_lt_of_le (Nat.sub_lt_sub_left hlt (Nat.lt_succ_self k)) hg
          case rel => exact ⟨k + 1, Nat.succ_le_of_lt hlt, Nat.le_refl _, by go_num, HW⟩
      · have d2l : decide ((k : Int) < (lL : Int)) = false := decide_eq_false (by omega)
        obtain rfl : k = lL := by omega
        go_wp2_with fail
        refine (plives_any _).mono ?_
        rintro e w20 ⟨rfl, hb⟩
        have K9 := Lib.hid ((K6.out.on HW.out).on hb)
        clear hb
        go_wp2
        go_ret
        exact ⟨rfl, K9.out.bel⟩
end Go.Proofs.Ytgmagldbfajedaa
