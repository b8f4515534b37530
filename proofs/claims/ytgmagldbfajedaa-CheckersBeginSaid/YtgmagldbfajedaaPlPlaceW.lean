/-
  plans.(*making).place: contract place_any.
-/
import Derived.Test.YtgmagldbfajedaaPlBringW
namespace Go.Proofs.Ytgmagldbfajedaa
open Go.RowKit

section
variable {w0 : World} {a : Option Addr} {len cap : Nat} {aC : Option Addr} {cC : Nat} {aB : Option Addr} {cB : Nat} {aO : Option Addr} {lO cO : Nat} {g : List Gr.Node} {s : List (List Int)} {room : Int} {M : Nat} {again : Bool} {st : Pl.St} {w : World}

/-- A guarded operation that is wanted is as one without a guard. -/
theorem wpList_bare {P : Program} {ops : Array Oper} {Q : Exit → Act → World → Prop} {a : Act} {w : World} {rest : List Oper} {o : Oper} (hw : Region.wanted o (yielded ops a.tmps) = true)
    (h : wpList P ops Q (⟨o.dst, o.op, o.type, o.pos, o.after, none⟩ :: rest) a w) : wpList P ops Q (o :: rest) a w := by
  unfold wpList at h ⊢
  rw [if_pos hw]
  rw [if_pos (by simp [Region.wanted])] at h
  exact h

theorem own_lit1 (W : World) (v : Int) : Own W.heap.size (W.alloc (.cells #[.int .i64 v] 3)) (.slice (some ⟨W.heap.size, 0, none⟩) 1 1) [v] :=
  World.ownsRow_lit W #[.int .i64 v] 1 (Nat.le_refl _) (by unfold maxLen; omega) rfl

set_option maxHeartbeats 2000000 in
set_option maxRecDepth 100000 in
theorem place_any (HE : MkEnv w0 a len cap aC cC aB cB aO lO cO g s room) (at_ : Nat) (hat : at_ < lO) (H : MkS w0 M a len cap aC cC aB cB aO lO cO room again (at_ : Int) st w) (hsm : Pl.Small len st)
    (hlen : (Pl.place (Pl.planEnv g s room again) at_ st).1.l.length ≤ 100000) :
    Calls Try.prog 95 #[.pointer (some ⟨M, 0, none⟩)] w fun e w' =>
      e = .returned (.bool (Pl.place (Pl.planEnv g s room again) at_ st).2) ∧ MkS w0 M a len cap aC cC aB cB aO lO cO room again (at_ : Int) (Pl.place (Pl.planEnv g s room again) at_ st).1 w' ∧ Keep M w w' := by
  have hO := HE.ord again
  have hlg := HE.n.length
  have LN := Lib.hid hlg
  have hlo := HE.o.length
  have hl2 : len ≤ 32 := by rw [← hlg]; exact hO.l2
  have hl1 : 1 ≤ len := by rw [← hlg]; exact hO.l1
  have hlO2 : lO ≤ 32 := by rw [← hlo]; exact Nat.le_trans hO.len hO.l2
  have hNX : Od.nextO g (Od.ordOf g) (at_ : Int) = some (Od.next g (Od.ordOf g) (at_ : Int)) := if_pos ⟨hO.may, by omega, by rw [hlo]; omega⟩
  have HNX := Lib.hid hNX
  have hEq := Pl.place_eq (E := Pl.planEnv g s room again) at_ st
  obtain ⟨hv0, hv1⟩ := hO.at_ at_ (by show at_ < (Od.ordOf g).length; rw [hlo]; exact hat)
  rw [show (Pl.planEnv g s room again).g = g from rfl, show (Pl.planEnv g s room again).order = Od.ordOf g from rfl] at hEq
  replace hv0 : 0 ≤ nth (Od.ordOf g) at_ := hv0
  replace hv1 : nth (Od.ordOf g) at_ < (len : Int) := by rw [← hlg]; exact hv1
  obtain ⟨bO, oO, rfl, hbO, hcO⟩ := HE.o.at_ (by omega)
  have kO0 := hcO at_ hat
  generalize nth (Od.ordOf g) at_ = v at *
  obtain ⟨n, rfl⟩ : ∃ n : Nat, v = (n : Int) := ⟨v.toNat, by omega⟩
  rw [Int.toNat_natCast] at hEq
  have hn : n < len := by omega
  have HIO : Hid (Od.InnOk g g.length) := hO.io
  have hil : (nodeN g n).inn.length ≤ 4 := (hO.io n (by show n < g.length; omega)).1
  have HLen := Lib.hid hlen
  generalize Pl.place (Pl.planEnv g s room again) at_ st = R at *
  have HEQ := Lib.hid hEq
  have KE := Lib.hid HE
  have KS := Lib.hid hsm
  have HGB := Lib.hid (Pl.grew_brings (E := Pl.planEnv g s room again) hO.io (Od.next g (Od.ordOf g) ((at_ : Int) - 1)) (n + 1) (n : Int) [] st (by show 0 ≤ (n : Int) ∧ (n : Int) < (g.length : Int); omega))
  have kO := (H.bel.cell (p := ⟨bO, _, none⟩) hbO).trans kO0
  have x0 := H.c0
  have x3 := H.c3
  have x6 := H.c6
  have HN0 := Lib.hid H
  have HMK := Lib.hid (fun ap lp cp pinned st w H HP hsm hlp hlen => makes_any (again := again) (M := M) HE at_ hat (n : Int) ⟨by omega, by omega⟩ ap lp cp pinned (st := st) (w := w) H HP hsm hlp hlen)
  have HBA := Lib.hid (fun st w H HP hsm hlen => brings_any (again := again) (M := M) HE at_ hat (n + 1) n none 0 0 [] st w (Nat.lt_succ_self n) hn H HP (by omega) hsm hlen)
  clear HE hsm H hO hlg hlo hNX hlen hEq hcO kO0 hv0 hv1 hbO
  go_enter Try.func95, Try.ntmps95
  go_wp2_with fail
  go_quiet (fail)
  have HBq := Lib.hid (below_drewN w nq w.heap.size)
  have H1 := Lib.hid (HN0.out.on HBq.out)
  have HK1 : Hid (Keep M w (w.drewN nq)) := Keep.of_below HN0.out.lt HBq.out
  clear kO x0 x3 x6
  generalize w.drewN nq = w1 at *
  have x0 := H1.out.c0
  obtain ⟨b, off, ai, li, ci, sa, ls, cs, rfl, _, n0, n1, n2, n3, n4, hV⟩ := (KE.out.n.on H1.out.bel).get (Below.refl _ w1) hn
  have HV := Lib.hid hV.i
  have hli : li ≤ 4 := by rw [← hV.i.length]; exact hil
  have hvc := hV.i.le
  have hvc2 := hV.i.cap_le
  have hSB : Pl.srcB (nodeN g n) = (decide ((nodeN g n).kind = 1) || decide ((nodeN g n).kind = 2)) := rfl
  have HSB := Lib.hid hSB
  clear hV hSB
  generalize (nodeN g n).kind = kd at *
  generalize (nodeN g n).n = nn at *
  generalize (nodeN g n).pad = pp at *
  go_wp2_with fail
  refine (source_any _ _ _ _ _ _ _ _ _ _).mono ?_
  rintro e w2 ⟨rfl, hb2⟩
  have H2 := Lib.hid (H1.out.on hb2)
  have HK2 := Lib.hid (HK1.out.trans (Keep.of_below H1.out.lt hb2))
  rw [← HSB.out]
  clear hb2 n0 n1 n2 n3 n4 x0
  cases hs : Pl.srcB (nodeN g n) with
  | true =>
    have HR : Hid (R = (st, true)) := by show _ = _; rw [HEQ.out]; exact if_pos hs
    clear hs
    go_wp2
    go_ret
    exact ⟨by rw [HR.out]; rfl, by rw [HR.out]; exact H2.out, HK2.out⟩
  | false =>
    have hEQ1 := HEQ.out
    rw [if_neg (by rw [hs]; simp)] at hEQ1
    have hLB : (Pl.brings (Pl.planEnv g s room again) (Od.next g (Od.ordOf g) ((at_ : Int) - 1)) (n + 1) (n : Int) [] st).1.l.length ≤ R.1.l.length := by
      rw [hEQ1]
      split
      · exact Nat.le_refl _
      · split
        · exact Pl.len_evicts _ _ _ _
        · exact Nat.le_trans (Pl.len_evicts _ _ _ _) ((Pl.grew_take (n := len) _ _ _ ⟨by omega, by omega⟩).trans (Pl.grew_dropsK _ _ _)).2
    have HEQ1 := Lib.hid hEQ1
    have HB := Lib.hid (HBA.out st w2 H2.out IntsH.nil KS.out (Nat.le_trans hLB HLen.out))
    have HG1 : Hid (Pl.Small len (Pl.brings (Pl.planEnv g s room again) (Od.next g (Od.ordOf g) ((at_ : Int) - 1)) (n + 1) (n : Int) [] st).1) := by
      have h := HGB.out.1
      rw [show (Pl.planEnv g s room again).g = g from rfl, LN.out] at h
      exact h KS.out
    clear hEQ1 hLB hs HGB HEQ
    generalize Pl.brings (Pl.planEnv g s room again) (Od.next g (Od.ordOf g) ((at_ : Int) - 1)) (n + 1) (n : Int) [] st = R1 at *
    go_wp2_with fail
    refine HB.out.mono ?_
    rintro e w3 ⟨rfl, hM3, hK3⟩
    have H3 := Lib.hid hM3
    have HK3 := Lib.hid (HK2.out.trans hK3)
    clear hM3 hK3
    cases hbr : R1.2 with
    | false =>
      have HR : Hid (R = (R1.1, false)) := by show _ = _; rw [HEQ1.out]; exact if_pos hbr
      clear hbr
      go_wp2
      go_ret
      exact ⟨by rw [HR.out]; rfl, by rw [HR.out]; exact H3.out, HK3.out⟩
    | true =>
      have hEQ2 := HEQ1.out
      rw [if_neg (by rw [hbr]; simp)] at hEQ2
      have HEQ2 := Lib.hid hEQ2
      have hLM : (Pl.makes (Pl.planEnv g s room again) (Od.next g (Od.ordOf g) ((at_ : Int) - 1)) (n : Int) ([(n : Int)] ++ (nodeN g n).inn) R1.1).1.l.length ≤ R.1.l.length := by
        rw [hEQ2]
        split
        · exact Nat.le_refl _
        · exact ((Pl.grew_take (n := len) _ _ _ ⟨by omega, by omega⟩).trans (Pl.grew_dropsK _ _ _)).2
      have HLM := Lib.hid (Nat.le_trans hLM HLen.out)
      have x0 := H3.out.c0
      have hB3 : Below w3.heap.size w3 (w3.alloc (.cells #[.int .i64 (n : Int)] 3)) := (Below.refl _ _).alloc (Nat.le_refl _) _
      have HB3 := Lib.hid hB3
      have x0' := below_keep hB3 x0
      obtain ⟨bu, ou, au, lu, cu, su, lsu, csu, eA, _, p0, p1, p2, p3, p4, hVu⟩ := (KE.out.n.on (H3.out.on hB3).bel).get (Below.refl _ (w3.alloc (.cells #[.int .i64 (n : Int)] 3))) hn
      cases eA
      have HVu := Lib.hid hVu.i
      have hlu : lu ≤ 4 := by rw [← hVu.i.length]; exact hil
      have HLU := Lib.hid hVu.i.length
      have HOL := Lib.hid (own_lit1 w3 (n : Int))
      have hz : w3.heap.size ≤ (w3.alloc (.cells #[.int .i64 (n : Int)] 3)).heap.size := hB3.size
      have HZ := Lib.hid hz
      clear hbr hEQ2 hLM hB3 hVu p0 p2 p3 p4 hz HEQ1
      go_wp2_with (at_builtin; go_must (refine wpList_bare (by first | rfl | simp [Region.wanted, yielded]) ?_; refine wpList_appIN _ rfl _ _ rfl w3.heap.size _ _ _ au lu cu HOL.out HVu.out rfl rfl HZ.out (by simp) (by omega) ?_))
      intro v' w4 hO4 hB4
      obtain ⟨aP, lP, cP, rfl, hIP, horP⟩ := hO4.ints (fun y hy => by
        rcases List.mem_cons.1 hy with h | h
        · subst h; omega
        · exact HVu.out.wf y h)
      have HB4 : Hid (Below w3.heap.size w3 w4) := HB3.out.trans (hB4.mono (Nat.le_refl _))
      have H4 := Lib.hid (H3.out.on HB4.out)
      have HIP := Lib.hid (own_fresh H3.out HB4.out hIP horP)
      have hlP : lP ≤ 1000000 := by rw [← hIP.length]; simp [HLU.out]; omega
      have HK4 := Lib.hid (HK3.out.trans (Keep.of_below H3.out.lt HB4.out))
      have HMM := Lib.hid (HMK.out aP lP cP ([(n : Int)] ++ (nodeN g n).inn) R1.1 w4 H4.out HIP.out HG1.out hlP HLM.out)
      have HMG := Lib.hid ((Pl.grew_makes (n := len) (Pl.planEnv g s room again) (Od.next g (Od.ordOf g) ((at_ : Int) - 1)) (n : Int) ([(n : Int)] ++ (nodeN g n).inn) R1.1).1 HG1.out)
      clear hO4 hB4 hIP horP hlP x0 x0' p1
      generalize Pl.makes (Pl.planEnv g s room again) (Od.next g (Od.ordOf g) ((at_ : Int) - 1)) (n : Int) ([(n : Int)] ++ (nodeN g n).inn) R1.1 = R2 at *
      go_wp2_with fail
      refine HMM.out.mono ?_
      rintro e w5 ⟨rfl, hM5, hK5⟩
      have H5 := Lib.hid hM5
      have HK5 := Lib.hid (HK4.out.trans hK5)
      clear hM5 hK5
      cases hmk : R2.2 with
      | false =>
        have HR : Hid (R = (R2.1, false)) := by show _ = _; rw [HEQ2.out]; exact if_pos hmk
        clear hmk
        go_wp2
        go_ret
        exact ⟨by rw [HR.out]; rfl, by rw [HR.out]; exact H5.out, HK5.out⟩
      | true =>
        have hEQ3 := HEQ2.out
        rw [if_neg (by rw [hmk]; simp)] at hEQ3
        have HEQ3 := Lib.hid hEQ3
        have hR2l2 : R2.1.l.length ≤ 1000000 := Nat.le_trans HLM.out (by decide)
        have hR2i : R2.1.inn.length ≤ 1000000 := Nat.le_trans HMG.out.i hR2l2
        clear hmk hEQ3 HEQ2
        go_wp2_with fail
        refine (takes_any 3 (n : Int) H5.out hR2l2 hR2i).mono ?_
        rintro e w6 ⟨rfl, hM6, hK6⟩
        have H6 := Lib.hid hM6
        have HK6 := Lib.hid (HK5.out.trans hK6)
        have HG6 := Lib.hid ((Pl.grew_take (n := len) 3 (n : Int) R2.1 ⟨by omega, by omega⟩).1 HMG.out)
        have x0 := hM6.c0
        have x3 := hM6.c3
        have x6 := hM6.c6
        have HBd : Hid (Below w6.heap.size w6 w6.drew) := (Below.refl _ _).drew
        clear hM6 hK6
        generalize Pl.takeS 3 (n : Int) R2.1 = st6 at *
        go_wp2_with fail
        refine wp_region_still_call 12 mixed (by kernel_rfl) ?_
        simp only [List.take_succ_cons, List.take_zero, List.getElem?_cons_succ, List.getElem?_cons_zero]
        repeat still_step
        refine wpStill_nil ?_
        intro KC hKC
        simp only [List.drop_succ_cons, List.drop_zero] at hKC
        go_simp
        refine (next_new _ len cap g (some ⟨bO, oO, none⟩) lO cO (Od.ordOf g) (at_ : Int) _ (KE.out.n.on ((H6.out.on HBd.out).bel)) (KE.out.o.below ((H6.out.on HBd.out).bel)) (by omega) (by omega) (by omega)).mono ?_
        rintro e w7 ⟨hb, ⟨hs, _⟩ | ⟨nx, aN, lN, cN, hs, rfl, hI, hnew⟩⟩
        · rw [HNX.out] at hs; cases hs
        rw [HNX.out] at hs
        obtain rfl := Option.some.inj hs
        have HB7 : Hid (Below w6.heap.size w6 w7) := HBd.out.trans hb
        have H7 := Lib.hid (H6.out.on HB7.out)
        have HNI := Lib.hid (IntsH.fresh H6.out HB7.out hI hnew)
        have HK7 := Lib.hid (HK6.out.trans (Keep.of_below H6.out.lt HB7.out))
        have hlN : lN = len := by rw [← hI.length, ← LN.out]; exact Od.next_length _ _ _
        subst hlN
        have hNcl := hI.cap_le
        have hNle := hI.le
        have x0 := H7.out.c0
        have HRL : Hid ((Pl.dropsK (Od.next g (Od.ordOf g) (at_ : Int)) st6 lN).l.length ≤ 100000 ∧ R = (Pl.dropsK (Od.next g (Od.ordOf g) (at_ : Int)) st6 lN, true)) := by
          have h := HEQ3.out
          rw [LN.out] at h
          exact ⟨by have h2 := HLen.out; rw [h] at h2; exact h2, h⟩
        clear hb hs hI hnew x3 x6
        refine hKC _ _ ?_
        clear hKC KC
        repeat still_step
        refine wpStill_nil ?_
        generalize Od.next g (Od.ordOf g) (at_ : Int) = nx at *
        go_wp2
        go_loopg [73] lN (fun gg i wr => ∃ k : Nat, k ≤ lN ∧ lN - k ≤ gg ∧ i = .int .i64 k ∧ Hid (MkS w0 M (some ⟨b, off, none⟩) lN cap aC cC aB cB (some ⟨bO, oO, none⟩) lO cO room again (at_ : Int) (Pl.dropsK nx st6 k) wr) ∧ Hid (Keep M w7 wr))
        case atStart => exact ⟨0, Nat.zero_le _, by omega, rfl, H7, Keep.refl _ _⟩
        case round =>
          obtain ⟨k, hk, hg, rfl, HM, HK⟩ := hrel
          by_cases hlt : k < lN
          · have dlt : decide ((k : Int) < (lN : Int)) = true := decide_eq_true (by omega)
            have HSk := Lib.hid ((Pl.grew_dropsK (n := lN) nx st6 k).1 HG6.out)
            have hll : (Pl.dropsK nx st6 k).l.length ≤ 1000000 := by
              have h1 : ∀ m, k ≤ m → (Pl.dropsK nx st6 k).l.length ≤ (Pl.dropsK nx st6 m).l.length := fun m => by
                induction m with
                | zero => intro h; obtain rfl : k = 0 := by omega
                          exact Nat.le_refl _
                | succ m ih =>
                  intro h
                  by_cases e : k = m + 1
                  · subst e; exact Nat.le_refl _
                  · refine Nat.le_trans (ih (by omega)) ?_
                    conv => rhs; unfold Pl.dropsK
                    split
                    · simp [Pl.dropS]
                    · exact Nat.le_refl _
              have := h1 lN hk
              have := HRL.out.1
              omega
            have hKs : Pl.dropsK nx st6 (k + 1) = if hasB (Pl.dropsK nx st6 k).inn (k : Int) = true ∧ nth nx k < 0 then Pl.dropS (k : Int) (Pl.dropsK nx st6 k) else Pl.dropsK nx st6 k := rfl
            have HKs := Lib.hid hKs
            obtain ⟨bN, oN, eN, _, hcN⟩ := (HNI.out.keep HK.out).1.at_ (by omega)
            have kN := hcN k hlt
            cases eN
            obtain ⟨qi, qd, ql, q1, q2, q3, q4, q5, q6, q7, q8⟩ := HM.out.own
            obtain ⟨aI, lI, cI, rfl, hII, _⟩ := q4.ints (fun n hn => by have := HSk.out.ri n hn; omega)
            have HII := Lib.hid hII
            have x7 := q1
            clear hcN hII q1 q2 q3 q4 q5 q6 q7 q8 hKs
            generalize Pl.dropsK nx st6 k = stk at *
            go_wp2_with fail
            refine (contains_any _ _ _ _ _ _ HII.out).mono ?_
            rintro e w8 ⟨rfl, rfl⟩
            cases hh : hasB stk.inn (k : Int) with
            | false =>
              have HK2 : Hid (Pl.dropsK nx st6 (k + 1) = stk) := by show _ = _; rw [HKs.out]; exact if_neg (fun h => by rw [hh] at h; cases h.1)
              rw [← HK2.out] at HM
              clear hh x7 kN
              go_wp2
              go_roundg (lN - (k + 1))
              case measure => exact Nat.lt_of_lt_of_le (Nat.sub_lt_sub_left hlt (Nat.lt_succ_self k)) hg
              case rel => exact ⟨k + 1, Nat.succ_le_of_lt hlt, Nat.le_refl _, by go_num, HM, HK⟩
            | true =>
              by_cases hneg : nth nx k < 0
              · have dn : decide (nth nx k < 0) = true := decide_eq_true hneg
                have HK2 : Hid (Pl.dropsK nx st6 (k + 1) = Pl.dropS (k : Int) stk) := by show _ = _; rw [HKs.out]; exact if_pos ⟨hh, hneg⟩
                clear hh x7 hneg
                generalize nth nx k = nxk at *
                go_wp2_with fail
                refine (drop_any (k : Int) HM.out hll).mono ?_
                rintro e w9 ⟨rfl, hM9, hK9⟩
                rw [← HK2.out] at hM9
                have HM9 := Lib.hid hM9
                have HK9 := Lib.hid (HK.out.trans hK9)
                clear hM9 hK9
                go_wp2
                go_roundg (lN - (k + 1))
                case measure => exact Nat.lt_of_lt_of_le (Nat.sub_lt_sub_left hlt (Nat.lt_succ_self k)) hg
                case rel => exact ⟨k + 1, Nat.succ_le_of_lt hlt, Nat.le_refl _, by go_num, HM9, HK9⟩
              · have dn : decide (nth nx k < 0) = false := decide_eq_false hneg
                have HK2 : Hid (Pl.dropsK nx st6 (k + 1) = stk) := by show _ = _; rw [HKs.out]; exact if_neg (fun h => hneg h.2)
                rw [← HK2.out] at HM
                clear hh x7 hneg
                generalize nth nx k = nxk at *
                go_wp2
                go_roundg (lN - (k + 1))
                case measure => exact Nat.lt_of_lt_of_le (Nat.sub_lt_sub_left hlt (Nat.lt_succ_self k)) hg
                case rel => exact ⟨k + 1, Nat.succ_le_of_lt hlt, Nat.le_refl _, by go_num, HM, HK⟩
          · have dlt : decide ((k : Int) < (lN : Int)) = false := decide_eq_false (by omega)
            obtain rfl : k = lN := by omega
            go_wp2
            go_ret
            exact ⟨by rw [HRL.out.2]; rfl, by rw [HRL.out.2]; exact HM.out, HK7.out.trans HK.out⟩
end
end Go.Proofs.Ytgmagldbfajedaa
