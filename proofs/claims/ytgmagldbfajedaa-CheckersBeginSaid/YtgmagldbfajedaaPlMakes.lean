/-
  plans.(*making).makes: contract makes_any. Printed by gen_makes.py.
-/
import Derived.Test.YtgmagldbfajedaaPlTurn
import Derived.Test.YtgmagldbfajedaaPlAgain
import Derived.Test.YtgmagldbfajedaaPlCat
import Derived.Test.YtgmagldbfajedaaPlStore
import Derived.Test.YtgmagldbfajedaaBs
namespace Go.Proofs.Ytgmagldbfajedaa
open Go.RowKit

/-- What a plan is made for, as it lies ahead of the making. -/
structure MkEnv (w0 : World) (a : Option Addr) (len cap : Nat) (aC : Option Addr) (cC : Nat) (aB : Option Addr) (cB : Nat) (aO : Option Addr) (lO cO : Nat) (g : List Gr.Node) (s : List (List Int)) (room : Int) : Prop where
  n : Nodes w0 a len cap g
  c : CostsIn w0 aC len cC (Co.costs g s)
  b : Ints w0 aB len cB (Pl.bytesOf g s)
  o : Ints w0 aO lO cO (Od.ordOf g)
  hs : Gr.shapes g = some s
  room : 0 ≤ room ∧ room ≤ 1048576

theorem MkEnv.ord {w0 : World} {a : Option Addr} {len cap : Nat} {aC : Option Addr} {cC : Nat} {aB : Option Addr} {cB : Nat} {aO : Option Addr} {lO cO : Nat} {g : List Gr.Node} {s : List (List Int)} {room : Int}
    (h : MkEnv w0 a len cap aC cC aB cB aO lO cO g s room) (again : Bool) : Pl.OrdOk (Pl.planEnv g s room again) := Pl.ordOk (Pl.env_ok h.hs h.room again)

/-- The same making, by what it is made for. -/
abbrev MkS (w0 : World) (M : Nat) (a : Option Addr) (len cap : Nat) (aC : Option Addr) (cC : Nat) (aB : Option Addr) (cB : Nat) (aO : Option Addr) (lO cO : Nat) (room : Int) (again : Bool) (at_ : Int) (st : Pl.St) (w : World) : Prop :=
  MkSt w0 M (.slice a len cap) (.slice aC len cC) (.slice aB len cB) (.slice aO lO cO) room again at_ st w

theorem Pl.evict_no {E : Pl.Env} {nx : List Int} {st : Pl.St} {u : Int} (h : ¬ (0 ≤ Ev.at_ nx u ∧ hasB st.disk u = false ∧ E.ag u = false)) : Pl.evict1 E nx st u = Pl.dropS u st := by unfold Pl.evict1; rw [if_neg h]
theorem Pl.evict_yes {E : Pl.Env} {nx : List Int} {st : Pl.St} {u : Int} (h : 0 ≤ Ev.at_ nx u ∧ hasB st.disk u = false ∧ E.ag u = false) : Pl.evict1 E nx st u = Pl.dropS u (Pl.storeS u st) := by unfold Pl.evict1; rw [if_pos h]

/-- A contract that changes nothing, in every world in which blocks have been laid. -/
theorem Calls.regrown_same {P : Program} {f : FuncId} {args : Array Value} {w : World} {d : Nat} {os : Array Obj} {v : Value}
    (h : Calls P f args (Sort.grow (redrawn w d) os) fun e w' => e = .returned v ∧ Sort.grow (redrawn w d) os = w') : Calls P f args (Sort.grow (redrawn w d) os) fun e w'' => e = .returned v ∧ ∃ p : Regrown, w'' = Sort.grow (redrawn w p.d) p.os :=
  Calls.regrown_of (h.mono fun _ _ ⟨he, hw⟩ => ⟨he, hw ▸ Below.refl _ _⟩)

section
variable {w0 : World} {a : Option Addr} {len cap : Nat} {aC : Option Addr} {cC : Nat} {aB : Option Addr} {cB : Nat} {aO : Option Addr} {lO cO : Nat} {g : List Gr.Node} {s : List (List Int)} {room : Int} {M : Nat} {again : Bool} {st : Pl.St} {w : World}

set_option maxHeartbeats 4000000 in
set_option maxRecDepth 100000 in
theorem makes_any (HE : MkEnv w0 a len cap aC cC aB cB aO lO cO g s room) (at_ : Nat) (hat : at_ < lO) (v : Int) (hv : 0 ≤ v ∧ v < (len : Int)) (ap : Option Addr) (lp cp : Nat) (pinned : List Int)
    (H : MkS w0 M a len cap aC cC aB cB aO lO cO room again (at_ : Int) st w) (HP : IntsH M w ap lp cp pinned) (hsm : Pl.Small len st) (hlp : lp ≤ 1000000)
    (hlen : (Pl.makes (Pl.planEnv g s room again) (Od.next g (Od.ordOf g) ((at_ : Int) - 1)) v pinned st).1.l.length ≤ 100000) :
    Calls Try.prog 127 #[.pointer (some ⟨M, 0, none⟩), .int .i64 v, .slice ap lp cp] w fun e w' =>
      e = .returned (.bool (Pl.makes (Pl.planEnv g s room again) (Od.next g (Od.ordOf g) ((at_ : Int) - 1)) v pinned st).2) ∧
      MkS w0 M a len cap aC cC aB cB aO lO cO room again (at_ : Int) (Pl.makes (Pl.planEnv g s room again) (Od.next g (Od.ordOf g) ((at_ : Int) - 1)) v pinned st).1 w' ∧ Keep M w w' := by
  have hO := HE.ord again
  have hlg := HE.n.length
  have LN := Lib.hid hlg
  have hl1 : 1 ≤ len := by rw [← hlg]; exact hO.l1
  have hl2 : len ≤ 32 := by rw [← hlg]; exact hO.l2
  have hlo := HE.o.length
  have hlO2 : lO ≤ 32 := by rw [← hlo]; exact Nat.le_trans hO.len hO.l2
  have hNX : Od.nextO g (Od.ordOf g) ((at_ : Int) - 1) = some (Od.next g (Od.ordOf g) ((at_ : Int) - 1)) := if_pos ⟨hO.may, by omega, by rw [hlo]; omega⟩
  have HNX := Lib.hid hNX
  have hml : Pl.makes (Pl.planEnv g s room again) (Od.next g (Od.ordOf g) ((at_ : Int) - 1)) v pinned st =
    ((Ev.pickL st.inn (Pl.once pinned) (Pl.bytesOf g s) (Od.next g (Od.ordOf g) ((at_ : Int) - 1)) room (Ev.at_ (Pl.bytesOf g s) v)).foldl (Pl.evict1 (Pl.planEnv g s room again) (Od.next g (Od.ordOf g) ((at_ : Int) - 1))) st,
      decide (Ev.pickE st.inn (Pl.once pinned) (Pl.bytesOf g s) (Od.next g (Od.ordOf g) ((at_ : Int) - 1)) room (Ev.at_ (Pl.bytesOf g s) v) = 0)) := rfl
  have HLen : Hid (_ ≤ 100000) := hlen
  generalize Pl.makes (Pl.planEnv g s room again) (Od.next g (Od.ordOf g) ((at_ : Int) - 1)) v pinned st = R at *
  have HML := Lib.hid hml
  have KE := Lib.hid HE
  have KP := Lib.hid HP
  have KS := Lib.hid hsm
  have HN0 := Lib.hid H
  have hroom := HE.room
  have hlpc := HP.1.le
  have hlpc2 := HP.1.cap_le
  obtain ⟨ri, rd, rl, r1, r2, r3, r4, r5, r6, r7, r8⟩ := H.own
  obtain ⟨aI, lI, cI, rfl, hII, _⟩ := r4.ints (fun n hn => by have := hsm.ri n hn; omega)
  have HII := Lib.hid hII
  have hIle := hII.le
  have hIcl := hII.cap_le
  have hlIl := hII.length
  have hli2 : lI ≤ 100000 := by have h1 := hsm.i; have h2 : st.l.length ≤ R.1.l.length := (by rw [hml]; exact Pl.len_evicts _ _ _ _); have h3 := HLen.out; omega
  have hBd : Below w.heap.size w w.drew := (Below.refl _ _).drew
  have c0 := H.c0
  have c2 := H.c2
  have c3 := H.c3
  have c4 := H.c4
  have c6 := H.c6
  have hM := H.lt
  obtain ⟨n, rfl⟩ : ∃ n : Nat, v = (n : Int) := ⟨v.toNat, by omega⟩
  have hn : n < len := by omega
  have HBd := Lib.hid hBd
  clear HE HP hsm H hO hlg hlo hNX hml hlen hII r2 r3 r4 r5 r6 r7 r8 hlIl hBd hv
  have HR1 := Lib.hid r1
  clear r1
  go_enter Try.func127, Try.ntmps127
  go_wp2_with fail
  --P0
  refine wp_region_still_call 13 mixed (by kernel_rfl) ?_
  simp only [List.take_succ_cons, List.take_zero, List.getElem?_cons_succ, List.getElem?_cons_zero]
  repeat still_step
  refine wpStill_nil ?_
  intro KC hKC
  simp only [List.drop_succ_cons, List.drop_zero] at hKC
  --P1
  go_simp
  rw [show IntKind.i64.wrap ((at_ : Int) - 1) = (at_ : Int) - 1 from IntWalk.i64_in _ (by omega)]
  --P2
  refine (next_new a len cap g aO lO cO (Od.ordOf g) ((at_ : Int) - 1) _ (KE.out.n.on ((HN0.out.on HBd.out).bel)) (KE.out.o.below ((HN0.out.on HBd.out).bel)) (by omega) (by omega) (by omega)).mono ?_
  rintro e w1 ⟨hb, ⟨hs, _⟩ | ⟨nx, aN, lN, cN, hs, rfl, hI, hnew⟩⟩
  · rw [HNX.out] at hs; cases hs
  rw [HNX.out] at hs
  obtain rfl := Option.some.inj hs
  have HB1 : Hid (Below w.heap.size w w1) := HBd.out.trans hb
  have H1 := Lib.hid (HN0.out.on HB1.out)
  have HNI := Lib.hid (IntsH.fresh HN0.out HB1.out hI hnew)
  have hlN : lN = len := by rw [← hI.length, ← LN.out]; exact Od.next_length _ _ _
  subst hlN
  have HII1 := Lib.hid (HII.out.below HB1.out)
  have KP1 := Lib.hid (KP.out.on HN0.out.lt HB1.out)
  have hNcl := hI.cap_le
  have hNle := hI.le
  obtain ⟨bB, oB, eB, hbB, hcB⟩ := (KE.out.b.below H1.out.bel).at_ (by omega)
  subst eB
  have yb := hcB n hn
  have y2 := H1.out.c2
  have y4 := H1.out.c4
  have y7 := (HB1.out.cell (p := ⟨M, 7, none⟩) hM).trans HR1.out
  have HFS : Hid (∀ W, Below w1.heap.size w1 W → W.cell? ⟨M, 2, none⟩ = some (.slice (some ⟨bB, oB, none⟩) lN cB) ∧ W.cell? ⟨M, 4, none⟩ = some (.int .i64 room) ∧ W.cell? ⟨M, 7, none⟩ = some (.slice aI lI cI) ∧ W.cell? ⟨bB, oB + n, none⟩ = some (.int .i64 (nth (Pl.bytesOf g s) n))) :=
    fun W hW => ⟨below_keep hW y2, below_keep hW y4, below_keep hW y7, below_keep hW yb⟩
  have hbn := KE.out.b.nth_wf hn
  have HPW : Hid (∀ x ∈ Pl.once pinned, -9223372036854775808 ≤ x ∧ x ≤ 9223372036854775807) := fun x hx => KP1.out.1.wf x ((Pl.once_mem _ _).1 hx)
  have HBn : Hid (nth (Pl.bytesOf g s) n = Ev.at_ (Pl.bytesOf g s) (n : Int)) := rfl
  clear hb hs hI hnew hcB hbB c0 c2 c3 c4 c6
  refine hKC _ _ ?_
  clear hKC KC
  repeat still_step
  refine wpStill_nil ?_
  generalize Od.next g (Od.ordOf g) ((at_ : Int) - 1) = nx at *
  generalize hvn : nth (Pl.bytesOf g s) n = vn at *
  clear hvn
  go_wp2_with fail
  have HLI6 : Hid (lI ≤ 1000000) := Nat.le_trans hli2 (by decide)
  have HRO6 : Hid (-9223372036854775808 ≤ room ∧ room ≤ 9223372036854775807) := ⟨by omega, by omega⟩
  have HBN6 := Lib.hid hbn
  have HPK : Hid (∀ w5 ao lo5 co5, Below w1.heap.size w1 w5 → Ints w5 ao lo5 co5 (Pl.once pinned) → Calls Try.prog 28 #[.agg #[.slice aI lI cI, .slice ao lo5 co5, .int .i64 room], .slice (some ⟨bB, oB, none⟩) lN cB, .slice aN lN cN, .int .i64 vn] w5 (PickPost w5 (Ev.pickL st.inn (Pl.once pinned) (Pl.bytesOf g s) nx room vn) (Ev.pickE st.inn (Pl.once pinned) (Pl.bytesOf g s) nx room vn))) := fun w5 ao lo5 co5 HB5 hI5 =>
    pick_any aI ao (some ⟨bB, oB, none⟩) aN lI cI lo5 co5 lN cB lN cN st.inn (Pl.once pinned) (Pl.bytesOf g s) nx room vn w5 (HII1.out.below HB5) hI5 (KE.out.b.below (H1.out.on HB5).bel) (HNI.out.1.below HB5) HLI6.out HRO6.out HBN6.out
  --P3
  go_region_held3 (fun w' => w'.cell? ⟨M, 2, none⟩ = some (.slice (some ⟨bB, oB, none⟩) lN cB) ∧ w'.cell? ⟨M, 4, none⟩ = some (.int .i64 room) ∧ w'.cell? ⟨M, 7, none⟩ = some (.slice aI lI cI) ∧ w'.cell? ⟨bB, oB + n, none⟩ = some (.int .i64 vn))
    (first
      | with_reducible exact S6
      | with_reducible exact S5
      | go_keep)
    (first
      | (go_simp; go_at_call 142; refine (once_any ap lp cp pinned _ (KP1.out.1.below (Below.refl _ _).drew) hlp).mono ?_; rintro e w5 ⟨vo, rfl, hO5, hb5⟩; obtain ⟨ao, lo5, co5, rfl, hI5, _⟩ := hO5.ints HPW.out; have HB5 := (Below.refl w1.heap.size w1).drew.trans hb5; have S5 := HFS.out _ HB5)
      | (go_simp; go_at_call 28; refine (HPK.out _ _ _ _ HB5 hI5).mono ?_; rintro e w6 ⟨aL, lL, cL, rfl, hL, hb6, hNew⟩; have HB6 := HB5.trans (hb6.mono HB5.size); have S6 := HFS.out _ HB6))
  --P4
  have HB6' := Lib.hid HB6
  have H5 := H1.out.on HB5
  have H6 := Lib.hid (H1.out.on HB6)
  have HL6 := Lib.hid (IntsH.fresh H5 hb6 hL (fun p hp => by
    rcases hNew with ⟨h1, _⟩ | ⟨q, h1, h2, _⟩
    · rw [h1] at hp; cases hp
    · rw [h1] at hp; cases hp; exact h2))
  have HNX6 := Lib.hid (HNI.out.on H1.out.lt HB6)
  have HK6 : Hid (Keep M w w6) := Keep.of_below HN0.out.lt (HB1.out.trans (HB6.mono HB1.out.size))
  have hLle := hL.le
  have hLcl := hL.cap_le
  have HLL := Lib.hid hL.length
  have hME : R = ((Ev.pickL st.inn (Pl.once pinned) (Pl.bytesOf g s) nx room vn).foldl (Pl.evict1 (Pl.planEnv g s room again) nx) st, decide (Ev.pickE st.inn (Pl.once pinned) (Pl.bytesOf g s) nx room vn = 0)) := by rw [HBn.out]; exact HML.out
  have HME := Lib.hid hME
  have HUR : Hid (∀ u ∈ Ev.pickL st.inn (Pl.once pinned) (Pl.bytesOf g s) nx room vn, 0 ≤ u ∧ u < (lN : Int)) := fun u hu => KS.out.ri u (Ev.pickL_mem hu).1
  clear hME HML HB6 HB5 S5 S6 hb5 hb6 hI5 hO5 hL hNew H5 HFS y2 y4 y7 yb HBn
  generalize Ev.pickL st.inn (Pl.once pinned) (Pl.bytesOf g s) nx room vn = L at *
  generalize Ev.pickE st.inn (Pl.once pinned) (Pl.bytesOf g s) nx room vn = E at *
  go_wp2
  --P5
  go_loopg [59] lL (fun gg i wr => ∃ (k : Nat) (st' : Pl.St), k ≤ lL ∧ lL - k ≤ gg ∧ i = .int .i64 k ∧ Hid (MkS w0 M a lN cap aC cC (some ⟨bB, oB, none⟩) cB aO lO cO room again (at_ : Int) st' wr) ∧ Hid (Keep M w6 wr) ∧ Hid ((L.drop k).foldl (Pl.evict1 (Pl.planEnv g s room again) nx) st' = R.1) ∧ Hid (Pl.Small lN st'))
  case atStart => exact ⟨0, st, Nat.zero_le _, by omega, rfl, H6, Keep.refl _ _, by show _ = _; rw [HME.out]; rfl, KS⟩
  case round =>
    obtain ⟨k, st', hk, hg, rfl, HM, HK, HF, HSM⟩ := hrel
    by_cases hlt : k < lL
    · have dlt : decide ((k : Int) < (lL : Int)) = true := decide_eq_true (by omega)
      have hkL : k < L.length := by rw [HLL.out]; exact hlt
      obtain ⟨hu0, hu1⟩ := HUR.out (nth L k) (nth_mem L k hkL)
      have HST := HF
      rw [Pl.drop_nth hkL, List.foldl_cons] at HST
      have hll : st'.l.length ≤ 100000 := by have h1 := Pl.len_evicts (Pl.planEnv g s room again) nx (L.drop k) st'; rw [HF.out] at h1; exact Nat.le_trans h1 HLen.out
      have HSMn : Hid (Pl.Small lN (Pl.evict1 (Pl.planEnv g s room again) nx st' (nth L k))) := (Pl.grew_evict (n := lN) (Pl.planEnv g s room again) nx st' (nth L k) ⟨hu0, hu1⟩).1 HSM.out
      have HLr := Lib.hid (HL6.out.keep HK.out)
      obtain ⟨bL, oL, rfl, _, hcL⟩ := HLr.out.1.at_ (by omega)
      have kL := hcL k hlt
      clear hcL hkL
      generalize nth L k = u at *
      obtain ⟨m, rfl⟩ : ∃ m : Nat, u = (m : Int) := ⟨u.toNat, by omega⟩
      have hm : m < lN := by omega
      obtain ⟨bN, oN, rfl, _, hcN⟩ := (HNX6.out.keep HK.out).1.at_ (by omega)
      have k0 := Go.cell_regrown (hcN m hm)
      have hdl := HSM.out.d
      obtain ⟨qi, qd, ql, q1, q2, q3, q4, q5, q6, q7, q8⟩ := HM.out.own
      obtain ⟨aD, lD, cD, rfl, hID, _⟩ := q5.ints (fun n hn => by have := HSM.out.rd n hn; omega)
      have HID := Lib.hid hID
      have k1 := Go.cell_regrown q2
      have k2 := Go.cell_regrown HM.out.c5
      have k3 := Go.cell_regrown HM.out.c0
      have k4 := Go.cell_regrown HM.out.c1
      have hDcl := hID.cap_le
      have hDle := hID.le
      have hdl2 : st'.disk.length ≤ 200000 := by omega
      obtain ⟨b1, hb1⟩ : ∃ b, decide (nth nx m ≥ 0) = b := ⟨_, rfl⟩
      obtain ⟨b2, hb2⟩ : ∃ b, hasB st'.disk (m : Int) = b := ⟨_, rfl⟩
      obtain ⟨b4, hb4⟩ : ∃ b, Pl.againB g (Co.costs g s) (m : Int) = b := ⟨_, rfl⟩
      have HD1 : Hid (decide (0 ≤ Ev.at_ nx (m : Int)) = b1) := hb1
      have HD2 := Lib.hid hb2
      have HD4 := Lib.hid hb4
      have HCC : Hid (∀ d os, Calls Try.prog 61 #[.slice aD lD cD, .int .i64 (m : Int)] (Sort.grow (redrawn wr d) os) fun e w'' => e = .returned (.bool b2) ∧ ∃ p : Regrown, w'' = Sort.grow (redrawn wr p.d) p.os) := fun d os => by
        rw [← hb2]; exact Calls.regrown_same (contains_any _ _ _ _ (m : Int) _ (HID.out.below (below_regrown wr d os)))
      have HCA : Hid (∀ d os, Calls Try.prog 52 #[.agg #[.slice a lN cap], .slice aC lN cC, .int .i64 (m : Int)] (Sort.grow (redrawn wr d) os) fun e w'' => e = .returned (.bool b4) ∧ ∃ p : Regrown, w'' = Sort.grow (redrawn wr p.d) p.os) := fun d os => by
        rw [← hb4]
        have HB := (HM.out.on (below_regrown wr d os)).bel
        exact Calls.regrown_of (again_any a lN cap g aC cC (Co.costs g s) (m : Int) _ (KE.out.n.on HB) (KE.out.c.below HB) (by rw [KE.out.hs]; rfl) (by omega) (by omega))
      clear hb2 hb4 hID hcN q1 q2 q3 q4 q5 q6 q7 q8 hu0 hu1
      generalize nth nx m = nm at *
      cases b1 with
      | false =>
        have HEV : Hid (Pl.evict1 (Pl.planEnv g s room again) nx st' (m : Int) = Pl.dropS (m : Int) st') := Pl.evict_no (E := Pl.planEnv g s room again) (fun h => by have := decide_eq_false_iff_not.1 HD1.out; exact this h.1)
        rw [HEV.out] at HST HSMn

        go_wp2_with fail
        refine wp_region_quiet_below mixed (by kernel_rfl) ?_
        repeat (go_big_quiet_step (first | exact HCC.out _ _ | exact HCA.out _ _))
        refine wpQuiet_nil ?_
        intro _ hw'
        obtain ⟨⟨dq, osq⟩, hw''⟩ := hw'
        subst hw''
        have HBq := Lib.hid (below_regrown wr dq osq)
        have HMq := Lib.hid (HM.out.on HBq.out)
        have HKq := Lib.hid (HK.out.trans (Keep.of_below HM.out.lt HBq.out))
        clear HCC HCA k0 k1 k2 k3 k4
        generalize Sort.grow (redrawn wr dq) osq = wq at *

        go_wp2_with (go_at_call 129; refine (drop_any (m : Int) HMq.out (by omega)).mono ?_; rintro e w9 ⟨rfl, hM9, hK9⟩)
        have HM9 := Lib.hid hM9
        have HK9 := Lib.hid (HKq.out.trans hK9)
        clear hM9 hK9
        go_wp2
        go_roundg (lL - (k + 1))
        case measure => exact Nat.lt_of_lt_of_le (Nat.sub_lt_sub_left hlt (Nat.lt_succ_self k)) hg
        case rel => exact ⟨k + 1, _, Nat.succ_le_of_lt hlt, Nat.le_refl _, by go_num, HM9, HK9, HST, HSMn⟩
      | true =>
        cases b2 with
        | true =>
          have HEV : Hid (Pl.evict1 (Pl.planEnv g s room again) nx st' (m : Int) = Pl.dropS (m : Int) st') := Pl.evict_no (E := Pl.planEnv g s room again) (fun h => by have := h.2.1; rw [HD2.out] at this; cases this)
          rw [HEV.out] at HST HSMn

          go_wp2_with fail
          refine wp_region_quiet_below mixed (by kernel_rfl) ?_
          repeat (go_big_quiet_step (first | exact HCC.out _ _ | exact HCA.out _ _))
          refine wpQuiet_nil ?_
          intro _ hw'
          obtain ⟨⟨dq, osq⟩, hw''⟩ := hw'
          subst hw''
          have HBq := Lib.hid (below_regrown wr dq osq)
          have HMq := Lib.hid (HM.out.on HBq.out)
          have HKq := Lib.hid (HK.out.trans (Keep.of_below HM.out.lt HBq.out))
          clear HCC HCA k0 k1 k2 k3 k4
          generalize Sort.grow (redrawn wr dq) osq = wq at *

          go_wp2_with (go_at_call 129; refine (drop_any (m : Int) HMq.out (by omega)).mono ?_; rintro e w9 ⟨rfl, hM9, hK9⟩)
          have HM9 := Lib.hid hM9
          have HK9 := Lib.hid (HKq.out.trans hK9)
          clear hM9 hK9
          go_wp2
          go_roundg (lL - (k + 1))
          case measure => exact Nat.lt_of_lt_of_le (Nat.sub_lt_sub_left hlt (Nat.lt_succ_self k)) hg
          case rel => exact ⟨k + 1, _, Nat.succ_le_of_lt hlt, Nat.le_refl _, by go_num, HM9, HK9, HST, HSMn⟩
        | false =>
          cases again with
          | true =>
            cases b4 with
            | true =>
              have HEV : Hid (Pl.evict1 (Pl.planEnv g s room true) nx st' (m : Int) = Pl.dropS (m : Int) st') := Pl.evict_no (E := Pl.planEnv g s room true) (fun h => by have h2 : (true && Pl.againB g (Co.costs g s) (m : Int)) = false := h.2.2; rw [HD4.out] at h2; cases h2)
              rw [HEV.out] at HST HSMn

              go_wp2_with fail
              refine wp_region_quiet_below mixed (by kernel_rfl) ?_
              repeat (go_big_quiet_step (first | exact HCC.out _ _ | exact HCA.out _ _))
              refine wpQuiet_nil ?_
              intro _ hw'
              obtain ⟨⟨dq, osq⟩, hw''⟩ := hw'
              subst hw''
              have HBq := Lib.hid (below_regrown wr dq osq)
              have HMq := Lib.hid (HM.out.on HBq.out)
              have HKq := Lib.hid (HK.out.trans (Keep.of_below HM.out.lt HBq.out))
              clear HCC HCA k0 k1 k2 k3 k4
              generalize Sort.grow (redrawn wr dq) osq = wq at *

              go_wp2_with (go_at_call 129; refine (drop_any (m : Int) HMq.out (by omega)).mono ?_; rintro e w9 ⟨rfl, hM9, hK9⟩)
              have HM9 := Lib.hid hM9
              have HK9 := Lib.hid (HKq.out.trans hK9)
              clear hM9 hK9
              go_wp2
              go_roundg (lL - (k + 1))
              case measure => exact Nat.lt_of_lt_of_le (Nat.sub_lt_sub_left hlt (Nat.lt_succ_self k)) hg
              case rel => exact ⟨k + 1, _, Nat.succ_le_of_lt hlt, Nat.le_refl _, by go_num, HM9, HK9, HST, HSMn⟩
            | false =>
              have HEV : Hid (Pl.evict1 (Pl.planEnv g s room true) nx st' (m : Int) = Pl.dropS (m : Int) (Pl.storeS (m : Int) st')) := Pl.evict_yes (E := Pl.planEnv g s room true) ⟨of_decide_eq_true HD1.out, HD2.out, by show (true && Pl.againB g (Co.costs g s) (m : Int)) = false; rw [HD4.out]; rfl⟩
              rw [HEV.out] at HST HSMn

              go_wp2_with fail
              refine wp_region_quiet_below mixed (by kernel_rfl) ?_
              repeat (go_big_quiet_step (first | exact HCC.out _ _ | exact HCA.out _ _))
              refine wpQuiet_nil ?_
              intro _ hw'
              obtain ⟨⟨dq, osq⟩, hw''⟩ := hw'
              subst hw''
              have HBq := Lib.hid (below_regrown wr dq osq)
              have HMq := Lib.hid (HM.out.on HBq.out)
              have HKq := Lib.hid (HK.out.trans (Keep.of_below HM.out.lt HBq.out))
              clear HCC HCA k0 k1 k2 k3 k4
              generalize Sort.grow (redrawn wr dq) osq = wq at *
              obtain ⟨qi, qd, ql, q1, q2, q3, q4, q5, q6, q7, q8⟩ := HMq.out.own
              obtain ⟨aY, nY, cY, rfl⟩ := ownsRow_slice (Classical.choose_spec q6).1
              obtain ⟨aX, nX, cX, rfl⟩ := ownsRow_slice (show wq.ownsRow (M + 1) 3 1 qd st'.disk.length (st'.disk.map (Value.int .i64)) from q5)
              have HT0 : Hid (Two M wq (.slice aY nY cY) (.slice aX nX cX) wq.drew (.slice aY nY cY) st'.l (.slice aX nX cX) st'.disk) :=
                ⟨q6.keep (fun _ _ => rfl), q5.keep (fun _ _ => rfl), (Below.refl _ _).drew, fun _ _ _ _ => rfl, .inl rfl, .inl rfl, q8, Nat.le_refl _, HMq.out.lt⟩
              have HOY : Hid (∀ k, (Value.slice aY nY cY).ownBlock = some k → k < wq.heap.size) := fun k hk => (q6.lt k hk).2
              have HOX : Hid (∀ k, (Value.slice aX nX cX).ownBlock = some k → k < wq.heap.size) := fun k hk => (Own.lt q5 k hk).2
              have HQ3 := Lib.hid q3
              have HQ2 := Lib.hid q2
              clear q1 q2 q3 q4 q5 q6 q7 q8
              go_wp2_with fail
              refine store_region (M := M) (wq := wq) (Y := .slice aY nY cY) (X := .slice aX nX cX) (l := st'.l) (d := st'.disk) (m := (m : Int)) ⟨rfl, ⟨_, rfl, rfl, rfl, by kernel_rfl⟩, ⟨_, rfl, rfl, rfl, by kernel_rfl⟩, ⟨_, rfl, rfl, rfl, by kernel_rfl⟩, ⟨_, rfl, rfl, rfl, by kernel_rfl⟩, ⟨_, rfl, rfl, rfl, by kernel_rfl⟩, ⟨_, rfl, rfl, rfl, by kernel_rfl⟩, ⟨_, rfl, rfl, rfl, by kernel_rfl⟩, ⟨_, rfl, rfl, rfl, by kernel_rfl⟩, ⟨_, rfl, rfl, rfl, by kernel_rfl⟩, ⟨_, rfl, rfl, rfl, by kernel_rfl⟩, ⟨_, rfl, rfl, rfl, by kernel_rfl⟩, ⟨_, rfl, rfl, rfl, by kernel_rfl⟩, ⟨_, rfl, rfl, rfl, by kernel_rfl⟩, ⟨_, rfl, rfl, rfl, by kernel_rfl⟩, ⟨_, rfl, rfl, rfl, by kernel_rfl⟩, ⟨_, rfl, rfl, rfl, by kernel_rfl⟩, ⟨_, rfl, rfl, rfl, by kernel_rfl⟩, ⟨_, rfl, rfl, rfl, by kernel_rfl⟩, ⟨_, rfl, rfl, rfl, by kernel_rfl⟩, ⟨_, rfl, rfl, rfl, by kernel_rfl⟩, ⟨_, rfl, rfl, rfl, by kernel_rfl⟩, ⟨_, rfl, rfl, rfl, by kernel_rfl⟩, ⟨_, rfl, rfl, rfl, by kernel_rfl⟩⟩ rfl (by kernel_rfl) rfl rfl HT0.out HOY.out HOX.out HQ3.out HQ2.out (HMq.out.fr 9 (by decide)) (HMq.out.fr 8 (by decide)) (Nat.le_trans hll (by decide)) (Nat.le_trans hdl2 (by decide)) ?_
              intro pV v q u W TF
              obtain ⟨aV, nV, cV, rfl⟩ := ownsRow_slice (Classical.choose_spec TF.ol).1
              obtain ⟨aU, nU, cU, rfl⟩ := ownsRow_slice (show W.ownsRow (M + 1) 3 1 u _ _ from TF.od)
              obtain ⟨hMp, hKp⟩ := HMq.out.putLD HQ3.out HQ2.out TF.ol TF.od TF.b TF.kp TF.bl TF.bd TF.dis TF.size
              have HMp := Lib.hid hMp
              have HKp := Lib.hid (HKq.out.trans hKp)
              have hle8 : (Pl.storeS (m : Int) st').l.length ≤ 1000000 := by simp [Pl.storeS]; omega
              clear hMp hKp TF HMq HKq
              generalize ((W.setCell ⟨M, 9, none⟩ _).setCell ⟨M, 8, none⟩ _) = wp at *
              simp only [putsK, dstAt, finS, constS, List.getElem?_cons_succ, List.getElem?_cons_zero, Option.bind_some, Option.getD_some]
              --R8

              go_wp2_with (go_at_call 129; refine (drop_any (m : Int) HMp.out hle8).mono ?_; rintro e w9 ⟨rfl, hM9, hK9⟩)
              have HM9 := Lib.hid hM9
              have HK9 := Lib.hid (HKp.out.trans hK9)
              clear hM9 hK9
              go_wp2
              go_roundg (lL - (k + 1))
              case measure => exact Nat.lt_of_lt_of_le (Nat.sub_lt_sub_left hlt (Nat.lt_succ_self k)) hg
              case rel => exact ⟨k + 1, _, Nat.succ_le_of_lt hlt, Nat.le_refl _, by go_num, HM9, HK9, HST, HSMn⟩
          | false =>
            have HEV : Hid (Pl.evict1 (Pl.planEnv g s room false) nx st' (m : Int) = Pl.dropS (m : Int) (Pl.storeS (m : Int) st')) := Pl.evict_yes (E := Pl.planEnv g s room false) ⟨of_decide_eq_true HD1.out, HD2.out, rfl⟩
            rw [HEV.out] at HST HSMn

            go_wp2_with fail
            refine wp_region_quiet_below mixed (by kernel_rfl) ?_
            repeat (go_big_quiet_step (first | exact HCC.out _ _ | exact HCA.out _ _))
            refine wpQuiet_nil ?_
            intro _ hw'
            obtain ⟨⟨dq, osq⟩, hw''⟩ := hw'
            subst hw''
            have HBq := Lib.hid (below_regrown wr dq osq)
            have HMq := Lib.hid (HM.out.on HBq.out)
            have HKq := Lib.hid (HK.out.trans (Keep.of_below HM.out.lt HBq.out))
            clear HCC HCA k0 k1 k2 k3 k4
            generalize Sort.grow (redrawn wr dq) osq = wq at *
            obtain ⟨qi, qd, ql, q1, q2, q3, q4, q5, q6, q7, q8⟩ := HMq.out.own
            obtain ⟨aY, nY, cY, rfl⟩ := ownsRow_slice (Classical.choose_spec q6).1
            obtain ⟨aX, nX, cX, rfl⟩ := ownsRow_slice (show wq.ownsRow (M + 1) 3 1 qd st'.disk.length (st'.disk.map (Value.int .i64)) from q5)
            have HT0 : Hid (Two M wq (.slice aY nY cY) (.slice aX nX cX) wq.drew (.slice aY nY cY) st'.l (.slice aX nX cX) st'.disk) :=
              ⟨q6.keep (fun _ _ => rfl), q5.keep (fun _ _ => rfl), (Below.refl _ _).drew, fun _ _ _ _ => rfl, .inl rfl, .inl rfl, q8, Nat.le_refl _, HMq.out.lt⟩
            have HOY : Hid (∀ k, (Value.slice aY nY cY).ownBlock = some k → k < wq.heap.size) := fun k hk => (q6.lt k hk).2
            have HOX : Hid (∀ k, (Value.slice aX nX cX).ownBlock = some k → k < wq.heap.size) := fun k hk => (Own.lt q5 k hk).2
            have HQ3 := Lib.hid q3
            have HQ2 := Lib.hid q2
            clear q1 q2 q3 q4 q5 q6 q7 q8
            go_wp2_with fail
            refine store_region (M := M) (wq := wq) (Y := .slice aY nY cY) (X := .slice aX nX cX) (l := st'.l) (d := st'.disk) (m := (m : Int)) ⟨rfl, ⟨_, rfl, rfl, rfl, by kernel_rfl⟩, ⟨_, rfl, rfl, rfl, by kernel_rfl⟩, ⟨_, rfl, rfl, rfl, by kernel_rfl⟩, ⟨_, rfl, rfl, rfl, by kernel_rfl⟩, ⟨_, rfl, rfl, rfl, by kernel_rfl⟩, ⟨_, rfl, rfl, rfl, by kernel_rfl⟩, ⟨_, rfl, rfl, rfl, by kernel_rfl⟩, ⟨_, rfl, rfl, rfl, by kernel_rfl⟩, ⟨_, rfl, rfl, rfl, by kernel_rfl⟩, ⟨_, rfl, rfl, rfl, by kernel_rfl⟩, ⟨_, rfl, rfl, rfl, by kernel_rfl⟩, ⟨_, rfl, rfl, rfl, by kernel_rfl⟩, ⟨_, rfl, rfl, rfl, by kernel_rfl⟩, ⟨_, rfl, rfl, rfl, by kernel_rfl⟩, ⟨_, rfl, rfl, rfl, by kernel_rfl⟩, ⟨_, rfl, rfl, rfl, by kernel_rfl⟩, ⟨_, rfl, rfl, rfl, by kernel_rfl⟩, ⟨_, rfl, rfl, rfl, by kernel_rfl⟩, ⟨_, rfl, rfl, rfl, by kernel_rfl⟩, ⟨_, rfl, rfl, rfl, by kernel_rfl⟩, ⟨_, rfl, rfl, rfl, by kernel_rfl⟩, ⟨_, rfl, rfl, rfl, by kernel_rfl⟩, ⟨_, rfl, rfl, rfl, by kernel_rfl⟩⟩ rfl (by kernel_rfl) rfl rfl HT0.out HOY.out HOX.out HQ3.out HQ2.out (HMq.out.fr 9 (by decide)) (HMq.out.fr 8 (by decide)) (Nat.le_trans hll (by decide)) (Nat.le_trans hdl2 (by decide)) ?_
            intro pV v q u W TF
            obtain ⟨aV, nV, cV, rfl⟩ := ownsRow_slice (Classical.choose_spec TF.ol).1
            obtain ⟨aU, nU, cU, rfl⟩ := ownsRow_slice (show W.ownsRow (M + 1) 3 1 u _ _ from TF.od)
            obtain ⟨hMp, hKp⟩ := HMq.out.putLD HQ3.out HQ2.out TF.ol TF.od TF.b TF.kp TF.bl TF.bd TF.dis TF.size
            have HMp := Lib.hid hMp
            have HKp := Lib.hid (HKq.out.trans hKp)
            have hle8 : (Pl.storeS (m : Int) st').l.length ≤ 1000000 := by simp [Pl.storeS]; omega
            clear hMp hKp TF HMq HKq
            generalize ((W.setCell ⟨M, 9, none⟩ _).setCell ⟨M, 8, none⟩ _) = wp at *
            simp only [putsK, dstAt, finS, constS, List.getElem?_cons_succ, List.getElem?_cons_zero, Option.bind_some, Option.getD_some]
            --R8

            go_wp2_with (go_at_call 129; refine (drop_any (m : Int) HMp.out hle8).mono ?_; rintro e w9 ⟨rfl, hM9, hK9⟩)
            have HM9 := Lib.hid hM9
            have HK9 := Lib.hid (HKp.out.trans hK9)
            clear hM9 hK9
            go_wp2
            go_roundg (lL - (k + 1))
            case measure => exact Nat.lt_of_lt_of_le (Nat.sub_lt_sub_left hlt (Nat.lt_succ_self k)) hg
            case rel => exact ⟨k + 1, _, Nat.succ_le_of_lt hlt, Nat.le_refl _, by go_num, HM9, HK9, HST, HSMn⟩
    · have dlt : decide ((k : Int) < (lL : Int)) = false := decide_eq_false (by omega)
      rw [List.drop_of_length_le (by rw [HLL.out]; omega), List.foldl_nil] at HF
      obtain ⟨bE, hbE⟩ : ∃ b, decide (E = 0) = b := ⟨_, rfl⟩
      have HR2 : Hid (R.2 = (E == 0)) := by show _ = _; rw [HME.out]; rfl
      clear hbE
      go_wp2
      go_ret
      refine ⟨by rw [HR2.out]; rfl, by rw [← HF.out]; exact HM.out, HK6.out.trans HK.out⟩
end
end Go.Proofs.Ytgmagldbfajedaa
