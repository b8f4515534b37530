/-
  plans.(*making).brings: contract brings_any, by induction on how deep.
-/
import Derived.Test.YtgmagldbfajedaaPlOther
import Derived.Test.YtgmagldbfajedaaPlBrL
namespace Go.Proofs.Ytgmagldbfajedaa
open Go.RowKit

section
variable {w0 : World} {a : Option Addr} {len cap : Nat} {aC : Option Addr} {cC : Nat} {aB : Option Addr} {cB : Nat} {aO : Option Addr} {lO cO : Nat} {g : List Gr.Node} {s : List (List Int)} {room : Int} {M : Nat} {again : Bool}

theorem own_fresh {vg vc vb vo : Value} {at_ : Int} {st : Pl.St} {w W : World} (H : MkSt w0 M vg vc vb vo room again at_ st w) (hb : Below w.heap.size w W) {a : Option Addr} {len cap : Nat} {l : List Int} (hI : Ints W a len cap l)
    (hor : (a = none ∧ len = 0 ∧ cap = 0) ∨ ∃ g, a = some ⟨g, 0, none⟩ ∧ w.heap.size ≤ g ∧ g < W.heap.size ∧ ∀ i, i < cap → W.frozen? ⟨g, i, none⟩ = false ∧ ∃ u, W.cell? ⟨g, i, none⟩ = some u) : IntsH M W a len cap l :=
  IntsH.fresh H hb hI (fun p hp => by
    rcases hor with ⟨h1, _⟩ | ⟨q, h1, h2, _⟩
    · rw [h1] at hp; cases hp
    · rw [h1] at hp; cases hp; exact h2)

set_option maxHeartbeats 1500000 in
set_option maxRecDepth 100000 in
theorem brings_any (HE : MkEnv w0 a len cap aC cC aB cB aO lO cO g s room) (at_ : Nat) (hat : at_ < lO) : ∀ (f : Nat) (v : Nat) (ap : Option Addr) (lp cp : Nat) (pinned : List Int) (st : Pl.St) (w : World), v < f → v < len →
    MkS w0 M a len cap aC cC aB cB aO lO cO room again (at_ : Int) st w → IntsH M w ap lp cp pinned → lp + 5 * f ≤ 1000 → Pl.Small len st →
    (Pl.brings (Pl.planEnv g s room again) (Od.next g (Od.ordOf g) ((at_ : Int) - 1)) f (v : Int) pinned st).1.l.length ≤ 100000 →
    Calls Try.prog 126 #[.pointer (some ⟨M, 0, none⟩), .int .i64 (v : Int), .slice ap lp cp] w fun e w' =>
      e = .returned (.bool (Pl.brings (Pl.planEnv g s room again) (Od.next g (Od.ordOf g) ((at_ : Int) - 1)) f (v : Int) pinned st).2) ∧
      MkS w0 M a len cap aC cC aB cB aO lO cO room again (at_ : Int) (Pl.brings (Pl.planEnv g s room again) (Od.next g (Od.ordOf g) ((at_ : Int) - 1)) f (v : Int) pinned st).1 w' ∧ Keep M w w' := by
  intro f
  induction f with
  | zero => intro v ap lp cp pinned st w h; omega
  | succ f ih =>
    intro v ap lp cp pinned st w hvf hvl H HP hlp hsm hlen
    have IH := Lib.hid ih
    clear ih
    have hO := HE.ord again
    have hlg := HE.n.length
    have LN := Lib.hid hlg
    have hl2 : len ≤ 32 := by rw [← hlg]; exact hO.l2
    have HIO : Hid (Od.InnOk g g.length) := hO.io
    have HMK := Lib.hid (fun (v : Int) (hv : 0 ≤ v ∧ v < (len : Int)) ap lp cp pinned st w (H : MkS w0 M a len cap aC cC aB cB aO lO cO room again (at_ : Int) st w) (HP : IntsH M w ap lp cp pinned) (hsm : Pl.Small len st) (hlp : lp ≤ 1000000) hlen => makes_any HE at_ hat v hv ap lp cp pinned H HP hsm hlp hlen)
    have HGB : Hid (∀ (u : Int) p st, 0 ≤ u ∧ u < (len : Int) → Pl.Grew len st (Pl.brings (Pl.planEnv g s room again) (Od.next g (Od.ordOf g) ((at_ : Int) - 1)) f u p st).1) := fun u p st hu => by
      have := Pl.grew_brings (E := Pl.planEnv g s room again) hO.io (Od.next g (Od.ordOf g) ((at_ : Int) - 1)) f u p st (by show 0 ≤ u ∧ u < (g.length : Int); rw [hlg]; exact hu)
      rw [← hlg]; exact this
    have HRI : Hid (∀ u ∈ Pl.once (nodeN g v).inn, 0 ≤ u ∧ u < (v : Int)) := fun u hu => (hO.io v (by show v < g.length; omega)).2 u ((Pl.once_mem _ _).1 hu)
    have hil : (nodeN g v).inn.length ≤ 4 := (hO.io v (by show v < g.length; omega)).1
    have hEq := Pl.brings_eq (E := Pl.planEnv g s room again) (Od.next g (Od.ordOf g) ((at_ : Int) - 1)) f (v : Int) pinned st
    rw [show (Pl.planEnv g s room again).g = g from rfl, Int.toNat_natCast] at hEq
    have HLen := Lib.hid hlen
    generalize Pl.brings (Pl.planEnv g s room again) (Od.next g (Od.ordOf g) ((at_ : Int) - 1)) (f + 1) (v : Int) pinned st = R at *
    have HEQ := Lib.hid hEq
    have KE := Lib.hid HE
    have KP := Lib.hid HP
    have KS := Lib.hid hsm
    have HN0 := Lib.hid H
    have hM := H.lt
    have hlpc := HP.1.le
    have hlpc2 := HP.1.cap_le
    have HLP := Lib.hid hlp
    have c0 := H.c0
    obtain ⟨b, off, ai, li, ci, sa, ls, cs, rfl, _, n0, n1, n2, n3, n4, hV⟩ := (HE.n.on H.bel).get (Below.refl _ w) hvl
    have HV := Lib.hid hV.i
    have hvc := hV.i.le
    have hvc2 := hV.i.cap_le
    have hli : li ≤ 4 := by rw [← hV.i.length]; exact hil
    clear HE HP hsm H hO hlen hEq n0 n2 n3 n4 hV hlp hlg hil
    go_enter Try.func126, Try.ntmps126
    go_wp2_with fail
    refine (once_any ai li ci _ _ HV.out (by omega)).mono ?_
    rintro e w1 ⟨vo, rfl, hO1, hb1⟩
    obtain ⟨aN, lN, cN, rfl, hI1, hor1⟩ := hO1.ints (fun n hn => HV.out.wf n ((Pl.once_mem _ _).1 hn))
    have HB1 := Lib.hid hb1
    have H1 := Lib.hid (HN0.out.on hb1)
    have HI1 := Lib.hid (own_fresh HN0.out hb1 hI1 hor1)
    have KP1 := Lib.hid (KP.out.on hM hb1)
    have hNle := hI1.le
    have hNcl := hI1.cap_le
    have HNL := Lib.hid hI1.length
    have hlN : lN ≤ 4 := by rw [← hI1.length]; exact Nat.le_trans (Pl.once_length _) (by rw [HV.out.length]; exact hli)
    have hB2 : Below w1.heap.size w1 (w1.alloc (.cells #[.int .i64 (v : Int)] 3)) := (Below.refl _ _).alloc (Nat.le_refl _) _
    have HB2 := Lib.hid hB2
    have hz2 : (w1.alloc (.cells #[.int .i64 (v : Int)] 3)).heap.size = w1.heap.size + 1 := by simp
    have HGR := Lib.hid (grid_three (W := w1.alloc (.cells #[.int .i64 (v : Int)] 3)) (KP1.out.1.below hB2) (ints_lits w1 _ [(v : Int)] rfl (by simp) (by simp; omega)) (hI1.below hB2) 22)
    rw [hz2] at HGR
    have HB3 : Hid (Below w1.heap.size w1 ((w1.alloc (.cells #[.int .i64 (v : Int)] 3)).alloc (.cells #[.slice ap lp cp, .slice (some ⟨w1.heap.size, 0, none⟩) 1 1, .slice aN lN cN] 22))) := hB2.alloc hB2.size _
    have hfl : [pinned, [(v : Int)], Pl.once (nodeN g v).inn].flatten.length = lp + 1 + lN := by simp [KP.out.1.length, HNL.out]; omega
    have HFL := Lib.hid hfl
    clear hO1 hb1 hI1 hor1 hB2 n1 c0 hz2 hfl
    go_wp2_with fail
    --P1
    refine (concat_any _ 3 3 _ _ HGR.out (by rw [HFL.out]; omega) (by rw [HFL.out]; have := HLP.out; omega) (by omega)).mono ?_
    rintro e w3 ⟨vp, rfl, hO3, hb3⟩
    obtain ⟨aQ, lQ, cQ, rfl, hI3, hor3⟩ := hO3.ints (fun n hn => by
      simp only [List.flatten_cons, List.flatten_nil, List.append_nil, List.mem_append, List.mem_cons, List.not_mem_nil, or_false] at hn
      rcases hn with h | h | h
      · exact KP.out.1.wf n h
      · subst h; omega
      · exact HI1.out.1.wf n h)
    have HBw3 : Hid (Below w1.heap.size w1 w3) := HB3.out.trans (hb3.mono HB3.out.size)
    have HI3 := Lib.hid (own_fresh (H1.out.on HB3.out) hb3 hI3 hor3)
    have hPE : [pinned, [(v : Int)], Pl.once (nodeN g v).inn].flatten = pinned ++ [(v : Int)] ++ Pl.once (nodeN g v).inn := by simp
    rw [hPE] at HI3
    have hlQ : lQ = lp + 1 + lN := by rw [← hI3.length]; exact HFL.out
    have hlQ2 : lQ ≤ lp + 5 := by omega
    have hlQ1 : 1 ≤ lQ := by omega
    clear hlQ
    have hQle := hI3.le
    have hQcl := hI3.cap_le
    have H3 := Lib.hid (H1.out.on HBw3.out)
    have HIN := Lib.hid (HI1.out.on H1.out.lt HBw3.out)
    have HK3 : Hid (Keep M w w3) := Keep.of_below hM (HB1.out.trans (HBw3.out.mono HB1.out.size))
    generalize pinned ++ [(v : Int)] ++ Pl.once (nodeN g v).inn = pin at *
    generalize hInn : Pl.once (nodeN g v).inn = inn at *
    have HInn := Lib.hid hInn
    clear hInn hb3 hO3 hI3 hor3 hPE HGR HB3 HB2 HFL HBw3 H1 HI1 HB1
    have hRI2 : ∀ u ∈ inn, 0 ≤ u ∧ u < (len : Int) := fun u hu => by have := HRI.out u hu; omega
    have HRI2 := Lib.hid hRI2
    have HFL1 : Hid ((Pl.first (Pl.planEnv g s room again) (Od.next g (Od.ordOf g) ((at_ : Int) - 1)) (Pl.brings (Pl.planEnv g s room again) (Od.next g (Od.ordOf g) ((at_ : Int) - 1)) f) pin inn st).1.l.length ≤ R.1.l.length) := by
      show _ ≤ _
      rw [HEQ.out]
      split
      · exact Nat.le_refl _
      · split
        · exact (Pl.grew_second (n := len) _ _ _ _ _ _ hRI2).2
        · exact ((Pl.grew_second (n := len) _ _ _ _ _ _ hRI2).trans (Pl.grew_waits _ _)).2
    clear hRI2
    generalize hF0 : Pl.first (Pl.planEnv g s room again) (Od.next g (Od.ordOf g) ((at_ : Int) - 1)) (Pl.brings (Pl.planEnv g s room again) (Od.next g (Od.ordOf g) ((at_ : Int) - 1)) f) pin inn st = F at *
    have HF0 := Lib.hid hF0
    clear hF0
    go_wp2
    go_loopg [33] lN (fun gg i wr => ∃ (k : Nat) (st' : Pl.St), k ≤ lN ∧ lN - k ≤ gg ∧ i = .int .i64 k ∧ Hid (MkS w0 M (some ⟨b, off, none⟩) len cap aC cC aB cB aO lO cO room again (at_ : Int) st' wr) ∧ Hid (Keep M w3 wr) ∧
      Hid (Pl.first (Pl.planEnv g s room again) (Od.next g (Od.ordOf g) ((at_ : Int) - 1)) (Pl.brings (Pl.planEnv g s room again) (Od.next g (Od.ordOf g) ((at_ : Int) - 1)) f) pin (inn.drop k) st' = F) ∧ Hid (Pl.Small len st'))
    case atStart => exact ⟨0, st, Nat.zero_le _, by omega, rfl, H3, Keep.refl _ _, HF0.out, KS⟩
    case round =>
      obtain ⟨k, st', hk, hg, rfl, HM, HK, HF, HSM⟩ := hrel
      have hdl := HSM.out.d
      have hil := HSM.out.i
      have hFl : st'.l.length ≤ F.1.l.length := by
        have h := (Pl.grew_first (n := len) (Pl.planEnv g s room again) (Od.next g (Od.ordOf g) ((at_ : Int) - 1)) _ HGB.out pin (inn.drop k) st' (fun u hu => HRI2.out u (Pl.drop_mem hu))).2
        rw [HF.out] at h; exact h
      have hll : st'.l.length ≤ 100000 := Nat.le_trans hFl (Nat.le_trans HFL1.out HLen.out)
      clear hFl
      by_cases hlt : k < lN
      · have dlt : decide ((k : Int) < (lN : Int)) = true := decide_eq_true (by omega)
        have hkL : k < inn.length := by rw [HNL.out]; exact hlt
        have hdr := Pl.drop_nth hkL
        have HDR := Lib.hid hdr
        obtain ⟨hu0, hu1⟩ := HRI.out (nth inn k) (nth_mem inn k hkL)
        have hur : ∀ y ∈ nth inn k :: inn.drop (k + 1), 0 ≤ y ∧ y < (len : Int) := fun y hy => HRI2.out y (Pl.drop_mem (k := k) (by rw [hdr]; exact hy))
        have HUR := Lib.hid hur
        obtain ⟨bN, oN, eN, _, hcN⟩ := (HIN.out.keep HK.out).1.at_ (by omega)
        have kN := hcN k hlt
        cases eN
        obtain ⟨qi, qd, ql, q1, q2, q3, q4, q5, q6, q7, q8⟩ := HM.out.own
        obtain ⟨aI, lI, cI, rfl, hII, _⟩ := q4.ints (fun n hn => by have := HSM.out.ri n hn; omega)
        obtain ⟨aD, lD, cD, rfl, hID, _⟩ := q5.ints (fun n hn => by have := HSM.out.rd n hn; omega)
        have HII := Lib.hid hII
        have HID := Lib.hid hID
        have x7 := q1
        have x8 := q2
        clear hcN hkL hdr hII hID q1 q2 q3 q4 q5 q6 q7 q8 hur
        generalize nth inn k = u at *
        obtain ⟨m, rfl⟩ : ∃ m : Nat, u = (m : Int) := ⟨u.toNat, by omega⟩
        have hmf : m < f := by omega
        have hml : m < len := by omega
        go_wp2_with fail
        refine (contains_any _ _ _ _ _ _ HII.out).mono ?_
        rintro e w4 ⟨rfl, rfl⟩
        cases hh : hasB st'.inn (m : Int) with
        | true =>
          have HS2 : Hid (Pl.first (Pl.planEnv g s room again) (Od.next g (Od.ordOf g) ((at_ : Int) - 1)) (Pl.brings (Pl.planEnv g s room again) (Od.next g (Od.ordOf g) ((at_ : Int) - 1)) f) pin (inn.drop (k + 1)) st' = F) := by
            show _ = _; rw [← HF.out, HDR.out, Pl.first_in (.inl hh)]
          clear hh x7 x8 kN
          go_wp2
          go_roundg (lN - (k + 1))
          case measure => exact Nat.lt_of_lt_of_le (Nat.sub_lt_sub_left hlt (Nat.lt_succ_self k)) hg
          case rel => exact ⟨k + 1, _, Nat.succ_le_of_lt hlt, Nat.le_refl _, by go_num, HM, HK, HS2, HSM⟩
        | false =>
          have HH1 := Lib.hid hh
          clear hh
          go_wp2_with fail
          refine (contains_any _ _ _ _ _ _ HID.out).mono ?_
          rintro e w4 ⟨rfl, rfl⟩
          cases hh : hasB st'.disk (m : Int) with
          | true =>
            have HS2 : Hid (Pl.first (Pl.planEnv g s room again) (Od.next g (Od.ordOf g) ((at_ : Int) - 1)) (Pl.brings (Pl.planEnv g s room again) (Od.next g (Od.ordOf g) ((at_ : Int) - 1)) f) pin (inn.drop (k + 1)) st' = F) := by
              show _ = _; rw [← HF.out, HDR.out, Pl.first_in (.inr hh)]
            clear hh x7 x8 kN
            go_wp2
            go_roundg (lN - (k + 1))
            case measure => exact Nat.lt_of_lt_of_le (Nat.sub_lt_sub_left hlt (Nat.lt_succ_self k)) hg
            case rel => exact ⟨k + 1, _, Nat.succ_le_of_lt hlt, Nat.le_refl _, by go_num, HM, HK, HS2, HSM⟩
          | false =>
            have HH2 := Lib.hid hh
            have HSF : Hid (F = _) := (HF.out.symm.trans (by rw [HDR.out])).trans (Pl.first_out (r := inn.drop (k + 1)) HH1.out HH2.out)
            have hl1 := Pl.first_le1 (n := len) (r := inn.drop (k + 1)) HGB.out HUR.out HH1.out HH2.out (E := Pl.planEnv g s room again) (nx := Od.next g (Od.ordOf g) ((at_ : Int) - 1)) (pin := pin)
            rw [← HDR.out, HF.out] at hl1
            have HL1 := Lib.hid (Nat.le_trans hl1 (Nat.le_trans HFL1.out HLen.out))
            have HL2 := Lib.hid (fun h3 => Pl.first_le2 (n := len) (r := inn.drop (k + 1)) HGB.out HUR.out HH1.out HH2.out h3 (E := Pl.planEnv g s room again) (nx := Od.next g (Od.ordOf g) ((at_ : Int) - 1)) (pin := pin))
            have HG1 := Lib.hid ((HGB.out (m : Int) pin st' ⟨by omega, by omega⟩).1 HSM.out)
            have HIHu := Lib.hid (IH.out m aQ lQ cQ pin st' wr hmf hml HM.out (HI3.out.keep HK.out) (by have := HLP.out; omega) HSM.out HL1.out)
            clear hh x7 x8 kN hl1 HL1
            generalize Pl.brings (Pl.planEnv g s room again) (Od.next g (Od.ordOf g) ((at_ : Int) - 1)) f (m : Int) pin st' = R1 at *
            go_wp2_with fail
            refine HIHu.out.mono ?_
            rintro e w5 ⟨rfl, hM5, hK5⟩
            have HM5 := Lib.hid hM5
            have HK5 := Lib.hid (HK.out.trans hK5)
            clear hM5 hK5
            cases hbr : R1.2 with
            | false =>
              have HRF : Hid (R.2 = false ∧ R.1 = R1.1) := by
                have e1 : F = (R1.1, false) := by rw [HSF.out, if_pos hbr]
                have e2 : R = (F.1, false) := by rw [HEQ.out, e1]; exact if_pos rfl
                rw [e2, e1]; exact ⟨rfl, rfl⟩
              clear hbr
              go_wp2
              go_ret
              refine ⟨by rw [HRF.out.1]; rfl, by rw [HRF.out.2]; exact HM5.out, HK3.out.trans HK5.out⟩
            | true =>
              have HBR := Lib.hid hbr
              clear hbr
              have x0 := HM5.out.c0
              obtain ⟨bu, ou, au, lu, cu, su, lsu, csu, eA, _, p0, p1, p2, p3, p4, hVu⟩ := (KE.out.n.on HM5.out.bel).get (Below.refl _ w5) hml
              cases eA
              have HVu := Lib.hid hVu.i
              have hlu : lu ≤ 4 := by rw [← hVu.i.length]; exact (HIO.out m (by have := LN.out; omega)).1
              have hI5 := HI3.out.keep HK5.out
              have HI5 := Lib.hid hI5
              have HG2 := Lib.hid (grid_two (W := w5) hI5.1 hVu.i 22)
              have HFL2 : Hid ([pin, (nodeN g m).inn].flatten.length = lQ + lu) := by show _ = _; simp [hI5.1.length, hVu.i.length]
              have HB5 : Hid (Below w5.heap.size w5 (w5.alloc (.cells #[.slice aQ lQ cQ, .slice au lu cu] 22))) := (Below.refl _ _).alloc (Nat.le_refl _) _
              clear hVu p0 p2 p3 p4 hI5
              go_wp2_with fail
              refine (concat_any _ 2 2 _ _ HG2.out (by rw [HFL2.out]; omega) (by rw [HFL2.out]; have := HLP.out; omega) (by omega)).mono ?_
              rintro e w6 ⟨vq, rfl, hO6, hb6⟩
              obtain ⟨aS, lS, cS, rfl, hI6, hor6⟩ := hO6.ints (fun n hn => by
                simp only [List.flatten_cons, List.flatten_nil, List.append_nil, List.mem_append] at hn
                rcases hn with h | h
                · exact HI5.out.1.wf n h
                · exact HVu.out.wf n h)
              have HB6 : Hid (Below w5.heap.size w5 w6) := HB5.out.trans (hb6.mono HB5.out.size)
              have HI6 := Lib.hid (own_fresh (HM5.out.on HB5.out) hb6 hI6 hor6)
              have hPE : [pin, (nodeN g m).inn].flatten = pin ++ (nodeN g m).inn := by simp
              have hlS : lS = lQ + lu := by rw [← hI6.length]; exact HFL2.out
              have hlS2 : lS ≤ 1000000 := by have := HLP.out; omega
              rw [hPE] at HI6
              have H6 := Lib.hid (HM5.out.on HB6.out)
              have HK6 := Lib.hid (HK5.out.trans (Keep.of_below HM5.out.lt HB6.out))
              have HMM := Lib.hid (HMK.out (m : Int) ⟨by omega, by omega⟩ aS lS cS (pin ++ (nodeN g m).inn) R1.1 w6 H6.out HI6.out HG1.out hlS2 (by
                have h := HL2.out HBR.out
                rw [← HDR.out, HF.out] at h
                exact Nat.le_trans h (Nat.le_trans HFL1.out HLen.out)))
              have HMG := Lib.hid ((Pl.grew_makes (n := len) (Pl.planEnv g s room again) (Od.next g (Od.ordOf g) ((at_ : Int) - 1)) (m : Int) (pin ++ (nodeN g m).inn) R1.1).1 HG1.out)
              have HSF2 : Hid (F = if (Pl.makes (Pl.planEnv g s room again) (Od.next g (Od.ordOf g) ((at_ : Int) - 1)) (m : Int) (pin ++ (nodeN g m).inn) R1.1).2 = false then ((Pl.makes (Pl.planEnv g s room again) (Od.next g (Od.ordOf g) ((at_ : Int) - 1)) (m : Int) (pin ++ (nodeN g m).inn) R1.1).1, false) else
                  Pl.first (Pl.planEnv g s room again) (Od.next g (Od.ordOf g) ((at_ : Int) - 1)) (Pl.brings (Pl.planEnv g s room again) (Od.next g (Od.ordOf g) ((at_ : Int) - 1)) f) pin (inn.drop (k + 1)) (Pl.takeS 3 (m : Int) (Pl.makes (Pl.planEnv g s room again) (Od.next g (Od.ordOf g) ((at_ : Int) - 1)) (m : Int) (pin ++ (nodeN g m).inn) R1.1).1)) := by
                show _ = _
                have h := HSF.out
                rw [if_neg (by rw [HBR.out]; simp), show (Pl.planEnv g s room again).g = g from rfl, Int.toNat_natCast] at h
                exact h
              clear hO6 hb6 hI6 hor6 hPE hlS hlS2 HSF HL2
              generalize Pl.makes (Pl.planEnv g s room again) (Od.next g (Od.ordOf g) ((at_ : Int) - 1)) (m : Int) (pin ++ (nodeN g m).inn) R1.1 = R2 at *
              go_wp2_with fail
              refine HMM.out.mono ?_
              rintro e w7 ⟨rfl, hM7, hK7⟩
              have HM7 := Lib.hid hM7
              have HK7 := Lib.hid (HK6.out.trans hK7)
              clear hM7 hK7
              cases hmk : R2.2 with
              | false =>
                have HRF : Hid (R.2 = false ∧ R.1 = R2.1) := by
                  have e1 : F = (R2.1, false) := by rw [HSF2.out, if_pos hmk]
                  have e2 : R = (F.1, false) := by rw [HEQ.out, e1]; exact if_pos rfl
                  rw [e2, e1]; exact ⟨rfl, rfl⟩
                clear hmk
                go_wp2
                go_ret
                refine ⟨by rw [HRF.out.1]; rfl, by rw [HRF.out.2]; exact HM7.out, HK3.out.trans HK7.out⟩
              | true =>
                have HF2 : Hid (Pl.first (Pl.planEnv g s room again) (Od.next g (Od.ordOf g) ((at_ : Int) - 1)) (Pl.brings (Pl.planEnv g s room again) (Od.next g (Od.ordOf g) ((at_ : Int) - 1)) f) pin (inn.drop (k + 1)) (Pl.takeS 3 (m : Int) R2.1) = F) := by
                  show _ = _
                  rw [HSF2.out, if_neg (by rw [hmk]; simp)]
                have HS2 := Lib.hid ((Pl.grew_take (n := len) 3 (m : Int) R2.1 ⟨by omega, by omega⟩).1 HMG.out)
                have hR2l : (Pl.takeS 3 (m : Int) R2.1).l.length ≤ F.1.l.length := by
                  have h := (Pl.grew_first (n := len) (Pl.planEnv g s room again) (Od.next g (Od.ordOf g) ((at_ : Int) - 1)) _ HGB.out pin (inn.drop (k + 1)) (Pl.takeS 3 (m : Int) R2.1) (fun u hu => HRI2.out u (Pl.drop_mem hu))).2
                  rw [HF2.out] at h; exact h
                have hR2l2 : R2.1.l.length ≤ 1000000 := by
                  have h1 := HFL1.out; have h2 := HLen.out
                  simp [Pl.takeS] at hR2l
                  omega
                have hR2i : R2.1.inn.length ≤ 1000000 := Nat.le_trans HMG.out.i hR2l2
                clear hmk hR2l
                go_wp2_with fail
                refine (takes_any 3 (m : Int) HM7.out hR2l2 hR2i).mono ?_
                rintro e w8 ⟨rfl, hM8, hK8⟩
                have HM8 := Lib.hid hM8
                have HK8 := Lib.hid (HK7.out.trans hK8)
                clear hM8 hK8
                go_wp2
                go_roundg (lN - (k + 1))
                case measure => exact Nat.lt_of_lt_of_le (Nat.sub_lt_sub_left hlt (Nat.lt_succ_self k)) hg
                case rel => exact ⟨k + 1, _, Nat.succ_le_of_lt hlt, Nat.le_refl _, by go_num, HM8, HK8, HF2, HS2⟩
      · have dlt : decide ((k : Int) < (lN : Int)) = false := decide_eq_false (by omega)
        have hFe : F = (st', true) := by rw [← HF.out, List.drop_of_length_le (by rw [HNL.out]; omega)]; rfl
        have hEQ2 : R = if (Pl.second (Pl.planEnv g s room again) (Od.next g (Od.ordOf g) ((at_ : Int) - 1)) pin inn st' []).2.2 = false then ((Pl.second (Pl.planEnv g s room again) (Od.next g (Od.ordOf g) ((at_ : Int) - 1)) pin inn st' []).1, false) else
            (Pl.waits (Pl.second (Pl.planEnv g s room again) (Od.next g (Od.ordOf g) ((at_ : Int) - 1)) pin inn st' []).2.1 (Pl.second (Pl.planEnv g s room again) (Od.next g (Od.ordOf g) ((at_ : Int) - 1)) pin inn st' []).1, decide ((Pl.second (Pl.planEnv g s room again) (Od.next g (Od.ordOf g) ((at_ : Int) - 1)) pin inn st' []).2.1.length ≤ 4)) := by rw [HEQ.out, hFe]; exact if_neg (by simp)
        have HSL : Hid ((Pl.second (Pl.planEnv g s room again) (Od.next g (Od.ordOf g) ((at_ : Int) - 1)) pin inn st' []).1.l.length ≤ 100000) := by
          show _ ≤ _
          have h := HLen.out
          rw [hEQ2] at h
          split at h
          · exact h
          · exact Nat.le_trans (Pl.grew_waits (n := len) _ _).2 h
        have HSA : Hid ((Pl.second (Pl.planEnv g s room again) (Od.next g (Od.ordOf g) ((at_ : Int) - 1)) pin inn st' []).2.1.length ≤ 0 + inn.length) := Pl.second_len (Pl.planEnv g s room again) (Od.next g (Od.ordOf g) ((at_ : Int) - 1)) pin inn st' []
        generalize hS0 : Pl.second (Pl.planEnv g s room again) (Od.next g (Od.ordOf g) ((at_ : Int) - 1)) pin inn st' [] = S2 at *
        have HS0 := Lib.hid hS0
        have HEQ2 := Lib.hid hEQ2
        have HINx := Lib.hid (HIN.out.keep HK.out)
        have HPx := Lib.hid (HI3.out.keep HK.out)
        have HKx := Lib.hid (HK3.out.trans HK.out)
        have HW0x : Hid (w0.heap.size ≤ wr.heap.size) := HM.out.bel.size
        clear hS0 hEQ2 hFe HEQ HF HFL1 HF0
        rename World => wx
        go_wp2
        go_loopg [10, 80] lN (fun gg v i wr => ∃ (k : Nat) (st2 : Pl.St) (A : List Int) (u : Value), k ≤ lN ∧ lN - k ≤ gg ∧ i = .int .i64 k ∧ u = v ∧ Hid (MkS w0 M (some ⟨b, off, none⟩) len cap aC cC aB cB aO lO cO room again (at_ : Int) st2 wr) ∧ Hid (Keep M wx wr) ∧
          Hid (Pl.second (Pl.planEnv g s room again) (Od.next g (Od.ordOf g) ((at_ : Int) - 1)) pin (inn.drop k) st2 A = S2) ∧ Hid (Pl.Small len st2) ∧ Hid (OwnH M wx.heap.size wr u A) ∧ Hid (A.length ≤ k) ∧ Hid (∀ y ∈ A, 0 ≤ y ∧ y < (len : Int)))
        case atStart => exact ⟨0, st', [], _, Nat.zero_le _, by omega, rfl, rfl, HM, Keep.refl _ _, HS0.out, HSM, OwnH.nil _ _ _, Nat.le_refl 0, fun y hy => by cases hy⟩
        case round =>
          obtain ⟨j, st2, A, u2, hj, hgj, rfl, rfl, HM2, HK2, HF2, HSM2, HOA, HAL, HAR⟩ := hrel
          have hil2 := HSM2.out.i
          have hll2 : st2.l.length ≤ 100000 := by
            have h := (Pl.grew_second (n := len) (Pl.planEnv g s room again) (Od.next g (Od.ordOf g) ((at_ : Int) - 1)) pin (inn.drop j) st2 A (fun u hu => HRI2.out u (Pl.drop_mem hu))).2
            rw [HF2.out] at h; exact Nat.le_trans h HSL.out
          by_cases hltj : j < lN
          · have djl : decide ((j : Int) < (lN : Int)) = true := decide_eq_true (by omega)
            have hkL : j < inn.length := by rw [HNL.out]; exact hltj
            have hdr := Pl.drop_nth hkL
            have HDR := Lib.hid hdr
            obtain ⟨hu0, hu1⟩ := HRI.out (nth inn j) (nth_mem inn j hkL)
            have hur : ∀ y ∈ nth inn j :: inn.drop (j + 1), 0 ≤ y ∧ y < (len : Int) := fun y hy => HRI2.out y (Pl.drop_mem (k := j) (by rw [hdr]; exact hy))
            have HUR := Lib.hid hur
            obtain ⟨bN, oN, eN, _, hcN⟩ := (HINx.out.keep HK2.out).1.at_ (by omega)
            have kN := hcN j hltj
            cases eN
            obtain ⟨qi, qd, ql, q1, q2, q3, q4, q5, q6, q7, q8⟩ := HM2.out.own
            obtain ⟨aI, lI, cI, rfl, hII, _⟩ := q4.ints (fun n hn => by have := HSM2.out.ri n hn; omega)
            have HII := Lib.hid hII
            have x7 := q1
            clear hcN hkL hdr hII q1 q2 q3 q4 q5 q6 q7 q8 hur
            generalize nth inn j = u at *
            obtain ⟨m, rfl⟩ : ∃ m : Nat, u = (m : Int) := ⟨u.toNat, by omega⟩
            have hml : m < len := by omega
            go_wp2_with fail
            refine (contains_any _ _ _ _ _ _ HII.out).mono ?_
            rintro e w4 ⟨rfl, rfl⟩
            cases hh : hasB st2.inn (m : Int) with
            | true =>
              have HF3 : Hid (Pl.second (Pl.planEnv g s room again) (Od.next g (Od.ordOf g) ((at_ : Int) - 1)) pin (inn.drop (j + 1)) st2 A = S2) := by
                show _ = _; rw [← HF2.out, HDR.out, Pl.second_in hh]
              have HAL2 : Hid (A.length ≤ j + 1) := Nat.le_succ_of_le HAL.out
              clear hh x7 kN
              go_wp2
              go_roundg (lN - (j + 1))
              case measure => exact Nat.lt_of_lt_of_le (Nat.sub_lt_sub_left hltj (Nat.lt_succ_self j)) hgj
              case rel => exact ⟨j + 1, st2, A, _, Nat.succ_le_of_lt hltj, Nat.le_refl _, by go_num, rfl, HM2, HK2, HF3, HSM2, HOA, HAL2, HAR⟩
            | false =>
              have hSF := Pl.second_out (E := (Pl.planEnv g s room again)) (nx := (Od.next g (Od.ordOf g) ((at_ : Int) - 1))) (pin := pin) (r := inn.drop (j + 1)) (A := A) hh
              rw [← HDR.out, HF2.out] at hSF
              have HSF := Lib.hid hSF
              have hle1 := Pl.second_le (n := len) (E := (Pl.planEnv g s room again)) (nx := (Od.next g (Od.ordOf g) ((at_ : Int) - 1))) (pin := pin) (r := inn.drop (j + 1)) (A := A) HUR.out hh
              rw [← HDR.out, HF2.out] at hle1
              have HMM := Lib.hid (HMK.out (m : Int) ⟨by omega, by omega⟩ aQ lQ cQ pin st2 wr HM2.out (HPx.out.keep HK2.out) HSM2.out (by have := HLP.out; omega) (Nat.le_trans hle1 HSL.out))
              have HMG := Lib.hid ((Pl.grew_makes (n := len) (Pl.planEnv g s room again) (Od.next g (Od.ordOf g) ((at_ : Int) - 1)) (m : Int) pin st2).1 HSM2.out)
              clear hh x7 kN hSF hle1
              generalize Pl.makes (Pl.planEnv g s room again) (Od.next g (Od.ordOf g) ((at_ : Int) - 1)) (m : Int) pin st2 = R2 at *
              go_wp2_with fail
              refine HMM.out.mono ?_
              rintro e w7 ⟨rfl, hM7, hK7⟩
              have HM7 := Lib.hid hM7
              have HK7 := Lib.hid (HK2.out.trans hK7)
              have HOA7 := Lib.hid (HOA.out.keep hK7)
              clear hM7 hK7
              cases hmk : R2.2 with
              | false =>
                have HRF : Hid (R.2 = false ∧ R.1 = R2.1) := by
                  have e1 : S2 = (R2.1, A, false) := by rw [HSF.out, if_pos hmk]
                  have e2 : R = (S2.1, false) := by rw [HEQ2.out, e1]; exact if_pos rfl
                  rw [e2, e1]; exact ⟨rfl, rfl⟩
                clear hmk
                go_wp2
                go_ret
                refine ⟨by rw [HRF.out.1]; rfl, by rw [HRF.out.2]; exact HM7.out, HKx.out.trans HK7.out⟩
              | true =>
                have HF3 : Hid (Pl.second (Pl.planEnv g s room again) (Od.next g (Od.ordOf g) ((at_ : Int) - 1)) pin (inn.drop (j + 1)) (Pl.takeS 1 (m : Int) R2.1) (A ++ [(m : Int)]) = S2) := by
                  show _ = _
                  rw [HSF.out, if_neg (by rw [hmk]; simp)]
                have HS2 := Lib.hid ((Pl.grew_take (n := len) 1 (m : Int) R2.1 ⟨by omega, by omega⟩).1 HMG.out)
                have hR2l : (Pl.takeS 1 (m : Int) R2.1).l.length ≤ S2.1.l.length := by
                  have h := (Pl.grew_second (n := len) (Pl.planEnv g s room again) (Od.next g (Od.ordOf g) ((at_ : Int) - 1)) pin (inn.drop (j + 1)) (Pl.takeS 1 (m : Int) R2.1) (A ++ [(m : Int)]) (fun u hu => HRI2.out u (Pl.drop_mem hu))).2
                  rw [HF3.out] at h; exact h
                have hR2l2 : R2.1.l.length ≤ 1000000 := by
                  have h1 := HSL.out
                  simp [Pl.takeS] at hR2l
                  omega
                have hR2i : R2.1.inn.length ≤ 1000000 := Nat.le_trans HMG.out.i hR2l2
                clear hmk hR2l
                go_wp2_with fail
                refine (takes_any 1 (m : Int) HM7.out hR2l2 hR2i).mono ?_
                rintro e w8 ⟨rfl, hM8, hK8⟩
                have HM8 := Lib.hid hM8
                have HK8 := Lib.hid (HK7.out.trans hK8)
                have HOA8 := Lib.hid (HOA7.out.keep hK8)
                have hlA : A.length ≤ 10000000 := by have := HAL.out; omega
                obtain ⟨aA, lA, cA, rfl⟩ := ownsRow_slice (show w8.ownsRow wx.heap.size 3 1 u2 A.length (A.map (Value.int .i64)) from HOA8.out.1)
                clear hM8 hK8
                go_wp2_with (at_builtin; go_must (refine wpList_app1h _ rfl _ _ rfl wx.heap.size _ A (m : Int) HOA8.out.1 rfl rfl HK8.out.size hlA ?_))
                intro v' w9 hO9 hB9 hg9 hob9
                obtain ⟨aA', lA', cA', rfl⟩ := ownsRow_slice (show w9.ownsRow wx.heap.size 3 1 v' (A ++ [(m : Int)]).length ((A ++ [(m : Int)]).map (Value.int .i64)) from hO9)
                obtain ⟨hM9, hh9⟩ := HM8.out.other hg9 (fun k hk => ⟨HOA8.out.2 k hk, Nat.le_trans HW0x.out (Own.lt HOA8.out.1 k hk).1⟩)
                have HM9 := Lib.hid hM9
                have HK9 := Lib.hid (HK8.out.other hg9.size hh9 (fun k hk => (Own.lt HOA8.out.1 k hk).1))
                have HOA9 := Lib.hid (OwnH.grow HM8.out HOA8.out hO9 hg9 (hob9.imp_right fun ⟨q, h1, h2⟩ => ⟨q, h1, Nat.le_of_lt h2⟩))
                have HAL2 : Hid ((A ++ [(m : Int)]).length ≤ j + 1) := by show _ ≤ _; have := HAL.out; simp; omega
                have HAR2 : Hid (∀ y ∈ A ++ [(m : Int)], 0 ≤ y ∧ y < (len : Int)) := fun y hy => by
                  rcases List.mem_append.1 hy with h | h
                  · exact HAR.out y h
                  · simp at h; subst h; exact ⟨by omega, by omega⟩
                clear hO9 hB9 hg9 hob9 hM9 hh9
                go_wp2
                go_roundg (lN - (j + 1))
                case measure => exact Nat.lt_of_lt_of_le (Nat.sub_lt_sub_left hltj (Nat.lt_succ_self j)) hgj
                case rel => exact ⟨j + 1, _, _, _, Nat.succ_le_of_lt hltj, Nat.le_refl _, by go_num, rfl, HM9, HK9, HF3, HS2, HOA9, HAL2, HAR2⟩
          · have djl : decide ((j : Int) < (lN : Int)) = false := decide_eq_false (by omega)
            have hSe : S2 = (st2, A, true) := by rw [← HF2.out, List.drop_of_length_le (by rw [HNL.out]; omega)]; rfl
            have hR : R = (Pl.waits A st2, decide (A.length ≤ 4)) := by rw [HEQ2.out, hSe]; exact if_neg (by simp)
            have HR := Lib.hid hR
            have HRL : Hid ((Pl.waits A st2).l.length ≤ 100000) := by show _ ≤ _; have h := HLen.out; rw [hR] at h; exact h
            obtain ⟨aA, lA, cA, rfl, hIA⟩ := HOA.out.ints (fun n hn => by have := HAR.out n hn; omega)
            have HIA := Lib.hid hIA
            have HAL3 := Lib.hid hIA.1.length
            have hAle := hIA.1.le
            have hAcl := hIA.1.cap_le
            have HKy := Lib.hid (HKx.out.trans HK2.out)
            clear hSe hR hIA
            rename World => wy
            go_wp2
            go_loopg [105] lA (fun gg i wr => ∃ (q : Nat) (st3 : Pl.St), q ≤ lA ∧ lA - q ≤ gg ∧ i = .int .i64 q ∧ Hid (MkS w0 M (some ⟨b, off, none⟩) len cap aC cC aB cB aO lO cO room again (at_ : Int) st3 wr) ∧ Hid (Keep M wy wr) ∧ Hid (Pl.waits (A.drop q) st3 = Pl.waits A st2))
            case atStart => exact ⟨0, st2, Nat.zero_le _, by omega, rfl, HM2, Keep.refl _ _, by show _ = _; rfl⟩
            case round =>
              obtain ⟨q, st3, hq, hgq, rfl, HM3, HK3', HF3⟩ := hrel
              have hll3 : st3.l.length ≤ 100000 := by
                have h := (Pl.grew_waits (n := len) (A.drop q) st3).2
                rw [HF3.out] at h; exact Nat.le_trans h HRL.out
              by_cases hltq : q < lA
              · have dql : decide ((q : Int) < (lA : Int)) = true := decide_eq_true (by omega)
                have hkA : q < A.length := by rw [HAL3.out]; exact hltq
                have hdr := Pl.drop_nth hkA
                have HF4 : Hid (Pl.waits (A.drop (q + 1)) (Pl.stepS 2 (nth A q) st3) = Pl.waits A st2) := by
                  show _ = _
                  have h := HF3.out
                  rw [hdr, Pl.waits_cons] at h; exact h
                obtain ⟨bA, oA, eA, _, hcA⟩ := (HIA.out.keep HK3'.out).1.at_ (by omega)
                have kA := hcA q hltq
                cases eA
                clear hcA hkA hdr
                generalize nth A q = u at *
                obtain ⟨vi, vd, vl, o1, o2, o3, o4, o5, o6, o7, o8⟩ := HM3.out.own
                obtain ⟨al, ll, cl, rfl⟩ := ownsRow_slice (Classical.choose_spec o6).1
                have HO6 := Lib.hid o6
                have O3 := Lib.hid o3
                have hM3 := HM3.out.lt
                clear o1 o2 o4 o5 o6 o7 o8
                go_wp2_with (at_builtin; go_must (refine wpList_appL _ rfl _ _ rfl (M + 1) _ st3.l (2, u) HO6.out rfl rfl hM3 (by omega) ?_))
                intro v' w9 hO9 hB9 hg9 hob9
                have hbc := box_cells (M := M) hM3 hg9 (fun e => by have := (HO6.out.lt M e).1; omega) 9
                have y9 := hbc.1.trans O3.out
                have z9 := hbc.2.trans (HM3.out.fr 9 (by omega))
                obtain ⟨a1, n1, q1, rfl⟩ := ownsRow_slice (Classical.choose_spec hO9).1
                obtain ⟨hM4, hK4⟩ := HM3.out.putL O3.out hO9 hB9 hg9 (hob9.imp_right fun ⟨q, h, h3⟩ => ⟨q, h, Nat.le_of_lt h3⟩)
                have HM4 := Lib.hid hM4
                have HK4 := Lib.hid (HK3'.out.trans hK4)
                clear hO9 hB9 hg9 hob9 hbc hM4 hK4 o3 kA
                go_wp2
                go_roundg (lA - (q + 1))
                case measure => exact Nat.lt_of_lt_of_le (Nat.sub_lt_sub_left hltq (Nat.lt_succ_self q)) hgq
                case rel => exact ⟨q + 1, _, Nat.succ_le_of_lt hltq, Nat.le_refl _, by go_num, HM4, HK4, HF4⟩
              · have dql : decide ((q : Int) < (lA : Int)) = false := decide_eq_false (by omega)
                have HF4 : Hid (st3 = Pl.waits A st2) := by
                  show _ = _
                  rw [← HF3.out, List.drop_of_length_le (by rw [HAL3.out]; omega)]; rfl
                go_wp2
                go_ret
                refine ⟨by rw [HR.out, HAL3.out]; simp; omega, by rw [HR.out]; show MkS _ _ _ _ _ _ _ _ _ _ _ _ _ _ _ (Pl.waits A st2) _; rw [← HF4.out]; exact HM3.out, HKy.out.trans HK3'.out⟩
end
end Go.Proofs.Ytgmagldbfajedaa
