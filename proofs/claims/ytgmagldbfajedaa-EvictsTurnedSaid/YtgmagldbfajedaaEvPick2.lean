/-
  drydockref21 Pick: contract pick_any.
-/
import Derived.Test.YtgmagldbfajedaaEvPick
import Derived.Test.YtgmagldbfajedaaStNil
import Derived.Test.YtgmagldbfajedaaClip
import Derived.Deep.RegionHeld3
import Derived.Deep.AppendLies
import Derived.Laws.EntriesVeiled
import Derived.Deep.DeepMust
namespace Go.Proofs.Ytgmagldbfajedaa
open Go.RowKit Go.Sort

set_option maxHeartbeats 8000000 in
set_option maxRecDepth 100000 in
/-- The arguments are in form. -/
theorem pick_good (ai ap ab an : Option Addr) (li ci lp cp lb cb ln cn : Nat) (inn pin bytes next : List Int) (room need : Int) (w : World)
    (HI : Ints w ai li ci inn) (HP : Ints w ap lp cp pin) (HB : Ints w ab lb cb bytes) (HN : Ints w an ln cn next) (hli : li ≤ 1000000)
    (hgood : Ev.argsB inn pin bytes next room need = true) :
    Calls Try.prog 28 #[.agg #[.slice ai li ci, .slice ap lp cp, .int .i64 room], .slice ab lb cb, .slice an ln cn, .int .i64 need]
      w (PickPost w (Ev.pickL inn pin bytes next room need) (Ev.pickE inn pin bytes next room need)) := by
  have HG := Lib.hid hgood
  obtain ⟨h1, h2, h3, h4, hrm, hnd⟩ := Ev.args_parts hgood
  have h5 : Ev.within [room, need] = true := by simp [Ev.within, hrm, hnd]
  rw [HB.length] at h1 h2
  have hnb : ln = lb := by rw [← HB.length, ← HN.length]; exact h3
  subst hnb
  have e3 : ((ln : Int) != (ln : Int)) = false := by simp
  have KI := Lib.hid HI
  have KP := Lib.hid HP
  have KB := Lib.hid HB
  have KN := Lib.hid HN
  have KW := Lib.hid h4
  have H1 := Lib.hid h1
  have H2 := Lib.hid h2
  have H5 := Lib.hid h5
  obtain ⟨hr0, hr1⟩ := hrm
  obtain ⟨hd0, hd1⟩ := hnd
  have KB2 := Lib.hid (HB.alloc (.cells #[.slice ai li ci, .slice ap lp cp, .int .i64 room] 31))
  clear HI HP HB HN h1 h2 h3 h4 h5 hgood
  go_enter Try.func28, Try.ntmps28
  go_wp2_with fail
  refine (nodes_any _ _ _ inn _ _ (KI.out.alloc _)).mono ?_
  rintro e w1 ⟨rfl, rfl⟩
  rw [H1.out]
  go_wp2_with fail
  refine (nodes_any _ _ _ pin _ _ (KP.out.alloc _)).mono ?_
  rintro e w1 ⟨rfl, rfl⟩
  rw [H2.out]
  go_wp2_with fail
  refine (within_any _ _ _ bytes _ KB2.out).mono ?_
  rintro e w1 ⟨rfl, hb⟩
  have c0 : w1.cell? ⟨w.heap.size, 0, none⟩ = some (.slice ai li ci) := by
    rw [hb.cell (p := ⟨w.heap.size, 0, none⟩) (by simp), World.cell?_alloc_at _ _ _ _ rfl]; rfl
  have c1 : w1.cell? ⟨w.heap.size, 1, none⟩ = some (.slice ap lp cp) := by
    rw [hb.cell (p := ⟨w.heap.size, 1, none⟩) (by simp), World.cell?_alloc_at _ _ _ _ rfl]; rfl
  have c2 : w1.cell? ⟨w.heap.size, 2, none⟩ = some (.int .i64 room) := by
    rw [hb.cell (p := ⟨w.heap.size, 2, none⟩) (by simp), World.cell?_alloc_at _ _ _ _ rfl]; rfl
  have hs1 : w.heap.size < w1.heap.size := by have := hb.size; simp at this; omega
  have HW1 : Hid (Below w.heap.size w w1) := ((Below.refl _ _).alloc (Nat.le_refl _) _).trans (hb.mono (by simp))
  clear hb
  rw [KW.out]
  go_wp2_with fail
  refine (within_any _ _ _ [room, need] _ (ints_two w1 room need ⟨by omega, by omega⟩ ⟨by omega, by omega⟩)).mono ?_
  rintro e w2 ⟨rfl, hb⟩
  rw [H5.out]
  have hb' : Below w1.heap.size w1 w2 := ((Below.refl _ _).alloc (Nat.le_refl _) _).trans (hb.mono (by simp))
  have d0 := (hb'.cell (p := ⟨w.heap.size, 0, none⟩) hs1).trans c0
  have d1 := (hb'.cell (p := ⟨w.heap.size, 1, none⟩) hs1).trans c1
  have d2 := (hb'.cell (p := ⟨w.heap.size, 2, none⟩) hs1).trans c2
  have hs2 : w.heap.size < w2.heap.size := Nat.lt_of_lt_of_le hs1 hb'.size
  have HW2 : Hid (Below w.heap.size w w2) := HW1.out.trans (hb'.mono (by omega))
  clear c0 c1 c2 hb hb' hs1 HW1 KB2
  go_wp2
  go_loopg [10, 11, 12, 14, 57] li (fun gg u p fr _ i wr => ∃ k : Nat, k ≤ li ∧ li - k ≤ gg ∧ i = .int .i64 k ∧ u = .int .i64 (need + Ev.sumB bytes (inn.take k)) ∧ p = .int .i64 (need + Ev.sumB bytes (Ev.pins pin (inn.take k))) ∧
      Hid (Own w2.heap.size wr fr (Ev.frees pin (inn.take k))) ∧ Hid (Below w2.heap.size w2 wr))
  case atStart => exact ⟨0, Nat.zero_le _, by omega, rfl, by simp [Ev.sumB], by simp [Ev.sumB, Ev.pins], Own.nil _ _, Below.refl _ _⟩
  case round =>
    obtain ⟨k, hk, hg, rfl, rfl, rfl, HO, HWr⟩ := hrel
    have r0 := (HWr.out.cell (p := ⟨w.heap.size, 0, none⟩) hs2).trans d0
    have r1 := (HWr.out.cell (p := ⟨w.heap.size, 1, none⟩) hs2).trans d1
    have r2 := (HWr.out.cell (p := ⟨w.heap.size, 2, none⟩) hs2).trans d2
    have KIr := Lib.hid ((KI.out.below (HW2.out)).below HWr.out)
    have KPr := Lib.hid ((KP.out.below (HW2.out)).below HWr.out)
    have KBr := Lib.hid ((KB.out.below (HW2.out)).below HWr.out)
    have hsum := Ev.sumB_bounds bytes (inn.take k) KW.out (fun v hv => by rw [KB.out.length]; exact Ev.nodesB_mem H1.out v (List.mem_of_mem_take hv))
    have hsum2 := Ev.sumB_bounds bytes (Ev.pins pin (inn.take k)) KW.out (fun v hv => by rw [KB.out.length]; exact Ev.nodesB_mem H1.out v (List.mem_of_mem_take (List.mem_filter.1 hv).1))
    have hlen1 : (inn.take k).length ≤ k := List.length_take_le _ _
    have hlen2 := Ev.pins_le pin inn k
    have hlen3 := Ev.frees_le pin inn k
    obtain ⟨hs0, hs1⟩ := hsum
    obtain ⟨hp0, hp1⟩ := hsum2
    by_cases hlt : k < li
    · have hkl : k < inn.length := by rw [KI.out.length]; exact hlt
      obtain ⟨hv0, hv1⟩ := Ev.nodesB_mem H1.out (nth inn k) (nth_mem inn k hkl)
      obtain ⟨bi, oi, rfl, _, hci⟩ := KIr.out.at_ (by omega)
      have hck := hci k hlt
      clear hci
      obtain ⟨bb, ob, rfl, _, hcb⟩ := KBr.out.get hv0 hv1
      obtain ⟨hw0, hw1⟩ := Ev.at_within bytes KW.out (nth inn k) hv0 (by rw [KB.out.length]; exact hv1)
      have HS := Lib.hid (Ev.sumB_snoc bytes inn k hkl)
      cases hh : hasB pin (nth inn k) with
      | true =>
        have HF := Lib.hid (Ev.frees_hit pin inn k hkl hh)
        have HH := Lib.hid hh; clear hh
        have HP2 : Hid (Ev.sumB bytes (Ev.pins pin (inn.take (k + 1))) = Ev.sumB bytes (Ev.pins pin (inn.take k)) + Ev.at_ bytes (nth inn k)) := by
          show _ = _; rw [HF.out.2, Ev.sumB_append]; simp [Ev.sumB]
        go_wp2_with (go_at_call 61; refine (contains_any _ _ _ pin _ _ KPr.out).mono ?_; rintro e w3 ⟨rfl, rfl⟩; rw [HH.out])
        go_roundg (li - (k + 1))
        case measure => omega
        case rel => exact ⟨k + 1, by omega, by omega, by go_num, by rw [HS.out, ← Int.add_assoc], by rw [HP2.out, ← Int.add_assoc], by rw [HF.out.1]; exact HO, HWr⟩
      | false =>
        have HF := Lib.hid (Ev.frees_miss pin inn k hkl hh)
        have HH := Lib.hid hh; clear hh
        go_wp2_with (first
          | (go_at_call 61; refine (contains_any _ _ _ pin _ _ KPr.out).mono ?_; rintro e w3 ⟨rfl, rfl⟩; rw [HH.out])
          | (at_builtin; go_must (refine wpList_app1 _ rfl _ _ rfl w2.heap.size _ _ _ HO.out rfl rfl HWr.out.size ?c1 ?_)))
        case c1 => omega
        intro v' w3 hown' hbel hgrow
        have HO' := Lib.hid hown'
        have HW3 := Lib.hid (HWr.out.trans hbel)
        clear hown' hbel hgrow
        go_wp2
        go_roundg (li - (k + 1))
        case measure => omega
        case rel => exact ⟨k + 1, by omega, by omega, by go_num, by rw [HS.out, ← Int.add_assoc], by rw [HF.out.2], by rw [HF.out.1]; exact HO', HW3⟩
    · have hkl : inn.length ≤ k := by rw [KI.out.length]; omega
      have HT := Lib.hid (List.take_of_length_le hkl)
      rw [HT.out] at HO hs0 hs1 hp0 hp1 hlen1 hlen2 hlen3
      rw [HT.out]
      have HE : Hid (Ev.pickE inn pin bytes next room need = if room < need + Ev.sumB bytes (Ev.pins pin inn) then 13 else 0) := by
        show _ = _; unfold Ev.pickE; rw [if_pos HG.out]
      clear hg
      by_cases hroom : room < need + Ev.sumB bytes (Ev.pins pin inn)
      · have hE : Ev.pickE inn pin bytes next room need = 13 := by rw [HE.out, if_pos hroom]
        have HL := Lib.hid (pickL_of_err hE (by omega))
        have HE2 := Lib.hid hE; clear hE
        have hrd : decide (need + Ev.sumB bytes (Ev.pins pin inn) > room) = true := decide_eq_true hroom
        go_wp2
        go_ret2
        exact pick_err (HW2.out.trans (HWr.out.mono (by omega))) HL.out HE2.out
      · have hE : Ev.pickE inn pin bytes next room need = 0 := by rw [HE.out, if_neg hroom]
        have HE2 := Lib.hid hE; clear hE
        have hrd : decide (need + Ev.sumB bytes (Ev.pins pin inn) > room) = false := decide_eq_false hroom
        have hwfF : ∀ n ∈ Ev.frees pin inn, -9223372036854775808 ≤ n ∧ n ≤ 9223372036854775807 := fun n hn => KI.out.wf n (List.mem_filter.1 hn).1
        obtain ⟨af, lf, cf, rfl, HFi, hcase⟩ := HO.out.ints hwfF
        have hlf : lf ≤ li := by
          rw [← HFi.length, ← KI.out.length]; exact List.length_filter_le _ _
        have HFI := Lib.hid HFi
        clear HFi hwfF
        rcases hcase with ⟨rfl, rfl, rfl⟩ | ⟨gf, rfl, hgf, hgl, hgc⟩
        · have HLn : Hid (Ev.pickL inn pin bytes next room need = []) := by
            show _ = _
            have : Ev.frees pin inn = [] := List.eq_nil_of_length_eq_zero HFI.out.length
            unfold Ev.pickL
            rw [if_pos HE2.out, this, Ev.greedy_nil]
          go_wp2_with (go_at_call 63; refine (sortStable_nil _ _).mono ?_; rintro e w3 ⟨rfl, rfl⟩)
          refine wp_loop_rounds 1 ?_
          rw [rounds_succ]
          go_wp2_with (go_at_call 65; refine (clip_any none 0 0 _ (by omega) (by omega) (fun _ => ⟨rfl, rfl⟩)).mono ?_; rintro e w3 ⟨rfl, rfl⟩)
          go_ret2
          exact ⟨none, 0, 0, by rw [HE2.out]; rfl, by rw [HLn.out]; exact Ints.nil, (HW2.out.trans (HWr.out.mono (by omega))).trans ((Below.refl _ _).alloc (by have := HWr.out.size; omega) _), .inl ⟨rfl, rfl, rfl⟩⟩
        · go_wp2_with fail
          have hwr := HWr.out.size
          have hbw : Below w.heap.size w wr := HW2.out.trans (HWr.out.mono (by omega))
          have hbw3 : Below w.heap.size w (wr.alloc (.cells #[.slice ab ln cb, .slice an ln cn, .func (.func 62) #[] #[]] 89)) := hbw.trans ((Below.refl _ _).alloc (by omega) _)
          have hal : Below wr.heap.size wr (wr.alloc (.cells #[.slice ab ln cb, .slice an ln cn, .func (.func 62) #[] #[]] 89)) := (Below.refl _ _).alloc (Nat.le_refl _) _
          have q0 : (wr.alloc (.cells #[.slice ab ln cb, .slice an ln cn, .func (.func 62) #[] #[]] 89)).cell? ⟨wr.heap.size, 0, none⟩ = some (.slice ab ln cb) := by rw [World.cell?_alloc_at _ _ _ _ rfl]; rfl
          have q1 : (wr.alloc (.cells #[.slice ab ln cb, .slice an ln cn, .func (.func 62) #[] #[]] 89)).cell? ⟨wr.heap.size, 1, none⟩ = some (.slice an ln cn) := by rw [World.cell?_alloc_at _ _ _ _ rfl]; rfl
          have q2 : (wr.alloc (.cells #[.slice ab ln cb, .slice an ln cn, .func (.func 62) #[] #[]] 89)).cell? ⟨wr.heap.size, 2, none⟩ = some (.func (.func 62) #[] #[]) := by rw [World.cell?_alloc_at _ _ _ _ rfl]; rfl
          have t2 := (hal.cell (p := ⟨w.heap.size, 2, none⟩) (by show w.heap.size < wr.heap.size; omega)).trans r2
          have hz3 : (wr.alloc (.cells #[.slice ab ln cb, .slice an ln cn, .func (.func 62) #[] #[]] 89)).heap.size = wr.heap.size + 1 := by simp
          have KB3 := Lib.hid (KB.out.below hbw3)
          have KN3 := Lib.hid (KN.out.below hbw3)
          have HF3 := Lib.hid (HFI.out.below hal)
          have hfz : ∀ i, i < cf → (wr.alloc (.cells #[.slice ab ln cb, .slice an ln cn, .func (.func 62) #[] #[]] 89)).frozen? ⟨gf, i, none⟩ = false := fun i hi => (hal.frozen (p := ⟨gf, i, none⟩) hgl).trans (hgc i hi).1
          have hin : ∀ v ∈ Ev.frees pin inn, 0 ≤ v ∧ v < (ln : Int) := fun v hv => Ev.nodesB_mem H1.out v (List.mem_filter.1 hv).1
          have HS3 : Hid (SV gf 0 lf (fun x => 0 ≤ x ∧ x < (ln : Int)) (wr.alloc (.cells #[.slice ab ln cb, .slice an ln cn, .func (.func 62) #[] #[]] 89)) (Ev.frees pin inn).toArray (wr.alloc (.cells #[.slice ab ln cb, .slice an ln cn, .func (.func 62) #[] #[]] 89))) :=
            sv_start HF3.out (by rw [hz3]; omega) hfz hin
          have hlb : ∀ {a : Option Addr} {len cap : Nat} {l : List Int}, Ints w a len cap l → ∀ b off, 0 < len → a = some ⟨b, off, none⟩ → b ≠ gf := fun hI b off h0 e => by
            obtain ⟨b', off', e', hlt', _⟩ := hI.at_ h0
            rw [e] at e'
            simp only [Option.some.injEq, Addr.mk.injEq] at e'
            omega
          have HCmp : Hid (CmpOk 64 #[.pointer (some ⟨wr.heap.size, 0, none⟩)] (Ev.far bytes next) (fun x => 0 ≤ x ∧ x < (ln : Int)) gf (wr.alloc (.cells #[.slice ab ln cb, .slice an ln cn, .func (.func 62) #[] #[]] 89))) := by
            intro wq hq x y hx hy
            have hwb : wr.heap.size < (wr.alloc (.cells #[.slice ab ln cb, .slice an ln cn, .func (.func 62) #[] #[]] 89)).heap.size := by rw [hz3]; omega
            have hne : wr.heap.size ≠ gf := by omega
            have hIb : Ints wq ab ln cb bytes := by
              obtain ⟨b, off, rfl, _, _⟩ := KB3.out.at_ (by omega)
              exact hq.ints KB3.out (hlb KB.out b off (by omega) rfl)
            have hIn : Ints wq an ln cn next := by
              obtain ⟨b, off, rfl, _, _⟩ := KN3.out.at_ (by omega)
              exact hq.ints KN3.out (hlb KN.out b off (by omega) rfl)
            exact pick1_any wr.heap.size ab an ln cb ln cn bytes next x y wq hIb hIn rfl ((hq.cell (p := ⟨wr.heap.size, 0, none⟩) hwb hne).trans q0) ((hq.cell (p := ⟨wr.heap.size, 1, none⟩) hwb hne).trans q1)
              ((hq.cell (p := ⟨wr.heap.size, 2, none⟩) hwb hne).trans q2) hx.1 hx.2 hy.1 hy.2
          have hlf2 : lf < 1152921504606846976 := by omega
          have hne2 : w.heap.size ≠ gf := by omega
          have hw3s : w.heap.size < (wr.alloc (.cells #[.slice ab ln cb, .slice an ln cn, .func (.func 62) #[] #[]] 89)).heap.size := by rw [hz3]; omega
          have hcle := HFI.out.le
          have hccap := HFI.out.cap_le
          have hlnc : (ln : Int) ≤ 9223372036854775807 := by have h1 := KB.out.le; have h2 := KB.out.cap_le; omega
          clear q0 q1 q2 hfz hin hgc hal hbw r0 r1 r2 d0 d1 d2
          generalize (wr.alloc (.cells #[.slice ab ln cb, .slice an ln cn, .func (.func 62) #[] #[]] 89)) = w3 at *
          refine (sortStable_any 64 #[.pointer (some ⟨wr.heap.size, 0, none⟩)] (Ev.far bytes next) (enters_of Try.func64 (by kernel_rfl) rfl) gf 0 lf cf (fun x => 0 ≤ x ∧ x < (ln : Int)) w3 HCmp.out hlf2 _ w3 HS3.out).mono ?_
          rintro e w4 ⟨rfl, hs4⟩
          have hS : Hid ((St.stable (ltc (Ev.far bytes next)) (Ev.frees pin inn).toArray).toList = Ev.sorted bytes next (Ev.frees pin inn)) := stable_sorted bytes next (Ev.frees pin inn)
          have hb4 := hs4.but
          have KS : Hid (Ints w4 (some ⟨gf, 0, none⟩) lf cf (Ev.sorted bytes next (Ev.frees pin inn))) := by
            show Ints _ _ _ _ _
            rw [← hS.out]
            exact sv_ints hs4 hcle hccap (fun x hx => by omega)
          have u2 := (hb4.cell (p := ⟨w.heap.size, 2, none⟩) hw3s hne2).trans t2
          have hb40 : Below w.heap.size w w4 := hbw3.trans (hb4.below (by omega) (by omega))
          have KB4 := Lib.hid (KB.out.below hb40)
          have HB40 := Lib.hid hb40
          have hgl4 := hs4.lt
          have hs40 : w.heap.size < w4.heap.size := Nat.lt_of_lt_of_le hw3s hb4.size
          have hmemS : Hid (∀ v ∈ Ev.sorted bytes next (Ev.frees pin inn), 0 ≤ v ∧ v < (ln : Int)) := fun v hv => Ev.nodesB_mem H1.out v (List.mem_filter.1 ((Ev.sorted_perm bytes next _).mem_iff.1 hv)).1
          have HPL : Hid (Ev.pickL inn pin bytes next room need = Ev.greedy bytes room (need + Ev.sumB bytes inn) (Ev.sorted bytes next (Ev.frees pin inn))) := by
            show _ = _; unfold Ev.pickL; rw [if_pos HE2.out]
          have hU0 : 0 ≤ need + Ev.sumB bytes inn := by omega
          have hU1 : need + Ev.sumB bytes inn ≤ 1048576 * 1000001 := by have := KI.out.length; omega
          clear hS hs4 hb4 t2 hbw3 HS3 HCmp hlb hrd hroom HO HFI HF3 KB3 KN3 HT HE hlt KIr KPr KBr hs0 hs1 hp0 hp1 hlen1 hlen2 hlen3
          generalize need + Ev.sumB bytes inn = U at *
          generalize Ev.sorted bytes next (Ev.frees pin inn) = s at *
          have hsl : s.length = lf := KS.out.length
          have HSL := Lib.hid hsl; clear hsl
          go_wp2
          go_loopg [8, 10, 17, 94] lf (fun gg o u _ i wv => ∃ k : Nat, k ≤ lf ∧ lf - k ≤ gg ∧ i = .int .i64 k ∧ u = .int .i64 (U - Ev.sumB bytes (s.take k)) ∧ Hid (Own w4.heap.size wv o (s.take k)) ∧ Hid (Below w4.heap.size w4 wv) ∧
            Hid (Ev.greedy bytes room U s = s.take k ++ Ev.greedy bytes room (U - Ev.sumB bytes (s.take k)) (s.drop k)))
          case atStart => exact ⟨0, Nat.zero_le _, by omega, rfl, by simp [Ev.sumB], Own.nil _ _, Below.refl _ _, by show _ = _; simp [Ev.sumB]⟩
          case round =>
            obtain ⟨k2, hk2, hg2, rfl, rfl, HO, HWv, HGr⟩ := hrel
            have v2 := (HWv.out.cell (p := ⟨w.heap.size, 2, none⟩) hs40).trans u2
            have KBv := Lib.hid (KB4.out.below HWv.out)
            have KSv := Lib.hid (KS.out.below HWv.out)
            have hsum := Ev.sumB_bounds bytes (s.take k2) KW.out (fun v hv => by rw [KB.out.length]; exact hmemS.out v (List.mem_of_mem_take hv))
            have hlen1 : (s.take k2).length ≤ k2 := List.length_take_le _ _
            obtain ⟨hs0, hs1⟩ := hsum
            have hwfO : Hid (∀ n ∈ s.take k2, -9223372036854775808 ≤ n ∧ n ≤ 9223372036854775807) := fun n hn => KS.out.wf n (List.mem_of_mem_take hn)
            by_cases hlt2 : k2 < lf
            · have hkl2 : k2 < s.length := by rw [HSL.out]; exact hlt2
              obtain ⟨hv0, hv1⟩ := hmemS.out (nth s k2) (nth_mem s k2 hkl2)
              obtain ⟨bi, oi, ei, hbi, hci⟩ := KSv.out.at_ (by omega)
              simp only [Option.some.injEq, Addr.mk.injEq] at ei
              obtain ⟨rfl, rfl, _⟩ := ei
              have hck := hci k2 hlt2
              rw [Nat.zero_add] at hck
              clear hci
              obtain ⟨bb, ob, rfl, hbb, hcb⟩ := KBv.out.get hv0 hv1
              obtain ⟨hw0, hw1⟩ := Ev.at_within bytes KW.out (nth s k2) hv0 (by rw [KB.out.length]; exact hv1)
              by_cases hle : U - Ev.sumB bytes (s.take k2) ≤ room
              · have HR : Hid (Ev.pickL inn pin bytes next room need = s.take k2) := by
                  show _ = _; rw [HPL.out, HGr.out, Ev.greedy_none _ _ _ _ hle, List.append_nil]
                obtain ⟨ao, lo, co, rfl, HOi, hoc⟩ := HO.out.ints hwfO.out
                have hn3 : ao = none → lo = 0 ∧ co = 0 := by
                  rcases hoc with ⟨_, h2, h3⟩ | ⟨_, h1, _⟩
                  · exact fun _ => ⟨h2, h3⟩
                  · intro h; rw [h] at h1; cases h1
                have HOI := Lib.hid (And.intro HOi hoc)
                clear HOi hoc
                have hle' := HOI.out.1.le
                have hcap' := HOI.out.1.cap_le
                go_wp2_with (go_at_call 65; refine (clip_any ao lo co _ hle' hcap' hn3).mono ?_; rintro e w5 ⟨rfl, rfl⟩)
                go_ret2
                obtain ⟨hI, hoc⟩ := HOI.out
                refine ⟨ao, lo, lo, by rw [HE2.out]; rfl, by rw [HR.out]; exact ⟨Nat.le_refl _, Nat.le_trans hI.le hI.cap_le, hI.length, hI.wf, hI.at_⟩, HB40.out.trans (HWv.out.mono (by omega)), ?_⟩
                rcases hoc with ⟨h1, h2, h3⟩ | ⟨g, h1, h2, h3, h4⟩
                · exact .inl ⟨h1, h2, h2⟩
                · exact .inr ⟨g, h1, by omega, h3, rfl, fun i hi => h4 i (by omega)⟩
              · have hle' : ¬ U - Ev.sumB bytes (s.take k2) ≤ room := hle
                have HG2 := Lib.hid (Ev.greedy_at bytes room U s k2 hkl2 hle HGr.out)
                have HS2 := Lib.hid (Ev.sumB_snoc bytes s k2 hkl2)
                have HT2 := Lib.hid (take_snoc s k2 hkl2)
                have hwvs := HWv.out.size
                have rs : IntKind.i64.wrap (U - Ev.sumB bytes (s.take k2) - Ev.at_ bytes (nth s k2)) = U - Ev.sumB bytes (s.take k2) - Ev.at_ bytes (nth s k2) := by rw [IntKind.wrap_i64]; omega
                have hbn : bb < w4.heap.size := by
                  obtain ⟨b', off', e', hlt', _⟩ := KB4.out.at_ (by omega)
                  simp only [Option.some.injEq, Addr.mk.injEq] at e'
                  omega
                have hnb : some bb ≠ u8.ownBlock := fun e => by have := (HO.out.lt bb e.symm).1; omega
                have HOa : Hid (Own w4.heap.size (wr.alloc (.cells #[.int .i64 (nth s k2)] 3)).drew u8 (s.take k2)) := (HO.out.below ((Below.refl _ _).alloc (Nat.le_refl _) _)).below (Below.refl _ _).drew
                go_wp2_with fail
                go_region_held3 (fun w' => w'.cell? ⟨bb, ob + (nth s k2).toNat, none⟩ = some (.int .i64 (Ev.at_ bytes (nth s k2))))
                  (first
                    | go_keep
                    | (go_split_ands; (exact cell_keep hgrow (by assumption) (by simp; omega) hnb)))
                  ((refine step_app1 _ (by rfl) _ _ (by rfl) w4.heap.size u8 (s.take k2) (nth s k2) wr.heap.size HOa.out (by rfl) (by rfl) (heap_alloc_new wr _) (by simp; omega) (by omega) ?_; intro v' w5 hown5 hgrow))
                have HO5 := Lib.hid hown5
                have HW5 : Hid (Below w4.heap.size w4 w5) := HWv.out.trans ((((Below.refl w4.heap.size wr).alloc hwvs _).drew).grown hgrow (by simp; omega) (fun k hk => (HO.out.lt k hk).1))
                clear hown5 hgrow hcb hck rs
                go_wp2
                go_roundg (lf - (k2 + 1))
                case measure => omega
                case rel => exact ⟨k2 + 1, by omega, by omega, by go_num, by rw [HS2.out]; congr 1; omega, by rw [HT2.out]; exact HO5, HW5, HG2⟩
            · have HR : Hid (Ev.pickL inn pin bytes next room need = s.take k2) := by
                have hd : s.drop k2 = [] := List.drop_eq_nil_of_le (by rw [HSL.out]; omega)
                show _ = _; rw [HPL.out, HGr.out, hd]; simp [Ev.greedy]
              obtain ⟨ao, lo, co, rfl, HOi, hoc⟩ := HO.out.ints hwfO.out
              have hn3 : ao = none → lo = 0 ∧ co = 0 := by
                rcases hoc with ⟨_, h2, h3⟩ | ⟨_, h1, _⟩
                · exact fun _ => ⟨h2, h3⟩
                · intro h; rw [h] at h1; cases h1
              have HOI := Lib.hid (And.intro HOi hoc)
              clear HOi hoc
              have hle' := HOI.out.1.le
              have hcap' := HOI.out.1.cap_le
              go_wp2_with (go_at_call 65; refine (clip_any ao lo co _ hle' hcap' hn3).mono ?_; rintro e w5 ⟨rfl, rfl⟩)
              go_ret2
              obtain ⟨hI, hoc⟩ := HOI.out
              refine ⟨ao, lo, lo, by rw [HE2.out]; rfl, by rw [HR.out]; exact ⟨Nat.le_refl _, Nat.le_trans hI.le hI.cap_le, hI.length, hI.wf, hI.at_⟩, HB40.out.trans (HWv.out.mono (by omega)), ?_⟩
              rcases hoc with ⟨h1, h2, h3⟩ | ⟨g, h1, h2, h3, h4⟩
              · exact .inl ⟨h1, h2, h2⟩
              · exact .inr ⟨g, h1, by omega, h3, rfl, fun i hi => h4 i (by omega)⟩
/-- evicts.Pick, whole. -/
theorem pick_any (ai ap ab an : Option Addr) (li ci lp cp lb cb ln cn : Nat) (inn pin bytes next : List Int) (room need : Int) (w : World)
    (HI : Ints w ai li ci inn) (HP : Ints w ap lp cp pin) (HB : Ints w ab lb cb bytes) (HN : Ints w an ln cn next) (hli : li ≤ 1000000)
    (hr : -9223372036854775808 ≤ room ∧ room ≤ 9223372036854775807) (hd : -9223372036854775808 ≤ need ∧ need ≤ 9223372036854775807) :
    Calls Try.prog 28 #[.agg #[.slice ai li ci, .slice ap lp cp, .int .i64 room], .slice ab lb cb, .slice an ln cn, .int .i64 need]
      w (PickPost w (Ev.pickL inn pin bytes next room need) (Ev.pickE inn pin bytes next room need)) := by
  cases h : Ev.argsB inn pin bytes next room need with
  | true => exact pick_good ai ap ab an li ci lp cp lb cb ln cn inn pin bytes next room need w HI HP HB HN hli h
  | false => exact pick_bad ai ap ab an li ci lp cp lb cb ln cn inn pin bytes next room need w HI HP HB HN hr hd h

end Go.Proofs.Ytgmagldbfajedaa

