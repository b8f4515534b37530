/-
  drydocklaw21.EvictsNone: the walk none_walk (it returns true, and changes nothing below).
-/
import Derived.Test.YtgmagldbfajedaaEvRoom
namespace Go.Proofs.Ytgmagldbfajedaa
open Go.RowKit

namespace Ev
/-- Of those that are not pinned those that have bytes. -/
def heavy (bytes pin inn : List Int) : List Int := (frees pin inn).filter fun v => decide (0 < at_ bytes v)

theorem heavy_hit (bytes pin l : List Int) (k : Nat) (hk : k < l.length) (h : hasB pin (nth l k) = true) : heavy bytes pin (l.take (k + 1)) = heavy bytes pin (l.take k) := by
  unfold heavy; rw [(frees_hit pin l k hk h).1]
theorem heavy_light (bytes pin l : List Int) (k : Nat) (hk : k < l.length) (h : hasB pin (nth l k) = false) (h0 : ¬ 0 < at_ bytes (nth l k)) : heavy bytes pin (l.take (k + 1)) = heavy bytes pin (l.take k) := by
  unfold heavy; rw [(frees_miss pin l k hk h).1, List.filter_append]; simp [h0]
theorem heavy_more (bytes pin l : List Int) (k : Nat) (hk : k < l.length) (h : hasB pin (nth l k) = false) (h0 : 0 < at_ bytes (nth l k)) : heavy bytes pin (l.take (k + 1)) = heavy bytes pin (l.take k) ++ [nth l k] := by
  unfold heavy; rw [(frees_miss pin l k hk h).1, List.filter_append]; simp [h0]
theorem heavy_mem {bytes pin l : List Int} {v : Int} (h : v ∈ heavy bytes pin l) : v ∈ l ∧ ¬ v ∈ pin ∧ 0 < at_ bytes v := by
  simp only [heavy, frees, List.mem_filter, decide_eq_true_eq, Bool.not_eq_true'] at h
  exact ⟨h.1.1, (hasB_false _ _).1 h.1.2, h.2⟩
theorem heavy_le (bytes pin l : List Int) (k : Nat) : (heavy bytes pin (l.take k)).length ≤ k := Nat.le_trans (List.length_filter_le _ _) (frees_le pin l k)
end Ev

theorem quiet_more {P : Program} {f : FuncId} {args : Array Value} {w : World} {m a : Nat} {v : Value} (h : Calls P f args (w.drewN (m + a)) fun e w' => e = .returned v ∧ w' = w.drewN (m + a)) :
    Calls P f args (w.drewN (m + a)) fun e w' => e = .returned v ∧ ∃ n, w' = w.drewN (m + n) := h.mono fun _ _ ⟨h1, h2⟩ => ⟨h1, a, h2⟩

theorem Own.drewN {base : Nat} {w : World} {v : Value} {l : List Int} (h : Own base w v l) (n : Nat) : Own base (w.drewN n) v l := h.below (below_drewN _ _ _)

set_option maxHeartbeats 2000000 in
set_option maxRecDepth 100000 in
theorem none_walk (ai ap ab an : Option Addr) (li ci lp cp lb cb ln cn : Nat) (inn pin bytes next : List Int) (room need : Int) (w : World)
    (HI : Ints w ai li ci inn) (HP : Ints w ap lp cp pin) (HB : Ints w ab lb cb bytes) (HN : Ints w an ln cn next)
    (g1 : li ≤ 17592186044416) (g2 : lp ≤ 17592186044416) (g3 : lb ≤ 17592186044416) (g4 : ln ≤ 17592186044416)
    (hr : -9223372036854775808 ≤ room ∧ room ≤ 9223372036854775807) (hd : -9223372036854775808 ≤ need ∧ need ≤ 9223372036854775807) :
    Calls Try.prog 6 #[.agg #[.slice ai li ci, .slice ap lp cp, .int .i64 room, .int .i64 need, .slice ab lb cb, .slice an ln cn]] w fun e w' => e = .returned (.bool true) ∧ Below w.heap.size w w' := by
  have KI := Lib.hid HI
  have KP := Lib.hid HP
  have KB := Lib.hid HB
  have KN := Lib.hid HN
  clear HI HP HB HN
  go_enter Try.func6, Try.ntmps6
  go_wp2_with fail
  refine (great_any ai ap ab an li ci lp cp lb cb ln cn _ _ room need rfl rfl _ g1 g2 g3 g4).mono ?_
  rintro e w1 ⟨rfl, hb⟩
  have hb1 : Below w.heap.size w w1 := ((Below.refl _ _).alloc (Nat.le_refl _) _).trans (hb.mono (by simp))
  have hs1 : w.heap.size < w1.heap.size := by have := hb.size; simp at this; omega
  by_cases hgr : 400 < li + lp + lb + ln
  · rw [decide_eq_true hgr]
    have HB1 := Lib.hid hb1; clear hb hb1
    go_wp2_with fail
    refine (lives21_any _).mono ?_
    rintro e w2 ⟨rfl, hb2⟩
    have HB2 := Lib.hid (HB1.out.trans (hb2.mono HB1.out.size)); clear hb2
    go_wp2
    go_ret
    exact ⟨rfl, HB2.out⟩
  · rw [decide_eq_false hgr]
    have c0 : w1.cell? ⟨w.heap.size, 0, none⟩ = some (.slice ai li ci) := by rw [hb.cell (p := ⟨w.heap.size, 0, none⟩) (by simp), World.cell?_alloc_at _ _ _ _ rfl]; rfl
    have c1 : w1.cell? ⟨w.heap.size, 1, none⟩ = some (.slice ap lp cp) := by rw [hb.cell (p := ⟨w.heap.size, 1, none⟩) (by simp), World.cell?_alloc_at _ _ _ _ rfl]; rfl
    have c2 : w1.cell? ⟨w.heap.size, 2, none⟩ = some (.int .i64 room) := by rw [hb.cell (p := ⟨w.heap.size, 2, none⟩) (by simp), World.cell?_alloc_at _ _ _ _ rfl]; rfl
    have c3 : w1.cell? ⟨w.heap.size, 3, none⟩ = some (.int .i64 need) := by rw [hb.cell (p := ⟨w.heap.size, 3, none⟩) (by simp), World.cell?_alloc_at _ _ _ _ rfl]; rfl
    have c4 : w1.cell? ⟨w.heap.size, 4, none⟩ = some (.slice ab lb cb) := by rw [hb.cell (p := ⟨w.heap.size, 4, none⟩) (by simp), World.cell?_alloc_at _ _ _ _ rfl]; rfl
    have c5 : w1.cell? ⟨w.heap.size, 5, none⟩ = some (.slice an ln cn) := by rw [hb.cell (p := ⟨w.heap.size, 5, none⟩) (by simp), World.cell?_alloc_at _ _ _ _ rfl]; rfl
    have HB1 := Lib.hid hb1; clear hb hb1
    go_wp2_with fail
    refine (pick_any _ _ _ _ _ _ _ _ _ _ _ _ inn pin bytes next room need _ (KI.out.below HB1.out) (KP.out.below HB1.out) (KB.out.below HB1.out) (KN.out.below HB1.out) (by omega) hr hd).mono ?_
    rintro e w2 ⟨al, ll, cl, rfl, hL, hb2, _⟩
    clear hL
    have d0 := (hb2.cell (p := ⟨w.heap.size, 0, none⟩) hs1).trans c0
    have d1 := (hb2.cell (p := ⟨w.heap.size, 1, none⟩) hs1).trans c1
    have d4 := (hb2.cell (p := ⟨w.heap.size, 4, none⟩) hs1).trans c4
    have d5 := (hb2.cell (p := ⟨w.heap.size, 5, none⟩) hs1).trans c5
    have HB2 := Lib.hid (HB1.out.trans (hb2.mono (by omega)))
    have hs2 : w.heap.size < w2.heap.size := Nat.lt_of_lt_of_le hs1 hb2.size
    clear hb2 c0 c1 c2 c3 c4 c5 hs1
    by_cases hE : Ev.pickE inn pin bytes next room need = 1
    · rw [hE]
      clear hE
      go_wp2_with fail
      refine (lives21_any _).mono ?_
      rintro e w3 ⟨rfl, hb3⟩
      have HL3 := Lib.hid hb3; clear hb3
      go_wp2
      go_ret
      exact ⟨rfl, HB2.out.trans (HL3.out.mono (by omega))⟩
    · have hne : (Ev.pickE inn pin bytes next room need == 1) = false := by simp [hE]
      have KA : Hid (∀ room' need', (0 ≤ room' ∧ room' ≤ 1048576) → (0 ≤ need' ∧ need' ≤ 1048576) → Ev.argsB inn pin bytes next room' need' = true) := fun _ _ h1 h2 => Ev.none_args hE h1 h2
      obtain ⟨n1, n2, n3, n4, _, _⟩ := Ev.args_parts (KA.out 0 0 ⟨by omega, by omega⟩ ⟨by omega, by omega⟩)
      rw [KB.out.length] at n1 n2
      have N1 := Lib.hid n1
      have KW := Lib.hid n4
      clear hE n1 n2 n3 n4 hr hd g1 g2 g3 g4
      generalize Ev.pickE inn pin bytes next room need = E0 at *
      go_wp2
      go_loopg [5, 6, 7, 8] li (fun gg u p fr i wr => ∃ k : Nat, k ≤ li ∧ li - k ≤ gg ∧ i = .int .i64 k ∧ u = .int .i64 (Ev.sumB bytes (inn.take k)) ∧ p = .int .i64 (Ev.sumB bytes (Ev.pins pin (inn.take k))) ∧
        Hid (Own w2.heap.size wr fr (Ev.heavy bytes pin (inn.take k))) ∧ Hid (Below w2.heap.size w2 wr))
      case atStart => exact ⟨0, Nat.zero_le _, by omega, rfl, by simp [Ev.sumB], by simp [Ev.sumB, Ev.pins], Own.nil _ _, Below.refl _ _⟩
      case round =>
        obtain ⟨k, hk, hg, rfl, rfl, rfl, HO, HWr⟩ := hrel
        have r0 := (HWr.out.cell (p := ⟨w.heap.size, 0, none⟩) hs2).trans d0
        have r1 := (HWr.out.cell (p := ⟨w.heap.size, 1, none⟩) hs2).trans d1
        have r4 := (HWr.out.cell (p := ⟨w.heap.size, 4, none⟩) hs2).trans d4
        have r5 := (HWr.out.cell (p := ⟨w.heap.size, 5, none⟩) hs2).trans d5
        have KIr := Lib.hid ((KI.out.below HB2.out).below HWr.out)
        have KPr := Lib.hid ((KP.out.below HB2.out).below HWr.out)
        have KBr := Lib.hid ((KB.out.below HB2.out).below HWr.out)
        have hsum := Ev.sumB_bounds bytes (inn.take k) KW.out (fun v hv => by rw [KB.out.length]; exact Ev.nodesB_mem N1.out v (List.mem_of_mem_take hv))
        have hsum2 := Ev.sumB_bounds bytes (Ev.pins pin (inn.take k)) KW.out (fun v hv => by rw [KB.out.length]; exact Ev.nodesB_mem N1.out v (List.mem_of_mem_take (List.mem_filter.1 hv).1))
        have hlen1 : (inn.take k).length ≤ k := List.length_take_le _ _
        have hlen2 := Ev.pins_le pin inn k
        have hlen3 := Ev.heavy_le bytes pin inn k
        obtain ⟨hs0, hs1⟩ := hsum
        obtain ⟨hp0, hp1⟩ := hsum2
        by_cases hlt : k < li
        · have hkl : k < inn.length := by rw [KI.out.length]; exact hlt
          obtain ⟨hv0, hv1⟩ := Ev.nodesB_mem N1.out (nth inn k) (nth_mem inn k hkl)
          obtain ⟨bi, oi, rfl, _, hci⟩ := KIr.out.at_ (by omega)
          have hck := hci k hlt
          clear hci
          obtain ⟨bb, ob, rfl, _, hcb⟩ := KBr.out.get hv0 hv1
          obtain ⟨hw0, hw1⟩ := Ev.at_within bytes KW.out (nth inn k) hv0 (by rw [KB.out.length]; exact hv1)
          have HS := Lib.hid (Ev.sumB_snoc bytes inn k hkl)
          have hki : (k : Int) < (li : Int) := by omega
          have rs : IntKind.i64.wrap (Ev.sumB bytes (inn.take k) + Ev.at_ bytes (nth inn k)) = Ev.sumB bytes (inn.take k) + Ev.at_ bytes (nth inn k) := by rw [IntKind.wrap_i64]; omega
          have rp : IntKind.i64.wrap (Ev.sumB bytes (Ev.pins pin (inn.take k)) + Ev.at_ bytes (nth inn k)) = Ev.sumB bytes (Ev.pins pin (inn.take k)) + Ev.at_ bytes (nth inn k) := by rw [IntKind.wrap_i64]; omega
          cases hh : hasB pin (nth inn k) with
          | true =>
            have HF := Lib.hid (Ev.frees_hit pin inn k hkl hh)
            have HV := Lib.hid (Ev.heavy_hit bytes pin inn k hkl hh)
            have HP2 : Hid (Ev.sumB bytes (Ev.pins pin (inn.take (k + 1))) = Ev.sumB bytes (Ev.pins pin (inn.take k)) + Ev.at_ bytes (nth inn k)) := by
              show _ = _; rw [HF.out.2, Ev.sumB_append]; simp [Ev.sumB]
            go_wp2_with fail
            go_quiet (fail)
            have HA := Lib.hid (fun n => has_at KPr.out hh n)
            clear hh
            go_wp2_with fail
            go_quiet ((go_at_call 29; exact quiet_more (HA.out _)))
            go_wp2_with fail
            go_quiet (fail)
            clear rs rp
            go_wp2
            go_roundg (li - (k + 1))
            case measure => omega
            case rel => exact ⟨k + 1, by omega, by omega, by go_num, by rw [HS.out], by rw [HP2.out], by rw [HV.out]; exact HO.out.below (below_drewN _ _ _), HWr.out.trans (below_drewN _ _ _)⟩
          | false =>
            have HF := Lib.hid (Ev.frees_miss pin inn k hkl hh)
            by_cases hz : 0 < Ev.at_ bytes (nth inn k)
            · have HV := Lib.hid (Ev.heavy_more bytes pin inn k hkl hh hz)
              have hz' : decide (0 < Ev.at_ bytes (nth inn k)) = true := decide_eq_true hz
              go_wp2_with fail
              go_quiet (fail)
              have HA := Lib.hid (fun n => has_at KPr.out hh n)
              clear hh
              go_wp2_with fail
              go_quiet ((go_at_call 29; exact quiet_more (HA.out _)))
              go_wp2_with fail
              go_quiet (fail)
              clear rs rp
              have HOq : Hid (∀ n, Own w2.heap.size (wr.drewN n) _ (Ev.heavy bytes pin (inn.take k))) := fun n => HO.out.drewN n
              go_wp2_with (at_builtin; go_must (refine wpList_app1 _ rfl _ _ rfl w2.heap.size _ _ _ (HOq.out _) rfl rfl HWr.out.size ?c1 ?_))
              case c1 => omega
              intro v' w3 hown' hbel hgrow
              have HO' := Lib.hid hown'
              have HW3 : Hid (Below w2.heap.size w2 w3) := (HWr.out.trans (below_drewN _ _ _)).trans hbel
              clear hown' hbel hgrow
              go_wp2
              go_roundg (li - (k + 1))
              case measure => omega
              case rel => exact ⟨k + 1, by omega, by omega, by go_num, by rw [HS.out], by rw [HF.out.2], by rw [HV.out]; exact HO', HW3⟩
            · have HV := Lib.hid (Ev.heavy_light bytes pin inn k hkl hh hz)
              have hz' : decide (0 < Ev.at_ bytes (nth inn k)) = false := decide_eq_false hz
              go_wp2_with fail
              go_quiet (fail)
              have HA := Lib.hid (fun n => has_at KPr.out hh n)
              clear hh
              go_wp2_with fail
              go_quiet ((go_at_call 29; exact quiet_more (HA.out _)))
              go_wp2_with fail
              go_quiet (fail)
              clear rs rp
              go_wp2
              go_roundg (li - (k + 1))
              case measure => omega
              case rel => exact ⟨k + 1, by omega, by omega, by go_num, by rw [HS.out], by rw [HF.out.2], by rw [HV.out]; exact HO.out.below (below_drewN _ _ _), HWr.out.trans (below_drewN _ _ _)⟩
        · have hkl : inn.length ≤ k := by rw [KI.out.length]; omega
          rw [List.take_of_length_le hkl] at HO hs0 hs1 hp0 hp1 hlen1 hlen2 hlen3
          rw [List.take_of_length_le hkl]
          have hspl := Ev.sumB_split bytes pin inn
          have hfr := (Ev.sumB_bounds bytes (Ev.frees pin inn) KW.out (fun v hv => by rw [KB.out.length]; exact Ev.nodesB_mem N1.out v (List.mem_filter.1 hv).1)).1
          have hPU : Ev.sumB bytes (Ev.pins pin inn) ≤ Ev.sumB bytes inn := by omega
          have hil : inn.length ≤ 400 := by have := KI.out.length; omega
          have hpl : (Ev.pins pin inn).length ≤ inn.length := List.length_filter_le _ _
          have hsz2 := HWr.out.size
          have KP1 := Lib.hid (fun (h : Ev.sumB bytes inn ≤ 1048576) => Ev.none_ok (KA.out (Ev.sumB bytes inn) 0 ⟨by omega, h⟩ ⟨by omega, by omega⟩) (by omega))
          have KP2 := Lib.hid (fun (h : Ev.sumB bytes inn ≤ 1048576) => Ev.none_ok (KA.out (Ev.sumB bytes inn) (Ev.sumB bytes inn - Ev.sumB bytes (Ev.pins pin inn)) ⟨by omega, h⟩ ⟨by omega, by omega⟩) (by omega))
          have KL1 := Lib.hid (Ev.none_first (inn := inn) (pin := pin) (bytes := bytes) (next := next) rfl)
          have KL2 := Lib.hid (fun (h : Ev.pickE inn pin bytes next (Ev.sumB bytes inn) (Ev.sumB bytes inn - Ev.sumB bytes (Ev.pins pin inn)) = 0) v hv hp hb => Ev.none_all h v hv hp hb)
          have HMem := Lib.hid (fun v (hv : v ∈ Ev.heavy bytes pin inn) => Ev.heavy_mem hv)
          have hwfF : ∀ n ∈ Ev.heavy bytes pin inn, -9223372036854775808 ≤ n ∧ n ≤ 9223372036854775807 := fun n hn => KI.out.wf n (Ev.heavy_mem hn).1
          obtain ⟨af, lf, cf, rfl, HFi, _⟩ := HO.out.ints hwfF
          have HFI := Lib.hid HFi
          have HB3 := Lib.hid (HB2.out.trans (HWr.out.mono (by omega)))
          clear HO HFi hwfF hlen1 hlen2 hlen3 hg KIr KPr KBr hne HWr hkl hpl
          generalize Ev.heavy bytes pin inn = F at *
          by_cases hmx : Ev.sumB bytes inn ≤ 1048576
          · have hmx' : decide (Ev.sumB bytes inn > 1048576) = false := decide_eq_false (by omega)
            have hmx2 : decide (1048576 < Ev.sumB bytes inn) = false := decide_eq_false (by omega)
            have E1 := KP1.out hmx
            have E2 := Lib.hid (KP2.out hmx)
            have M2 := Lib.hid (KL2.out E2.out)
            clear KP1 KP2 KL2
            generalize hM : Ev.pickL inn pin bytes next (Ev.sumB bytes inn) (Ev.sumB bytes inn - Ev.sumB bytes (Ev.pins pin inn)) = M at *
            generalize hU : Ev.sumB bytes inn = U at *
            generalize hPp : Ev.sumB bytes (Ev.pins pin inn) = P at *
            have HM := Lib.hid hM
            clear hM hU hPp hspl
            go_wp2_with fail
            refine (pick_any _ _ _ _ _ _ _ _ _ _ _ _ inn pin bytes next U 0 _ (KI.out.below HB3.out) (KP.out.below HB3.out) (KB.out.below HB3.out) (KN.out.below HB3.out) (by omega) ⟨by omega, by omega⟩ ⟨by omega, by omega⟩).mono ?_
            rintro e w3 ⟨al3, ll3, cl3, rfl, hL3, hb3, _⟩
            have hl0 := hL3.length
            rw [KL1.out] at hl0
            simp only [List.length_nil] at hl0
            obtain rfl : ll3 = 0 := hl0.symm
            rw [E1]
            have HB4 := Lib.hid (HB3.out.trans (hb3.mono (by omega)))
            have HF4 := Lib.hid (HFI.out.below hb3)
            have s0 := (hb3.cell (p := ⟨w.heap.size, 0, none⟩) (by show w.heap.size < wr.heap.size; omega)).trans r0
            have s1 := (hb3.cell (p := ⟨w.heap.size, 1, none⟩) (by show w.heap.size < wr.heap.size; omega)).trans r1
            have s4 := (hb3.cell (p := ⟨w.heap.size, 4, none⟩) (by show w.heap.size < wr.heap.size; omega)).trans r4
            have s5 := (hb3.cell (p := ⟨w.heap.size, 5, none⟩) (by show w.heap.size < wr.heap.size; omega)).trans r5
            have hsz3 := hb3.size
            clear hL3 hl0 E1 KL1 hb3 r0 r1 r4 r5 HFI
            go_wp2_with fail
            refine (pick_any _ _ _ _ _ _ _ _ _ _ _ _ inn pin bytes next U (U - P) _ (KI.out.below HB4.out) (KP.out.below HB4.out) (KB.out.below HB4.out) (KN.out.below HB4.out) (by omega) ⟨by omega, by omega⟩ ⟨by omega, by omega⟩).mono ?_
            rintro e w4 ⟨am, lm, cm, rfl, hL4, hb4, _⟩
            rw [E2.out]
            rw [HM.out] at hL4
            have KM := Lib.hid hL4
            have HF5 := Lib.hid (HF4.out.below hb4)
            have HB5 := Lib.hid (HB4.out.trans (hb4.mono (by omega)))
            have hsz4 := hb4.size
            obtain ⟨hlc, hcc, hlF, _, _⟩ := HF5.out
            have HLF := Lib.hid hlF
            clear hL4 hb4 E2 HF4 s0 s1 s4 s5 HM hlF
            go_wp2
            go_loopg [13] lf (fun gg i wr => ∃ j : Nat, j ≤ lf ∧ lf - j ≤ gg ∧ i = .int .i64 j ∧ Hid (Below w4.heap.size w4 wr))
            case atStart => exact ⟨0, Nat.zero_le _, by omega, rfl, Below.refl _ _⟩
            case round =>
              obtain ⟨j, hj, hgj, rfl, HWv⟩ := hrel
              by_cases hlt2 : j < lf
              · have hjl : j < F.length := by rw [HLF.out]; exact hlt2
                have hfm := nth_mem F j hjl
                obtain ⟨m1, m2, m3⟩ := HMem.out _ hfm
                have hA : hasB M (nth F j) = true := (hasB_iff _ _).2 (M2.out _ m1 m2 m3)
                have HA := Lib.hid hA
                obtain ⟨bF, oF, rfl, _, hcF⟩ := (HF5.out.below HWv.out).at_ (by omega)
                have hcj := hcF j hlt2
                have KMv := Lib.hid (KM.out.below HWv.out)
                clear hcF hfm m1 m2 m3 hA
                go_wp2_with fail
                refine (has_any am lm cm M (nth F j) _ KMv.out).mono ?_
                rintro e w5 ⟨rfl, rfl⟩
                rw [HA.out]
                go_wp2
                go_roundg (lf - (j + 1))
                case measure => omega
                case rel => exact ⟨j + 1, by omega, by omega, by go_num, HWv.out⟩
              · go_wp2_with fail
                refine (lives21_any _).mono ?_
                rintro e w5 ⟨rfl, hb5⟩
                have HL5 := Lib.hid hb5; clear hb5
                go_wp2
                go_ret
                exact ⟨rfl, (HB5.out.trans (HWv.out.mono (by omega))).trans (HL5.out.mono (by have := HWv.out.size; omega))⟩
          · have hmx' : decide (Ev.sumB bytes inn > 1048576) = true := decide_eq_true (by omega)
            have hmx2 : decide (1048576 < Ev.sumB bytes inn) = true := decide_eq_true (by omega)
            clear KP1 KP2 KL1 KL2 hspl
            go_wp2_with fail
            refine (lives21_any _).mono ?_
            rintro e w3 ⟨rfl, hb3⟩
            have HL3 := Lib.hid hb3; clear hb3
            go_wp2
            go_ret
            exact ⟨rfl, HB3.out.trans (HL3.out.mono (by omega))⟩
end Go.Proofs.Ytgmagldbfajedaa
