/-
  plans.Peak, of steps that are some: contract peak_any. drydocklaw01.SameSteps: contract sameSteps_any.
-/
import Derived.Test.YtgmagldbfajedaaPlOfW
namespace Go.Proofs.Ytgmagldbfajedaa
open Go.RowKit

/-- A step of a kind, at one of n nodes. -/
def OkStep (n : Nat) (s : Int × Int) : Prop := (1 ≤ s.1 ∧ s.1 ≤ 5) ∧ 0 ≤ s.2 ∧ s.2 < (n : Int)
theorem stepN_mem {l : List (Int × Int)} {i : Nat} (h : i < l.length) : stepN l i ∈ l := by
  unfold stepN; rw [List.getD_eq_getElem?_getD, List.getElem?_eq_getElem h]; exact List.getElem_mem h
theorem drop_step {l : List (Int × Int)} {k : Nat} (hk : k < l.length) : l.drop k = stepN l k :: l.drop (k + 1) := by
  rw [List.drop_eq_getElem_cons hk]
  congr 1
  unfold stepN; rw [List.getD_eq_getElem?_getD, List.getElem?_eq_getElem hk]; rfl

theorem Try.enters98 : ∀ args w, (callFunc 98 args).run Try.prog w = .ok (.enter 98 args) w := enters_of Try.func98 (by kernel_rfl) rfl

set_option maxHeartbeats 1000000 in
theorem peak1_any (P : Nat) (aC : Option Addr) (lC cC : Nat) (k v : Int) (w : World) (hP : w.cell? ⟨P, 0, none⟩ = some (.slice aC lC cC)) (_ : lC ≤ 9223372036854775807) (hk : OkStep lC (k, v)) :
    Calls Try.prog 98 #[.agg #[.int .u8 k, .int .i64 v], .pointer (some ⟨P, 0, none⟩)] w fun e w' => e = .returned (.bool false) ∧ Below w.heap.size w w' := by
  obtain ⟨⟨h1, h2⟩, h3, h4⟩ := hk
  simp only at h1 h2 h3 h4
  have d1 : decide (k < 1) = false := decide_eq_false (by omega)
  have d2 : decide (k > 5) = false := decide_eq_false (by omega)
  have d3 : decide (v < 0) = false := decide_eq_false (by omega)
  have d4 : decide (v ≥ (lC : Int)) = false := decide_eq_false (by omega)
  have hP' : ∀ o, (w.alloc o).cell? ⟨P, 0, none⟩ = some (.slice aC lC cC) := fun o => Lib.cell?_alloc_some _ hP
  go_enter Try.func98, Try.ntmps98
  go_wp2
  go_ret
  exact ⟨rfl, (Below.refl _ _).alloc (Nat.le_refl _) _⟩

set_option maxHeartbeats 1000000 in
set_option maxRecDepth 100000 in
theorem idxL_any (P : Nat) (aC : Option Addr) (lC cC : Nat) (a : Option Addr) (len cap : Nat) (l : List (Int × Int)) (w : World) (H : StepsIn w a len cap l) (hP : w.cell? ⟨P, 0, none⟩ = some (.slice aC lC cC)) (hPl : P < w.heap.size) (hl : lC ≤ 9223372036854775807) (hok : ∀ s ∈ l, OkStep lC s) :
    Calls Try.prog 130 #[.slice a len cap, .func (.func 98) #[] #[.pointer (some ⟨P, 0, none⟩)]] w fun e w' => e = .returned (.int .i64 (-1)) ∧ Below w.heap.size w w' := by
  have eg := Try.enters98
  have HI := Lib.hid H
  have HOK := Lib.hid hok
  have HP := Lib.hid hP
  obtain ⟨hle, hcap, hlen, _⟩ := H
  have HL := Lib.hid hlen; clear hlen hok hP
  go_enter Try.func130, Try.ntmps130
  go_wp2
  go_loopg [5, 8] len (fun gg _ i wr => ∃ k : Nat, k ≤ len ∧ len - k ≤ gg ∧ i = .int .i64 k ∧ Hid (Below w.heap.size w wr))
  case atStart => exact ⟨0, Nat.zero_le _, by omega, rfl, Below.refl _ _⟩
  case round =>
    obtain ⟨k, hk, hg, rfl, HB⟩ := hrel
    by_cases hlt : k < len
    · have dlt : decide ((k : Int) < (len : Int)) = true := decide_eq_true (by omega)
      obtain ⟨b, off, eA, hbl, hc⟩ := HI.out.at_ (by omega)
      obtain ⟨c0, c1⟩ := hc k hlt
      have kc0 := (HB.out.cell (p := ⟨b, _, none⟩) hbl).trans c0
      have kc1 := (HB.out.cell (p := ⟨b, _, none⟩) hbl).trans c1
      subst eA
      have HC := Lib.hid (peak1_any P aC lC cC (stepN l k).1 (stepN l k).2 wr ((HB.out.cell (p := ⟨P, 0, none⟩) hPl).trans HP.out) hl (HOK.out _ (stepN_mem (by rw [HL.out]; exact hlt))))
      clear hc c0 c1
      generalize (stepN l k).1 = kd at *
      generalize (stepN l k).2 = v at *
      go_wp2_with (go_at_fn 98; refine HC.out.mono ?_; rintro e w1 ⟨rfl, hb1⟩)
      go_roundg (len - (k + 1))
      case measure => omega
      case rel => exact ⟨k + 1, by omega, by omega, by go_num, below_step HB.out hb1 HB.out.size⟩
    · have dlt : decide ((k : Int) < (len : Int)) = false := decide_eq_false (by omega)
      go_wp2
      go_ret
      exact ⟨rfl, HB.out⟩

theorem contL_any (P : Nat) (aC : Option Addr) (lC cC : Nat) (a : Option Addr) (len cap : Nat) (l : List (Int × Int)) (w : World) (H : StepsIn w a len cap l) (hP : w.cell? ⟨P, 0, none⟩ = some (.slice aC lC cC)) (hPl : P < w.heap.size) (hl : lC ≤ 9223372036854775807) (hok : ∀ s ∈ l, OkStep lC s) :
    Calls Try.prog 97 #[.slice a len cap, .func (.func 98) #[] #[.pointer (some ⟨P, 0, none⟩)]] w fun e w' => e = .returned (.bool false) ∧ Below w.heap.size w w' := by
  have HI := Lib.hid (idxL_any P aC lC cC a len cap l w H hP hPl hl hok)
  clear H hP hok
  go_enter Try.func97, Try.ntmps97
  go_wp2_with fail
  refine HI.out.mono ?_
  rintro e w1 ⟨rfl, hb⟩
  have HB := Lib.hid hb; clear hb
  go_wp2
  go_ret
  exact ⟨rfl, HB.out⟩

set_option maxHeartbeats 2000000 in
set_option maxRecDepth 100000 in
theorem sameSteps_any (a b : Option Addr) (la ca lb cb : Nat) (l m : List (Int × Int)) (w : World) (HA : StepsIn w a la ca l) (HB : StepsIn w b lb cb m) (he : l = m) :
    Calls Try.prog 92 #[.slice a la ca, .slice b lb cb] w fun e w' => e = .returned (.bool true) ∧ Below w.heap.size w w' := by
  subst he
  obtain rfl : lb = la := by rw [← HA.length, HB.length]
  have KA := Lib.hid HA
  have KB := Lib.hid HB
  have hla := HA.le
  have hca := HA.cap_le
  have hlb := HB.le
  have hcb := HB.cap_le
  clear HA HB
  go_enter Try.func92, Try.ntmps92
  go_wp2
  go_loopg [5] lb (fun gg i wr => ∃ k : Nat, k ≤ lb ∧ lb - k ≤ gg ∧ i = .int .i64 k ∧ Hid (Below w.heap.size w wr))
  case atStart => exact ⟨0, Nat.zero_le _, by omega, rfl, Below.refl _ _⟩
  case round =>
    obtain ⟨k, hk, hg, rfl, HW⟩ := hrel
    by_cases hlt : k < lb
    · have dlt : decide ((k : Int) < (lb : Int)) = true := decide_eq_true (by omega)
      obtain ⟨b1, o1, rfl, _, hc1⟩ := (KA.out.below HW.out).at_ (by omega)
      obtain ⟨b2, o2, rfl, _, hc2⟩ := (KB.out.below HW.out).at_ (by omega)
      obtain ⟨p0, p1⟩ := hc1 k hlt
      obtain ⟨q0, q1⟩ := hc2 k hlt
      clear hc1 hc2
      generalize (stepN l k).1 = kd at *
      generalize (stepN l k).2 = v at *
      go_wp2_with fail
      go_quiet (fail)
      have HW2 : Hid (Below w.heap.size w (wr.drewN nq)) := HW.out.trans (below_drewN wr nq _)
      generalize wr.drewN nq = w3 at *
      go_wp2
      go_roundg (lb - (k + 1))
      case measure => exact Nat.lt_of_lt_of_le (Nat.sub_lt_sub_left hlt (Nat.lt_succ_self k)) hg
      case rel => exact ⟨k + 1, Nat.succ_le_of_lt hlt, Nat.le_refl _, by go_num, HW2⟩
    · have dlt : decide ((k : Int) < (lb : Int)) = false := decide_eq_false (by omega)
      go_wp2
      go_ret
      exact ⟨rfl, HW.out⟩

namespace Pl
/-- One step of the peak: the bytes of the node, behind it. -/
def isF (b : Nat → Int) (P : Nat → Int) (s : Int × Int) : Int := if s.1 = 1 ∨ s.1 = 3 then b s.2.toNat else if s.1 = 5 then 0 else P s.2.toNat
theorem peakF_cons (b P : Nat → Int) (us pk : Int) (s : Int × Int) (r : List (Int × Int)) : peakF b P us pk (s :: r) = peakF b (fun u => if u = s.2.toNat then isF b P s else P u) (us + (isF b P s - P s.2.toNat)) (Co.mx pk (us + (isF b P s - P s.2.toNat))) r := rfl
theorem peakF_congr (b : Nat → Int) : ∀ (l : List (Int × Int)) (P P' : Nat → Int) (us pk : Int), (∀ u, P u = P' u) → peakF b P us pk l = peakF b P' us pk l
  | l, P, P', us, pk, h => by rw [show P = P' from funext h]
end Pl

theorem nth_set_at (l : List Int) (i : Nat) (v : Int) (h : i < l.length) : nth (l.set i v) i = v := by
  unfold nth; rw [List.getD_eq_getElem?_getD, List.getElem?_set_self h]; rfl
theorem nth_set_ne (l : List Int) (i : Nat) (v : Int) (j : Nat) (h : j ≠ i) : nth (l.set i v) j = nth l j := by
  unfold nth; rw [List.getD_eq_getElem?_getD, List.getD_eq_getElem?_getD, List.getElem?_set_ne (Ne.symm h)]

set_option maxHeartbeats 4000000 in
set_option maxRecDepth 100000 in
theorem peak_any (a : Option Addr) (len cap : Nat) (g : List Gr.Node) (s : List (List Int)) (aL : Option Addr) (lL cL : Nat) (l : List (Int × Int)) (w : World) (HN : Nodes w a len cap g) (HL : StepsIn w aL lL cL l) (hs : Gr.shapes g = some s) (hok : ∀ x ∈ l, OkStep len x) (hll : lL ≤ 100000) :
    Calls Try.prog 56 #[.agg #[.slice a len cap], .slice aL lL cL] w fun e w' => e = .returned (.tuple #[.int .i64 (Pl.peakF (fun u => nth (Pl.bytesOf g s) u) (fun _ => 0) 0 0 l), .int .i64 0]) ∧ Below w.heap.size w w' := by
  obtain ⟨i0, hi0, hz0, hz1, hz2⟩ := info_parts Try.info3
  have LN := Lib.hid HN.length
  have KL := Lib.hid HL
  have LL := Lib.hid HL.length
  have HOK := Lib.hid hok
  have HS := Lib.hid hs
  have hLle := HL.le
  have hLcl := HL.cap_le
  have hle := HN.le
  have hcl := HN.cap_le
  have K0 := Lib.hid (GSt.start HN)
  clear HN HL hs hok
  go_enter Try.func56, Try.ntmps56
  go_wp2_with fail
  refine (cof_any _ _ _ g _ K0.out.n).mono ?_
  rintro e w1 ⟨hb, ⟨hs, _⟩ | ⟨s', aC, lC, hs, rfl, hC⟩⟩
  · rw [HS.out] at hs; cases hs
  obtain rfl : s' = s := by rw [HS.out] at hs; exact (Option.some.inj hs).symm
  have hlC : lC = g.length := by rw [← hC.length]; exact Co.costsK_length _ _ _
  obtain rfl : lC = len := by rw [hlC]; exact LN.out
  obtain ⟨⟨hl1, hl2⟩, _, _⟩ := Gr.shapes_iff.1 HS.out
  rw [LN.out] at hl1 hl2
  have hCle := hC.le
  have hCcl := hC.cap_le
  have hB2 : Below w1.heap.size w1 (w1.alloc (.cells #[.slice aC lC lC] 57)) := (Below.refl _ _).alloc (Nat.le_refl _) _
  have K2 := Lib.hid ((K0.out.on hb).on hB2)
  have HC2 := Lib.hid (hC.below hB2)
  have x0 : (w1.alloc (.cells #[.slice aC lC lC] 57)).cell? ⟨w1.heap.size, 0, none⟩ = some (.slice aC lC lC) := by rw [World.cell?_alloc_at _ _ _ _ rfl]; rfl
  have hz : w1.heap.size < (w1.alloc (.cells #[.slice aC lC lC] 57)).heap.size := by simp
  have HX0 := Lib.hid x0
  have HZ := Lib.hid hz
  have HCT := Lib.hid (contL_any w1.heap.size aC lC lC aL lL cL l _ (KL.out.below K2.out.bel) x0 hz (by omega) HOK.out)
  clear hb hs hC hB2 K0 hlC hz
  go_wp2_with fail
  refine HCT.out.mono ?_
  rintro e w3 ⟨rfl, hb⟩
  have K3 := Lib.hid (K2.out.on hb)
  have HC3 := Lib.hid (HC2.out.below hb)
  have y0 := (hb.cell (p := ⟨w1.heap.size, 0, none⟩) HZ.out).trans HX0.out
  have HY0 := Lib.hid y0
  have HZ3 : Hid (w1.heap.size < w3.heap.size) := Nat.lt_of_lt_of_le HZ.out hb.size
  clear hb x0 HCT HX0
  have HMR := Lib.hid (made_mine w3 lC (by omega))
  have hBm : Below w3.heap.size w3 (w3.alloc (.cells (madeCells #[.int .i64 0] lC) 3)) := (Below.refl _ _).alloc (Nat.le_refl _) _
  have HBm := Lib.hid hBm
  have HBY : Hid (∀ i, i < lC → 0 ≤ nth (Pl.bytesOf g s') i ∧ nth (Pl.bytesOf g s') i ≤ 20000) := fun i hi => by
    rw [Pl.bytes_at (by rw [LN.out]; exact hi)]
    have := Co.size_bounds HS.out (i := i) (by rw [LN.out]; exact hi)
    omega
  clear hBm
  go_wp2_with (refine wpList_make_row _ rfl _ _ 22 rfl 3 i0 (.int .i64 0) Try.underlying22 hi0 hz0 hz1 rfl .i64 .i64 lC rfl rfl (by rw [hz2]; omega) (by omega) ?_)
  go_wp2
  go_loopg [4, 8, 29] lL (fun gg pv uv i wr => ∃ (k : Nat) (P : List Int) (us pk : Int), k ≤ lL ∧ lL - k ≤ gg ∧ i = .int .i64 k ∧ uv = .int .i64 us ∧ pv = .int .i64 pk ∧ Hid (Mine w3.heap.size wr w3.heap.size 0 lC P) ∧ Hid (P.length = lC) ∧ Hid (∀ v ∈ P, 0 ≤ v ∧ v ≤ 20000) ∧
    (-(20000 * (k : Int)) ≤ us ∧ us ≤ 20000 * (k : Int)) ∧ (0 ≤ pk ∧ pk ≤ 20000 * (k : Int)) ∧ Hid (Pl.peakF (fun u => nth (Pl.bytesOf g s') u) (fun u => nth P u) us pk (l.drop k) = Pl.peakF (fun u => nth (Pl.bytesOf g s') u) (fun _ => 0) 0 0 l) ∧ Hid (Below w3.heap.size w3 wr))
  case atStart => exact ⟨0, List.replicate lC 0, 0, 0, Nat.zero_le _, by omega, rfl, rfl, rfl, HMR, by show _ = _; simp, (fun v hv => by have := List.eq_of_mem_replicate hv; omega), by omega, by omega, Pl.peakF_congr _ _ _ _ _ _ (fun u => by
    unfold nth; rw [List.getD_eq_getElem?_getD, List.getElem?_replicate]; split <;> rfl), HBm⟩
  case round =>
    obtain ⟨k, P, us, pk, hk, hg, rfl, rfl, rfl, HM, HPL, HPB, hus, hpk, HF, HB⟩ := hrel
    by_cases hlt : k < lL
    · have dlt : decide ((k : Int) < (lL : Int)) = true := decide_eq_true (by omega)
      have hkl : k < l.length := by rw [LL.out]; exact hlt
      obtain ⟨b, off, rfl, _, hc⟩ := ((KL.out.below K3.out.bel).below HB.out).at_ (by omega)
      obtain ⟨c0, c1⟩ := hc k hlt
      obtain ⟨⟨hk1, hk5⟩, hv0, hv1⟩ := HOK.out _ (stepN_mem hkl)
      have hF := HF.out
      rw [drop_step hkl, Pl.peakF_cons] at hF
      have HFd := Lib.hid hF
      clear hc hF hkl
      generalize stepN l k = st at *
      obtain ⟨kd, v⟩ := st
      simp only at c0 c1 hk1 hk5 hv0 hv1 HFd
      obtain ⟨n, rfl⟩ : ∃ n : Nat, v = (n : Int) := ⟨v.toNat, by omega⟩
      have hn : n < lC := by omega
      have hnP : n < P.length := by rw [HPL.out]; exact hn
      have m0 := HM.out.cell n hnP
      have mf := HM.out.fr n hnP
      rw [Nat.zero_add] at m0 mf
      obtain ⟨hq0, hq1⟩ := HPB.out _ (nth_mem P n hnP)
      obtain ⟨bC, oC, eC, _, hcC⟩ := (HC3.out.below HB.out).at_ (by omega)
      have kC := (hcC n hn).1
      rw [← Pl.bytes_nth (by rw [LN.out]; exact hn)] at kC
      obtain ⟨hy0, hy1⟩ := HBY.out n hn
      cases eC
      have yB := (HB.out.cell (p := ⟨w1.heap.size, 0, none⟩) HZ3.out).trans HY0.out
      rw [Int.toNat_natCast] at HFd
      have m0' : ∀ o, (wr.alloc o).cell? ⟨w3.heap.size, n, none⟩ = some (.int .i64 (nth P n)) := fun o => Lib.cell?_alloc_some _ m0
      have mf' : ∀ o, (wr.alloc o).frozen? ⟨w3.heap.size, n, none⟩ = false := fun o => (((Below.refl wr.heap.size wr).alloc (Nat.le_refl _) o).frozen (p := ⟨w3.heap.size, n, none⟩) HM.out.lt).trans mf
      have kC' : ∀ o, (wr.alloc o).cell? ⟨bC, oC + n * 3, none⟩ = some (.int .i64 (nth (Pl.bytesOf g s') n)) := fun o => Lib.cell?_alloc_some _ kC
      have yB' : ∀ o, (wr.alloc o).cell? ⟨w1.heap.size, 0, none⟩ = some (.slice (some ⟨bC, oC, none⟩) lC lC) := fun o => Lib.cell?_alloc_some _ yB
      have d1 : (kd == 1) = decide (kd = 1) := rfl
      clear d1
      by_cases e1 : kd = 1
      · have q1 : (kd == 1) = true := by simp [e1]
        have hq : Pl.isF (fun u => nth (Pl.bytesOf g s') u) (fun u => nth P u) (kd, (n : Int)) = nth (Pl.bytesOf g s') n := by unfold Pl.isF; rw [if_pos (.inl e1)]; rfl
        rw [hq] at HFd
        have hB8 : Below wr.heap.size wr (wr.alloc (.cells #[.int .u8 kd, .int .i64 (n : Int)] 82)) := (Below.refl _ _).alloc (Nat.le_refl _) _
        have hM2 := (HM.out.below hB8).set n hnP (nth (Pl.bytesOf g s') n)
        rw [Nat.zero_add] at hM2
        have HM2 := Lib.hid hM2
        have HB2 := Lib.hid (below_setCell (HB.out.trans (hB8.mono HB.out.size)) w3.heap.size n (.int .i64 (nth (Pl.bytesOf g s') n)) (Nat.le_refl _))
        have HF2 : Hid (Pl.peakF (fun u => nth (Pl.bytesOf g s') u) (fun u => nth (P.set n (nth (Pl.bytesOf g s') n)) u) (us + (nth (Pl.bytesOf g s') n - nth P n)) (Co.mx pk (us + (nth (Pl.bytesOf g s') n - nth P n))) (l.drop (k + 1)) = Pl.peakF (fun u => nth (Pl.bytesOf g s') u) (fun _ => 0) 0 0 l) := by
          show _ = _
          rw [← HFd.out]
          exact Pl.peakF_congr _ _ _ _ _ _ (fun u => by
            by_cases e : u = n
            · subst e; rw [if_pos rfl, nth_set_at _ _ _ hnP]
            · rw [if_neg e, nth_set_ne _ _ _ _ e])
        have HL2 : Hid ((P.set n (nth (Pl.bytesOf g s') n)).length = lC) := by show _ = _; rw [List.length_set]; exact HPL.out
        have HP2 : Hid (∀ v ∈ P.set n (nth (Pl.bytesOf g s') n), 0 ≤ v ∧ v ≤ 20000) := fun v hv => by
          rcases List.mem_or_eq_of_mem_set hv with h | h
          · exact HPB.out v h
          · rw [h]; exact ⟨by omega, by omega⟩
        have hmr := fun W => max_run W #[3, 3] 3 pk (us + (nth (Pl.bytesOf g s') n - nth P n))
        have hmb : 0 ≤ Co.mx pk (us + (nth (Pl.bytesOf g s') n - nth P n)) ∧ Co.mx pk (us + (nth (Pl.bytesOf g s') n - nth P n)) ≤ 20000 * ((k : Int) + 1) := by unfold Co.mx; split <;> omega
        clear e1 hM2 hB8 hq HFd
        generalize Co.mx pk (us + (nth (Pl.bytesOf g s') n - nth P n)) = pk2 at *
        generalize nth (Pl.bytesOf g s') n = bn at *
        generalize nth P n = pn at *
        go_wp2
        go_roundg (lL - (k + 1))
        case measure => exact Nat.lt_of_lt_of_le (Nat.sub_lt_sub_left hlt (Nat.lt_succ_self k)) hg
        case rel => exact ⟨k + 1, _, _, _, Nat.succ_le_of_lt hlt, Nat.le_refl _, by go_num, rfl, rfl, HM2, HL2, HP2, ⟨by omega, by omega⟩, ⟨by omega, by omega⟩, HF2, HB2⟩

      have q1 : (kd == 1) = false := by simp [e1]
      by_cases e3 : kd = 3
      · have q3 : (kd == 3) = true := by simp [e3]
        have hq : Pl.isF (fun u => nth (Pl.bytesOf g s') u) (fun u => nth P u) (kd, (n : Int)) = nth (Pl.bytesOf g s') n := by unfold Pl.isF; rw [if_pos (.inr e3)]; rfl
        rw [hq] at HFd
        have hB8 : Below wr.heap.size wr (wr.alloc (.cells #[.int .u8 kd, .int .i64 (n : Int)] 82)) := (Below.refl _ _).alloc (Nat.le_refl _) _
        have hM2 := (HM.out.below hB8).set n hnP (nth (Pl.bytesOf g s') n)
        rw [Nat.zero_add] at hM2
        have HM2 := Lib.hid hM2
        have HB2 := Lib.hid (below_setCell (HB.out.trans (hB8.mono HB.out.size)) w3.heap.size n (.int .i64 (nth (Pl.bytesOf g s') n)) (Nat.le_refl _))
        have HF2 : Hid (Pl.peakF (fun u => nth (Pl.bytesOf g s') u) (fun u => nth (P.set n (nth (Pl.bytesOf g s') n)) u) (us + (nth (Pl.bytesOf g s') n - nth P n)) (Co.mx pk (us + (nth (Pl.bytesOf g s') n - nth P n))) (l.drop (k + 1)) = Pl.peakF (fun u => nth (Pl.bytesOf g s') u) (fun _ => 0) 0 0 l) := by
          show _ = _
          rw [← HFd.out]
          exact Pl.peakF_congr _ _ _ _ _ _ (fun u => by
            by_cases e : u = n
            · subst e; rw [if_pos rfl, nth_set_at _ _ _ hnP]
            · rw [if_neg e, nth_set_ne _ _ _ _ e])
        have HL2 : Hid ((P.set n (nth (Pl.bytesOf g s') n)).length = lC) := by show _ = _; rw [List.length_set]; exact HPL.out
        have HP2 : Hid (∀ v ∈ P.set n (nth (Pl.bytesOf g s') n), 0 ≤ v ∧ v ≤ 20000) := fun v hv => by
          rcases List.mem_or_eq_of_mem_set hv with h | h
          · exact HPB.out v h
          · rw [h]; exact ⟨by omega, by omega⟩
        have hmr := fun W => max_run W #[3, 3] 3 pk (us + (nth (Pl.bytesOf g s') n - nth P n))
        have hmb : 0 ≤ Co.mx pk (us + (nth (Pl.bytesOf g s') n - nth P n)) ∧ Co.mx pk (us + (nth (Pl.bytesOf g s') n - nth P n)) ≤ 20000 * ((k : Int) + 1) := by unfold Co.mx; split <;> omega
        clear e1 e3 hM2 hB8 hq HFd
        generalize Co.mx pk (us + (nth (Pl.bytesOf g s') n - nth P n)) = pk2 at *
        generalize nth (Pl.bytesOf g s') n = bn at *
        generalize nth P n = pn at *
        go_wp2
        go_roundg (lL - (k + 1))
        case measure => exact Nat.lt_of_lt_of_le (Nat.sub_lt_sub_left hlt (Nat.lt_succ_self k)) hg
        case rel => exact ⟨k + 1, _, _, _, Nat.succ_le_of_lt hlt, Nat.le_refl _, by go_num, rfl, rfl, HM2, HL2, HP2, ⟨by omega, by omega⟩, ⟨by omega, by omega⟩, HF2, HB2⟩

      have q3 : (kd == 3) = false := by simp [e3]
      by_cases e5 : kd = 5
      · have q5 : (kd == 5) = true := by simp [e5]
        have hq : Pl.isF (fun u => nth (Pl.bytesOf g s') u) (fun u => nth P u) (kd, (n : Int)) = 0 := by unfold Pl.isF; rw [if_neg (by simp only; omega), if_pos e5]
        rw [hq, show us + (0 - nth P n) = us + -nth P n by omega] at HFd
        have hB8 : Below wr.heap.size wr (wr.alloc (.cells #[.int .u8 kd, .int .i64 (n : Int)] 82)) := (Below.refl _ _).alloc (Nat.le_refl _) _
        have hM2 := (HM.out.below hB8).set n hnP (0)
        rw [Nat.zero_add] at hM2
        have HM2 := Lib.hid hM2
        have HB2 := Lib.hid (below_setCell (HB.out.trans (hB8.mono HB.out.size)) w3.heap.size n (.int .i64 (0)) (Nat.le_refl _))
        have HF2 : Hid (Pl.peakF (fun u => nth (Pl.bytesOf g s') u) (fun u => nth (P.set n (0)) u) (us + -nth P n) (Co.mx pk (us + -nth P n)) (l.drop (k + 1)) = Pl.peakF (fun u => nth (Pl.bytesOf g s') u) (fun _ => 0) 0 0 l) := by
          show _ = _
          rw [← HFd.out]
          exact Pl.peakF_congr _ _ _ _ _ _ (fun u => by
            by_cases e : u = n
            · subst e; rw [if_pos rfl, nth_set_at _ _ _ hnP]
            · rw [if_neg e, nth_set_ne _ _ _ _ e])
        have HL2 : Hid ((P.set n (0)).length = lC) := by show _ = _; rw [List.length_set]; exact HPL.out
        have HP2 : Hid (∀ v ∈ P.set n (0), 0 ≤ v ∧ v ≤ 20000) := fun v hv => by
          rcases List.mem_or_eq_of_mem_set hv with h | h
          · exact HPB.out v h
          · rw [h]; exact ⟨by omega, by omega⟩
        have hmr := fun W => max_run W #[3, 3] 3 pk (us + -nth P n)
        have hmb : 0 ≤ Co.mx pk (us + -nth P n) ∧ Co.mx pk (us + -nth P n) ≤ 20000 * ((k : Int) + 1) := by unfold Co.mx; split <;> omega
        clear e1 e3 e5 hM2 hB8 hq HFd
        generalize Co.mx pk (us + -nth P n) = pk2 at *
        generalize nth (Pl.bytesOf g s') n = bn at *
        generalize nth P n = pn at *
        go_wp2
        go_roundg (lL - (k + 1))
        case measure => exact Nat.lt_of_lt_of_le (Nat.sub_lt_sub_left hlt (Nat.lt_succ_self k)) hg
        case rel => exact ⟨k + 1, _, _, _, Nat.succ_le_of_lt hlt, Nat.le_refl _, by go_num, rfl, rfl, HM2, HL2, HP2, ⟨by omega, by omega⟩, ⟨by omega, by omega⟩, HF2, HB2⟩

      have q5 : (kd == 5) = false := by simp [e5]

      have hq : Pl.isF (fun u => nth (Pl.bytesOf g s') u) (fun u => nth P u) (kd, (n : Int)) = nth P n := by unfold Pl.isF; rw [if_neg (by simp only; omega), if_neg e5]; rfl
      rw [hq, show us + (nth P n - nth P n) = us by omega] at HFd
      have hB8 : Below wr.heap.size wr (wr.alloc (.cells #[.int .u8 kd, .int .i64 (n : Int)] 82)) := (Below.refl _ _).alloc (Nat.le_refl _) _
      have hM2 := (HM.out.below hB8).set n hnP (nth P n)
      rw [Nat.zero_add] at hM2
      have HM2 := Lib.hid hM2
      have HB2 := Lib.hid (below_setCell (HB.out.trans (hB8.mono HB.out.size)) w3.heap.size n (.int .i64 (nth P n)) (Nat.le_refl _))
      have HF2 : Hid (Pl.peakF (fun u => nth (Pl.bytesOf g s') u) (fun u => nth (P.set n (nth P n)) u) us (Co.mx pk us) (l.drop (k + 1)) = Pl.peakF (fun u => nth (Pl.bytesOf g s') u) (fun _ => 0) 0 0 l) := by
        show _ = _
        rw [← HFd.out]
        exact Pl.peakF_congr _ _ _ _ _ _ (fun u => by
          by_cases e : u = n
          · subst e; rw [if_pos rfl, nth_set_at _ _ _ hnP]
          · rw [if_neg e, nth_set_ne _ _ _ _ e])
      have HL2 : Hid ((P.set n (nth P n)).length = lC) := by show _ = _; rw [List.length_set]; exact HPL.out
      have HP2 : Hid (∀ v ∈ P.set n (nth P n), 0 ≤ v ∧ v ≤ 20000) := fun v hv => by
        rcases List.mem_or_eq_of_mem_set hv with h | h
        · exact HPB.out v h
        · rw [h]; exact ⟨by omega, by omega⟩
      have hmr := fun W => max_run W #[3, 3] 3 pk us
      have hmb : 0 ≤ Co.mx pk us ∧ Co.mx pk us ≤ 20000 * ((k : Int) + 1) := by unfold Co.mx; split <;> omega
      clear e1 e3 e5 hM2 hB8 hq HFd
      generalize Co.mx pk us = pk2 at *
      generalize nth (Pl.bytesOf g s') n = bn at *
      generalize nth P n = pn at *
      go_wp2
      go_roundg (lL - (k + 1))
      case measure => exact Nat.lt_of_lt_of_le (Nat.sub_lt_sub_left hlt (Nat.lt_succ_self k)) hg
      case rel => exact ⟨k + 1, _, _, _, Nat.succ_le_of_lt hlt, Nat.le_refl _, by go_num, rfl, rfl, HM2, HL2, HP2, ⟨by omega, by omega⟩, ⟨by omega, by omega⟩, HF2, HB2⟩
    · have dlt : decide ((k : Int) < (lL : Int)) = false := decide_eq_false (by omega)
      rw [List.drop_of_length_le (by rw [LL.out]; omega)] at HF
      have HR : Hid (pk = Pl.peakF (fun u => nth (Pl.bytesOf g s') u) (fun _ => 0) 0 0 l) := HF.out
      go_wp2
      go_ret2
      exact ⟨by rw [← HR.out]; rfl, (K3.out.on HB.out).bel⟩
end Go.Proofs.Ytgmagldbfajedaa
