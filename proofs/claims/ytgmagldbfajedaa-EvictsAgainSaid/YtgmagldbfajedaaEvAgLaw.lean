/-
  The law EvictsAgain, walked: contract evagain_walk.
-/
import Derived.Test.YtgmagldbfajedaaEvAgP
import Derived.Test.YtgmagldbfajedaaRfU
import Derived.Test.YtgmagldbfajedaaEvLives
namespace Go.Proofs.Ytgmagldbfajedaa
open Go.RowKit

/-- Costs in a block of the call's own, whose works may be stored into. -/
structure MineC (base : Nat) (w : World) (b off cap : Nat) (C : List Co.Cost) : Prop where
  lo : base ≤ b
  lt : b < w.heap.size
  le : C.length ≤ cap
  cap_le : cap ≤ 9223372036854775807
  c0 : ∀ i, i < C.length → w.cell? ⟨b, off + i * 3, none⟩ = some (.int .i64 (Co.costN C i).bytes)
  c1 : ∀ i, i < C.length → w.cell? ⟨b, off + i * 3 + 1, none⟩ = some (.int .i64 (Co.costN C i).need)
  c2 : ∀ i, i < C.length → w.cell? ⟨b, off + i * 3 + 2, none⟩ = some (.int .i64 (Co.costN C i).work)
  fr : ∀ i, i < C.length → w.frozen? ⟨b, off + i * 3 + 2, none⟩ = false
theorem MineC.costs {base : Nat} {w : World} {b off cap : Nat} {C : List Co.Cost} (h : MineC base w b off cap C) : CostsIn w (some ⟨b, off, none⟩) C.length cap C :=
  ⟨h.le, h.cap_le, rfl, fun _ => ⟨b, off, rfl, h.lt, fun i hi => ⟨h.c0 i hi, h.c1 i hi, h.c2 i hi⟩⟩⟩
theorem OwnC.mine {base : Nat} {w : World} {v : Value} {C : List Co.Cost} (h : OwnC base w v C) (h0 : 0 < C.length) : ∃ b off cap, v = .slice (some ⟨b, off, none⟩) C.length cap ∧ MineC base w b off cap C := by
  obtain ⟨vs, ⟨h1, h2⟩, h4⟩ := h
  rcases h2 with ⟨rfl, h0'⟩ | ⟨b, cap, cur, rfl, hg, hh, hn, hm, hc, ht⟩
  · omega
  · have hlt := (Array.getElem?_eq_some_iff.1 hh).1
    have hcell : ∀ i u, vs[i]? = some u → w.cell? ⟨b, i, none⟩ = some u := fun i u hu => by
      rw [show w.cell? ⟨b, i, none⟩ = cur[i]? by simp [World.cell?, hh]]
      rw [← ht, List.getElem?_take] at hu
      split at hu
      · simpa using hu
      · cases hu
    refine ⟨b, 0, cap, rfl, hg, hlt, hn, by unfold maxLen at hm; omega, fun i hi => ?_, fun i hi => ?_, fun i hi => ?_, fun i hi => by simp [World.frozen?, hh]⟩
    · rw [Nat.zero_add]; exact hcell _ _ (h4 i hi).1
    · rw [Nat.zero_add]; exact hcell _ _ (h4 i hi).2.1
    · rw [Nat.zero_add]; exact hcell _ _ (h4 i hi).2.2

/-- The works, laid anew at a place. -/
def setWork (C : List Co.Cost) (i : Nat) (x : Int) : List Co.Cost := C.set i ⟨(Co.costN C i).bytes, (Co.costN C i).need, x⟩
theorem setWork_length (C : List Co.Cost) (i : Nat) (x : Int) : (setWork C i x).length = C.length := by unfold setWork; simp
theorem setWork_at (C : List Co.Cost) (i : Nat) (x : Int) (j : Nat) (hj : j < C.length) : Co.costN (setWork C i x) j = if i = j then ⟨(Co.costN C i).bytes, (Co.costN C i).need, x⟩ else Co.costN C j := by
  unfold setWork Co.costN
  rw [List.getD_eq_getElem?_getD, List.getElem?_set]
  by_cases e : i = j
  · subst e; rw [if_pos rfl, if_pos hj, if_pos rfl]; rfl
  · rw [if_neg e, if_neg e, List.getD_eq_getElem?_getD]
theorem MineC.set {base : Nat} {w : World} {b off cap : Nat} {C : List Co.Cost} (h : MineC base w b off cap C) (i : Nat) (hi : i < C.length) (x : Int) : MineC base (w.setCell ⟨b, off + i * 3 + 2, none⟩ (.int .i64 x)) b off cap (setWork C i x) := by
  refine ⟨h.lo, by simp [World.setCell]; exact h.lt, by rw [setWork_length]; exact h.le, h.cap_le, fun k hk => ?_, fun k hk => ?_, fun k hk => ?_, fun k hk => by rw [World.frozen?_setCell]; exact h.fr k (by rwa [setWork_length] at hk)⟩
  · rw [setWork_length] at hk
    rw [World.cell?_setCell_other _ _ _ _ (by intro e'; simp only [Addr.mk.injEq] at e'; omega), h.c0 k hk, setWork_at _ _ _ _ hk]
    split
    · rename_i e; subst e; rfl
    · rfl
  · rw [setWork_length] at hk
    rw [World.cell?_setCell_other _ _ _ _ (by intro e'; simp only [Addr.mk.injEq] at e'; omega), h.c1 k hk, setWork_at _ _ _ _ hk]
    split
    · rename_i e; subst e; rfl
    · rfl
  · rw [setWork_length] at hk
    rw [setWork_at _ _ _ _ hk]
    by_cases e : i = k
    · subst e
      rw [World.cell?_setCell_same _ _ _ (h.c2 i hi), if_pos rfl]
    · rw [World.cell?_setCell_other _ _ _ _ (by intro e'; simp only [Addr.mk.injEq] at e'; omega), h.c2 k hk, if_neg e]

set_option maxHeartbeats 4000000 in
set_option maxRecDepth 100000 in
theorem evagain_walk (a : Option Addr) (len cap : Nat) (g : List Gr.Node) (v : Int) (aK : Option Addr) (lK cK : Nat) (K : List Int) (w : World) (HN : Nodes w a len cap g) (HK : Ints w aK lK cK K) :
    Calls Try.prog 19 #[.agg #[.slice a len cap], .int .i64 v, .slice aK lK cK] w fun e w' => e = .returned (.bool true) ∧ Below w.heap.size w w' := by
  have LN := Lib.hid HN.length
  have hle := HN.le
  have hcl := HN.cap_le
  have hlK := HK.le
  have hcK := HK.cap_le
  have K0 := Lib.hid (GSt.start HN)
  have KN := Lib.hid HN
  have KK := Lib.hid HK
  clear HN HK
  go_enter Try.func19, Try.ntmps19
  go_wp2_with fail
  refine (gsize_any _ _ _ g _ K0.out.n).mono ?_
  rintro e w1 ⟨z, rfl, hz, hb⟩
  have K1 := Lib.hid (K0.out.on hb)
  clear hb hz
  have HEND : Hid (∀ W, GSt w a len cap g W → ∀ w', Below W.heap.size W w' → Below w.heap.size w w') := fun W h w' hb => h.bel.trans (hb.mono h.bel.size)
  by_cases c1 : z > 600
  · have d1 : decide (z > 600) = true := decide_eq_true c1
    clear c1
    go_wp2_with fail
    refine (lives21_any _).mono ?_
    rintro e w2 ⟨rfl, hb⟩
    have HB := Lib.hid (HEND.out _ K1.out _ hb)
    clear hb
    go_wp2
    go_ret
    exact ⟨rfl, HB.out⟩
  have d1 : decide (z > 600) = false := decide_eq_false c1
  by_cases c2 : 100 < lK
  · have d2 : decide ((lK : Int) > 100) = true := decide_eq_true (by omega)
    clear c1 c2
    go_wp2_with fail
    refine (lives21_any _).mono ?_
    rintro e w2 ⟨rfl, hb⟩
    have HB := Lib.hid (HEND.out _ K1.out _ hb)
    clear hb
    go_wp2
    go_ret
    exact ⟨rfl, HB.out⟩
  have d2 : decide ((lK : Int) > 100) = false := decide_eq_false (by omega)
  clear c1
  have cw1 := K1.out.cell
  go_wp2_with fail
  refine (rcof_any _ _ _ g _ K1.out.n).mono ?_
  rintro e w2 ⟨hb, hor⟩
  have K2 := Lib.hid (K1.out.on hb)
  obtain ⟨aC, lC, cC, E, C, rfl, hC, hM⟩ : ∃ aC lC cC E C, e = .returned (.tuple #[.slice aC lC cC, .int .i64 E]) ∧ CostsIn w2 aC lC cC C ∧ (0 < lC → ∃ b off, aC = some ⟨b, off, none⟩ ∧ MineC w1.heap.size w2 b off cC C) := by
    rcases hor with ⟨_, rfl⟩ | ⟨s, v', base, hs, hbs, rfl, hO⟩
    · exact ⟨none, 0, 0, 1, [], rfl, CostsIn.nil, fun h => absurd h (Nat.lt_irrefl 0)⟩
    · obtain ⟨aC, lC, cC, rfl, hC, _⟩ := hO.costs
      refine ⟨aC, lC, cC, 0, _, rfl, hC, fun h => ?_⟩
      obtain ⟨b, off, cap', e, hM⟩ := hO.mine (by rw [hC.length]; exact h)
      cases e
      exact ⟨b, off, rfl, ⟨Nat.le_trans hbs hM.lo, hM.lt, hM.le, hM.cap_le, hM.c0, hM.c1, hM.c2, hM.fr⟩⟩
  have HC2 := Lib.hid hC
  have hlC := hC.le
  have hcC := hC.cap_le
  have HM2 := Lib.hid hM
  have HK2 := Lib.hid (KK.out.below K2.out.bel)
  clear hb hor hC hM cw1
  go_wp2
  go_loopg [9] lK (fun gg i wr => ∃ (k : Nat) (D : List Co.Cost), k ≤ lK ∧ lK - k ≤ gg ∧ i = .int .i64 k ∧ Hid (CostsIn wr aC lC cC D) ∧ Hid (0 < lC → ∃ b off, aC = some ⟨b, off, none⟩ ∧ MineC w1.heap.size wr b off cC D) ∧ Hid (Below w1.heap.size w2 wr))
  case atStart => exact ⟨0, C, Nat.zero_le _, by omega, rfl, HC2, HM2, Below.refl _ _⟩
  case round =>
    obtain ⟨k, D, hk, hg, rfl, HD, HMD, HW⟩ := hrel
    have Kr : Hid (GSt w a len cap g wr) := by
      exact ⟨K2.out.bel.trans (HW.out.mono K1.out.bel.size), (HW.out.cell (p := ⟨w.heap.size, 0, none⟩) (show w.heap.size < w1.heap.size from K1.out.lt)).trans K2.out.cell, Nat.lt_of_lt_of_le K2.out.lt HW.out.size, KN.out.on (K2.out.bel.trans (HW.out.mono K1.out.bel.size))⟩
    by_cases hlt : k < lK ∧ k < lC
    · have dk1 : decide ((k : Int) < (lK : Int)) = true := decide_eq_true (by omega)
      have dk2 : decide ((k : Int) < (lC : Int)) = true := decide_eq_true (by omega)
      obtain ⟨bC, oC, rfl, hMr⟩ := HMD.out (by omega)
      have hDl := HD.out.length
      have m2 := hMr.c2 k (by omega)
      have f2 := hMr.fr k (by omega)
      have hk1 : k < lK := hlt.1
      have hk2 : k < lC := hlt.2
      obtain ⟨bK, oK, rfl, hbK, hcKK⟩ := KK.out.at_ (by omega)
      have kK : wr.cell? ⟨bK, oK + k, none⟩ = some (.int .i64 (nth K k)) := (Kr.out.bel.cell (p := ⟨bK, _, none⟩) hbK).trans (hcKK k hk1)
      have HMS := hMr.set k (by omega) (nth K k)
      have HDS : Hid (CostsIn (wr.setCell ⟨bC, oC + k * 3 + 2, none⟩ (.int .i64 (nth K k))) (some ⟨bC, oC, none⟩) lC cC (setWork D k (nth K k))) := by
        show CostsIn _ _ _ _ _
        have := HMS.costs
        rw [setWork_length, hDl] at this
        exact this
      have HMS2 := Lib.hid HMS
      have HWS := Lib.hid (below_setCell HW.out bC (oC + k * 3 + 2) (.int .i64 (nth K k)) hMr.lo)
      clear hMr hcKK HMS hlt
      generalize nth K k = x at *
      go_wp2
      go_roundg (lK - (k + 1))
      case measure => omega
      case rel => exact ⟨k + 1, setWork D k x, by omega, by omega, by go_num, HDS, fun _ => ⟨bC, oC, rfl, HMS2.out⟩, HWS⟩
    · have HD2 := HD
      obtain ⟨rr, hrr⟩ : ∃ rr, againR g D v = rr := ⟨_, rfl⟩
      have HRR := Lib.hid hrr
      have eB : (rr == rr) = true := by simp
      have cr := Kr.out.cell
      have HA : Hid (∀ W, Below wr.heap.size wr W → Calls Try.prog 52 #[.agg #[.slice a len cap], .slice aC lC cC, .int .i64 v] W fun e w' => e = .returned (.bool rr) ∧ Below W.heap.size W w') := fun W hW => by
        have h := again2_any a len cap g aC lC cC D v W (Kr.out.on hW).n (HD2.out.below hW)
        rw [HRR.out] at h
        exact h
      have HB : Hid (∀ W, Below wr.heap.size wr W → Calls Try.prog 53 #[.agg #[.slice a len cap], .slice aC lC cC, .int .i64 v] W fun e w' => e = .returned (.bool rr) ∧ Below W.heap.size W w') := fun W hW => by
        have h := ragain_any a len cap g aC lC cC D v W (Kr.out.on hW).n (HD2.out.below hW)
        rw [HRR.out] at h
        exact h
      have HBd : Hid (Below wr.heap.size wr wr.drew) := (Below.refl _ _).drew
      have HKp : Hid (∀ w', Below wr.heap.size wr w' → w'.cell? ⟨w.heap.size, 0, none⟩ = some (.slice a len cap)) := fun w' hb => (Kr.out.on hb).cell
      have S0 := Lib.hid (HKp.out _ HBd.out)
      clear hrr
      by_cases hk1 : k < lK
      · have dk1 : decide ((k : Int) < (lK : Int)) = true := decide_eq_true (by omega)
        have dk2 : decide ((k : Int) < (lC : Int)) = false := decide_eq_false (by omega)
        have hkn : ¬ k < lC := by omega
        clear hlt
        go_wp2_with fail
        go_region_held3 (fun w' => w'.cell? ⟨w.heap.size, 0, none⟩ = some (.slice a len cap))
          (first
            | with_reducible exact S7
            | with_reducible exact S6
            | with_reducible exact S5
            | with_reducible exact S0.out)
          (first
            | (go_simp; go_at_call 27; refine (lives21_any w6).mono ?_; rintro e w7 ⟨rfl, hb7⟩; have HB7 := HB6.trans (hb7.mono HB6.size); have S7 := HKp.out w7 HB7)
            | (go_simp; go_at_call 53; refine (HB.out w5 HB5).mono ?_; rintro e w6 ⟨rfl, hb6⟩; have HB6 := HB5.trans (hb6.mono HB5.size); have S6 := HKp.out w6 HB6)
            | (go_simp; go_at_call 52; refine (HA.out wr.drew HBd.out).mono ?_; rintro e w5 ⟨rfl, hb5⟩; have HB5 := HBd.out.trans (hb5.mono HBd.out.size); have S5 := HKp.out w5 HB5))
        have HF := Lib.hid (Kr.out.bel.trans (HB7.mono Kr.out.bel.size))
        go_wp2
        go_ret
        exact ⟨rfl, HF.out⟩
      · have dk1 : decide ((k : Int) < (lK : Int)) = false := decide_eq_false (by omega)
        clear hlt
        go_wp2_with fail
        go_region_held3 (fun w' => w'.cell? ⟨w.heap.size, 0, none⟩ = some (.slice a len cap))
          (first
            | with_reducible exact S7
            | with_reducible exact S6
            | with_reducible exact S5
            | with_reducible exact S0.out)
          (first
            | (go_simp; go_at_call 27; refine (lives21_any w6).mono ?_; rintro e w7 ⟨rfl, hb7⟩; have HB7 := HB6.trans (hb7.mono HB6.size); have S7 := HKp.out w7 HB7)
            | (go_simp; go_at_call 53; refine (HB.out w5 HB5).mono ?_; rintro e w6 ⟨rfl, hb6⟩; have HB6 := HB5.trans (hb6.mono HB5.size); have S6 := HKp.out w6 HB6)
            | (go_simp; go_at_call 52; refine (HA.out wr.drew HBd.out).mono ?_; rintro e w5 ⟨rfl, hb5⟩; have HB5 := HBd.out.trans (hb5.mono HBd.out.size); have S5 := HKp.out w5 HB5))
        have HF := Lib.hid (Kr.out.bel.trans (HB7.mono Kr.out.bel.size))
        go_wp2
        go_ret
        exact ⟨rfl, HF.out⟩
end Go.Proofs.Ytgmagldbfajedaa
