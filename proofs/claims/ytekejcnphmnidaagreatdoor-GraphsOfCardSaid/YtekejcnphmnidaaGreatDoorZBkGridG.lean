import Derived.Test.YtekejcnphmnidaaGreatDoorZBkGrid
import Derived.Deep.RegionLaw
import Derived.Deep.RegionHeld3
import Derived.Deep.AppendLies
import Derived.ArgAppend
import Derived.Lib.QuietBelow
namespace Go.Proofs.YtekejcnphmnidaaGreatDoor
open Go.RowKit
set_option maxHeartbeats 4000000 in
set_option maxRecDepth 100000 in
theorem growGrid_any (w : World) (B : Nat) (f : Nat → Value) (base m : Nat) (h : Nat → Held) (H : Bk w B f) (A : Arr 207 base w (f 14) m h) (lo : Nat) (hlo : lo ≤ w.heap.size) (hbl : ∀ j, j < m → ∀ b, (h j).v.ownBlock = some b → b < lo) (hal : ∀ b, (f 14).ownBlock = some b → b < lo) (hR : ∀ j, j < m → RowP lo w (h j).v (h j).n (h j).num (h j).n) (hm : m ≤ 1000000) (hn : ∀ j, j < m → (h j).n ≤ 1000000)
    (hlg : ∀ j, j < m → (h j).lg = .slice none 0 0) (hnum : ∀ j, j < m → 0 ≤ (h j).num ∧ (h j).num ≤ 1000000000) (hap : ApartV m (fun j => (h j).v)) (hB : ∀ j, j < m → (h j).v.ownBlock ≠ some B) (hA : ∀ j, j < m → ∀ k, (f 14).ownBlock = some k → (h j).v.ownBlock ≠ some k) (hAB : (f 14).ownBlock ≠ some B) :
    Calls Tryz.prog 89 #[.pointer (some ⟨B, 0, none⟩)] w fun e w' => e = .returned (.tuple #[]) ∧ ∃ lgs : Nat → Value, Arr 207 base w' (f 14) m (fun j => { h j with lg := lgs j }) ∧ (∀ j, j < m → RowP lo w' (h j).v (h j).n (h j).num (h j).n) ∧
      (∀ j, j < m → RowP lo w' (lgs j) ((h j).n + 40) (h j).num ((h j).n + 40)) ∧ Only (fun b => (∃ j, j < m ∧ (h j).v.ownBlock = some b) ∨ (f 14).ownBlock = some b) w w' ∧ (∀ j, j < m → ∀ b, (lgs j).ownBlock = some b → (h j).v.ownBlock = some b ∨ w.heap.size ≤ b) := by
  obtain ⟨aA, cA, hvA, hmA, hcA, _⟩ := A.at
  have HS : Hid (¬ ((∃ j, j < m ∧ (h j).v.ownBlock = some B) ∨ (f 14).ownBlock = some B)) := fun e => by
    rcases e with ⟨j, hj, e⟩ | e
    · exact hB j hj e
    · exact hAB e
  have KH := Lib.hid H
  have c2 := H.cell 14 (by omega)
  have hBl := H.lt
  have HR0 := Lib.hid hR
  have HN := Lib.hid hn
  have HNUM := Lib.hid hnum
  have HAP := Lib.hid hap
  have HLG := Lib.hid hlg
  have HLT : Hid (∀ j, j < m → ∀ b, (h j).v.ownBlock = some b → b < w.heap.size) := fun j hj b e => (hR j hj).lt b e
  have HAL : Hid (∀ b, (f 14).ownBlock = some b → b < w.heap.size) := fun b e => (A.lt b e).2
  have HAV := Lib.hid hA
  have HBV := Lib.hid hB
  have HA0 := Lib.hid A
  have HVA := Lib.hid hvA
  have HAB := Lib.hid hAB
  have HBL := Lib.hid hbl
  have HAL2 := Lib.hid hal
  have HLO := Lib.hid hlo
  rw [hvA] at c2
  clear hbl hal hlo H A hR hn hnum hlg hap hB hA hAB hvA
  go_enter Tryz.func89, Tryz.ntmps89
  go_wp2
  go_loopg [2] m (fun gg i wr => ∃ (k : Nat) (lgs : Nat → Value), k ≤ m ∧ m - k ≤ gg ∧ i = .int .i64 k ∧ Hid (Arr 207 base wr (f 14) m (fun j => if j < k then { h j with lg := lgs j } else h j)) ∧
    Hid (∀ j, j < m → RowP lo wr (h j).v (h j).n (h j).num (h j).n) ∧ Hid (∀ j, j < k → RowP lo wr (lgs j) ((h j).n + 40) (h j).num ((h j).n + 40) ∧ ∀ b, (lgs j).ownBlock = some b → (h j).v.ownBlock = some b ∨ w.heap.size ≤ b) ∧
    Hid (Only (fun b => (∃ j, j < m ∧ (h j).v.ownBlock = some b) ∨ (f 14).ownBlock = some b) w wr))
  case atStart => exact ⟨0, fun _ => .slice none 0 0, Nat.zero_le _, by omega, rfl, HA0.out, HR0.out, fun j hj => absurd hj (Nat.not_lt_zero _), Only.refl _ _⟩
  case round =>
    obtain ⟨k, lgs, hk, hg, rfl, HAr, HR, HL, HO⟩ := hrel
    have c2r := (HO.out.cell hBl HS.out 14).trans c2
    by_cases hlt : k < m
    · have dkl : decide ((k : Int) < (m : Int)) = true := decide_eq_true (by omega)
      have hAr := HAr.out
      rw [HVA.out] at hAr
      obtain ⟨a2, c2', e2, _, _, hat⟩ := hAr.at
      cases e2
      obtain ⟨gA, rfl, _, hgA, hce⟩ := hat (by omega)
      obtain ⟨r0, r1, r2, _⟩ := hce k hlt
      rw [if_neg (Nat.lt_irrefl k)] at r0 r1 r2
      rw [HLG.out k hlt] at r1
      obtain ⟨aV, cV, hv, hvl, hvc, _⟩ := (HR.out k hlt).slice
      rw [hv] at r0
      have HV := Lib.hid hv
      have hnn := HN.out k hlt
      have hnu := HNUM.out k hlt
      have hb4 : Below wr.heap.size wr (wr.alloc (.cells #[.slice aV (h k).n cV, .slice none 0 0, .int .i64 (h k).num] 207)) := (Below.refl _ _).alloc (Nat.le_refl _) _
      have HB4 := Lib.hid hb4
      have X0 : Hid ((wr.alloc (.cells #[.slice aV (h k).n cV, .slice none 0 0, .int .i64 (h k).num] 207)).cell? ⟨wr.heap.size, 0, none⟩ = some (.slice aV (h k).n cV)) := by show _ = _; rw [World.cell?_alloc_at _ _ _ _ rfl]; rfl
      have X2 : Hid ((wr.alloc (.cells #[.slice aV (h k).n cV, .slice none 0 0, .int .i64 (h k).num] 207)).cell? ⟨wr.heap.size, 2, none⟩ = some (.int .i64 (h k).num)) := by show _ = _; rw [World.cell?_alloc_at _ _ _ _ rfl]; rfl
      have Z4 : Hid ((wr.alloc (.cells #[.slice aV (h k).n cV, .slice none 0 0, .int .i64 (h k).num] 207)).heap.size = wr.heap.size + 1) := by show _ = _; simp
      have HGA : Hid (gA < wr.heap.size) := hgA
      have HGN : Hid (¬ (h k).v.ownBlock = some gA) := HAV.out k hlt gA (by rw [HVA.out]; rfl)
      clear hv hce hat hAr hb4 hgA
      generalize hnn' : (h k).n = nn at *
      generalize hmm' : (h k).num = nu at *
      have HNE := Lib.hid hnn'
      have HME := Lib.hid hmm'
      clear hnn' hmm'
      have hw1 := HO.out.size
      go_wp2
      generalize wr.alloc (.cells #[.slice aV nn cV, .slice none 0 0, .int .i64 nu] 207) = w4 at *
      have hz4 := Z4.out
      have HRk : Hid (RowP lo w4 (h k).v nn nu nn) := by
        show RowP _ _ _ _ _ _
        have h1 := HR.out k hlt
        rw [HNE.out, HME.out] at h1
        exact h1.below HB4.out
      obtain ⟨xs0, hx0, hm0⟩ := HRk.out
      have HX0 := Lib.hid hx0
      have HM0 := Lib.hid hm0
      clear hx0 hm0
      have hvb : ∀ b, (h k).v.ownBlock = some b → b < wr.heap.size := fun b hb => by have := HLT.out k hlt b hb; omega
      have HVB := Lib.hid hvb
      clear hvb
      go_loopg [4, 5] 40 (fun gg vL i wv => ∃ q : Nat, q ≤ 40 ∧ 40 - q ≤ gg ∧ i = .int .i64 q ∧ Hid (RowP lo wv vL (nn + q) nu (nn + q)) ∧ Hid (RowV 1 wv (h k).v nn xs0) ∧ Hid (Only (fun b => (h k).v.ownBlock = some b) w4 wv) ∧
        Hid ((∃ g off cap, (h k).v = .slice (some ⟨g, off, none⟩) nn cap ∧ vL = .slice (some ⟨g, off, none⟩) (nn + q) cap) ∨ ∀ b, vL.ownBlock = some b → w4.heap.size ≤ b))
      case atStart =>
        refine ⟨0, Nat.zero_le _, by omega, rfl, by rw [← HV.out]; exact HRk.out, HX0.out, Only.refl _ _, ?_⟩
        cases aV with
        | none => exact .inr (fun b hb => by cases hb)
        | some ad =>
          rcases HX0.out with ⟨h1, _⟩ | ⟨g, off, cap, h1, _⟩
          · rw [HV.out] at h1; cases h1
          · have h2 := HV.out.symm.trans h1
            cases h2
            exact .inl ⟨g, off, cV, h1, rfl⟩
      case round =>
        rename World => wv
        obtain ⟨q, hq, hgq, rfl, HLv, HKv, HOv, HX⟩ := hrel
        have hnb : ¬ (h k).v.ownBlock = some wr.heap.size := fun e => by have := HVB.out _ e; omega
        have x2 := (HOv.out.cell (show wr.heap.size < w4.heap.size by omega) hnb 2).trans X2.out
        obtain ⟨aL, cL, rfl, hLl, hLc, _⟩ := HLv.out.slice
        by_cases hltq : q < 40
        · have dql : decide ((q : Int) < 40) = true := decide_eq_true (by omega)
          have hzv := HOv.out.size
          go_wp2_with fail
          refine (markGrid_any nu _ hnu.1 hnu.2).mono ?_
          rintro e w5 ⟨rfl, hw5⟩
          have hbm : Below wv.heap.size wv w5 := by rw [hw5]; exact (Below.refl _ _).alloc (Nat.le_refl _) _
          have HZ5 : Hid (w5.heap.size = wv.heap.size + 1) := by show _ = _; rw [hw5]; simp
          have hmc : w5.cell? ⟨wv.heap.size, 0, none⟩ = some (.int .i64 (-nu)) := by rw [hw5, World.cell?_alloc_at _ _ _ _ rfl]; rfl
          have hb5 : ∀ o, Below wv.heap.size wv (w5.alloc o) := fun o => hbm.alloc hbm.size o
          have HL5 : Hid (∀ o, RowP lo (w5.alloc o) (.slice aL (nn + q) cL) (nn + q) nu (nn + q)) := fun o => HLv.out.below (hb5 o)
          have HK5 : Hid (∀ o, RowV 1 (w5.alloc o) (h k).v nn xs0) := fun o => HKv.out.keep (hb5 o).size (fun b hb => (hb5 o).block b (HKv.out.lt b hb))
          have HO5 : Hid (∀ o, Only (fun b => (h k).v.ownBlock = some b) w4 (w5.alloc o)) := fun o => HOv.out.trans (Only.of_below (hb5 o))
          have HBB : Hid ((w5.alloc (.cells #[.slice (some ⟨wv.heap.size, 0, none⟩) 1 1] 22)).cell? ⟨w5.heap.size, 0, none⟩ = some (.slice (some ⟨wv.heap.size, 0, none⟩) 1 1)) := by show _ = _; rw [World.cell?_alloc_at _ _ _ _ rfl]; rfl
          have HLW : Hid (lo ≤ wv.heap.size) := by show _ ≤ _; have := HLO.out; omega
          have HL9 : Hid (∀ o, wv.heap.size < (w5.alloc o).heap.size) := fun o => by have := HZ5.out; simp; omega
          have HBV5 : Hid (some wv.heap.size ≠ Value.ownBlock (.slice aL (nn + q) cL)) := fun e => by have := HLv.out.lt _ e.symm; omega
          have HMC : Hid (∀ o, (w5.alloc o).cell? ⟨wv.heap.size, 0, none⟩ = some (.int .i64 (-nu))) := fun o => Lib.cell?_alloc_some _ hmc
          have hzm := hbm.size
          clear hb5 hbm hw5 hmc
          go_wp2_with (at_builtin; go_must (refine wpList_pushP _ rfl _ _ rfl (.slice aL (nn + q) cL) (nn + q) nu wv.heap.size w5.heap.size (HL5.out _) rfl rfl HBB.out HLW.out (HL9.out _) HBV5.out (HMC.out _) (by omega) ?_))
          intro v6 w6 hrow6 hor
          have HR6 : Hid (RowP lo w6 v6 (nn + (q + 1)) nu (nn + (q + 1))) := hrow6
          have HALL : Hid (RowV 1 w6 (h k).v nn xs0 ∧ Only (fun b => (h k).v.ownBlock = some b) w4 w6 ∧
              ((∃ g off cap, (h k).v = .slice (some ⟨g, off, none⟩) nn cap ∧ v6 = .slice (some ⟨g, off, none⟩) (nn + (q + 1)) cap) ∨ ∀ b, v6.ownBlock = some b → w4.heap.size ≤ b)) := by
            show _ ∧ _ ∧ _
            rcases hor with ⟨g, off, cap, e1, e2, hc, rfl⟩ | ⟨ho, b6, e6, hb6⟩
            · obtain ⟨rfl, rfl⟩ := e1
              rcases HX.out with ⟨g', off', cap', e3, e4⟩ | hfar
              · cases e4
                refine ⟨?_, (HO5.out _).setFarE _ _ _ (.inl (by rw [e3]; rfl)), .inl ⟨_, _, _, e3, e2⟩⟩
                rcases HK5.out (.cells #[.slice (some ⟨wv.heap.size, 0, none⟩) 1 1] 22) with ⟨h1, _⟩ | ⟨g2, off2, cap2, h1, h2⟩
                · rw [e3] at h1; cases h1
                · have h3 := e3.symm.trans h1
                  cases h3
                  exact .inr ⟨_, _, _, e3, h2.spareE ((nn + q)) (by omega) _⟩
              · have hgz := hfar g rfl
                refine ⟨(HK5.out _).keep (by rw [size_setCells]; exact Nat.le_refl _) (fun b hb => heap_setCells g (by intro e; have := HVB.out b hb; omega) _ _ _), (HO5.out _).setFarE g (off + (nn + q)) _ (.inr hgz), .inr (fun b hb => by rw [e2] at hb; cases hb; exact hgz)⟩
            · refine ⟨(HK5.out _).only ho (fun _ _ e => e), (HO5.out _).trans (ho.mono (fun _ _ e => e.elim)), .inr (fun b hb => ?_)⟩
              rw [e6] at hb
              cases hb
              have h1 : w5.heap.size ≤ (w5.alloc (.cells #[.slice (some ⟨wv.heap.size, 0, none⟩) 1 1] 22)).heap.size := by simp
              omega
          obtain ⟨a6, c6, rfl, _, _, _⟩ := hrow6.slice
          clear hrow6 hor
          go_wp2
          go_roundg (40 - (q + 1))
          case measure => omega
          case rel => exact ⟨q + 1, by omega, by omega, by go_num, HR6, HALL.out.1, HALL.out.2.1, HALL.out.2.2⟩
        · have dql : decide ((q : Int) < 40) = false := decide_eq_false (by omega)
          obtain rfl : q = 40 := by omega
          have hwrv : wr.heap.size < wv.heap.size := by have := HOv.out.size; omega
          have HOk : Hid (Only (fun b => (h k).v.ownBlock = some b) wr wv) := (Only.of_below HB4.out).trans (HOv.out.mono (fun _ _ e => e) |> fun h => ⟨h.os, h.tape, h.output, h.size, h.block⟩)
          have HAv := Lib.hid (HAr.out.only HOk.out (fun b hb => HAV.out k hlt b hb))
          have hAv := HAv.out
          rw [HVA.out] at hAv
          obtain ⟨a3, c3, e3, _, _, hat⟩ := hAv.at
          cases e3
          obtain ⟨gA', e4, _, hgA', hce⟩ := hat (by omega)
          cases e4
          obtain ⟨y0, y1, y2, yf⟩ := hce k hlt
          have hmc : k < m := hlt
          have c2v := (HOk.out.cell (show B < wr.heap.size by omega) (HBV.out k hlt) 14).trans c2r
          have hgAl : gA < lo := HAL2.out gA (by rw [HVA.out]; rfl)
          have HSET := Lib.hid (hAv.setLong k hlt (.slice aL (nn + 40) cL))
          have HRv : Hid (∀ j, j < m → RowP lo (wv.setCell ⟨gA, k * 3 + 1, none⟩ (.slice aL (nn + 40) cL)) (h j).v (h j).n (h j).num (h j).n) := fun j hj => by
            have hj0 : RowP lo wv (h j).v (h j).n (h j).num (h j).n := by
              by_cases e : j = k
              · subst e; rw [HNE.out, HME.out]
                refine ⟨xs0, HKv.out, fun r hr => ?_⟩
                obtain ⟨b, e1, e2, e3, e4, e5⟩ := HM0.out r hr
                exact ⟨b, e1, e2, Nat.lt_of_lt_of_le e3 HOv.out.size, e4, (HOv.out.cell e3 (fun e => e4 e.symm) 0).trans e5⟩
              · exact (HR.out j hj).only HOk.out (fun b hb hb2 => HAP.out j k hj hlt e b hb hb2) (fun b hb => HBL.out k hlt b hb)
            exact hj0.other gA _ _ hgAl (fun b hb e => by subst e; exact HAV.out j hj _ (by rw [HVA.out]; rfl) hb)
          have HLN : Hid (∀ j, j < k + 1 → RowP lo (wv.setCell ⟨gA, k * 3 + 1, none⟩ (.slice aL (nn + 40) cL)) (if j = k then .slice aL (nn + 40) cL else lgs j) ((h j).n + 40) (h j).num ((h j).n + 40) ∧ ∀ b, (if j = k then .slice aL (nn + 40) cL else lgs j).ownBlock = some b → (h j).v.ownBlock = some b ∨ w.heap.size ≤ b) := fun j hj => by
            have hgw : gA < w.heap.size := HAL.out gA (by rw [HVA.out]; rfl)
            by_cases e : j = k
            · subst e
              rw [if_pos rfl, HNE.out, HME.out]
              have hor : ∀ b, Value.ownBlock (.slice aL (nn + 40) cL) = some b → (h j).v.ownBlock = some b ∨ wr.heap.size ≤ b := fun b hb => by
                rcases HX.out with ⟨g, off, cap, e1, e2⟩ | hfar
                · left; rw [e1]; rw [e2] at hb; exact hb
                · right; have := hfar b hb; omega
              refine ⟨HLv.out.other gA _ _ hgAl (fun b hb e => by subst e; rcases hor _ hb with h1 | h1; exact HGN.out h1; have := HGA.out; omega), fun b hb => ?_⟩
              rcases hor b hb with h1 | h1
              · exact .inl h1
              · exact .inr (by omega)
            · rw [if_neg e]
              obtain ⟨h1, h2⟩ := HL.out j (by omega)
              have hjm : j < m := by omega
              refine ⟨(h1.only HOk.out (fun b hb hb2 => ?_) (fun b hb => HBL.out k hlt b hb)).other gA _ _ hgAl (fun b hb e' => by subst e'; rcases h2 _ hb with h3 | h3; exact HAV.out j hjm _ (by rw [HVA.out]; rfl) h3; omega), h2⟩
              rcases h2 b hb with h3 | h3
              · exact HAP.out j k hjm hlt e b h3 hb2
              · have := HLT.out k hlt b hb2; omega
          have HON : Hid (Only (fun b => (∃ j, j < m ∧ (h j).v.ownBlock = some b) ∨ (f 14).ownBlock = some b) w (wv.setCell ⟨gA, k * 3 + 1, none⟩ (.slice aL (nn + 40) cL))) :=
            ((HO.out.trans (HOk.out.mono (fun b _ e => .inl ⟨k, hlt, e⟩))).setFar gA (k * 3 + 1) _ (.inl (.inr (by rw [HVA.out]; rfl))))
          have HAN : Hid (Arr 207 base (wv.setCell ⟨gA, k * 3 + 1, none⟩ (.slice aL (nn + 40) cL)) (f 14) m (fun j => if j < k + 1 then { h j with lg := if j = k then .slice aL (nn + 40) cL else lgs j } else h j)) := by
            show Arr _ _ _ _ _ _
            rw [HVA.out]
            obtain ⟨xs, h1, h2⟩ := HSET.out
            refine ⟨xs, h1, fun j hj => ?_⟩
            have h3 := h2 j hj
            by_cases e : j = k
            · subst e
              simp only [if_true, if_neg (Nat.lt_irrefl j), if_pos (Nat.lt_succ_self j)] at h3 ⊢
              exact h3
            · simp only [if_neg e] at h3 ⊢
              by_cases e2 : j < k
              · simp only [if_pos e2, if_pos (Nat.lt_succ_of_lt e2)] at h3 ⊢
                exact h3
              · simp only [if_neg e2, if_neg (show ¬ j < k + 1 by omega)] at h3 ⊢
                exact h3
          clear hce hat hAv hgAl
          go_wp2
          go_roundg (m - (k + 1))
          case measure => omega
          case rel => exact ⟨k + 1, fun j => if j = k then .slice aL (nn + 40) cL else lgs j, by omega, by omega, by go_num, HAN, HRv, HLN, HON⟩
    · have dkl : decide ((k : Int) < (m : Int)) = false := decide_eq_false (by omega)
      obtain rfl : k = m := by omega
      go_wp2
      go_returns
      refine ⟨rfl, lgs, ?_, HR.out, fun j hj => (HL.out j hj).1, HO.out, fun j hj => (HL.out j hj).2⟩
      obtain ⟨xs, h1, h2⟩ := HAr.out
      refine ⟨xs, h1, fun j hj => ?_⟩
      have h3 := h2 j hj
      simp only [if_pos hj] at h3
      exact h3
end Go.Proofs.YtekejcnphmnidaaGreatDoor
