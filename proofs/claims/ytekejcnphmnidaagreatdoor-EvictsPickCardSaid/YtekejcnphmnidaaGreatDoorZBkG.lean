/-
  The Book puts more behind each of its lists of ints: contract growInt_any.
-/
import Derived.Test.YtekejcnphmnidaaGreatDoorZBkF
namespace Go.Proofs.YtekejcnphmnidaaGreatDoor
open Go.RowKit

theorem Only.setFar {S : Nat → Prop} {w w1 : World} (h : Only S w w1) (g o : Nat) (u : Value) (hg : S g ∨ w.heap.size ≤ g) : Only S w (w1.setCell ⟨g, o, none⟩ u) :=
  ⟨h.os, h.tape, h.output, by simp [World.setCell]; exact h.size, fun k hk hs => (Below.heap_setCell _ _ _ _ (by intro e; simp only at e; subst e; rcases hg with h1 | h1; exact hs h1; omega)).trans (h.block k hk hs)⟩

/-- One int more, behind any row: in its spare room, or in new memory. -/
theorem wpList_pushV {ops : Array Oper} {rest : List Oper} {o : Oper} {a : Act} {Q : Exit → Act → World → Prop} (w : World) (hgd : o.guard = none) (s t : Operand)
    (ho : o.op = .call { callee := .builtin .append, args := #[s, t], argTypes := #[22, 22] }) (v : Value) (n : Nat) (xs : List Value) (x : Int) (b : Nat)
    (hrow : RowV 1 w v n xs) (hs : a.eval s = v) (ht : a.eval t = .slice (some ⟨b, 0, none⟩) 1 1) (hb : w.cell? ⟨b, 0, none⟩ = some (.int .i64 x)) (hlen : n ≤ 10000000)
    (hK : ∀ v' w', RowV 1 w' v' (n + 1) (xs ++ [.int .i64 x]) →
      ((∃ g off cap, v = .slice (some ⟨g, off, none⟩) n cap ∧ v' = .slice (some ⟨g, off, none⟩) (n + 1) cap ∧ n < cap ∧ w' = w.setCell ⟨g, off + n, none⟩ (.int .i64 x)) ∨ (Only (fun _ => False) w w' ∧ ∃ k, v'.ownBlock = some k ∧ w.heap.size ≤ k)) →
      wpList Tryz.prog ops Q rest (a.put o.dst v') w') :
    wpList Tryz.prog ops Q (o :: rest) a w := by
  obtain ⟨i0, hi, hz0, hz1, hz2⟩ := info_parts Tryz.info3
  have hnews : ∀ j u, ([.int .i64 x] : List Value)[j]? = some u → w.cell? ((⟨b, 0, none⟩ : Addr).add j) = some u := fun j u hj => by
    match j, hj with
    | 0, hj => simp at hj; subst hj; simpa [Addr.add] using hb
  have hone : ∀ u ∈ ([.int .i64 x] : List Value), u.oneCell' = true := fun u hu => by simp at hu; subst hu; rfl
  rcases hrow with ⟨rfl, rfl, rfl⟩ | ⟨g, off, cap, rfl, hr⟩
  · refine wpList_append_grows w hgd s t 22 ho 3 i0 (.int .i64 0) 1 8 Tryz.underlying22 hi hz0 hz1 hz2 rfl (by decide) none 0 0 [] hs (fun _ => ⟨rfl, rfl⟩) rfl (fun b hb => by cases hb) ⟨b, 0, none⟩ 1 1 [.int .i64 x] ht rfl hnews hone (by omega) (by unfold maxLen; omega) (by omega) ?_
    intro v' w' hown hg
    refine hK v' w' (RowV.of_owns hown) (.inr ⟨Only.grown hg (fun k hk => by cases hk), ?_⟩)
    obtain ⟨g', cap', rfl, h1, _⟩ := hown.form (by omega)
    exact ⟨g', rfl, h1⟩
  · refine wpList_append_arg w hgd s t 22 ho 3 i0 (.int .i64 0) 1 8 Tryz.underlying22 hi hz0 hz1 hz2 rfl (by decide) g off n cap xs hs hr.len hr.cell ⟨b, 0, none⟩ 1 1 [.int .i64 x] ht rfl hnews hone ?_ (by unfold maxLen; omega) (by omega) ?_ ?_
    · intro hc j hj
      have hj0 : j = 0 := by simp at hj; omega
      subst hj0
      have := hr.all (n * 1) (by omega)
      rw [Nat.add_zero]; exact this
    · intro hc
      have e : w.setCells g (off + n * 1) [.int .i64 x] = w.setCell ⟨g, off + n, none⟩ (.int .i64 x) := by rw [Nat.mul_one]; rfl
      rw [e]
      exact hK _ _ (.inr ⟨g, off, cap, rfl, hr.push1 (by omega) _⟩) (.inl ⟨g, off, cap, rfl, rfl, by omega, rfl⟩)
    · intro _ v' w' hown hg
      refine hK v' w' (RowV.of_owns hown) (.inr ⟨Only.grown hg (fun k hk => by cases hk), ?_⟩)
      obtain ⟨g', cap', rfl, h1, _⟩ := hown.form (by omega)
      exact ⟨g', rfl, h1⟩

set_option maxHeartbeats 4000000 in
set_option maxRecDepth 100000 in
theorem growInt_any (w : World) (B : Nat) (f : Nat → Value) (base m : Nat) (h : Nat → Held) (H : Bk w B f) (A : Arr 148 base w (f 2) m h) (hR : ∀ j, j < m → RowV 1 w (h j).v (h j).n (List.replicate (h j).n (h j).mark)) (hm : m ≤ 1000000) (hn : ∀ j, j < m → (h j).n ≤ 1000000)
    (hlg : ∀ j, j < m → (h j).lg = .slice none 0 0) (hnum : ∀ j, j < m → 0 ≤ (h j).num ∧ (h j).num ≤ 1000000000) (hap : ApartV m (fun j => (h j).v)) (hB : ∀ j, j < m → (h j).v.ownBlock ≠ some B) (hA : ∀ j, j < m → ∀ k, (f 2).ownBlock = some k → (h j).v.ownBlock ≠ some k) (hAB : (f 2).ownBlock ≠ some B) :
    Calls Tryz.prog 77 #[.pointer (some ⟨B, 0, none⟩)] w fun e w' => e = .returned (.tuple #[]) ∧ ∃ lgs : Nat → Value, Arr 148 base w' (f 2) m (fun j => { h j with lg := lgs j }) ∧ (∀ j, j < m → RowV 1 w' (h j).v (h j).n (List.replicate (h j).n (h j).mark)) ∧
      (∀ j, j < m → RowV 1 w' (lgs j) ((h j).n + 40) (List.replicate ((h j).n + 40) (h j).mark)) ∧ Only (fun b => (∃ j, j < m ∧ (h j).v.ownBlock = some b) ∨ (f 2).ownBlock = some b) w w' := by
  obtain ⟨aA, cA, hvA, hmA, hcA, _⟩ := A.at
  have HS : Hid (¬ ((∃ j, j < m ∧ (h j).v.ownBlock = some B) ∨ (f 2).ownBlock = some B)) := fun e => by
    rcases e with ⟨j, hj, e⟩ | e
    · exact hB j hj e
    · exact hAB e
  have KH := Lib.hid H
  have c2 := H.cell 2 (by omega)
  have hBl := H.lt
  have HR0 := Lib.hid hR
  have HN := Lib.hid hn
  have HNUM := Lib.hid hnum
  have HAP := Lib.hid hap
  have HLG := Lib.hid hlg
  have HLT : Hid (∀ j, j < m → ∀ b, (h j).v.ownBlock = some b → b < w.heap.size) := fun j hj b e => (hR j hj).lt b e
  have HAL : Hid (∀ b, (f 2).ownBlock = some b → b < w.heap.size) := fun b e => (A.lt b e).2
  have HAV := Lib.hid hA
  have HBV := Lib.hid hB
  have HA0 := Lib.hid A
  have HVA := Lib.hid hvA
  have HAB := Lib.hid hAB
  rw [hvA] at c2
  clear H A hR hn hnum hlg hap hB hA hAB hvA
  go_enter Tryz.func77, Tryz.ntmps77
  go_wp2
  go_loopg [2] m (fun gg i wr => ∃ (k : Nat) (lgs : Nat → Value), k ≤ m ∧ m - k ≤ gg ∧ i = .int .i64 k ∧ Hid (Arr 148 base wr (f 2) m (fun j => if j < k then { h j with lg := lgs j } else h j)) ∧
    Hid (∀ j, j < m → RowV 1 wr (h j).v (h j).n (List.replicate (h j).n (h j).mark)) ∧ Hid (∀ j, j < k → RowV 1 wr (lgs j) ((h j).n + 40) (List.replicate ((h j).n + 40) (h j).mark) ∧ ∀ b, (lgs j).ownBlock = some b → (h j).v.ownBlock = some b ∨ w.heap.size ≤ b) ∧
    Hid (Only (fun b => (∃ j, j < m ∧ (h j).v.ownBlock = some b) ∨ (f 2).ownBlock = some b) w wr))
  case atStart => exact ⟨0, fun _ => .slice none 0 0, Nat.zero_le _, by omega, rfl, HA0.out, HR0.out, fun j hj => absurd hj (Nat.not_lt_zero _), Only.refl _ _⟩
  case round =>
    obtain ⟨k, lgs, hk, hg, rfl, HAr, HR, HL, HO⟩ := hrel
    have c2r := (HO.out.cell hBl HS.out 2).trans c2
    by_cases hlt : k < m
    · have dkl : decide ((k : Int) < (m : Int)) = true := decide_eq_true (by omega)
      have hAr := HAr.out
      rw [HVA.out] at hAr
      obtain ⟨a2, c2', e2, _, _, hat⟩ := hAr.at
      cases e2
      obtain ⟨gA, rfl, _, hgA, hce⟩ := hat (by omega)
      obtain ⟨r0, r1, r2, _⟩ := hce k hlt
      rw [if_neg (Nat.lt_irrefl k)] at r0 r1 r2
      rw [HLG.out k hlt] at r1
      obtain ⟨aV, cV, hv, hvl, hvc, _⟩ := (HR.out k hlt).slice
      rw [hv] at r0
      have HV := Lib.hid hv
      have hnn := HN.out k hlt
      have hnu := HNUM.out k hlt
      have HMK : Hid ((h k).mark = .int .i64 (-(h k).num)) := rfl
      have hb4 : Below wr.heap.size wr (wr.alloc (.cells #[.slice aV (h k).n cV, .slice none 0 0, .int .i64 (h k).num] 148)) := (Below.refl _ _).alloc (Nat.le_refl _) _
      have HB4 := Lib.hid hb4
      have X0 : Hid ((wr.alloc (.cells #[.slice aV (h k).n cV, .slice none 0 0, .int .i64 (h k).num] 148)).cell? ⟨wr.heap.size, 0, none⟩ = some (.slice aV (h k).n cV)) := by show _ = _; rw [World.cell?_alloc_at _ _ _ _ rfl]; rfl
      have X2 : Hid ((wr.alloc (.cells #[.slice aV (h k).n cV, .slice none 0 0, .int .i64 (h k).num] 148)).cell? ⟨wr.heap.size, 2, none⟩ = some (.int .i64 (h k).num)) := by show _ = _; rw [World.cell?_alloc_at _ _ _ _ rfl]; rfl
      have Z4 : Hid ((wr.alloc (.cells #[.slice aV (h k).n cV, .slice none 0 0, .int .i64 (h k).num] 148)).heap.size = wr.heap.size + 1) := by show _ = _; simp
      have HGA : Hid (gA < wr.heap.size) := hgA
      have HGN : Hid (¬ (h k).v.ownBlock = some gA) := HAV.out k hlt gA (by rw [HVA.out]; rfl)
      clear hv hce hat hAr hb4 hgA
      generalize hnn' : (h k).n = nn at *
      generalize hmm' : (h k).num = nu at *
      have HNE := Lib.hid hnn'
      clear hnn' hmm'
      have hw1 := HO.out.size
      go_wp2
      generalize wr.alloc (.cells #[.slice aV nn cV, .slice none 0 0, .int .i64 nu] 148) = w4 at *
      have hz4 := Z4.out
      have HRk : Hid (RowV 1 w4 (h k).v nn (List.replicate nn (h k).mark)) := by
        show RowV _ _ _ _ _
        have h1 := HR.out k hlt
        rw [HNE.out] at h1
        exact h1.keep HB4.out.size (fun b hb => HB4.out.block b (h1.lt b hb))
      have hvb : ∀ b, (h k).v.ownBlock = some b → b < wr.heap.size := fun b hb => by have := HLT.out k hlt b hb; omega
      have HVB := Lib.hid hvb
      clear hvb
      go_loopg [4, 5] 40 (fun gg vL i wv => ∃ q : Nat, q ≤ 40 ∧ 40 - q ≤ gg ∧ i = .int .i64 q ∧ Hid (RowV 1 wv vL (nn + q) (List.replicate (nn + q) (h k).mark)) ∧ Hid (RowV 1 wv (h k).v nn (List.replicate nn (h k).mark)) ∧ Hid (Only (fun b => (h k).v.ownBlock = some b) w4 wv) ∧
        Hid ((∃ g off cap, (h k).v = .slice (some ⟨g, off, none⟩) nn cap ∧ vL = .slice (some ⟨g, off, none⟩) (nn + q) cap) ∨ ∀ b, vL.ownBlock = some b → w4.heap.size ≤ b))
      case atStart =>
        refine ⟨0, Nat.zero_le _, by omega, rfl, by rw [← HV.out]; exact HRk.out, HRk.out, Only.refl _ _, ?_⟩
        cases aV with
        | none => exact .inr (fun b hb => by cases hb)
        | some ad =>
          rcases HRk.out with ⟨h1, _⟩ | ⟨g, off, cap, h1, _⟩
          · rw [HV.out] at h1; cases h1
          · have h2 := HV.out.symm.trans h1
            cases h2
            exact .inl ⟨g, off, cV, h1, rfl⟩
      case round =>
        rename World => wv
        obtain ⟨q, hq, hgq, rfl, HLv, HKv, HOv, HX⟩ := hrel
        have hnb : ¬ (h k).v.ownBlock = some wr.heap.size := fun e => by have := HVB.out _ e; omega
        have x2 := (HOv.out.cell (show wr.heap.size < w4.heap.size by omega) hnb 2).trans X2.out
        obtain ⟨aL, cL, rfl, hLl, hLc, _⟩ := HLv.out.slice
        by_cases hltq : q < 40
        · have dql : decide ((q : Int) < 40) = true := decide_eq_true (by omega)
          have hb5 : ∀ o, Below wv.heap.size wv (wv.alloc o) := fun o => (Below.refl _ _).alloc (Nat.le_refl _) _
          have HL5 : Hid (∀ o, RowV 1 (wv.alloc o) (.slice aL (nn + q) cL) (nn + q) (List.replicate (nn + q) (h k).mark)) := fun o => HLv.out.keep (hb5 o).size (fun b hb => (hb5 o).block b (HLv.out.lt b hb))
          have HK5 : Hid (∀ o, RowV 1 (wv.alloc o) (h k).v nn (List.replicate nn (h k).mark)) := fun o => HKv.out.keep (hb5 o).size (fun b hb => (hb5 o).block b (HKv.out.lt b hb))
          have HO5 : Hid (∀ o, Only (fun b => (h k).v.ownBlock = some b) w4 (wv.alloc o)) := fun o => HOv.out.trans (Only.of_below (hb5 o))
          have HRE : Hid (List.replicate (nn + q) (h k).mark ++ [.int .i64 (-nu)] = List.replicate (nn + (q + 1)) (h k).mark) := by
            show _ = _
            rw [← HMK.out, ← Nat.add_assoc, List.replicate_succ']
          have hzv := HOv.out.size
          clear hb5
          go_wp2_with fail
          refine (markInt_any nu _ hnu.1 hnu.2).mono ?_
          rintro e w5 ⟨rfl, rfl⟩
          go_wp2_with (at_builtin; go_must (refine wpList_pushV _ rfl _ _ rfl (.slice aL (nn + q) cL) (nn + q) (List.replicate (nn + q) (h k).mark) (-nu) wv.heap.size (HL5.out _) rfl rfl (by rw [World.cell?_alloc_at _ _ _ _ rfl]; rfl) (by omega) ?_))
          intro v6 w6 hrow6 hor
          rw [HRE.out] at hrow6
          have HR6 : Hid (RowV 1 w6 v6 (nn + (q + 1)) (List.replicate (nn + (q + 1)) (h k).mark)) := hrow6
          have HALL : Hid (RowV 1 w6 (h k).v nn (List.replicate nn (h k).mark) ∧ Only (fun b => (h k).v.ownBlock = some b) w4 w6 ∧
              ((∃ g off cap, (h k).v = .slice (some ⟨g, off, none⟩) nn cap ∧ v6 = .slice (some ⟨g, off, none⟩) (nn + (q + 1)) cap) ∨ ∀ b, v6.ownBlock = some b → w4.heap.size ≤ b)) := by
            show _ ∧ _ ∧ _
            rcases hor with ⟨g, off, cap, e1, e2, hc, rfl⟩ | ⟨ho, b6, e6, hb6⟩
            · obtain ⟨rfl, rfl⟩ := e1
              rcases HX.out with ⟨g', off', cap', e3, e4⟩ | hfar
              · cases e4
                refine ⟨?_, (HO5.out _).setFar _ _ _ (.inl (by rw [e3]; rfl)), .inl ⟨_, _, _, e3, e2⟩⟩
                rcases HK5.out (.cells #[.int .i64 (-nu)] 3) with ⟨h1, _⟩ | ⟨g2, off2, cap2, h1, h2⟩
                · rw [e3] at h1; cases h1
                · have h3 := e3.symm.trans h1
                  cases h3
                  exact .inr ⟨_, _, _, e3, h2.spare (nn + q) (by omega) (by omega) _⟩
              · have hgz := hfar g rfl
                refine ⟨(HK5.out _).keep (by simp [World.setCell]) (fun b hb => Below.heap_setCell _ _ _ _ (by intro e; simp only at e; have := HVB.out b hb; omega)), (HO5.out _).setFar g (off + (nn + q)) _ (.inr hgz), .inr (fun b hb => by rw [e2] at hb; cases hb; exact hgz)⟩
            · refine ⟨(HK5.out _).only ho (fun _ _ e => e), (HO5.out _).trans (ho.mono (fun _ _ e => e.elim)), .inr (fun b hb => ?_)⟩
              rw [e6] at hb
              cases hb
              have h1 : wv.heap.size ≤ (wv.alloc (.cells #[.int .i64 (-nu)] 3)).heap.size := by simp
              omega
          obtain ⟨a6, c6, rfl, _, _, _⟩ := hrow6.slice
          clear hrow6 hor
          go_wp2
          go_roundg (40 - (q + 1))
          case measure => omega
          case rel => exact ⟨q + 1, by omega, by omega, by go_num, HR6, HALL.out.1, HALL.out.2.1, HALL.out.2.2⟩
        · have dql : decide ((q : Int) < 40) = false := decide_eq_false (by omega)
          obtain rfl : q = 40 := by omega
          have hwrv : wr.heap.size < wv.heap.size := by have := HOv.out.size; omega
          have HOk : Hid (Only (fun b => (h k).v.ownBlock = some b) wr wv) := (Only.of_below HB4.out).trans (HOv.out.mono (fun _ _ e => e) |> fun h => ⟨h.os, h.tape, h.output, h.size, h.block⟩)
          have HAv := Lib.hid (HAr.out.only HOk.out (fun b hb => HAV.out k hlt b hb))
          have hAv := HAv.out
          rw [HVA.out] at hAv
          obtain ⟨a3, c3, e3, _, _, hat⟩ := hAv.at
          cases e3
          obtain ⟨gA', e4, _, hgA', hce⟩ := hat (by omega)
          cases e4
          obtain ⟨y0, y1, y2, yf⟩ := hce k hlt
          have hmc : k < m := hlt
          have c2v := (HOk.out.cell (show B < wr.heap.size by omega) (HBV.out k hlt) 2).trans c2r
          have HSET := Lib.hid (hAv.setLong k hlt (.slice aL (nn + 40) cL))
          have HRv : Hid (∀ j, j < m → RowV 1 (wv.setCell ⟨gA, k * 3 + 1, none⟩ (.slice aL (nn + 40) cL)) (h j).v (h j).n (List.replicate (h j).n (h j).mark)) := fun j hj => by
            have hj0 : RowV 1 wv (h j).v (h j).n (List.replicate (h j).n (h j).mark) := by
              by_cases e : j = k
              · subst e; rw [HNE.out]; exact HKv.out
              · exact (HR.out j hj).only HOk.out (fun b hb hb2 => HAP.out j k hj hlt e b hb hb2)
            exact hj0.keep (by simp [World.setCell]) (fun b hb => Below.heap_setCell _ _ _ _ (by intro e; simp only at e; subst e; exact HAV.out j hj _ (by rw [HVA.out]; rfl) hb))
          have HLN : Hid (∀ j, j < k + 1 → RowV 1 (wv.setCell ⟨gA, k * 3 + 1, none⟩ (.slice aL (nn + 40) cL)) (if j = k then .slice aL (nn + 40) cL else lgs j) ((h j).n + 40) (List.replicate ((h j).n + 40) (h j).mark) ∧ ∀ b, (if j = k then .slice aL (nn + 40) cL else lgs j).ownBlock = some b → (h j).v.ownBlock = some b ∨ w.heap.size ≤ b) := fun j hj => by
            have hgw : gA < w.heap.size := HAL.out gA (by rw [HVA.out]; rfl)
            by_cases e : j = k
            · subst e
              rw [if_pos rfl, HNE.out]
              have hor : ∀ b, Value.ownBlock (.slice aL (nn + 40) cL) = some b → (h j).v.ownBlock = some b ∨ wr.heap.size ≤ b := fun b hb => by
                rcases HX.out with ⟨g, off, cap, e1, e2⟩ | hfar
                · left; rw [e1]; rw [e2] at hb; exact hb
                · right; have := hfar b hb; omega
              refine ⟨HLv.out.keep (by simp [World.setCell]) (fun b hb => Below.heap_setCell _ _ _ _ (by intro e; simp only at e; subst e; rcases hor _ hb with h1 | h1; exact HGN.out h1; have := HGA.out; omega)), fun b hb => ?_⟩
              rcases hor b hb with h1 | h1
              · exact .inl h1
              · exact .inr (by omega)
            · rw [if_neg e]
              obtain ⟨h1, h2⟩ := HL.out j (by omega)
              have hjm : j < m := by omega
              refine ⟨(h1.only HOk.out (fun b hb hb2 => ?_)).keep (by simp [World.setCell]) (fun b hb => Below.heap_setCell _ _ _ _ (by intro e'; simp only at e'; subst e'; rcases h2 _ hb with h3 | h3; exact HAV.out j hjm _ (by rw [HVA.out]; rfl) h3; omega)), h2⟩
              rcases h2 b hb with h3 | h3
              · exact HAP.out j k hjm hlt e b h3 hb2
              · have := HLT.out k hlt b hb2; omega
          have HON : Hid (Only (fun b => (∃ j, j < m ∧ (h j).v.ownBlock = some b) ∨ (f 2).ownBlock = some b) w (wv.setCell ⟨gA, k * 3 + 1, none⟩ (.slice aL (nn + 40) cL))) :=
            ((HO.out.trans (HOk.out.mono (fun b _ e => .inl ⟨k, hlt, e⟩))).setFar gA (k * 3 + 1) _ (.inl (.inr (by rw [HVA.out]; rfl))))
          have HAN : Hid (Arr 148 base (wv.setCell ⟨gA, k * 3 + 1, none⟩ (.slice aL (nn + 40) cL)) (f 2) m (fun j => if j < k + 1 then { h j with lg := if j = k then .slice aL (nn + 40) cL else lgs j } else h j)) := by
            show Arr _ _ _ _ _ _
            rw [HVA.out]
            obtain ⟨xs, h1, h2⟩ := HSET.out
            refine ⟨xs, h1, fun j hj => ?_⟩
            have h3 := h2 j hj
            by_cases e : j = k
            · subst e
              simp only [if_true, if_neg (Nat.lt_irrefl j), if_pos (Nat.lt_succ_self j)] at h3 ⊢
              exact h3
            · simp only [if_neg e] at h3 ⊢
              by_cases e2 : j < k
              · simp only [if_pos e2, if_pos (Nat.lt_succ_of_lt e2)] at h3 ⊢
                exact h3
              · simp only [if_neg e2, if_neg (show ¬ j < k + 1 by omega)] at h3 ⊢
                exact h3
          clear hce hat hAv
          go_wp2
          go_roundg (m - (k + 1))
          case measure => omega
          case rel => exact ⟨k + 1, fun j => if j = k then .slice aL (nn + 40) cL else lgs j, by omega, by omega, by go_num, HAN, HRv, HLN, HON⟩
    · have dkl : decide ((k : Int) < (m : Int)) = false := decide_eq_false (by omega)
      obtain rfl : k = m := by omega
      go_wp2
      go_returns
      refine ⟨rfl, lgs, ?_, HR.out, fun j hj => (HL.out j hj).1, HO.out⟩
      obtain ⟨xs, h1, h2⟩ := HAr.out
      refine ⟨xs, h1, fun j hj => ?_⟩
      have h3 := h2 j hj
      simp only [if_pos hj] at h3
      exact h3
end Go.Proofs.YtekejcnphmnidaaGreatDoor
