/-
  The Book writes its marks over all its lists of ints: contracts markInt_any, isInt_any, fillInt_any.
-/
import Derived.Test.YtekejcnphmnidaaGreatDoorZBkK
import Derived.StillTail
import Derived.StillTailTactics
namespace Go.Proofs.YtekejcnphmnidaaGreatDoor
open Go.RowKit

theorem markInt_any (n : Int) (w : World) (h0 : 0 ≤ n) (h1 : n ≤ 1000000000) : Calls Tryz.prog 143 #[.int .i64 n] w fun e w' => e = .returned (.int .i64 (-n)) ∧ w = w' := by
  go_enter Tryz.func143, Tryz.ntmps143
  go_wp2
  go_ret
  exact ⟨by first | rfl | go_num, rfl⟩
theorem isInt_any (x n : Int) (w : World) (h0 : 0 ≤ n) (h1 : n ≤ 1000000000) : Calls Tryz.prog 158 #[.int .i64 x, .int .i64 n] w fun e w' => e = .returned (.bool (x == -n)) ∧ w = w' := by
  go_enter Tryz.func158, Tryz.ntmps158
  go_wp2
  go_ret
  exact ⟨rfl, rfl⟩

/-- A list's mark. -/
def Held.mark (h : Held) : Value := .int .i64 (-h.num)
/-- The first k of a list are marked. -/
def Held.part (h : Held) (k : Nat) : List Value := List.replicate k h.mark ++ h.xs.drop k
theorem Held.part_zero (h : Held) : h.part 0 = h.xs := by simp [Held.part]
theorem Held.part_all (h : Held) (n : Nat) (hn : h.xs.length = n) : h.part n = List.replicate n h.mark := by unfold Held.part; rw [List.drop_eq_nil_of_le (by omega), List.append_nil]
theorem Held.part_next (h : Held) (k : Nat) (hk : k < h.xs.length) : (h.part k).set k h.mark = h.part (k + 1) := by
  unfold Held.part
  rw [List.set_append_right _ _ (by simp), List.length_replicate, Nat.sub_self, List.drop_eq_getElem_cons hk, List.set_cons_zero, List.replicate_succ', List.append_assoc]
  rfl
/-- No list shares a block with another one. -/
def ApartV (m : Nat) (v : Nat → Value) : Prop := ∀ i j, i < m → j < m → i ≠ j → ∀ b, (v i).ownBlock = some b → (v j).ownBlock ≠ some b

/-- A cell of one list is written to. -/
theorem rows_put {m : Nat} {w : World} {h : Nat → Held} {X : Nat → List Value} (hR : ∀ j, j < m → RowV 1 w (h j).v (h j).n (X j)) (hap : ApartV m (fun j => (h j).v)) {k : Nat} (hk : k < m) {g off cap : Nat} (hv : (h k).v = .slice (some ⟨g, off, none⟩) (h k).n cap)
    {q : Nat} (hq : q < (h k).n) (u : Value) : ∀ j, j < m → RowV 1 (w.setCell ⟨g, off + q, none⟩ u) (h j).v (h j).n (if j = k then (X k).set q u else X j) := by
  intro j hj
  by_cases e : j = k
  · subst e
    rw [if_pos rfl]
    rcases hR j hj with ⟨h1, h2, _⟩ | ⟨g', off', cap', h1, h2⟩
    · omega
    · rw [hv] at h1
      cases h1
      exact .inr ⟨g, off, cap, hv, h2.set q (by omega) u⟩
  · rw [if_neg e]
    refine (hR j hj).keep (by simp [World.setCell]) (fun b hb => Below.heap_setCell _ _ _ _ ?_)
    intro e2
    simp only at e2
    exact hap j k hj hk e b hb (by show (h k).v.ownBlock = _; rw [hv]; show some g = some b; rw [e2])

set_option maxHeartbeats 2000000 in
set_option maxRecDepth 100000 in
theorem fillInt_any (w : World) (B : Nat) (f : Nat → Value) (base m : Nat) (h : Nat → Held) (H : Bk w B f) (A : Arr 148 base w (f 2) m h) (hR : ∀ j, j < m → RowV 1 w (h j).v (h j).n (h j).xs) (hm : m ≤ 1000000) (hlg : ∀ j, j < m → (h j).lg = .slice none 0 0)
    (hnum : ∀ j, j < m → 0 ≤ (h j).num ∧ (h j).num ≤ 1000000000) (hap : ApartV m (fun j => (h j).v)) (hB : ∀ j, j < m → (h j).v.ownBlock ≠ some B) (hA : ∀ j, j < m → ∀ k, (f 2).ownBlock = some k → (h j).v.ownBlock ≠ some k) :
    Calls Tryz.prog 62 #[.pointer (some ⟨B, 0, none⟩)] w fun e w' => e = .returned (.tuple #[]) ∧ (∀ j, j < m → RowV 1 w' (h j).v (h j).n (List.replicate (h j).n (h j).mark)) ∧ Only (fun k => ∃ j, j < m ∧ (h j).v.ownBlock = some k) w w' := by
  obtain ⟨aA, cA, hvA, hmA, hcA, hat⟩ := A.at
  have HS : Hid (¬ (∃ j, j < m ∧ (h j).v.ownBlock = some B)) := fun ⟨j, hj, e⟩ => hB j hj e
  have KH := Lib.hid H
  have c2 := H.cell 2 (by omega)
  rw [hvA] at c2
  have hBl := H.lt
  have HAT := Lib.hid hat
  have HR0 := Lib.hid hR
  have HNUM := Lib.hid hnum
  have HLG := Lib.hid hlg
  have HLT : Hid (∀ b, (∃ j, j < m ∧ (h j).v.ownBlock = some b) → b < w.heap.size) := fun b ⟨j, hj, e⟩ => (hR j hj).lt b e
  have HAP := Lib.hid hap
  have HAA : Hid (∀ g, aA = some ⟨g, 0, none⟩ → ¬ (∃ j, j < m ∧ (h j).v.ownBlock = some g)) := fun g hg ⟨j, hj, e⟩ => hA j hj g (by rw [hvA, hg]; rfl) e
  clear H A hR hnum hlg hap hB hA hat hvA
  go_enter Tryz.func62, Tryz.ntmps62
  go_wp2
  go_loopg [2] m (fun gg i wr => ∃ k : Nat, k ≤ m ∧ m - k ≤ gg ∧ i = .int .i64 k ∧ Hid (∀ j, j < m → RowV 1 wr (h j).v (h j).n (if j < k then List.replicate (h j).n (h j).mark else (h j).xs)) ∧ Hid (Only (fun k => ∃ j, j < m ∧ (h j).v.ownBlock = some k) w wr))
  case atStart => exact ⟨0, Nat.zero_le _, by omega, rfl, fun j hj => by rw [if_neg (by omega)]; exact HR0.out j hj, Only.refl _ _⟩
  case round =>
    obtain ⟨k, hk, hg, rfl, HR, HO⟩ := hrel
    have c2r := (HO.out.cell hBl HS.out 2).trans c2
    by_cases hlt : k < m
    · have dkl : decide ((k : Int) < (m : Int)) = true := decide_eq_true (by omega)
      obtain ⟨gA, rfl, _, hgA, hce⟩ := HAT.out (by omega)
      obtain ⟨e0, e1, e2, _⟩ := hce k hlt
      have hns := HAA.out gA rfl
      have r0 := (HO.out.cell hgA hns (k * 3)).trans e0
      have r1 := (HO.out.cell hgA hns (k * 3 + 1)).trans e1
      have r2 := (HO.out.cell hgA hns (k * 3 + 2)).trans e2
      rw [HLG.out k hlt] at r1
      obtain ⟨aV, cV, hv, hvl, hvc, _⟩ := (HR.out k hlt).slice
      rw [hv] at r0
      have HV := Lib.hid hv
      have hn := HNUM.out k hlt
      have HLN : Hid ((h k).xs.length = (h k).n) := by
        show _ = _
        rcases HR0.out k hlt with ⟨_, h2, h3⟩ | ⟨_, _, _, _, h2⟩
        · rw [h2, h3]; rfl
        · have := h2.len; omega
      have HMK : Hid ((h k).mark = .int .i64 (-(h k).num)) := rfl
      have HR1 : Hid (∀ j, j < m → RowV 1 wr (h j).v (h j).n (if j < k then List.replicate (h j).n (h j).mark else if j = k then (h j).part 0 else (h j).xs)) := fun j hj => by
        have := HR.out j hj
        by_cases e : j < k
        · rw [if_pos e] at this ⊢; exact this
        · rw [if_neg e] at this ⊢
          by_cases e2 : j = k
          · rw [if_pos e2, Held.part_zero]; exact this
          · rw [if_neg e2]; exact this
      have HW1 : Hid (w.heap.size ≤ wr.heap.size) := HO.out.size
      have hb4 : Below wr.heap.size wr (wr.alloc (.cells #[.slice aV (h k).n cV, .slice none 0 0, .int .i64 (h k).num] 148)) := (Below.refl _ _).alloc (Nat.le_refl _) _
      have HR4 : Hid (∀ j, j < m → RowV 1 (wr.alloc (.cells #[.slice aV (h k).n cV, .slice none 0 0, .int .i64 (h k).num] 148)) (h j).v (h j).n (if j < k then List.replicate (h j).n (h j).mark else if j = k then (h j).part 0 else (h j).xs)) := fun j hj => (HR1.out j hj).keep hb4.size (fun b hb => hb4.block b ((HR1.out j hj).lt b hb))
      have HO4 : Hid (Only (fun k => ∃ j, j < m ∧ (h j).v.ownBlock = some k) w (wr.alloc (.cells #[.slice aV (h k).n cV, .slice none 0 0, .int .i64 (h k).num] 148))) := HO.out.trans (Only.of_below hb4)
      have X0 : Hid ((wr.alloc (.cells #[.slice aV (h k).n cV, .slice none 0 0, .int .i64 (h k).num] 148)).cell? ⟨wr.heap.size, 0, none⟩ = some (.slice aV (h k).n cV)) := by show _ = _; rw [World.cell?_alloc_at _ _ _ _ rfl]; rfl
      have X2 : Hid ((wr.alloc (.cells #[.slice aV (h k).n cV, .slice none 0 0, .int .i64 (h k).num] 148)).cell? ⟨wr.heap.size, 2, none⟩ = some (.int .i64 (h k).num)) := by show _ = _; rw [World.cell?_alloc_at _ _ _ _ rfl]; rfl
      have Z4 : Hid ((wr.alloc (.cells #[.slice aV (h k).n cV, .slice none 0 0, .int .i64 (h k).num] 148)).heap.size = wr.heap.size + 1) := by show _ = _; simp
      clear hv e0 e1 e2 hb4
      have HNN : Hid ((h k).n = (h k).n) := rfl
      generalize hnn : (h k).n = nn at *
      generalize hmm : (h k).num = nu at *
      have HNE := Lib.hid hnn
      have HME := Lib.hid hmm
      clear hnn hmm
      go_wp2
      generalize wr.alloc (.cells #[.slice aV nn cV, .slice none 0 0, .int .i64 nu] 148) = w4 at *
      have hz4 := Z4.out
      have hw1 := HW1.out
      go_loopg [4] nn (fun gg i wv => ∃ q : Nat, q ≤ nn ∧ nn - q ≤ gg ∧ i = .int .i64 q ∧ Hid (∀ j, j < m → RowV 1 wv (h j).v (h j).n (if j < k then List.replicate (h j).n (h j).mark else if j = k then (h j).part q else (h j).xs)) ∧ Hid (Only (fun k => ∃ j, j < m ∧ (h j).v.ownBlock = some k) w4 wv))
      case atStart => exact ⟨0, Nat.zero_le _, by omega, rfl, HR4, Only.refl _ _⟩
      case round =>
        rename World => wv
        obtain ⟨q, hq, hgq, rfl, HRv, HOv⟩ := hrel
        have hnb : ¬ (∃ j, j < m ∧ (h j).v.ownBlock = some wr.heap.size) := fun e => by have := HLT.out _ e; omega
        have x0 := (HOv.out.cell (show wr.heap.size < w4.heap.size by omega) hnb 0).trans X0.out
        have x2 := (HOv.out.cell (show wr.heap.size < w4.heap.size by omega) hnb 2).trans X2.out
        by_cases hltq : q < nn
        · have dql : decide ((q : Int) < (nn : Int)) = true := decide_eq_true (by omega)
          have hqn : q < (h k).n := by rw [HNE.out]; exact hltq
          have hrow := HRv.out k hlt
          rw [if_neg (Nat.lt_irrefl k), if_pos rfl] at hrow
          rcases hrow with ⟨_, h2, _⟩ | ⟨g, off, cap, hvk, hrk⟩
          · omega
          have hvk2 : Value.slice aV nn cV = .slice (some ⟨g, off, none⟩) nn cap := HV.out.symm.trans (by rw [hvk, HNE.out])
          cases hvk2
          have hvk3 : (h k).v = .slice (some ⟨g, off, none⟩) (h k).n cV := hvk
          have hal := hrk.all q (by have := hrk.le; omega)
          obtain ⟨y, hy⟩ := Option.isSome_iff_exists.1 hal.1
          have fz := hal.2
          have HPUT := Lib.hid (rows_put HRv.out HAP.out hlt hvk3 hqn (.int .i64 (-nu)))
          have HOS : Hid (Only (fun k => ∃ j, j < m ∧ (h j).v.ownBlock = some k) w4 (wv.setCell ⟨g, off + q, none⟩ (.int .i64 (-nu)))) := HOv.out.trans (Only.set g (off + q) _ ⟨k, hlt, by rw [hvk3]; rfl⟩)
          have HRN : Hid (∀ j, j < m → RowV 1 (wv.setCell ⟨g, off + q, none⟩ (.int .i64 (-nu))) (h j).v (h j).n (if j < k then List.replicate (h j).n (h j).mark else if j = k then (h j).part (q + 1) else (h j).xs)) := fun j hj => by
            have := HPUT.out j hj
            by_cases e : j = k
            · subst e
              rw [if_pos rfl, if_neg (Nat.lt_irrefl j), if_pos rfl] at this
              rw [if_neg (Nat.lt_irrefl j), if_pos rfl]
              have hp := (h j).part_next q (by rw [HLN.out]; exact hltq)
              rw [HMK.out] at hp
              rw [hp] at this
              exact this
            · rw [if_neg e, if_neg e] at this
              rw [if_neg e]
              exact this
          have HMC : Hid (Calls Tryz.prog 143 #[.int .i64 nu] wv.drew fun e w' => e = .returned (.int .i64 (-nu)) ∧ w' = wv.drew) := (markInt_any nu wv.drew hn.1 hn.2).mono fun _ _ ⟨he, hw⟩ => ⟨he, hw.symm⟩
          have hqb : (q : Int) < (nn : Int) := by omega
          clear hrk hvk hvk3 hal HPUT
          go_wp2_with fail
          refine wp_region_still_tail 7 mixed (by kernel_rfl) ?_
          simp only [List.take_succ_cons, List.take_zero, List.drop_succ_cons, List.drop_zero]
          change wpStill _ _ wv.drew _ _ _
          repeat still_step
          still_call HMC.out
          repeat still_step
          refine wpStill_nil ?_
          change wpList _ _ _ _ _ wv.drew
          go_wp2
          go_roundg (nn - (q + 1))
          case measure => omega
          case rel => exact ⟨q + 1, by omega, by omega, by go_num, fun j hj => (HRN.out j hj).keep (Nat.le_refl _) (fun _ _ => rfl), HOS.out.trans (Only.of_below (Below.refl _ _).drew)⟩
        · have dql : decide ((q : Int) < (nn : Int)) = false := decide_eq_false (by omega)
          obtain rfl : q = nn := by omega
          have HR5 : Hid (∀ j, j < m → RowV 1 wv (h j).v (h j).n (if j < k + 1 then List.replicate (h j).n (h j).mark else (h j).xs)) := fun j hj => by
            have := HRv.out j hj
            by_cases e : j = k
            · subst e
              rw [if_neg (Nat.lt_irrefl j), if_pos rfl, Held.part_all _ _ HLN.out] at this
              rw [if_pos (by omega), HNE.out]
              rw [HNE.out] at this
              exact this
            · rw [if_neg e] at this
              by_cases e2 : j < k
              · rw [if_pos e2] at this; rw [if_pos (by omega)]; exact this
              · rw [if_neg e2] at this; rw [if_neg (by omega)]; exact this
          have HO5 := Lib.hid (HO4.out.trans HOv.out)
          go_wp2
          go_roundg (m - (k + 1))
          case measure => omega
          case rel => exact ⟨k + 1, by omega, by omega, by go_num, HR5, HO5⟩
    · have dkl : decide ((k : Int) < (m : Int)) = false := decide_eq_false (by omega)
      obtain rfl : k = m := by omega
      go_wp2
      go_returns
      exact ⟨rfl, fun j hj => by have := HR.out j hj; rw [if_pos hj] at this; exact this, HO.out⟩
end Go.Proofs.YtekejcnphmnidaaGreatDoor
