/-
  The Book looks at all its lists of ints: contract lookInt_any.
-/
import Derived.Test.YtekejcnphmnidaaGreatDoorZBkG
namespace Go.Proofs.YtekejcnphmnidaaGreatDoor
open Go.RowKit

theorem quiet_more {P : Program} {f : FuncId} {args : Array Value} {w : World} {m a : Nat} {v : Value} (h : Calls P f args (w.drewN (m + a)) fun e w' => e = .returned v ∧ w' = w.drewN (m + a)) :
    Calls P f args (w.drewN (m + a)) fun e w' => e = .returned v ∧ ∃ n, w' = w.drewN (m + n) := h.mono fun _ _ ⟨h1, h2⟩ => ⟨h1, a, h2⟩

theorem RowV.at {w : World} {v : Value} {n : Nat} {x : Value} (h : RowV 1 w v n (List.replicate n x)) {q : Nat} (hq : q < n) : ∃ g off cap, v = .slice (some ⟨g, off, none⟩) n cap ∧ g < w.heap.size ∧ w.cell? ⟨g, off + q, none⟩ = some x := by
  rcases h with ⟨_, h, _⟩ | ⟨g, off, cap, hv, h⟩
  · omega
  · exact ⟨g, off, cap, hv, h.lt, h.cell q x (by rw [List.getElem?_replicate, if_pos hq])⟩

set_option maxHeartbeats 4000000 in
set_option maxRecDepth 100000 in
theorem lookInt_any (w : World) (B : Nat) (f : Nat → Value) (base m : Nat) (h : Nat → Held) (H : Bk w B f) (A : Arr 148 base w (f 2) m h) (hR : ∀ j, j < m → RowV 1 w (h j).v (h j).n (List.replicate (h j).n (h j).mark))
    (hL : ∀ j, j < m → RowV 1 w (h j).lg ((h j).n + 40) (List.replicate ((h j).n + 40) (h j).mark)) (hm : m ≤ 1000000) (hn : ∀ j, j < m → (h j).n ≤ 1000000) (hnum : ∀ j, j < m → 0 ≤ (h j).num ∧ (h j).num ≤ 1000000000) :
    Calls Tryz.prog 92 #[.pointer (some ⟨B, 0, none⟩)] w fun e w' => e = .returned (.bool true) ∧ Below w.heap.size w w' := by
  obtain ⟨aA, cA, hvA, hmA, hcA, hat⟩ := A.at
  have c2 := H.cell 2 (by omega)
  rw [hvA] at c2
  have hBl := H.lt
  have HAT := Lib.hid hat
  have HR := Lib.hid hR
  have HL := Lib.hid hL
  have HN := Lib.hid hn
  have HNUM := Lib.hid hnum
  clear H A hR hL hn hnum hat hvA
  go_enter Tryz.func92, Tryz.ntmps92
  go_wp2
  go_loopg [3] m (fun gg i wr => ∃ k : Nat, k ≤ m ∧ m - k ≤ gg ∧ i = .int .i64 k ∧ Hid (Below w.heap.size w wr))
  case atStart => exact ⟨0, Nat.zero_le _, by omega, rfl, Below.refl _ _⟩
  case round =>
    obtain ⟨k, hk, hg, rfl, HW⟩ := hrel
    have c2r := (HW.out.cell (p := ⟨B, 2, none⟩) hBl).trans c2
    by_cases hlt : k < m
    · have dkl : decide ((k : Int) < (m : Int)) = true := decide_eq_true (by omega)
      obtain ⟨gA, rfl, _, hgA, hce⟩ := HAT.out (by omega)
      obtain ⟨e0, e1, e2, _⟩ := hce k hlt
      have r0 := (HW.out.cell (p := ⟨gA, k * 3, none⟩) hgA).trans e0
      have r1 := (HW.out.cell (p := ⟨gA, k * 3 + 1, none⟩) hgA).trans e1
      have r2 := (HW.out.cell (p := ⟨gA, k * 3 + 2, none⟩) hgA).trans e2
      obtain ⟨aV, cV, hv, hvl, hvc, _⟩ := (HR.out k hlt).slice
      obtain ⟨aG, cG, hgv, hgl, hgc, _⟩ := (HL.out k hlt).slice
      have hnn := HN.out k hlt
      have hnu := HNUM.out k hlt
      have HV := Lib.hid hv
      have HG := Lib.hid hgv
      rw [hv] at r0
      rw [hgv] at r1
      have hb4 : Below wr.heap.size wr (wr.alloc (.cells #[.slice aV (h k).n cV, .slice aG ((h k).n + 40) cG, .int .i64 (h k).num] 148)) := (Below.refl _ _).alloc (Nat.le_refl _) _
      have HW4 : Hid (Below w.heap.size w (wr.alloc (.cells #[.slice aV (h k).n cV, .slice aG ((h k).n + 40) cG, .int .i64 (h k).num] 148))) := HW.out.trans (hb4.mono HW.out.size)
      have X0 : Hid ((wr.alloc (.cells #[.slice aV (h k).n cV, .slice aG ((h k).n + 40) cG, .int .i64 (h k).num] 148)).cell? ⟨wr.heap.size, 0, none⟩ = some (.slice aV (h k).n cV)) := by show _ = _; rw [World.cell?_alloc_at _ _ _ _ rfl]; rfl
      have X1 : Hid ((wr.alloc (.cells #[.slice aV (h k).n cV, .slice aG ((h k).n + 40) cG, .int .i64 (h k).num] 148)).cell? ⟨wr.heap.size, 1, none⟩ = some (.slice aG ((h k).n + 40) cG)) := by show _ = _; rw [World.cell?_alloc_at _ _ _ _ rfl]; rfl
      have X2 : Hid ((wr.alloc (.cells #[.slice aV (h k).n cV, .slice aG ((h k).n + 40) cG, .int .i64 (h k).num] 148)).cell? ⟨wr.heap.size, 2, none⟩ = some (.int .i64 (h k).num)) := by show _ = _; rw [World.cell?_alloc_at _ _ _ _ rfl]; rfl
      have HLk : Hid (∀ q, q < (h k).n + 40 → ∃ g off, aG = some ⟨g, off, none⟩ ∧ g < w.heap.size ∧ w.cell? ⟨g, off + q, none⟩ = some (.int .i64 (-(h k).num))) := fun q hq => by
        obtain ⟨g, off, cap, h1, h2, h3⟩ := (HL.out k hlt).at hq
        have h4 := hgv.symm.trans h1
        cases h4
        exact ⟨g, off, rfl, h2, h3⟩
      have HVk : Hid (∀ q, q < (h k).n → ∃ g off, aV = some ⟨g, off, none⟩ ∧ g < w.heap.size ∧ w.cell? ⟨g, off + q, none⟩ = some (.int .i64 (-(h k).num))) := fun q hq => by
        obtain ⟨g, off, cap, h1, h2, h3⟩ := (HR.out k hlt).at hq
        have h4 := hv.symm.trans h1
        cases h4
        exact ⟨g, off, rfl, h2, h3⟩
      clear hv hgv hb4 hce e0 e1 e2
      generalize (h k).n = nn at *
      generalize (h k).num = nu at *
      have hne : ((nn : Int) + 40 != (nn : Int) + 40) = false := by simp
      have hwz := HW.out.size
      go_wp2
      generalize wr.alloc (.cells #[.slice aV nn cV, .slice aG (nn + 40) cG, .int .i64 nu] 148) = w4 at *
      have x0 := X0.out
      have x1 := X1.out
      have x2 := X2.out
      go_loopg [5] (nn + 40) (fun gg i wv => ∃ q : Nat, q ≤ nn + 40 ∧ nn + 40 - q ≤ gg ∧ i = .int .i64 q ∧ Hid (∃ t, wv = w4.drewN t))
      case atStart => exact ⟨0, Nat.zero_le _, by omega, rfl, 0, rfl⟩
      case round =>
        rename World => wv
        obtain ⟨q, hq, hgq, rfl, HT⟩ := hrel
        obtain ⟨t, rfl⟩ := HT.out
        by_cases hltq : q < nn + 40
        · have dql : decide ((q : Int) < (nn : Int) + 40) = true := decide_eq_true (by omega)
          have hqb : (q : Int) < (nn : Int) + 40 := by omega
          obtain ⟨gL, oL, rfl, hgL, kL0⟩ := HLk.out q hltq
          have kL := (HW4.out.cell (p := ⟨gL, oL + q, none⟩) hgL).trans kL0
          have hxx : ((-nu : Int) == -nu) = true := by simp
          have HC : Hid (∀ s, Calls Tryz.prog 158 #[.int .i64 (-nu), .int .i64 nu] (w4.drewN s) fun e w' => e = .returned (.bool true) ∧ w' = w4.drewN s) := fun s => (isInt_any (-nu) nu _ hnu.1 hnu.2).mono fun _ _ ⟨he, hw⟩ => ⟨by rw [he, hxx], hw.symm⟩
          by_cases hqn : q < nn
          · have dqn : decide ((q : Int) < (nn : Int)) = true := decide_eq_true (by omega)
            have hqb2 : (q : Int) < (nn : Int) := by omega
            obtain ⟨gV, oV, rfl, hgV, kV0⟩ := HVk.out q hqn
            have kV := (HW4.out.cell (p := ⟨gV, oV + q, none⟩) hgV).trans kV0
            go_wp2_with fail
            go_quiet ((go_at_call 158; exact quiet_more (HC.out _)))
            go_wp2
            go_roundg (nn + 40 - (q + 1))
            case measure => omega
            case rel => exact ⟨q + 1, by omega, by omega, by go_num, ⟨t + nq, by simp⟩⟩
          · have dqn : decide ((q : Int) < (nn : Int)) = false := decide_eq_false (by omega)
            go_wp2_with fail
            go_quiet ((go_at_call 158; exact quiet_more (HC.out _)))
            go_wp2
            go_roundg (nn + 40 - (q + 1))
            case measure => omega
            case rel => exact ⟨q + 1, by omega, by omega, by go_num, ⟨t + nq, by simp⟩⟩
        · have dql : decide ((q : Int) < (nn : Int) + 40) = false := decide_eq_false (by omega)
          go_wp2
          go_roundg (m - (k + 1))
          case measure => omega
          case rel => exact ⟨k + 1, by omega, by omega, by go_num, HW4.out.trans (below_drewN _ _ _)⟩
    · have dkl : decide ((k : Int) < (m : Int)) = false := decide_eq_false (by omega)
      go_wp2
      go_ret
      exact ⟨rfl, HW.out⟩
end Go.Proofs.YtekejcnphmnidaaGreatDoor
