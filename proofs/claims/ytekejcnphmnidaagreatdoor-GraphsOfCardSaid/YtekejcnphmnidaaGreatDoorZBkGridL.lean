import Derived.Test.YtekejcnphmnidaaGreatDoorZBkGrid
import Derived.Deep.RegionLaw
import Derived.Deep.RegionHeld3
import Derived.Deep.AppendLies
import Derived.ArgAppend
import Derived.Lib.QuietBelow
namespace Go.Proofs.YtekejcnphmnidaaGreatDoor
open Go.RowKit
set_option maxHeartbeats 4000000 in
set_option maxRecDepth 100000 in
theorem lookGrid_any (w : World) (B : Nat) (f : Nat → Value) (base m : Nat) (h : Nat → Held) (H : Bk w B f) (A : Arr 207 base w (f 14) m h) (lo : Nat) (hR : ∀ j, j < m → RowP lo w (h j).v (h j).n (h j).num (h j).n)
    (hL : ∀ j, j < m → RowP lo w (h j).lg ((h j).n + 40) (h j).num ((h j).n + 40)) (hm : m ≤ 1000000) (hn : ∀ j, j < m → (h j).n ≤ 1000000) (hnum : ∀ j, j < m → 0 ≤ (h j).num ∧ (h j).num ≤ 1000000000) :
    Calls Tryz.prog 104 #[.pointer (some ⟨B, 0, none⟩)] w fun e w' => e = .returned (.bool true) ∧ Below w.heap.size w w' := by
  obtain ⟨aA, cA, hvA, hmA, hcA, hat⟩ := A.at
  have c2 := H.cell 14 (by omega)
  rw [hvA] at c2
  have hBl := H.lt
  have HAT := Lib.hid hat
  have HR := Lib.hid hR
  have HL := Lib.hid hL
  have HN := Lib.hid hn
  have HNUM := Lib.hid hnum
  clear H A hR hL hn hnum hat hvA
  go_enter Tryz.func104, Tryz.ntmps104
  go_wp2
  go_loopg [3] m (fun gg i wr => ∃ k : Nat, k ≤ m ∧ m - k ≤ gg ∧ i = .int .i64 k ∧ Hid (Below w.heap.size w wr))
  case atStart => exact ⟨0, Nat.zero_le _, by omega, rfl, Below.refl _ _⟩
  case round =>
    obtain ⟨k, hk, hg, rfl, HW⟩ := hrel
    have c2r := (HW.out.cell (p := ⟨B, 14, none⟩) hBl).trans c2
    by_cases hlt : k < m
    · have dkl : decide ((k : Int) < (m : Int)) = true := decide_eq_true (by omega)
      obtain ⟨gA, rfl, _, hgA, hce⟩ := HAT.out (by omega)
      obtain ⟨e0, e1, e2, _⟩ := hce k hlt
      have r0 := (HW.out.cell (p := ⟨gA, k * 3, none⟩) hgA).trans e0
      have r1 := (HW.out.cell (p := ⟨gA, k * 3 + 1, none⟩) hgA).trans e1
      have r2 := (HW.out.cell (p := ⟨gA, k * 3 + 2, none⟩) hgA).trans e2
      obtain ⟨aV, cV, hv, hvl, hvc, _⟩ := (HR.out k hlt).slice
      obtain ⟨aG, cG, hgv, hgl, hgc, _⟩ := (HL.out k hlt).slice
      have hnn := HN.out k hlt
      have hnu := HNUM.out k hlt
      have HV := Lib.hid hv
      have HG := Lib.hid hgv
      rw [hv] at r0
      rw [hgv] at r1
      have hb4 : Below wr.heap.size wr (wr.alloc (.cells #[.slice aV (h k).n cV, .slice aG ((h k).n + 40) cG, .int .i64 (h k).num] 207)) := (Below.refl _ _).alloc (Nat.le_refl _) _
      have HW4 : Hid (Below w.heap.size w (wr.alloc (.cells #[.slice aV (h k).n cV, .slice aG ((h k).n + 40) cG, .int .i64 (h k).num] 207))) := HW.out.trans (hb4.mono HW.out.size)
      have X0 : Hid ((wr.alloc (.cells #[.slice aV (h k).n cV, .slice aG ((h k).n + 40) cG, .int .i64 (h k).num] 207)).cell? ⟨wr.heap.size, 0, none⟩ = some (.slice aV (h k).n cV)) := by show _ = _; rw [World.cell?_alloc_at _ _ _ _ rfl]; rfl
      have X1 : Hid ((wr.alloc (.cells #[.slice aV (h k).n cV, .slice aG ((h k).n + 40) cG, .int .i64 (h k).num] 207)).cell? ⟨wr.heap.size, 1, none⟩ = some (.slice aG ((h k).n + 40) cG)) := by show _ = _; rw [World.cell?_alloc_at _ _ _ _ rfl]; rfl
      have X2 : Hid ((wr.alloc (.cells #[.slice aV (h k).n cV, .slice aG ((h k).n + 40) cG, .int .i64 (h k).num] 207)).cell? ⟨wr.heap.size, 2, none⟩ = some (.int .i64 (h k).num)) := by show _ = _; rw [World.cell?_alloc_at _ _ _ _ rfl]; rfl
      have HLk : Hid (∀ q, q < (h k).n + 40 → ∃ g off b, aG = some ⟨g, off, none⟩ ∧ g < w.heap.size ∧ w.cell? ⟨g, off + q, none⟩ = some (.slice (some ⟨b, 0, none⟩) 1 1) ∧ b < w.heap.size ∧ w.cell? ⟨b, 0, none⟩ = some (.int .i64 (-(h k).num))) := fun q hq => by
        obtain ⟨g, off, cap, b, h1, h2, h3, h5, h6⟩ := (HL.out k hlt).get hq (Nat.le_refl _)
        have h4 := hgv.symm.trans h1
        cases h4
        exact ⟨g, off, b, rfl, h2, h3, h5, h6⟩
      have HVk : Hid (∀ q, q < (h k).n → ∃ g off b, aV = some ⟨g, off, none⟩ ∧ g < w.heap.size ∧ w.cell? ⟨g, off + q, none⟩ = some (.slice (some ⟨b, 0, none⟩) 1 1) ∧ b < w.heap.size ∧ w.cell? ⟨b, 0, none⟩ = some (.int .i64 (-(h k).num))) := fun q hq => by
        obtain ⟨g, off, cap, b, h1, h2, h3, h5, h6⟩ := (HR.out k hlt).get hq (Nat.le_refl _)
        have h4 := hv.symm.trans h1
        cases h4
        exact ⟨g, off, b, rfl, h2, h3, h5, h6⟩
      clear hv hgv hb4 hce e0 e1 e2
      generalize (h k).n = nn at *
      generalize (h k).num = nu at *
      have hne : ((nn : Int) + 40 != (nn : Int) + 40) = false := by simp
      have hwz := HW.out.size
      have hz4 : wr.heap.size < (wr.alloc (.cells #[.slice aV nn cV, .slice aG (nn + 40) cG, .int .i64 nu] 207)).heap.size := by simp
      go_wp2
      generalize wr.alloc (.cells #[.slice aV nn cV, .slice aG (nn + 40) cG, .int .i64 nu] 207) = w4 at *
      have x0 := X0.out
      have x1 := X1.out
      have x2 := X2.out
      go_loopg [5] (nn + 40) (fun gg i wv => ∃ q : Nat, q ≤ nn + 40 ∧ nn + 40 - q ≤ gg ∧ i = .int .i64 q ∧ Hid (Below w4.heap.size w4 wv))
      case atStart => exact ⟨0, Nat.zero_le _, by omega, rfl, Below.refl _ _⟩
      case round =>
        rename World => wv
        obtain ⟨q, hq, hgq, rfl, HT⟩ := hrel
        have y0 := (HT.out.cell (p := ⟨wr.heap.size, 0, none⟩) hz4).trans x0
        have y1 := (HT.out.cell (p := ⟨wr.heap.size, 1, none⟩) hz4).trans x1
        have y2 := (HT.out.cell (p := ⟨wr.heap.size, 2, none⟩) hz4).trans x2
        have HWv : Hid (Below w.heap.size w wv) := HW4.out.trans (HT.out.mono (by omega))
        by_cases hltq : q < nn + 40
        · have dql : decide ((q : Int) < (nn : Int) + 40) = true := decide_eq_true (by omega)
          have hqb : (q : Int) < (nn : Int) + 40 := by omega
          obtain ⟨gL, oL, bL, rfl, hgL, kL, hbL, mL⟩ := HLk.out q hltq
          have HCQ : Hid (∀ d os, Calls Tryz.prog 170 #[.slice (some ⟨bL, 0, none⟩) 1 1, .int .i64 nu] (Sort.grow (redrawn wv d) os) fun e w'' => e = .returned (.bool true) ∧ ∃ p : Regrown, w'' = Sort.grow (redrawn wv p.d) p.os) := fun d os => Calls.regrown_of (isGrid_any nu bL _ (Go.cell_regrown ((HWv.out.cell (p := ⟨bL, 0, none⟩) hbL).trans mL) d os) hnu.1 hnu.2)
          have HEND : Hid (∀ d os, Below w4.heap.size w4 (Sort.grow (redrawn wv d) os)) := fun d os => HT.out.trans ((below_regrown wv d os).mono HT.out.size)
          have l0 := Go.cell_regrown ((HWv.out.cell (p := ⟨gL, oL + q, none⟩) hgL).trans kL)
          clear kL mL
          have z0 := Go.cell_regrown y0
          have z1 := Go.cell_regrown y1
          have z2 := Go.cell_regrown y2
          by_cases hqn : q < nn
          · have dqn : decide ((q : Int) < (nn : Int)) = true := decide_eq_true (by omega)
            have hqb2 : (q : Int) < (nn : Int) := by omega
            obtain ⟨gV, oV, bV, rfl, hgV, kV, hbV, mV⟩ := HVk.out q hqn
            have HCV : Hid (∀ d os, Calls Tryz.prog 170 #[.slice (some ⟨bV, 0, none⟩) 1 1, .int .i64 nu] (Sort.grow (redrawn wv d) os) fun e w'' => e = .returned (.bool true) ∧ ∃ p : Regrown, w'' = Sort.grow (redrawn wv p.d) p.os) := fun d os => Calls.regrown_of (isGrid_any nu bV _ (Go.cell_regrown ((HWv.out.cell (p := ⟨bV, 0, none⟩) hbV).trans mV) d os) hnu.1 hnu.2)
            have v0 := Go.cell_regrown ((HWv.out.cell (p := ⟨gV, oV + q, none⟩) hgV).trans kV)
            clear kV mV
            go_wp2_with fail
            refine wp_region_quiet_below mixed (by kernel_rfl) ?_
            repeat (go_big_quiet_step (first | with_reducible exact HCQ.out _ _ | with_reducible exact HCV.out _ _))
            refine wpQuiet_nil ?_
            intro _ hw'
            obtain ⟨⟨dq, osq⟩, hw''⟩ := hw'
            subst hw''
            have HEQ := Lib.hid (HEND.out dq osq)
            clear z0 z1 z2 HCQ HCV HEND l0 v0
            generalize Sort.grow (redrawn wv dq) osq = wz at *
            go_wp2
            go_roundg (nn + 40 - (q + 1))
            case measure => omega
            case rel => exact ⟨q + 1, by omega, by omega, by go_num, HEQ⟩
          · have dqn : decide ((q : Int) < (nn : Int)) = false := decide_eq_false (by omega)
            go_wp2_with fail
            refine wp_region_quiet_below mixed (by kernel_rfl) ?_
            repeat (go_big_quiet_step (exact HCQ.out _ _))
            refine wpQuiet_nil ?_
            intro _ hw'
            obtain ⟨⟨dq, osq⟩, hw''⟩ := hw'
            subst hw''
            have HEQ := Lib.hid (HEND.out dq osq)
            clear z0 z1 z2 HCQ HEND l0
            generalize Sort.grow (redrawn wv dq) osq = wz at *
            go_wp2
            go_roundg (nn + 40 - (q + 1))
            case measure => omega
            case rel => exact ⟨q + 1, by omega, by omega, by go_num, HEQ⟩
        · have dql : decide ((q : Int) < (nn : Int) + 40) = false := decide_eq_false (by omega)
          go_wp2
          go_roundg (m - (k + 1))
          case measure => omega
          case rel => exact ⟨k + 1, by omega, by omega, by go_num, HW4.out.trans (HT.out.mono (by omega))⟩
    · have dkl : decide ((k : Int) < (m : Int)) = false := decide_eq_false (by omega)
      go_wp2
      go_ret
      exact ⟨rfl, HW.out⟩
end Go.Proofs.YtekejcnphmnidaaGreatDoor
