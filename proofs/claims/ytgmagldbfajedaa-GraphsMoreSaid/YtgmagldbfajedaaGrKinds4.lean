/-
  graphs.kinds: contract kinds_any: the map that it answers holds the table of kinds.
-/
import Derived.Test.YtgmagldbfajedaaGrKinds3
import Derived.Laws.EntriesVeiled
namespace Go.Proofs.Ytgmagldbfajedaa
open Go.RowKit

theorem opsK_order : ∀ i, i < opsK.size → ((opsK[i]?).map (·.after.all fun e => decide (e.on < i))).getD false = true := by decide +kernel

theorem KindAt.made (w : World) (a b c d e f : Int) : KindAt (w.alloc (.cells #[.int .i64 a, .int .i64 b, .int .i64 c, .int .i64 d, .int .i64 e, .int .i64 f] 100)) w.heap.size ⟨a, b, c, d, e, f⟩ := by
  refine ⟨by simp, ?_, ?_, ?_, ?_, ?_, ?_⟩ <;> (rw [World.cell?_alloc_at _ _ _ _ rfl]; rfl)

theorem KindAt.alloc {w : World} {p : Nat} {k : Gr.Kind} (h : KindAt w p k) (o : Obj) : KindAt (w.alloc o) p k := h.below ((Below.refl _ _).alloc (Nat.le_refl _) o)

theorem KindAt.drew {w : World} {p : Nat} {k : Gr.Kind} (h : KindAt w p k) : KindAt w.drew p k := ⟨h.lt, h.c0, h.c1, h.c2, h.c3, h.c4, h.c5⟩

set_option maxHeartbeats 2000000 in
set_option maxRecDepth 100000 in
theorem kinds_any (w : World) : Calls Try.prog 68 #[] w fun e w' => ∃ r, e = .returned (.map (some r)) ∧ w.heap.size ≤ r ∧ KindsMap w' r ∧ Below w.heap.size w w' := by
  go_enter Try.func68, Try.ntmps68
  go_wp2_with fail
  refine (kinds1_any _ _ _ _ _ _ _ _ _).mono ?_
  rintro e w1 ⟨rfl, hb⟩
  have hb1 : Below w.heap.size w w1 := (((Below.refl _ _).alloc (Nat.le_refl _) _).alloc (by simp) _).trans (hb.mono (by simp; omega))
  have hz1 : w.heap.size + 2 ≤ w1.heap.size := by have := hb.size; simp at this; omega
  have hA : KindAt w1 w.heap.size ⟨1, 1, 0, 0, 0, 0⟩ := ((KindAt.made w 1 1 0 0 0 0).alloc _).below hb
  have hB : KindAt w1 (w.heap.size + 1) ⟨2, 2, 0, 0, 0, 0⟩ := by
    have h := KindAt.made (w.alloc (.cells #[.int .i64 1, .int .i64 1, .int .i64 0, .int .i64 0, .int .i64 0, .int .i64 0] 100)) 2 2 0 0 0 0
    rw [show (w.alloc (.cells #[.int .i64 1, .int .i64 1, .int .i64 0, .int .i64 0, .int .i64 0, .int .i64 0] 100)).heap.size = w.heap.size + 1 by simp] at h
    exact h.below hb
  have HA := Lib.hid hA
  have HB := Lib.hid hB
  have HB1 := Lib.hid hb1
  obtain ⟨_, a0, a1, a2, a3, a4, a5⟩ := hA
  clear hb hB hb1
  go_wp2_with fail
  refine (kinds1_any _ _ _ _ _ _ _ _ _).mono ?_
  rintro e w2 ⟨rfl, hb⟩
  have hC : Hid (KindAt w2 w1.heap.size ⟨2, 2, 1, 8, 8, 0⟩) := (KindAt.made w1 2 2 1 8 8 0).below hb
  have HA2 := Lib.hid ((HA.out.alloc _).below hb)
  have HB2 := Lib.hid ((HB.out.alloc _).below hb)
  have hz2 : w1.heap.size + 1 ≤ w2.heap.size := by have := hb.size; simp at this; omega
  have HBel := Lib.hid ((HB1.out.alloc (by omega) _).trans (hb.mono (by simp; omega)))
  clear hb HA HB HB1 a0 a1 a2 a3 a4 a5
  go_wp2_with fail
  refine wp_region_inv (ops := opsK) (InvK (w2.alloc (.cells #[.int .i64 1, .int .i64 4, .int .i64 0, .int .i64 3, .int .i64 0, .int .i64 0] 100)).drew w.heap.size (w.heap.size + 1) w1.heap.size w2.heap.size) mixed ?start
    (fun listed a w hz I i hi => stepK (HA2.out.alloc _).drew (HB2.out.alloc _).drew (hC.out.alloc _).drew (KindAt.made w2 1 4 0 3 0 0).drew listed a w hz I i hi) ?fin
  case start =>
    have hf : ∀ j, (Array.replicate opsK.size false).getD j false = true → False := fun j h => by
      simp [Array.getD_eq_getD_getElem?, Array.getElem?_replicate] at h
      split at h <;> simp at h
    exact ⟨rfl, rfl, rfl, rfl, rfl, rfl, rfl, Below.refl _ _, fun p _ h => (hf _ h).elim, fun p _ h => (hf _ h).elim, fun h => (hf _ h).elim, fun _ _ h => (hf _ h).elim, fun h => (hf _ h).elim, fun h => (hf _ h).elim⟩
  case fin =>
    intro listed a w' hz I hr
    have hall := all_up hr hz opsK_order
    obtain ⟨r, es, clock, h1, h2, h3, h4, h5, h6⟩ := I.map (hall 0 (by decide))
    have h0 := I.m34 (hall 34 (by decide))
    have hK : Hid (KindsMap w' r) := by
      refine ⟨es, clock, h4, fun e he => ?_, fun k kd hk => ?_⟩
      · obtain ⟨x, hx, _, hk, hv⟩ := h5 e he
        exact ⟨_, _, hk, ins_kind _ hx, hv⟩
      · obtain ⟨i, hi⟩ := kind_ins hk
        have hri := ins_range _ hi
        exact h6 _ hi (hall i (by have : opsK.size = 35 := rfl; simp only at hri; omega))
    have hbel : Hid (Below w.heap.size w w') := ((HBel.out.alloc (by omega) _).drew).trans (I.bel.mono (by simp [World.drew]; omega))
    have hd := I.defers
    have hbr : w.heap.size ≤ r := by have : w2.heap.size + 1 ≤ r := by simpa [World.drew] using h1
                                     omega
    rename_i KK hKK
    refine hKK a w' ?_
    apply wp_ret
    refine bodyPost_ret (results_tmp rfl _ _ _) hd ?_
    rw [h0, h3]
    exact ⟨r, rfl, hbr, hK.out, hbel.out⟩
end Go.Proofs.Ytgmagldbfajedaa
