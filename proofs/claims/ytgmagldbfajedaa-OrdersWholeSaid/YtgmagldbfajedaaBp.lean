/-
  One text out of: OrKnown, OrAlive.
-/
import Derived.Test.YtgmagldbfajedaaBo
import Derived.Test.YtgmagldbfajedaaBh
/- OrKnown: drydocklaw12.known, in, is: contracts known12_any, in_any, is_any (printed by gen_known12.py).
-/
namespace Go.Proofs.Ytgmagldbfajedaa
open Go.RowKit

/-- The chapter's graph. -/
def oKnown : List Gr.Node := [⟨1, [], [2], 0, 0⟩, ⟨5, [0], [], 0, 0⟩, ⟨2, [], [2], 0, 0⟩, ⟨3, [0, 0], [], 0, 0⟩, ⟨3, [3, 1], [], 0, 0⟩]
theorem oKnown_of : Od.ordO oKnown = some [0, 1, 3, 4] := by decide
theorem oKnown_n1 : Od.nextO oKnown [0, 1, 3, 4] (-1) = some [1, 3, -1, 3, 4] := by decide
theorem oKnown_n2 : Od.nextO oKnown [0, 1, 3, 4] 2 = some [-1, 3, -1, 3, 4] := by decide
theorem oKnown_u : Od.usesO oKnown [0, 1, 3, 4] = some [3, 1, 0, 1, 0] := by decide
theorem oKnown_n3 : Od.nextO oKnown [0, 0] (-1) = none := by decide
theorem oKnown_n4 : Od.nextO oKnown ([0, 1, 3, 4].take 2) 2 = none := by decide
theorem oKnown_u2 : Od.usesO oKnown [5] = none := by decide

set_option maxRecDepth 100000 in
theorem known12_nodes (w1 : World) (b : Nat) (hb : b = w1.heap.size) : Nodes ((((((w1.alloc (.cells #[.int .i64 2] 3)).alloc (.cells #[.int .i64 0] 3)).alloc (.cells #[.int .i64 2] 3)).alloc (.cells #[.int .i64 0, .int .i64 0] 3)).alloc (.cells #[.int .i64 3, .int .i64 1] 3)).alloc (.cells #[.int .u8 1, .slice none 0 0, .slice (some ⟨b, 0, none⟩) 1 1, .int .i64 0, .int .i64 0, .int .u8 5, .slice (some ⟨b + 1, 0, none⟩) 1 1, .slice none 0 0, .int .i64 0, .int .i64 0, .int .u8 2, .slice none 0 0, .slice (some ⟨b + 1 + 1, 0, none⟩) 1 1, .int .i64 0, .int .i64 0, .int .u8 3, .slice (some ⟨b + 1 + 1 + 1, 0, none⟩) 2 2, .slice none 0 0, .int .i64 0, .int .i64 0, .int .u8 3, .slice (some ⟨b + 1 + 1 + 1 + 1, 0, none⟩) 2 2, .slice none 0 0, .int .i64 0, .int .i64 0] 46)) (some ⟨b + 1 + 1 + 1 + 1 + 1, 0, none⟩) 5 5 oKnown := by
  have I1 : Ints ((((((w1.alloc (.cells #[.int .i64 2] 3)).alloc (.cells #[.int .i64 0] 3)).alloc (.cells #[.int .i64 2] 3)).alloc (.cells #[.int .i64 0, .int .i64 0] 3)).alloc (.cells #[.int .i64 3, .int .i64 1] 3)).alloc (.cells #[.int .u8 1, .slice none 0 0, .slice (some ⟨b, 0, none⟩) 1 1, .int .i64 0, .int .i64 0, .int .u8 5, .slice (some ⟨b + 1, 0, none⟩) 1 1, .slice none 0 0, .int .i64 0, .int .i64 0, .int .u8 2, .slice none 0 0, .slice (some ⟨b + 1 + 1, 0, none⟩) 1 1, .int .i64 0, .int .i64 0, .int .u8 3, .slice (some ⟨b + 1 + 1 + 1, 0, none⟩) 2 2, .slice none 0 0, .int .i64 0, .int .i64 0, .int .u8 3, .slice (some ⟨b + 1 + 1 + 1 + 1, 0, none⟩) 2 2, .slice none 0 0, .int .i64 0, .int .i64 0] 46)) (some ⟨b, 0, none⟩) 1 1 [2] := ((((((ints_lits w1 (b) [2] hb (by decide) (by decide)).alloc _).alloc _).alloc _).alloc _).alloc _)
  have I2 : Ints ((((((w1.alloc (.cells #[.int .i64 2] 3)).alloc (.cells #[.int .i64 0] 3)).alloc (.cells #[.int .i64 2] 3)).alloc (.cells #[.int .i64 0, .int .i64 0] 3)).alloc (.cells #[.int .i64 3, .int .i64 1] 3)).alloc (.cells #[.int .u8 1, .slice none 0 0, .slice (some ⟨b, 0, none⟩) 1 1, .int .i64 0, .int .i64 0, .int .u8 5, .slice (some ⟨b + 1, 0, none⟩) 1 1, .slice none 0 0, .int .i64 0, .int .i64 0, .int .u8 2, .slice none 0 0, .slice (some ⟨b + 1 + 1, 0, none⟩) 1 1, .int .i64 0, .int .i64 0, .int .u8 3, .slice (some ⟨b + 1 + 1 + 1, 0, none⟩) 2 2, .slice none 0 0, .int .i64 0, .int .i64 0, .int .u8 3, .slice (some ⟨b + 1 + 1 + 1 + 1, 0, none⟩) 2 2, .slice none 0 0, .int .i64 0, .int .i64 0] 46)) (some ⟨b + 1, 0, none⟩) 1 1 [0] := (((((ints_lits (w1.alloc (.cells #[.int .i64 2] 3)) (b + 1) [0] (by simp [hb]) (by decide) (by decide)).alloc _).alloc _).alloc _).alloc _)
  have I3 : Ints ((((((w1.alloc (.cells #[.int .i64 2] 3)).alloc (.cells #[.int .i64 0] 3)).alloc (.cells #[.int .i64 2] 3)).alloc (.cells #[.int .i64 0, .int .i64 0] 3)).alloc (.cells #[.int .i64 3, .int .i64 1] 3)).alloc (.cells #[.int .u8 1, .slice none 0 0, .slice (some ⟨b, 0, none⟩) 1 1, .int .i64 0, .int .i64 0, .int .u8 5, .slice (some ⟨b + 1, 0, none⟩) 1 1, .slice none 0 0, .int .i64 0, .int .i64 0, .int .u8 2, .slice none 0 0, .slice (some ⟨b + 1 + 1, 0, none⟩) 1 1, .int .i64 0, .int .i64 0, .int .u8 3, .slice (some ⟨b + 1 + 1 + 1, 0, none⟩) 2 2, .slice none 0 0, .int .i64 0, .int .i64 0, .int .u8 3, .slice (some ⟨b + 1 + 1 + 1 + 1, 0, none⟩) 2 2, .slice none 0 0, .int .i64 0, .int .i64 0] 46)) (some ⟨b + 1 + 1, 0, none⟩) 1 1 [2] := ((((ints_lits ((w1.alloc (.cells #[.int .i64 2] 3)).alloc (.cells #[.int .i64 0] 3)) (b + 1 + 1) [2] (by simp [hb]) (by decide) (by decide)).alloc _).alloc _).alloc _)
  have I4 : Ints ((((((w1.alloc (.cells #[.int .i64 2] 3)).alloc (.cells #[.int .i64 0] 3)).alloc (.cells #[.int .i64 2] 3)).alloc (.cells #[.int .i64 0, .int .i64 0] 3)).alloc (.cells #[.int .i64 3, .int .i64 1] 3)).alloc (.cells #[.int .u8 1, .slice none 0 0, .slice (some ⟨b, 0, none⟩) 1 1, .int .i64 0, .int .i64 0, .int .u8 5, .slice (some ⟨b + 1, 0, none⟩) 1 1, .slice none 0 0, .int .i64 0, .int .i64 0, .int .u8 2, .slice none 0 0, .slice (some ⟨b + 1 + 1, 0, none⟩) 1 1, .int .i64 0, .int .i64 0, .int .u8 3, .slice (some ⟨b + 1 + 1 + 1, 0, none⟩) 2 2, .slice none 0 0, .int .i64 0, .int .i64 0, .int .u8 3, .slice (some ⟨b + 1 + 1 + 1 + 1, 0, none⟩) 2 2, .slice none 0 0, .int .i64 0, .int .i64 0] 46)) (some ⟨b + 1 + 1 + 1, 0, none⟩) 2 2 [0, 0] := (((ints_lits (((w1.alloc (.cells #[.int .i64 2] 3)).alloc (.cells #[.int .i64 0] 3)).alloc (.cells #[.int .i64 2] 3)) (b + 1 + 1 + 1) [0, 0] (by simp [hb]) (by decide) (by decide)).alloc _).alloc _)
  have I5 : Ints ((((((w1.alloc (.cells #[.int .i64 2] 3)).alloc (.cells #[.int .i64 0] 3)).alloc (.cells #[.int .i64 2] 3)).alloc (.cells #[.int .i64 0, .int .i64 0] 3)).alloc (.cells #[.int .i64 3, .int .i64 1] 3)).alloc (.cells #[.int .u8 1, .slice none 0 0, .slice (some ⟨b, 0, none⟩) 1 1, .int .i64 0, .int .i64 0, .int .u8 5, .slice (some ⟨b + 1, 0, none⟩) 1 1, .slice none 0 0, .int .i64 0, .int .i64 0, .int .u8 2, .slice none 0 0, .slice (some ⟨b + 1 + 1, 0, none⟩) 1 1, .int .i64 0, .int .i64 0, .int .u8 3, .slice (some ⟨b + 1 + 1 + 1, 0, none⟩) 2 2, .slice none 0 0, .int .i64 0, .int .i64 0, .int .u8 3, .slice (some ⟨b + 1 + 1 + 1 + 1, 0, none⟩) 2 2, .slice none 0 0, .int .i64 0, .int .i64 0] 46)) (some ⟨b + 1 + 1 + 1 + 1, 0, none⟩) 2 2 [3, 1] := ((ints_lits ((((w1.alloc (.cells #[.int .i64 2] 3)).alloc (.cells #[.int .i64 0] 3)).alloc (.cells #[.int .i64 2] 3)).alloc (.cells #[.int .i64 0, .int .i64 0] 3)) (b + 1 + 1 + 1 + 1) [3, 1] (by simp [hb]) (by decide) (by decide)).alloc _)
  have hz : b + 1 + 1 + 1 + 1 + 1 = (((((w1.alloc (.cells #[.int .i64 2] 3)).alloc (.cells #[.int .i64 0] 3)).alloc (.cells #[.int .i64 2] 3)).alloc (.cells #[.int .i64 0, .int .i64 0] 3)).alloc (.cells #[.int .i64 3, .int .i64 1] 3)).heap.size := by simp [hb]
  refine ⟨Nat.le_refl _, by omega, by omega, rfl, fun _ => ⟨b + 1 + 1 + 1 + 1 + 1, 0, rfl, by rw [hz]; simp, fun i hi => ?_⟩⟩
  rcases (by omega : i = 0 ∨ i = 1 ∨ i = 2 ∨ i = 3 ∨ i = 4) with rfl | rfl | rfl | rfl | rfl
  · refine ⟨none, 0, 0, some ⟨b, 0, none⟩, 1, 1, ?_, ?_, ?_, ?_, ?_, nodeV_lit Ints.nil I1 (by omega) (by omega) (by omega) (by omega) (by omega)⟩ <;> (rw [World.cell?_alloc_at _ _ _ _ hz]; rfl)
  · refine ⟨some ⟨b + 1, 0, none⟩, 1, 1, none, 0, 0, ?_, ?_, ?_, ?_, ?_, nodeV_lit I2 Ints.nil (by omega) (by omega) (by omega) (by omega) (by omega)⟩ <;> (rw [World.cell?_alloc_at _ _ _ _ hz]; rfl)
  · refine ⟨none, 0, 0, some ⟨b + 1 + 1, 0, none⟩, 1, 1, ?_, ?_, ?_, ?_, ?_, nodeV_lit Ints.nil I3 (by omega) (by omega) (by omega) (by omega) (by omega)⟩ <;> (rw [World.cell?_alloc_at _ _ _ _ hz]; rfl)
  · refine ⟨some ⟨b + 1 + 1 + 1, 0, none⟩, 2, 2, none, 0, 0, ?_, ?_, ?_, ?_, ?_, nodeV_lit I4 Ints.nil (by omega) (by omega) (by omega) (by omega) (by omega)⟩ <;> (rw [World.cell?_alloc_at _ _ _ _ hz]; rfl)
  · refine ⟨some ⟨b + 1 + 1 + 1 + 1, 0, none⟩, 2, 2, none, 0, 0, ?_, ?_, ?_, ?_, ?_, nodeV_lit I5 Ints.nil (by omega) (by omega) (by omega) (by omega) (by omega)⟩ <;> (rw [World.cell?_alloc_at _ _ _ _ hz]; rfl)

set_option maxHeartbeats 2000000 in
set_option maxRecDepth 100000 in
theorem known12_any (w : World) : Calls Try.prog 81 #[] w fun e w' => ∃ a, e = .returned (.agg #[.slice a 5 5]) ∧ Nodes w' a 5 5 oKnown ∧ Below w.heap.size w w' := by
  go_enter Try.func81, Try.ntmps81
  go_wp2
  have vS : (((((((w.alloc (.cells #[.slice (some ⟨w.heap.size + 1 + 1 + 1 + 1 + 1 + 1, 0, none⟩) 5 5] 38)).alloc (.cells #[.int .i64 2] 3)).alloc (.cells #[.int .i64 0] 3)).alloc (.cells #[.int .i64 2] 3)).alloc (.cells #[.int .i64 0, .int .i64 0] 3)).alloc (.cells #[.int .i64 3, .int .i64 1] 3)).alloc (.cells #[.int .u8 1, .slice none 0 0, .slice (some ⟨w.heap.size + 1, 0, none⟩) 1 1, .int .i64 0, .int .i64 0, .int .u8 5, .slice (some ⟨w.heap.size + 1 + 1, 0, none⟩) 1 1, .slice none 0 0, .int .i64 0, .int .i64 0, .int .u8 2, .slice none 0 0, .slice (some ⟨w.heap.size + 1 + 1 + 1, 0, none⟩) 1 1, .int .i64 0, .int .i64 0, .int .u8 3, .slice (some ⟨w.heap.size + 1 + 1 + 1 + 1, 0, none⟩) 2 2, .slice none 0 0, .int .i64 0, .int .i64 0, .int .u8 3, .slice (some ⟨w.heap.size + 1 + 1 + 1 + 1 + 1, 0, none⟩) 2 2, .slice none 0 0, .int .i64 0, .int .i64 0] 46)).cell? ⟨w.heap.size, 0, none⟩ = some (.slice (some ⟨w.heap.size + 1 + 1 + 1 + 1 + 1 + 1, 0, none⟩) 5 5) := (Lib.cell?_alloc_some _ (Lib.cell?_alloc_some _ (Lib.cell?_alloc_some _ (Lib.cell?_alloc_some _ (Lib.cell?_alloc_some _ (Lib.cell?_alloc_some _ (by rw [World.cell?_alloc_at _ _ _ _ rfl]; rfl)))))))
  have hN := known12_nodes (w.alloc (.cells #[.slice (some ⟨w.heap.size + 1 + 1 + 1 + 1 + 1 + 1, 0, none⟩) 5 5] 38)) (w.heap.size + 1) (by simp)
  have hB : Below w.heap.size w (((((((w.alloc (.cells #[.slice (some ⟨w.heap.size + 1 + 1 + 1 + 1 + 1 + 1, 0, none⟩) 5 5] 38)).alloc (.cells #[.int .i64 2] 3)).alloc (.cells #[.int .i64 0] 3)).alloc (.cells #[.int .i64 2] 3)).alloc (.cells #[.int .i64 0, .int .i64 0] 3)).alloc (.cells #[.int .i64 3, .int .i64 1] 3)).alloc (.cells #[.int .u8 1, .slice none 0 0, .slice (some ⟨w.heap.size + 1, 0, none⟩) 1 1, .int .i64 0, .int .i64 0, .int .u8 5, .slice (some ⟨w.heap.size + 1 + 1, 0, none⟩) 1 1, .slice none 0 0, .int .i64 0, .int .i64 0, .int .u8 2, .slice none 0 0, .slice (some ⟨w.heap.size + 1 + 1 + 1, 0, none⟩) 1 1, .int .i64 0, .int .i64 0, .int .u8 3, .slice (some ⟨w.heap.size + 1 + 1 + 1 + 1, 0, none⟩) 2 2, .slice none 0 0, .int .i64 0, .int .i64 0, .int .u8 3, .slice (some ⟨w.heap.size + 1 + 1 + 1 + 1 + 1, 0, none⟩) 2 2, .slice none 0 0, .int .i64 0, .int .i64 0] 46)) := ((((((((Below.refl _ _).alloc (Nat.le_refl _) _).alloc (by simp; try omega) _).alloc (by simp; try omega) _).alloc (by simp; try omega) _).alloc (by simp; try omega) _).alloc (by simp; try omega) _).alloc (by simp; try omega) _)
  generalize (((((((w.alloc (.cells #[.slice (some ⟨w.heap.size + 1 + 1 + 1 + 1 + 1 + 1, 0, none⟩) 5 5] 38)).alloc (.cells #[.int .i64 2] 3)).alloc (.cells #[.int .i64 0] 3)).alloc (.cells #[.int .i64 2] 3)).alloc (.cells #[.int .i64 0, .int .i64 0] 3)).alloc (.cells #[.int .i64 3, .int .i64 1] 3)).alloc (.cells #[.int .u8 1, .slice none 0 0, .slice (some ⟨w.heap.size + 1, 0, none⟩) 1 1, .int .i64 0, .int .i64 0, .int .u8 5, .slice (some ⟨w.heap.size + 1 + 1, 0, none⟩) 1 1, .slice none 0 0, .int .i64 0, .int .i64 0, .int .u8 2, .slice none 0 0, .slice (some ⟨w.heap.size + 1 + 1 + 1, 0, none⟩) 1 1, .int .i64 0, .int .i64 0, .int .u8 3, .slice (some ⟨w.heap.size + 1 + 1 + 1 + 1, 0, none⟩) 2 2, .slice none 0 0, .int .i64 0, .int .i64 0, .int .u8 3, .slice (some ⟨w.heap.size + 1 + 1 + 1 + 1 + 1, 0, none⟩) 2 2, .slice none 0 0, .int .i64 0, .int .i64 0] 46)) = w6 at *
  refine bodyPost_ret (by simp [results, Try.results81, go_sem, vS]; try rfl) rfl ?_
  exact ⟨_, rfl, hN, hB⟩

theorem hasB_none {l : List Int} {n : Int} (h : ∀ i, i < l.length → nth l i ≠ n) : hasB l n = false := by
  rw [hasB_false]
  intro hc
  obtain ⟨i, hi, he⟩ := List.getElem_of_mem hc
  exact h i hi ((nth_eq l i hi).trans he)

set_option maxHeartbeats 2000000 in
theorem in_any (a : Option Addr) (len cap : Nat) (l : List Int) (n : Int) (w : World) (HI : Ints w a len cap l) :
    Calls Try.prog 47 #[.slice a len cap, .int .i64 n] w fun e w' => e = .returned (.bool (hasB l n)) ∧ w' = w := by
  have KI := Lib.hid HI
  have LI := Lib.hid HI.length
  have h1 := HI.le
  have h2 := HI.cap_le
  clear HI
  go_enter Try.func47, Try.ntmps47
  go_wp2
  go_loopg [5] len (fun gg i wr => ∃ k : Nat, k ≤ len ∧ len - k ≤ gg ∧ i = .int .i64 k ∧ Hid (∀ i, i < k → nth l i ≠ n) ∧ Hid (wr = w))
  case atStart => exact ⟨0, Nat.zero_le _, by omega, rfl, fun i hi => absurd hi (Nat.not_lt_zero _), rfl⟩
  case round =>
    obtain ⟨k, hk, hg, rfl, HT, HW⟩ := hrel
    obtain rfl := HW.out
    by_cases hlt : k < len
    · obtain ⟨b, off, rfl, _, hc⟩ := KI.out.at_ (by omega)
      have hck := hc k hlt
      clear hc
      by_cases p : nth l k = n
      · have HR : Hid (hasB l n = true) := hasB_hit l n k (by rw [LI.out]; exact hlt) p
        have d : (nth l k == n) = true := beq_iff_eq.2 p
        clear p
        go_wp2
        go_ret
        exact ⟨by rw [HR.out]; rfl, rfl⟩
      · have HN : Hid (∀ i, i < k + 1 → nth l i ≠ n) := fun i hi => by
          rcases Nat.lt_succ_iff_lt_or_eq.1 hi with h | h
          · exact HT.out i h
          · subst h; exact p
        have d : (nth l k == n) = false := beq_eq_false_iff_ne.2 p
        clear p
        go_wp2
        go_roundg (len - (k + 1))
        case measure => exact Nat.lt_of_lt_of_le (Nat.sub_lt_sub_left hlt (Nat.lt_succ_self k)) hg
        case rel => exact ⟨k + 1, Nat.succ_le_of_lt hlt, Nat.le_refl _, by go_num, HN, rfl⟩
    · have HR : Hid (hasB l n = false) := hasB_none (fun i hi => HT.out i (by rw [LI.out] at hi; omega))
      go_wp2
      go_ret
      exact ⟨by rw [HR.out]; rfl, rfl⟩

set_option maxHeartbeats 2000000 in
theorem is_any (a b : Option Addr) (la ca lb cb : Nat) (e : Int) (l m : List Int) (w : World) (HA : Ints w a la ca l) (HB : Ints w b lb cb m) :
    Calls Try.prog 50 #[.slice a la ca, .int .i64 e, .slice b lb cb] w fun x w' => x = .returned (.bool (e == 0 && sameB l m)) ∧ Below w.heap.size w w' := by
  have KA := Lib.hid HA
  have KB := Lib.hid HB
  clear HA HB
  by_cases p : e = 0
  · subst p
    go_enter Try.func50, Try.ntmps50
    go_wp2_with fail
    refine (same_any _ _ _ _ _ _ _ _ _ KA.out KB.out).mono ?_
    rintro x w1 ⟨rfl, hb⟩
    have HW := Lib.hid hb
    clear hb
    go_wp2
    go_ret
    exact ⟨by simp, HW.out⟩
  · have d : (e == 0) = false := beq_eq_false_iff_ne.2 p
    clear p
    go_enter Try.func50, Try.ntmps50
    go_wp2
    go_ret
    exact ⟨by simp [d], Below.refl _ _⟩
end Go.Proofs.Ytgmagldbfajedaa

/- OrAlive: drydocklaw12.alive: contract oalive_any (it answers true).
-/
namespace Go.Proofs.Ytgmagldbfajedaa
open Go.RowKit

/-- What stays while the chapter's graph is asked. -/
structure OSt (w : World) (G b off : Nat) (wk : World) : Prop where
  bel : Below w.heap.size w wk
  cell : wk.cell? ⟨G, 0, none⟩ = some (.slice (some ⟨b, off, none⟩) 5 5)
  lt : G < wk.heap.size
  n : Nodes wk (some ⟨b, off, none⟩) 5 5 oKnown
  o : Ints wk (some ⟨G + 1, 0, none⟩) 4 4 [0, 1, 3, 4]

theorem OSt.on {w : World} {G b off : Nat} {wk w' : World} (h : OSt w G b off wk) (hb : Below wk.heap.size wk w') : OSt w G b off w' :=
  ⟨h.bel.trans (hb.mono h.bel.size), (hb.cell (p := ⟨G, 0, none⟩) h.lt).trans h.cell, Nat.lt_of_lt_of_le h.lt hb.size, h.n.on hb, h.o.below hb⟩
theorem OSt.alloc {w : World} {G b off : Nat} {wk : World} (h : OSt w G b off wk) (o : Obj) : OSt w G b off (wk.alloc o) := h.on ((Below.refl _ _).alloc (Nat.le_refl _) o)

theorem is_of : ((0 : Int) == 0 && sameB [0, 1, 3, 4] [0, 1, 3, 4]) = true := by decide
theorem is_n1 : ((0 : Int) == 0 && sameB [1, 3, -1, 3, 4] [1, 3, -1, 3, 4]) = true := by decide
theorem is_n2 : ((0 : Int) == 0 && sameB [-1, 3, -1, 3, 4] [-1, 3, -1, 3, 4]) = true := by decide
theorem is_u : ((0 : Int) == 0 && sameB [3, 1, 0, 1, 0] [3, 1, 0, 1, 0]) = true := by decide

set_option maxHeartbeats 4000000 in
set_option maxRecDepth 100000 in
theorem oalive_any (w : World) : Calls Try.prog 45 #[] w fun e w' => e = .returned (.bool true) ∧ Below w.heap.size w w' := by
  go_enter Try.func45, Try.ntmps45
  go_wp2_with fail
  refine (known12_any _).mono ?_
  rintro e w1 ⟨a, rfl, hN, hb⟩
  obtain ⟨b, off, rfl, hbl, _⟩ := hN.at_ (by omega)
  have hK : OSt w w1.heap.size b off ((w1.alloc (.cells #[.slice (some ⟨b, off, none⟩) 5 5] 38)).alloc (.cells #[.int .i64 0, .int .i64 1, .int .i64 3, .int .i64 4] 3)) :=
    ⟨(hb.alloc hb.size _).alloc (by have := hb.size; simp; omega) _, Lib.cell?_alloc_some _ (by rw [World.cell?_alloc_at _ _ _ _ rfl]; rfl), by simp; omega, (hN.on ((Below.refl _ _).alloc (Nat.le_refl _) _)).on ((Below.refl _ _).alloc (Nat.le_refl _) _),
      ints_lits _ (w1.heap.size + 1) [0, 1, 3, 4] (by simp) (by decide) (by decide)⟩
  have K1 := Lib.hid hK
  have c1 := hK.cell
  clear hN hb hK hbl
  go_wp2_with fail
  refine (of_any _ _ _ oKnown _ K1.out.n).mono ?_
  rintro e w2 ⟨hb2, ⟨hs, rfl⟩ | ⟨l2, a2, n2, q2, hs, rfl, hI⟩⟩
  · rw [oKnown_of] at hs; cases hs
  rw [oKnown_of] at hs
  cases hs
  have HA := Lib.hid hI
  have K2 := Lib.hid (K1.out.on hb2)
  have c2 := K2.out.cell
  clear hI hb2 c1
  go_wp2_with fail
  refine (next_any _ _ _ oKnown _ _ _ [0, 1, 3, 4] (-1) _ K2.out.n K2.out.o (by omega) (by omega) (by omega)).mono ?_
  rintro e w3 ⟨hb3, ⟨hs, rfl⟩ | ⟨l3, a3, n3, q3, hs, rfl, hI⟩⟩
  · rw [oKnown_n1] at hs; cases hs
  rw [oKnown_n1] at hs
  cases hs
  have HB := Lib.hid hI
  have K3 := Lib.hid (K2.out.on hb3)
  have HA := Lib.hid (HA.out.below hb3)
  have c3 := K3.out.cell
  clear hI hb3 c2
  go_wp2_with fail
  refine (next_any _ _ _ oKnown _ _ _ [0, 1, 3, 4] 2 _ K3.out.n K3.out.o (by omega) (by omega) (by omega)).mono ?_
  rintro e w4 ⟨hb4, ⟨hs, rfl⟩ | ⟨l4, a4, n4, q4, hs, rfl, hI⟩⟩
  · rw [oKnown_n2] at hs; cases hs
  rw [oKnown_n2] at hs
  cases hs
  have HC := Lib.hid hI
  have K4 := Lib.hid (K3.out.on hb4)
  have HA := Lib.hid (HA.out.below hb4)
  have HB := Lib.hid (HB.out.below hb4)
  have c4 := K4.out.cell
  clear hI hb4 c3
  go_wp2_with fail
  refine (uses_any _ _ _ oKnown _ _ _ [0, 1, 3, 4] _ K4.out.n K4.out.o (by omega)).mono ?_
  rintro e w5 ⟨hb5, ⟨hs, rfl⟩ | ⟨l5, a5, n5, q5, hs, rfl, hI⟩⟩
  · rw [oKnown_u] at hs; cases hs
  rw [oKnown_u] at hs
  cases hs
  have HD := Lib.hid hI
  have K5 := Lib.hid (K4.out.on hb5)
  have HA := Lib.hid (HA.out.below hb5)
  have HB := Lib.hid (HB.out.below hb5)
  have HC := Lib.hid (HC.out.below hb5)
  have c5 := K5.out.cell
  clear hI hb5 c4
  go_wp2_with fail
  refine (next_any _ _ _ oKnown _ _ _ [0, 0] (-1) _ (K5.out.alloc _).n (ints_lits w5 _ [0, 0] rfl (by decide) (by decide)) (by simp) (by omega) (by omega)).mono ?_
  rintro e w6 ⟨hb6, ⟨hs, rfl⟩ | ⟨l6, a6, n6, q6, hs, rfl, hI⟩⟩
  rotate_left
  · rw [oKnown_n3] at hs; cases hs
  clear hs
  have K6 := Lib.hid ((K5.out.alloc _).on hb6)
  have HA := Lib.hid ((HA.out.alloc _).below hb6)
  have HB := Lib.hid ((HB.out.alloc _).below hb6)
  have HC := Lib.hid ((HC.out.alloc _).below hb6)
  have HD := Lib.hid ((HD.out.alloc _).below hb6)
  have c6 := K6.out.cell
  clear hb6 c5
  go_wp2_with fail
  have HBd : Hid (Below w6.heap.size w6 w6.drew) := (Below.refl _ _).drew
  have K7 := Lib.hid (K6.out.on HBd.out)
  have HA := Lib.hid (HA.out.below HBd.out)
  have HB := Lib.hid (HB.out.below HBd.out)
  have HC := Lib.hid (HC.out.below HBd.out)
  have HD := Lib.hid (HD.out.below HBd.out)
  have c7 := K7.out.cell
  refine wp_region_still_call 3 mixed (by kernel_rfl) ?_
  clear HBd c6
  simp only [List.take_succ_cons, List.take_zero, List.getElem?_cons_succ, List.getElem?_cons_zero]
  repeat still_step
  refine wpStill_nil ?_
  intro KC hKC
  simp only [List.drop_succ_cons, List.drop_zero] at hKC
  go_simp
  refine (next_any _ _ _ oKnown _ _ _ ([0, 1, 3, 4].take 2) 2 _ K7.out.n (K7.out.o.take 2 (by omega)) (by omega) (by omega) (by omega)).mono ?_
  rintro e w8 ⟨hb8, ⟨hs, rfl⟩ | ⟨l6, a6, n6, q6, hs, rfl, hI⟩⟩
  rotate_left
  · rw [oKnown_n4] at hs; cases hs
  clear hs
  have K8 := Lib.hid (K7.out.on hb8)
  have HA := Lib.hid (HA.out.below hb8)
  have HB := Lib.hid (HB.out.below hb8)
  have HC := Lib.hid (HC.out.below hb8)
  have HD := Lib.hid (HD.out.below hb8)
  have c8 := K8.out.cell
  clear hb8 c7
  refine hKC _ _ ?_
  clear hKC KC
  repeat still_step
  refine wpStill_nil ?_
  go_wp2_with fail
  refine (uses_any _ _ _ oKnown _ _ _ [5] _ (K8.out.alloc _).n (ints_lits w8 _ [5] rfl (by decide) (by decide)) (by simp)).mono ?_
  rintro e w9 ⟨hb9, ⟨hs, rfl⟩ | ⟨l6, a6, n6, q6, hs, rfl, hI⟩⟩
  rotate_left
  · rw [oKnown_u2] at hs; cases hs
  clear hs
  have K9 := Lib.hid ((K8.out.alloc _).on hb9)
  have HA := Lib.hid ((HA.out.alloc _).below hb9)
  have HB := Lib.hid ((HB.out.alloc _).below hb9)
  have HC := Lib.hid ((HC.out.alloc _).below hb9)
  have HD := Lib.hid ((HD.out.alloc _).below hb9)
  clear hb9 c8
  go_wp2_with fail
  refine (is_any _ _ _ _ _ _ 0 [0, 1, 3, 4] [0, 1, 3, 4] _ (HA.out.alloc _) (ints_lits w9 _ [0, 1, 3, 4] rfl (by decide) (by decide))).mono ?_
  rintro e w10 ⟨rfl, hb10⟩
  rw [is_of]
  have K10 := Lib.hid ((K9.out.alloc _).on hb10)
  have HB := Lib.hid ((HB.out.alloc _).below hb10)
  have HC := Lib.hid ((HC.out.alloc _).below hb10)
  have HD := Lib.hid ((HD.out.alloc _).below hb10)
  clear hb10 HA K9
  go_wp2_with fail
  refine (is_any _ _ _ _ _ _ 0 [1, 3, -1, 3, 4] [1, 3, -1, 3, 4] _ (HB.out.alloc _) (ints_lits w10 _ [1, 3, -1, 3, 4] rfl (by decide) (by decide))).mono ?_
  rintro e w11 ⟨rfl, hb11⟩
  rw [is_n1]
  have K11 := Lib.hid ((K10.out.alloc _).on hb11)
  have HC := Lib.hid ((HC.out.alloc _).below hb11)
  have HD := Lib.hid ((HD.out.alloc _).below hb11)
  clear hb11 HB K10
  go_wp2_with fail
  refine (is_any _ _ _ _ _ _ 0 [-1, 3, -1, 3, 4] [-1, 3, -1, 3, 4] _ (HC.out.alloc _) (ints_lits w11 _ [-1, 3, -1, 3, 4] rfl (by decide) (by decide))).mono ?_
  rintro e w12 ⟨rfl, hb12⟩
  rw [is_n2]
  have K12 := Lib.hid ((K11.out.alloc _).on hb12)
  have HD := Lib.hid ((HD.out.alloc _).below hb12)
  clear hb12 HC K11
  go_wp2_with fail
  refine (is_any _ _ _ _ _ _ 0 [3, 1, 0, 1, 0] [3, 1, 0, 1, 0] _ (HD.out.alloc _) (ints_lits w12 _ [3, 1, 0, 1, 0] rfl (by decide) (by decide))).mono ?_
  rintro e w13 ⟨rfl, hb13⟩
  rw [is_u]
  have K13 := Lib.hid ((K12.out.alloc _).on hb13)
  clear hb13 HD K12
  go_wp2
  go_ret
  exact ⟨rfl, K13.out.bel⟩
end Go.Proofs.Ytgmagldbfajedaa
