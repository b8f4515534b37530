/-
  drydocklaw23/21 great: contract great_any (one of an argument has more than 48 values).
-/
import Derived.Test.YtekejcnphmnidaaGreatDoorZBa
namespace Go.Proofs.YtekejcnphmnidaaGreatDoor
open Go.RowKit

theorem great_any (ai ap ab an : Option Addr) (li ci lp cp lb cb ln cn : Nat) (r1 r2 : Value) (k1 k2 : Int) (hr1 : r1 = .int .i64 k1) (hr2 : r2 = .int .i64 k2) (w : World) (h1 : li ≤ 17592186044416) (h2 : lp ≤ 17592186044416) (h3 : lb ≤ 17592186044416) (h4 : ln ≤ 17592186044416) :
    Calls Tryz.prog 8 #[.agg #[.slice ai li ci, .slice ap lp cp, r1, r2, .slice ab lb cb, .slice an ln cn]] w fun e w' => e = .returned (.bool (decide (400 < li + lp + lb + ln))) ∧ Below w.heap.size w w' := by
  subst hr1; subst hr2
  by_cases h : 400 < li + lp + lb + ln
  · have hd : decide ((li : Int) + (lp : Int) + (lb : Int) + (ln : Int) > 400) = true := decide_eq_true (by omega)
    have HR := Lib.hid (decide_eq_true h)
    go_enter Tryz.func8, Tryz.ntmps8
    go_wp2
    go_ret
    exact ⟨by rw [HR.out]; rfl, (Below.refl _ _).alloc (Nat.le_refl _) _⟩
  · have hd : decide ((li : Int) + (lp : Int) + (lb : Int) + (ln : Int) > 400) = false := decide_eq_false (by omega)
    have HR := Lib.hid (decide_eq_false h)
    go_enter Tryz.func8, Tryz.ntmps8
    go_wp2
    go_ret
    exact ⟨by rw [HR.out]; rfl, (Below.refl _ _).alloc (Nat.le_refl _) _⟩
end Go.Proofs.YtekejcnphmnidaaGreatDoor
