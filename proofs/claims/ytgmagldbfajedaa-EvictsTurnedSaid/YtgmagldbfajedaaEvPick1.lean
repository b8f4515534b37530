/-
  the comparison function handed to the sort in Pick: contract pick1_any.
-/
import Derived.Test.YtgmagldbfajedaaEvFar
namespace Go.Proofs.Ytgmagldbfajedaa
open Go.RowKit Go.Sort

set_option maxHeartbeats 1000000 in
theorem pick1_any (bc : Nat) (ab an : Option Addr) (lb cb ln cn : Nat) (bytes next : List Int) (x y : Int) (w : World) (HB : Ints w ab lb cb bytes) (HN : Ints w an ln cn next) (hl : ln = lb)
    (c0 : w.cell? ⟨bc, 0, none⟩ = some (.slice ab lb cb)) (c1 : w.cell? ⟨bc, 1, none⟩ = some (.slice an ln cn)) (c2 : w.cell? ⟨bc, 2, none⟩ = some (.func (.func 62) #[] #[]))
    (hx0 : 0 ≤ x) (hx1 : x < lb) (hy0 : 0 ≤ y) (hy1 : y < lb) :
    Calls Try.prog 64 #[.int .i64 x, .int .i64 y, .pointer (some ⟨bc, 0, none⟩)] w fun e w' => e = .returned (.int .i64 (Ev.far bytes next x y)) ∧ More w w' := by
  have HH := Lib.hid (And.intro HB (And.intro HN hl)); clear HB HN hl
  go_enter Try.func64, Try.ntmps64
  go_wp2_with (go_at_call 62; refine (far_any _ _ _ _ _ _ bytes next _ _ _ HH.out.1 HH.out.2.1 HH.out.2.2 hx0 hx1 hy0 hy1).mono ?_; rintro e w1 ⟨rfl, hm⟩; have HM := Lib.hid hm; clear hm)
  go_ret
  exact ⟨rfl, HM.out⟩
end Go.Proofs.Ytgmagldbfajedaa
