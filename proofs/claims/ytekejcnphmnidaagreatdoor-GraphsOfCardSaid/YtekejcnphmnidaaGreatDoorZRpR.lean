import Derived.Test.YtekejcnphmnidaaGreatDoorZRegC
import Derived.Test.YtekejcnphmnidaaGreatDoorZTw
import Derived.Deep.RegionLaw
namespace Go.Proofs.YtekejcnphmnidaaGreatDoor
open Go.RowKit
section
variable {o : Oper} {a : Act} {w : World} {K : Act → World → Prop} {Q : Exit → Act → World → Prop} {x y : Operand}
theorem wp_retZ {w' : World} {v : Value} (h : (execOp a.eval o).run Tryz.prog w = .ok (.value v) w') (hK : K (a.put o.dst v) w') : o.wp Tryz.prog a w K Q := by
  unfold Oper.wp; rw [h]; exact hK
theorem wp_mvZ {v : Value} (ho : o.op = .move x) (hv : a.eval x = v) (hK : K (a.put o.dst v) w) : o.wp Tryz.prog a w K Q := by
  refine wp_retZ ?_ hK
  clear hK
  generalize a.eval = ev at *
  unfold execOp; rw [ho]; simp [hv, go_sem]
end
section
variable {wq : World} {f t d : Value} {b : Int} {P D : List Int}
def constF (f t d : Value) (b : Int) : Nat → Option Value
  | 0 => some f | 1 => some (.int .i64 b) | 2 => some t | 4 => some f | 5 => some (.int .i64 b) | 6 => some (.int .i64 (b + 1)) | 7 => some d | _ => none
def setBZ (B : Nat → Bool) (i : Nat) : Nat → Bool := fun k => if i = k then true else B k
theorem setBZ_at (B : Nat → Bool) (i : Nat) : setBZ B i i = true := if_pos rfl
theorem setBZ_ne (B : Nat → Bool) {i k : Nat} (h : i ≠ k) : setBZ B i k = B k := if_neg h
structure InvF (wq : World) (f t d : Value) (b : Int) (P D : List Int) (B : Nat → Bool) (vals : Nat → Value) (w : World) : Prop where
  cs : ∀ i c, constF f t d b i = some c → B i = true → vals i = c
  w0 : B 3 = false → w = wq.drew
  w3 : B 3 = true → B 8 = false → Own wq.heap.size w (vals 3) P ∧ Below wq.heap.size wq w
  w8 : B 8 = true → Own wq.heap.size w (vals 8) (P ++ D) ∧ Below wq.heap.size wq w
  o : B 8 = true → B 3 = true
  v9 : B 9 = true → vals 9 = vals 8 ∧ B 8 = true
  d9 : B 9 = true → B 0 = true ∧ B 4 = true
theorem InvF.made {B : Nat → Bool} {vals : Nat → Value} {w : World} (I : InvF wq f t d b P D B vals w) {i : Nat} (hi : constF f t d b i = none) (v : Value) : ∀ j x, constF f t d b j = some x → setBZ B i j = true → updV vals i v j = x := fun j x hj hb => by
  have e : i ≠ j := fun e => by subst e; rw [hi] at hj; cases hj
  rw [updV_ne _ _ _ (Ne.symm e)]
  rw [setBZ_ne B e] at hb
  exact I.cs j x hj hb
end
end Go.Proofs.YtekejcnphmnidaaGreatDoor
