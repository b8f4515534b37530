import Derived.Test.YtekejcnphmnidaaGreatDoorZRegG
import Derived.Test.YtekejcnphmnidaaGreatDoorZBkM
import Derived.Test.YtekejcnphmnidaaGreatDoorZBh
namespace Go.Proofs.YtekejcnphmnidaaGreatDoor
open Go.RowKit
def OpG (l : List Oper) (i : Nat) (d : Option Tmp) (op : Op) (deps : List Nat) (gd : Option (Nat × Bool)) : Prop := ∃ o, l[i]? = some o ∧ o.dst = d ∧ o.op = op ∧ o.guard = gd ∧ depsB o deps = true
theorem OpG.dst {l : List Oper} {i : Nat} {d : Option Tmp} {op : Op} {deps : List Nat} {gd : Option (Nat × Bool)} (h : OpG l i d op deps gd) : dstAt l i = d := by
  obtain ⟨o, h1, h2, _⟩ := h
  unfold dstAt; rw [h1]; exact h2
theorem OpG.is {l : List Oper} {i : Nat} {d : Option Tmp} {op : Op} {deps : List Nat} {gd : Option (Nat × Bool)} (h : OpG l i d op deps gd) {o : Oper} (ho : l[i]? = some o) {B : Nat → Bool} (hdep : ∀ e ∈ o.after, Region.binds .any e = true → B e.on = true) :
    o.dst = d ∧ o.op = op ∧ o.guard = gd ∧ ∀ j ∈ deps, B j = true := by
  obtain ⟨o', h1, h2, h3, hg, h4⟩ := h
  obtain rfl : o = o' := Option.some.inj (ho.symm.trans h1)
  refine ⟨h2, h3, hg, fun j hj => ?_⟩
  unfold depsB at h4
  have h5 := List.all_eq_true.1 h4 j hj
  obtain ⟨e, he, h6⟩ := Array.any_eq_true'.1 h5
  simp only [Bool.and_eq_true, decide_eq_true_eq] at h6
  rw [← h6.2]
  exact hdep e he h6.1
theorem wanted_none {o : Oper} {y : Nat → Option Bool} (h : o.guard = none) : Region.wanted o y = true := by unfold Region.wanted; rw [h]
theorem wanted_false {l : List Oper} {o : Oper} {a : Act} {j t : Nat} (h : o.guard = some (j, false)) (hd : dstAt l j = some t) (hv : a.eval (.tmp t) = .bool false) : Region.wanted o (yielded l.toArray a.tmps) = true := by
  have ht : a.tmps[t]? = some (.bool false) := by
    cases h2 : a.tmps[t]? with
    | none => simp [Act.eval, h2, undef] at hv
    | some u => simp [Act.eval, h2] at hv; rw [hv]
  have hy : yielded l.toArray a.tmps j = some false := by
    unfold yielded
    unfold dstAt at hd
    rw [List.getElem?_toArray, hd]
    simp [ht]
  unfold Region.wanted
  rw [h]
  simp [hy]
section
variable {o : Oper} {a : Act} {w : World} {K : Act → World → Prop} {Q : Exit → Act → World → Prop} {x y z : Operand}
theorem wp_ldG {p : Addr} {v : Value} (ho : o.op = .load 56 x) (hx : a.eval x = .pointer (some p)) (hc : w.cell? p = some v) (hK : K (a.put o.dst (.agg #[v])) w) : o.wp Tryz.prog a w K Q := by
  refine wp_retZ ?_ hK
  clear hK
  generalize a.eval = ev at *
  unfold execOp; rw [ho]; simp [hx, hc, go_sem]
theorem wp_notG {b : Bool} (ho : o.op = .unOp .not 4 x) (hx : a.eval x = .bool b) (hK : K (a.put o.dst (.bool (!b))) w) : o.wp Tryz.prog a w K Q := by
  refine wp_retZ ?_ hK
  clear hK
  generalize a.eval = ev at *
  unfold execOp; rw [ho]; simp [hx, go_sem]
theorem wp_pickG {t1 t2 : Tmp} {v : Value} (ho : o.op = .pick (.tmp t1) (.const (.bool true)) (.tmp t2)) (hx : a.eval (.tmp t1) = .bool false) (hy : a.eval (.tmp t2) = v) (hK : K (a.put o.dst v) w) : o.wp Tryz.prog a w K Q := by
  refine wp_retZ ?_ hK
  clear hK
  generalize a.eval = ev at *
  unfold execOp; rw [ho]; simp [hx, hy, go_sem]
theorem wp_neq30 {e : Int} {U : TypeId} (ho : o.op = .binOp .neq 30 x y U) (hx : a.eval x = .int .i64 e) (hy : a.eval y = .int .i64 e) (hK : K (a.put o.dst (.bool false)) w) : o.wp Tryz.prog a w K Q := by
  refine wp_retZ ?_ hK
  clear hK
  generalize a.eval = ev at *
  unfold execOp; rw [ho]; simp [hx, hy, go_sem]
theorem wp_neq3 {e : Int} {U : TypeId} (ho : o.op = .binOp .neq 3 x y U) (hx : a.eval x = .int .i64 e) (hy : a.eval y = .int .i64 e) (hK : K (a.put o.dst (.bool false)) w) : o.wp Tryz.prog a w K Q := by
  refine wp_retZ ?_ hK
  clear hK
  generalize a.eval = ev at *
  unfold execOp; rw [ho]; simp [hx, hy, go_sem]
theorem wp_neq4 {e : Bool} {U : TypeId} (ho : o.op = .binOp .neq 4 x y U) (hx : a.eval x = .bool e) (hy : a.eval y = .bool e) (hK : K (a.put o.dst (.bool false)) w) : o.wp Tryz.prog a w K Q := by
  refine wp_retZ ?_ hK
  clear hK
  generalize a.eval = ev at *
  unfold execOp; rw [ho]; cases e <;> simp [hx, hy, go_sem]
theorem wp_c23 {v : Value} {post : Ending → World → Prop} (ho : o.op = .call { callee := .value (.func 23), args := #[x], argTypes := #[56] }) (hx : a.eval x = v) (hC : Calls Tryz.prog 23 #[v] w post) (hK : ∀ v' w', post (.returned v') w' → K (a.put o.dst v') w') (hP : ∀ e w', post e w' → ∃ v', e = .returned v') : o.wp Tryz.prog a w K Q := by
  have hf : a.eval (.func 23) = .func (.func 23) #[] #[] := rfl
  have hm : (execOp a.eval o).run Tryz.prog w = .ok (.enter 23 #[v]) w := by
    clear hK hC hP
    generalize a.eval = ev at *
    unfold execOp
    rw [ho]
    simp [hx, hf, go_sem]
  unfold Oper.wp
  rw [hm, Oper.upon_enter]
  refine hC.mono ?_
  intro e w' he
  obtain ⟨v', rfl⟩ := hP e w' he
  exact hK v' w' he
theorem wp_c24 {v : Value} {post : Ending → World → Prop} (ho : o.op = .call { callee := .value (.func 24), args := #[x], argTypes := #[56] }) (hx : a.eval x = v) (hC : Calls Tryz.prog 24 #[v] w post) (hK : ∀ v' w', post (.returned v') w' → K (a.put o.dst v') w') (hP : ∀ e w', post e w' → ∃ v', e = .returned v') : o.wp Tryz.prog a w K Q := by
  have hf : a.eval (.func 24) = .func (.func 24) #[] #[] := rfl
  have hm : (execOp a.eval o).run Tryz.prog w = .ok (.enter 24 #[v]) w := by
    clear hK hC hP
    generalize a.eval = ev at *
    unfold execOp
    rw [ho]
    simp [hx, hf, go_sem]
  unfold Oper.wp
  rw [hm, Oper.upon_enter]
  refine hC.mono ?_
  intro e w' he
  obtain ⟨v', rfl⟩ := hP e w' he
  exact hK v' w' he
theorem wp_c25 {v : Value} {post : Ending → World → Prop} (ho : o.op = .call { callee := .value (.func 25), args := #[x], argTypes := #[56] }) (hx : a.eval x = v) (hC : Calls Tryz.prog 25 #[v] w post) (hK : ∀ v' w', post (.returned v') w' → K (a.put o.dst v') w') (hP : ∀ e w', post e w' → ∃ v', e = .returned v') : o.wp Tryz.prog a w K Q := by
  have hf : a.eval (.func 25) = .func (.func 25) #[] #[] := rfl
  have hm : (execOp a.eval o).run Tryz.prog w = .ok (.enter 25 #[v]) w := by
    clear hK hC hP
    generalize a.eval = ev at *
    unfold execOp
    rw [ho]
    simp [hx, hf, go_sem]
  unfold Oper.wp
  rw [hm, Oper.upon_enter]
  refine hC.mono ?_
  intro e w' he
  obtain ⟨v', rfl⟩ := hP e w' he
  exact hK v' w' he
theorem wp_c26 {v : Value} {post : Ending → World → Prop} (ho : o.op = .call { callee := .value (.func 26), args := #[x], argTypes := #[56] }) (hx : a.eval x = v) (hC : Calls Tryz.prog 26 #[v] w post) (hK : ∀ v' w', post (.returned v') w' → K (a.put o.dst v') w') (hP : ∀ e w', post e w' → ∃ v', e = .returned v') : o.wp Tryz.prog a w K Q := by
  have hf : a.eval (.func 26) = .func (.func 26) #[] #[] := rfl
  have hm : (execOp a.eval o).run Tryz.prog w = .ok (.enter 26 #[v]) w := by
    clear hK hC hP
    generalize a.eval = ev at *
    unfold execOp
    rw [ho]
    simp [hx, hf, go_sem]
  unfold Oper.wp
  rw [hm, Oper.upon_enter]
  refine hC.mono ?_
  intro e w' he
  obtain ⟨v', rfl⟩ := hP e w' he
  exact hK v' w' he
theorem wp_c27 {v : Value} {post : Ending → World → Prop} (ho : o.op = .call { callee := .value (.func 27), args := #[x], argTypes := #[56] }) (hx : a.eval x = v) (hC : Calls Tryz.prog 27 #[v] w post) (hK : ∀ v' w', post (.returned v') w' → K (a.put o.dst v') w') (hP : ∀ e w', post e w' → ∃ v', e = .returned v') : o.wp Tryz.prog a w K Q := by
  have hf : a.eval (.func 27) = .func (.func 27) #[] #[] := rfl
  have hm : (execOp a.eval o).run Tryz.prog w = .ok (.enter 27 #[v]) w := by
    clear hK hC hP
    generalize a.eval = ev at *
    unfold execOp
    rw [ho]
    simp [hx, hf, go_sem]
  unfold Oper.wp
  rw [hm, Oper.upon_enter]
  refine hC.mono ?_
  intro e w' he
  obtain ⟨v', rfl⟩ := hP e w' he
  exact hK v' w' he
theorem wp_c22 {v u : Value} {post : Ending → World → Prop} (ho : o.op = .call { callee := .value (.func 22), args := #[x, y], argTypes := #[59, 59] }) (hx : a.eval x = v) (hy : a.eval y = u) (hC : Calls Tryz.prog 22 #[v, u] w post) (hK : ∀ v' w', post (.returned v') w' → K (a.put o.dst v') w') (hP : ∀ e w', post e w' → ∃ v', e = .returned v') : o.wp Tryz.prog a w K Q := by
  have hf : a.eval (.func 22) = .func (.func 22) #[] #[] := rfl
  have hm : (execOp a.eval o).run Tryz.prog w = .ok (.enter 22 #[v, u]) w := by
    clear hK hC hP
    generalize a.eval = ev at *
    unfold execOp
    rw [ho]
    simp [hx, hy, hf, go_sem]
  unfold Oper.wp
  rw [hm, Oper.upon_enter]
  refine hC.mono ?_
  intro e w' he
  obtain ⟨v', rfl⟩ := hP e w' he
  exact hK v' w' he
theorem wp_c13 {v u : Value} {post : Ending → World → Prop} (ho : o.op = .call { callee := .value (.func 13), args := #[x, y], argTypes := #[22, 22] }) (hx : a.eval x = v) (hy : a.eval y = u) (hC : Calls Tryz.prog 13 #[v, u] w post) (hK : ∀ v' w', post (.returned v') w' → K (a.put o.dst v') w') (hP : ∀ e w', post e w' → ∃ v', e = .returned v') : o.wp Tryz.prog a w K Q := by
  have hf : a.eval (.func 13) = .func (.func 13) #[] #[] := rfl
  have hm : (execOp a.eval o).run Tryz.prog w = .ok (.enter 13 #[v, u]) w := by
    clear hK hC hP
    generalize a.eval = ev at *
    unfold execOp
    rw [ho]
    simp [hx, hy, hf, go_sem]
  unfold Oper.wp
  rw [hm, Oper.upon_enter]
  refine hC.mono ?_
  intro e w' he
  obtain ⟨v', rfl⟩ := hP e w' he
  exact hK v' w' he
theorem wp_c28 {v u : Value} {post : Ending → World → Prop} (ho : o.op = .call { callee := .value (.func 28), args := #[x, y], argTypes := #[56, 56] }) (hx : a.eval x = v) (hy : a.eval y = u) (hC : Calls Tryz.prog 28 #[v, u] w post) (hK : ∀ v' w', post (.returned v') w' → K (a.put o.dst v') w') (hP : ∀ e w', post e w' → ∃ v', e = .returned v') : o.wp Tryz.prog a w K Q := by
  have hf : a.eval (.func 28) = .func (.func 28) #[] #[] := rfl
  have hm : (execOp a.eval o).run Tryz.prog w = .ok (.enter 28 #[v, u]) w := by
    clear hK hC hP
    generalize a.eval = ev at *
    unfold execOp
    rw [ho]
    simp [hx, hy, hf, go_sem]
  unfold Oper.wp
  rw [hm, Oper.upon_enter]
  refine hC.mono ?_
  intro e w' he
  obtain ⟨v', rfl⟩ := hP e w' he
  exact hK v' w' he
end
structure IsGof (l : List Oper) : Prop where
  len : l.length = 42
  k0 : OpG l 0 (some 34) (.move (.tmp 4)) [] none
  k1 : OpG l 1 (some 35) (.move (.tmp 8)) [] none
  k2 : OpG l 2 (some 36) (.call { callee := .value (.func 22), args := #[.tmp 34, .tmp 35], argTypes := #[59, 59] }) [0, 1] none
  k3 : OpG l 3 (some 37) (.unOp .not 4 (.tmp 36)) [2] none
  k4 : OpG l 4 (some 38) (.move (.tmp 37)) [3] none
  k5 : OpG l 5 (some 39) (.move (.tmp 6)) [4] (some (4, false))
  k6 : OpG l 6 (some 40) (.move (.tmp 8)) [4] (some (4, false))
  k7 : OpG l 7 (some 41) (.call { callee := .value (.func 22), args := #[.tmp 39, .tmp 40], argTypes := #[59, 59] }) [5, 6, 4] (some (4, false))
  k8 : OpG l 8 (some 42) (.unOp .not 4 (.tmp 41)) [7, 4] (some (4, false))
  k9 : OpG l 9 (some 43) (.pick (.tmp 38) (.const (.bool true)) (.tmp 42)) [4, 8] none
  k10 : OpG l 10 (some 44) (.move (.tmp 43)) [9] none
  k11 : OpG l 11 (some 45) (.move (.tmp 5)) [10] (some (10, false))
  k12 : OpG l 12 (some 46) (.move (.tmp 9)) [10] (some (10, false))
  k13 : OpG l 13 (some 47) (.binOp .neq 30 (.tmp 45) (.tmp 46) 30) [11, 12, 10] (some (10, false))
  k14 : OpG l 14 (some 48) (.pick (.tmp 44) (.const (.bool true)) (.tmp 47)) [10, 13] none
  k15 : OpG l 15 (some 49) (.move (.tmp 48)) [14] none
  k16 : OpG l 16 (some 50) (.load 56 (.tmp 3)) [15] (some (15, false))
  k17 : OpG l 17 (some 51) (.call { callee := .value (.func 23), args := #[.tmp 50], argTypes := #[56] }) [16, 15] (some (15, false))
  k18 : OpG l 18 (some 52) (.load 56 (.tmp 1)) [15] (some (15, false))
  k19 : OpG l 19 (some 53) (.call { callee := .value (.func 24), args := #[.tmp 52], argTypes := #[56] }) [18, 15] (some (15, false))
  k20 : OpG l 20 (some 54) (.binOp .neq 4 (.tmp 51) (.tmp 53) 4) [17, 19, 15] (some (15, false))
  k21 : OpG l 21 (some 55) (.pick (.tmp 49) (.const (.bool true)) (.tmp 54)) [15, 20] none
  k22 : OpG l 22 (some 56) (.move (.tmp 55)) [21] none
  k23 : OpG l 23 (some 57) (.move (.tmp 10)) [22] (some (22, false))
  k24 : OpG l 24 (some 58) (.load 56 (.tmp 1)) [22] (some (22, false))
  k25 : OpG l 25 (some 59) (.call { callee := .value (.func 25), args := #[.tmp 58], argTypes := #[56] }) [24, 22] (some (22, false))
  k26 : OpG l 26 (some 60) (.call { callee := .value (.func 13), args := #[.tmp 57, .tmp 59], argTypes := #[22, 22] }) [23, 25, 22] (some (22, false))
  k27 : OpG l 27 (some 61) (.unOp .not 4 (.tmp 60)) [26, 22] (some (22, false))
  k28 : OpG l 28 (some 62) (.pick (.tmp 56) (.const (.bool true)) (.tmp 61)) [22, 27] none
  k29 : OpG l 29 (some 63) (.move (.tmp 62)) [28] none
  k30 : OpG l 30 (some 64) (.load 56 (.tmp 3)) [29] (some (29, false))
  k31 : OpG l 31 (some 65) (.call { callee := .value (.func 26), args := #[.tmp 64], argTypes := #[56] }) [30, 29] (some (29, false))
  k32 : OpG l 32 (some 66) (.load 56 (.tmp 1)) [29] (some (29, false))
  k33 : OpG l 33 (some 67) (.call { callee := .value (.func 27), args := #[.tmp 66], argTypes := #[56] }) [32, 29] (some (29, false))
  k34 : OpG l 34 (some 68) (.binOp .neq 3 (.tmp 65) (.tmp 67) 3) [31, 33, 29] (some (29, false))
  k35 : OpG l 35 (some 69) (.pick (.tmp 63) (.const (.bool true)) (.tmp 68)) [29, 34] none
  k36 : OpG l 36 (some 70) (.move (.tmp 69)) [35] none
  k37 : OpG l 37 (some 71) (.load 56 (.tmp 3)) [36] (some (36, false))
  k38 : OpG l 38 (some 72) (.load 56 (.tmp 1)) [36] (some (36, false))
  k39 : OpG l 39 (some 73) (.call { callee := .value (.func 28), args := #[.tmp 71, .tmp 72], argTypes := #[56, 56] }) [37, 38, 36] (some (36, false))
  k40 : OpG l 40 (some 74) (.unOp .not 4 (.tmp 73)) [39, 36] (some (36, false))
  k41 : OpG l 41 (some 75) (.pick (.tmp 70) (.const (.bool true)) (.tmp 74)) [36, 40] none
def constGof (ga aA aB aW aO : Option Addr) (len cap nb c nA nB lW cW lO : Nat) (eE ix : Int) (ok : Bool) : Nat → Option Value
| 0 => some (.slice aA nA nA) | 1 => some (.slice aW lW cW) | 2 => some (.bool true) | 3 => some (.bool false) | 4 => some (.bool false) | 5 => some (.slice aB nB nB) | 6 => some (.slice aW lW cW) | 7 => some (.bool true) | 8 => some (.bool false) | 9 => some (.bool false) | 10 => some (.bool false) | 11 => some (.int .i64 eE) | 12 => some (.int .i64 eE) | 13 => some (.bool false) | 14 => some (.bool false) | 15 => some (.bool false) | 16 => some (.agg #[.slice (some ⟨nb, 0, none⟩) len c]) | 17 => some (.bool ok) | 18 => some (.agg #[.slice ga len cap]) | 19 => some (.bool ok) | 20 => some (.bool false) | 21 => some (.bool false) | 22 => some (.bool false) | 23 => some (.slice aO lO lO) | 24 => some (.agg #[.slice ga len cap]) | 26 => some (.bool true) | 27 => some (.bool false) | 28 => some (.bool false) | 29 => some (.bool false) | 30 => some (.agg #[.slice (some ⟨nb, 0, none⟩) len c]) | 31 => some (.int .i64 ix) | 32 => some (.agg #[.slice ga len cap]) | 33 => some (.int .i64 ix) | 34 => some (.bool false) | 35 => some (.bool false) | 36 => some (.bool false) | 37 => some (.agg #[.slice (some ⟨nb, 0, none⟩) len c]) | 38 => some (.agg #[.slice ga len cap]) | 39 => some (.bool true) | 40 => some (.bool false) | 41 => some (.bool false) | _ => none
structure InvGof (w7 : World) (ws : List Int) (cst : Nat → Option Value) (B : Nat → Bool) (vals : Nat → Value) (w : World) : Prop where
  cs : ∀ i c, cst i = some c → B i = true → vals i = c
  bel : Below w7.heap.size w7 w
  wt : B 25 = true → ∃ a1 l1 c1, vals 25 = .slice a1 l1 c1 ∧ Hid (Ints w a1 l1 c1 ws)
theorem InvGof.put {w7 : World} {ws : List Int} {cst : Nat → Option Value} {B : Nat → Bool} {vals : Nat → Value} {w : World} (I : InvGof w7 ws cst B vals w) {i : Nat} (hi : i ≠ 25) {v : Value} {w' : World} (hc : cst i = some v) (hw : Below w7.heap.size w7 w') (hw2 : Below w.heap.size w w') : InvGof w7 ws cst (setBZ B i) (updV vals i v) w' := by
  refine ⟨fun j x hj hb => ?_, hw, fun h => ?_⟩
  · by_cases e : i = j
    · subst e; rw [updV_at]; exact Option.some.inj (hc.symm.trans hj)
    · rw [updV_ne _ _ _ (Ne.symm e)]; rw [setBZ_ne B e] at hb; exact I.cs j x hj hb
  · rw [setBZ_ne B hi] at h
    obtain ⟨a1, l1, c1, e, hI⟩ := I.wt h
    exact ⟨a1, l1, c1, by rw [updV_ne _ _ _ (Ne.symm hi)]; exact e, hI.out.below hw2⟩
theorem InvGof.wput {w7 : World} {ws : List Int} {cst : Nat → Option Value} {B : Nat → Bool} {vals : Nat → Value} {w : World} (I : InvGof w7 ws cst B vals w) (hc : cst 25 = none) {a1 : Option Addr} {l1 c1 : Nat} {w' : World} (hw : Below w7.heap.size w7 w') (hI : Hid (Ints w' a1 l1 c1 ws)) : InvGof w7 ws cst (setBZ B 25) (updV vals 25 (.slice a1 l1 c1)) w' := by
  refine ⟨fun j x hj hb => ?_, hw, fun _ => ⟨a1, l1, c1, updV_at .., hI⟩⟩
  have e : (25 : Nat) ≠ j := fun e => by subst e; rw [hc] at hj; cases hj
  rw [updV_ne _ _ _ (Ne.symm e)]; rw [setBZ_ne B e] at hb; exact I.cs j x hj hb
set_option maxHeartbeats 4000000 in
set_option maxRecDepth 100000 in
theorem gof_region {ops : List Oper} (S : IsGof ops) {size : Nat} {Q : Exit → Act → World → Prop} {id : Nat} {a0 : Act} {w7 : World} {ga aA aB aW aO : Option Addr} {len cap nb c nA nB lW cW lO : Nat} {eE ix : Int} {ok : Bool} {b1 b2 : Nat} {ws : List Int} (hs : a0.tmps.size = size) (hB : canonB (strip ops) size = true)
    (t1 : a0.eval (.tmp 1) = .pointer (some ⟨b1, 0, none⟩)) (t3 : a0.eval (.tmp 3) = .pointer (some ⟨b2, 0, none⟩)) (t4 : a0.eval (.tmp 4) = .slice aA nA nA) (t5 : a0.eval (.tmp 5) = .int .i64 eE) (t6 : a0.eval (.tmp 6) = .slice aB nB nB) (t8 : a0.eval (.tmp 8) = .slice aW lW cW) (t9 : a0.eval (.tmp 9) = .int .i64 eE) (t10 : a0.eval (.tmp 10) = .slice aO lO lO)
    (HQ : ∀ wk, Below w7.heap.size w7 wk → wk.cell? ⟨b2, 0, none⟩ = some (.slice (some ⟨nb, 0, none⟩) len c) ∧ wk.cell? ⟨b1, 0, none⟩ = some (.slice ga len cap))
    (HG1 : ∀ wk, Below w7.heap.size w7 wk → Calls Tryz.prog 22 #[.slice aA nA nA, .slice aW lW cW] wk fun e w' => e = .returned (.bool true) ∧ Below wk.heap.size wk w')
    (HG2 : ∀ wk, Below w7.heap.size w7 wk → Calls Tryz.prog 22 #[.slice aB nB nB, .slice aW lW cW] wk fun e w' => e = .returned (.bool true) ∧ Below wk.heap.size wk w')
    (HC1 : ∀ wk, Below w7.heap.size w7 wk → Calls Tryz.prog 23 #[.agg #[.slice (some ⟨nb, 0, none⟩) len c]] wk fun e w' => e = .returned (.bool ok) ∧ Below wk.heap.size wk w')
    (HC2 : ∀ wk, Below w7.heap.size w7 wk → Calls Tryz.prog 24 #[.agg #[.slice ga len cap]] wk fun e w' => e = .returned (.bool ok) ∧ Below wk.heap.size wk w')
    (HW1 : ∀ wk, Below w7.heap.size w7 wk → Calls Tryz.prog 25 #[.agg #[.slice ga len cap]] wk fun e w' => ∃ a1 l1 c1, e = .returned (.slice a1 l1 c1) ∧ Hid (Ints w' a1 l1 c1 ws) ∧ Below wk.heap.size wk w')
    (HSI : ∀ wk a1 l1 c1, Below w7.heap.size w7 wk → Hid (Ints wk a1 l1 c1 ws) → Calls Tryz.prog 13 #[.slice aO lO lO, .slice a1 l1 c1] wk fun e w' => e = .returned (.bool true) ∧ Below wk.heap.size wk w')
    (HI1 : ∀ wk, Below w7.heap.size w7 wk → Calls Tryz.prog 26 #[.agg #[.slice (some ⟨nb, 0, none⟩) len c]] wk fun e w' => e = .returned (.int .i64 ix) ∧ Below wk.heap.size wk w')
    (HI2 : ∀ wk, Below w7.heap.size w7 wk → Calls Tryz.prog 27 #[.agg #[.slice ga len cap]] wk fun e w' => e = .returned (.int .i64 ix) ∧ Below wk.heap.size wk w')
    (HLF : ∀ wk, Below w7.heap.size w7 wk → Calls Tryz.prog 28 #[.agg #[.slice (some ⟨nb, 0, none⟩) len c], .agg #[.slice ga len cap]] wk fun e w' => e = .returned (.bool true) ∧ Below wk.heap.size wk w')
    (hQ : ∀ W a1 l1 c1, Below w7.heap.size w7 W → Q .normal (((((((((((((((((((((((((((((((((((((((((((a0.put (some 34) (.slice aA nA nA)).put (some 35) (.slice aW lW cW)).put (some 36) (.bool true)).put (some 37) (.bool false)).put (some 38) (.bool false)).put (some 39) (.slice aB nB nB)).put (some 40) (.slice aW lW cW)).put (some 41) (.bool true)).put (some 42) (.bool false)).put (some 43) (.bool false)).put (some 44) (.bool false)).put (some 45) (.int .i64 eE)).put (some 46) (.int .i64 eE)).put (some 47) (.bool false)).put (some 48) (.bool false)).put (some 49) (.bool false)).put (some 50) (.agg #[.slice (some ⟨nb, 0, none⟩) len c])).put (some 51) (.bool ok)).put (some 52) (.agg #[.slice ga len cap])).put (some 53) (.bool ok)).put (some 54) (.bool false)).put (some 55) (.bool false)).put (some 56) (.bool false)).put (some 57) (.slice aO lO lO)).put (some 58) (.agg #[.slice ga len cap])).put (some 59) (.slice a1 l1 c1)).put (some 60) (.bool true)).put (some 61) (.bool false)).put (some 62) (.bool false)).put (some 63) (.bool false)).put (some 64) (.agg #[.slice (some ⟨nb, 0, none⟩) len c])).put (some 65) (.int .i64 ix)).put (some 66) (.agg #[.slice ga len cap])).put (some 67) (.int .i64 ix)).put (some 68) (.bool false)).put (some 69) (.bool false)).put (some 70) (.bool false)).put (some 71) (.agg #[.slice (some ⟨nb, 0, none⟩) len c])).put (some 72) (.agg #[.slice ga len cap])).put (some 73) (.bool true)).put (some 74) (.bool false)).put (some 75) (.bool false))) W) :
    (Code.region id ops.toArray true).wp Tryz.prog Q a0 w7 := by
  refine wp_region_canonG hs mixed hB (fun listed vals w => InvGof w7 ws (constGof ga aA aB aW aO len cap nb c nA nB lW cW lO eE ix ok) (fun k => listed.getD k false) vals w) (fun _ => undef) ?_ ?_ ?_
  · have hf : ∀ k, (Array.replicate ops.length false).getD k false = false := fun k => by
      simp only [Array.getD_eq_getD_getElem?, Array.getElem?_replicate]
      split <;> simp
    simp only [hf]
    exact ⟨(fun _ _ _ h => by cases h), (Below.refl _ _).drew, (fun h => by cases h)⟩
  · intro listed vals w a i o hz ho hn hdep I hF _
    have hi : i < 42 := by rw [← S.len]; exact (List.getElem?_eq_some_iff.1 ho).1
    have hset : ∀ vals' w', InvGof w7 ws (constGof ga aA aB aW aO len cap nb c nA nB lW cW lO eE ix ok) (setBZ (fun k => listed.getD k false) i) vals' w' → InvGof w7 ws (constGof ga aA aB aW aO len cap nb c nA nB lW cW lO eE ix ok) (fun k => (listed.setIfInBounds i true).getD k false) vals' w' := fun vals' w' h => by
      have e : (fun k => (listed.setIfInBounds i true).getD k false) = setBZ (fun k => listed.getD k false) i := funext fun k => getD_set (by rw [hz, S.len]; exact hi)
      rw [e]; exact h
    have hE : ∀ j u c', j < 42 → dstAt ops j = some u → listed.getD j false = true → constGof ga aA aB aW aO len cap nb c nA nB lW cW lO eE ix ok j = some c' → a.eval (.tmp u) = c' := fun j u c' hj hd hl hc => (hF.new j u (by rw [S.len]; exact hj) hd hl).trans (I.cs j c' hc hl)
    have hds : ∀ u, u < 34 → ∀ j, j < 42 → dstAt ops j ≠ some u := by
      intro u hu j hj h
      obtain rfl | rfl | rfl | rfl | rfl | rfl | rfl | rfl | rfl | rfl | rfl | rfl | rfl | rfl | rfl | rfl | rfl | rfl | rfl | rfl | rfl | rfl | rfl | rfl | rfl | rfl | rfl | rfl | rfl | rfl | rfl | rfl | rfl | rfl | rfl | rfl | rfl | rfl | rfl | rfl | rfl | rfl : j = 0 ∨ j = 1 ∨ j = 2 ∨ j = 3 ∨ j = 4 ∨ j = 5 ∨ j = 6 ∨ j = 7 ∨ j = 8 ∨ j = 9 ∨ j = 10 ∨ j = 11 ∨ j = 12 ∨ j = 13 ∨ j = 14 ∨ j = 15 ∨ j = 16 ∨ j = 17 ∨ j = 18 ∨ j = 19 ∨ j = 20 ∨ j = 21 ∨ j = 22 ∨ j = 23 ∨ j = 24 ∨ j = 25 ∨ j = 26 ∨ j = 27 ∨ j = 28 ∨ j = 29 ∨ j = 30 ∨ j = 31 ∨ j = 32 ∨ j = 33 ∨ j = 34 ∨ j = 35 ∨ j = 36 ∨ j = 37 ∨ j = 38 ∨ j = 39 ∨ j = 40 ∨ j = 41 := by omega
      · rw [S.k0.dst] at h; cases h; exact absurd hu (by decide)
      · rw [S.k1.dst] at h; cases h; exact absurd hu (by decide)
      · rw [S.k2.dst] at h; cases h; exact absurd hu (by decide)
      · rw [S.k3.dst] at h; cases h; exact absurd hu (by decide)
      · rw [S.k4.dst] at h; cases h; exact absurd hu (by decide)
      · rw [S.k5.dst] at h; cases h; exact absurd hu (by decide)
      · rw [S.k6.dst] at h; cases h; exact absurd hu (by decide)
      · rw [S.k7.dst] at h; cases h; exact absurd hu (by decide)
      · rw [S.k8.dst] at h; cases h; exact absurd hu (by decide)
      · rw [S.k9.dst] at h; cases h; exact absurd hu (by decide)
      · rw [S.k10.dst] at h; cases h; exact absurd hu (by decide)
      · rw [S.k11.dst] at h; cases h; exact absurd hu (by decide)
      · rw [S.k12.dst] at h; cases h; exact absurd hu (by decide)
      · rw [S.k13.dst] at h; cases h; exact absurd hu (by decide)
      · rw [S.k14.dst] at h; cases h; exact absurd hu (by decide)
      · rw [S.k15.dst] at h; cases h; exact absurd hu (by decide)
      · rw [S.k16.dst] at h; cases h; exact absurd hu (by decide)
      · rw [S.k17.dst] at h; cases h; exact absurd hu (by decide)
      · rw [S.k18.dst] at h; cases h; exact absurd hu (by decide)
      · rw [S.k19.dst] at h; cases h; exact absurd hu (by decide)
      · rw [S.k20.dst] at h; cases h; exact absurd hu (by decide)
      · rw [S.k21.dst] at h; cases h; exact absurd hu (by decide)
      · rw [S.k22.dst] at h; cases h; exact absurd hu (by decide)
      · rw [S.k23.dst] at h; cases h; exact absurd hu (by decide)
      · rw [S.k24.dst] at h; cases h; exact absurd hu (by decide)
      · rw [S.k25.dst] at h; cases h; exact absurd hu (by decide)
      · rw [S.k26.dst] at h; cases h; exact absurd hu (by decide)
      · rw [S.k27.dst] at h; cases h; exact absurd hu (by decide)
      · rw [S.k28.dst] at h; cases h; exact absurd hu (by decide)
      · rw [S.k29.dst] at h; cases h; exact absurd hu (by decide)
      · rw [S.k30.dst] at h; cases h; exact absurd hu (by decide)
      · rw [S.k31.dst] at h; cases h; exact absurd hu (by decide)
      · rw [S.k32.dst] at h; cases h; exact absurd hu (by decide)
      · rw [S.k33.dst] at h; cases h; exact absurd hu (by decide)
      · rw [S.k34.dst] at h; cases h; exact absurd hu (by decide)
      · rw [S.k35.dst] at h; cases h; exact absurd hu (by decide)
      · rw [S.k36.dst] at h; cases h; exact absurd hu (by decide)
      · rw [S.k37.dst] at h; cases h; exact absurd hu (by decide)
      · rw [S.k38.dst] at h; cases h; exact absurd hu (by decide)
      · rw [S.k39.dst] at h; cases h; exact absurd hu (by decide)
      · rw [S.k40.dst] at h; cases h; exact absurd hu (by decide)
      · rw [S.k41.dst] at h; cases h; exact absurd hu (by decide)
    have hO : ∀ u, u < 34 → a.eval (.tmp u) = a0.eval (.tmp u) := fun u hu => hF.old u (fun j hj h => absurd h (hds u hu j (by rw [← S.len]; exact hj)))
    have hb := I.bel
    have hrf : Below w.heap.size w w := Below.refl _ _
    obtain ⟨q2, q1⟩ := HQ w hb
    obtain rfl | rfl | rfl | rfl | rfl | rfl | rfl | rfl | rfl | rfl | rfl | rfl | rfl | rfl | rfl | rfl | rfl | rfl | rfl | rfl | rfl | rfl | rfl | rfl | rfl | rfl | rfl | rfl | rfl | rfl | rfl | rfl | rfl | rfl | rfl | rfl | rfl | rfl | rfl | rfl | rfl | rfl : i = 0 ∨ i = 1 ∨ i = 2 ∨ i = 3 ∨ i = 4 ∨ i = 5 ∨ i = 6 ∨ i = 7 ∨ i = 8 ∨ i = 9 ∨ i = 10 ∨ i = 11 ∨ i = 12 ∨ i = 13 ∨ i = 14 ∨ i = 15 ∨ i = 16 ∨ i = 17 ∨ i = 18 ∨ i = 19 ∨ i = 20 ∨ i = 21 ∨ i = 22 ∨ i = 23 ∨ i = 24 ∨ i = 25 ∨ i = 26 ∨ i = 27 ∨ i = 28 ∨ i = 29 ∨ i = 30 ∨ i = 31 ∨ i = 32 ∨ i = 33 ∨ i = 34 ∨ i = 35 ∨ i = 36 ∨ i = 37 ∨ i = 38 ∨ i = 39 ∨ i = 40 ∨ i = 41 := by omega
    · obtain ⟨_, hop, hg, hd'⟩ := S.k0.is (B := fun k => listed.getD k false) ho hdep
      refine ⟨wanted_none hg, fun K hK => ?_⟩
      exact wp_mvZ hop ((hO 4 (by decide)).trans t4) (hK _ _ (hset _ _ (I.put (by decide) rfl hb hrf)))
    · obtain ⟨_, hop, hg, hd'⟩ := S.k1.is (B := fun k => listed.getD k false) ho hdep
      refine ⟨wanted_none hg, fun K hK => ?_⟩
      exact wp_mvZ hop ((hO 8 (by decide)).trans t8) (hK _ _ (hset _ _ (I.put (by decide) rfl hb hrf)))
    · obtain ⟨_, hop, hg, hd'⟩ := S.k2.is (B := fun k => listed.getD k false) ho hdep
      refine ⟨wanted_none hg, fun K hK => ?_⟩
      refine wp_c22 hop (hE 0 34 _ (by decide) S.k0.dst (hd' 0 (by simp)) rfl) (hE 1 35 _ (by decide) S.k1.dst (hd' 1 (by simp)) rfl) (HG1 w hb) ?_ (fun e w' h => ⟨_, h.1⟩)
      rintro v' w' ⟨h1, h2⟩
      cases h1
      exact hK _ _ (hset _ _ (I.put (by decide) rfl (hb.trans (h2.mono hb.size)) h2))
    · obtain ⟨_, hop, hg, hd'⟩ := S.k3.is (B := fun k => listed.getD k false) ho hdep
      refine ⟨wanted_none hg, fun K hK => ?_⟩
      exact wp_notG hop (hE 2 36 _ (by decide) S.k2.dst (hd' 2 (by simp)) rfl) (hK _ _ (hset _ _ (I.put (by decide) rfl hb hrf)))
    · obtain ⟨_, hop, hg, hd'⟩ := S.k4.is (B := fun k => listed.getD k false) ho hdep
      refine ⟨wanted_none hg, fun K hK => ?_⟩
      exact wp_mvZ hop (hE 3 37 _ (by decide) S.k3.dst (hd' 3 (by simp)) rfl) (hK _ _ (hset _ _ (I.put (by decide) rfl hb hrf)))
    · obtain ⟨_, hop, hg, hd'⟩ := S.k5.is (B := fun k => listed.getD k false) ho hdep
      refine ⟨wanted_false hg S.k4.dst (hE 4 38 _ (by decide) S.k4.dst (hd' 4 (by simp)) rfl), fun K hK => ?_⟩
      exact wp_mvZ hop ((hO 6 (by decide)).trans t6) (hK _ _ (hset _ _ (I.put (by decide) rfl hb hrf)))
    · obtain ⟨_, hop, hg, hd'⟩ := S.k6.is (B := fun k => listed.getD k false) ho hdep
      refine ⟨wanted_false hg S.k4.dst (hE 4 38 _ (by decide) S.k4.dst (hd' 4 (by simp)) rfl), fun K hK => ?_⟩
      exact wp_mvZ hop ((hO 8 (by decide)).trans t8) (hK _ _ (hset _ _ (I.put (by decide) rfl hb hrf)))
    · obtain ⟨_, hop, hg, hd'⟩ := S.k7.is (B := fun k => listed.getD k false) ho hdep
      refine ⟨wanted_false hg S.k4.dst (hE 4 38 _ (by decide) S.k4.dst (hd' 4 (by simp)) rfl), fun K hK => ?_⟩
      refine wp_c22 hop (hE 5 39 _ (by decide) S.k5.dst (hd' 5 (by simp)) rfl) (hE 6 40 _ (by decide) S.k6.dst (hd' 6 (by simp)) rfl) (HG2 w hb) ?_ (fun e w' h => ⟨_, h.1⟩)
      rintro v' w' ⟨h1, h2⟩
      cases h1
      exact hK _ _ (hset _ _ (I.put (by decide) rfl (hb.trans (h2.mono hb.size)) h2))
    · obtain ⟨_, hop, hg, hd'⟩ := S.k8.is (B := fun k => listed.getD k false) ho hdep
      refine ⟨wanted_false hg S.k4.dst (hE 4 38 _ (by decide) S.k4.dst (hd' 4 (by simp)) rfl), fun K hK => ?_⟩
      exact wp_notG hop (hE 7 41 _ (by decide) S.k7.dst (hd' 7 (by simp)) rfl) (hK _ _ (hset _ _ (I.put (by decide) rfl hb hrf)))
    · obtain ⟨_, hop, hg, hd'⟩ := S.k9.is (B := fun k => listed.getD k false) ho hdep
      refine ⟨wanted_none hg, fun K hK => ?_⟩
      exact wp_pickG hop (hE 4 38 _ (by decide) S.k4.dst (hd' 4 (by simp)) rfl) (hE 8 42 _ (by decide) S.k8.dst (hd' 8 (by simp)) rfl) (hK _ _ (hset _ _ (I.put (by decide) rfl hb hrf)))
    · obtain ⟨_, hop, hg, hd'⟩ := S.k10.is (B := fun k => listed.getD k false) ho hdep
      refine ⟨wanted_none hg, fun K hK => ?_⟩
      exact wp_mvZ hop (hE 9 43 _ (by decide) S.k9.dst (hd' 9 (by simp)) rfl) (hK _ _ (hset _ _ (I.put (by decide) rfl hb hrf)))
    · obtain ⟨_, hop, hg, hd'⟩ := S.k11.is (B := fun k => listed.getD k false) ho hdep
      refine ⟨wanted_false hg S.k10.dst (hE 10 44 _ (by decide) S.k10.dst (hd' 10 (by simp)) rfl), fun K hK => ?_⟩
      exact wp_mvZ hop ((hO 5 (by decide)).trans t5) (hK _ _ (hset _ _ (I.put (by decide) rfl hb hrf)))
    · obtain ⟨_, hop, hg, hd'⟩ := S.k12.is (B := fun k => listed.getD k false) ho hdep
      refine ⟨wanted_false hg S.k10.dst (hE 10 44 _ (by decide) S.k10.dst (hd' 10 (by simp)) rfl), fun K hK => ?_⟩
      exact wp_mvZ hop ((hO 9 (by decide)).trans t9) (hK _ _ (hset _ _ (I.put (by decide) rfl hb hrf)))
    · obtain ⟨_, hop, hg, hd'⟩ := S.k13.is (B := fun k => listed.getD k false) ho hdep
      refine ⟨wanted_false hg S.k10.dst (hE 10 44 _ (by decide) S.k10.dst (hd' 10 (by simp)) rfl), fun K hK => ?_⟩
      exact wp_neq30 hop (hE 11 45 _ (by decide) S.k11.dst (hd' 11 (by simp)) rfl) (hE 12 46 _ (by decide) S.k12.dst (hd' 12 (by simp)) rfl) (hK _ _ (hset _ _ (I.put (by decide) rfl hb hrf)))
    · obtain ⟨_, hop, hg, hd'⟩ := S.k14.is (B := fun k => listed.getD k false) ho hdep
      refine ⟨wanted_none hg, fun K hK => ?_⟩
      exact wp_pickG hop (hE 10 44 _ (by decide) S.k10.dst (hd' 10 (by simp)) rfl) (hE 13 47 _ (by decide) S.k13.dst (hd' 13 (by simp)) rfl) (hK _ _ (hset _ _ (I.put (by decide) rfl hb hrf)))
    · obtain ⟨_, hop, hg, hd'⟩ := S.k15.is (B := fun k => listed.getD k false) ho hdep
      refine ⟨wanted_none hg, fun K hK => ?_⟩
      exact wp_mvZ hop (hE 14 48 _ (by decide) S.k14.dst (hd' 14 (by simp)) rfl) (hK _ _ (hset _ _ (I.put (by decide) rfl hb hrf)))
    · obtain ⟨_, hop, hg, hd'⟩ := S.k16.is (B := fun k => listed.getD k false) ho hdep
      refine ⟨wanted_false hg S.k15.dst (hE 15 49 _ (by decide) S.k15.dst (hd' 15 (by simp)) rfl), fun K hK => ?_⟩
      exact wp_ldG hop ((hO 3 (by decide)).trans t3) q2 (hK _ _ (hset _ _ (I.put (by decide) rfl hb hrf)))
    · obtain ⟨_, hop, hg, hd'⟩ := S.k17.is (B := fun k => listed.getD k false) ho hdep
      refine ⟨wanted_false hg S.k15.dst (hE 15 49 _ (by decide) S.k15.dst (hd' 15 (by simp)) rfl), fun K hK => ?_⟩
      refine wp_c23 hop (hE 16 50 _ (by decide) S.k16.dst (hd' 16 (by simp)) rfl) (HC1 w hb) ?_ (fun e w' h => ⟨_, h.1⟩)
      rintro v' w' ⟨h1, h2⟩
      cases h1
      exact hK _ _ (hset _ _ (I.put (by decide) rfl (hb.trans (h2.mono hb.size)) h2))
    · obtain ⟨_, hop, hg, hd'⟩ := S.k18.is (B := fun k => listed.getD k false) ho hdep
      refine ⟨wanted_false hg S.k15.dst (hE 15 49 _ (by decide) S.k15.dst (hd' 15 (by simp)) rfl), fun K hK => ?_⟩
      exact wp_ldG hop ((hO 1 (by decide)).trans t1) q1 (hK _ _ (hset _ _ (I.put (by decide) rfl hb hrf)))
    · obtain ⟨_, hop, hg, hd'⟩ := S.k19.is (B := fun k => listed.getD k false) ho hdep
      refine ⟨wanted_false hg S.k15.dst (hE 15 49 _ (by decide) S.k15.dst (hd' 15 (by simp)) rfl), fun K hK => ?_⟩
      refine wp_c24 hop (hE 18 52 _ (by decide) S.k18.dst (hd' 18 (by simp)) rfl) (HC2 w hb) ?_ (fun e w' h => ⟨_, h.1⟩)
      rintro v' w' ⟨h1, h2⟩
      cases h1
      exact hK _ _ (hset _ _ (I.put (by decide) rfl (hb.trans (h2.mono hb.size)) h2))
    · obtain ⟨_, hop, hg, hd'⟩ := S.k20.is (B := fun k => listed.getD k false) ho hdep
      refine ⟨wanted_false hg S.k15.dst (hE 15 49 _ (by decide) S.k15.dst (hd' 15 (by simp)) rfl), fun K hK => ?_⟩
      exact wp_neq4 hop (hE 17 51 _ (by decide) S.k17.dst (hd' 17 (by simp)) rfl) (hE 19 53 _ (by decide) S.k19.dst (hd' 19 (by simp)) rfl) (hK _ _ (hset _ _ (I.put (by decide) rfl hb hrf)))
    · obtain ⟨_, hop, hg, hd'⟩ := S.k21.is (B := fun k => listed.getD k false) ho hdep
      refine ⟨wanted_none hg, fun K hK => ?_⟩
      exact wp_pickG hop (hE 15 49 _ (by decide) S.k15.dst (hd' 15 (by simp)) rfl) (hE 20 54 _ (by decide) S.k20.dst (hd' 20 (by simp)) rfl) (hK _ _ (hset _ _ (I.put (by decide) rfl hb hrf)))
    · obtain ⟨_, hop, hg, hd'⟩ := S.k22.is (B := fun k => listed.getD k false) ho hdep
      refine ⟨wanted_none hg, fun K hK => ?_⟩
      exact wp_mvZ hop (hE 21 55 _ (by decide) S.k21.dst (hd' 21 (by simp)) rfl) (hK _ _ (hset _ _ (I.put (by decide) rfl hb hrf)))
    · obtain ⟨_, hop, hg, hd'⟩ := S.k23.is (B := fun k => listed.getD k false) ho hdep
      refine ⟨wanted_false hg S.k22.dst (hE 22 56 _ (by decide) S.k22.dst (hd' 22 (by simp)) rfl), fun K hK => ?_⟩
      exact wp_mvZ hop ((hO 10 (by decide)).trans t10) (hK _ _ (hset _ _ (I.put (by decide) rfl hb hrf)))
    · obtain ⟨_, hop, hg, hd'⟩ := S.k24.is (B := fun k => listed.getD k false) ho hdep
      refine ⟨wanted_false hg S.k22.dst (hE 22 56 _ (by decide) S.k22.dst (hd' 22 (by simp)) rfl), fun K hK => ?_⟩
      exact wp_ldG hop ((hO 1 (by decide)).trans t1) q1 (hK _ _ (hset _ _ (I.put (by decide) rfl hb hrf)))
    · obtain ⟨_, hop, hg, hd'⟩ := S.k25.is (B := fun k => listed.getD k false) ho hdep
      refine ⟨wanted_false hg S.k22.dst (hE 22 56 _ (by decide) S.k22.dst (hd' 22 (by simp)) rfl), fun K hK => ?_⟩
      refine wp_c25 hop (hE 24 58 _ (by decide) S.k24.dst (hd' 24 (by simp)) rfl) (HW1 w hb) ?_ (fun e w' ⟨_, _, _, h, _⟩ => ⟨_, h⟩)
      rintro v' w' ⟨a1, l1, c1, h1, h2, h3⟩
      cases h1
      exact hK _ _ (hset _ _ (I.wput rfl (hb.trans (h3.mono hb.size)) h2))
    · obtain ⟨_, hop, hg, hd'⟩ := S.k26.is (B := fun k => listed.getD k false) ho hdep
      refine ⟨wanted_false hg S.k22.dst (hE 22 56 _ (by decide) S.k22.dst (hd' 22 (by simp)) rfl), fun K hK => ?_⟩
      obtain ⟨a1, l1, c1, e25, hI⟩ := I.wt (hd' 25 (by simp))
      refine wp_c13 hop (hE 23 57 _ (by decide) S.k23.dst (hd' 23 (by simp)) rfl) ((hF.new 25 59 (by rw [S.len]; decide) S.k25.dst (hd' 25 (by simp))).trans e25) (HSI w a1 l1 c1 hb hI) ?_ (fun e w' h => ⟨_, h.1⟩)
      rintro v' w' ⟨h1, h2⟩
      cases h1
      exact hK _ _ (hset _ _ (I.put (by decide) rfl (hb.trans (h2.mono hb.size)) h2))
    · obtain ⟨_, hop, hg, hd'⟩ := S.k27.is (B := fun k => listed.getD k false) ho hdep
      refine ⟨wanted_false hg S.k22.dst (hE 22 56 _ (by decide) S.k22.dst (hd' 22 (by simp)) rfl), fun K hK => ?_⟩
      exact wp_notG hop (hE 26 60 _ (by decide) S.k26.dst (hd' 26 (by simp)) rfl) (hK _ _ (hset _ _ (I.put (by decide) rfl hb hrf)))
    · obtain ⟨_, hop, hg, hd'⟩ := S.k28.is (B := fun k => listed.getD k false) ho hdep
      refine ⟨wanted_none hg, fun K hK => ?_⟩
      exact wp_pickG hop (hE 22 56 _ (by decide) S.k22.dst (hd' 22 (by simp)) rfl) (hE 27 61 _ (by decide) S.k27.dst (hd' 27 (by simp)) rfl) (hK _ _ (hset _ _ (I.put (by decide) rfl hb hrf)))
    · obtain ⟨_, hop, hg, hd'⟩ := S.k29.is (B := fun k => listed.getD k false) ho hdep
      refine ⟨wanted_none hg, fun K hK => ?_⟩
      exact wp_mvZ hop (hE 28 62 _ (by decide) S.k28.dst (hd' 28 (by simp)) rfl) (hK _ _ (hset _ _ (I.put (by decide) rfl hb hrf)))
    · obtain ⟨_, hop, hg, hd'⟩ := S.k30.is (B := fun k => listed.getD k false) ho hdep
      refine ⟨wanted_false hg S.k29.dst (hE 29 63 _ (by decide) S.k29.dst (hd' 29 (by simp)) rfl), fun K hK => ?_⟩
      exact wp_ldG hop ((hO 3 (by decide)).trans t3) q2 (hK _ _ (hset _ _ (I.put (by decide) rfl hb hrf)))
    · obtain ⟨_, hop, hg, hd'⟩ := S.k31.is (B := fun k => listed.getD k false) ho hdep
      refine ⟨wanted_false hg S.k29.dst (hE 29 63 _ (by decide) S.k29.dst (hd' 29 (by simp)) rfl), fun K hK => ?_⟩
      refine wp_c26 hop (hE 30 64 _ (by decide) S.k30.dst (hd' 30 (by simp)) rfl) (HI1 w hb) ?_ (fun e w' h => ⟨_, h.1⟩)
      rintro v' w' ⟨h1, h2⟩
      cases h1
      exact hK _ _ (hset _ _ (I.put (by decide) rfl (hb.trans (h2.mono hb.size)) h2))
    · obtain ⟨_, hop, hg, hd'⟩ := S.k32.is (B := fun k => listed.getD k false) ho hdep
      refine ⟨wanted_false hg S.k29.dst (hE 29 63 _ (by decide) S.k29.dst (hd' 29 (by simp)) rfl), fun K hK => ?_⟩
      exact wp_ldG hop ((hO 1 (by decide)).trans t1) q1 (hK _ _ (hset _ _ (I.put (by decide) rfl hb hrf)))
    · obtain ⟨_, hop, hg, hd'⟩ := S.k33.is (B := fun k => listed.getD k false) ho hdep
      refine ⟨wanted_false hg S.k29.dst (hE 29 63 _ (by decide) S.k29.dst (hd' 29 (by simp)) rfl), fun K hK => ?_⟩
      refine wp_c27 hop (hE 32 66 _ (by decide) S.k32.dst (hd' 32 (by simp)) rfl) (HI2 w hb) ?_ (fun e w' h => ⟨_, h.1⟩)
      rintro v' w' ⟨h1, h2⟩
      cases h1
      exact hK _ _ (hset _ _ (I.put (by decide) rfl (hb.trans (h2.mono hb.size)) h2))
    · obtain ⟨_, hop, hg, hd'⟩ := S.k34.is (B := fun k => listed.getD k false) ho hdep
      refine ⟨wanted_false hg S.k29.dst (hE 29 63 _ (by decide) S.k29.dst (hd' 29 (by simp)) rfl), fun K hK => ?_⟩
      exact wp_neq3 hop (hE 31 65 _ (by decide) S.k31.dst (hd' 31 (by simp)) rfl) (hE 33 67 _ (by decide) S.k33.dst (hd' 33 (by simp)) rfl) (hK _ _ (hset _ _ (I.put (by decide) rfl hb hrf)))
    · obtain ⟨_, hop, hg, hd'⟩ := S.k35.is (B := fun k => listed.getD k false) ho hdep
      refine ⟨wanted_none hg, fun K hK => ?_⟩
      exact wp_pickG hop (hE 29 63 _ (by decide) S.k29.dst (hd' 29 (by simp)) rfl) (hE 34 68 _ (by decide) S.k34.dst (hd' 34 (by simp)) rfl) (hK _ _ (hset _ _ (I.put (by decide) rfl hb hrf)))
    · obtain ⟨_, hop, hg, hd'⟩ := S.k36.is (B := fun k => listed.getD k false) ho hdep
      refine ⟨wanted_none hg, fun K hK => ?_⟩
      exact wp_mvZ hop (hE 35 69 _ (by decide) S.k35.dst (hd' 35 (by simp)) rfl) (hK _ _ (hset _ _ (I.put (by decide) rfl hb hrf)))
    · obtain ⟨_, hop, hg, hd'⟩ := S.k37.is (B := fun k => listed.getD k false) ho hdep
      refine ⟨wanted_false hg S.k36.dst (hE 36 70 _ (by decide) S.k36.dst (hd' 36 (by simp)) rfl), fun K hK => ?_⟩
      exact wp_ldG hop ((hO 3 (by decide)).trans t3) q2 (hK _ _ (hset _ _ (I.put (by decide) rfl hb hrf)))
    · obtain ⟨_, hop, hg, hd'⟩ := S.k38.is (B := fun k => listed.getD k false) ho hdep
      refine ⟨wanted_false hg S.k36.dst (hE 36 70 _ (by decide) S.k36.dst (hd' 36 (by simp)) rfl), fun K hK => ?_⟩
      exact wp_ldG hop ((hO 1 (by decide)).trans t1) q1 (hK _ _ (hset _ _ (I.put (by decide) rfl hb hrf)))
    · obtain ⟨_, hop, hg, hd'⟩ := S.k39.is (B := fun k => listed.getD k false) ho hdep
      refine ⟨wanted_false hg S.k36.dst (hE 36 70 _ (by decide) S.k36.dst (hd' 36 (by simp)) rfl), fun K hK => ?_⟩
      refine wp_c28 hop (hE 37 71 _ (by decide) S.k37.dst (hd' 37 (by simp)) rfl) (hE 38 72 _ (by decide) S.k38.dst (hd' 38 (by simp)) rfl) (HLF w hb) ?_ (fun e w' h => ⟨_, h.1⟩)
      rintro v' w' ⟨h1, h2⟩
      cases h1
      exact hK _ _ (hset _ _ (I.put (by decide) rfl (hb.trans (h2.mono hb.size)) h2))
    · obtain ⟨_, hop, hg, hd'⟩ := S.k40.is (B := fun k => listed.getD k false) ho hdep
      refine ⟨wanted_false hg S.k36.dst (hE 36 70 _ (by decide) S.k36.dst (hd' 36 (by simp)) rfl), fun K hK => ?_⟩
      exact wp_notG hop (hE 39 73 _ (by decide) S.k39.dst (hd' 39 (by simp)) rfl) (hK _ _ (hset _ _ (I.put (by decide) rfl hb hrf)))
    · obtain ⟨_, hop, hg, hd'⟩ := S.k41.is (B := fun k => listed.getD k false) ho hdep
      refine ⟨wanted_none hg, fun K hK => ?_⟩
      exact wp_pickG hop (hE 36 70 _ (by decide) S.k36.dst (hd' 36 (by simp)) rfl) (hE 40 74 _ (by decide) S.k40.dst (hd' 40 (by simp)) rfl) (hK _ _ (hset _ _ (I.put (by decide) rfl hb hrf)))
  · intro listed vals w hall I
    have hA : ∀ i, i < 42 → listed.getD i false = true := fun i hi => hall i (by rw [S.len]; exact hi)
    obtain ⟨a1, l1, c1, h1, _⟩ := I.wt (hA 25 (by decide))
    have := hQ w a1 l1 c1 I.bel
    rw [S.len]
    have q0 := I.cs 0 _ rfl (hA 0 (by decide))
    have q1 := I.cs 1 _ rfl (hA 1 (by decide))
    have q2 := I.cs 2 _ rfl (hA 2 (by decide))
    have q3 := I.cs 3 _ rfl (hA 3 (by decide))
    have q4 := I.cs 4 _ rfl (hA 4 (by decide))
    have q5 := I.cs 5 _ rfl (hA 5 (by decide))
    have q6 := I.cs 6 _ rfl (hA 6 (by decide))
    have q7 := I.cs 7 _ rfl (hA 7 (by decide))
    have q8 := I.cs 8 _ rfl (hA 8 (by decide))
    have q9 := I.cs 9 _ rfl (hA 9 (by decide))
    have q10 := I.cs 10 _ rfl (hA 10 (by decide))
    have q11 := I.cs 11 _ rfl (hA 11 (by decide))
    have q12 := I.cs 12 _ rfl (hA 12 (by decide))
    have q13 := I.cs 13 _ rfl (hA 13 (by decide))
    have q14 := I.cs 14 _ rfl (hA 14 (by decide))
    have q15 := I.cs 15 _ rfl (hA 15 (by decide))
    have q16 := I.cs 16 _ rfl (hA 16 (by decide))
    have q17 := I.cs 17 _ rfl (hA 17 (by decide))
    have q18 := I.cs 18 _ rfl (hA 18 (by decide))
    have q19 := I.cs 19 _ rfl (hA 19 (by decide))
    have q20 := I.cs 20 _ rfl (hA 20 (by decide))
    have q21 := I.cs 21 _ rfl (hA 21 (by decide))
    have q22 := I.cs 22 _ rfl (hA 22 (by decide))
    have q23 := I.cs 23 _ rfl (hA 23 (by decide))
    have q24 := I.cs 24 _ rfl (hA 24 (by decide))
    have q25 := h1
    have q26 := I.cs 26 _ rfl (hA 26 (by decide))
    have q27 := I.cs 27 _ rfl (hA 27 (by decide))
    have q28 := I.cs 28 _ rfl (hA 28 (by decide))
    have q29 := I.cs 29 _ rfl (hA 29 (by decide))
    have q30 := I.cs 30 _ rfl (hA 30 (by decide))
    have q31 := I.cs 31 _ rfl (hA 31 (by decide))
    have q32 := I.cs 32 _ rfl (hA 32 (by decide))
    have q33 := I.cs 33 _ rfl (hA 33 (by decide))
    have q34 := I.cs 34 _ rfl (hA 34 (by decide))
    have q35 := I.cs 35 _ rfl (hA 35 (by decide))
    have q36 := I.cs 36 _ rfl (hA 36 (by decide))
    have q37 := I.cs 37 _ rfl (hA 37 (by decide))
    have q38 := I.cs 38 _ rfl (hA 38 (by decide))
    have q39 := I.cs 39 _ rfl (hA 39 (by decide))
    have q40 := I.cs 40 _ rfl (hA 40 (by decide))
    have q41 := I.cs 41 _ rfl (hA 41 (by decide))
    simp only [putsK, S.k0.dst, S.k1.dst, S.k2.dst, S.k3.dst, S.k4.dst, S.k5.dst, S.k6.dst, S.k7.dst, S.k8.dst, S.k9.dst, S.k10.dst, S.k11.dst, S.k12.dst, S.k13.dst, S.k14.dst, S.k15.dst, S.k16.dst, S.k17.dst, S.k18.dst, S.k19.dst, S.k20.dst, S.k21.dst, S.k22.dst, S.k23.dst, S.k24.dst, S.k25.dst, S.k26.dst, S.k27.dst, S.k28.dst, S.k29.dst, S.k30.dst, S.k31.dst, S.k32.dst, S.k33.dst, S.k34.dst, S.k35.dst, S.k36.dst, S.k37.dst, S.k38.dst, S.k39.dst, S.k40.dst, S.k41.dst, q0, q1, q2, q3, q4, q5, q6, q7, q8, q9, q10, q11, q12, q13, q14, q15, q16, q17, q18, q19, q20, q21, q22, q23, q24, q25, q26, q27, q28, q29, q30, q31, q32, q33, q34, q35, q36, q37, q38, q39, q40, q41]
    exact this
end Go.Proofs.YtekejcnphmnidaaGreatDoor
