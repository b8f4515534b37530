/-
  'm.l, m.disk = append(m.l, a step), append(m.disk, u)' (plans.go:57), whatever order is drawn: the law store_region, for each region of that shape.
-/
import Derived.Test.YtgmagldbfajedaaPlTwo
import Derived.Test.YtgmagldbfajedaaRegCanon
namespace Go.Proofs.Ytgmagldbfajedaa
open Go.RowKit

/-- The region's operations. -/
structure IsStore (l : List Oper) : Prop where
  len : l.length = 23
  k0 : OpAt l 0 (some 96) (.move (.tmp 0)) []
  k1 : OpAt l 1 (some 97) (.move (.tmp 0)) []
  k2 : OpAt l 2 (some 98) (.move (.tmp 0)) []
  k3 : OpAt l 3 (some 99) (.nilCheck (.tmp 98)) [2]
  k4 : OpAt l 4 (some 100) (.fieldAddr 120 (.tmp 99) 9) [3]
  k5 : OpAt l 5 (some 101) (.load 75 (.tmp 100)) [4]
  k6 : OpAt l 6 (some 102) (.move (.tmp 12)) []
  k7 : OpAt l 7 (some 103) (.build 82 #[(0, .const (.int .u8 4)), (1, .tmp 102)]) [6]
  k8 : OpAt l 8 (some 104) (.buildSlice 75 1 #[(0, .tmp 103)]) [7]
  k9 : OpAt l 9 (some 105) (.call { callee := .builtin .append, args := #[.tmp 101, .tmp 104], argTypes := #[75, 75] }) [5, 8]
  k10 : OpAt l 10 (some 106) (.move (.tmp 0)) []
  k11 : OpAt l 11 (some 107) (.nilCheck (.tmp 106)) [10]
  k12 : OpAt l 12 (some 108) (.fieldAddr 120 (.tmp 107) 8) [11]
  k13 : OpAt l 13 (some 109) (.load 22 (.tmp 108)) [12]
  k14 : OpAt l 14 (some 110) (.move (.tmp 12)) []
  k15 : OpAt l 15 (some 111) (.buildSlice 22 1 #[(0, .tmp 110)]) [14]
  k16 : OpAt l 16 (some 112) (.call { callee := .builtin .append, args := #[.tmp 109, .tmp 111], argTypes := #[22, 22] }) [13, 15, 9]
  k17 : OpAt l 17 (some 113) (.nilCheck (.tmp 96)) [0]
  k18 : OpAt l 18 (some 114) (.fieldAddr 120 (.tmp 113) 9) [17]
  k19 : OpAt l 19 none (.store 75 (.tmp 114) (.tmp 105)) [18, 5, 8, 9, 13, 16]
  k20 : OpAt l 20 (some 115) (.nilCheck (.tmp 97)) [1]
  k21 : OpAt l 21 (some 116) (.fieldAddr 120 (.tmp 115) 8) [20]
  k22 : OpAt l 22 none (.store 22 (.tmp 116) (.tmp 112)) [21, 16, 19]

section
variable {M : Nat} {wq : World} {Y X : Value} {l : List (Int × Int)} {d : List Int} {m : Int}

/-- What the operations that make nothing leave. -/
def constS (M : Nat) (Y X : Value) (m : Int) : Nat → Option Value
  | 0 => some (.pointer (some ⟨M, 0, none⟩)) | 1 => some (.pointer (some ⟨M, 0, none⟩)) | 2 => some (.pointer (some ⟨M, 0, none⟩)) | 3 => some (.pointer (some ⟨M, 0, none⟩))
  | 4 => some (.pointer (some ⟨M, 9, none⟩)) | 5 => some Y | 6 => some (.int .i64 m) | 7 => some (.agg #[.int .u8 4, .int .i64 m])
  | 10 => some (.pointer (some ⟨M, 0, none⟩)) | 11 => some (.pointer (some ⟨M, 0, none⟩)) | 12 => some (.pointer (some ⟨M, 8, none⟩)) | 13 => some X | 14 => some (.int .i64 m)
  | 17 => some (.pointer (some ⟨M, 0, none⟩)) | 18 => some (.pointer (some ⟨M, 9, none⟩)) | 20 => some (.pointer (some ⟨M, 0, none⟩)) | 21 => some (.pointer (some ⟨M, 8, none⟩))
  | _ => none
/-- A slice of one, just laid. -/
def NewS (wq : World) (c : Obj) (v : Value) (w : World) : Prop := ∃ nb, v = .slice (some ⟨nb, 0, none⟩) 1 1 ∧ wq.heap.size ≤ nb ∧ w.heap[nb]? = some c
def pick2 {α : Type} (b : Bool) (x y : α) : α := if b = true then x else y

structure InvS (M : Nat) (wq : World) (Y X : Value) (l : List (Int × Int)) (d : List Int) (m : Int) (B : Nat → Bool) (vals : Nat → Value) (w : World) : Prop where
  cs : ∀ i c, constS M Y X m i = some c → B i = true → vals i = c
  ph : B 19 = true → B 5 = true ∧ B 8 = true ∧ B 9 = true ∧ B 13 = true ∧ B 15 = true ∧ B 16 = true
  q : B 22 = true → B 19 = true
  r : B 16 = true → B 9 = true
  w9 : B 9 = true → B 8 = true
  w16 : B 16 = true → B 15 = true
  pre : B 19 = false → Two M wq Y X w (pick2 (B 9) (vals 9) Y) (pick2 (B 9) (l ++ [(4, m)]) l) (pick2 (B 16) (vals 16) X) (pick2 (B 16) (d ++ [m]) d)
  n8 : B 8 = true → B 9 = false → NewS wq (.cells #[.int .u8 4, .int .i64 m] 82 (0, 0)) (vals 8) w
  n15 : B 15 = true → B 16 = false → NewS wq (.cells #[.int .i64 m] 3 (0, 0)) (vals 15) w
  s1 : B 19 = true → B 22 = false → ∃ W, Two M wq Y X W (vals 9) (l ++ [(4, m)]) (vals 16) (d ++ [m]) ∧ w = W.setCell ⟨M, 9, none⟩ (vals 9)
  s2 : B 22 = true → ∃ W, Two M wq Y X W (vals 9) (l ++ [(4, m)]) (vals 16) (d ++ [m]) ∧ w = (W.setCell ⟨M, 9, none⟩ (vals 9)).setCell ⟨M, 8, none⟩ (vals 16)

def setB (B : Nat → Bool) (i : Nat) : Nat → Bool := fun k => if i = k then true else B k
theorem setB_at (B : Nat → Bool) (i : Nat) : setB B i i = true := if_pos rfl
theorem setB_ne (B : Nat → Bool) {i k : Nat} (h : i ≠ k) : setB B i k = B k := if_neg h

theorem InvS.pure {B : Nat → Bool} {vals : Nat → Value} {w : World} (I : InvS M wq Y X l d m B vals w) {i : Nat} (hi : i ≠ 8 ∧ i ≠ 9 ∧ i ≠ 15 ∧ i ≠ 16 ∧ i ≠ 19 ∧ i ≠ 22) {c : Value} (hc : constS M Y X m i = some c) : InvS M wq Y X l d m (setB B i) (updV vals i c) w := by
  obtain ⟨h8, h9, h15, h16, h19, h22⟩ := hi
  have e8 := setB_ne B h8
  have e9 := setB_ne B h9
  have e15 := setB_ne B h15
  have e16 := setB_ne B h16
  have e19 := setB_ne B h19
  have e22 := setB_ne B h22
  have v8 := updV_ne vals i c (Ne.symm h8)
  have v9 := updV_ne vals i c (Ne.symm h9)
  have v15 := updV_ne vals i c (Ne.symm h15)
  have v16 := updV_ne vals i c (Ne.symm h16)
  refine ⟨fun j c' hj hb => ?_, fun h => ?_, fun h => ?_, fun h => ?_, fun h => ?_, fun h => ?_, fun h => ?_, fun h h' => ?_, fun h h' => ?_, fun h h' => ?_, fun h => ?_⟩
  · by_cases e : i = j
    · subst e
      rw [updV_at]
      rw [hc] at hj; exact Option.some.inj hj
    · rw [updV_ne _ _ _ (Ne.symm e)]
      rw [setB_ne B e] at hb
      exact I.cs j c' hj hb
  · rw [e19] at h
    rw [e8, e9, e15, e16]
    have h1 := I.ph h
    refine ⟨?_, h1.2.1, h1.2.2.1, ?_, h1.2.2.2.2⟩
    · unfold setB; split
      · rfl
      · exact h1.1
    · unfold setB; split
      · rfl
      · exact h1.2.2.2.1
  · rw [e22] at h; rw [e19]; exact I.q h
  · rw [e16] at h; rw [e9]; exact I.r h
  · rw [e9] at h; rw [e8]; exact I.w9 h
  · rw [e16] at h; rw [e15]; exact I.w16 h
  · rw [e19] at h; rw [e9, e16, v9, v16]; exact I.pre h
  · rw [e8] at h; rw [e9] at h'; rw [v8]; exact I.n8 h h'
  · rw [e15] at h; rw [e16] at h'; rw [v15]; exact I.n15 h h'
  · rw [e19] at h; rw [e22] at h'; rw [v9, v16]; exact I.s1 h h'
  · rw [e22] at h; rw [v9, v16]; exact I.s2 h

theorem dst_lo {ops : List Oper} (S : IsStore ops) {j : Nat} (hj : j < 23) {t : Nat} (ht : t < 96) : dstAt ops j ≠ some t := by
  obtain rfl | rfl | rfl | rfl | rfl | rfl | rfl | rfl | rfl | rfl | rfl | rfl | rfl | rfl | rfl | rfl | rfl | rfl | rfl | rfl | rfl | rfl | rfl : j = 0 ∨ j = 1 ∨ j = 2 ∨ j = 3 ∨ j = 4 ∨ j = 5 ∨ j = 6 ∨ j = 7 ∨ j = 8 ∨ j = 9 ∨ j = 10 ∨ j = 11 ∨ j = 12 ∨ j = 13 ∨ j = 14 ∨ j = 15 ∨ j = 16 ∨ j = 17 ∨ j = 18 ∨ j = 19 ∨ j = 20 ∨ j = 21 ∨ j = 22 := by omega
  · rw [S.k0.dst]; intro e; first | (cases e; done) | (cases e; exact absurd ht (by decide))
  · rw [S.k1.dst]; intro e; first | (cases e; done) | (cases e; exact absurd ht (by decide))
  · rw [S.k2.dst]; intro e; first | (cases e; done) | (cases e; exact absurd ht (by decide))
  · rw [S.k3.dst]; intro e; first | (cases e; done) | (cases e; exact absurd ht (by decide))
  · rw [S.k4.dst]; intro e; first | (cases e; done) | (cases e; exact absurd ht (by decide))
  · rw [S.k5.dst]; intro e; first | (cases e; done) | (cases e; exact absurd ht (by decide))
  · rw [S.k6.dst]; intro e; first | (cases e; done) | (cases e; exact absurd ht (by decide))
  · rw [S.k7.dst]; intro e; first | (cases e; done) | (cases e; exact absurd ht (by decide))
  · rw [S.k8.dst]; intro e; first | (cases e; done) | (cases e; exact absurd ht (by decide))
  · rw [S.k9.dst]; intro e; first | (cases e; done) | (cases e; exact absurd ht (by decide))
  · rw [S.k10.dst]; intro e; first | (cases e; done) | (cases e; exact absurd ht (by decide))
  · rw [S.k11.dst]; intro e; first | (cases e; done) | (cases e; exact absurd ht (by decide))
  · rw [S.k12.dst]; intro e; first | (cases e; done) | (cases e; exact absurd ht (by decide))
  · rw [S.k13.dst]; intro e; first | (cases e; done) | (cases e; exact absurd ht (by decide))
  · rw [S.k14.dst]; intro e; first | (cases e; done) | (cases e; exact absurd ht (by decide))
  · rw [S.k15.dst]; intro e; first | (cases e; done) | (cases e; exact absurd ht (by decide))
  · rw [S.k16.dst]; intro e; first | (cases e; done) | (cases e; exact absurd ht (by decide))
  · rw [S.k17.dst]; intro e; first | (cases e; done) | (cases e; exact absurd ht (by decide))
  · rw [S.k18.dst]; intro e; first | (cases e; done) | (cases e; exact absurd ht (by decide))
  · rw [S.k19.dst]; intro e; first | (cases e; done) | (cases e; exact absurd ht (by decide))
  · rw [S.k20.dst]; intro e; first | (cases e; done) | (cases e; exact absurd ht (by decide))
  · rw [S.k21.dst]; intro e; first | (cases e; done) | (cases e; exact absurd ht (by decide))
  · rw [S.k22.dst]; intro e; first | (cases e; done) | (cases e; exact absurd ht (by decide))
theorem hnoB {B : Nat → Bool} {i : Nat} (h : B i = false) (hi : B 19 = true → B i = true) : B 19 = false := by
  cases h2 : B 19 with
  | false => rfl
  | true => rw [hi h2] at h; cases h

theorem wp_ret {P : Program} {o : Oper} {a : Act} {w w' : World} {K : Act → World → Prop} {Q : Exit → Act → World → Prop} {v : Value} (h : (execOp a.eval o).run P w = .ok (.value v) w') (hK : K (a.put o.dst v) w') : o.wp P a w K Q := by
  unfold Oper.wp; rw [h]; exact hK
theorem wp_mvE {P : Program} {o : Oper} {a : Act} {w : World} {K : Act → World → Prop} {Q : Exit → Act → World → Prop} {x : Operand} {v : Value} (ho : o.op = .move x) (hv : a.eval x = v) (hK : K (a.put o.dst v) w) : o.wp P a w K Q := by
  refine wp_ret ?_ hK
  clear hK
  generalize a.eval = ev at *
  unfold execOp; rw [ho]; simp [hv, go_sem]
theorem wp_nilE {P : Program} {o : Oper} {a : Act} {w : World} {K : Act → World → Prop} {Q : Exit → Act → World → Prop} {x : Operand} {p : Addr} (ho : o.op = .nilCheck x) (hv : a.eval x = .pointer (some p)) (hK : K (a.put o.dst (.pointer (some p))) w) : o.wp P a w K Q := by
  refine wp_ret ?_ hK
  clear hK
  generalize a.eval = ev at *
  unfold execOp; rw [ho]; simp [hv, go_sem]
theorem wp_field9 {o : Oper} {a : Act} {w : World} {K : Act → World → Prop} {Q : Exit → Act → World → Prop} {x : Operand} {M : Nat} (ho : o.op = .fieldAddr 120 x 9) (hv : a.eval x = .pointer (some ⟨M, 0, none⟩)) (hK : K (a.put o.dst (.pointer (some ⟨M, 9, none⟩))) w) : o.wp Try.prog a w K Q := by
  refine wp_ret ?_ hK
  clear hK
  generalize a.eval = ev at *
  unfold execOp; rw [ho]; simp [hv, go_sem]
theorem wp_field8 {o : Oper} {a : Act} {w : World} {K : Act → World → Prop} {Q : Exit → Act → World → Prop} {x : Operand} {M : Nat} (ho : o.op = .fieldAddr 120 x 8) (hv : a.eval x = .pointer (some ⟨M, 0, none⟩)) (hK : K (a.put o.dst (.pointer (some ⟨M, 8, none⟩))) w) : o.wp Try.prog a w K Q := by
  refine wp_ret ?_ hK
  clear hK
  generalize a.eval = ev at *
  unfold execOp; rw [ho]; simp [hv, go_sem]
theorem wp_load1 {o : Oper} {a : Act} {w : World} {K : Act → World → Prop} {Q : Exit → Act → World → Prop} {x : Operand} {p : Addr} {c : Value} (ho : o.op = .load 75 x ∨ o.op = .load 22 x) (hv : a.eval x = .pointer (some p)) (hc : w.cell? p = some c) (hK : K (a.put o.dst c) w) : o.wp Try.prog a w K Q := by
  refine wp_ret ?_ hK
  clear hK
  generalize a.eval = ev at *
  unfold execOp; rcases ho with ho | ho <;> (rw [ho]; simp [hv, hc, go_sem])
theorem wp_bld82 {o : Oper} {a : Act} {w : World} {K : Act → World → Prop} {Q : Exit → Act → World → Prop} {x : Operand} {m : Int} (ho : o.op = .build 82 #[(0, .const (.int .u8 4)), (1, x)]) (hv : a.eval x = .int .i64 m) (hK : K (a.put o.dst (.agg #[.int .u8 4, .int .i64 m])) w) : o.wp Try.prog a w K Q := by
  refine wp_ret ?_ hK
  clear hK
  have h4 : a.eval (.const (.int .u8 4)) = .int .u8 4 := rfl
  generalize a.eval = ev at *
  unfold execOp; rw [ho]; simp [hv, h4, go_sem]
theorem wp_bs75 {o : Oper} {a : Act} {w : World} {K : Act → World → Prop} {Q : Exit → Act → World → Prop} {x : Operand} {m : Int} (ho : o.op = .buildSlice 75 1 #[(0, x)]) (hv : a.eval x = .agg #[.int .u8 4, .int .i64 m]) (hK : K (a.put o.dst (.slice (some ⟨w.heap.size, 0, none⟩) 1 1)) (w.alloc (.cells #[.int .u8 4, .int .i64 m] 82))) : o.wp Try.prog a w K Q := by
  refine wp_ret ?_ hK
  clear hK
  generalize a.eval = ev at *
  unfold execOp; rw [ho]; simp [hv, go_sem]
theorem wp_bs22 {o : Oper} {a : Act} {w : World} {K : Act → World → Prop} {Q : Exit → Act → World → Prop} {x : Operand} {m : Int} (ho : o.op = .buildSlice 22 1 #[(0, x)]) (hv : a.eval x = .int .i64 m) (hK : K (a.put o.dst (.slice (some ⟨w.heap.size, 0, none⟩) 1 1)) (w.alloc (.cells #[.int .i64 m] 3))) : o.wp Try.prog a w K Q := by
  refine wp_ret ?_ hK
  clear hK
  generalize a.eval = ev at *
  unfold execOp; rw [ho]; simp [hv, go_sem]
theorem wp_store1 {o : Oper} {a : Act} {w : World} {K : Act → World → Prop} {Q : Exit → Act → World → Prop} {x y : Operand} {p : Addr} {aa : Option Addr} {nn qq : Nat} {c : Value} (ho : o.op = .store 75 x y ∨ o.op = .store 22 x y) (hx : a.eval x = .pointer (some p)) (hy : a.eval y = .slice aa nn qq) (hc : w.cell? p = some c) (hf : w.frozen? p = false) (hK : K (a.put o.dst undef) (w.setCell p (.slice aa nn qq))) : o.wp Try.prog a w K Q := by
  have hr : (execOp a.eval o).run Try.prog w = .ok .skip (w.setCell p (.slice aa nn qq)) := by
    clear hK
    generalize a.eval = ev at *
    unfold execOp; rcases ho with ho | ho <;> (rw [ho]; simp [hx, hy, hc, hf, go_sem])
  unfold Oper.wp; rw [hr]; exact hK
end

/-- The law of the region. -/
def finS (M : Nat) (Y X : Value) (m : Int) (p v q u : Value) (i : Nat) : Value :=
  if i = 8 then p else if i = 9 then v else if i = 15 then q else if i = 16 then u else (constS M Y X m i).getD undef

section
variable {M : Nat} {wq : World} {Y X : Value} {l : List (Int × Int)} {d : List Int} {m : Int}
set_option maxHeartbeats 4000000 in
theorem store_region {ops : List Oper} (S : IsStore ops) {Q : Exit → Act → World → Prop} {id : Nat} {a0 : Act} (hs : a0.tmps.size = 123) (hB : canonB ops 123 = true) (h0 : a0.eval (.tmp 0) = .pointer (some ⟨M, 0, none⟩)) (h12 : a0.eval (.tmp 12) = .int .i64 m)
    (T0 : Two M wq Y X wq.drew Y l X d) (hoY : ∀ k, Y.ownBlock = some k → k < wq.heap.size) (_ : ∀ k, X.ownBlock = some k → k < wq.heap.size)
    (c9 : wq.cell? ⟨M, 9, none⟩ = some Y) (c8 : wq.cell? ⟨M, 8, none⟩ = some X) (f9 : wq.frozen? ⟨M, 9, none⟩ = false) (f8 : wq.frozen? ⟨M, 8, none⟩ = false) (hl : l.length ≤ 10000000) (hdl : d.length ≤ 10000000)
    (hQ : ∀ p v q u W, Two M wq Y X W v (l ++ [(4, m)]) u (d ++ [m]) → Q .normal (putsK ops a0 (finS M Y X m p v q u) 23) ((W.setCell ⟨M, 9, none⟩ v).setCell ⟨M, 8, none⟩ u)) :
    (Code.region id ops.toArray true).wp Try.prog Q a0 wq := by
  refine wp_region_canon hs mixed hB (fun listed vals w => InvS M wq Y X l d m (fun k => listed.getD k false) vals w) (fun _ => undef) ?_ ?_ ?_
  · have hf : ∀ k, (Array.replicate ops.length false).getD k false = false := fun k => by
      simp only [Array.getD_eq_getD_getElem?, Array.getElem?_replicate]
      split <;> simp
    simp only [hf]
    exact ⟨(fun _ _ _ h => by cases h), fun h => (by cases h), fun h => (by cases h), fun h => (by cases h), fun h => (by cases h), fun h => (by cases h), fun _ => T0, fun h => (by cases h), fun h => (by cases h), fun h => (by cases h), fun h => (by cases h)⟩
  · intro listed vals w a i o hz ho hn hdep I hF K hK
    have hi : i < 23 := by rw [← S.len]; exact (List.getElem?_eq_some_iff.1 ho).1
    have hset' : ∀ vals' w', InvS M wq Y X l d m (setB (fun k => listed.getD k false) i) vals' w' → InvS M wq Y X l d m (fun k => (listed.setIfInBounds i true).getD k false) vals' w' := fun vals' w' h => by
      have e : (fun k => (listed.setIfInBounds i true).getD k false) = setB (fun k => listed.getD k false) i := funext fun k => getD_set (by rw [hz, S.len]; exact hi)
      rw [e]; exact h
    have hE' : ∀ j t c, j < 23 → dstAt ops j = some t → listed.getD j false = true → constS M Y X m j = some c → a.eval (.tmp t) = c := fun j t c hj hd hl hc => (hF.new j t (by rw [S.len]; exact hj) hd hl).trans (I.cs j c hc hl)
    have e0 : a.eval (.tmp 0) = .pointer (some ⟨M, 0, none⟩) := (hF.old 0 (fun j hj => dst_lo S (by rw [← S.len]; exact hj) (by decide))).trans h0
    have e12 : a.eval (.tmp 12) = .int .i64 m := (hF.old 12 (fun j hj => dst_lo S (by rw [← S.len]; exact hj) (by decide))).trans h12
    have hnB := hn
    have hcs' : ∀ v, constS M Y X m i = none → ∀ j c, constS M Y X m j = some c → setB (fun k => listed.getD k false) i j = true → updV vals i v j = c := fun v hc j c hj hb => by
      have e : i ≠ j := fun e => by subst e; rw [hc] at hj; cases hj
      rw [updV_ne _ _ _ (Ne.symm e)]
      rw [setB_ne _ e] at hb
      exact I.cs j c hj hb
    generalize hBB : (fun k => listed.getD k false) = B at *
    have hb : ∀ k, listed.getD k false = B k := fun k => congrFun hBB k
    simp only [hb] at hdep hE' hnB
    have hF' : ∀ j t, j < ops.length → dstAt ops j = some t → B j = true → a.eval (.tmp t) = vals j := fun j t h1 h2 h3 => hF.new j t h1 h2 (by rw [hb]; exact h3)
    clear hn
    obtain rfl | rfl | rfl | rfl | rfl | rfl | rfl | rfl | rfl | rfl | rfl | rfl | rfl | rfl | rfl | rfl | rfl | rfl | rfl | rfl | rfl | rfl | rfl : i = 0 ∨ i = 1 ∨ i = 2 ∨ i = 3 ∨ i = 4 ∨ i = 5 ∨ i = 6 ∨ i = 7 ∨ i = 8 ∨ i = 9 ∨ i = 10 ∨ i = 11 ∨ i = 12 ∨ i = 13 ∨ i = 14 ∨ i = 15 ∨ i = 16 ∨ i = 17 ∨ i = 18 ∨ i = 19 ∨ i = 20 ∨ i = 21 ∨ i = 22 := by omega
    · obtain ⟨hdst, hop, hd⟩ := S.k0.is ho hdep
      exact wp_mvE hop e0 (hK _ _ (hset' _ _ (I.pure (by decide) rfl)))
    · obtain ⟨hdst, hop, hd⟩ := S.k1.is ho hdep
      exact wp_mvE hop e0 (hK _ _ (hset' _ _ (I.pure (by decide) rfl)))
    · obtain ⟨hdst, hop, hd⟩ := S.k2.is ho hdep
      exact wp_mvE hop e0 (hK _ _ (hset' _ _ (I.pure (by decide) rfl)))
    · obtain ⟨hdst, hop, hd⟩ := S.k3.is ho hdep
      exact wp_nilE hop (hE' 2 98 _ (by decide) S.k2.dst (hd 2 (by simp)) rfl) (hK _ _ (hset' _ _ (I.pure (by decide) rfl)))
    · obtain ⟨hdst, hop, hd⟩ := S.k4.is ho hdep
      exact wp_field9 hop (hE' 3 99 _ (by decide) S.k3.dst (hd 3 (by simp)) rfl) (hK _ _ (hset' _ _ (I.pure (by decide) rfl)))
    · obtain ⟨hdst, hop, hd⟩ := S.k5.is ho hdep
      have h19 : B 19 = false := hnoB hnB (fun h => (I.ph h).1)
      exact wp_load1 (.inl hop) (hE' 4 100 _ (by decide) S.k4.dst (hd 4 (by simp)) rfl) (((I.pre h19).cell 9).trans c9) (hK _ _ (hset' _ _ (I.pure (by decide) rfl)))
    · obtain ⟨hdst, hop, hd⟩ := S.k6.is ho hdep
      exact wp_mvE hop e12 (hK _ _ (hset' _ _ (I.pure (by decide) rfl)))
    · obtain ⟨hdst, hop, hd⟩ := S.k7.is ho hdep
      exact wp_bld82 hop (hE' 6 102 _ (by decide) S.k6.dst (hd 6 (by simp)) rfl) (hK _ _ (hset' _ _ (I.pure (by decide) rfl)))
    · obtain ⟨hdst, hop, hd⟩ := S.k8.is ho hdep
      have h19 : B 19 = false := hnoB hnB (fun h => (I.ph h).2.1)
      have h22 : B 22 = false := by
        cases h : B 22 with
        | false => rfl
        | true => rw [I.q h] at h19; cases h19
      have h9 : B 9 = false := by
        cases h : B 9 with
        | false => rfl
        | true => have := I.w9 h; rw [hnB] at this; cases this
      have T := I.pre h19
      refine wp_bs75 hop (hE' 7 103 _ (by decide) S.k7.dst (hd 7 (by simp)) rfl) (hK _ _ (hset' _ _ ?_))
      exact ⟨hcs' _ rfl,
        (fun h => by rw [setB_ne B (by decide), h19] at h; cases h),
        (fun h => by rw [setB_ne B (by decide), h22] at h; cases h),
        (fun h => by rw [setB_ne B (by decide)] at h ⊢; exact I.r h),
        (fun h => by rw [setB_ne B (by decide), h9] at h; cases h),
        (fun h => by rw [setB_ne B (by decide)] at h ⊢; exact I.w16 h),
        (fun h => by rw [setB_ne B (by decide), setB_ne B (by decide), updV_ne _ _ _ (by decide), updV_ne _ _ _ (by decide)]; exact T.alloc _),
        (fun _ _ => ⟨w.heap.size, updV_at _ _ _, T.size, heap_alloc_new _ _⟩),
        (fun h h' => by
          rw [setB_ne B (by decide)] at h h'
          obtain ⟨nb2, m1, m2, m3⟩ := I.n15 h h'
          exact ⟨nb2, (by rw [updV_ne _ _ _ (by decide)]; exact m1), m2, (Below.heap_alloc _ _ _ (Array.getElem?_eq_some_iff.1 m3).1).trans m3⟩),
        (fun h => by rw [setB_ne B (by decide), h19] at h; cases h),
        (fun h => by rw [setB_ne B (by decide), h22] at h; cases h)⟩
    · obtain ⟨hdst, hop, hd⟩ := S.k9.is ho hdep
      have h19 : B 19 = false := hnoB hnB (fun h => (I.ph h).2.2.1)
      have h22 : B 22 = false := by
        cases h : B 22 with
        | false => rfl
        | true => rw [I.q h] at h19; cases h19
      have h16 : B 16 = false := by
        cases h : B 16 with
        | false => rfl
        | true => have := I.r h; rw [hnB] at this; cases this
      have T := I.pre h19
      rw [hnB, h16] at T
      obtain ⟨nb, n1, n2, n3⟩ := I.n8 (hd 8 (by simp)) hnB
      have hg : o.guard = none := (canonB_at hB ho).1
      have hw : Region.wanted o (yielded ops.toArray a.tmps) = true := by simp [Region.wanted, hg]
      have := step_twoL (ops := ops.toArray) (o := o) (a := a) (K := K) (Q := Q) (E := True) (x := ((4 : Int), m)) (b := nb) T hg (.tmp 101) (.tmp 104) hop (hE' 5 101 _ (by decide) S.k5.dst (hd 5 (by simp)) rfl) ((hF' 8 104 (by rw [S.len]; omega) S.k8.dst (hd 8 (by simp))).trans n1) n3 hl (fun a' n q w' T' hk => hK _ _ (hset' _ _
        ⟨hcs' _ rfl,
        (fun h => by rw [setB_ne B (by decide), h19] at h; cases h),
        (fun h => by rw [setB_ne B (by decide), h22] at h; cases h),
        (fun h => by rw [setB_ne B (by decide), h16] at h; cases h),
        (fun _ => by rw [setB_ne B (by decide)]; exact hd 8 (by simp)),
        (fun h => by rw [setB_ne B (by decide), h16] at h; cases h),
        (fun h => by rw [setB_at, setB_ne B (by decide), updV_at, updV_ne _ _ _ (by decide), h16]; exact T'),
        (fun _ h' => by rw [setB_at] at h'; cases h'),
        (fun h h' => by
          rw [setB_ne B (by decide)] at h h'
          obtain ⟨nb2, m1, m2, m3⟩ := I.n15 h h'
          exact ⟨nb2, (by rw [updV_ne _ _ _ (by decide)]; exact m1), m2, (hk nb2 (Array.getElem?_eq_some_iff.1 m3).1 (fun e => by have := hoY _ e; omega)).trans m3⟩),
        (fun h => by rw [setB_ne B (by decide), h19] at h; cases h),
        (fun h => by rw [setB_ne B (by decide), h22] at h; cases h)⟩))
      rw [if_pos hw] at this
      exact this
    · obtain ⟨hdst, hop, hd⟩ := S.k10.is ho hdep
      exact wp_mvE hop e0 (hK _ _ (hset' _ _ (I.pure (by decide) rfl)))
    · obtain ⟨hdst, hop, hd⟩ := S.k11.is ho hdep
      exact wp_nilE hop (hE' 10 106 _ (by decide) S.k10.dst (hd 10 (by simp)) rfl) (hK _ _ (hset' _ _ (I.pure (by decide) rfl)))
    · obtain ⟨hdst, hop, hd⟩ := S.k12.is ho hdep
      exact wp_field8 hop (hE' 11 107 _ (by decide) S.k11.dst (hd 11 (by simp)) rfl) (hK _ _ (hset' _ _ (I.pure (by decide) rfl)))
    · obtain ⟨hdst, hop, hd⟩ := S.k13.is ho hdep
      have h19 : B 19 = false := hnoB hnB (fun h => (I.ph h).2.2.2.1)
      exact wp_load1 (.inr hop) (hE' 12 108 _ (by decide) S.k12.dst (hd 12 (by simp)) rfl) (((I.pre h19).cell 8).trans c8) (hK _ _ (hset' _ _ (I.pure (by decide) rfl)))
    · obtain ⟨hdst, hop, hd⟩ := S.k14.is ho hdep
      exact wp_mvE hop e12 (hK _ _ (hset' _ _ (I.pure (by decide) rfl)))
    · obtain ⟨hdst, hop, hd⟩ := S.k15.is ho hdep
      have h19 : B 19 = false := hnoB hnB (fun h => (I.ph h).2.2.2.2.1)
      have h22 : B 22 = false := by
        cases h : B 22 with
        | false => rfl
        | true => rw [I.q h] at h19; cases h19
      have h16 : B 16 = false := by
        cases h : B 16 with
        | false => rfl
        | true => have := I.w16 h; rw [hnB] at this; cases this
      have T := I.pre h19
      refine wp_bs22 hop (hE' 14 110 _ (by decide) S.k14.dst (hd 14 (by simp)) rfl) (hK _ _ (hset' _ _ ?_))
      exact ⟨hcs' _ rfl,
        (fun h => by rw [setB_ne B (by decide), h19] at h; cases h),
        (fun h => by rw [setB_ne B (by decide), h22] at h; cases h),
        (fun h => by rw [setB_ne B (by decide)] at h ⊢; exact I.r h),
        (fun h => by rw [setB_ne B (by decide)] at h ⊢; exact I.w9 h),
        (fun h => by rw [setB_ne B (by decide), h16] at h; cases h),
        (fun h => by rw [setB_ne B (by decide), setB_ne B (by decide), updV_ne _ _ _ (by decide), updV_ne _ _ _ (by decide)]; exact T.alloc _),
        (fun h h' => by
          rw [setB_ne B (by decide)] at h h'
          obtain ⟨nb2, m1, m2, m3⟩ := I.n8 h h'
          exact ⟨nb2, (by rw [updV_ne _ _ _ (by decide)]; exact m1), m2, (Below.heap_alloc _ _ _ (Array.getElem?_eq_some_iff.1 m3).1).trans m3⟩),
        (fun _ _ => ⟨w.heap.size, updV_at _ _ _, T.size, heap_alloc_new _ _⟩),
        (fun h => by rw [setB_ne B (by decide), h19] at h; cases h),
        (fun h => by rw [setB_ne B (by decide), h22] at h; cases h)⟩
    · obtain ⟨hdst, hop, hd⟩ := S.k16.is ho hdep
      have h19 : B 19 = false := hnoB hnB (fun h => (I.ph h).2.2.2.2.2)
      have h22 : B 22 = false := by
        cases h : B 22 with
        | false => rfl
        | true => rw [I.q h] at h19; cases h19
      have h9 : B 9 = true := hd 9 (by simp)
      have T := I.pre h19
      rw [h9, hnB] at T
      obtain ⟨nb, n1, n2, n3⟩ := I.n15 (hd 15 (by simp)) hnB
      have hg : o.guard = none := (canonB_at hB ho).1
      have hw : Region.wanted o (yielded ops.toArray a.tmps) = true := by simp [Region.wanted, hg]
      have := step_twoD (ops := ops.toArray) (o := o) (a := a) (K := K) (Q := Q) (E := True) (x := m) (b := nb) T hg (.tmp 109) (.tmp 111) hop (hE' 13 109 _ (by decide) S.k13.dst (hd 13 (by simp)) rfl) ((hF' 15 111 (by rw [S.len]; omega) S.k15.dst (hd 15 (by simp))).trans n1) n3 hdl (fun a' n q w' T' hk => hK _ _ (hset' _ _
        ⟨hcs' _ rfl,
        (fun h => by rw [setB_ne B (by decide), h19] at h; cases h),
        (fun h => by rw [setB_ne B (by decide), h22] at h; cases h),
        (fun _ => by rw [setB_ne B (by decide)]; exact h9),
        (fun h => by rw [setB_ne B (by decide)] at h ⊢; exact I.w9 h),
        (fun _ => by rw [setB_ne B (by decide)]; exact hd 15 (by simp)),
        (fun h => by rw [setB_at, setB_ne B (by decide), updV_at, updV_ne _ _ _ (by decide), h9]; exact T'),
        (fun _ h' => by rw [setB_ne B (by decide), h9] at h'; cases h'),
        (fun _ h' => by rw [setB_at] at h'; cases h'),
        (fun h => by rw [setB_ne B (by decide), h19] at h; cases h),
        (fun h => by rw [setB_ne B (by decide), h22] at h; cases h)⟩))
      rw [if_pos hw] at this
      exact this
    · obtain ⟨hdst, hop, hd⟩ := S.k17.is ho hdep
      exact wp_nilE hop (hE' 0 96 _ (by decide) S.k0.dst (hd 0 (by simp)) rfl) (hK _ _ (hset' _ _ (I.pure (by decide) rfl)))
    · obtain ⟨hdst, hop, hd⟩ := S.k18.is ho hdep
      exact wp_field9 hop (hE' 17 113 _ (by decide) S.k17.dst (hd 17 (by simp)) rfl) (hK _ _ (hset' _ _ (I.pure (by decide) rfl)))
    · obtain ⟨hdst, hop, hd⟩ := S.k19.is ho hdep
      have h22 : B 22 = false := by
        cases h : B 22 with
        | false => rfl
        | true => have := I.q h; rw [hnB] at this; cases this
      have h9 : B 9 = true := hd 9 (by simp)
      have h16 : B 16 = true := hd 16 (by simp)
      have T := I.pre hnB
      rw [h9, h16] at T
      obtain ⟨a', n, q, ev⟩ := ownsRow_slice (Classical.choose_spec T.ol).1
      have ev : vals 9 = .slice a' n q := ev
      have hcell := (T.cell 9).trans c9
      have hfr := (T.fr 9).trans f9
      refine wp_store1 (.inl hop) (hE' 18 114 _ (by decide) S.k18.dst (hd 18 (by simp)) rfl) ((hF' 9 105 (by rw [S.len]; omega) S.k9.dst (hd 9 (by simp))).trans ev) hcell hfr (hK _ _ (hset' _ _ ?_))
      exact ⟨hcs' _ rfl,
        (fun _ => by rw [setB_ne B (by decide), setB_ne B (by decide), setB_ne B (by decide), setB_ne B (by decide), setB_ne B (by decide), setB_ne B (by decide)]; exact ⟨hd 5 (by simp), hd 8 (by simp), h9, hd 13 (by simp), I.w16 h16, h16⟩),
        (fun _ => setB_at _ _),
        (fun h => by rw [setB_ne B (by decide)] at h ⊢; exact I.r h),
        (fun h => by rw [setB_ne B (by decide)] at h ⊢; exact I.w9 h),
        (fun h => by rw [setB_ne B (by decide)] at h ⊢; exact I.w16 h),
        (fun h => by rw [setB_at] at h; cases h),
        (fun _ h' => by rw [setB_ne B (by decide), h9] at h'; cases h'),
        (fun _ h' => by rw [setB_ne B (by decide), h16] at h'; cases h'),
        (fun _ _ => ⟨w, (by rw [updV_ne _ _ _ (by decide), updV_ne _ _ _ (by decide)]; exact T), (by rw [updV_ne _ _ _ (by decide), ev])⟩),
        (fun h => by rw [setB_ne B (by decide), h22] at h; cases h)⟩
    · obtain ⟨hdst, hop, hd⟩ := S.k20.is ho hdep
      exact wp_nilE hop (hE' 1 97 _ (by decide) S.k1.dst (hd 1 (by simp)) rfl) (hK _ _ (hset' _ _ (I.pure (by decide) rfl)))
    · obtain ⟨hdst, hop, hd⟩ := S.k21.is ho hdep
      exact wp_field8 hop (hE' 20 115 _ (by decide) S.k20.dst (hd 20 (by simp)) rfl) (hK _ _ (hset' _ _ (I.pure (by decide) rfl)))
    · obtain ⟨hdst, hop, hd⟩ := S.k22.is ho hdep
      have h19 : B 19 = true := hd 19 (by simp)
      have h9 := (I.ph h19).2.2.1
      have h16 := (I.ph h19).2.2.2.2.2
      obtain ⟨W, T, rfl⟩ := I.s1 h19 hnB
      obtain ⟨a', n, q, ev⟩ := ownsRow_slice (show W.ownsRow (M + 1) 3 1 (vals 16) _ _ from T.od)
      have hcell : (W.setCell ⟨M, 9, none⟩ (vals 9)).cell? ⟨M, 8, none⟩ = some X := (set_off W (by decide) _).trans ((T.cell 8).trans c8)
      have hfr : (W.setCell ⟨M, 9, none⟩ (vals 9)).frozen? ⟨M, 8, none⟩ = false := by rw [World.frozen?_setCell]; exact (T.fr 8).trans f8
      refine wp_store1 (.inr hop) (hE' 21 116 _ (by decide) S.k21.dst (hd 21 (by simp)) rfl) ((hF' 16 112 (by rw [S.len]; omega) S.k16.dst (hd 16 (by simp))).trans ev) hcell hfr (hK _ _ (hset' _ _ ?_))
      exact ⟨hcs' _ rfl,
        (fun h => by rw [setB_ne B (by decide), setB_ne B (by decide), setB_ne B (by decide), setB_ne B (by decide), setB_ne B (by decide), setB_ne B (by decide)]; exact I.ph h19),
        (fun _ => by rw [setB_ne B (by decide)]; exact h19),
        (fun h => by rw [setB_ne B (by decide)] at h ⊢; exact I.r h),
        (fun h => by rw [setB_ne B (by decide)] at h ⊢; exact I.w9 h),
        (fun h => by rw [setB_ne B (by decide)] at h ⊢; exact I.w16 h),
        (fun h => by rw [setB_ne B (by decide), h19] at h; cases h),
        (fun _ h' => by rw [setB_ne B (by decide), h9] at h'; cases h'),
        (fun _ h' => by rw [setB_ne B (by decide), h16] at h'; cases h'),
        (fun _ h => by rw [setB_at] at h; cases h),
        (fun _ => ⟨W, (by rw [updV_ne _ _ _ (by decide), updV_ne _ _ _ (by decide)]; exact T), (by rw [updV_ne _ _ _ (by decide), updV_ne _ _ _ (by decide), ev])⟩)⟩
  · intro listed vals w hall I
    have h := fun k (hk : k < 23) => hall k (by rw [S.len]; exact hk)
    obtain ⟨W, T, rfl⟩ := I.s2 (h 22 (by decide))
    have := hQ (vals 8) (vals 9) (vals 15) (vals 16) W T
    rw [S.len]
    rw [puts_congr (vals' := finS M Y X m (vals 8) (vals 9) (vals 15) (vals 16)) 23 (fun i hi => ?_)]
    · exact this
    · by_cases c1 : i = 19
      · subst c1; exact .inl S.k19.dst
      by_cases c2 : i = 22
      · subst c2; exact .inl S.k22.dst
      right
      by_cases c3 : i = 8
      · subst c3; rfl
      by_cases c4 : i = 9
      · subst c4; rfl
      by_cases c5 : i = 15
      · subst c5; rfl
      by_cases c6 : i = 16
      · subst c6; rfl
      unfold finS
      rw [if_neg c3, if_neg c4, if_neg c5, if_neg c6]
      obtain ⟨c, hc⟩ : ∃ c, constS M Y X m i = some c := by
        obtain rfl | rfl | rfl | rfl | rfl | rfl | rfl | rfl | rfl | rfl | rfl | rfl | rfl | rfl | rfl | rfl | rfl : i = 0 ∨ i = 1 ∨ i = 2 ∨ i = 3 ∨ i = 4 ∨ i = 5 ∨ i = 6 ∨ i = 7 ∨ i = 10 ∨ i = 11 ∨ i = 12 ∨ i = 13 ∨ i = 14 ∨ i = 17 ∨ i = 18 ∨ i = 20 ∨ i = 21 := by omega
        all_goals exact ⟨_, rfl⟩
      rw [hc, I.cs i c hc (h i hi)]; rfl
end
end Go.Proofs.Ytgmagldbfajedaa
