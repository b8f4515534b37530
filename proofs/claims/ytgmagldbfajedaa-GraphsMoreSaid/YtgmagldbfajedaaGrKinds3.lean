/-
  graphs.kinds: contract kinds_any: the map that it answers holds the table of kinds.
-/
import Derived.Test.YtgmagldbfajedaaGrKinds2
namespace Go.Proofs.Ytgmagldbfajedaa
open Go.RowKit

theorem build_run1 (w : World) : (Instr.build 100 #[(5, .int .i64 1)]).run Try.prog w = .ok (kindV ⟨0, 0, 0, 0, 0, 1⟩) w := by
  kernel_rfl
theorem build_run2 (w : World) : (Instr.build 100 #[(0, .int .i64 1), (1, .int .i64 1), (5, .int .i64 1)]).run Try.prog w = .ok (kindV ⟨1, 1, 0, 0, 0, 1⟩) w := by
  kernel_rfl
theorem build_run3 (w : World) : (Instr.build 100 #[(0, .int .i64 1), (1, .int .i64 1), (5, .int .i64 2)]).run Try.prog w = .ok (kindV ⟨1, 1, 0, 0, 0, 2⟩) w := by
  kernel_rfl

/-- A kind lies in a block. -/
structure KindAt (w : World) (p : Nat) (k : Gr.Kind) : Prop where
  lt : p < w.heap.size
  c0 : w.cell? ⟨p, 0, none⟩ = some (.int .i64 k.least)
  c1 : w.cell? ⟨p, 1, none⟩ = some (.int .i64 k.most)
  c2 : w.cell? ⟨p, 2, none⟩ = some (.int .i64 k.low)
  c3 : w.cell? ⟨p, 3, none⟩ = some (.int .i64 k.high)
  c4 : w.cell? ⟨p, 4, none⟩ = some (.int .i64 k.around)
  c5 : w.cell? ⟨p, 5, none⟩ = some (.int .i64 k.shaped)

theorem KindAt.below {w w' : World} {p : Nat} {k : Gr.Kind} (h : KindAt w p k) (hb : Below w.heap.size w w') : KindAt w' p k :=
  ⟨Nat.lt_of_lt_of_le h.lt hb.size, (hb.cell (p := ⟨p, 0, none⟩) h.lt).trans h.c0, (hb.cell (p := ⟨p, 1, none⟩) h.lt).trans h.c1, (hb.cell (p := ⟨p, 2, none⟩) h.lt).trans h.c2,
    (hb.cell (p := ⟨p, 3, none⟩) h.lt).trans h.c3, (hb.cell (p := ⟨p, 4, none⟩) h.lt).trans h.c4, (hb.cell (p := ⟨p, 5, none⟩) h.lt).trans h.c5⟩

theorem KindAt.load {w : World} {p : Nat} {k : Gr.Kind} (h : KindAt w p k) : (Instr.loadAt 100 (.pointer (some ⟨p, 0, none⟩))).run Try.prog w = .ok (kindV k) w := by
  obtain ⟨_, h0, h1, h2, h3, h4, h5⟩ := h
  unfold kindV
  go_simp

theorem wpOp_of {P : Program} {ops : Array Oper} {Q : Exit → Act → World → Prop} {i : Nat} {o : Oper} {K : Act → World → Prop} {a : Act} {w : World} (ho : ops[i]? = some o) (hg : o.guard = none) (h : o.wp P a w K Q) : wpOp P ops Q i K a w := by
  unfold wpOp
  rw [ho]
  simp only [Region.wanted, hg, if_true]
  exact .inl h

theorem wp_value {P : Program} {o : Oper} {a : Act} {w : World} {K : Act → World → Prop} {Q : Exit → Act → World → Prop} {v : Value} (h : (execOp a.eval o).run P w = .ok (.value v) w) (hK : K (a.put o.dst v) w) : o.wp P a w K Q := by
  unfold Oper.wp; rw [h]; exact hK

theorem eval_tmp (a : Act) (d : Nat) : a.eval (.tmp d) = a.tmps.getD d undef := rfl

theorem wp_move {P : Program} {o : Oper} {a : Act} {w : World} {K : Act → World → Prop} {Q : Exit → Act → World → Prop} {s : Nat} {v : Value} (ho : o.op = .move (.tmp s) ∨ o.op = .assign (.tmp s)) (hv : a.tmps.getD s undef = v) (hK : K (a.put o.dst v) w) : o.wp P a w K Q := by
  refine wp_value (v := v) ?_ hK
  unfold execOp
  rcases ho with ho | ho <;> (rw [ho]; simp [eval_tmp, hv])

theorem wp_load {o : Oper} {a : Act} {w : World} {K : Act → World → Prop} {Q : Exit → Act → World → Prop} {s p : Nat} {k : Gr.Kind} (ho : o.op = .load 100 (.tmp s)) (hp : a.tmps.getD s undef = .pointer (some ⟨p, 0, none⟩)) (hk : KindAt w p k) (hK : K (a.put o.dst (kindV k)) w) : o.wp Try.prog a w K Q := by
  refine wp_value (v := kindV k) ?_ hK
  have := hk.load
  unfold execOp
  rw [ho]
  simp [eval_tmp, hp, this, Result.andThen]

theorem wp_build {o : Oper} {a : Act} {w : World} {K : Act → World → Prop} {Q : Exit → Act → World → Prop} {parts : Array (Nat × Operand)} {v : Value} (ho : o.op = .build 100 parts) (hr : (Instr.build 100 (parts.map fun (i, x) => (i, a.eval x))).run Try.prog w = .ok v w) (hK : K (a.put o.dst v) w) : o.wp Try.prog a w K Q := by
  refine wp_value (v := v) ?_ hK
  unfold execOp
  rw [ho]
  simp only [Sem.run_bind, hr, Result.andThen]
  rfl

theorem wp_make {o : Oper} {a : Act} {w : World} {K : Act → World → Prop} {Q : Exit → Act → World → Prop} (ho : o.op = .makeMap 95 none) (hK : K (a.put o.dst (.map (some w.heap.size))) (w.alloc (.map #[] 0))) : o.wp Try.prog a w K Q := by
  have hm := @run_makeMap Try.prog 95 w
  unfold Oper.wp execOp
  rw [ho]
  simp only [Option.map_none, Sem.run_bind, hm, Result.andThen]
  exact hK

theorem wp_insert {o : Oper} {a : Act} {w : World} {K : Act → World → Prop} {Q : Exit → Act → World → Prop} {s : Nat} {k : Int} {kd : Gr.Kind} {r clock : Nat} {es : Array MapEntry} (ho : o.op = .insert 95 (.tmp 16) (.const (.int .u8 k)) (.tmp s)) (hd : o.dst = none)
    (h16 : a.tmps.getD 16 undef = .map (some r)) (hv : a.tmps.getD s undef = kindV kd) (hb : w.heap[r]? = some (.map es clock)) (hks : ∀ e ∈ es.toList, ∃ j, e.key = .int .u8 j ∧ j ≠ k)
    (hK : K a { w with heap := w.heap.setIfInBounds r (.map (es.push { key := .int .u8 k, val := kindV kd, born := clock }) (clock + 1)) }) : o.wp Try.prog a w K Q := by
  have hm := insert_run (v := kindV kd) hb hks
  have hc : a.eval (.const (.int .u8 k)) = .int .u8 k := rfl
  unfold Oper.wp execOp
  rw [ho]
  simp only [eval_tmp, h16, hv, hc, Sem.run_bind, hm, Result.andThen]
  show K (a.put o.dst undef) _
  rw [hd]
  exact hK

theorem wp_callK {o : Oper} {a : Act} {w : World} {K : Act → World → Prop} {Q : Exit → Act → World → Prop} {f s : Nat} {x y : Int} {least most low high around shaped : Int} (ho : o.op = .call { callee := .value (.tmp f), args := #[.tmp s, .const (.int .i64 x), .const (.int .i64 y)], argTypes := #[100, 3, 3] })
    (hf : a.tmps.getD f undef = .func (.func 106) #[] #[]) (hs : a.tmps.getD s undef = kindV ⟨least, most, low, high, around, shaped⟩) (hK : ∀ w', Below w.heap.size w w' → K (a.put o.dst (kindV ⟨least, most, x, y, around, shaped⟩)) w') : o.wp Try.prog a w K Q := by
  have hm : (execOp a.eval o).run Try.prog w = .ok (.enter 106 #[kindV ⟨least, most, low, high, around, shaped⟩, .int .i64 x, .int .i64 y]) w := by
    unfold execOp
    rw [ho]
    simp [hf, hs, eval_tmp, go_sem]
  unfold Oper.wp
  rw [hm, Oper.upon_enter]
  refine (kinds1_any least most low high around shaped x y w).mono ?_
  rintro e w' ⟨rfl, hb⟩
  exact hK w' hb

/-- The region's operations. -/
def opsK : Array Oper := #[{ dst := some 16, op := Op.makeMap 95 none, type := 95, pos := "graphs.go:33", after := #[], guard := none }, { dst := some 17, op := Op.build 100 #[(5, Operand.const (Value.int IntKind.i64 1))], type := 100, pos := "graphs.go:33", after := #[], guard := none }, { dst := none, op := Op.insert 95 (Operand.tmp 16) (Operand.const (Value.int IntKind.u8 1)) (Operand.tmp 17), type := 0, pos := "graphs.go:33", after := #[{ on := 0, ground := Ground.data }, { on := 1, ground := Ground.data }], guard := none }, { dst := some 18, op := Op.build 100 #[(5, Operand.const (Value.int IntKind.i64 1))], type := 100, pos := "graphs.go:33", after := #[], guard := none }, { dst := none, op := Op.insert 95 (Operand.tmp 16) (Operand.const (Value.int IntKind.u8 2)) (Operand.tmp 18), type := 0, pos := "graphs.go:33", after := #[{ on := 0, ground := Ground.data }, { on := 3, ground := Ground.data }], guard := none }, { dst := some 19, op := Op.load 100 (Operand.tmp 2), type := 100, pos := "graphs.go:33", after := #[], guard := none }, { dst := none, op := Op.insert 95 (Operand.tmp 16) (Operand.const (Value.int IntKind.u8 3)) (Operand.tmp 19), type := 0, pos := "graphs.go:33", after := #[{ on := 0, ground := Ground.data }, { on := 5, ground := Ground.data }], guard := none }, { dst := some 20, op := Op.load 100 (Operand.tmp 2), type := 100, pos := "graphs.go:33", after := #[], guard := none }, { dst := none, op := Op.insert 95 (Operand.tmp 16) (Operand.const (Value.int IntKind.u8 4)) (Operand.tmp 20), type := 0, pos := "graphs.go:33", after := #[{ on := 0, ground := Ground.data }, { on := 7, ground := Ground.data }], guard := none }, { dst := some 21, op := Op.load 100 (Operand.tmp 2), type := 100, pos := "graphs.go:33", after := #[], guard := none }, { dst := none, op := Op.insert 95 (Operand.tmp 16) (Operand.const (Value.int IntKind.u8 7)) (Operand.tmp 21), type := 0, pos := "graphs.go:33", after := #[{ on := 0, ground := Ground.data }, { on := 9, ground := Ground.data }], guard := none }, { dst := some 22, op := Op.load 100 (Operand.tmp 1), type := 100, pos := "graphs.go:33", after := #[], guard := none }, { dst := none, op := Op.insert 95 (Operand.tmp 16) (Operand.const (Value.int IntKind.u8 5)) (Operand.tmp 22), type := 0, pos := "graphs.go:33", after := #[{ on := 0, ground := Ground.data }, { on := 11, ground := Ground.data }], guard := none }, { dst := some 23, op := Op.move (Operand.tmp 3), type := 136, pos := "graphs.go:33", after := #[], guard := none }, { dst := some 24, op := Op.load 100 (Operand.tmp 1), type := 100, pos := "graphs.go:33", after := #[], guard := none }, { dst := some 25, op := Op.call { callee := Callee.value (Operand.tmp 23), args := #[Operand.tmp 24, Operand.const (Value.int IntKind.i64 0), Operand.const (Value.int IntKind.i64 31)], argTypes := #[100, 3, 3] }, type := 100, pos := "graphs.go:33", after := #[{ on := 13, ground := Ground.data }, { on := 14, ground := Ground.data }], guard := none }, { dst := none, op := Op.insert 95 (Operand.tmp 16) (Operand.const (Value.int IntKind.u8 6)) (Operand.tmp 25), type := 0, pos := "graphs.go:33", after := #[{ on := 0, ground := Ground.data }, { on := 15, ground := Ground.data }], guard := none }, { dst := some 26, op := Op.load 100 (Operand.tmp 4), type := 100, pos := "graphs.go:33", after := #[], guard := none }, { dst := none, op := Op.insert 95 (Operand.tmp 16) (Operand.const (Value.int IntKind.u8 8)) (Operand.tmp 26), type := 0, pos := "graphs.go:33", after := #[{ on := 0, ground := Ground.data }, { on := 17, ground := Ground.data }], guard := none }, { dst := some 27, op := Op.move (Operand.tmp 3), type := 136, pos := "graphs.go:33", after := #[], guard := none }, { dst := some 28, op := Op.load 100 (Operand.tmp 1), type := 100, pos := "graphs.go:33", after := #[], guard := none }, { dst := some 29, op := Op.call { callee := Callee.value (Operand.tmp 27), args := #[Operand.tmp 28, Operand.const (Value.int IntKind.i64 1), Operand.const (Value.int IntKind.i64 64)], argTypes := #[100, 3, 3] }, type := 100, pos := "graphs.go:33", after := #[{ on := 19, ground := Ground.data }, { on := 20, ground := Ground.data }, { on := 15, ground := Ground.chain }], guard := none }, { dst := none, op := Op.insert 95 (Operand.tmp 16) (Operand.const (Value.int IntKind.u8 9)) (Operand.tmp 29), type := 0, pos := "graphs.go:33", after := #[{ on := 0, ground := Ground.data }, { on := 21, ground := Ground.data }], guard := none }, { dst := some 30, op := Op.build 100 #[(0, Operand.const (Value.int IntKind.i64 1)), (1, Operand.const (Value.int IntKind.i64 1)), (5, Operand.const (Value.int IntKind.i64 1))], type := 100, pos := "graphs.go:33", after := #[], guard := none }, { dst := none, op := Op.insert 95 (Operand.tmp 16) (Operand.const (Value.int IntKind.u8 10)) (Operand.tmp 30), type := 0, pos := "graphs.go:33", after := #[{ on := 0, ground := Ground.data }, { on := 23, ground := Ground.data }], guard := none }, { dst := some 31, op := Op.build 100 #[(0, Operand.const (Value.int IntKind.i64 1)), (1, Operand.const (Value.int IntKind.i64 1)), (5, Operand.const (Value.int IntKind.i64 2))], type := 100, pos := "graphs.go:33", after := #[], guard := none }, { dst := none, op := Op.insert 95 (Operand.tmp 16) (Operand.const (Value.int IntKind.u8 11)) (Operand.tmp 31), type := 0, pos := "graphs.go:33", after := #[{ on := 0, ground := Ground.data }, { on := 25, ground := Ground.data }], guard := none }, { dst := some 32, op := Op.load 100 (Operand.tmp 5), type := 100, pos := "graphs.go:33", after := #[], guard := none }, { dst := none, op := Op.insert 95 (Operand.tmp 16) (Operand.const (Value.int IntKind.u8 12)) (Operand.tmp 32), type := 0, pos := "graphs.go:33", after := #[{ on := 0, ground := Ground.data }, { on := 27, ground := Ground.data }], guard := none }, { dst := some 33, op := Op.move (Operand.tmp 3), type := 136, pos := "graphs.go:33", after := #[], guard := none }, { dst := some 34, op := Op.load 100 (Operand.tmp 1), type := 100, pos := "graphs.go:33", after := #[], guard := none }, { dst := some 35, op := Op.call { callee := Callee.value (Operand.tmp 33), args := #[Operand.tmp 34, Operand.const (Value.int IntKind.i64 0), Operand.const (Value.int IntKind.i64 3)], argTypes := #[100, 3, 3] }, type := 100, pos := "graphs.go:33", after := #[{ on := 29, ground := Ground.data }, { on := 30, ground := Ground.data }, { on := 21, ground := Ground.chain }], guard := none }, { dst := none, op := Op.insert 95 (Operand.tmp 16) (Operand.const (Value.int IntKind.u8 13)) (Operand.tmp 35), type := 0, pos := "graphs.go:33", after := #[{ on := 0, ground := Ground.data }, { on := 31, ground := Ground.data }], guard := none }, { dst := some 36, op := Op.move (Operand.tmp 16), type := 95, pos := "graphs.go:33", after := #[{ on := 0, ground := Ground.data }, { on := 1, ground := Ground.data }, { on := 2, ground := Ground.data }, { on := 3, ground := Ground.data }, { on := 4, ground := Ground.data }, { on := 5, ground := Ground.data }, { on := 6, ground := Ground.data }, { on := 7, ground := Ground.data }, { on := 8, ground := Ground.data }, { on := 9, ground := Ground.data }, { on := 10, ground := Ground.data }, { on := 11, ground := Ground.data }, { on := 12, ground := Ground.data }, { on := 13, ground := Ground.data }, { on := 14, ground := Ground.data }, { on := 15, ground := Ground.data }, { on := 16, ground := Ground.data }, { on := 17, ground := Ground.data }, { on := 18, ground := Ground.data }, { on := 19, ground := Ground.data }, { on := 20, ground := Ground.data }, { on := 21, ground := Ground.data }, { on := 22, ground := Ground.data }, { on := 23, ground := Ground.data }, { on := 24, ground := Ground.data }, { on := 25, ground := Ground.data }, { on := 26, ground := Ground.data }, { on := 27, ground := Ground.data }, { on := 28, ground := Ground.data }, { on := 29, ground := Ground.data }, { on := 30, ground := Ground.data }, { on := 31, ground := Ground.data }, { on := 32, ground := Ground.data }], guard := none }, { dst := some 0, op := Op.assign (Operand.tmp 36), type := 95, pos := "graphs.go:33", after := #[{ on := 33, ground := Ground.data }, { on := 31, ground := Ground.chain }, { on := 0, ground := Ground.phase }, { on := 1, ground := Ground.phase }, { on := 2, ground := Ground.phase }, { on := 3, ground := Ground.phase }, { on := 4, ground := Ground.phase }, { on := 5, ground := Ground.phase }, { on := 6, ground := Ground.phase }, { on := 7, ground := Ground.phase }, { on := 8, ground := Ground.phase }, { on := 9, ground := Ground.phase }, { on := 10, ground := Ground.phase }, { on := 11, ground := Ground.phase }, { on := 12, ground := Ground.phase }, { on := 13, ground := Ground.phase }, { on := 14, ground := Ground.phase }, { on := 15, ground := Ground.phase }, { on := 16, ground := Ground.phase }, { on := 17, ground := Ground.phase }, { on := 18, ground := Ground.phase }, { on := 19, ground := Ground.phase }, { on := 20, ground := Ground.phase }, { on := 21, ground := Ground.phase }, { on := 22, ground := Ground.phase }, { on := 23, ground := Ground.phase }, { on := 24, ground := Ground.phase }, { on := 25, ground := Ground.phase }, { on := 26, ground := Ground.phase }, { on := 27, ground := Ground.phase }, { on := 28, ground := Ground.phase }, { on := 29, ground := Ground.phase }, { on := 30, ground := Ground.phase }, { on := 31, ground := Ground.phase }, { on := 32, ground := Ground.phase }, { on := 33, ground := Ground.phase }], guard := none }]

set_option maxRecDepth 100000 in
set_option maxHeartbeats 2000000 in
theorem stepK {w0 : World} {p1 p2 p4 p5 : Nat} (h1 : KindAt w0 p1 ⟨1, 1, 0, 0, 0, 0⟩) (h2 : KindAt w0 p2 ⟨2, 2, 0, 0, 0, 0⟩) (h4 : KindAt w0 p4 ⟨2, 2, 1, 8, 8, 0⟩) (h5 : KindAt w0 p5 ⟨1, 4, 0, 3, 0, 0⟩)
    {Q : Exit → Act → World → Prop} (listed : Array Bool) (a : Act) (w : World) (hz : listed.size = 35) (I : InvK w0 p1 p2 p4 p5 listed a w) (i : Nat) (hi : i ∈ Region.ready .any opsK listed) :
    wpOp Try.prog opsK Q i (InvK w0 p1 p2 p4 p5 (listed.setIfInBounds i true)) a w := by
  obtain ⟨hlt, hnot, hdep⟩ := mem_ready2 hi
  have hlt' : i < 35 := hlt
  have hnot' : listed.getD i false = false := by
    have hil : i < listed.size := by omega
    simp only [Array.getD_eq_getD_getElem?, Array.getElem?_eq_getElem hil, Option.getD_some] at hnot ⊢
    exact hnot
  clear hi hlt hnot
  have hcases : i = 0 ∨ i = 1 ∨ i = 2 ∨ i = 3 ∨ i = 4 ∨ i = 5 ∨ i = 6 ∨ i = 7 ∨ i = 8 ∨ i = 9 ∨ i = 10 ∨ i = 11 ∨ i = 12 ∨ i = 13 ∨ i = 14 ∨ i = 15 ∨ i = 16 ∨ i = 17 ∨ i = 18 ∨ i = 19 ∨ i = 20 ∨ i = 21 ∨ i = 22 ∨ i = 23 ∨ i = 24 ∨ i = 25 ∨ i = 26 ∨ i = 27 ∨ i = 28 ∨ i = 29 ∨ i = 30 ∨ i = 31 ∨ i = 32 ∨ i = 33 ∨ i = 34 := by omega
  rcases hcases with rfl | rfl | rfl | rfl | rfl | rfl | rfl | rfl | rfl | rfl | rfl | rfl | rfl | rfl | rfl | rfl | rfl | rfl | rfl | rfl | rfl | rfl | rfl | rfl | rfl | rfl | rfl | rfl | rfl | rfl | rfl | rfl | rfl | rfl | rfl
  · refine wpOp_of rfl rfl (wp_make rfl ?_)
    exact I.make hz hnot'
  · refine wpOp_of rfl rfl (wp_build rfl (by simp only [List.map_toArray, List.map_cons, List.map_nil]; exact build_run1 w) ?_)
    exact I.yield hz (1, 17) (by decide) (Below.refl _ _)
  · have hd := hdep _ rfl
    have d0 : listed.getD 0 false = true := hd ⟨0, .data⟩ (Array.mem_of_getElem? (i := 0) rfl) rfl
    have d1 : listed.getD 1 false = true := hd ⟨1, .data⟩ (Array.mem_of_getElem? (i := 1) rfl) rfl
    obtain ⟨r, es, clock, g1, g2, g3, g4⟩ := I.insert hz 2 1 _ (by simp only [insL, List.mem_cons, Prod.mk.injEq, true_and, and_true]; simp; rfl) d0 hnot'
    exact wpOp_of rfl rfl (wp_insert rfl rfl g1 (I.vals (1, 17) (by decide) d1) g2 g3 g4)
  · refine wpOp_of rfl rfl (wp_build rfl (by simp only [List.map_toArray, List.map_cons, List.map_nil]; exact build_run1 w) ?_)
    exact I.yield hz (3, 18) (by decide) (Below.refl _ _)
  · have hd := hdep _ rfl
    have d0 : listed.getD 0 false = true := hd ⟨0, .data⟩ (Array.mem_of_getElem? (i := 0) rfl) rfl
    have d1 : listed.getD 3 false = true := hd ⟨3, .data⟩ (Array.mem_of_getElem? (i := 1) rfl) rfl
    obtain ⟨r, es, clock, g1, g2, g3, g4⟩ := I.insert hz 4 2 _ (by simp only [insL, List.mem_cons, Prod.mk.injEq, true_and, and_true]; simp; rfl) d0 hnot'
    exact wpOp_of rfl rfl (wp_insert rfl rfl g1 (I.vals (3, 18) (by decide) d1) g2 g3 g4)
  · refine wpOp_of rfl rfl (wp_load rfl I.t2 (h2.below I.bel) ?_)
    exact I.yield hz (5, 19) (by decide) (Below.refl _ _)
  · have hd := hdep _ rfl
    have d0 : listed.getD 0 false = true := hd ⟨0, .data⟩ (Array.mem_of_getElem? (i := 0) rfl) rfl
    have d1 : listed.getD 5 false = true := hd ⟨5, .data⟩ (Array.mem_of_getElem? (i := 1) rfl) rfl
    obtain ⟨r, es, clock, g1, g2, g3, g4⟩ := I.insert hz 6 3 _ (by simp only [insL, List.mem_cons, Prod.mk.injEq, true_and, and_true]; simp; rfl) d0 hnot'
    exact wpOp_of rfl rfl (wp_insert rfl rfl g1 (I.vals (5, 19) (by decide) d1) g2 g3 g4)
  · refine wpOp_of rfl rfl (wp_load rfl I.t2 (h2.below I.bel) ?_)
    exact I.yield hz (7, 20) (by decide) (Below.refl _ _)
  · have hd := hdep _ rfl
    have d0 : listed.getD 0 false = true := hd ⟨0, .data⟩ (Array.mem_of_getElem? (i := 0) rfl) rfl
    have d1 : listed.getD 7 false = true := hd ⟨7, .data⟩ (Array.mem_of_getElem? (i := 1) rfl) rfl
    obtain ⟨r, es, clock, g1, g2, g3, g4⟩ := I.insert hz 8 4 _ (by simp only [insL, List.mem_cons, Prod.mk.injEq, true_and, and_true]; simp; rfl) d0 hnot'
    exact wpOp_of rfl rfl (wp_insert rfl rfl g1 (I.vals (7, 20) (by decide) d1) g2 g3 g4)
  · refine wpOp_of rfl rfl (wp_load rfl I.t2 (h2.below I.bel) ?_)
    exact I.yield hz (9, 21) (by decide) (Below.refl _ _)
  · have hd := hdep _ rfl
    have d0 : listed.getD 0 false = true := hd ⟨0, .data⟩ (Array.mem_of_getElem? (i := 0) rfl) rfl
    have d1 : listed.getD 9 false = true := hd ⟨9, .data⟩ (Array.mem_of_getElem? (i := 1) rfl) rfl
    obtain ⟨r, es, clock, g1, g2, g3, g4⟩ := I.insert hz 10 7 _ (by simp only [insL, List.mem_cons, Prod.mk.injEq, true_and, and_true]; simp; rfl) d0 hnot'
    exact wpOp_of rfl rfl (wp_insert rfl rfl g1 (I.vals (9, 21) (by decide) d1) g2 g3 g4)
  · refine wpOp_of rfl rfl (wp_load rfl I.t1 (h1.below I.bel) ?_)
    exact I.yield hz (11, 22) (by decide) (Below.refl _ _)
  · have hd := hdep _ rfl
    have d0 : listed.getD 0 false = true := hd ⟨0, .data⟩ (Array.mem_of_getElem? (i := 0) rfl) rfl
    have d1 : listed.getD 11 false = true := hd ⟨11, .data⟩ (Array.mem_of_getElem? (i := 1) rfl) rfl
    obtain ⟨r, es, clock, g1, g2, g3, g4⟩ := I.insert hz 12 5 _ (by simp only [insL, List.mem_cons, Prod.mk.injEq, true_and, and_true]; simp; rfl) d0 hnot'
    exact wpOp_of rfl rfl (wp_insert rfl rfl g1 (I.vals (11, 22) (by decide) d1) g2 g3 g4)
  · refine wpOp_of rfl rfl (wp_move (.inl rfl) I.t3 ?_)
    exact I.yield hz (13, 23) (by decide) (Below.refl _ _)
  · refine wpOp_of rfl rfl (wp_load rfl I.t1 (h1.below I.bel) ?_)
    exact I.yield hz (14, 24) (by decide) (Below.refl _ _)
  · have hd := hdep _ rfl
    have d0 : listed.getD 13 false = true := hd ⟨13, .data⟩ (Array.mem_of_getElem? (i := 0) rfl) rfl
    have d1 : listed.getD 14 false = true := hd ⟨14, .data⟩ (Array.mem_of_getElem? (i := 1) rfl) rfl
    refine wpOp_of rfl rfl (wp_callK rfl (I.vals (13, 23) (by decide) d0) (I.vals (14, 24) (by decide) d1) fun w' hb => ?_)
    exact I.yield hz (15, 25) (by decide) hb
  · have hd := hdep _ rfl
    have d0 : listed.getD 0 false = true := hd ⟨0, .data⟩ (Array.mem_of_getElem? (i := 0) rfl) rfl
    have d1 : listed.getD 15 false = true := hd ⟨15, .data⟩ (Array.mem_of_getElem? (i := 1) rfl) rfl
    obtain ⟨r, es, clock, g1, g2, g3, g4⟩ := I.insert hz 16 6 _ (by simp only [insL, List.mem_cons, Prod.mk.injEq, true_and, and_true]; simp; rfl) d0 hnot'
    exact wpOp_of rfl rfl (wp_insert rfl rfl g1 (I.vals (15, 25) (by decide) d1) g2 g3 g4)
  · refine wpOp_of rfl rfl (wp_load rfl I.t4 (h4.below I.bel) ?_)
    exact I.yield hz (17, 26) (by decide) (Below.refl _ _)
  · have hd := hdep _ rfl
    have d0 : listed.getD 0 false = true := hd ⟨0, .data⟩ (Array.mem_of_getElem? (i := 0) rfl) rfl
    have d1 : listed.getD 17 false = true := hd ⟨17, .data⟩ (Array.mem_of_getElem? (i := 1) rfl) rfl
    obtain ⟨r, es, clock, g1, g2, g3, g4⟩ := I.insert hz 18 8 _ (by simp only [insL, List.mem_cons, Prod.mk.injEq, true_and, and_true]; simp; rfl) d0 hnot'
    exact wpOp_of rfl rfl (wp_insert rfl rfl g1 (I.vals (17, 26) (by decide) d1) g2 g3 g4)
  · refine wpOp_of rfl rfl (wp_move (.inl rfl) I.t3 ?_)
    exact I.yield hz (19, 27) (by decide) (Below.refl _ _)
  · refine wpOp_of rfl rfl (wp_load rfl I.t1 (h1.below I.bel) ?_)
    exact I.yield hz (20, 28) (by decide) (Below.refl _ _)
  · have hd := hdep _ rfl
    have d0 : listed.getD 19 false = true := hd ⟨19, .data⟩ (Array.mem_of_getElem? (i := 0) rfl) rfl
    have d1 : listed.getD 20 false = true := hd ⟨20, .data⟩ (Array.mem_of_getElem? (i := 1) rfl) rfl
    refine wpOp_of rfl rfl (wp_callK rfl (I.vals (19, 27) (by decide) d0) (I.vals (20, 28) (by decide) d1) fun w' hb => ?_)
    exact I.yield hz (21, 29) (by decide) hb
  · have hd := hdep _ rfl
    have d0 : listed.getD 0 false = true := hd ⟨0, .data⟩ (Array.mem_of_getElem? (i := 0) rfl) rfl
    have d1 : listed.getD 21 false = true := hd ⟨21, .data⟩ (Array.mem_of_getElem? (i := 1) rfl) rfl
    obtain ⟨r, es, clock, g1, g2, g3, g4⟩ := I.insert hz 22 9 _ (by simp only [insL, List.mem_cons, Prod.mk.injEq, true_and, and_true]; simp; rfl) d0 hnot'
    exact wpOp_of rfl rfl (wp_insert rfl rfl g1 (I.vals (21, 29) (by decide) d1) g2 g3 g4)
  · refine wpOp_of rfl rfl (wp_build rfl (by simp only [List.map_toArray, List.map_cons, List.map_nil]; exact build_run2 w) ?_)
    exact I.yield hz (23, 30) (by decide) (Below.refl _ _)
  · have hd := hdep _ rfl
    have d0 : listed.getD 0 false = true := hd ⟨0, .data⟩ (Array.mem_of_getElem? (i := 0) rfl) rfl
    have d1 : listed.getD 23 false = true := hd ⟨23, .data⟩ (Array.mem_of_getElem? (i := 1) rfl) rfl
    obtain ⟨r, es, clock, g1, g2, g3, g4⟩ := I.insert hz 24 10 _ (by simp only [insL, List.mem_cons, Prod.mk.injEq, true_and, and_true]; simp; rfl) d0 hnot'
    exact wpOp_of rfl rfl (wp_insert rfl rfl g1 (I.vals (23, 30) (by decide) d1) g2 g3 g4)
  · refine wpOp_of rfl rfl (wp_build rfl (by simp only [List.map_toArray, List.map_cons, List.map_nil]; exact build_run3 w) ?_)
    exact I.yield hz (25, 31) (by decide) (Below.refl _ _)
  · have hd := hdep _ rfl
    have d0 : listed.getD 0 false = true := hd ⟨0, .data⟩ (Array.mem_of_getElem? (i := 0) rfl) rfl
    have d1 : listed.getD 25 false = true := hd ⟨25, .data⟩ (Array.mem_of_getElem? (i := 1) rfl) rfl
    obtain ⟨r, es, clock, g1, g2, g3, g4⟩ := I.insert hz 26 11 _ (by simp only [insL, List.mem_cons, Prod.mk.injEq, true_and, and_true]; simp; rfl) d0 hnot'
    exact wpOp_of rfl rfl (wp_insert rfl rfl g1 (I.vals (25, 31) (by decide) d1) g2 g3 g4)
  · refine wpOp_of rfl rfl (wp_load rfl I.t5 (h5.below I.bel) ?_)
    exact I.yield hz (27, 32) (by decide) (Below.refl _ _)
  · have hd := hdep _ rfl
    have d0 : listed.getD 0 false = true := hd ⟨0, .data⟩ (Array.mem_of_getElem? (i := 0) rfl) rfl
    have d1 : listed.getD 27 false = true := hd ⟨27, .data⟩ (Array.mem_of_getElem? (i := 1) rfl) rfl
    obtain ⟨r, es, clock, g1, g2, g3, g4⟩ := I.insert hz 28 12 _ (by simp only [insL, List.mem_cons, Prod.mk.injEq, true_and, and_true]; simp; rfl) d0 hnot'
    exact wpOp_of rfl rfl (wp_insert rfl rfl g1 (I.vals (27, 32) (by decide) d1) g2 g3 g4)
  · refine wpOp_of rfl rfl (wp_move (.inl rfl) I.t3 ?_)
    exact I.yield hz (29, 33) (by decide) (Below.refl _ _)
  · refine wpOp_of rfl rfl (wp_load rfl I.t1 (h1.below I.bel) ?_)
    exact I.yield hz (30, 34) (by decide) (Below.refl _ _)
  · have hd := hdep _ rfl
    have d0 : listed.getD 29 false = true := hd ⟨29, .data⟩ (Array.mem_of_getElem? (i := 0) rfl) rfl
    have d1 : listed.getD 30 false = true := hd ⟨30, .data⟩ (Array.mem_of_getElem? (i := 1) rfl) rfl
    refine wpOp_of rfl rfl (wp_callK rfl (I.vals (29, 33) (by decide) d0) (I.vals (30, 34) (by decide) d1) fun w' hb => ?_)
    exact I.yield hz (31, 35) (by decide) hb
  · have hd := hdep _ rfl
    have d0 : listed.getD 0 false = true := hd ⟨0, .data⟩ (Array.mem_of_getElem? (i := 0) rfl) rfl
    have d1 : listed.getD 31 false = true := hd ⟨31, .data⟩ (Array.mem_of_getElem? (i := 1) rfl) rfl
    obtain ⟨r, es, clock, g1, g2, g3, g4⟩ := I.insert hz 32 13 _ (by simp only [insL, List.mem_cons, Prod.mk.injEq, true_and, and_true]; simp; rfl) d0 hnot'
    exact wpOp_of rfl rfl (wp_insert rfl rfl g1 (I.vals (31, 35) (by decide) d1) g2 g3 g4)
  · have hd := hdep _ rfl
    have d0 : listed.getD 0 false = true := hd ⟨0, .data⟩ (Array.mem_of_getElem? (i := 0) rfl) rfl
    refine wpOp_of rfl rfl (wp_move (.inl rfl) rfl ?_)
    exact I.last hz d0
  · have hd := hdep _ rfl
    have d0 : listed.getD 33 false = true := hd ⟨33, .data⟩ (Array.mem_of_getElem? (i := 0) rfl) rfl
    refine wpOp_of rfl rfl (wp_move (.inr rfl) rfl ?_)
    exact I.over hz d0
end Go.Proofs.Ytgmagldbfajedaa
