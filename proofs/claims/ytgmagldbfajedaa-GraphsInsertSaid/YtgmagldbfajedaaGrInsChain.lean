/-
  Two regions of drydocklaw10.GraphsInsert that draw their order: 'append(append(append([]api.Node(nil), t.Nodes[:k]...), a node), t.Nodes[k:]...)' in a box, and 'append(append([][]int(nil), is[:k]...), is[k+1:]...)': whatever order is drawn the list is that one (printed by gen_ins.py).
-/
import Derived.Test.YtgmagldbfajedaaGrInsP
import Derived.Test.YtgmagldbfajedaaPlStore
namespace Go.Proofs.Ytgmagldbfajedaa
open Go.RowKit

theorem OwnN.not_box {w0 : World} {base : Nat} {w : World} {v : Value} {g : List Gr.Node} {nb : Nat} {c : Array Value} {z : Nat × Nat} (h : OwnN w0 base w v g) (hb : w.heap[nb]? = some (.cells c 38 z)) : v.ownBlock ≠ some nb := by
  obtain ⟨vs, ⟨_, h2⟩, _⟩ := h
  rcases h2 with ⟨rfl, _⟩ | ⟨b, cap, cur, rfl, _, hh, _⟩
  · simp [Value.ownBlock]
  · intro e
    simp only [Value.ownBlock, Option.some.injEq] at e
    subst e
    rw [hb] at hh
    simp at hh
theorem OwnN.kept {w0 : World} {base : Nat} {w w' : World} {v : Value} {g : List Gr.Node} (h : OwnN w0 base w v g) (hk : ∀ k, v.ownBlock = some k → w'.heap[k]? = w.heap[k]?) : OwnN w0 base w' v g := by
  obtain ⟨vs, h1, h2⟩ := h
  exact ⟨vs, ownsRow_keep h1 hk, h2⟩
theorem heap_set_box (w : World) (nb : Nat) (v : Value) {u : Value} {t : TypeId} {z : Nat × Nat} (h : w.heap[nb]? = some (.cells #[u] t z)) : (w.setCell ⟨nb, 0, none⟩ v).heap[nb]? = some (.cells #[v] t z) := by
  have hlt := (Array.getElem?_eq_some_iff.1 h).1
  have he := (Array.getElem?_eq_some_iff.1 h).2
  simp [World.setCell, hlt, Array.getElem_modify, he]
theorem NodesIn.new {w w0 : World} {nb : Nat} {aS : Option Addr} {lS cS : Nat} {x : Gr.Node} (hx : NodeV w0 none 0 0 aS lS cS x) (hx0 : x.kind = 2 ∧ x.n = 0 ∧ x.pad = 0) (h : w.heap[nb]? = some (.cells #[.int .u8 2, .slice none 0 0, .slice aS lS cS, .int .i64 0, .int .i64 0] 46 (0, 0))) : NodesIn w w0 (some ⟨nb, 0, none⟩) 1 1 [x] := by
  refine ⟨Nat.le_refl _, by omega, by omega, rfl, fun _ => ⟨nb, 0, rfl, (Array.getElem?_eq_some_iff.1 h).1, fun i hi => ?_⟩⟩
  obtain rfl : i = 0 := by omega
  refine ⟨none, 0, 0, aS, lS, cS, ?_, ?_, ?_, ?_, ?_, hx⟩
  · show w.cell? _ = some (Value.int .u8 x.kind)
    rw [hx0.1]; unfold World.cell?; rw [h]; rfl
  · unfold World.cell?; rw [h]; rfl
  · unfold World.cell?; rw [h]; rfl
  · show w.cell? _ = some (Value.int .i64 x.n)
    rw [hx0.2.1]; unfold World.cell?; rw [h]; rfl
  · show w.cell? _ = some (Value.int .i64 x.pad)
    rw [hx0.2.2]; unfold World.cell?; rw [h]; rfl

/-- 'append(l, m...)' of nodes, inside a region that draws its order. -/
theorem step_appN2 {ops : Array Oper} {o : Oper} {a : Act} {K : Act → World → Prop} {Q : Exit → Act → World → Prop} {E : Prop} (wq W : World) (hgd : o.guard = none) (s t : Operand)
    (ho : o.op = .call { callee := .builtin .append, args := #[s, t], argTypes := #[36, 36] }) (v : Value) (g g2 : List Gr.Node) (b off m c : Nat) (hW : Below wq.heap.size wq W)
    (hown : OwnN wq wq.heap.size W v g) (h2 : NodesIn W wq (some ⟨b, off, none⟩) m c g2) (hs : a.eval s = v) (ht : a.eval t = .slice (some ⟨b, off, none⟩) m c) (hlen : g.length ≤ 10000000) (hlen2 : m ≤ 10000000)
    (h : ∀ a' l' c' w', OwnN wq wq.heap.size w' (.slice a' l' c') (g ++ g2) → Below wq.heap.size wq w' → W.grownBy w' v.ownBlock → K (a.put o.dst (.slice a' l' c')) w') :
    if Region.wanted o (yielded ops a.tmps) = true then Oper.wp Try.prog o a W K Q else E :=
  step_appN1 wq W wq hgd s t ho v g g2 b off m c hW hown h2 hs ht hlen hlen2 h

/-- Slices of integers lie from a cell on, their rows as in w0. -/
structure GridIn (W w0 : World) (b off m c : Nat) (M : List (List Int)) : Prop where
  length : M.length = m
  lt : 0 < m → b < W.heap.size
  at_ : ∀ i, i < m → ∃ a l q, W.cell? ⟨b, off + i, none⟩ = some (.slice a l q) ∧ Ints w0 a l q (rowL M i)
/-- A slice of slices of integers that the call itself made; its rows lie as in w0. -/
def OwnR (w0 : World) (base : Nat) (w : World) (v : Value) (L : List (List Int)) : Prop :=
  ∃ vs : List Value, w.ownsRow base 22 1 v L.length vs ∧ ∀ i, i < L.length → ∃ a l q, vs[i]? = some (.slice a l q) ∧ Ints w0 a l q (rowL L i)
theorem OwnR.nil (w0 : World) (base : Nat) (w : World) : OwnR w0 base w (.slice none 0 0) [] := ⟨[], World.ownsRow_nil w base 22 1, fun _ hi => absurd hi (Nat.not_lt_zero _)⟩
theorem OwnR.grid {w0 : World} {base : Nat} {w : World} {v : Value} {L : List (List Int)} (h : OwnR w0 base w v L) (hb : Below w0.heap.size w0 w) : ∃ a len cap, v = .slice a len cap ∧ Grid w a len cap L := by
  obtain ⟨vs, ⟨h1, h2⟩, h4⟩ := h
  rcases h2 with ⟨rfl, h0⟩ | ⟨b, cap, cur, rfl, hg, hh, hn, hm, hc, ht⟩
  · have : L = [] := List.eq_nil_of_length_eq_zero h0
    subst this
    exact ⟨none, 0, 0, rfl, Grid.nil⟩
  · have hlt := (Array.getElem?_eq_some_iff.1 hh).1
    refine ⟨_, _, _, rfl, ⟨hn, by unfold maxLen at hm; omega, rfl, fun _ => ⟨b, 0, rfl, hlt, fun i hi => ?_⟩⟩⟩
    obtain ⟨a, l, q, e, hI⟩ := h4 i hi
    refine ⟨a, l, q, ?_, hI.below hb⟩
    rw [Nat.zero_add, show w.cell? ⟨b, i, none⟩ = cur[i]? by simp [World.cell?, hh]]
    rw [← ht, List.getElem?_take] at e
    split at e
    · simpa using e
    · cases e
theorem rowL_left (L M : List (List Int)) (i : Nat) (h : i < L.length) : rowL (L ++ M) i = rowL L i := by
  unfold rowL; simp only [List.getD_eq_getElem?_getD, List.getElem?_append_left h]
theorem rowL_right (L M : List (List Int)) (i : Nat) : rowL (L ++ M) (L.length + i) = rowL M i := by
  unfold rowL; simp only [List.getD_eq_getElem?_getD]
  rw [List.getElem?_append_right (by omega), Nat.add_sub_cancel_left]

theorem step_appR {ops : Array Oper} {o : Oper} {a : Act} {K : Act → World → Prop} {Q : Exit → Act → World → Prop} {E : Prop} (wq W : World) (hgd : o.guard = none) (s t : Operand)
    (ho : o.op = .call { callee := .builtin .append, args := #[s, t], argTypes := #[40, 40] }) (v : Value) (l m : List (List Int)) (b off lm cm : Nat) (hW : Below wq.heap.size wq W)
    (hown : OwnR wq wq.heap.size W v l) (h2 : GridIn W wq b off lm cm m) (hs : a.eval s = v) (ht : a.eval t = .slice (some ⟨b, off, none⟩) lm cm) (hlen : l.length ≤ 10000000) (hlen2 : lm ≤ 10000000)
    (h : ∀ a' l' c' w', OwnR wq wq.heap.size w' (.slice a' l' c') (l ++ m) → Below wq.heap.size wq w' → W.grownBy w' v.ownBlock → K (a.put o.dst (.slice a' l' c')) w') :
    if Region.wanted o (yielded ops a.tmps) = true then Oper.wp Try.prog o a W K Q else E := by
  obtain ⟨i0, hi, hz0, hz1, hz2⟩ := info_parts Try.info22
  obtain ⟨vs, hrow, hvs⟩ := hown
  have hw : Region.wanted o (yielded ops a.tmps) = true := by simp [Region.wanted, hgd]
  rw [if_pos hw]
  have hml := h2.length
  have hl2 := World.ownsRow.lt hrow
  have hat : ∀ j u, ((List.range lm).map fun i => (W.cell? ⟨b, off + i, none⟩).getD undef)[j]? = some u → W.cell? ⟨b, off + j, none⟩ = some u ∧ ∃ a l q, u = .slice a l q ∧ Ints wq a l q (rowL m j) := fun j u hu => by
    rw [List.getElem?_map] at hu
    obtain ⟨i, hi1, hi2⟩ := Option.map_eq_some_iff.1 hu
    have hj : j < lm := by
      have := (List.getElem?_eq_some_iff.1 hi1).1
      simpa using this
    obtain rfl : j = i := by
      rw [List.getElem?_range hj] at hi1; exact Option.some.inj hi1
    obtain ⟨a', l', q', e, hI⟩ := h2.at_ j hj
    rw [e] at hi2
    simp only [Option.getD_some] at hi2
    subst hi2
    exact ⟨e, a', l', q', rfl, hI⟩
  refine wp_append_own W s t 40 ho wq.heap.size 22 i0 _ 1 24 Try.underlying40 hi hz0 hz1 hz2 rfl (by decide) v l.length vs hs hrow ⟨b, off, none⟩ lm cm ((List.range lm).map fun i => (W.cell? ⟨b, off + i, none⟩).getD undef) ht (by simp) (fun j u hu => ?_) (fun u hu => ?_) ?_ ?_ hW.size ?_
  · rw [Addr.add_lit]; exact (hat j u hu).1
  · obtain ⟨j, hj⟩ := List.mem_iff_getElem?.1 hu
    obtain ⟨_, a', l', q', rfl, _⟩ := hat j u hj
    rfl
  · unfold maxLen; omega
  · omega
  · intro v' w' hown' hgrow _
    have hvl : vs.length = l.length * 1 := hrow.1
    have hO : OwnR wq wq.heap.size w' v' (l ++ m) := ⟨vs ++ _, by rw [List.length_append, hml]; exact hown', fun i hi => by
      by_cases hlt : i < l.length
      · rw [rowL_left _ _ _ hlt]
        obtain ⟨a', l', q', e, hI⟩ := hvs i hlt
        exact ⟨a', l', q', by rw [List.getElem?_append_left (by omega)]; exact e, hI⟩
      · obtain ⟨j, rfl⟩ : ∃ j, i = l.length + j := ⟨i - l.length, by omega⟩
        rw [rowL_right]
        have hj : j < lm := by rw [List.length_append] at hi; omega
        obtain ⟨a', l', q', e, hI⟩ := h2.at_ j hj
        refine ⟨a', l', q', ?_, hI⟩
        rw [List.getElem?_append_right (by omega), show l.length + j - vs.length = j by omega, List.getElem?_map, List.getElem?_range hj]
        simp [e]⟩
    have hB : Below wq.heap.size wq w' := hW.trans ((Below.refl _ W).grown hgrow hW.size fun k hk => (hl2 k hk).1)
    obtain ⟨a', l', c', rfl⟩ := ownsRow_slice hown'
    exact h a' l' c' w' hO hB hgrow
section
variable {o : Oper} {a : Act} {w : World} {K : Act → World → Prop} {Q : Exit → Act → World → Prop} {x y : Operand}
theorem wp_addI {n : Int} (ho : o.op = .binOp .add 3 x (.const (.int .i64 1)) 3) (hv : a.eval x = .int .i64 n) (hn : 0 ≤ n ∧ n ≤ 1000000) (hK : K (a.put o.dst (.int .i64 (n + 1))) w) : o.wp Try.prog a w K Q := by
  refine wp_ret ?_ hK
  clear hK
  have h1 : a.eval (.const (.int .i64 1)) = .int .i64 1 := rfl
  have hw : IntKind.i64.wrap (n + 1) = n + 1 := IntWalk.i64_in _ (by omega)
  generalize a.eval = ev at *
  unfold execOp; rw [ho]; simp [hv, h1, hw, go_sem]
theorem wp_slHi36 {vx vy v : Value} (ho : o.op = .slice 36 x none (some y) none) (hx : a.eval x = vx) (hy : a.eval y = vy) (hr : (Instr.slice 36 vx none (some vy) none).run Try.prog w = .ok v w) (hK : K (a.put o.dst v) w) : o.wp Try.prog a w K Q := by
  refine wp_ret ?_ hK
  clear hK
  generalize a.eval = ev at *
  unfold execOp; rw [ho]; simp [hx, hy, hr, go_sem]
theorem wp_slHi40 {vx vy v : Value} (ho : o.op = .slice 40 x none (some y) none) (hx : a.eval x = vx) (hy : a.eval y = vy) (hr : (Instr.slice 40 vx none (some vy) none).run Try.prog w = .ok v w) (hK : K (a.put o.dst v) w) : o.wp Try.prog a w K Q := by
  refine wp_ret ?_ hK
  clear hK
  generalize a.eval = ev at *
  unfold execOp; rw [ho]; simp [hx, hy, hr, go_sem]
theorem wp_slLo36 {vx vy v : Value} (ho : o.op = .slice 36 x (some y) none none) (hx : a.eval x = vx) (hy : a.eval y = vy) (hr : (Instr.slice 36 vx (some vy) none none).run Try.prog w = .ok v w) (hK : K (a.put o.dst v) w) : o.wp Try.prog a w K Q := by
  refine wp_ret ?_ hK
  clear hK
  generalize a.eval = ev at *
  unfold execOp; rw [ho]; simp [hx, hy, hr, go_sem]
theorem wp_slLo40 {vx vy v : Value} (ho : o.op = .slice 40 x (some y) none none) (hx : a.eval x = vx) (hy : a.eval y = vy) (hr : (Instr.slice 40 vx (some vy) none none).run Try.prog w = .ok v w) (hK : K (a.put o.dst v) w) : o.wp Try.prog a w K Q := by
  refine wp_ret ?_ hK
  clear hK
  generalize a.eval = ev at *
  unfold execOp; rw [ho]; simp [hx, hy, hr, go_sem]
theorem wp_asE2 {v : Value} (ho : o.op = .assign x) (hv : a.eval x = v) (hK : K (a.put o.dst v) w) : o.wp Try.prog a w K Q := by
  refine wp_ret ?_ hK
  clear hK
  generalize a.eval = ev at *
  unfold execOp; rw [ho]; simp [hv, go_sem]
theorem wp_fld38 {b : Nat} (ho : o.op = .fieldAddr 38 x 0) (hx : a.eval x = .pointer (some ⟨b, 0, none⟩)) (hK : K (a.put o.dst (.pointer (some ⟨b, 0, none⟩))) w) : o.wp Try.prog a w K Q := by
  refine wp_ret ?_ hK
  clear hK
  generalize a.eval = ev at *
  unfold execOp; rw [ho]; simp [hx, go_sem]
theorem wp_ld36 {p : Addr} {c : Value} (ho : o.op = .load 36 x) (hx : a.eval x = .pointer (some p)) (hc : w.cell? p = some c) (hK : K (a.put o.dst c) w) : o.wp Try.prog a w K Q := by
  refine wp_ret ?_ hK
  clear hK
  generalize a.eval = ev at *
  unfold execOp; rw [ho]; simp [hx, hc, go_sem]
theorem wp_bld46 {aS : Option Addr} {lS cS : Nat} (ho : o.op = .build 46 #[(0, .const (.int .u8 2)), (2, x)]) (hx : a.eval x = .slice aS lS cS) (hK : K (a.put o.dst (.agg #[.int .u8 2, .slice none 0 0, .slice aS lS cS, .int .i64 0, .int .i64 0])) w) : o.wp Try.prog a w K Q := by
  refine wp_ret ?_ hK
  clear hK
  have h2 : a.eval (.const (.int .u8 2)) = .int .u8 2 := rfl
  generalize a.eval = ev at *
  unfold execOp; rw [ho]; simp [hx, h2, go_sem]
theorem wp_bs36 {aS : Option Addr} {lS cS : Nat} (ho : o.op = .buildSlice 36 1 #[(0, x)]) (hv : a.eval x = .agg #[.int .u8 2, .slice none 0 0, .slice aS lS cS, .int .i64 0, .int .i64 0]) (hK : K (a.put o.dst (.slice (some ⟨w.heap.size, 0, none⟩) 1 1)) (w.alloc (.cells #[.int .u8 2, .slice none 0 0, .slice aS lS cS, .int .i64 0, .int .i64 0] 46))) : o.wp Try.prog a w K Q := by
  refine wp_ret ?_ hK
  clear hK
  generalize a.eval = ev at *
  unfold execOp; rw [ho]; simp [hv, go_sem]
theorem wp_bld38 {v : Value} {aS : Option Addr} {lS cS : Nat} (ho : o.op = .build 38 #[(0, x)]) (hx : a.eval x = v) (hv : v = .slice aS lS cS) (hK : K (a.put o.dst (.agg #[v])) w) : o.wp Try.prog a w K Q := by
  subst hv
  refine wp_ret ?_ hK
  clear hK
  generalize a.eval = ev at *
  unfold execOp; rw [ho]; simp [hx, go_sem]
theorem wp_alloc38 (ho : o.op = .alloc 38) (hK : K (a.put o.dst (.pointer (some ⟨w.heap.size, 0, none⟩))) (w.alloc (.cells #[.slice none 0 0] 38))) : o.wp Try.prog a w K Q := by
  refine wp_ret ?_ hK
  clear hK
  unfold execOp; rw [ho]; simp [go_sem]
theorem wp_st38 {nb : Nat} {a' : Option Addr} {l' c' : Nat} {u : Value} (ho : o.op = .store 38 x y) (hx : a.eval x = .pointer (some ⟨nb, 0, none⟩)) (hy : a.eval y = .agg #[.slice a' l' c']) (hc : w.heap[nb]? = some (.cells #[u] 38 (0, 0))) (hK : K (a.put o.dst undef) (w.setCell ⟨nb, 0, none⟩ (.slice a' l' c'))) : o.wp Try.prog a w K Q := by
  have hc1 : w.cell? ⟨nb, 0, none⟩ = some u := by unfold World.cell?; rw [hc]; rfl
  have hf : w.frozen? ⟨nb, 0, none⟩ = false := by unfold World.frozen?; rw [hc]; rfl
  have hr : (execOp a.eval o).run Try.prog w = .ok .skip (w.setCell ⟨nb, 0, none⟩ (.slice a' l' c')) := by
    clear hK
    generalize a.eval = ev at *
    unfold execOp; rw [ho]; simp [hx, hy, hc1, hf, go_sem]
  unfold Oper.wp; rw [hr]; exact hK
end

/-- The region's operations. -/
structure IsNd (l : List Oper) : Prop where
  len : l.length = 17
  k0 : OpAt l 0 (some 92) (.fieldAddr 38 (.tmp 10) 0) []
  k1 : OpAt l 1 (some 93) (.load 36 (.tmp 92)) [0]
  k2 : OpAt l 2 (some 94) (.move (.tmp 9)) []
  k3 : OpAt l 3 (some 95) (.slice 36 (.tmp 93) none (some (.tmp 94)) none) [1, 2]
  k4 : OpAt l 4 (some 96) (.call { callee := .builtin .append, args := #[.const (.slice none 0 0), .tmp 95], argTypes := #[36, 36] }) [3]
  k5 : OpAt l 5 (some 97) (.move (.tmp 2)) []
  k6 : OpAt l 6 (some 98) (.build 46 #[(0, .const (.int .u8 2)), (2, .tmp 97)]) [5]
  k7 : OpAt l 7 (some 99) (.buildSlice 36 1 #[(0, .tmp 98)]) [6]
  k8 : OpAt l 8 (some 100) (.call { callee := .builtin .append, args := #[.tmp 96, .tmp 99], argTypes := #[36, 36] }) [4, 7]
  k9 : OpAt l 9 (some 101) (.fieldAddr 38 (.tmp 10) 0) []
  k10 : OpAt l 10 (some 102) (.load 36 (.tmp 101)) [9]
  k11 : OpAt l 11 (some 103) (.move (.tmp 9)) []
  k12 : OpAt l 12 (some 104) (.slice 36 (.tmp 102) (some (.tmp 103)) none none) [10, 11]
  k13 : OpAt l 13 (some 105) (.call { callee := .builtin .append, args := #[.tmp 100, .tmp 104], argTypes := #[36, 36] }) [8, 12]
  k14 : OpAt l 14 (some 106) (.build 38 #[(0, .tmp 105)]) [13]
  k15 : OpAt l 15 (some 13) (.alloc 38) []
  k16 : OpAt l 16 (none) (.store 38 (.tmp 13) (.tmp 106)) [15, 14, 13]
/-- What the operations that make nothing leave. -/
def constNd (TP : Value) (SL : Value) (SV : Value) (n : Int) (TK : Value) (DR : Value) (X : Value) : Nat → Option Value
  | 0 => some TP
  | 1 => some SL
  | 2 => some (.int .i64 n)
  | 3 => some TK
  | 5 => some SV
  | 6 => some X
  | 9 => some TP
  | 10 => some SL
  | 11 => some (.int .i64 n)
  | 12 => some DR
  | _ => none
structure InvNd (wq : World) (p : List Gr.Node) (q : List Gr.Node) (x : Gr.Node) (lc : Obj) (TP : Value) (SL : Value) (SV : Value) (n : Int) (TK : Value) (DR : Value) (X : Value) (B : Nat → Bool) (vals : Nat → Value) (w : World) : Prop where
  cs : ∀ i c, constNd TP SL SV n TK DR X i = some c → B i = true → vals i = c
  bel : Below wq.heap.size wq w
  r8 : B 8 = true → B 4 = true
  r13 : B 13 = true → B 8 = true
  bld : B 14 = true → B 13 = true ∧ vals 14 = .agg #[vals 13]
  own : OwnN wq wq.heap.size w (pick2 (B 13) (vals 13) (pick2 (B 8) (vals 8) (pick2 (B 4) (vals 4) (.slice none 0 0)))) (pick2 (B 13) (((([] : List (Gr.Node)) ++ p) ++ [x]) ++ q) (pick2 (B 8) ((([] : List (Gr.Node)) ++ p) ++ [x]) (pick2 (B 4) (([] : List (Gr.Node)) ++ p) ([] : List (Gr.Node)))))
  w8 : B 8 = true → B 7 = true
  lit : B 7 = true → B 8 = false → NewS wq lc (vals 7) w
  box : B 15 = true → B 16 = false → ∃ nb, vals 15 = .pointer (some ⟨nb, 0, none⟩) ∧ wq.heap.size ≤ nb ∧ w.heap[nb]? = some (.cells #[.slice none 0 0] 38 (0, 0))
  st : B 16 = true → B 15 = true ∧ B 14 = true ∧ ∃ nb, vals 15 = .pointer (some ⟨nb, 0, none⟩) ∧ wq.heap.size ≤ nb ∧ w.heap[nb]? = some (.cells #[vals 13] 38 (0, 0))
section
variable {wq : World} {p : List Gr.Node} {q : List Gr.Node} {x : Gr.Node} {lc : Obj} {TP : Value} {SL : Value} {SV : Value} {n : Int} {TK : Value} {DR : Value} {X : Value}
theorem InvNd.pure {B : Nat → Bool} {vals : Nat → Value} {w : World} (I : InvNd wq p q x lc TP SL SV n TK DR X B vals w) {i : Nat} (hi : i ≠ 4 ∧ i ≠ 8 ∧ i ≠ 13 ∧ i ≠ 7 ∧ i ≠ 14 ∧ i ≠ 15 ∧ i ≠ 16) {c : Value} (hc : constNd TP SL SV n TK DR X i = some c) : InvNd wq p q x lc TP SL SV n TK DR X (setB B i) (updV vals i c) w := by
  obtain ⟨h4, h8, h13, h7, h14, h15, h16⟩ := hi
  have e4 := setB_ne B h4
  have v4 := updV_ne vals i c (Ne.symm h4)
  have e8 := setB_ne B h8
  have v8 := updV_ne vals i c (Ne.symm h8)
  have e13 := setB_ne B h13
  have v13 := updV_ne vals i c (Ne.symm h13)
  have e7 := setB_ne B h7
  have v7 := updV_ne vals i c (Ne.symm h7)
  have e14 := setB_ne B h14
  have v14 := updV_ne vals i c (Ne.symm h14)
  have e15 := setB_ne B h15
  have v15 := updV_ne vals i c (Ne.symm h15)
  have e16 := setB_ne B h16
  have v16 := updV_ne vals i c (Ne.symm h16)
  refine ⟨fun j c' hj hb => ?_, I.bel, ?_, ?_, ?_, ?_, ?_, ?_, ?_, ?_⟩
  · by_cases e : i = j
    · subst e
      rw [updV_at]
      rw [hc] at hj; exact Option.some.inj hj
    · rw [updV_ne _ _ _ (Ne.symm e)]
      rw [setB_ne B e] at hb
      exact I.cs j c' hj hb
  · rw [e8, e4]; exact I.r8
  · rw [e13, e8]; exact I.r13
  · rw [e14, e13, v14, v13]; exact I.bld
  · rw [e4, e8, e13, v4, v8, v13]; exact I.own
  · rw [e8, e7]; exact I.w8
  · rw [e7, e8, v7]; exact I.lit
  · rw [e15, e16, v15]; exact I.box
  · rw [e16, e15, e14, v15, v13]; exact I.st
theorem nd_lo {ops : List Oper} (S : IsNd ops) {j : Nat} (hj : j < 17) {t : Nat} (ht : t = 10 ∨ t = 9 ∨ t = 2) : dstAt ops j ≠ some t := by
  obtain rfl | rfl | rfl | rfl | rfl | rfl | rfl | rfl | rfl | rfl | rfl | rfl | rfl | rfl | rfl | rfl | rfl : j = 0 ∨ j = 1 ∨ j = 2 ∨ j = 3 ∨ j = 4 ∨ j = 5 ∨ j = 6 ∨ j = 7 ∨ j = 8 ∨ j = 9 ∨ j = 10 ∨ j = 11 ∨ j = 12 ∨ j = 13 ∨ j = 14 ∨ j = 15 ∨ j = 16 := by omega
  · rw [S.k0.dst]; intro e; cases e; omega
  · rw [S.k1.dst]; intro e; cases e; omega
  · rw [S.k2.dst]; intro e; cases e; omega
  · rw [S.k3.dst]; intro e; cases e; omega
  · rw [S.k4.dst]; intro e; cases e; omega
  · rw [S.k5.dst]; intro e; cases e; omega
  · rw [S.k6.dst]; intro e; cases e; omega
  · rw [S.k7.dst]; intro e; cases e; omega
  · rw [S.k8.dst]; intro e; cases e; omega
  · rw [S.k9.dst]; intro e; cases e; omega
  · rw [S.k10.dst]; intro e; cases e; omega
  · rw [S.k11.dst]; intro e; cases e; omega
  · rw [S.k12.dst]; intro e; cases e; omega
  · rw [S.k13.dst]; intro e; cases e; omega
  · rw [S.k14.dst]; intro e; cases e; omega
  · rw [S.k15.dst]; intro e; cases e; omega
  · rw [S.k16.dst]; intro e; cases e
/-- What the slots hold at the end. -/
def finNd (TP : Value) (SL : Value) (SV : Value) (n : Int) (TK : Value) (DR : Value) (X : Value) (u4 u7 u8 u13 u15 : Value) (i : Nat) : Value := if i = 14 then .agg #[u13] else if i = 4 then u4 else if i = 7 then u7 else if i = 8 then u8 else if i = 13 then u13 else if i = 15 then u15 else (constNd TP SL SV n TK DR X i).getD undef
set_option maxHeartbeats 4000000 in
theorem nd_region {ops : List Oper} (S : IsNd ops) {Q : Exit → Act → World → Prop} {id : Nat} {a0 : Act} {z : Nat} (hs : a0.tmps.size = z) (hB : canonB ops z = true) (h10 : a0.eval (.tmp 10) = TP) (h9 : a0.eval (.tmp 9) = .int .i64 n) (h2 : a0.eval (.tmp 2) = SV)
    (bP : Nat) (eTP : TP = .pointer (some ⟨bP, 0, none⟩)) (aS : Option Addr) (lS cS : Nat) (eSV : SV = .slice aS lS cS) (eX : X = .agg #[.int .u8 2, .slice none 0 0, .slice aS lS cS, .int .i64 0, .int .i64 0])
    (bT oT lT cT bD oD lD cD : Nat) (eT : TK = .slice (some ⟨bT, oT, none⟩) lT cT) (eD : DR = .slice (some ⟨bD, oD, none⟩) lD cD) (hT : ∀ W, Below wq.heap.size wq W → NodesIn W wq (some ⟨bT, oT, none⟩) lT cT p) (hD : ∀ W, Below wq.heap.size wq W → NodesIn W wq (some ⟨bD, oD, none⟩) lD cD q)
    (hx : NodeV wq none 0 0 aS lS cS x) (hx0 : x.kind = 2 ∧ x.n = 0 ∧ x.pad = 0) (hSL : ∀ W, Below wq.heap.size wq W → W.cell? ⟨bP, 0, none⟩ = some SL)
    (rT : ∀ W : World, (Instr.slice 36 SL none (some (.int .i64 n)) none).run Try.prog W = .ok TK W) (rD : ∀ W : World, (Instr.slice 36 SL (some (.int .i64 n)) none none).run Try.prog W = .ok DR W)
    (hlp : p.length ≤ 100000) (hlT : lT ≤ 100000) (hlD : lD ≤ 100000)
    (hQ : ∀ u4 u7 u8 u13 u15 W, OwnN wq wq.heap.size W u13 (((([] : List (Gr.Node)) ++ p) ++ [x]) ++ q) → Below wq.heap.size wq W → ∀ nb, u15 = .pointer (some ⟨nb, 0, none⟩) → wq.heap.size ≤ nb → W.heap[nb]? = some (.cells #[u13] 38 (0, 0)) → Q .normal (putsK ops a0 (finNd TP SL SV n TK DR X u4 u7 u8 u13 u15) 17) W) :
    (Code.region id ops.toArray true).wp Try.prog Q a0 wq := by
  refine wp_region_canon hs mixed hB (fun listed vals w => InvNd wq p q x (.cells #[.int .u8 2, .slice none 0 0, .slice aS lS cS, .int .i64 0, .int .i64 0] 46 (0, 0)) TP SL SV n TK DR X (fun k => listed.getD k false) vals w) (fun _ => undef) ?_ ?_ ?_
  · have hf : ∀ k, (Array.replicate ops.length false).getD k false = false := fun k => by
      simp only [Array.getD_eq_getD_getElem?, Array.getElem?_replicate]
      split <;> simp
    simp only [hf]
    exact ⟨(fun _ _ _ h => by cases h), (Below.refl _ _).drew, (fun h => by cases h), (fun h => by cases h), (fun h => by cases h), OwnN.nil _ _ _, (fun h => by cases h), (fun h => by cases h), (fun h => by cases h), (fun h => by cases h)⟩
  · intro listed vals w a i o hz ho hn' hdep I hF K hK
    have hi : i < 17 := by rw [← S.len]; exact (List.getElem?_eq_some_iff.1 ho).1
    have hset' : ∀ vals' w', InvNd wq p q x (.cells #[.int .u8 2, .slice none 0 0, .slice aS lS cS, .int .i64 0, .int .i64 0] 46 (0, 0)) TP SL SV n TK DR X (setB (fun k => listed.getD k false) i) vals' w' → InvNd wq p q x (.cells #[.int .u8 2, .slice none 0 0, .slice aS lS cS, .int .i64 0, .int .i64 0] 46 (0, 0)) TP SL SV n TK DR X (fun k => (listed.setIfInBounds i true).getD k false) vals' w' := fun vals' w' h => by
      have e : (fun k => (listed.setIfInBounds i true).getD k false) = setB (fun k => listed.getD k false) i := funext fun k => getD_set (by rw [hz, S.len]; exact hi)
      rw [e]; exact h
    have hE' : ∀ j t c, j < 17 → dstAt ops j = some t → listed.getD j false = true → constNd TP SL SV n TK DR X j = some c → a.eval (.tmp t) = c := fun j t c hj hd hl hc => (hF.new j t (by rw [S.len]; exact hj) hd hl).trans (I.cs j c hc hl)
    have e10 : a.eval (.tmp 10) = TP := (hF.old 10 (fun j hj => nd_lo S (by rw [← S.len]; exact hj) (by decide))).trans h10
    have e9 : a.eval (.tmp 9) = .int .i64 n := (hF.old 9 (fun j hj => nd_lo S (by rw [← S.len]; exact hj) (by decide))).trans h9
    have e2 : a.eval (.tmp 2) = SV := (hF.old 2 (fun j hj => nd_lo S (by rw [← S.len]; exact hj) (by decide))).trans h2
    have hnB := hn'
    have hcs' : ∀ v, constNd TP SL SV n TK DR X i = none → ∀ j c, constNd TP SL SV n TK DR X j = some c → setB (fun k => listed.getD k false) i j = true → updV vals i v j = c := fun v hc j c hj hb => by
      have e : i ≠ j := fun e => by subst e; rw [hc] at hj; cases hj
      rw [updV_ne _ _ _ (Ne.symm e)]
      rw [setB_ne _ e] at hb
      exact I.cs j c hj hb
    generalize hBB : (fun k => listed.getD k false) = B at *
    have hb : ∀ k, listed.getD k false = B k := fun k => congrFun hBB k
    simp only [hb] at hdep hE' hnB
    have hF' : ∀ j t, j < ops.length → dstAt ops j = some t → B j = true → a.eval (.tmp t) = vals j := fun j t h1 h2 h3 => hF.new j t h1 h2 (by rw [hb]; exact h3)
    clear hn'
    obtain rfl | rfl | rfl | rfl | rfl | rfl | rfl | rfl | rfl | rfl | rfl | rfl | rfl | rfl | rfl | rfl | rfl : i = 0 ∨ i = 1 ∨ i = 2 ∨ i = 3 ∨ i = 4 ∨ i = 5 ∨ i = 6 ∨ i = 7 ∨ i = 8 ∨ i = 9 ∨ i = 10 ∨ i = 11 ∨ i = 12 ∨ i = 13 ∨ i = 14 ∨ i = 15 ∨ i = 16 := by omega
    · obtain ⟨hdst, hop, hd⟩ := S.k0.is ho hdep
      exact wp_fld38 hop (e10.trans eTP) (eTP ▸ (hK _ _ (hset' _ _ (I.pure (by decide) rfl))))
    · obtain ⟨hdst, hop, hd⟩ := S.k1.is ho hdep
      exact wp_ld36 hop ((hE' 0 92 _ (by decide) S.k0.dst (hd 0 (by simp)) rfl).trans eTP) (hSL w I.bel) (hK _ _ (hset' _ _ (I.pure (by decide) rfl)))
    · obtain ⟨hdst, hop, hd⟩ := S.k2.is ho hdep
      exact wp_mvE hop e9 (hK _ _ (hset' _ _ (I.pure (by decide) rfl)))
    · obtain ⟨hdst, hop, hd⟩ := S.k3.is ho hdep
      exact wp_slHi36 hop (hE' 1 93 _ (by decide) S.k1.dst (hd 1 (by simp)) rfl) (hE' 2 94 _ (by decide) S.k2.dst (hd 2 (by simp)) rfl) (rT w) (hK _ _ (hset' _ _ (I.pure (by decide) rfl)))
    · obtain ⟨hdst, hop, hd⟩ := S.k4.is ho hdep
      have h8 : B 8 = false := by
        cases h : B 8 with
        | false => rfl
        | true => have := I.r8 h; rw [hnB] at this; cases this
      have h13 : B 13 = false := by
        cases h : B 13 with
        | false => rfl
        | true => have := I.r13 h; rw [h8] at this; cases this
      have h14 : B 14 = false := by
        cases h : B 14 with
        | false => rfl
        | true => have := (I.bld h).1; rw [h13] at this; cases this
      have h16 : B 16 = false := by
        cases h : B 16 with
        | false => rfl
        | true => have := (I.st h).2.1; rw [h14] at this; cases this
      have hO := I.own
      rw [hnB, h8, h13] at hO
      simp only [pick2, Bool.false_eq_true, if_false] at hO
      have hg : o.guard = none := (canonB_at hB ho).1
      have hw : Region.wanted o (yielded ops.toArray a.tmps) = true := by simp [Region.wanted, hg]
      have := step_appN2 (ops := ops.toArray) (o := o) (a := a) (K := K) (Q := Q) (E := True) wq w hg (.const (.slice none 0 0)) (.tmp 95) hop (.slice none 0 0) ([] : List (Gr.Node)) p bT oT lT cT I.bel hO (hT w I.bel) rfl ((hE' 3 95 _ (by decide) S.k3.dst (hd 3 (by simp)) rfl).trans eT) (by first | (simp; done) | (simp; omega)) (by omega) (fun a' l' c' w' hO' hb' hg' => hK _ _ (hset' _ _
        ⟨hcs' _ rfl,
        hb',
        (fun h => by rw [setB_ne B (by decide), h8] at h; cases h),
        (fun h => by rw [setB_ne B (by decide), h13] at h; cases h),
        (fun h => by rw [setB_ne B (by decide), h14] at h; cases h),
        (by
          rw [setB_at, show setB B 4 8 = B 8 from setB_ne B (by decide), show setB B 4 13 = B 13 from setB_ne B (by decide), h8, h13]
          simp only [pick2, if_true, Bool.false_eq_true, if_false, updV_at]
          exact hO'),
        (fun h => by rw [setB_ne B (by decide), h8] at h; cases h),
        (fun h h' => by
          rw [setB_ne B (by decide)] at h h'
          obtain ⟨nb, m1, m2, m3⟩ := I.lit h h'
          exact ⟨nb, (by rw [updV_ne _ _ _ (by decide)]; exact m1), m2, (hg'.block nb (Array.getElem?_eq_some_iff.1 m3).1 (by simp [Value.ownBlock])).trans m3⟩),
        (fun h h' => by
          rw [setB_ne B (by decide)] at h h'
          obtain ⟨nb, m1, m2, m3⟩ := I.box h h'
          exact ⟨nb, (by rw [updV_ne _ _ _ (by decide)]; exact m1), m2, (hg'.block nb (Array.getElem?_eq_some_iff.1 m3).1 (fun e => hO.not_box m3 e.symm)).trans m3⟩),
        (fun h => by rw [setB_ne B (by decide), h16] at h; cases h)⟩))
      rw [if_pos hw] at this
      exact this
    · obtain ⟨hdst, hop, hd⟩ := S.k5.is ho hdep
      exact wp_mvE hop e2 (hK _ _ (hset' _ _ (I.pure (by decide) rfl)))
    · obtain ⟨hdst, hop, hd⟩ := S.k6.is ho hdep
      exact wp_bld46 hop ((hE' 5 97 _ (by decide) S.k5.dst (hd 5 (by simp)) rfl).trans eSV) (eX ▸ (hK _ _ (hset' _ _ (I.pure (by decide) rfl))))
    · obtain ⟨hdst, hop, hd⟩ := S.k7.is ho hdep
      have h8 : B 8 = false := by
        cases h : B 8 with
        | false => rfl
        | true => have := I.w8 h; rw [hnB] at this; cases this
      refine wp_bs36 hop ((hE' 6 98 _ (by decide) S.k6.dst (hd 6 (by simp)) rfl).trans eX) (hK _ _ (hset' _ _ ?_))
      have hba : Below w.heap.size w (w.alloc (.cells #[.int .u8 2, .slice none 0 0, .slice aS lS cS, .int .i64 0, .int .i64 0] 46)) := (Below.refl _ _).alloc (Nat.le_refl _) _
      exact ⟨hcs' _ rfl,
        I.bel.trans (hba.mono I.bel.size),
        (fun h => by rw [setB_ne B (by decide)] at h ⊢; exact I.r8 h),
        (fun h => by rw [setB_ne B (by decide)] at h ⊢; exact I.r13 h),
        (fun h => by rw [setB_ne B (by decide)] at h ⊢; rw [updV_ne _ _ _ (by decide), updV_ne _ _ _ (by decide)]; exact I.bld h),
        (by
        rw [show setB B 7 4 = B 4 from setB_ne B (by decide), show setB B 7 8 = B 8 from setB_ne B (by decide), show setB B 7 13 = B 13 from setB_ne B (by decide), show updV vals 7 (.slice (some ⟨w.heap.size, 0, none⟩) 1 1) 4 = vals 4 from updV_ne _ _ _ (by decide), show updV vals 7 (.slice (some ⟨w.heap.size, 0, none⟩) 1 1) 8 = vals 8 from updV_ne _ _ _ (by decide), show updV vals 7 (.slice (some ⟨w.heap.size, 0, none⟩) 1 1) 13 = vals 13 from updV_ne _ _ _ (by decide)]
        exact I.own.below hba),
        (fun h => by rw [setB_ne B (by decide), h8] at h; cases h),
        (fun _ _ => ⟨w.heap.size, updV_at _ _ _, I.bel.size, heap_alloc_new _ _⟩),
        (fun h h' => by
          rw [setB_ne B (by decide)] at h h'
          obtain ⟨nb, m1, m2, m3⟩ := I.box h h'
          exact ⟨nb, (by rw [updV_ne _ _ _ (by decide)]; exact m1), m2, (Below.heap_alloc _ _ _ (Array.getElem?_eq_some_iff.1 m3).1).trans m3⟩),
        (fun h => by
          rw [setB_ne B (by decide)] at h
          obtain ⟨s1, s2, nb, m1, m2, m3⟩ := I.st h
          refine ⟨by rw [setB_ne B (by decide)]; exact s1, by rw [setB_ne B (by decide)]; exact s2, nb, (by rw [updV_ne _ _ _ (by decide)]; exact m1), m2, ?_⟩
          rw [updV_ne _ _ _ (by decide)]
          exact (Below.heap_alloc _ _ _ (Array.getElem?_eq_some_iff.1 m3).1).trans m3)⟩
    · obtain ⟨hdst, hop, hd⟩ := S.k8.is ho hdep
      have h13 : B 13 = false := by
        cases h : B 13 with
        | false => rfl
        | true => have := I.r13 h; rw [hnB] at this; cases this
      have h14 : B 14 = false := by
        cases h : B 14 with
        | false => rfl
        | true => have := (I.bld h).1; rw [h13] at this; cases this
      have h16 : B 16 = false := by
        cases h : B 16 with
        | false => rfl
        | true => have := (I.st h).2.1; rw [h14] at this; cases this
      have h4 : B 4 = true := hd 4 (by simp)
      have hO := I.own
      rw [hnB, h4, h13] at hO
      simp only [pick2, if_true, Bool.false_eq_true, if_false] at hO
      have hg : o.guard = none := (canonB_at hB ho).1
      have hw : Region.wanted o (yielded ops.toArray a.tmps) = true := by simp [Region.wanted, hg]
      obtain ⟨nb, n1, n2, n3⟩ := I.lit (hd 7 (by simp)) hnB
      have := step_appN2 (ops := ops.toArray) (o := o) (a := a) (K := K) (Q := Q) (E := True) wq w hg (.tmp 96) (.tmp 99) hop (vals 4) (([] : List (Gr.Node)) ++ p) [x] nb 0 1 1 I.bel hO (NodesIn.new hx hx0 n3) (hF' 4 96 (by rw [S.len]; omega) S.k4.dst (hd 4 (by simp))) ((hF' 7 99 (by rw [S.len]; omega) S.k7.dst (hd 7 (by simp))).trans n1) (by first | (simp; done) | (simp; omega)) (by omega) (fun a' l' c' w' hO' hb' hg' => hK _ _ (hset' _ _
        ⟨hcs' _ rfl,
        hb',
        (fun _ => by rw [setB_ne B (by decide)]; exact h4),
        (fun h => by rw [setB_ne B (by decide), h13] at h; cases h),
        (fun h => by rw [setB_ne B (by decide), h14] at h; cases h),
        (by
          rw [setB_at, show setB B 8 4 = B 4 from setB_ne B (by decide), show setB B 8 13 = B 13 from setB_ne B (by decide), h4, h13]
          simp only [pick2, if_true, Bool.false_eq_true, if_false, updV_at]
          exact hO'),
        (fun _ => by rw [setB_ne B (by decide)]; exact hd 7 (by simp)),
        (fun _ h' => by rw [setB_at] at h'; cases h'),
        (fun h h' => by
          rw [setB_ne B (by decide)] at h h'
          obtain ⟨nb, m1, m2, m3⟩ := I.box h h'
          exact ⟨nb, (by rw [updV_ne _ _ _ (by decide)]; exact m1), m2, (hg'.block nb (Array.getElem?_eq_some_iff.1 m3).1 (fun e => hO.not_box m3 e.symm)).trans m3⟩),
        (fun h => by rw [setB_ne B (by decide), h16] at h; cases h)⟩))
      rw [if_pos hw] at this
      exact this
    · obtain ⟨hdst, hop, hd⟩ := S.k9.is ho hdep
      exact wp_fld38 hop (e10.trans eTP) (eTP ▸ (hK _ _ (hset' _ _ (I.pure (by decide) rfl))))
    · obtain ⟨hdst, hop, hd⟩ := S.k10.is ho hdep
      exact wp_ld36 hop ((hE' 9 101 _ (by decide) S.k9.dst (hd 9 (by simp)) rfl).trans eTP) (hSL w I.bel) (hK _ _ (hset' _ _ (I.pure (by decide) rfl)))
    · obtain ⟨hdst, hop, hd⟩ := S.k11.is ho hdep
      exact wp_mvE hop e9 (hK _ _ (hset' _ _ (I.pure (by decide) rfl)))
    · obtain ⟨hdst, hop, hd⟩ := S.k12.is ho hdep
      exact wp_slLo36 hop (hE' 10 102 _ (by decide) S.k10.dst (hd 10 (by simp)) rfl) (hE' 11 103 _ (by decide) S.k11.dst (hd 11 (by simp)) rfl) (rD w) (hK _ _ (hset' _ _ (I.pure (by decide) rfl)))
    · obtain ⟨hdst, hop, hd⟩ := S.k13.is ho hdep
      have h14 : B 14 = false := by
        cases h : B 14 with
        | false => rfl
        | true => have := (I.bld h).1; rw [hnB] at this; cases this
      have h16 : B 16 = false := by
        cases h : B 16 with
        | false => rfl
        | true => have := (I.st h).2.1; rw [h14] at this; cases this
      have h8 : B 8 = true := hd 8 (by simp)
      have h4 : B 4 = true := I.r8 h8
      have hO := I.own
      rw [hnB, h4, h8] at hO
      simp only [pick2, if_true, Bool.false_eq_true, if_false] at hO
      have hg : o.guard = none := (canonB_at hB ho).1
      have hw : Region.wanted o (yielded ops.toArray a.tmps) = true := by simp [Region.wanted, hg]
      have := step_appN2 (ops := ops.toArray) (o := o) (a := a) (K := K) (Q := Q) (E := True) wq w hg (.tmp 100) (.tmp 104) hop (vals 8) ((([] : List (Gr.Node)) ++ p) ++ [x]) q bD oD lD cD I.bel hO (hD w I.bel) (hF' 8 100 (by rw [S.len]; omega) S.k8.dst (hd 8 (by simp))) ((hE' 12 104 _ (by decide) S.k12.dst (hd 12 (by simp)) rfl).trans eD) (by first | (simp; done) | (simp; omega)) (by omega) (fun a' l' c' w' hO' hb' hg' => hK _ _ (hset' _ _
        ⟨hcs' _ rfl,
        hb',
        (fun h => by rw [setB_ne B (by decide)] at h ⊢; exact I.r8 h),
        (fun _ => by rw [setB_ne B (by decide)]; exact h8),
        (fun h => by rw [setB_ne B (by decide), h14] at h; cases h),
        (by
          rw [setB_at, show setB B 13 4 = B 4 from setB_ne B (by decide), show setB B 13 8 = B 8 from setB_ne B (by decide), h4, h8]
          simp only [pick2, if_true, updV_at]
          exact hO'),
        (fun h => by rw [setB_ne B (by decide)] at h ⊢; exact I.w8 h),
        (fun _ h' => by rw [setB_ne B (by decide), h8] at h'; cases h'),
        (fun h h' => by
          rw [setB_ne B (by decide)] at h h'
          obtain ⟨nb, m1, m2, m3⟩ := I.box h h'
          exact ⟨nb, (by rw [updV_ne _ _ _ (by decide)]; exact m1), m2, (hg'.block nb (Array.getElem?_eq_some_iff.1 m3).1 (fun e => hO.not_box m3 e.symm)).trans m3⟩),
        (fun h => by rw [setB_ne B (by decide), h16] at h; cases h)⟩))
      rw [if_pos hw] at this
      exact this
    · obtain ⟨hdst, hop, hd⟩ := S.k14.is ho hdep
      have h13 : B 13 = true := hd 13 (by simp)
      have hO := I.own
      have hh13 := h13
      have h8 : B 8 = true := I.r13 h13
      have h4 : B 4 = true := I.r8 h8
      rw [h4, h8, h13] at hO
      simp only [pick2, if_true] at hO
      obtain ⟨a', l', c', ev⟩ : ∃ a' l' c', vals 13 = .slice a' l' c' := ownsRow_slice hO.choose_spec.1
      refine wp_bld38 hop (hF' 13 105 (by rw [S.len]; omega) S.k13.dst (hd 13 (by simp))) ev (hK _ _ (hset' _ _ ?_))
      have h16 : B 16 = false := by
        cases h : B 16 with
        | false => rfl
        | true => have := (I.st h).2.1; rw [hnB] at this; cases this
      exact ⟨hcs' _ rfl,
        I.bel,
        (fun h => by rw [setB_ne B (by decide)] at h ⊢; exact I.r8 h),
        (fun h => by rw [setB_ne B (by decide)] at h ⊢; exact I.r13 h),
        (fun _ => by rw [setB_ne B (by decide), updV_at, updV_ne _ _ _ (by decide)]; exact ⟨h13, rfl⟩),
        (by
        rw [show setB B 14 4 = B 4 from setB_ne B (by decide), show setB B 14 8 = B 8 from setB_ne B (by decide), show setB B 14 13 = B 13 from setB_ne B (by decide), show updV vals 14 (.agg #[vals 13]) 4 = vals 4 from updV_ne _ _ _ (by decide), show updV vals 14 (.agg #[vals 13]) 8 = vals 8 from updV_ne _ _ _ (by decide), show updV vals 14 (.agg #[vals 13]) 13 = vals 13 from updV_ne _ _ _ (by decide)]
        exact I.own),
        (fun h => by rw [setB_ne B (by decide)] at h ⊢; exact I.w8 h),
        (fun h h' => by rw [setB_ne B (by decide)] at h h'; rw [updV_ne _ _ _ (by decide)]; exact I.lit h h'),
        (fun h h' => by rw [setB_ne B (by decide)] at h h'; rw [updV_ne _ _ _ (by decide)]; exact I.box h h'),
        (fun h => by rw [setB_ne B (by decide), h16] at h; cases h)⟩
    · obtain ⟨hdst, hop, hd⟩ := S.k15.is ho hdep
      have h16 : B 16 = false := by
        cases h : B 16 with
        | false => rfl
        | true => have := (I.st h).1; rw [hnB] at this; cases this
      refine wp_alloc38 hop (hK _ _ (hset' _ _ ?_))
      have hba : Below w.heap.size w (w.alloc (.cells #[.slice none 0 0] 38)) := (Below.refl _ _).alloc (Nat.le_refl _) _
      exact ⟨hcs' _ rfl,
        I.bel.trans (hba.mono I.bel.size),
        (fun h => by rw [setB_ne B (by decide)] at h ⊢; exact I.r8 h),
        (fun h => by rw [setB_ne B (by decide)] at h ⊢; exact I.r13 h),
        (fun h => by rw [setB_ne B (by decide)] at h ⊢; rw [updV_ne _ _ _ (by decide), updV_ne _ _ _ (by decide)]; exact I.bld h),
        (by
        rw [show setB B 15 4 = B 4 from setB_ne B (by decide), show setB B 15 8 = B 8 from setB_ne B (by decide), show setB B 15 13 = B 13 from setB_ne B (by decide), show updV vals 15 (.pointer (some ⟨w.heap.size, 0, none⟩)) 4 = vals 4 from updV_ne _ _ _ (by decide), show updV vals 15 (.pointer (some ⟨w.heap.size, 0, none⟩)) 8 = vals 8 from updV_ne _ _ _ (by decide), show updV vals 15 (.pointer (some ⟨w.heap.size, 0, none⟩)) 13 = vals 13 from updV_ne _ _ _ (by decide)]
        exact I.own.below hba),
        (fun h => by rw [setB_ne B (by decide)] at h ⊢; exact I.w8 h),
        (fun h h' => by
          rw [setB_ne B (by decide)] at h h'
          obtain ⟨nb, m1, m2, m3⟩ := I.lit h h'
          exact ⟨nb, (by rw [updV_ne _ _ _ (by decide)]; exact m1), m2, (Below.heap_alloc _ _ _ (Array.getElem?_eq_some_iff.1 m3).1).trans m3⟩),
        (fun _ _ => ⟨w.heap.size, updV_at _ _ _, I.bel.size, heap_alloc_new _ _⟩),
        (fun h => by rw [setB_ne B (by decide), h16] at h; cases h)⟩
    · obtain ⟨hdst, hop, hd⟩ := S.k16.is ho hdep
      have hbx : B 15 = true := hd 15 (by simp)
      have hbl : B 14 = true := hd 14 (by simp)
      obtain ⟨nb, m1, m2, m3⟩ := I.box hbx hnB
      have h13 := (I.bld hbl).1
      have h8 : B 8 = true := I.r13 h13
      have h4 : B 4 = true := I.r8 h8
      have hO := I.own
      rw [h4, h8, h13] at hO
      simp only [pick2, if_true] at hO
      obtain ⟨a', l', c', ev⟩ : ∃ a' l' c', vals 13 = .slice a' l' c' := ownsRow_slice hO.choose_spec.1
      refine wp_st38 hop ((hF' 15 13 (by rw [S.len]; omega) S.k15.dst (hd 15 (by simp))).trans m1) (((hF' 14 106 (by rw [S.len]; omega) S.k14.dst (hd 14 (by simp))).trans (I.bld hbl).2).trans (by rw [ev])) m3 (hK _ _ (hset' _ _ ?_))
      have hne := fun e => hO.not_box m3 e
      have hset1 : (w.setCell ⟨nb, 0, none⟩ (.slice a' l' c')).heap[nb]? = some (.cells #[.slice a' l' c'] 38 (0, 0)) := heap_set_box w nb _ m3
      exact ⟨hcs' _ rfl,
        (below_setCell I.bel nb 0 (.slice a' l' c') m2),
        (fun h => by rw [setB_ne B (by decide)] at h ⊢; exact I.r8 h),
        (fun h => by rw [setB_ne B (by decide)] at h ⊢; exact I.r13 h),
        (fun h => by rw [setB_ne B (by decide)] at h ⊢; rw [updV_ne _ _ _ (by decide), updV_ne _ _ _ (by decide)]; exact I.bld h),
        (by
        rw [show setB B 16 4 = B 4 from setB_ne B (by decide), show setB B 16 8 = B 8 from setB_ne B (by decide), show setB B 16 13 = B 13 from setB_ne B (by decide), show updV vals 16 undef 4 = vals 4 from updV_ne _ _ _ (by decide), show updV vals 16 undef 8 = vals 8 from updV_ne _ _ _ (by decide), show updV vals 16 undef 13 = vals 13 from updV_ne _ _ _ (by decide), h4, h8, h13]
        simp only [pick2, if_true]
        exact hO.kept (fun k hk => heap_set_ne _ _ _ (fun e => hne (e ▸ hk)))),
        (fun h => by rw [setB_ne B (by decide)] at h ⊢; exact I.w8 h),
        (fun _ h' => by rw [setB_ne B (by decide), h8] at h'; cases h'),
        (fun _ h' => by rw [setB_at] at h'; cases h'),
        (fun _ => ⟨by rw [setB_ne B (by decide)]; exact hbx, by rw [setB_ne B (by decide)]; exact hbl, nb, (by rw [updV_ne _ _ _ (by decide)]; exact m1), m2, (by rw [updV_ne _ _ _ (by decide), ev]; exact hset1)⟩)⟩
  · intro listed vals w hall I
    have h := fun k (hk : k < 17) => hall k (by rw [S.len]; exact hk)
    have hO := I.own
    simp only [h 4 (by decide), h 8 (by decide), h 13 (by decide)] at hO
    simp only [pick2, if_true] at hO
    obtain ⟨_, _, nb, m1, m2, m3⟩ := I.st (h 16 (by decide))
    have := hQ (vals 4) (vals 7) (vals 8) (vals 13) (vals 15) w hO I.bel nb m1 m2 m3
    rw [S.len]
    rw [puts_congr (vals' := finNd TP SL SV n TK DR X (vals 4) (vals 7) (vals 8) (vals 13) (vals 15)) 17 (fun i hi => ?_)]
    · exact this
    · by_cases c16 : i = 16
      · subst c16; exact .inl S.k16.dst
      right
      by_cases c4 : i = 4
      · subst c4; rfl
      by_cases c7 : i = 7
      · subst c7; rfl
      by_cases c8 : i = 8
      · subst c8; rfl
      by_cases c13 : i = 13
      · subst c13; rfl
      by_cases c14 : i = 14
      · subst c14; exact (I.bld (h 14 (by decide))).2
      by_cases c15 : i = 15
      · subst c15; rfl
      unfold finNd
      rw [if_neg c14, if_neg c4, if_neg c7, if_neg c8, if_neg c13, if_neg c15]
      obtain ⟨c, hc⟩ : ∃ c, constNd TP SL SV n TK DR X i = some c := by
        obtain rfl | rfl | rfl | rfl | rfl | rfl | rfl | rfl | rfl | rfl : i = 0 ∨ i = 1 ∨ i = 2 ∨ i = 3 ∨ i = 5 ∨ i = 6 ∨ i = 9 ∨ i = 10 ∨ i = 11 ∨ i = 12 := by omega
        all_goals exact ⟨_, rfl⟩
      rw [hc, I.cs i c hc (h i hi)]; rfl
end

/-- The region's operations. -/
structure IsGd (l : List Oper) : Prop where
  len : l.length = 10
  k0 : OpAt l 0 (some 119) (.move (.tmp 14)) []
  k1 : OpAt l 1 (some 120) (.move (.tmp 9)) []
  k2 : OpAt l 2 (some 121) (.slice 40 (.tmp 119) none (some (.tmp 120)) none) [0, 1]
  k3 : OpAt l 3 (some 122) (.call { callee := .builtin .append, args := #[.const (.slice none 0 0), .tmp 121], argTypes := #[40, 40] }) [2]
  k4 : OpAt l 4 (some 123) (.move (.tmp 14)) []
  k5 : OpAt l 5 (some 124) (.move (.tmp 9)) []
  k6 : OpAt l 6 (some 125) (.binOp .add 3 (.tmp 124) (.const (.int .i64 1)) 3) [5]
  k7 : OpAt l 7 (some 126) (.slice 40 (.tmp 123) (some (.tmp 125)) none none) [4, 6]
  k8 : OpAt l 8 (some 127) (.call { callee := .builtin .append, args := #[.tmp 122, .tmp 126], argTypes := #[40, 40] }) [3, 7]
  k9 : OpAt l 9 (some 16) (.assign (.tmp 127)) [8]
/-- What the operations that make nothing leave. -/
def constGd (SL : Value) (n : Int) (TK : Value) (DR : Value) : Nat → Option Value
  | 0 => some SL
  | 1 => some (.int .i64 n)
  | 2 => some TK
  | 4 => some SL
  | 5 => some (.int .i64 n)
  | 6 => some (.int .i64 (n + 1))
  | 7 => some DR
  | _ => none
structure InvGd (wq : World) (p : List (List Int)) (q : List (List Int)) (SL : Value) (n : Int) (TK : Value) (DR : Value) (B : Nat → Bool) (vals : Nat → Value) (w : World) : Prop where
  cs : ∀ i c, constGd SL n TK DR i = some c → B i = true → vals i = c
  bel : Below wq.heap.size wq w
  r8 : B 8 = true → B 3 = true
  asg : B 9 = true → B 8 = true ∧ vals 9 = vals 8
  own : OwnR wq wq.heap.size w (pick2 (B 8) (vals 8) (pick2 (B 3) (vals 3) (.slice none 0 0))) (pick2 (B 8) ((([] : List (List Int)) ++ p) ++ q) (pick2 (B 3) (([] : List (List Int)) ++ p) ([] : List (List Int))))
section
variable {wq : World} {p : List (List Int)} {q : List (List Int)} {SL : Value} {n : Int} {TK : Value} {DR : Value}
theorem InvGd.pure {B : Nat → Bool} {vals : Nat → Value} {w : World} (I : InvGd wq p q SL n TK DR B vals w) {i : Nat} (hi : i ≠ 3 ∧ i ≠ 8 ∧ i ≠ 9) {c : Value} (hc : constGd SL n TK DR i = some c) : InvGd wq p q SL n TK DR (setB B i) (updV vals i c) w := by
  obtain ⟨h3, h8, h9⟩ := hi
  have e3 := setB_ne B h3
  have v3 := updV_ne vals i c (Ne.symm h3)
  have e8 := setB_ne B h8
  have v8 := updV_ne vals i c (Ne.symm h8)
  have e9 := setB_ne B h9
  have v9 := updV_ne vals i c (Ne.symm h9)
  refine ⟨fun j c' hj hb => ?_, I.bel, ?_, ?_, ?_⟩
  · by_cases e : i = j
    · subst e
      rw [updV_at]
      rw [hc] at hj; exact Option.some.inj hj
    · rw [updV_ne _ _ _ (Ne.symm e)]
      rw [setB_ne B e] at hb
      exact I.cs j c' hj hb
  · rw [e8, e3]; exact I.r8
  · rw [e9, e8, v9, v8]; exact I.asg
  · rw [e3, e8, v3, v8]; exact I.own
theorem gd_lo {ops : List Oper} (S : IsGd ops) {j : Nat} (hj : j < 10) {t : Nat} (ht : t = 14 ∨ t = 9) : dstAt ops j ≠ some t := by
  obtain rfl | rfl | rfl | rfl | rfl | rfl | rfl | rfl | rfl | rfl : j = 0 ∨ j = 1 ∨ j = 2 ∨ j = 3 ∨ j = 4 ∨ j = 5 ∨ j = 6 ∨ j = 7 ∨ j = 8 ∨ j = 9 := by omega
  · rw [S.k0.dst]; intro e; cases e; omega
  · rw [S.k1.dst]; intro e; cases e; omega
  · rw [S.k2.dst]; intro e; cases e; omega
  · rw [S.k3.dst]; intro e; cases e; omega
  · rw [S.k4.dst]; intro e; cases e; omega
  · rw [S.k5.dst]; intro e; cases e; omega
  · rw [S.k6.dst]; intro e; cases e; omega
  · rw [S.k7.dst]; intro e; cases e; omega
  · rw [S.k8.dst]; intro e; cases e; omega
  · rw [S.k9.dst]; intro e; cases e; omega
/-- What the slots hold at the end. -/
def finGd (SL : Value) (n : Int) (TK : Value) (DR : Value) (u3 u8 : Value) (i : Nat) : Value := if i = 9 then u8 else if i = 3 then u3 else if i = 8 then u8 else (constGd SL n TK DR i).getD undef
set_option maxHeartbeats 4000000 in
theorem gd_region {ops : List Oper} (S : IsGd ops) {Q : Exit → Act → World → Prop} {id : Nat} {a0 : Act} {z : Nat} (hs : a0.tmps.size = z) (hB : canonB ops z = true) (h14 : a0.eval (.tmp 14) = SL) (h9 : a0.eval (.tmp 9) = .int .i64 n)
    (bT oT lT cT bD oD lD cD : Nat) (eT : TK = .slice (some ⟨bT, oT, none⟩) lT cT) (eD : DR = .slice (some ⟨bD, oD, none⟩) lD cD) (hT : ∀ W, Below wq.heap.size wq W → GridIn W wq bT oT lT cT p) (hD : ∀ W, Below wq.heap.size wq W → GridIn W wq bD oD lD cD q)
    (hn : 0 ≤ n ∧ n ≤ 1000000) (rT : ∀ W : World, (Instr.slice 40 SL none (some (.int .i64 n)) none).run Try.prog W = .ok TK W) (rD : ∀ W : World, (Instr.slice 40 SL (some (.int .i64 (n + 1))) none none).run Try.prog W = .ok DR W)
    (hlp : p.length ≤ 100000) (hlT : lT ≤ 100000) (hlD : lD ≤ 100000)
    (hQ : ∀ u3 u8 W, OwnR wq wq.heap.size W u8 ((([] : List (List Int)) ++ p) ++ q) → Below wq.heap.size wq W → Q .normal (putsK ops a0 (finGd SL n TK DR u3 u8) 10) W) :
    (Code.region id ops.toArray true).wp Try.prog Q a0 wq := by
  refine wp_region_canon hs mixed hB (fun listed vals w => InvGd wq p q SL n TK DR (fun k => listed.getD k false) vals w) (fun _ => undef) ?_ ?_ ?_
  · have hf : ∀ k, (Array.replicate ops.length false).getD k false = false := fun k => by
      simp only [Array.getD_eq_getD_getElem?, Array.getElem?_replicate]
      split <;> simp
    simp only [hf]
    exact ⟨(fun _ _ _ h => by cases h), (Below.refl _ _).drew, (fun h => by cases h), (fun h => by cases h), OwnR.nil _ _ _⟩
  · intro listed vals w a i o hz ho hn' hdep I hF K hK
    have hi : i < 10 := by rw [← S.len]; exact (List.getElem?_eq_some_iff.1 ho).1
    have hset' : ∀ vals' w', InvGd wq p q SL n TK DR (setB (fun k => listed.getD k false) i) vals' w' → InvGd wq p q SL n TK DR (fun k => (listed.setIfInBounds i true).getD k false) vals' w' := fun vals' w' h => by
      have e : (fun k => (listed.setIfInBounds i true).getD k false) = setB (fun k => listed.getD k false) i := funext fun k => getD_set (by rw [hz, S.len]; exact hi)
      rw [e]; exact h
    have hE' : ∀ j t c, j < 10 → dstAt ops j = some t → listed.getD j false = true → constGd SL n TK DR j = some c → a.eval (.tmp t) = c := fun j t c hj hd hl hc => (hF.new j t (by rw [S.len]; exact hj) hd hl).trans (I.cs j c hc hl)
    have e14 : a.eval (.tmp 14) = SL := (hF.old 14 (fun j hj => gd_lo S (by rw [← S.len]; exact hj) (by decide))).trans h14
    have e9 : a.eval (.tmp 9) = .int .i64 n := (hF.old 9 (fun j hj => gd_lo S (by rw [← S.len]; exact hj) (by decide))).trans h9
    have hnB := hn'
    have hcs' : ∀ v, constGd SL n TK DR i = none → ∀ j c, constGd SL n TK DR j = some c → setB (fun k => listed.getD k false) i j = true → updV vals i v j = c := fun v hc j c hj hb => by
      have e : i ≠ j := fun e => by subst e; rw [hc] at hj; cases hj
      rw [updV_ne _ _ _ (Ne.symm e)]
      rw [setB_ne _ e] at hb
      exact I.cs j c hj hb
    generalize hBB : (fun k => listed.getD k false) = B at *
    have hb : ∀ k, listed.getD k false = B k := fun k => congrFun hBB k
    simp only [hb] at hdep hE' hnB
    have hF' : ∀ j t, j < ops.length → dstAt ops j = some t → B j = true → a.eval (.tmp t) = vals j := fun j t h1 h2 h3 => hF.new j t h1 h2 (by rw [hb]; exact h3)
    clear hn'
    obtain rfl | rfl | rfl | rfl | rfl | rfl | rfl | rfl | rfl | rfl : i = 0 ∨ i = 1 ∨ i = 2 ∨ i = 3 ∨ i = 4 ∨ i = 5 ∨ i = 6 ∨ i = 7 ∨ i = 8 ∨ i = 9 := by omega
    · obtain ⟨hdst, hop, hd⟩ := S.k0.is ho hdep
      exact wp_mvE hop e14 (hK _ _ (hset' _ _ (I.pure (by decide) rfl)))
    · obtain ⟨hdst, hop, hd⟩ := S.k1.is ho hdep
      exact wp_mvE hop e9 (hK _ _ (hset' _ _ (I.pure (by decide) rfl)))
    · obtain ⟨hdst, hop, hd⟩ := S.k2.is ho hdep
      exact wp_slHi40 hop (hE' 0 119 _ (by decide) S.k0.dst (hd 0 (by simp)) rfl) (hE' 1 120 _ (by decide) S.k1.dst (hd 1 (by simp)) rfl) (rT w) (hK _ _ (hset' _ _ (I.pure (by decide) rfl)))
    · obtain ⟨hdst, hop, hd⟩ := S.k3.is ho hdep
      have h8 : B 8 = false := by
        cases h : B 8 with
        | false => rfl
        | true => have := I.r8 h; rw [hnB] at this; cases this
      have h9 : B 9 = false := by
        cases h : B 9 with
        | false => rfl
        | true => have := (I.asg h).1; rw [h8] at this; cases this
      have hO := I.own
      rw [hnB, h8] at hO
      simp only [pick2, Bool.false_eq_true, if_false] at hO
      have hg : o.guard = none := (canonB_at hB ho).1
      have hw : Region.wanted o (yielded ops.toArray a.tmps) = true := by simp [Region.wanted, hg]
      have := step_appR (ops := ops.toArray) (o := o) (a := a) (K := K) (Q := Q) (E := True) wq w hg (.const (.slice none 0 0)) (.tmp 121) hop (.slice none 0 0) ([] : List (List Int)) p bT oT lT cT I.bel hO (hT w I.bel) rfl ((hE' 2 121 _ (by decide) S.k2.dst (hd 2 (by simp)) rfl).trans eT) (by first | (simp; done) | (simp; omega)) (by omega) (fun a' l' c' w' hO' hb' hg' => hK _ _ (hset' _ _
        ⟨hcs' _ rfl,
        hb',
        (fun h => by rw [setB_ne B (by decide), h8] at h; cases h),
        (fun h => by rw [setB_ne B (by decide), h9] at h; cases h),
        (by
          rw [setB_at, show setB B 3 8 = B 8 from setB_ne B (by decide), h8]
          simp only [pick2, if_true, Bool.false_eq_true, if_false, updV_at]
          exact hO')⟩))
      rw [if_pos hw] at this
      exact this
    · obtain ⟨hdst, hop, hd⟩ := S.k4.is ho hdep
      exact wp_mvE hop e14 (hK _ _ (hset' _ _ (I.pure (by decide) rfl)))
    · obtain ⟨hdst, hop, hd⟩ := S.k5.is ho hdep
      exact wp_mvE hop e9 (hK _ _ (hset' _ _ (I.pure (by decide) rfl)))
    · obtain ⟨hdst, hop, hd⟩ := S.k6.is ho hdep
      exact wp_addI hop (hE' 5 124 _ (by decide) S.k5.dst (hd 5 (by simp)) rfl) hn (hK _ _ (hset' _ _ (I.pure (by decide) rfl)))
    · obtain ⟨hdst, hop, hd⟩ := S.k7.is ho hdep
      exact wp_slLo40 hop (hE' 4 123 _ (by decide) S.k4.dst (hd 4 (by simp)) rfl) (hE' 6 125 _ (by decide) S.k6.dst (hd 6 (by simp)) rfl) (rD w) (hK _ _ (hset' _ _ (I.pure (by decide) rfl)))
    · obtain ⟨hdst, hop, hd⟩ := S.k8.is ho hdep
      have h9 : B 9 = false := by
        cases h : B 9 with
        | false => rfl
        | true => have := (I.asg h).1; rw [hnB] at this; cases this
      have h3 : B 3 = true := hd 3 (by simp)
      have hO := I.own
      rw [hnB, h3] at hO
      simp only [pick2, if_true, Bool.false_eq_true, if_false] at hO
      have hg : o.guard = none := (canonB_at hB ho).1
      have hw : Region.wanted o (yielded ops.toArray a.tmps) = true := by simp [Region.wanted, hg]
      have := step_appR (ops := ops.toArray) (o := o) (a := a) (K := K) (Q := Q) (E := True) wq w hg (.tmp 122) (.tmp 126) hop (vals 3) (([] : List (List Int)) ++ p) q bD oD lD cD I.bel hO (hD w I.bel) (hF' 3 122 (by rw [S.len]; omega) S.k3.dst (hd 3 (by simp))) ((hE' 7 126 _ (by decide) S.k7.dst (hd 7 (by simp)) rfl).trans eD) (by first | (simp; done) | (simp; omega)) (by omega) (fun a' l' c' w' hO' hb' hg' => hK _ _ (hset' _ _
        ⟨hcs' _ rfl,
        hb',
        (fun _ => by rw [setB_ne B (by decide)]; exact h3),
        (fun h => by rw [setB_ne B (by decide), h9] at h; cases h),
        (by
          rw [setB_at, show setB B 8 3 = B 3 from setB_ne B (by decide), h3]
          simp only [pick2, if_true, updV_at]
          exact hO')⟩))
      rw [if_pos hw] at this
      exact this
    · obtain ⟨hdst, hop, hd⟩ := S.k9.is ho hdep
      have h8 : B 8 = true := hd 8 (by simp)
      refine wp_asE2 hop (hF' 8 127 (by rw [S.len]; omega) S.k8.dst (hd 8 (by simp))) (hK _ _ (hset' _ _ ?_))
      exact ⟨hcs' _ rfl,
        I.bel,
        (fun h => by rw [setB_ne B (by decide)] at h ⊢; exact I.r8 h),
        (fun _ => by rw [setB_ne B (by decide), updV_at, updV_ne _ _ _ (by decide)]; exact ⟨h8, rfl⟩),
        (by
        rw [show setB B 9 3 = B 3 from setB_ne B (by decide), show setB B 9 8 = B 8 from setB_ne B (by decide), show updV vals 9 (vals 8) 3 = vals 3 from updV_ne _ _ _ (by decide), show updV vals 9 (vals 8) 8 = vals 8 from updV_ne _ _ _ (by decide)]
        exact I.own)⟩
  · intro listed vals w hall I
    have h := fun k (hk : k < 10) => hall k (by rw [S.len]; exact hk)
    have hO := I.own
    simp only [h 3 (by decide), h 8 (by decide)] at hO
    simp only [pick2, if_true] at hO
    have := hQ (vals 3) (vals 8) w hO I.bel
    rw [S.len]
    rw [puts_congr (vals' := finGd SL n TK DR (vals 3) (vals 8)) 10 (fun i hi => ?_)]
    · exact this
    · right
      by_cases c3 : i = 3
      · subst c3; rfl
      by_cases c8 : i = 8
      · subst c8; rfl
      by_cases c9 : i = 9
      · subst c9; exact (I.asg (h 9 (by decide))).2
      unfold finGd
      rw [if_neg c9, if_neg c3, if_neg c8]
      obtain ⟨c, hc⟩ : ∃ c, constGd SL n TK DR i = some c := by
        obtain rfl | rfl | rfl | rfl | rfl | rfl | rfl : i = 0 ∨ i = 1 ∨ i = 2 ∨ i = 4 ∨ i = 5 ∨ i = 6 ∨ i = 7 := by omega
        all_goals exact ⟨_, rfl⟩
      rw [hc, I.cs i c hc (h i hi)]; rfl
end
end Go.Proofs.Ytgmagldbfajedaa
