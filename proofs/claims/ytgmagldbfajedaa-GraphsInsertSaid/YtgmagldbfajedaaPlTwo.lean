/-
  Two of the making's slices grow in one statement whose order is open: what holds on the way (Two), and its step laws.
-/
import Derived.Test.YtgmagldbfajedaaPlTurn
namespace Go.Proofs.Ytgmagldbfajedaa
open Go.RowKit

/-- One integer more, inside a region that draws its order, with where it lies then. -/
theorem step_app1h {ops : Array Oper} {o : Oper} {a : Act} {K : Act → World → Prop} {Q : Exit → Act → World → Prop} {E : Prop} (W : World) (hgd : o.guard = none) (s t : Operand)
    (ho : o.op = .call { callee := .builtin .append, args := #[s, t], argTypes := #[22, 22] }) (base : Nat) (v : Value) (l : List Int) (x : Int) (b : Nat)
    (hown : Own base W v l) (hs : a.eval s = v) (ht : a.eval t = .slice (some ⟨b, 0, none⟩) 1 1) (hnew : W.heap[b]? = some (.cells #[.int .i64 x] 3 (0, 0))) (hb : base ≤ W.heap.size) (hlen : l.length ≤ 10000000)
    (h : ∀ v' w', Own base w' v' (l ++ [x]) → Below base W w' → W.grownBy w' v.ownBlock → (v'.ownBlock = v.ownBlock ∨ ∃ k, v'.ownBlock = some k ∧ W.heap.size ≤ k) → K (a.put o.dst v') w') :
    if Region.wanted o (yielded ops a.tmps) = true then Oper.wp Try.prog o a W K Q else E := by
  obtain ⟨i0, hi, hz0, hz1, hz2⟩ := info_parts Try.info3
  have hl2 := Own.lt hown
  have hrow : W.ownsRow base 3 1 v l.length (l.map (Value.int .i64)) := hown
  have hw : Region.wanted o (yielded ops a.tmps) = true := by simp [Region.wanted, hgd]
  rw [if_pos hw]
  obtain ⟨v', w', hr, hown', hgrow, _, hob⟩ := run_append_own_at (P := Try.prog) W base 22 o.type 3 i0 _ 1 8 Try.underlying22 hi hz0 hz1 hz2 rfl (by decide) v l.length (l.map (Value.int .i64)) hrow ⟨b, 0, none⟩ 1 1 [.int .i64 x] rfl (by
    intro j u hj
    match j, hj with
    | 0, hj => simp at hj; subst hj; simp [Addr.add, World.cell?, hnew]) (by
    intro u hu
    simp only [List.mem_cons, List.not_mem_nil, or_false] at hu
    subst hu; rfl) (by unfold maxLen; omega) (by omega) hb
  unfold Oper.wp execOp
  simp only [ho, resolve, invoke, builtin, Sem.run_bind, Sem.run_pure, Result.andThen_ok, List.map_toArray, List.map_cons, List.map_nil, hs, ht, hr]
  refine h v' w' ?_ ((Below.refl base W).grown hgrow hb fun k hk => (hl2 k hk).1) hgrow (hob.imp_right fun e => ⟨_, e, Nat.le_refl _⟩)
  show w'.ownsRow base 3 1 v' (l ++ [x]).length ((l ++ [x]).map (Value.int .i64))
  rw [List.length_append, List.map_append]; exact hown'

theorem heap2a (w : World) (o o' : Obj) : ((w.drew.alloc o).alloc o').heap[w.heap.size]? = some o := by
  show ((w.heap.push o).push o')[w.heap.size]? = _
  simp [Array.getElem?_push]
theorem heap2b (w : World) (o o' : Obj) : ((w.drew.alloc o).alloc o').heap[w.heap.size + 1]? = some o' := by
  show ((w.heap.push o).push o')[w.heap.size + 1]? = _
  rw [Array.getElem?_push, if_pos (by simp)]
theorem lt2a (w : World) (o o' : Obj) : w.heap.size < ((w.drew.alloc o).alloc o').heap.size := by
  show _ < ((w.heap.push o).push o').size
  simp; omega
theorem lt2b (w : World) (o o' : Obj) : w.heap.size + 1 < ((w.drew.alloc o).alloc o').heap.size := by
  show _ < ((w.heap.push o).push o').size
  simp

/-- Behind w: a slice of steps and one of integers, each of the making's own, apart; nothing else of old has turned. -/
structure Two (M : Nat) (w : World) (vl vd : Value) (W : World) (v : Value) (l : List (Int × Int)) (u : Value) (d : List Int) : Prop where
  ol : OwnL (M + 1) W v l
  od : Own (M + 1) W u d
  b : Below (M + 1) w W
  kp : ∀ k, k < w.heap.size → vl.ownBlock ≠ some k → vd.ownBlock ≠ some k → W.heap[k]? = w.heap[k]?
  bl : v.ownBlock = vl.ownBlock ∨ ∃ k, v.ownBlock = some k ∧ w.heap.size ≤ k
  bd : u.ownBlock = vd.ownBlock ∨ ∃ k, u.ownBlock = some k ∧ w.heap.size ≤ k
  dis : ∀ k, u.ownBlock = some k → v.ownBlock ≠ some k
  size : w.heap.size ≤ W.heap.size
  lt : M < W.heap.size

section
variable {M : Nat} {w W : World} {vl vd v u : Value} {l : List (Int × Int)} {d : List Int}
theorem Two.on (T : Two M w vl vd W v l u d) {W' : World} (hb : Below W.heap.size W W') : Two M w vl vd W' v l u d :=
  ⟨T.ol.keep (fun k hk => hb.block k (T.ol.lt k hk).2), T.od.keep (fun k hk => hb.block k (Own.lt T.od k hk).2), T.b.trans (hb.mono T.lt), fun k h1 h2 h3 => (hb.block k (Nat.lt_of_lt_of_le h1 T.size)).trans (T.kp k h1 h2 h3), T.bl, T.bd, T.dis, Nat.le_trans T.size hb.size, Nat.lt_of_lt_of_le T.lt hb.size⟩
theorem Two.alloc (T : Two M w vl vd W v l u d) (o : Obj) : Two M w vl vd (W.alloc o) v l u d := T.on ((Below.refl _ _).alloc (Nat.le_refl _) o)
theorem Two.cell (T : Two M w vl vd W v l u d) (o : Nat) : W.cell? ⟨M, o, none⟩ = w.cell? ⟨M, o, none⟩ := T.b.cell (p := ⟨M, o, none⟩) (Nat.lt_succ_self M)
theorem Two.fr (T : Two M w vl vd W v l u d) (o : Nat) : W.frozen? ⟨M, o, none⟩ = w.frozen? ⟨M, o, none⟩ := T.b.frozen (p := ⟨M, o, none⟩) (Nat.lt_succ_self M)

theorem step_twoL {ops : Array Oper} {o : Oper} {a : Act} {K : Act → World → Prop} {Q : Exit → Act → World → Prop} {E : Prop} (T : Two M w vl vd W v l u d) (hgd : o.guard = none) (s t : Operand)
    (ho : o.op = .call { callee := .builtin .append, args := #[s, t], argTypes := #[75, 75] }) (x : Int × Int) (b : Nat)
    (hs : a.eval s = v) (ht : a.eval t = .slice (some ⟨b, 0, none⟩) 1 1) (hnew : W.heap[b]? = some (.cells #[.int .u8 x.1, .int .i64 x.2] 82 (0, 0))) (hlen : l.length ≤ 10000000)
    (h : ∀ a' n q w', Two M w vl vd w' (.slice a' n q) (l ++ [x]) u d → (∀ k, k < W.heap.size → v.ownBlock ≠ some k → w'.heap[k]? = W.heap[k]?) → K (a.put o.dst (.slice a' n q)) w') :
    if Region.wanted o (yielded ops a.tmps) = true then Oper.wp Try.prog o a W K Q else E := by
  refine step_appL W hgd s t ho (M + 1) v l x b T.ol hs ht hnew T.lt hlen fun v' w' hO hB hG hob => ?_
  obtain ⟨a', n, q, rfl⟩ := ownsRow_slice (Classical.choose_spec hO).1
  refine h a' n q w' ⟨hO, T.od.keep (fun k hk => hG.block k (Own.lt T.od k hk).2 (fun e => T.dis k hk e.symm)), T.b.trans hB, fun k h1 h2 h3 => ?_, ?_, T.bd, fun k hk e => ?_, Nat.le_trans T.size hG.size, Nat.lt_of_lt_of_le T.lt hG.size⟩ (fun k h1 h2 => hG.block k h1 (fun e => h2 e.symm))
  · refine (hG.block k (Nat.lt_of_lt_of_le h1 T.size) (fun e => ?_)).trans (T.kp k h1 h2 h3)
    rcases T.bl with h4 | ⟨j, h4, h5⟩
    · exact h2 (h4 ▸ e.symm)
    · rw [h4] at e; injection e with e; omega
  · rcases hob with h4 | ⟨j, h4, h5⟩
    · rcases T.bl with h6 | ⟨j, h6, h7⟩
      · exact .inl (h4.trans h6)
      · exact .inr ⟨j, h4.trans h6, h7⟩
    · exact .inr ⟨j, h4, Nat.le_trans T.size h5⟩
  · rcases hob with h4 | ⟨j, h4, h5⟩
    · exact T.dis k hk (h4 ▸ e)
    · rw [h4] at e; injection e with e
      have := (Own.lt T.od k hk).2; omega

theorem step_twoD {ops : Array Oper} {o : Oper} {a : Act} {K : Act → World → Prop} {Q : Exit → Act → World → Prop} {E : Prop} (T : Two M w vl vd W v l u d) (hgd : o.guard = none) (s t : Operand)
    (ho : o.op = .call { callee := .builtin .append, args := #[s, t], argTypes := #[22, 22] }) (x : Int) (b : Nat)
    (hs : a.eval s = u) (ht : a.eval t = .slice (some ⟨b, 0, none⟩) 1 1) (hnew : W.heap[b]? = some (.cells #[.int .i64 x] 3 (0, 0))) (hlen : d.length ≤ 10000000)
    (h : ∀ a' n q w', Two M w vl vd w' v l (.slice a' n q) (d ++ [x]) → (∀ k, k < W.heap.size → u.ownBlock ≠ some k → w'.heap[k]? = W.heap[k]?) → K (a.put o.dst (.slice a' n q)) w') :
    if Region.wanted o (yielded ops a.tmps) = true then Oper.wp Try.prog o a W K Q else E := by
  refine step_app1h W hgd s t ho (M + 1) u d x b T.od hs ht hnew T.lt hlen fun v' w' hO hB hG hob => ?_
  obtain ⟨a', n, q, rfl⟩ := ownsRow_slice (show w'.ownsRow (M + 1) 3 1 v' (d ++ [x]).length ((d ++ [x]).map (Value.int .i64)) from hO)
  refine h a' n q w' ⟨T.ol.keep (fun k hk => hG.block k (T.ol.lt k hk).2 (fun e => T.dis k e.symm hk)), hO, T.b.trans hB, fun k h1 h2 h3 => ?_, T.bl, ?_, fun k hk e => ?_, Nat.le_trans T.size hG.size, Nat.lt_of_lt_of_le T.lt hG.size⟩ (fun k h1 h2 => hG.block k h1 (fun e => h2 e.symm))
  · refine (hG.block k (Nat.lt_of_lt_of_le h1 T.size) (fun e => ?_)).trans (T.kp k h1 h2 h3)
    rcases T.bd with h4 | ⟨j, h4, h5⟩
    · exact h3 (h4 ▸ e.symm)
    · rw [h4] at e; injection e with e; omega
  · rcases hob with h4 | ⟨j, h4, h5⟩
    · rcases T.bd with h6 | ⟨j, h6, h7⟩
      · exact .inl (h4.trans h6)
      · exact .inr ⟨j, h4.trans h6, h7⟩
    · exact .inr ⟨j, h4, Nat.le_trans T.size h5⟩
  · rcases hob with h4 | ⟨j, h4, h5⟩
    · exact T.dis k (h4 ▸ hk) e
    · rw [h4] at hk; injection hk with hk
      have := (T.ol.lt k e).2; omega
end
end Go.Proofs.Ytgmagldbfajedaa
