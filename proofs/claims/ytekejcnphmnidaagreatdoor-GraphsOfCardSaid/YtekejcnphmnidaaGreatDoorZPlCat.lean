import Derived.Test.YtekejcnphmnidaaGreatDoorZBh
import Derived.Lib.AppendZeros
namespace Go.Proofs.YtekejcnphmnidaaGreatDoor
open Go.RowKit
theorem wpList_appI {ops : Array Oper} {rest : List Oper} {o : Oper} {a : Act} {Q : Exit → Act → World → Prop} (w : World) (hgd : o.guard = none) (s t : Operand)
    (ho : o.op = .call { callee := .builtin .append, args := #[s, t], argTypes := #[22, 22] }) (base : Nat) (v : Value) (l l2 : List Int) (ad : Addr) (m c : Nat)
    (hown : Own base w v l) (h2 : Ints w (some ad) m c l2) (hs : a.eval s = v) (ht : a.eval t = .slice (some ad) m c) (hb : base ≤ w.heap.size) (hlen : l.length ≤ 1000000) (hlen2 : m ≤ 1000000)
    (h : ∀ v' w', Own base w' v' (l ++ l2) → Below base w w' → wpList Tryz.prog ops Q rest (a.put o.dst v') w') :
    wpList Tryz.prog ops Q (o :: rest) a w := by
  obtain ⟨i0, hi, hz0, hz1, hz2⟩ := info_parts Tryz.info3
  have hl2 := h2.length
  refine wpList_append_own _ hgd s t 22 ho base 3 i0 (.int .i64 0) 1 8 Tryz.underlying22 hi hz0 hz1 hz2 rfl (by decide) v l.length (l.map (Value.int .i64)) hs hown ad m c (l2.map (Value.int .i64)) ht ?_ ?_ ?_ ?_ ?_ hb ?_
  · rw [List.length_map, hl2]; omega
  · intro j u hj
    have hjl : j < l2.length := by have := (List.getElem?_eq_some_iff.1 hj).1; simpa using this
    obtain ⟨b, off, e, hlt, hc⟩ := h2.at_ (by omega)
    simp only [Option.some.injEq] at e
    subst e
    rw [Addr.add_lit, hc j (by omega), nth_eq l2 j hjl]
    rw [List.getElem?_map, List.getElem?_eq_getElem hjl] at hj
    simpa using hj
  · intro u hu; obtain ⟨x, _, rfl⟩ := List.mem_map.1 hu; rfl
  · unfold maxLen; omega
  · omega
  · intro v' w' hown' hgrow _
    refine h v' w' ?_ ((Below.refl base w).grown hgrow hb fun k hk => (World.ownsRow.lt hown k hk).1)
    unfold Own
    rw [List.length_append, List.map_append, hl2]
    exact hown'
theorem wpList_appIN {ops : Array Oper} {rest : List Oper} {o : Oper} {a : Act} {Q : Exit → Act → World → Prop} (w : World) (hgd : o.guard = none) (s t : Operand)
    (ho : o.op = .call { callee := .builtin .append, args := #[s, t], argTypes := #[22, 22] }) (base : Nat) (v : Value) (l l2 : List Int) (ad : Option Addr) (m c : Nat)
    (hown : Own base w v l) (h2 : Ints w ad m c l2) (hs : a.eval s = v) (ht : a.eval t = .slice ad m c) (hb : base ≤ w.heap.size) (hlen : l.length ≤ 1000000) (hlen2 : m ≤ 1000000)
    (h : ∀ v' w', Own base w' v' (l ++ l2) → Below base w w' → wpList Tryz.prog ops Q rest (a.put o.dst v') w') :
    wpList Tryz.prog ops Q (o :: rest) a w := by
  cases ad with
  | some ad => exact wpList_appI w hgd s t ho base v l l2 ad m c hown h2 hs ht hb hlen hlen2 h
  | none =>
    have hm : m = 0 := by
      rcases Nat.eq_zero_or_pos m with h0 | h0
      · exact h0
      · obtain ⟨b, off, e, _⟩ := h2.at_ h0; cases e
    subst hm
    have hl : l2 = [] := List.eq_nil_of_length_eq_zero h2.length
    subst hl
    rw [List.append_nil] at h
    have hrow : w.ownsRow base 3 1 v l.length (l.map (Value.int .i64)) := hown
    obtain ⟨i0, hi, hz0, hz1, hz2⟩ := info_parts Tryz.info3
    have hrun : (Builtin.append_ #[22, 22] o.type #[v, .slice none 0 c]).run Tryz.prog w = .ok v w := by
      rcases hrow.2 with ⟨rfl, h0⟩ | ⟨g, cap, cur, rfl, _, _, hnc, _⟩
      · simp [Builtin.append_, run_underlying Tryz.underlying22, sizeOf, typeInfo, hi, Builtin.lenOf, Builtin.firstCells]
      · simp [Builtin.append_, run_underlying Tryz.underlying22, sizeOf, typeInfo, hi, Builtin.lenOf, Builtin.firstCells, hnc, storeCells]
    exact Lib.wpList_append_run w hgd s t 22 22 ho v (.slice none 0 c) hs ht v w hrun (h v w hown (Below.refl _ _))
end Go.Proofs.YtekejcnphmnidaaGreatDoor
