/-
  slices.Clone of a slice of ints: contract clone_any. (Turned from the shelf's worked proof of slices.Clone.)
-/
import Derived.Test.YtgmagldbfajedaaOwn
import Derived.Lib.SliceRun
import Derived.Deep.DeepMust
namespace Go.Proofs.Ytgmagldbfajedaa
open Go.RowKit

set_option maxHeartbeats 2000000 in
set_option maxRecDepth 100000 in
theorem clone_any (a : Option Addr) (len cap : Nat) (l : List Int) (w : World) (H : Ints w a len cap l) (hbig : len ≤ 1000000) :
    Calls Try.prog 94 #[.slice a len cap] w fun e w' => ∃ v, e = .returned v ∧ Own w.heap.size w' v l ∧ Below w.heap.size w w' := by
  obtain ⟨i0, hi, hz0, hz1, hz2⟩ := info_parts Try.info3
  have q22 : ∀ (w : World) (a : Option Addr) (n c n' c' : Nat), (binOp .eql 22 (.slice a n c) (.slice none n' c')).run Try.prog w = .ok (.bool a.isNone) w := fun w a n c n' c' => Lib.run_eql_slice_nil w _ _ a n c n' c' Try.underlying22
  cases a with
  | none =>
    have hl : l = [] := List.eq_nil_of_length_eq_zero (by
      rw [H.length]
      apply Nat.eq_zero_of_not_pos
      intro h0
      obtain ⟨_, _, e, _⟩ := H.at_ h0
      cases e)
    have HL := Lib.hid hl
    clear H hl
    go_enter Try.func94, Try.ntmps94
    go_wp2
    go_ret
    exact ⟨_, rfl, by rw [HL.out]; exact Own.nil _ _, Below.refl _ _⟩
  | some ad =>
    have KH := Lib.hid H
    clear H
    go_enter Try.func94, Try.ntmps94
    go_wp2_with (at_builtin; go_must (refine wpList_append_own _ rfl _ _ 22 rfl w.heap.size 3 i0 (.int .i64 0) 1 8 Try.underlying22 hi hz0 hz1 hz2 rfl (by decide) _ _ _ rfl (World.ownsRow_made w #[] 0 (Nat.le_refl _) (Nat.zero_le _) rfl) ad len cap (l.map (Value.int .i64)) rfl ?qc1 ?qc2 ?qc3 ?qc4 ?qc5 ?qc6 ?_))
    case qc1 => rw [List.length_map, KH.out.length]; omega
    case qc2 =>
      intro j u hj
      have hjl : j < l.length := by have := (List.getElem?_eq_some_iff.1 hj).1; simpa using this
      obtain ⟨b, off, e, hlt, hc⟩ := KH.out.at_ (by rw [← KH.out.length]; omega)
      simp only [Option.some.injEq] at e
      subst e
      rw [Addr.add_lit]
      refine Lib.cell?_alloc_some _ ?_
      rw [hc j (by rw [← KH.out.length]; exact hjl), nth_eq l j hjl]
      rw [List.getElem?_map, List.getElem?_eq_getElem hjl] at hj
      simpa using hj
    case qc3 => intro u hu; obtain ⟨x, _, rfl⟩ := List.mem_map.1 hu; rfl
    case qc4 => unfold maxLen; omega
    case qc5 => omega
    case qc6 => simp
    intro v' w1 hown hgrow hnil
    have HL := Lib.hid KH.out.length
    go_wp2
    go_ret
    refine ⟨v', rfl, ?_, ?_⟩
    · unfold Own; rw [HL.out]; simpa using hown
    · exact ((Below.refl _ w).alloc (Nat.le_refl _) _).grown hgrow (by simp) (by intro k hk; simp [Value.ownBlock] at hk; omega)
end Go.Proofs.Ytgmagldbfajedaa
