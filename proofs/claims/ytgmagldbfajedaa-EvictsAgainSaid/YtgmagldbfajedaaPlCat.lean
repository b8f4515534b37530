/-
  slices.Concat of rows of integers: contract concat_any.
-/
import Derived.Test.YtgmagldbfajedaaPlA
import Derived.Test.YtgmagldbfajedaaGrJoinedLaw
import Derived.Lib.AppendZeros
namespace Go.Proofs.Ytgmagldbfajedaa
open Go.RowKit

/-- 'append(l, m...)' of integers, m perhaps nil, on a slice of the call's own. -/
theorem wpList_appIN {ops : Array Oper} {rest : List Oper} {o : Oper} {a : Act} {Q : Exit → Act → World → Prop} (w : World) (hgd : o.guard = none) (s t : Operand)
    (ho : o.op = .call { callee := .builtin .append, args := #[s, t], argTypes := #[22, 22] }) (base : Nat) (v : Value) (l l2 : List Int) (ad : Option Addr) (m c : Nat)
    (hown : Own base w v l) (h2 : Ints w ad m c l2) (hs : a.eval s = v) (ht : a.eval t = .slice ad m c) (hb : base ≤ w.heap.size) (hlen : l.length ≤ 1000000) (hlen2 : m ≤ 1000000)
    (h : ∀ v' w', Own base w' v' (l ++ l2) → Below base w w' → wpList Try.prog ops Q rest (a.put o.dst v') w') :
    wpList Try.prog ops Q (o :: rest) a w := by
  cases ad with
  | some ad => exact wpList_appI w hgd s t ho base v l l2 ad m c hown h2 hs ht hb hlen hlen2 h
  | none =>
    have hm : m = 0 := by
      rcases Nat.eq_zero_or_pos m with h0 | h0
      · exact h0
      · obtain ⟨b, off, e, _⟩ := h2.at_ h0; cases e
    subst hm
    have hl : l2 = [] := List.eq_nil_of_length_eq_zero h2.length
    subst hl
    rw [List.append_nil] at h
    have hrow : w.ownsRow base 3 1 v l.length (l.map (Value.int .i64)) := hown
    obtain ⟨i0, hi, hz0, hz1, hz2⟩ := info_parts Try.info3
    have hrun : (Builtin.append_ #[22, 22] o.type #[v, .slice none 0 c]).run Try.prog w = .ok v w := by
      rcases hrow.2 with ⟨rfl, h0⟩ | ⟨g, cap, cur, rfl, _, _, hnc, _⟩
      · simp [Builtin.append_, run_underlying Try.underlying22, sizeOf, typeInfo, hi, Builtin.lenOf, Builtin.firstCells]
      · simp [Builtin.append_, run_underlying Try.underlying22, sizeOf, typeInfo, hi, Builtin.lenOf, Builtin.firstCells, hnc, storeCells]
    exact Lib.wpList_append_run w hgd s t 22 22 ho v (.slice none 0 c) hs ht v w hrun (h v w hown (Below.refl _ _))

theorem flat_snoc (L : List (List Int)) (k : Nat) (hk : k < L.length) : (L.take (k + 1)).flatten = (L.take k).flatten ++ rowL L k := by
  have e : L.take (k + 1) = L.take k ++ [rowL L k] := by
    rw [List.take_succ_eq_append_getElem hk]
    unfold rowL
    rw [List.getD_eq_getElem?_getD, List.getElem?_eq_getElem hk]; rfl
  rw [e, List.flatten_append]; simp
theorem flat_le (L : List (List Int)) (k : Nat) : (L.take k).flatten.length ≤ L.flatten.length := by
  have e := congrArg List.length (congrArg List.flatten (List.take_append_drop k L))
  rw [List.flatten_append, List.length_append] at e
  omega

theorem Try.int3 : Try.prog.underlying 3 = some (.int .i64) := by kernel_rfl

set_option maxHeartbeats 1000000 in
theorem grow_any (n : Nat) (w : World) (h1 : 1 ≤ n) (h2 : n ≤ 1000000) :
    Calls Try.prog 157 #[.slice none 0 0, .int .i64 n] w fun e w' => ∃ v, e = .returned v ∧ Own w.heap.size w' v [] ∧ Below w.heap.size w w' := by
  obtain ⟨i0, hi, hz0, hz1, hz2⟩ := info_parts Try.info3
  have hrun := fun ty => Lib.run_append_nil_zeros (P := Try.prog) w 22 3 ty 3 i0 (.int .i64 0) .i64 .i64 Try.underlying22 Try.int3 hi hz0 n h1 (by omega) (by omega) (by rw [hz2]; omega)
  have HRun := Lib.hid hrun
  have hcap : n ≤ grownCap w n 0 3 := grownCap_ge w n 0 3
  have hcap2 : grownCap w n 0 3 ≤ maxLen := grownCap_le_maxLen w n 0 3 (by unfold maxLen; omega)
  have HC2 := Lib.hid hcap2
  unfold maxLen at hcap2
  have HO : Hid (Own w.heap.size (w.drew.alloc (.cells (Builtin.zeroCells (Value.int .i64 0).cells n ++ Builtin.zeroCells (Value.int .i64 0).cells (grownCap w n 0 3 - n)) 3)) (.slice (some ⟨w.heap.size, 0, none⟩) 0 (grownCap w n 0 3)) []) :=
    World.ownsRow_made w.drew _ _ (Nat.le_refl _) HC2.out (by simp only [Array.size_append, size_zeroCells]; simp [Value.cells]; omega)
  have HB : Hid (Below w.heap.size w (w.drew.alloc (.cells (Builtin.zeroCells (Value.int .i64 0).cells n ++ Builtin.zeroCells (Value.int .i64 0).cells (grownCap w n 0 3 - n)) 3))) := (Below.refl _ _).drew.alloc (Nat.le_refl _) _
  have d0 : decide ((n : Int) < 0) = false := decide_eq_false (by omega)
  have d1 : decide ((n : Int) > 0) = true := decide_eq_true (by omega)
  clear hrun hi hz0 hz1 hz2
  generalize grownCap w n 0 3 = cp at *
  go_enter Try.func157, Try.ntmps157
  go_wp2_with (at_builtin; go_must (refine Lib.wpList_append_run _ rfl _ _ _ _ rfl _ _ rfl rfl _ _ (HRun.out _) ?_))
  go_wp2
  go_ret
  exact ⟨_, rfl, HO.out, HB.out⟩

set_option maxHeartbeats 2000000 in
set_option maxRecDepth 100000 in
theorem concat_any (a : Option Addr) (len cap : Nat) (L : List (List Int)) (w : World) (H : Grid w a len cap L) (h1 : 1 ≤ L.flatten.length) (h2 : L.flatten.length ≤ 1000000) (hl : len ≤ 1000) :
    Calls Try.prog 143 #[.slice a len cap] w fun e w' => ∃ v, e = .returned v ∧ Own w.heap.size w' v L.flatten ∧ Below w.heap.size w w' := by
  have KH := Lib.hid H
  have HL := Lib.hid H.length
  have hle := H.le
  have hcl := H.cap_le
  clear H
  go_enter Try.func143, Try.ntmps143
  go_wp2
  go_loopg [3, 11] len (fun gg s i wr => ∃ k : Nat, k ≤ len ∧ len - k ≤ gg ∧ i = .int .i64 k ∧ s = .int .i64 ((L.take k).flatten.length : Nat) ∧ Hid (Below w.heap.size w wr))
  case atStart => exact ⟨0, Nat.zero_le _, by omega, rfl, rfl, Below.refl _ _⟩
  case round =>
    obtain ⟨k, hk, hg, rfl, rfl, HB⟩ := hrel
    by_cases hlt : k < len
    · have dlt : decide ((k : Int) < (len : Int)) = true := decide_eq_true (by omega)
      obtain ⟨b, off, rfl, _, hc⟩ := (KH.out.below HB.out).at_ (by omega)
      obtain ⟨aR, lR, cR, kR, hR⟩ := hc k hlt
      have hRl := hR.length
      have hRc := hR.le
      have hRc2 := hR.cap_le
      have HS := Lib.hid (flat_snoc L k (by rw [HL.out]; exact hlt))
      have hs1 := flat_le L (k + 1)
      have hs2 : (L.take (k + 1)).flatten.length = (L.take k).flatten.length + lR := by rw [HS.out, List.length_append, hRl]
      have HS2 := Lib.hid hs2
      rw [hs2] at hs1
      clear hc hR hRl hs2 HS
      generalize (L.take k).flatten.length = s at *
      generalize L.flatten.length = tot at *
      have ds : decide ((s : Int) + (lR : Int) < 0) = false := decide_eq_false (by omega)
      go_wp2
      go_roundg (len - (k + 1))
      case measure => exact Nat.lt_of_lt_of_le (Nat.sub_lt_sub_left hlt (Nat.lt_succ_self k)) hg
      case rel => exact ⟨k + 1, Nat.succ_le_of_lt hlt, Nat.le_refl _, by go_num, by rw [HS2.out]; go_num, HB⟩
    · have dlt : decide ((k : Int) < (len : Int)) = false := decide_eq_false (by omega)
      rw [List.take_of_length_le (by rw [HL.out]; omega)]
      have HF : Hid (L.flatten.length = L.flatten.length) := rfl
      have HG := Lib.hid (grow_any L.flatten.length wr h1 h2)
      generalize hT : L.flatten.length = tot at *
      have HTT := Lib.hid hT
      clear hT
      go_wp2_with fail
      refine HG.out.mono ?_
      rintro e w1 ⟨v, rfl, hO, hb⟩
      have HO1 := Lib.hid hO
      have HB1 : Hid (Below w.heap.size w w1) := HB.out.trans (hb.mono HB.out.size)
      have HBs := Lib.hid HB.out.size
      have HW : Hid (Own w.heap.size w1 v (L.take 0).flatten) := ⟨hO.1, hO.2.imp_right fun ⟨g, cp, cur, e1, e2, r⟩ => ⟨g, cp, cur, e1, Nat.le_trans HBs.out e2, r⟩⟩
      clear hO hb
      go_wp2
      go_loopg [6, 27] len (fun gg u i wv => ∃ (j : Nat) (v : Value), j ≤ len ∧ len - j ≤ gg ∧ i = .int .i64 j ∧ v = u ∧ Hid (Own w.heap.size wv v (L.take j).flatten) ∧ Hid (Below w.heap.size w wv))
      case atStart => exact ⟨0, _, Nat.zero_le _, by omega, rfl, rfl, HW, HB1⟩
      case round =>
        rename World => wv
        obtain ⟨j, v, hj, hgj, rfl, rfl, HO, HBv⟩ := hrel
        by_cases hltj : j < len
        · have djl : decide ((j : Int) < (len : Int)) = true := decide_eq_true (by omega)
          obtain ⟨b, off, rfl, _, hc⟩ := (KH.out.below HBv.out).at_ (by omega)
          obtain ⟨aR, lR, cR, kR, hR⟩ := hc j hltj
          have HR := Lib.hid hR
          have hRc := hR.le
          have hRc2 := hR.cap_le
          have HS := Lib.hid (flat_snoc L j (by rw [HL.out]; exact hltj))
          have hq1 : (L.take j).flatten.length ≤ 1000000 := by have := flat_le L j; rw [HTT.out] at this; omega
          have hq2 : lR ≤ 1000000 := by
            have := flat_le L (j + 1)
            rw [HS.out, List.length_append, hR.length, HTT.out] at this; omega
          clear hc hR
          go_wp2_with (at_builtin; go_must (refine wpList_appIN _ rfl _ _ rfl w.heap.size _ _ _ aR lR cR HO.out HR.out rfl rfl HBv.out.size hq1 hq2 ?_))
          intro v' w3 hown' hbel
          rw [← HS.out] at hown'
          have HO' := Lib.hid hown'
          have HB3 : Hid (Below w.heap.size w w3) := HBv.out.trans hbel
          clear hown' hbel kR
          go_wp2
          go_roundg (len - (j + 1))
          case measure => exact Nat.lt_of_lt_of_le (Nat.sub_lt_sub_left hltj (Nat.lt_succ_self j)) hgj
          case rel => exact ⟨j + 1, _, Nat.succ_le_of_lt hltj, Nat.le_refl _, by go_num, rfl, HO', HB3⟩
        · have djl : decide ((j : Int) < (len : Int)) = false := decide_eq_false (by omega)
          rw [List.take_of_length_le (by rw [HL.out]; omega)] at HO
          go_wp2
          go_ret
          exact ⟨_, rfl, HO.out, HBv.out⟩
end Go.Proofs.Ytgmagldbfajedaa
