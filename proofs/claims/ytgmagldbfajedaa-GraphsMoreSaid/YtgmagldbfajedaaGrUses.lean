/-
  graphs.Check, Weights, Input; drydocklaw01.GraphSize, SameGrids: contracts gcheck_any, weights_any, input_any, gsize_any, grids_any.
-/
import Derived.Test.YtgmagldbfajedaaGrShapesW
import Derived.Test.YtgmagldbfajedaaSame
namespace Go.Proofs.Ytgmagldbfajedaa
open Go.RowKit

theorem NodesIn.on {w w' : World} {a : Option Addr} {len cap : Nat} {g : List Gr.Node} (h : Nodes w a len cap g) (hb : Below w.heap.size w w') : Nodes w' a len cap g := NodesIn.below h hb hb

theorem gcheck_any (a : Option Addr) (len cap : Nat) (g : List Gr.Node) (w : World) (HN : Nodes w a len cap g) :
    Calls Try.prog 34 #[.agg #[.slice a len cap]] w fun e w' => e = .returned (.bool (Gr.shapes g).isSome) ∧ Below w.heap.size w w' := by
  go_enter Try.func34, Try.ntmps34
  go_wp2_with fail
  refine (gshapes_any _ _ _ g _ (HN.on ((Below.refl _ _).alloc (Nat.le_refl _) _))).mono ?_
  rintro e w1 ⟨hb, ⟨hs, rfl⟩ | ⟨s, a1, l1, hs, rfl, hG⟩⟩
  · have HS := Lib.hid hs
    have HB : Hid (Below w.heap.size w w1) := ((Below.refl _ _).alloc (Nat.le_refl _) _).trans (hb.mono (by simp))
    clear hs hb
    go_wp2
    go_ret
    exact ⟨by rw [HS.out]; rfl, HB.out⟩
  · have HS := Lib.hid hs
    have HB : Hid (Below w.heap.size w w1) := ((Below.refl _ _).alloc (Nat.le_refl _) _).trans (hb.mono (by simp))
    clear hs hb hG
    go_wp2
    go_ret
    exact ⟨by rw [HS.out]; rfl, HB.out⟩

theorem input1_any (kd n pad : Int) (ai sa : Option Addr) (li ci ls cs : Nat) (w : World) :
    Calls Try.prog 76 #[.agg #[.int .u8 kd, .slice ai li ci, .slice sa ls cs, .int .i64 n, .int .i64 pad]] w fun e w' => e = .returned (.bool (kd == 1)) ∧ Below w.heap.size w w' := by
  go_enter Try.func76, Try.ntmps76
  go_wp2
  go_ret
  exact ⟨rfl, (Below.refl _ _).alloc (Nat.le_refl _) _⟩

/-- The cells of the node at a place, in a later world. -/
theorem NodesIn.get {w w' : World} {a : Option Addr} {len cap : Nat} {g : List Gr.Node} (h : Nodes w a len cap g) (hb : Below w.heap.size w w') {k : Nat} (hk : k < len) :
    ∃ b off ai li ci sa ls cs, a = some ⟨b, off, none⟩ ∧ b < w.heap.size ∧ w'.cell? ⟨b, off + k * 5, none⟩ = some (.int .u8 (nodeN g k).kind) ∧ w'.cell? ⟨b, off + k * 5 + 1, none⟩ = some (.slice ai li ci) ∧
      w'.cell? ⟨b, off + k * 5 + 2, none⟩ = some (.slice sa ls cs) ∧ w'.cell? ⟨b, off + k * 5 + 3, none⟩ = some (.int .i64 (nodeN g k).n) ∧ w'.cell? ⟨b, off + k * 5 + 4, none⟩ = some (.int .i64 (nodeN g k).pad) ∧ NodeV w' ai li ci sa ls cs (nodeN g k) := by
  obtain ⟨b, off, rfl, hlt, hc⟩ := h.at_ (by omega)
  obtain ⟨ai, li, ci, sa, ls, cs, h0, h1, h2, h3, h4, hV⟩ := hc k hk
  exact ⟨b, off, ai, li, ci, sa, ls, cs, rfl, hlt, (hb.cell (p := ⟨b, _, none⟩) hlt).trans h0, (hb.cell (p := ⟨b, _, none⟩) hlt).trans h1, (hb.cell (p := ⟨b, _, none⟩) hlt).trans h2,
    (hb.cell (p := ⟨b, _, none⟩) hlt).trans h3, (hb.cell (p := ⟨b, _, none⟩) hlt).trans h4, hV.below hb⟩

set_option maxHeartbeats 1000000 in
theorem indexNode_any (a : Option Addr) (len cap : Nat) (g : List Gr.Node) (w : World) (HN : Nodes w a len cap g) :
    Calls Try.prog 75 #[.slice a len cap, .func (.func 76) #[] #[]] w fun e w' => e = .returned (.int .i64 (Gr.inputIx g)) ∧ Below w.heap.size w w' := by
  have KN := Lib.hid HN
  have LN := Lib.hid HN.length
  have hle := HN.le
  have hcl := HN.cap_le
  clear HN
  go_enter Try.func75, Try.ntmps75
  go_wp2
  go_loopg [8] len (fun gg i wr => ∃ k : Nat, k ≤ len ∧ len - k ≤ gg ∧ i = .int .i64 k ∧ Hid (∀ j (hj : j < g.length), j < k → g[j].kind ≠ 1) ∧ Hid (Below w.heap.size w wr))
  case atStart => exact ⟨0, Nat.zero_le _, by omega, rfl, fun j _ hj => absurd hj (Nat.not_lt_zero _), Below.refl _ _⟩
  case round =>
    obtain ⟨k, hk, hg, rfl, HT, HW⟩ := hrel
    by_cases hlt : k < len
    · obtain ⟨b, off, ai, li, ci, sa, ls, cs, rfl, _, n0, n1, n2, n3, n4, _⟩ := KN.out.get HW.out hlt
      have HK : Hid (g[k]'(by rw [LN.out]; exact hlt) = nodeN g k) := (nodeN_eq g k (by rw [LN.out]; exact hlt)).symm
      generalize (nodeN g k).n = nn at *
      generalize (nodeN g k).pad = pp at *
      by_cases c : (nodeN g k).kind = 1
      · have HR : Hid (Gr.inputIx g = (k : Int)) := by
          have h1 := Gr.inputN_eq (g := g) (k := k) (by rw [LN.out]; exact hlt) HT.out (by rw [HK.out]; exact c)
          show _ = _
          unfold Gr.inputIx
          rw [h1, if_pos (by rw [LN.out]; exact hlt)]
        have dc : ((nodeN g k).kind == 1) = true := by simp [c]
        clear c HK HT
        generalize (nodeN g k).kind = kd at *
        go_wp2_with fail
        refine (input1_any _ _ _ _ _ _ _ _ _ _).mono ?_
        rintro e w1 ⟨rfl, hb1⟩
        have HB1 := Lib.hid (HW.out.trans (hb1.mono HW.out.size))
        clear hb1 n0 n1 n2 n3 n4
        go_wp2
        go_ret
        exact ⟨by rw [HR.out]; rfl, HB1.out⟩
      · have HT2 : Hid (∀ j (hj : j < g.length), j < k + 1 → g[j].kind ≠ 1) := fun j hj hjk => by
          rcases Nat.lt_succ_iff_lt_or_eq.1 hjk with h | h
          · exact HT.out j hj h
          · subst h; rw [HK.out]; exact c
        have dc : ((nodeN g k).kind == 1) = false := by simp [c]
        clear c HK HT
        generalize (nodeN g k).kind = kd at *
        go_wp2_with fail
        refine (input1_any _ _ _ _ _ _ _ _ _ _).mono ?_
        rintro e w1 ⟨rfl, hb1⟩
        have HB1 := Lib.hid (HW.out.trans (hb1.mono HW.out.size))
        clear hb1 n0 n1 n2 n3 n4
        go_wp2
        go_roundg (len - (k + 1))
        case measure => omega
        case rel => exact ⟨k + 1, by omega, by omega, by go_num, HT2, HB1⟩
    · have HR : Hid (Gr.inputIx g = -1) := by
        have h1 := Gr.inputN_none (g := g) (fun j hj => HT.out j hj (by have := LN.out; omega))
        show _ = _
        unfold Gr.inputIx
        rw [h1, if_neg (by omega)]
      go_wp2
      go_ret
      exact ⟨by rw [HR.out]; rfl, HW.out⟩

theorem input_any (a : Option Addr) (len cap : Nat) (g : List Gr.Node) (w : World) (HN : Nodes w a len cap g) :
    Calls Try.prog 35 #[.agg #[.slice a len cap]] w fun e w' => e = .returned (.int .i64 (Gr.inputIx g)) ∧ Below w.heap.size w w' := by
  go_enter Try.func35, Try.ntmps35
  go_wp2_with fail
  refine (indexNode_any _ _ _ g _ (HN.on ((Below.refl _ _).alloc (Nat.le_refl _) _))).mono ?_
  rintro e w1 ⟨rfl, hb⟩
  have HB : Hid (Below w.heap.size w w1) := ((Below.refl _ _).alloc (Nat.le_refl _) _).trans (hb.mono (by simp))
  clear hb
  go_wp2
  go_ret
  exact ⟨rfl, HB.out⟩

/-- 'l = append(l, x)' on a slice of the call's own: behind the block of one cell that the operand lays. -/
theorem wpList_app1w {ops : Array Oper} {rest : List Oper} {o : Oper} {a : Act} {Q : Exit → Act → World → Prop} (w : World) (hgd : o.guard = none) (s t : Operand)
    (ho : o.op = .call { callee := .builtin .append, args := #[s, t], argTypes := #[22, 22] }) (base : Nat) (v : Value) (l : List Int) (x : Int)
    (hown : Own base w v l) (hs : a.eval s = v) (ht : a.eval t = .slice (some ⟨w.heap.size, 0, none⟩) 1 1) (hb : base ≤ w.heap.size) (hlen : l.length < 17592186044416)
    (h : ∀ v' w', Own base w' v' (l ++ [x]) → Below base w w' → w.grownBy w' v.ownBlock → wpList Try.prog ops Q rest (a.put o.dst v') w') :
    wpList Try.prog ops Q (o :: rest) a (w.alloc (.cells #[.int .i64 x] 3)) := by
  obtain ⟨i0, hi, hz0, hz1, hz2⟩ := info_parts Try.info3
  refine wpList_append_own _ hgd s t 22 ho base 3 i0 (.int .i64 0) 1 8 Try.underlying22 hi hz0 hz1 hz2 rfl (by decide) v l.length (l.map (Value.int .i64)) hs (hown.alloc _) ⟨w.heap.size, 0, none⟩ 1 1 [.int .i64 x] ht rfl ?_ ?_ ?_ ?_ ?_ ?_
  · intro j u hj
    match j, hj with
    | 0, hj => simp at hj; subst hj; simp [Addr.add]
  · intro u hu; simp at hu; subst hu; rfl
  · unfold maxLen; omega
  · omega
  · simp; omega
  · intro v' w' hown' hgrow _
    refine h v' w' ?_ ?_ ?_
    · unfold Own; simpa using hown'
    · refine ((Below.refl base w).alloc hb _).grown hgrow (by simp; omega) ?_
      intro k hk
      exact (World.ownsRow.lt hown k hk).1
    · exact ⟨hgrow.os, hgrow.tape, hgrow.output, Nat.le_trans (by simp) hgrow.size, fun k hk hn => (hgrow.block k (by simp; omega) hn).trans (Below.heap_alloc _ _ _ hk)⟩

set_option maxHeartbeats 2000000 in
theorem weights_any (a : Option Addr) (len cap : Nat) (g : List Gr.Node) (w : World) (HN : Nodes w a len cap g) :
    Calls Try.prog 38 #[.agg #[.slice a len cap]] w fun e w' => ∃ a1 l1, e = .returned (.slice a1 l1 l1) ∧ Ints w' a1 l1 l1 (Gr.weights g) ∧ Below w.heap.size w w' := by
  have KN := Lib.hid HN
  have LN := Lib.hid HN.length
  have hle := HN.le
  have hcl := HN.cap_le
  have hll := HN.len_le
  clear HN
  go_enter Try.func38, Try.ntmps38
  go_wp2
  go_loopg [2, 8] len (fun gg v i wr => ∃ k : Nat, k ≤ len ∧ len - k ≤ gg ∧ i = .int .i64 k ∧ Hid (Own w.heap.size wr v (Gr.weights (g.take k))) ∧ Hid (Below w.heap.size w wr))
  case atStart => exact ⟨0, Nat.zero_le _, by omega, rfl, Own.nil _ _, (Below.refl _ _).alloc (Nat.le_refl _) _⟩
  case round =>
    obtain ⟨k, hk, hg, rfl, HO, HW⟩ := hrel
    by_cases hlt : k < len
    · obtain ⟨b, off, ai, li, ci, sa, ls, cs, rfl, _, n0, n1, n2, n3, n4, _⟩ := KN.out.get HW.out hlt
      have HS := Lib.hid (Gr.weights_snoc (g := g) (k := k) (by rw [LN.out]; exact hlt))
      rw [← nodeN_eq g k (by rw [LN.out]; exact hlt)] at HS
      generalize (nodeN g k).n = nn at *
      generalize (nodeN g k).pad = pp at *
      generalize (nodeN g k).kind = kd at *
      have hln : (Gr.weights (g.take k)).length ≤ k := Nat.le_trans (Gr.weightsF_length _ _) (List.length_take_le _ _)
      by_cases c : kd = 2
      · have dc : (kd == 2) = true := by simp [c]
        rw [if_pos c] at HS
        clear c
        go_wp2_with (at_builtin; go_must (refine wpList_app1w _ rfl _ _ rfl w.heap.size _ _ _ (HO.out.below ((Below.refl _ _).alloc (Nat.le_refl _) _)) rfl (by simp [Act.eval]) ?c0 ?c1 ?_))
        case c0 => have := HW.out.size; simp; omega
        case c1 => omega
        intro v' w3 hown' hbel hgrow
        rw [← HS.out] at hown'
        have HO' := Lib.hid hown'
        have HW3 : Hid (Below w.heap.size w w3) := (HW.out.alloc HW.out.size _).trans hbel
        clear hown' hbel hgrow n0 n1 n2 n3 n4
        go_wp2
        go_roundg (len - (k + 1))
        case measure => exact Nat.lt_of_lt_of_le (Nat.sub_lt_sub_left hlt (Nat.lt_succ_self k)) hg
        case rel => exact ⟨k + 1, Nat.succ_le_of_lt hlt, Nat.le_refl _, by go_num, HO', HW3⟩
      · have dc : (kd == 2) = false := by simp [c]
        rw [if_neg c, List.append_nil] at HS
        clear c
        go_wp2
        go_roundg (len - (k + 1))
        case measure => exact Nat.lt_of_lt_of_le (Nat.sub_lt_sub_left hlt (Nat.lt_succ_self k)) hg
        case rel => exact ⟨k + 1, Nat.succ_le_of_lt hlt, Nat.le_refl _, by go_num, by rw [HS.out]; exact HO.out.below ((Below.refl _ _).alloc (Nat.le_refl _) _), HW.out.alloc HW.out.size _⟩
    · rw [List.take_of_length_le (by rw [LN.out]; omega)] at HO
      obtain ⟨a1, l1, c1, rfl, hq1, hq2, hq3, hI, _⟩ := HO.out.clipped (fun v hv => by have := Gr.weightsF_mem g 0 v hv; have := LN.out; omega)
      have HI := Lib.hid hI
      clear hI
      go_wp2_with fail
      refine (clip_any _ _ _ _ hq1 hq2 hq3).mono ?_
      rintro e w6 ⟨rfl, rfl⟩
      go_wp2
      go_ret
      exact ⟨_, _, rfl, HI.out, HW.out⟩
end Go.Proofs.Ytgmagldbfajedaa
