/-
  For CostsMore: what GraphSize says (gsize2_any), SameCosts of two equal lists (sameCosts_any), a node of the arguments behind a twin (wpList_appY), a node as an argument (node_open).
-/
import Derived.Test.YtgmagldbfajedaaTwNodes
import Derived.Test.YtgmagldbfajedaaCoAlive
namespace Go.Proofs.Ytgmagldbfajedaa
open Go.RowKit

theorem neq_cost (a b c : Int) (w : World) : (binOp BinOp.neq 63 (.agg #[.int .i64 a, .int .i64 b, .int .i64 c]) (.agg #[.int .i64 a, .int .i64 b, .int .i64 c])).run Try.prog w = .ok (.bool false) w := by
  first
    | go_simp
    | simp [go_sem]

set_option maxHeartbeats 1000000 in
set_option maxRecDepth 100000 in
theorem sameCosts_any (a b : Option Addr) (len ca cb : Nat) (C D : List Co.Cost) (w : World) (HA : CostsIn w a len ca C) (HB : CostsIn w b len cb D) (hE : ∀ i, i < len → Co.costN D i = Co.costN C i) :
    Calls Try.prog 44 #[.slice a len ca, .slice b len cb] w fun e w' => e = .returned (.bool true) ∧ Below w.heap.size w w' := by
  have KA := Lib.hid HA
  have KB := Lib.hid HB
  have HE := Lib.hid hE
  have hla := HA.le
  have hlb := HB.le
  have hca := HA.cap_le
  have hcb := HB.cap_le
  clear HA HB hE
  go_enter Try.func44, Try.ntmps44
  go_wp2
  go_loopg [5] len (fun gg i wr => ∃ k : Nat, k ≤ len ∧ len - k ≤ gg ∧ i = .int .i64 k ∧ Hid (Below w.heap.size w wr))
  case atStart => exact ⟨0, Nat.zero_le _, by omega, rfl, Below.refl _ _⟩
  case round =>
    obtain ⟨k, hk, hg, rfl, HW⟩ := hrel
    by_cases hlt : k < len
    · have dlt : decide ((k : Int) < (len : Int)) = true := decide_eq_true (by omega)
      obtain ⟨bA, oA, rfl, _, hcA⟩ := (KA.out.below HW.out).at_ (by omega)
      obtain ⟨bB, oB, rfl, _, hcB⟩ := (KB.out.below HW.out).at_ (by omega)
      obtain ⟨a0, a1, a2⟩ := hcA k hlt
      obtain ⟨b0, b1, b2⟩ := hcB k hlt
      rw [HE.out k hlt] at b0 b1 b2
      clear hcA hcB
      generalize (Co.costN C k).bytes = x0 at *
      generalize (Co.costN C k).need = x1 at *
      generalize (Co.costN C k).work = x2 at *
      have hq : ∀ w, (binOp BinOp.neq 63 (.agg #[.int .i64 x0, .int .i64 x1, .int .i64 x2]) (.agg #[.int .i64 x0, .int .i64 x1, .int .i64 x2])).run Try.prog w = .ok (.bool false) w := fun w => neq_cost x0 x1 x2 w
      go_wp2_with fail
      go_quiet (fail)
      have HWq := Lib.hid (HW.out.trans (below_drewN wr nq _))
      go_wp2
      go_roundg (len - (k + 1))
      case measure => exact Nat.lt_of_lt_of_le (Nat.sub_lt_sub_left hlt (Nat.lt_succ_self k)) hg
      case rel => exact ⟨k + 1, Nat.succ_le_of_lt hlt, Nat.le_refl _, by go_num, HWq⟩
    · have dlt : decide ((k : Int) < (len : Int)) = false := decide_eq_false (by omega)
      go_wp2
      go_ret
      exact ⟨rfl, HW.out⟩

theorem nsize2_any (kd n pad : Int) (ai sa : Option Addr) (li ci ls cs : Nat) (w : World) (h1 : li ≤ 17592186044416) (h2 : ls ≤ 17592186044416) :
    Calls Try.prog 105 #[.agg #[.int .u8 kd, .slice ai li ci, .slice sa ls cs, .int .i64 n, .int .i64 pad]] w fun e w' => ∃ v : Int, e = .returned (.int .i64 v) ∧ (0 ≤ v ∧ v ≤ 40000000000000) ∧ (v ≤ 20000 → li ≤ 20000 ∧ ls ≤ 20000) ∧ Below w.heap.size w w' := by
  by_cases c : 1 + (li : Int) ≤ 1048576
  · have d : decide (1 + (li : Int) ≤ 1048576) = true := decide_eq_true c
    go_enter Try.func105, Try.ntmps105
    go_wp2_with fail
    refine (isize_any _ _ _ _).mono ?_
    rintro e w1 ⟨rfl, rfl⟩
    go_wp2_with fail
    refine (isize_any _ _ _ _).mono ?_
    rintro e w1 ⟨rfl, rfl⟩
    go_wp2
    go_ret
    exact ⟨1 + li + ls, rfl, ⟨by omega, by omega⟩, fun h => by omega, (Below.refl _ _).alloc (Nat.le_refl _) _⟩
  · have d : decide (1 + (li : Int) ≤ 1048576) = false := decide_eq_false c
    go_enter Try.func105, Try.ntmps105
    go_wp2_with fail
    refine (isize_any _ _ _ _).mono ?_
    rintro e w1 ⟨rfl, rfl⟩
    go_wp2
    go_ret
    exact ⟨1 + li, rfl, ⟨by omega, by omega⟩, fun h => by omega, (Below.refl _ _).alloc (Nat.le_refl _) _⟩

/-- The first k nodes, and how many there are, are no more than a size. -/
def Sized (g : List Gr.Node) (len k : Nat) (v : Int) : Prop := (len : Int) ≤ v ∧ (v ≤ 20000 → ∀ i, i < k → (nodeN g i).inn.length ≤ 20000 ∧ (nodeN g i).shape.length ≤ 20000)

set_option maxHeartbeats 2000000 in
theorem nssize2_any (a : Option Addr) (len cap : Nat) (g : List Gr.Node) (w : World) (HN : Nodes w a len cap g) :
    Calls Try.prog 67 #[.slice a len cap] w fun e w' => ∃ v : Int, e = .returned (.int .i64 v) ∧ (0 ≤ v ∧ v ≤ 90000000000000) ∧ Sized g len len v ∧ Below w.heap.size w w' := by
  have KN := Lib.hid HN
  have hle := HN.le
  have hcl := HN.cap_le
  have hll := HN.len_le
  clear HN
  go_enter Try.func67, Try.ntmps67
  go_wp2
  go_loopg [3, 4] len (fun gg n i wr => ∃ (k : Nat) (v : Int), k ≤ len ∧ len - k ≤ gg ∧ i = .int .i64 k ∧ n = .int .i64 v ∧ 0 ≤ v ∧ v ≤ 90000000000000 ∧ Hid (Sized g len k v) ∧ Hid (Below w.heap.size w wr))
  case atStart => exact ⟨0, len, Nat.zero_le _, by omega, rfl, rfl, by omega, by omega, ⟨Int.le_refl _, fun _ i h => by omega⟩, Below.refl _ _⟩
  case round =>
    obtain ⟨k, v, hk, hg, rfl, rfl, hv0, hv1, HS, HW⟩ := hrel
    by_cases hlt : k < len
    · by_cases c : v ≤ 1048576
      · have d : decide (v ≤ 1048576) = true := decide_eq_true c
        obtain ⟨b, off, ai, li, ci, sa, ls, cs, rfl, _, n0, n1, n2, n3, n4, hV⟩ := KN.out.get HW.out hlt
        have hl1 := hV.li
        have hl2 := hV.ls
        have HL1 := Lib.hid hV.i.length
        have HL2 := Lib.hid hV.s.length
        clear hV
        generalize (nodeN g k).n = nn at *
        generalize (nodeN g k).pad = pp at *
        generalize (nodeN g k).kind = kd at *
        go_wp2_with fail
        refine (nsize2_any _ _ _ _ _ _ _ _ _ _ hl1 hl2).mono ?_
        rintro e w1 ⟨u, rfl, ⟨hu0, hu1⟩, hu2, hb1⟩
        have HB1 := Lib.hid (HW.out.trans (hb1.mono HW.out.size))
        have HS2 : Hid (Sized g len (k + 1) (v + u)) := by
          obtain ⟨s1, s2⟩ := HS.out
          refine ⟨by omega, fun h i hi => ?_⟩
          by_cases e : i = k
          · subst e
            rw [HL1.out, HL2.out]
            exact hu2 (by omega)
          · exact s2 (by omega) i (by omega)
        clear hb1 n0 n1 n2 n3 n4 hu2
        go_wp2
        go_roundg (len - (k + 1))
        case measure => exact Nat.lt_of_lt_of_le (Nat.sub_lt_sub_left hlt (Nat.lt_succ_self k)) hg
        case rel => exact ⟨k + 1, v + u, Nat.succ_le_of_lt hlt, Nat.le_refl _, by go_num, by go_num, by omega, by omega, HS2, HB1⟩
      · have d : decide (v ≤ 1048576) = false := decide_eq_false c
        go_wp2
        go_ret
        exact ⟨v, rfl, ⟨hv0, hv1⟩, ⟨HS.out.1, fun h => by omega⟩, HW.out⟩
    · obtain rfl : k = len := by omega
      go_wp2
      go_ret
      exact ⟨v, rfl, ⟨hv0, hv1⟩, HS.out, HW.out⟩

theorem gsize2_any (a : Option Addr) (len cap : Nat) (g : List Gr.Node) (w : World) (HN : Nodes w a len cap g) :
    Calls Try.prog 32 #[.agg #[.slice a len cap]] w fun e w' => ∃ v : Int, e = .returned (.int .i64 v) ∧ (0 ≤ v ∧ v ≤ 90000000000001) ∧ Sized g len len v ∧ Below w.heap.size w w' := by
  go_enter Try.func32, Try.ntmps32
  go_wp2_with fail
  refine (nssize2_any _ _ _ g _ (HN.on ((Below.refl _ _).alloc (Nat.le_refl _) _))).mono ?_
  rintro e w1 ⟨v, rfl, ⟨hv0, hv1⟩, hS, hb⟩
  have HS := Lib.hid hS
  have HB := Lib.hid (((Below.refl _ _).alloc (Nat.le_refl _) _).trans (hb.mono (by simp)))
  clear hb hS
  go_wp2
  go_ret
  exact ⟨1 + v, rfl, ⟨by omega, by omega⟩, ⟨by have := HS.out.1; omega, fun h => HS.out.2 (by omega)⟩, HB.out⟩

/-- A node of the arguments, behind a twin; a cell in another block may be stored into behind that. -/
theorem wpList_appY {ops : Array Oper} {rest : List Oper} {o : Oper} {a : Act} {Q : Exit → Act → World → Prop} (w w0 : World) (hgd : o.guard = none) (s t : Operand)
    (ho : o.op = .call { callee := .builtin .append, args := #[s, t], argTypes := #[36, 36] }) (base : Nat) (v : Value) (g : List Gr.Node) (f h : Nat → Nat) (x : Gr.Node) (ai sa : Option Addr) (li ci ls cs Hb : Nat)
    (hown : OwnT base w v f h g) (hwf : ∀ i, i < g.length → NodeWf (nodeN g i)) (hx : NodeV w0 ai li ci sa ls cs x) (hw0 : Below w0.heap.size w0 w) (hb0 : w0.heap.size ≤ base) (hH : base ≤ Hb) (hHw : Hb < w.heap.size) (hHf : ∀ i, i < g.length → Hb ≠ f i ∧ Hb ≠ h i) (hHo : v.ownBlock ≠ some Hb)
    (hs : a.eval s = v) (ht : a.eval t = .slice (some ⟨w.heap.size, 0, none⟩) 1 1) (hlen : g.length ≤ 10000000)
    (hK : ∀ a' l' c' w', (∀ u, Nodes (w'.setCell ⟨Hb, 0, none⟩ u) a' l' c' (g ++ [x])) → Below base w w' → w.grownBy w' v.ownBlock → wpList Try.prog ops Q rest (a.put o.dst (.slice a' l' c')) w') :
    wpList Try.prog ops Q (o :: rest) a (w.alloc (.cells #[.int .u8 x.kind, .slice ai li ci, .slice sa ls cs, .int .i64 x.n, .int .i64 x.pad] 46)) := by
  obtain ⟨i0, hi, hz0, hz1, hz2⟩ := info_parts Try.info46
  obtain ⟨hl1, hl2⟩ := hown.lts
  obtain ⟨⟨vs, hrow, hvs⟩, i1, i2, i3⟩ := hown
  refine wpList_append_own_at _ hgd s t 36 ho base 46 i0 _ 5 72 Try.underlying36 hi hz0 hz1 hz2 rfl (by decide) v g.length vs hs (hrow.alloc _) ⟨w.heap.size, 0, none⟩ 1 1 [.int .u8 x.kind, .slice ai li ci, .slice sa ls cs, .int .i64 x.n, .int .i64 x.pad] ht rfl
    (fun j u hu => ?_) (fun u hu => ?_) ?_ ?_ (by simp; omega) ?_
  · rw [Addr.add_lit, World.cell?_alloc_at _ _ _ _ rfl]
    rw [← hu]; simp
  · simp only [List.mem_cons, List.not_mem_nil, or_false] at hu
    rcases hu with rfl | rfl | rfl | rfl | rfl <;> rfl
  · unfold maxLen; omega
  · omega
  · intro v' w' hown' hgrow _ hob
    have hga : w.grownBy w' v.ownBlock := ⟨hgrow.os, hgrow.tape, hgrow.output, Nat.le_trans (by simp) hgrow.size, fun k hk hn => (hgrow.block k (by simp; omega) hn).trans (Below.heap_alloc _ _ _ hk)⟩
    have hB : Below base w w' := (Below.refl base w).grown hga (by omega) fun k hk => (hl2 k hk).1
    have hvl : vs.length = g.length * 5 := hrow.1
    have hvH : v'.ownBlock ≠ some Hb := by
      rcases hob with h1 | h1
      · rw [h1]; exact hHo
      · rw [h1]; intro e; injection e with e; simp at e; omega
    obtain ⟨r1, r2⟩ := hown'
    rcases r2 with ⟨_, r0⟩ | ⟨nb, cap, cur, hv, hg, hh, hn, hm, hc, ht'⟩
    · omega
    · subst hv
      have hnbH : Hb ≠ nb := fun e => hvH (by rw [e]; rfl)
      refine hK _ _ _ w' (fun u => ⟨hn, by unfold maxLen at hm; omega, by omega, by simp, fun _ => ⟨nb, 0, rfl, by simp [World.setCell]; exact (Array.getElem?_eq_some_iff.1 hh).1, fun i hil => ?_⟩⟩) hB hga
      have hcell : ∀ q y, (vs ++ [.int .u8 x.kind, .slice ai li ci, .slice sa ls cs, .int .i64 x.n, .int .i64 x.pad])[q]? = some y → (w'.setCell ⟨Hb, 0, none⟩ u).cell? ⟨nb, 0 + q, none⟩ = some y := fun q y hy => by
        have hne2 : (⟨nb, 0 + q, none⟩ : Addr) ≠ ⟨Hb, 0, none⟩ := fun c => hnbH (Addr.mk.inj c).1.symm
        rw [World.cell?_setCell_other _ _ _ _ (by first | exact hne2 | exact hne2.symm), Nat.zero_add, show w'.cell? ⟨nb, q, none⟩ = cur[q]? by simp [World.cell?, hh]]
        rw [← ht', List.getElem?_take] at hy
        split at hy
        · simpa using hy
        · cases hy
      by_cases hlt : i < g.length
      · rw [nodeN_append_left _ _ _ hlt]
        obtain ⟨ui, ush, e0, e1, e2, e3, e4, q1, q2⟩ := hvs i hlt
        obtain ⟨w1, w2, w3, w4, w5, w6, w7⟩ := hwf i hlt
        obtain ⟨oi, ci', rfl, m1⟩ := (q1.grown hga (i3 i hlt).1).store Hb 0 u (hHf i hlt).1
        obtain ⟨os, cs', rfl, m2⟩ := (q2.grown hga (i3 i hlt).2).store Hb 0 u (hHf i hlt).2
        have hl : ∀ q y, vs[q]? = some y → (vs ++ [.int .u8 x.kind, .slice ai li ci, .slice sa ls cs, .int .i64 x.n, .int .i64 x.pad])[q]? = some y := fun q y hy => by
          rw [List.getElem?_append_left (List.getElem?_eq_some_iff.1 hy).1]; exact hy
        exact ⟨_, _, _, _, _, _, hcell _ _ (hl _ _ e0), hcell _ _ (hl _ _ e1), hcell _ _ (hl _ _ e2), hcell _ _ (hl _ _ e3), hcell _ _ (hl _ _ e4), ⟨m1.ints w6, m2.ints w7, w1, w2, w3, w4, w5⟩⟩
      · have he : i = g.length := by omega
        subst he
        rw [show nodeN (g ++ [x]) g.length = x by simp [nodeN]]
        refine ⟨ai, li, ci, sa, ls, cs, hcell (g.length * 5) _ ?_, hcell (g.length * 5 + 1) _ ?_, hcell (g.length * 5 + 2) _ ?_, hcell (g.length * 5 + 3) _ ?_, hcell (g.length * 5 + 4) _ ?_, hx.below (below_setCell (hw0.trans (hB.mono hb0)) _ _ _ (by omega))⟩ <;> (rw [List.getElem?_append_right (by omega), hvl]; simp [Nat.add_sub_cancel_left])

section
open Go.ChangeShapes Go.WideShapes Go.ChangeAt
variable {H : Type} {enc : TypeId × Value → H} {W : World}
theorem array5 {α : Type} {cs : Array α} (h : cs.size = 5) : ∃ c0 c1 c2 c3 c4, cs = #[c0, c1, c2, c3, c4] := by
  obtain ⟨l⟩ := cs
  match l, h with
  | [c0, c1, c2, c3, c4], _ => exact ⟨c0, c1, c2, c3, c4, rfl⟩
set_option maxRecDepth 100000 in
theorem node_open {base : Nat} {v : Value} {d : DataW H} {p : List MemPlace} (hv : Value.okWide Try.prog W .any base 46 v) (h : DataW.Trod enc Try.prog W 0 (fun _ => true) true 46 v d p)
    (hlt : ∀ x ∈ p, x.block < W.heap.size) (hw : ∀ m ∈ d.weights Try.prog 46, m ≤ reachBytes) : ∃ ai li ci sa ls cs x, v = .agg #[.int .u8 x.kind, .slice ai li ci, .slice sa ls cs, .int .i64 x.n, .int .i64 x.pad] ∧ NodeV W ai li ci sa ls cs x := by
  obtain ⟨cs, rfl, hsz⟩ := okWide_struct Try.underlying46 hv
  obtain ⟨c0, c1, c2, c3, c4, rfl⟩ := array5 (hsz.trans Try.cells46)
  obtain ⟨fuel, hf⟩ := h
  obtain ⟨xs, n, _, hx, hl, hlen, hfs⟩ := DataW.trod_struct Try.underlying46 hf
  match xs, hlen with
  | [y0, y1, y2, y3, y4], _ =>
    simp only [Prod.mk.injEq] at hx
    obtain ⟨rfl, rfl⟩ := hx
    have f0 : DataW.trod enc Try.prog W 0 (fun _ => true) true n 44 [c0] = some y0 := by simpa [Value.cells, Try.cells44, Try.cells22, Try.cells3] using hfs 0 _ rfl
    have f1 : DataW.trod enc Try.prog W 0 (fun _ => true) true n 22 [c1] = some y1 := by simpa [Value.cells, Try.cells44, Try.cells22, Try.cells3] using hfs 1 _ rfl
    have f2 : DataW.trod enc Try.prog W 0 (fun _ => true) true n 22 [c2] = some y2 := by simpa [Value.cells, Try.cells44, Try.cells22, Try.cells3] using hfs 2 _ rfl
    have f3 : DataW.trod enc Try.prog W 0 (fun _ => true) true n 3 [c3] = some y3 := by simpa [Value.cells, Try.cells44, Try.cells22, Try.cells3] using hfs 3 _ rfl
    have f4 : DataW.trod enc Try.prog W 0 (fun _ => true) true n 3 [c4] = some y4 := by simpa [Value.cells, Try.cells44, Try.cells22, Try.cells3] using hfs 4 _ rfl
    simp only [List.flatMap_cons, List.flatMap_nil, List.append_nil, List.mem_append] at hlt
    simp only [DataW.weights, Try.underlying46, DataW.weightsEach, List.map_cons, List.map_nil, List.mem_append] at hw
    obtain ⟨kd, e0, _, w0⟩ := DataW.trod_int Try.underlying44 f0
    obtain ⟨ai, li, ci, inn, e1, i1, r1⟩ := ints_of_trod f1 (fun x hx => hlt x (by simp [hx])) (fun m hm => hw m (by simp [hm]))
    obtain ⟨sa, ls, cs', shp, e2, i2, r2⟩ := ints_of_trod f2 (fun x hx => hlt x (by simp [hx])) (fun m hm => hw m (by simp [hm]))
    obtain ⟨nn, e3, _, w3⟩ := DataW.trod_int Try.underlying3 f3
    obtain ⟨pad, e4, _, w4⟩ := DataW.trod_int Try.underlying3 f4
    simp only [List.cons.injEq, and_true] at e0 e1 e2 e3 e4
    subst e0; subst e1; subst e2; subst e3; subst e4
    exact ⟨ai, li, ci, sa, ls, cs', ⟨kd, inn, shp, nn, pad⟩, rfl, i1, i2, r1, r2, u8_bounds w0, wf_bounds w3, wf_bounds w4⟩
end
end Go.Proofs.Ytgmagldbfajedaa
