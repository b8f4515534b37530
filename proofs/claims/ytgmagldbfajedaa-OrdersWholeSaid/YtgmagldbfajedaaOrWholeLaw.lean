/-
  drydocklaw12.OrdersWhole: the walk owhole_walk (it returns true, and changes nothing below).
-/
import Derived.Test.YtgmagldbfajedaaOrNeedsLaw
import Derived.OwnWalk
import Derived.Maps.AppendAt
namespace Go.Proofs.Ytgmagldbfajedaa
open Go.RowKit

/-- One node more, behind nodes that lie as in w0; its rows lie outside the slice's own block. -/
theorem wpList_appX {ops : Array Oper} {rest : List Oper} {o : Oper} {a : Act} {Q : Exit → Act → World → Prop} (w w0 : World) (hgd : o.guard = none) (s t : Operand)
    (ho : o.op = .call { callee := .builtin .append, args := #[s, t], argTypes := #[36, 36] }) (base : Nat) (v : Value) (g : List Gr.Node) (x : Gr.Node) (ai sa : Option Addr) (li ci ls cs : Nat)
    (hown : OwnN w0 base w v g) (hw0 : Below w0.heap.size w0 w) (hb0 : w0.heap.size ≤ base) (hx : ∀ w', w.grownBy w' v.ownBlock → NodeV w' ai li ci sa ls cs x)
    (hs : a.eval s = v) (ht : a.eval t = .slice (some ⟨w.heap.size, 0, none⟩) 1 1) (hb : base ≤ w.heap.size) (hlen : g.length ≤ 10000000)
    (hK : ∀ a' l' c' w', Nodes w' a' l' c' (g ++ [x]) → Below base w w' → wpList Try.prog ops Q rest (a.put o.dst (.slice a' l' c')) w') :
    wpList Try.prog ops Q (o :: rest) a (w.alloc (.cells #[.int .u8 x.kind, .slice ai li ci, .slice sa ls cs, .int .i64 x.n, .int .i64 x.pad] 46)) := by
  obtain ⟨i0, hi, hz0, hz1, hz2⟩ := info_parts Try.info46
  obtain ⟨vs, hrow, hvs⟩ := hown
  have hl2 := World.ownsRow.lt hrow
  refine wpList_append_own_at _ hgd s t 36 ho base 46 i0 _ 5 72 Try.underlying36 hi hz0 hz1 hz2 rfl (by decide) v g.length vs hs (hrow.alloc _) ⟨w.heap.size, 0, none⟩ 1 1 [.int .u8 x.kind, .slice ai li ci, .slice sa ls cs, .int .i64 x.n, .int .i64 x.pad] ht rfl
    (fun j u hu => ?_) (fun u hu => ?_) ?_ ?_ (by simp; omega) ?_
  · rw [Addr.add_lit, World.cell?_alloc_at _ _ _ _ rfl]
    rw [← hu]; simp
  · simp only [List.mem_cons, List.not_mem_nil, or_false] at hu
    rcases hu with rfl | rfl | rfl | rfl | rfl <;> rfl
  · unfold maxLen; omega
  · omega
  · intro v' w' hown' hgrow _ hob
    have hga : w.grownBy w' v.ownBlock := ⟨hgrow.os, hgrow.tape, hgrow.output, Nat.le_trans (by simp) hgrow.size, fun k hk hn => (hgrow.block k (by simp; omega) hn).trans (Below.heap_alloc _ _ _ hk)⟩
    have hB : Below base w w' := (Below.refl base w).grown hga hb fun k hk => (hl2 k hk).1
    have hB0 : Below w0.heap.size w0 w' := hw0.trans (hB.mono hb0)
    have hO : OwnN w' base w' v' (g ++ [x]) := by
      refine ⟨vs ++ [.int .u8 x.kind, .slice ai li ci, .slice sa ls cs, .int .i64 x.n, .int .i64 x.pad], by rw [List.length_append]; exact hown', fun i hil => ?_⟩
      have hvl : vs.length = g.length * 5 := hrow.1
      by_cases hlt : i < g.length
      · rw [nodeN_append_left _ _ _ hlt]
        obtain ⟨bi, mi, di, sb, ms, ds, e0, e1, e2, e3, e4, hv⟩ := hvs i hlt
        refine ⟨bi, mi, di, sb, ms, ds, ?_, ?_, ?_, ?_, ?_, hv.below hB0⟩ <;> (rw [List.getElem?_append_left (by omega)]; assumption)
      · have he : i = g.length := by rw [List.length_append] at hil; simp at hil; omega
        subst he
        rw [show nodeN (g ++ [x]) g.length = x by simp [nodeN]]
        refine ⟨ai, li, ci, sa, ls, cs, ?_, ?_, ?_, ?_, ?_, hx w' hga⟩ <;> (rw [List.getElem?_append_right (by omega), hvl]; simp [Nat.add_sub_cancel_left])
    obtain ⟨a', l', c', rfl, hN⟩ := hO.nodes (by rw [List.length_append]; simp; omega)
    exact hK a' l' c' w' hN hB

theorem Od.ordO_of {g : List Gr.Node} (h : (Gr.shapes g).isSome = true) : Od.ordO g = some (Od.ordOf g) := if_pos h

set_option maxHeartbeats 4000000 in
set_option maxRecDepth 100000 in
theorem owhole_walk (a : Option Addr) (len cap : Nat) (g : List Gr.Node) (m : Int) (w : World) (HN : Nodes w a len cap g) (hm0 : 0 ≤ m) (hm1 : m ≤ 255) :
    Calls Try.prog 17 #[.agg #[.slice a len cap], .int .u8 m] w fun e w' => e = .returned (.bool true) ∧ Below w.heap.size w w' := by
  have LN := Lib.hid HN.length
  have hle := HN.le
  have hcl := HN.cap_le
  have hll := HN.len_le
  have K0 := Lib.hid (GSt.start HN)
  clear HN
  go_enter Try.func17, Try.ntmps17
  go_wp2_with fail
  refine (oalive_any _).mono ?_
  rintro e w2 ⟨rfl, hb⟩
  have K2 := Lib.hid (K0.out.on hb)
  have c2 := K2.out.cell
  clear hb K0
  go_wp2_with fail
  refine (gsize_any _ _ _ g _ K2.out.n).mono ?_
  rintro e w3 ⟨v, rfl, ⟨hv0, hv1⟩, hb⟩
  have K3 := Lib.hid (K2.out.on hb)
  have c3 := K3.out.cell
  clear hb c2
  by_cases hbig : 20000 < v
  · have d : decide (v > 20000) = true := decide_eq_true hbig
    go_wp2_with fail
    refine (oalive_any _).mono ?_
    rintro e w4 ⟨rfl, hb⟩
    have K4 := Lib.hid (K3.out.on hb)
    clear hb
    go_wp2
    go_ret
    exact ⟨rfl, K4.out.bel⟩
  have d : decide (v > 20000) = false := decide_eq_false hbig
  by_cases hbig2 : 31 < len
  · have d2 : decide ((len : Int) > 31) = true := decide_eq_true (by omega)
    go_wp2_with fail
    refine (oalive_any _).mono ?_
    rintro e w4 ⟨rfl, hb⟩
    have K4 := Lib.hid (K3.out.on hb)
    clear hb
    go_wp2
    go_ret
    exact ⟨rfl, K4.out.bel⟩
  have d2 : decide ((len : Int) > 31) = false := decide_eq_false (by omega)
  go_wp2_with fail
  refine (of_any _ _ _ g _ K3.out.n).mono ?_
  rintro e w4 ⟨hb, ⟨hs, rfl⟩ | ⟨L, aA, lA, cA, hs, rfl, hI⟩⟩
  · have K4 := Lib.hid (K3.out.on hb)
    clear hb hs c3
    go_wp2
    go_ret
    exact ⟨rfl, K4.out.bel⟩
  obtain ⟨hsh, rfl⟩ := Od.ordO_some hs
  obtain ⟨hio, hl1, hl2⟩ := Od.inn_ok hsh
  have HNd := Lib.hid (Od.need_of hl1 hio)
  have HIO := Lib.hid hio
  rw [LN.out] at hl1 hl2
  have K4 := Lib.hid (K3.out.on hb)
  have HA4 := Lib.hid hI
  have LA := Lib.hid hI.length
  have c4 := K4.out.cell
  obtain ⟨r, hr, hrl⟩ := rem_nat (n := len) hm0 (by omega)
  have hz : ((len : Int) == 0) = false := by simp; omega
  have HMS : Hid ((Gr.shapes (Od.more1 g (r : Int))).isSome = true) := by
    obtain ⟨s, hss⟩ := Option.isSome_iff_exists.1 hsh
    have := Gr.more_relu hss r (by rw [LN.out]; exact hrl)
    show (Gr.shapes (g ++ [⟨5, [(r : Int)], [], 0, 0⟩])).isSome = true
    rw [this, if_pos (by rw [LN.out]; omega)]; rfl
  have HMO := Lib.hid (Od.inn_ok HMS.out)
  have HMN := Lib.hid (Od.need_of (g := Od.more1 g (r : Int)) (by rw [Od.more1_length]; omega) HMO.out.1)
  obtain ⟨b, off, rfl, hbl, _⟩ := K4.out.n.at_ (by omega)
  clear hb c3 hI hs hsh hio K2 K3
  have HBs : w4.heap.size = w4.heap.size := rfl
  have HO0 : Hid (OwnN w4 w4.heap.size w4 (.slice none 0 0) []) := OwnN.nil _ _ _
  go_wp2_with (at_builtin; go_must (refine wpList_appN _ w4 rfl _ _ rfl w4.heap.size _ [] g b off len cap HO0.out K4.out.n rfl rfl (Nat.le_refl _) (by simp) (by omega) ?_))
  intro v1 w5 hO5 hB5 _
  have HO5 := Lib.hid hO5
  have HB5 := Lib.hid hB5
  clear hO5 hB5
  have HO6 := Lib.hid (HO5.out.below ((Below.refl _ _).alloc (Nat.le_refl _) (.cells #[.int .i64 (r : Int)] 3)))
  have HW6 : Hid (Below w4.heap.size w4 (w5.alloc (.cells #[.int .i64 (r : Int)] 3))) := HB5.out.alloc HB5.out.size _
  have hz5 := HB5.out.size
  have hvb := HO5.out
  have HNB : Hid (v1.ownBlock ≠ some w5.heap.size) := by
    obtain ⟨vs, h1, _⟩ := HO5.out
    intro h
    have := (World.ownsRow.lt h1 _ h).2
    omega
  have HNX : Hid (∀ w', (w5.alloc (.cells #[.int .i64 (r : Int)] 3)).grownBy w' v1.ownBlock → NodeV w' (some ⟨w5.heap.size, 0, none⟩) 1 1 none 0 0 ⟨5, [(r : Int)], [], 0, 0⟩) := fun w' hg => by
    refine nodeV_lit (Ints.grown (ints_lits w5 w5.heap.size [(r : Int)] rfl (by simp) (by intro n hn; simp at hn; subst hn; omega)) hg (fun p hp _ h => ?_)) Ints.nil (by omega) (by omega) (by omega) (by omega) (by omega)
    cases hp
    exact HNB.out h.symm
  clear hvb
  go_wp2_with (at_builtin; go_must (refine wpList_appX _ w4 rfl _ _ rfl w4.heap.size v1 g ⟨5, [(r : Int)], [], 0, 0⟩ _ _ _ _ _ _ HO6.out HW6.out (Nat.le_refl _) HNX.out rfl (by show Value.slice (some ⟨w5.heap.size + 1, 0, none⟩) 1 1 = _; simp) HW6.out.size (by have := LN.out; omega) ?_))
  intro aM lM cM w7 hN7 hB7
  have HN7 := Lib.hid hN7
  have K7 := Lib.hid (K4.out.on (HW6.out.trans hB7))
  have HA7 := Lib.hid (HA4.out.below (HW6.out.trans hB7))
  clear hN7 hB7 HO5 HB5 HO6 HW6 HNB HNX HO0 hz5 K4 HA4
  go_wp2_with fail
  refine (of_any _ _ _ (Od.more1 g (r : Int)) _ (HN7.out.on ((Below.refl _ _).alloc (Nat.le_refl _) _))).mono ?_
  rintro e w8 ⟨hb, hM⟩
  have HB8 : Hid (Below w7.heap.size w7 w8) := ((Below.refl _ _).alloc (Nat.le_refl _) _).trans (hb.mono (by simp))
  rcases hM with ⟨hM, _⟩ | ⟨L', aL, lL, cL, hM, rfl, hI⟩
  · rw [Od.ordO_of HMS.out] at hM; cases hM
  rw [Od.ordO_of HMS.out] at hM
  cases hM
  have K8 := Lib.hid (K7.out.on HB8.out)
  have HA8 := Lib.hid (HA7.out.below HB8.out)
  have HL8 := Lib.hid hI
  have LL := Lib.hid hI.length
  have hLle := hI.le
  have hLcl := hI.cap_le
  obtain ⟨hq2, hq1, hq0⟩ := Od.ord_more_last (k := r) (by rw [LN.out]; exact hrl) HIO.out HMN.out
  rw [LL.out] at hq2
  rw [LL.out, LN.out] at hq1
  rw [LL.out] at hq0
  have HIN : Hid (hasB (Od.ordOf g) (r : Int) = true → ∀ i, i < lL - 1 → hasB (Od.ordOf g) (nth (Od.ordOf (Od.more1 g (r : Int))) i) = true) := fun h i hi => Od.ord_more_in (by rw [LN.out]; exact hrl) HIO.out HNd.out HMN.out h (by rw [LL.out]; exact hi)
  have HRT : Hid (r = len - 1 → (Od.ordOf (Od.more1 g (r : Int))).take (lL - 1) = Od.ordOf g) := fun h => by
    have := Od.ord_more_root HIO.out HNd.out (by rw [LN.out, ← h]; exact HMN.out)
    rw [LN.out, ← h, LL.out] at this
    exact this
  have hLl : lL ≤ 33 := by
    have h1 := Od.placesF_length (Od.needed (Od.more1 g (r : Int))) 0
    have h2 := HMN.out.ln
    have h3 := LL.out
    have h4 := LN.out
    rw [Od.more1_length] at h2
    unfold Od.ordOf at h3
    omega
  clear hb hI K7 HA7 HN7 HB8 HMN HMO HMS HNd HIO
  generalize Od.ordOf (Od.more1 g (r : Int)) = M at *
  generalize Od.ordOf g = A at *
  obtain ⟨mL, rfl⟩ : ∃ mL, lL = mL + 2 := ⟨lL - 2, by omega⟩
  obtain ⟨bL, oL, rfl, hbL, hcL⟩ := HL8.out.at_ (by omega)
  have k1 := hcL (mL + 1) (by omega)
  have k0 := hcL mL (by omega)
  rw [show mL + 2 - 1 = mL + 1 by omega] at hq1
  rw [show mL + 2 - 2 = mL by omega] at hq0
  rw [hq1] at k1
  rw [hq0] at k0
  have hw1 : IntKind.i64.wrap ((mL : Int) + 2 - 1) = (mL : Int) + 1 := by rw [IntWalk.i64_in _ (by omega)]; omega
  have hw2 : IntKind.i64.wrap ((mL : Int) + 2 - 2) = (mL : Int) := by rw [IntWalk.i64_in _ (by omega)]; omega
  clear hcL hq0 hq1
  go_wp2_with fail
  go_loopg [12] (mL + 1) (fun gg i wr => ∃ k : Nat, k ≤ mL + 1 ∧ mL + 1 - k ≤ gg ∧ i = .int .i64 k ∧ Hid (Below w8.heap.size w8 wr))
  case atStart => exact ⟨0, Nat.zero_le _, by omega, rfl, Below.refl _ _⟩
  case round =>
    obtain ⟨k, hk, hg, rfl, HW⟩ := hrel
    have HAr := Lib.hid (HA8.out.below HW.out)
    have HLr := Lib.hid (HL8.out.below HW.out)
    obtain ⟨_, _, e, _, hcL⟩ := HLr.out.at_ (by omega)
    cases e
    by_cases hlt : k < mL + 1
    · have dlt : decide ((k : Int) < (mL : Int) + 1) = true := decide_eq_true (by omega)
      have kLk := hcL k (by omega)
      have HINk := Lib.hid (fun h => HIN.out h k (by omega))
      clear hcL
      generalize nth M k = x at *
      cases hin : hasB A (r : Int) with
      | false =>
        have HC := Lib.hid (in_any _ _ _ _ (r : Int) _ HAr.out)
        rw [hin] at HC
        clear hin
        go_wp2_with fail
        refine HC.out.mono ?_
        rintro e w9 ⟨rfl, rfl⟩
        go_wp2
        go_roundg (mL + 1 - (k + 1))
        case measure => exact Nat.lt_of_lt_of_le (Nat.sub_lt_sub_left hlt (Nat.lt_succ_self k)) hg
        case rel => exact ⟨k + 1, Nat.succ_le_of_lt hlt, Nat.le_refl _, by go_num, HW⟩
      | true =>
        have hin2 := HINk.out hin
        have HC := Lib.hid (in_any _ _ _ _ (r : Int) _ HAr.out)
        have HC2 := Lib.hid (in_any _ _ _ _ x _ HAr.out)
        rw [hin] at HC
        rw [hin2] at HC2
        clear hin hin2 HINk
        go_wp2_with fail
        refine HC.out.mono ?_
        rintro e w9 ⟨rfl, rfl⟩
        go_wp2_with fail
        refine HC2.out.mono ?_
        rintro e w9 ⟨rfl, rfl⟩
        go_wp2
        go_roundg (mL + 1 - (k + 1))
        case measure => exact Nat.lt_of_lt_of_le (Nat.sub_lt_sub_left hlt (Nat.lt_succ_self k)) hg
        case rel => exact ⟨k + 1, Nat.succ_le_of_lt hlt, Nat.le_refl _, by go_num, HW⟩
    · have dlt : decide ((k : Int) < (mL : Int) + 1) = false := decide_eq_false (by omega)
      clear hcL
      by_cases hre : r = len - 1
      · have dre : ((r : Int) == (len : Int) - 1) = true := by rw [beq_iff_eq]; omega
        have HE := Lib.hid (HRT.out hre)
        rw [show mL + 2 - 1 = mL + 1 by omega] at HE
        have hsl := run_take (some ⟨bL, oL, none⟩) (mL + 2) cL (mL + 1) (by omega) hLle
        rw [show (((mL + 1 : Nat)) : Int) = (mL : Int) + 1 by omega] at hsl
        have HTK := Lib.hid (HLr.out.take (mL + 1) (by omega))
        rw [HE.out] at HTK
        have hwn : IntKind.i64.wrap ((len : Int) - 1) = (len : Int) - 1 := IntWalk.i64_in _ (by omega)
        have HSB : Hid (((0 : Int) == 0 && sameB A A) = true) := by show _ = _; simp [sameB]
        go_wp2_with fail
        refine (is_any _ _ _ _ _ _ 0 A A _ HTK.out HAr.out).mono ?_
        rintro e w9 ⟨rfl, hb9⟩
        have HW9 := Lib.hid (HW.out.trans (hb9.mono HW.out.size))
        rw [HSB.out]
        clear hb9
        go_wp2
        go_ret
        exact ⟨rfl, (K8.out.on HW9.out).bel⟩
      · have dre : ((r : Int) == (len : Int) - 1) = false := by rw [beq_eq_false_iff_ne]; omega
        have hwn : IntKind.i64.wrap ((len : Int) - 1) = (len : Int) - 1 := IntWalk.i64_in _ (by omega)
        go_wp2
        go_ret
        exact ⟨rfl, (K8.out.on HW.out).bel⟩
end Go.Proofs.Ytgmagldbfajedaa
