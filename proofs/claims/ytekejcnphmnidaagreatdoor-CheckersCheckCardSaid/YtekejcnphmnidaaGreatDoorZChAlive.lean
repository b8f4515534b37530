import Derived.Test.YtekejcnphmnidaaGreatDoorZChWalk
import Derived.Test.YtekejcnphmnidaaGreatDoorZTw
import Derived.Deep.RegionHeld3
import Derived.StillTailTactics
namespace Go.Proofs.YtekejcnphmnidaaGreatDoor
open Go.RowKit
theorem Tryz.info128 : (Tryz.prog.info? 128).map (fun i => (i.zero, i.size, i.bytes)) = some (some (.agg #[.int .u8 0, .int .i64 0]), 2, 16) := by kernel_rfl
def OwnL (base : Nat) (w : World) (v : Value) (l : List (Int × Int)) : Prop :=
  ∃ vs : List Value, w.ownsRow base 128 2 v l.length vs ∧ ∀ i, i < l.length → vs[i * 2]? = some (.int .u8 (stepN l i).1) ∧ vs[i * 2 + 1]? = some (.int .i64 (stepN l i).2)
theorem OwnL.nil (base : Nat) (w : World) : OwnL base w (.slice none 0 0) [] := ⟨[], World.ownsRow_nil w base 128 2, fun _ hi => absurd hi (Nat.not_lt_zero _)⟩
theorem OwnL.lt {base : Nat} {w : World} {v : Value} {l : List (Int × Int)} (h : OwnL base w v l) : ∀ k, v.ownBlock = some k → base ≤ k ∧ k < w.heap.size := by
  obtain ⟨vs, h1, _⟩ := h
  exact World.ownsRow.lt h1
theorem wpList_appL {ops : Array Oper} {rest : List Oper} {o : Oper} {a : Act} {Q : Exit → Act → World → Prop} (w : World) (hgd : o.guard = none) (s t : Operand)
    (ho : o.op = .call { callee := .builtin .append, args := #[s, t], argTypes := #[75, 75] }) (base : Nat) (v : Value) (l : List (Int × Int)) (x : Int × Int) (hown : OwnL base w v l)
    (hs : a.eval s = v) (ht : a.eval t = .slice (some ⟨w.heap.size, 0, none⟩) 1 1) (hbase : base ≤ w.heap.size) (hlen : l.length ≤ 10000000)
    (hK : ∀ v' w', OwnL base w' v' (l ++ [x]) → Below base w w' → w.grownBy w' v.ownBlock → (v'.ownBlock = v.ownBlock ∨ ∃ k, v'.ownBlock = some k ∧ w.heap.size < k) → wpList Tryz.prog ops Q rest (a.put o.dst v') w') :
    wpList Tryz.prog ops Q (o :: rest) a (w.alloc (.cells #[.int .u8 x.1, .int .i64 x.2] 128)) := by
  obtain ⟨i0, hi, hz0, hz1, hz2⟩ := info_parts Tryz.info128
  have hl2 := hown.lt
  obtain ⟨vs, hrow, hvs⟩ := hown
  refine wpList_append_own_at _ hgd s t 75 ho base 128 i0 _ 2 16 Tryz.underlying75 hi hz0 hz1 hz2 rfl (by decide) v l.length vs hs (hrow.alloc _) ⟨w.heap.size, 0, none⟩ 1 1 [.int .u8 x.1, .int .i64 x.2] ht rfl
    (fun j u hu => ?_) (fun u hu => ?_) ?_ ?_ (by simp; omega) ?_
  · rw [Addr.add_lit, World.cell?_alloc_at _ _ _ _ rfl]
    rw [← hu]; simp
  · simp only [List.mem_cons, List.not_mem_nil, or_false] at hu
    rcases hu with rfl | rfl <;> rfl
  · unfold maxLen; omega
  · omega
  · intro v' w' hown' hgrow _ hob
    have hga : w.grownBy w' v.ownBlock := ⟨hgrow.os, hgrow.tape, hgrow.output, Nat.le_trans (by simp) hgrow.size, fun k hk hn => (hgrow.block k (by simp; omega) hn).trans (Below.heap_alloc _ _ _ hk)⟩
    refine hK v' w' ⟨vs ++ [.int .u8 x.1, .int .i64 x.2], by rw [List.length_append]; exact hown', fun i hil => ?_⟩ ((Below.refl base w).grown hga hbase fun k hk => (hl2 k hk).1) hga ?_
    · have hvl : vs.length = l.length * 2 := hrow.1
      by_cases hlt : i < l.length
      · rw [stepN_left _ _ _ hlt]
        obtain ⟨e0, e1⟩ := hvs i hlt
        refine ⟨?_, ?_⟩ <;> (rw [List.getElem?_append_left (by omega)]; assumption)
      · have he : i = l.length := by rw [List.length_append] at hil; simp at hil; omega
        subst he
        rw [stepN_last]
        refine ⟨?_, ?_⟩ <;> (rw [List.getElem?_append_right (by omega), hvl]; simp [Nat.add_sub_cancel_left])
    · rcases hob with h1 | h1
      · exact .inl h1
      · exact .inr ⟨_, h1, by simp⟩
theorem slice_takeS (a : Option Addr) (len cap r : Nat) (h1 : r ≤ cap) (w : World) : (Instr.slice 75 (.slice a len cap) none (some (.int .i64 (r : Int))) none).run Tryz.prog w = .ok (.slice a r cap) w := by
  have h3 : Tryz.prog.elem 75 = 128 := by kernel_rfl
  rw [run_slice_h w 75 a len cap (by rw [h3]; exact Tryz.underlying75) .i64 (r : Int) (by omega) (by omega), h3]
  have e : (a.map fun x => x.add 0) = a := by cases a <;> simp [Addr.add]
  by_cases c : cap = 0
  · simp [go_sem, sliced, c]
  · simp [go_sem, sliced, c]
theorem take_snocS (l : List (Int × Int)) (k : Nat) (h : k < l.length) : l.take (k + 1) = l.take k ++ [stepN l k] := by
  rw [List.take_add_one, List.getElem?_eq_getElem h]
  simp [stepN, List.getElem?_eq_getElem h]
structure TwinS (w : World) (b len cap : Nat) (l : List (Int × Int)) : Prop where
  length : l.length = len
  row : ∃ vs, Row 2 w b 0 (len + 1) cap vs ∧ ∀ i, i < len + 1 → vs[i * 2]? = some (.int .u8 (stepN (l ++ [(0, 77)]) i).1) ∧ vs[i * 2 + 1]? = some (.int .i64 (stepN (l ++ [(0, 77)]) i).2)
theorem TwinS.lt {w : World} {b len cap : Nat} {l : List (Int × Int)} (h : TwinS w b len cap l) : b < w.heap.size := by obtain ⟨vs, h1, _⟩ := h.row; exact h1.lt
theorem TwinS.lec {w : World} {b len cap : Nat} {l : List (Int × Int)} (h : TwinS w b len cap l) : len + 1 ≤ cap := by obtain ⟨vs, h1, _⟩ := h.row; exact h1.le
theorem TwinS.cap_le {w : World} {b len cap : Nat} {l : List (Int × Int)} (h : TwinS w b len cap l) : cap ≤ 9223372036854775807 := by obtain ⟨vs, h1, _⟩ := h.row; exact h1.cap_le
theorem TwinS.keep {w w' : World} {b len cap : Nat} {l : List (Int × Int)} (h : TwinS w b len cap l) (hz : w.heap.size ≤ w'.heap.size) (hb : w'.heap[b]? = w.heap[b]?) : TwinS w' b len cap l := by
  obtain ⟨vs, h1, h2⟩ := h.row
  exact ⟨h.length, vs, h1.keep hz hb, h2⟩
theorem TwinS.below {w w' : World} {b len cap : Nat} {l : List (Int × Int)} (h : TwinS w b len cap l) (hb : Below w.heap.size w w') : TwinS w' b len cap l := h.keep hb.size (hb.block b h.lt)
theorem TwinS.cell {w : World} {b len cap : Nat} {l : List (Int × Int)} (h : TwinS w b len cap l) {i : Nat} (hi : i < len) : w.cell? ⟨b, i * 2, none⟩ = some (.int .u8 (stepN l i).1) ∧ w.cell? ⟨b, i * 2 + 1, none⟩ = some (.int .i64 (stepN l i).2) := by
  obtain ⟨vs, h1, h2⟩ := h.row
  obtain ⟨e0, e1⟩ := h2 i (by omega)
  rw [stepN_left _ _ _ (by rw [h.length]; exact hi)] at e0 e1
  have c0 := h1.cell _ _ e0
  have c1 := h1.cell _ _ e1
  rw [Nat.zero_add] at c0 c1
  exact ⟨c0, c1⟩
theorem TwinS.mark {w : World} {b len cap : Nat} {l : List (Int × Int)} (h : TwinS w b len cap l) : w.cell? ⟨b, len * 2, none⟩ = some (.int .u8 0) ∧ w.cell? ⟨b, len * 2 + 1, none⟩ = some (.int .i64 77) := by
  obtain ⟨vs, h1, h2⟩ := h.row
  obtain ⟨e0, e1⟩ := h2 len (by omega)
  have hl := h.length
  rw [← hl, stepN_last, hl] at e0 e1
  have c0 := h1.cell _ _ e0
  have c1 := h1.cell _ _ e1
  rw [Nat.zero_add] at c0 c1
  exact ⟨c0, c1⟩
theorem TwinS.rowV {w : World} {b len cap : Nat} {l : List (Int × Int)} (h : TwinS w b len cap l) : ∃ xs, RowV 2 w (.slice (some ⟨b, 0, none⟩) len cap) len xs := by
  obtain ⟨vs, hr, _⟩ := h.row
  refine ⟨vs.take (len * 2), .inr ⟨b, 0, cap, rfl, hr.lt, by have := hr.le; omega, hr.cap_le, by rw [List.length_take, hr.len]; omega, fun j u hj => ?_, hr.all⟩⟩
  refine hr.cell j u ?_
  rw [List.getElem?_take] at hj
  split at hj
  · exact hj
  · cases hj
theorem TwinS.steps {w : World} {b len cap : Nat} {l : List (Int × Int)} (h : TwinS w b len cap l) : StepsIn w (some ⟨b, 0, none⟩) len cap l :=
  ⟨by have := h.lec; omega, h.cap_le, h.length, fun _ => ⟨b, 0, rfl, h.lt, fun i hi => by rw [Nat.zero_add]; exact h.cell hi⟩⟩
set_option maxHeartbeats 2000000 in
set_option maxRecDepth 100000 in
theorem twinS_any (a : Option Addr) (len cap : Nat) (l : List (Int × Int)) (w : World) (H : StepsIn w a len cap l) (hbig : len ≤ 1000000) :
    Calls Tryz.prog 39 #[.slice a len cap] w fun e w' => ∃ b c, e = .returned (.slice (some ⟨b, 0, none⟩) len c) ∧ w.heap.size ≤ b ∧ TwinS w' b len c l ∧ Below w.heap.size w w' := by
  obtain ⟨i0, hi0, hz0, hz1, hz2⟩ := info_parts Tryz.info128
  have KH := Lib.hid H
  have HL := Lib.hid H.length
  have hle := H.le
  have hcl := H.cap_le
  clear H
  go_enter Tryz.func39, Tryz.ntmps39
  go_wp2_with (at_make; refine wpList_make_own _ rfl _ _ 75 rfl w.heap.size 128 i0 _ 2 Tryz.underlying75 hi0 hz0 hz1 .i64 .i64 _ (len + 1) rfl rfl (by omega) (by rw [hz2]; omega) (by unfold maxLen; omega) (Nat.le_refl _) ?_)
  intro w1 hown hgrow
  have HB1 : Hid (Below w.heap.size w w1) := (Below.refl _ _).grown hgrow (Nat.le_refl _) (fun k hk => nomatch hk)
  have HO1 : Hid (OwnL w.heap.size w1 (.slice (some ⟨w.heap.size, 0, none⟩) 0 (len + 1)) (l.take 0)) := ⟨_, hown, fun i hi => absurd hi (Nat.not_lt_zero _)⟩
  clear hown hgrow
  go_wp2
  go_loopg [3, 4] len (fun gg v i wr => ∃ k : Nat, k ≤ len ∧ len - k ≤ gg ∧ i = .int .i64 k ∧ Hid (OwnL w.heap.size wr v (l.take k)) ∧ Hid (Below w.heap.size w wr))
  case atStart => exact ⟨0, Nat.zero_le _, by omega, rfl, HO1, HB1⟩
  case round =>
    obtain ⟨k, hk, hg, rfl, HO, HW⟩ := hrel
    by_cases hlt : k < len
    · obtain ⟨b, off, rfl, _, hc⟩ := (KH.out.below HW.out).at_ (by omega)
      obtain ⟨hck, hcv⟩ := hc k hlt
      have HS := Lib.hid (take_snocS l k (by rw [HL.out]; exact hlt))
      have hln : (l.take k).length ≤ k := List.length_take_le _ _
      clear hc
      generalize stepN l k = x at *
      go_wp2_with (at_builtin; go_must (refine wpList_appL _ rfl _ _ rfl w.heap.size _ _ x HO.out rfl rfl HW.out.size (by omega) ?_))
      intro v' w3 hown' hbel hgrow _
      rw [← HS.out] at hown'
      have HO' := Lib.hid hown'
      have HW3 : Hid (Below w.heap.size w w3) := HW.out.trans hbel
      clear hown' hbel hgrow hck hcv
      go_wp2
      go_roundg (len - (k + 1))
      case measure => exact Nat.lt_of_lt_of_le (Nat.sub_lt_sub_left hlt (Nat.lt_succ_self k)) hg
      case rel => exact ⟨k + 1, Nat.succ_le_of_lt hlt, Nat.le_refl _, by go_num, HO', HW3⟩
    · rw [List.take_of_length_le (by rw [HL.out]; omega)] at HO
      go_wp2_with (at_builtin; go_must (refine wpList_appL _ rfl _ _ rfl w.heap.size _ _ (0, 77) HO.out rfl rfl HW.out.size (by rw [HL.out]; omega) ?_))
      intro v' w3 hown' hbel hgrow _
      obtain ⟨vs, hown2, hvs⟩ := hown'
      have hla : (l ++ [((0 : Int), (77 : Int))]).length = len + 1 := by rw [List.length_append, HL.out]; rfl
      rw [hla] at hown2 hvs
      have hrow := RowV.of_owns hown2
      have hlt2 := World.ownsRow.lt hown2
      rcases hrow with ⟨_, h2, _⟩ | ⟨g, off, cp, rfl, hr⟩
      · omega
      have hoff : off = 0 := by
        rcases hown2.2 with ⟨h, _⟩ | ⟨g', cap', cur, h, _⟩
        · cases h
        · cases h; rfl
      subst hoff
      have HT : Hid (TwinS w3 g len cp l) := ⟨HL.out, vs, hr, hvs⟩
      have hgb := (hlt2 g rfl).1
      have hcp := hr.le
      have hcc := hr.cap_le
      have hsl := slice_takeS (some ⟨g, 0, none⟩) (len + 1) cp len (by omega)
      have HW3 : Hid (Below w.heap.size w w3) := HW.out.trans hbel
      clear hown2 hvs hr hlt2 hbel hgrow hla
      go_wp2
      go_ret
      exact ⟨_, _, rfl, hgb, HT.out, HW3.out⟩
theorem neq_step (a b : Int) (w : World) : (binOp BinOp.neq 128 (.agg #[.int .u8 a, .int .i64 b]) (.agg #[.int .u8 a, .int .i64 b])).run Tryz.prog w = .ok (.bool false) w := by
  first
    | go_simp
    | simp [go_sem]
set_option maxHeartbeats 2000000 in
theorem leftS_any (b cap : Nat) (a : Option Addr) (len capl : Nat) (l : List (Int × Int)) (w : World) (HT : TwinS w b len cap l) (HI : StepsIn w a len capl l) (hbig : len ≤ 1000000) :
    Calls Tryz.prog 43 #[.slice (some ⟨b, 0, none⟩) len cap, .slice a len capl] w fun e w' => e = .returned (.bool true) ∧ Below w.heap.size w w' := by
  have KT := Lib.hid HT
  have KI := Lib.hid HI
  have hcp := HT.lec
  have hcc := HT.cap_le
  have hle := HI.le
  have hcl := HI.cap_le
  have hne : ((len : Int) != (len : Int)) = false := by simp
  have hd : decide ((cap : Int) ≤ (len : Int)) = false := decide_eq_false (by omega)
  have hsl := slice_takeS (some ⟨b, 0, none⟩) len cap (len + 1) (by omega)
  clear HT HI
  go_enter Tryz.func43, Tryz.ntmps43
  go_wp2
  go_loopg [5] len (fun gg i wr => ∃ k : Nat, k ≤ len ∧ len - k ≤ gg ∧ i = .int .i64 k ∧ Hid (Below w.heap.size w wr))
  case atStart => exact ⟨0, Nat.zero_le _, by omega, rfl, Below.refl _ _⟩
  case round =>
    obtain ⟨k, hk, hg, rfl, HW⟩ := hrel
    by_cases hlt : k < len
    · have dkl : decide ((k : Int) < (len : Int)) = true := decide_eq_true (by omega)
      obtain ⟨ba, oa, rfl, _, hca⟩ := (KI.out.below HW.out).at_ (by omega)
      obtain ⟨a0, a1⟩ := hca k hlt
      obtain ⟨t0, t1⟩ := (KT.out.below HW.out).cell hlt
      have hkc : k < cap := by omega
      clear hca
      generalize (stepN l k).1 = x0 at *
      generalize (stepN l k).2 = x1 at *
      have hq : ∀ w, (binOp BinOp.neq 128 (.agg #[.int .u8 x0, .int .i64 x1]) (.agg #[.int .u8 x0, .int .i64 x1])).run Tryz.prog w = .ok (.bool false) w := fun w => neq_step x0 x1 w
      go_wp2_with fail
      go_quiet (fail)
      have HWq := Lib.hid (HW.out.trans (below_drewN wr nq _))
      go_wp2
      go_roundg (len - (k + 1))
      case measure => omega
      case rel => exact ⟨k + 1, by omega, by omega, by go_num, HWq⟩
    · have dkl : decide ((k : Int) < (len : Int)) = false := decide_eq_false (by omega)
      have hll : (len : Int) < (len : Int) + 1 := by omega
      obtain ⟨m0, m1⟩ := (KT.out.below HW.out).mark
      go_wp2
      go_ret
      exact ⟨rfl, HW.out.alloc HW.out.size _⟩
end Go.Proofs.YtekejcnphmnidaaGreatDoor

namespace Go.Proofs.YtekejcnphmnidaaGreatDoor
open Go.RowKit
theorem stepN_take (l : List (Int × Int)) (k i : Nat) (h : i < k) : stepN (l.take k) i = stepN l i := by
  unfold stepN; simp only [List.getD_eq_getElem?_getD, List.getElem?_take, h, if_true]
theorem StepsIn.take {w : World} {a : Option Addr} {len cap : Nat} {l : List (Int × Int)} (h : StepsIn w a len cap l) (k : Nat) (hk : k ≤ len) : StepsIn w a k cap (l.take k) :=
  ⟨Nat.le_trans hk h.le, h.cap_le, by rw [List.length_take, h.length]; omega, fun h0 => by
    obtain ⟨b, off, e, hlt, hc⟩ := h.at_ (by omega)
    exact ⟨b, off, e, hlt, fun i hi => by rw [stepN_take l k i hi]; exact hc i (by omega)⟩⟩
def hKnown : List Gr.Node := [⟨1, [], [2], 0, 0⟩, ⟨5, [0], [], 0, 0⟩]
set_option maxRecDepth 100000 in
theorem hKnown_nodes (w1 : World) (b : Nat) (hb : b = w1.heap.size) : Nodes (((w1.alloc (.cells #[.int .i64 2] 3)).alloc (.cells #[.int .i64 0] 3)).alloc (.cells #[.int .u8 1, .slice none 0 0, .slice (some ⟨b, 0, none⟩) 1 1, .int .i64 0, .int .i64 0, .int .u8 5, .slice (some ⟨b + 1, 0, none⟩) 1 1, .slice none 0 0, .int .i64 0, .int .i64 0] 103)) (some ⟨b + 1 + 1, 0, none⟩) 2 2 hKnown := by
  have I0 : Ints (((w1.alloc (.cells #[.int .i64 2] 3)).alloc (.cells #[.int .i64 0] 3)).alloc (.cells #[.int .u8 1, .slice none 0 0, .slice (some ⟨b, 0, none⟩) 1 1, .int .i64 0, .int .i64 0, .int .u8 5, .slice (some ⟨b + 1, 0, none⟩) 1 1, .slice none 0 0, .int .i64 0, .int .i64 0] 103)) (some ⟨b, 0, none⟩) 1 1 [2] := ((ints_lits w1 (b) [2] (by simp [hb]) (by decide) (by decide)).alloc (.cells #[.int .i64 0] 3)).alloc (.cells #[.int .u8 1, .slice none 0 0, .slice (some ⟨b, 0, none⟩) 1 1, .int .i64 0, .int .i64 0, .int .u8 5, .slice (some ⟨b + 1, 0, none⟩) 1 1, .slice none 0 0, .int .i64 0, .int .i64 0] 103)
  have I1 : Ints (((w1.alloc (.cells #[.int .i64 2] 3)).alloc (.cells #[.int .i64 0] 3)).alloc (.cells #[.int .u8 1, .slice none 0 0, .slice (some ⟨b, 0, none⟩) 1 1, .int .i64 0, .int .i64 0, .int .u8 5, .slice (some ⟨b + 1, 0, none⟩) 1 1, .slice none 0 0, .int .i64 0, .int .i64 0] 103)) (some ⟨b + 1, 0, none⟩) 1 1 [0] := (ints_lits (w1.alloc (.cells #[.int .i64 2] 3)) (b + 1) [0] (by simp [hb]) (by decide) (by decide)).alloc (.cells #[.int .u8 1, .slice none 0 0, .slice (some ⟨b, 0, none⟩) 1 1, .int .i64 0, .int .i64 0, .int .u8 5, .slice (some ⟨b + 1, 0, none⟩) 1 1, .slice none 0 0, .int .i64 0, .int .i64 0] 103)
  have hz : b + 1 + 1 = ((w1.alloc (.cells #[.int .i64 2] 3)).alloc (.cells #[.int .i64 0] 3)).heap.size := by simp [hb]
  refine ⟨Nat.le_refl _, by omega, by omega, rfl, fun _ => ⟨b + 1 + 1, 0, rfl, by rw [hz]; simp, fun i hi => ?_⟩⟩
  rcases (by omega : i = 0 ∨ i = 1) with rfl | rfl
  · refine ⟨none, 0, 0, some ⟨b, 0, none⟩, 1, 1, ?_, ?_, ?_, ?_, ?_, nodeV_lit Ints.nil I0 (by omega) (by omega) (by omega) (by omega) (by omega)⟩ <;> (rw [World.cell?_alloc_at _ _ _ _ hz]; rfl)
  · refine ⟨some ⟨b + 1, 0, none⟩, 1, 1, none, 0, 0, ?_, ?_, ?_, ?_, ?_, nodeV_lit I1 Ints.nil (by omega) (by omega) (by omega) (by omega) (by omega)⟩ <;> (rw [World.cell?_alloc_at _ _ _ _ hz]; rfl)
theorem hKnown_a : Pl.chkF hKnown 16 [(1, 0), (2, 0), (3, 1)] = (0, true) := by decide +kernel
theorem hKnown_b : Pl.chkF hKnown 15 [(1, 0), (2, 0), (3, 1)] = (2, false) := by decide +kernel
theorem hKnown_c : Pl.chkF hKnown 16 [(1, 0), (3, 1)] = (1, false) := by decide +kernel
theorem hKnown_d : Pl.chkF hKnown 16 [(1, 0), (2, 0)] = (2, false) := by decide +kernel
theorem cSteps (w : World) : StepsIn (w.alloc (.cells #[.int .u8 1, .int .i64 0, .int .u8 2, .int .i64 0, .int .u8 3, .int .i64 1] 128)) (some ⟨w.heap.size, 0, none⟩) 3 3 [(1, 0), (2, 0), (3, 1)] := by
  refine ⟨Nat.le_refl _, by omega, rfl, fun _ => ⟨_, _, rfl, by simp, fun i hi => ?_⟩⟩
  rcases (by omega : i = 0 ∨ i = 1 ∨ i = 2) with rfl | rfl | rfl <;> exact ⟨by rw [World.cell?_alloc_at _ _ _ _ rfl]; rfl, by rw [World.cell?_alloc_at _ _ _ _ rfl]; rfl⟩
theorem cSteps2 (w : World) : StepsIn (w.alloc (.cells #[.int .u8 1, .int .i64 0, .int .u8 3, .int .i64 1] 128)) (some ⟨w.heap.size, 0, none⟩) 2 2 [(1, 0), (3, 1)] := by
  refine ⟨Nat.le_refl _, by omega, rfl, fun _ => ⟨_, _, rfl, by simp, fun i hi => ?_⟩⟩
  rcases (by omega : i = 0 ∨ i = 1) with rfl | rfl <;> exact ⟨by rw [World.cell?_alloc_at _ _ _ _ rfl]; rfl, by rw [World.cell?_alloc_at _ _ _ _ rfl]; rfl⟩
set_option maxHeartbeats 4000000 in
set_option maxRecDepth 100000 in
theorem clives23_any (w : World) : Calls Tryz.prog 38 #[] w fun e w' => e = .returned (.bool true) ∧ Below w.heap.size w w' := by
  have HN := hKnown_nodes w w.heap.size rfl
  have HB3 : Hid (Below w.heap.size w (((w.alloc (.cells #[.int .i64 2] 3)).alloc (.cells #[.int .i64 0] 3)).alloc (.cells #[.int .u8 1, .slice none 0 0, .slice (some ⟨w.heap.size, 0, none⟩) 1 1, .int .i64 0, .int .i64 0, .int .u8 5, .slice (some ⟨w.heap.size + 1, 0, none⟩) 1 1, .slice none 0 0, .int .i64 0, .int .i64 0] 103))) := ((((Below.refl _ _).alloc (Nat.le_refl _) _).alloc (by simp) _).alloc (by simp; omega) _)
  have hz3 : (((w.alloc (.cells #[.int .i64 2] 3)).alloc (.cells #[.int .i64 0] 3)).alloc (.cells #[.int .u8 1, .slice none 0 0, .slice (some ⟨w.heap.size, 0, none⟩) 1 1, .int .i64 0, .int .i64 0, .int .u8 5, .slice (some ⟨w.heap.size + 1, 0, none⟩) 1 1, .slice none 0 0, .int .i64 0, .int .i64 0] 103)).heap.size = w.heap.size + 3 := by simp
  have K0 := Lib.hid (GSt.start HN)
  have hB4 : Below ((((w.alloc (.cells #[.int .i64 2] 3)).alloc (.cells #[.int .i64 0] 3)).alloc (.cells #[.int .u8 1, .slice none 0 0, .slice (some ⟨w.heap.size, 0, none⟩) 1 1, .int .i64 0, .int .i64 0, .int .u8 5, .slice (some ⟨w.heap.size + 1, 0, none⟩) 1 1, .slice none 0 0, .int .i64 0, .int .i64 0] 103)).alloc (.cells #[.slice (some ⟨w.heap.size + 1 + 1, 0, none⟩) 2 2] 56)).heap.size ((((w.alloc (.cells #[.int .i64 2] 3)).alloc (.cells #[.int .i64 0] 3)).alloc (.cells #[.int .u8 1, .slice none 0 0, .slice (some ⟨w.heap.size, 0, none⟩) 1 1, .int .i64 0, .int .i64 0, .int .u8 5, .slice (some ⟨w.heap.size + 1, 0, none⟩) 1 1, .slice none 0 0, .int .i64 0, .int .i64 0] 103)).alloc (.cells #[.slice (some ⟨w.heap.size + 1 + 1, 0, none⟩) 2 2] 56)) (((((w.alloc (.cells #[.int .i64 2] 3)).alloc (.cells #[.int .i64 0] 3)).alloc (.cells #[.int .u8 1, .slice none 0 0, .slice (some ⟨w.heap.size, 0, none⟩) 1 1, .int .i64 0, .int .i64 0, .int .u8 5, .slice (some ⟨w.heap.size + 1, 0, none⟩) 1 1, .slice none 0 0, .int .i64 0, .int .i64 0] 103)).alloc (.cells #[.slice (some ⟨w.heap.size + 1 + 1, 0, none⟩) 2 2] 56)).alloc (.cells #[.int .u8 1, .int .i64 0, .int .u8 2, .int .i64 0, .int .u8 3, .int .i64 1] 128)) := (Below.refl _ _).alloc (Nat.le_refl _) _
  have K1 := Lib.hid (K0.out.on hB4)
  have hL := cSteps ((((w.alloc (.cells #[.int .i64 2] 3)).alloc (.cells #[.int .i64 0] 3)).alloc (.cells #[.int .u8 1, .slice none 0 0, .slice (some ⟨w.heap.size, 0, none⟩) 1 1, .int .i64 0, .int .i64 0, .int .u8 5, .slice (some ⟨w.heap.size + 1, 0, none⟩) 1 1, .slice none 0 0, .int .i64 0, .int .i64 0] 103)).alloc (.cells #[.slice (some ⟨w.heap.size + 1 + 1, 0, none⟩) 2 2] 56))
  have e5 : ((((w.alloc (.cells #[.int .i64 2] 3)).alloc (.cells #[.int .i64 0] 3)).alloc (.cells #[.int .u8 1, .slice none 0 0, .slice (some ⟨w.heap.size, 0, none⟩) 1 1, .int .i64 0, .int .i64 0, .int .u8 5, .slice (some ⟨w.heap.size + 1, 0, none⟩) 1 1, .slice none 0 0, .int .i64 0, .int .i64 0] 103)).alloc (.cells #[.slice (some ⟨w.heap.size + 1 + 1, 0, none⟩) 2 2] 56)).heap.size = w.heap.size + 3 + 1 := by simp
  rw [e5] at hL
  have HL1 := Lib.hid hL
  clear HN hB4 hL K0 e5
  go_enter Tryz.func38, Tryz.ntmps38
  go_wp2_with fail
  refine (chk_any _ _ _ hKnown 16 _ _ _ [(1, 0), (2, 0), (3, 1)] _ K1.out.n HL1.out).mono ?_
  rintro e w2 ⟨rfl, hb⟩
  rw [hKnown_a]
  have K2 := Lib.hid (K1.out.on hb)
  have HL2 := Lib.hid (HL1.out.below hb)
  have c2 : w2.cell? ⟨w.heap.size + 3, 0, none⟩ = some (.slice (some ⟨w.heap.size + 1 + 1, 0, none⟩) 2 2) := by have := K2.out.cell; rw [hz3] at this; exact this
  clear hb
  go_wp2_with fail
  refine (chk_any _ _ _ hKnown 15 _ _ _ [(1, 0), (2, 0), (3, 1)] _ K2.out.n HL2.out).mono ?_
  rintro e w4 ⟨rfl, hb⟩
  rw [hKnown_b]
  have K4 := Lib.hid (K2.out.on hb)
  have HL4 := Lib.hid (HL2.out.below hb)
  clear hb c2
  go_wp2_with fail
  have HK : Hid (∀ w', Below w4.heap.size w4 w' → w'.cell? ⟨w.heap.size + 3, 0, none⟩ = some (.slice (some ⟨w.heap.size + 1 + 1, 0, none⟩) 2 2) ∧ w'.cell? ⟨w.heap.size + 3 + 1, 0, none⟩ = some (.int .u8 1) ∧ w'.cell? ⟨w.heap.size + 3 + 1, 1, none⟩ = some (.int .i64 0) ∧ w'.cell? ⟨w.heap.size + 3 + 1, 4, none⟩ = some (.int .u8 3) ∧ w'.cell? ⟨w.heap.size + 3 + 1, 5, none⟩ = some (.int .i64 1)) := fun w' hb => by
    have h1 := (K4.out.on hb).cell
    rw [hz3] at h1
    obtain ⟨b, o, e, _, hc⟩ := (HL4.out.below hb).at_ (by omega)
    simp only [Option.some.injEq, Addr.mk.injEq] at e
    obtain ⟨rfl, rfl, _⟩ := e
    obtain ⟨p0, p1⟩ := hc 0 (by omega)
    obtain ⟨p2, p3⟩ := hc 2 (by omega)
    exact ⟨h1, p0, p1, p2, p3⟩
  have hBd : Below w4.heap.size w4 w4.drew := (Below.refl _ _).drew
  have HBd := Lib.hid hBd
  have HBa : Hid (∀ o, Below w4.heap.size w4 (w4.alloc o).drew) := fun o => ((Below.refl _ _).alloc (Nat.le_refl _) o).drew
  have S0 := Lib.hid (HK.out _ hBd)
  have S1 : Hid (∀ o, _) := fun o => HK.out _ (HBa.out o)
  clear hBd
  go_region_held3 (fun w' => w'.cell? ⟨w.heap.size + 3, 0, none⟩ = some (.slice (some ⟨w.heap.size + 1 + 1, 0, none⟩) 2 2) ∧ w'.cell? ⟨w.heap.size + 3 + 1, 0, none⟩ = some (.int .u8 1) ∧ w'.cell? ⟨w.heap.size + 3 + 1, 1, none⟩ = some (.int .i64 0) ∧ w'.cell? ⟨w.heap.size + 3 + 1, 4, none⟩ = some (.int .u8 3) ∧ w'.cell? ⟨w.heap.size + 3 + 1, 5, none⟩ = some (.int .i64 1))
    (first
      | with_reducible exact S6
      | with_reducible exact S0.out
      | with_reducible exact S1.out _)
    (first
      | (go_simp; go_at_call 40; refine (chk_any _ _ _ hKnown 16 _ _ _ [(1, 0), (3, 1)] _ (K4.out.on (HBa.out _)).n ((cSteps2 w4).below (Below.refl _ _).drew)).mono ?_; rintro e w6 ⟨rfl, hb6⟩; rw [hKnown_c]; have HB6 := (HBa.out _).trans (hb6.mono (HBa.out _).size); have S6 := HK.out w6 HB6))
  have HB6' := Lib.hid HB6
  have K6 := Lib.hid (K4.out.on HB6)
  have HL6 := Lib.hid (HL4.out.below HB6)
  clear HB6 S6 S0 S1 HK hb6
  go_wp2_with fail
  have hbd : Below w6.heap.size w6 w6.drew := (Below.refl _ _).drew
  have K7 := Lib.hid (K6.out.on hbd)
  have HL7 := Lib.hid (HL6.out.below hbd)
  have c7 : w6.drew.cell? ⟨w.heap.size + 3, 0, none⟩ = some (.slice (some ⟨w.heap.size + 1 + 1, 0, none⟩) 2 2) := by have := K7.out.cell; rw [hz3] at this; exact this
  have hsl := slice_takeS (some ⟨w.heap.size + 3 + 1, 0, none⟩) 3 3 2 (by omega)
  refine wp_region_still_call 3 mixed (by kernel_rfl) ?_
  clear hbd
  simp only [List.take_succ_cons, List.take_zero, List.getElem?_cons_succ, List.getElem?_cons_zero]
  repeat still_step
  refine wpStill_nil ?_
  intro KC hKC
  simp only [List.drop_succ_cons, List.drop_zero] at hKC
  go_simp
  refine (chk_any _ _ _ hKnown 16 _ _ _ ([(1, 0), (2, 0), (3, 1)].take 2) _ K7.out.n (HL7.out.take 2 (by omega))).mono ?_
  rintro e w8 ⟨rfl, hb⟩
  rw [show ([(1, 0), (2, 0), (3, 1)] : List (Int × Int)).take 2 = [(1, 0), (2, 0)] from rfl, hKnown_d]
  have K8 := Lib.hid (K7.out.on hb)
  clear hb c7
  refine hKC _ _ ?_
  clear hKC KC
  repeat still_step
  refine wpStill_nil ?_
  go_wp2
  go_ret
  exact ⟨rfl, HB3.out.trans (K8.out.bel.mono (by omega))⟩
end Go.Proofs.YtekejcnphmnidaaGreatDoor

