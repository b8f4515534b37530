import Derived.Test.YtekejcnphmnidaaGreatDoorZBkA
import Derived.OwnWalk
import Derived.Maps.AppendAt
namespace Go.Proofs.YtekejcnphmnidaaGreatDoor
open Go.RowKit
theorem wpList_app1z {ops : Array Oper} {rest : List Oper} {o : Oper} {a : Act} {Q : Exit → Act → World → Prop} (w : World) (hgd : o.guard = none) (s t : Operand)
    (ho : o.op = .call { callee := .builtin .append, args := #[s, t], argTypes := #[22, 22] }) (base : Nat) (v : Value) (l : List Int) (x : Int)
    (hown : Own base w v l) (hs : a.eval s = v) (ht : a.eval t = .slice (some ⟨w.heap.size, 0, none⟩) 1 1) (hb : base ≤ w.heap.size) (hlen : l.length < 17592186044416)
    (h : ∀ v' w', Own base w' v' (l ++ [x]) → Below base w w' → w.grownBy w' v.ownBlock → wpList Tryz.prog ops Q rest (a.put o.dst v') w') :
    wpList Tryz.prog ops Q (o :: rest) a (w.alloc (.cells #[.int .i64 x] 3)) := by
  obtain ⟨i0, hi, hz0, hz1, hz2⟩ := info_parts Tryz.info3
  refine wpList_append_own _ hgd s t 22 ho base 3 i0 (.int .i64 0) 1 8 Tryz.underlying22 hi hz0 hz1 hz2 rfl (by decide) v l.length (l.map (Value.int .i64)) hs (World.ownsRow.alloc hown _) ⟨w.heap.size, 0, none⟩ 1 1 [.int .i64 x] ht rfl ?_ ?_ ?_ ?_ ?_ ?_
  · intro j u hj
    match j, hj with
    | 0, hj => simp at hj; subst hj; simp [Addr.add]
  · intro u hu; simp at hu; subst hu; rfl
  · unfold maxLen; omega
  · omega
  · simp; omega
  · intro v' w' hown' hgrow _
    refine h v' w' ?_ ?_ ?_
    · unfold Own; simpa using hown'
    · refine ((Below.refl base w).alloc hb _).grown hgrow (by simp; omega) ?_
      intro k hk
      exact (World.ownsRow.lt hown k hk).1
    · exact ⟨hgrow.os, hgrow.tape, hgrow.output, Nat.le_trans (by simp) hgrow.size, fun k hk hn => (hgrow.block k (by simp; omega) hn).trans (Below.heap_alloc _ _ _ hk)⟩
theorem slice_takeZ (a : Option Addr) (len cap r : Nat) (h1 : r ≤ cap) (w : World) : (Instr.slice 22 (.slice a len cap) none (some (.int .i64 (r : Int))) none).run Tryz.prog w = .ok (.slice a r cap) w := by
  have h3 : Tryz.prog.elem 22 = 3 := by kernel_rfl
  rw [run_slice_h w 22 a len cap (by rw [h3]; exact Tryz.underlying22) .i64 (r : Int) (by omega) (by omega), h3]
  have e : (a.map fun x => x.add 0) = a := by cases a <;> simp [Addr.add]
  by_cases c : cap = 0
  · simp [go_sem, sliced, c]
  · simp [go_sem, sliced, c]
structure TwinI (w : World) (b len cap : Nat) (l : List Int) : Prop where
  length : l.length = len
  row : Row 1 w b 0 (len + 1) cap ((l ++ [(77 : Int)]).map (Value.int .i64))
theorem TwinI.below {w w' : World} {b len cap : Nat} {l : List Int} (h : TwinI w b len cap l) (hb : Below w.heap.size w w') : TwinI w' b len cap l := ⟨h.length, h.row.keep hb.size (hb.block b h.row.lt)⟩
theorem TwinI.cell {w : World} {b len cap : Nat} {l : List Int} (h : TwinI w b len cap l) {i : Nat} (hi : i < len) : w.cell? ⟨b, i, none⟩ = some (.int .i64 (nth l i)) := by
  have := h.row.cell i (.int .i64 (nth l i)) (by rw [List.getElem?_map, List.getElem?_append_left (by rw [h.length]; exact hi), List.getElem?_eq_getElem (by rw [h.length]; exact hi), nth_eq l i (by rw [h.length]; exact hi)]; rfl)
  rwa [Nat.zero_add] at this
theorem TwinI.mark {w : World} {b len cap : Nat} {l : List Int} (h : TwinI w b len cap l) : w.cell? ⟨b, len, none⟩ = some (.int .i64 77) := by
  have := h.row.cell len (.int .i64 77) (by rw [List.getElem?_map, List.getElem?_append_right (by rw [h.length]; exact Nat.le_refl _), h.length, Nat.sub_self]; rfl)
  rwa [Nat.zero_add] at this
theorem TwinI.rowV {w : World} {b len cap : Nat} {l : List Int} (h : TwinI w b len cap l) : RowV 1 w (.slice (some ⟨b, 0, none⟩) len cap) len (l.map (Value.int .i64)) := by
  have hr := h.row
  refine .inr ⟨b, 0, cap, rfl, hr.lt, by have := hr.le; omega, hr.cap_le, by rw [List.length_map, h.length]; omega, fun j u hj => ?_, hr.all⟩
  have hl : j < l.length := by have := (List.getElem?_eq_some_iff.1 hj).1; simpa using this
  refine hr.cell j u ?_
  rw [List.getElem?_map] at hj ⊢
  rw [List.getElem?_append_left hl]; exact hj
theorem TwinI.ints {w : World} {b len cap : Nat} {l : List Int} (h : TwinI w b len cap l) (hwf : ∀ n ∈ l, -9223372036854775808 ≤ n ∧ n ≤ 9223372036854775807) : Ints w (some ⟨b, 0, none⟩) len cap l :=
  ⟨by have := h.row.le; omega, h.row.cap_le, h.length, hwf, fun _ => ⟨b, 0, rfl, h.row.lt, fun i hi => by rw [Nat.zero_add]; exact h.cell hi⟩⟩
set_option maxHeartbeats 2000000 in
set_option maxRecDepth 100000 in
theorem twinI_any (a : Option Addr) (len cap : Nat) (l : List Int) (w : World) (H : Ints w a len cap l) (hbig : len ≤ 1000000) :
    Calls Tryz.prog 10 #[.slice a len cap] w fun e w' => ∃ b c, e = .returned (.slice (some ⟨b, 0, none⟩) len c) ∧ w.heap.size ≤ b ∧ TwinI w' b len c l ∧ Below w.heap.size w w' := by
  obtain ⟨i0, hi0, hz0, hz1, hz2⟩ := info_parts Tryz.info3
  have KH := Lib.hid H
  have HL := Lib.hid H.length
  have hle := H.le
  have hcl := H.cap_le
  clear H
  go_enter Tryz.func10, Tryz.ntmps10
  go_wp2_with (at_make; refine wpList_make_own _ rfl _ _ 22 rfl w.heap.size 3 i0 (.int .i64 0) 1 Tryz.underlying22 hi0 hz0 hz1 .i64 .i64 _ (len + 1) rfl rfl (by omega) (by rw [hz2]; omega) (by unfold maxLen; omega) (Nat.le_refl _) ?_)
  intro w1 hown hgrow
  have HB1 : Hid (Below w.heap.size w w1) := (Below.refl _ _).grown hgrow (Nat.le_refl _) (fun k hk => nomatch hk)
  have HO1 : Hid (Own w.heap.size w1 (.slice (some ⟨w.heap.size, 0, none⟩) 0 (len + 1)) (l.take 0)) := hown
  clear hown hgrow
  go_wp2
  go_loopg [3, 4] len (fun gg v i wr => ∃ k : Nat, k ≤ len ∧ len - k ≤ gg ∧ i = .int .i64 k ∧ Hid (Own w.heap.size wr v (l.take k)) ∧ Hid (Below w.heap.size w wr))
  case atStart => exact ⟨0, Nat.zero_le _, by omega, rfl, HO1, HB1⟩
  case round =>
    obtain ⟨k, hk, hg, rfl, HO, HW⟩ := hrel
    by_cases hlt : k < len
    · obtain ⟨b, off, rfl, _, hc⟩ := (KH.out.below HW.out).at_ (by omega)
      have hck := hc k hlt
      have HS := Lib.hid (take_snoc l k (by rw [HL.out]; exact hlt))
      have hln : (l.take k).length ≤ k := List.length_take_le _ _
      clear hc
      generalize nth l k = x at *
      go_wp2_with (at_builtin; go_must (refine wpList_app1z _ rfl _ _ rfl w.heap.size _ _ _ HO.out rfl rfl HW.out.size (by omega) ?_))
      intro v' w3 hown' hbel hgrow
      rw [← HS.out] at hown'
      have HO' := Lib.hid hown'
      have HW3 : Hid (Below w.heap.size w w3) := HW.out.trans hbel
      clear hown' hbel hgrow hck
      go_wp2
      go_roundg (len - (k + 1))
      case measure => exact Nat.lt_of_lt_of_le (Nat.sub_lt_sub_left hlt (Nat.lt_succ_self k)) hg
      case rel => exact ⟨k + 1, Nat.succ_le_of_lt hlt, Nat.le_refl _, by go_num, HO', HW3⟩
    · rw [List.take_of_length_le (by rw [HL.out]; omega)] at HO
      go_wp2_with (at_builtin; go_must (refine wpList_app1z _ rfl _ _ rfl w.heap.size _ _ _ HO.out rfl rfl HW.out.size (by rw [HL.out]; omega) ?_))
      intro v' w3 hown' hbel hgrow
      have hla : (l ++ [(77 : Int)]).length = len + 1 := by rw [List.length_append, HL.out]; rfl
      have hown2 : w3.ownsRow w.heap.size 3 1 v' (len + 1) ((l ++ [(77 : Int)]).map (Value.int .i64)) := by rw [← hla]; exact hown'
      have hrow := RowV.of_owns hown2
      have hlt2 := World.ownsRow.lt hown2
      rcases hrow with ⟨_, h2, _⟩ | ⟨g, off, cp, rfl, hr⟩
      · omega
      have hoff : off = 0 := by
        rcases hown2.2 with ⟨h, _⟩ | ⟨g', cap', cur, h, _⟩
        · cases h
        · cases h; rfl
      subst hoff
      have HT : Hid (TwinI w3 g len cp l) := ⟨HL.out, hr⟩
      have hgb := (hlt2 g rfl).1
      have hcp := hr.le
      have hcc := hr.cap_le
      have hsl := slice_takeZ (some ⟨g, 0, none⟩) (len + 1) cp len (by omega)
      have HW3 : Hid (Below w.heap.size w w3) := HW.out.trans hbel
      clear hown' hown2 hr hlt2 hbel hgrow hla
      go_wp2
      go_ret
      exact ⟨_, _, rfl, hgb, HT.out, HW3.out⟩
set_option maxHeartbeats 2000000 in
theorem leftI_any (b cap : Nat) (a : Option Addr) (len capl : Nat) (l : List Int) (w : World) (HT : TwinI w b len cap l) (HI : Ints w a len capl l) (hbig : len ≤ 1000000) :
    Calls Tryz.prog 14 #[.slice (some ⟨b, 0, none⟩) len cap, .slice a len capl] w fun e w' => e = .returned (.bool true) ∧ ∃ n, w' = w.drewN n := by
  have KT := Lib.hid HT
  have KI := Lib.hid HI
  have hcp := HT.row.le
  have hcc := HT.row.cap_le
  have hle := HI.le
  have hcl := HI.cap_le
  have hmk := HT.mark
  have hne : ((len : Int) != (len : Int)) = false := by simp
  have hd : decide ((cap : Int) ≤ (len : Int)) = false := decide_eq_false (by omega)
  have hsl := slice_takeZ (some ⟨b, 0, none⟩) len cap (len + 1) (by omega)
  clear HT HI
  go_enter Tryz.func14, Tryz.ntmps14
  go_wp2
  go_loopg [5] len (fun gg i wr => ∃ k : Nat, k ≤ len ∧ len - k ≤ gg ∧ i = .int .i64 k ∧ Hid (∃ n, wr = w.drewN n))
  case atStart => exact ⟨0, Nat.zero_le _, by omega, rfl, 0, rfl⟩
  case round =>
    obtain ⟨k, hk, hg, rfl, HWr⟩ := hrel
    obtain ⟨nw, rfl⟩ := HWr.out
    by_cases hlt : k < len
    · have dkl : decide ((k : Int) < (len : Int)) = true := decide_eq_true (by omega)
      obtain ⟨ba, oa, rfl, _, hca⟩ := KI.out.at_ (by omega)
      have hak := hca k hlt
      have htk := KT.out.cell hlt
      have hkc : k < cap := by omega
      have hxx : (nth l k != nth l k) = false := by simp
      clear hca
      go_wp2_with fail
      go_quiet (fail)
      go_wp2
      go_roundg (len - (k + 1))
      case measure => omega
      case rel => exact ⟨k + 1, by omega, by omega, by go_num, ⟨_, rfl⟩⟩
    · have dkl : decide ((k : Int) < (len : Int)) = false := decide_eq_false (by omega)
      have hll : (len : Int) < (len : Int) + 1 := by omega
      go_wp2
      go_ret
      exact ⟨rfl, ⟨_, rfl⟩⟩
end Go.Proofs.YtekejcnphmnidaaGreatDoor
