/-
  drydocklaw12.OrdersUses: the walk ouses_walk (it returns true, and changes nothing below).
-/
import Derived.Test.YtgmagldbfajedaaOrLaws
import Derived.Test.YtgmagldbfajedaaBp
import Derived.Test.YtgmagldbfajedaaBh
namespace Go.Proofs.Ytgmagldbfajedaa
open Go.RowKit

theorem Od.usesO_some {g : List Gr.Node} {l u : List Int} (h : Od.usesO g l = some u) : Od.mayB g l = true ∧ u = Od.uses g l := by
  unfold Od.usesO at h
  split at h
  · rename_i c; exact ⟨c, (Option.some.inj h).symm⟩
  · cases h
theorem Od.usesO_of {g : List Gr.Node} {l : List Int} (h : Od.mayB g l = true) : Od.usesO g l = some (Od.uses g l) := if_pos h
theorem Od.nextO_of {g : List Gr.Node} {l : List Int} {at_ : Int} (h : Od.mayB g l = true) (h1 : -1 ≤ at_) (h2 : at_ < l.length) : Od.nextO g l at_ = some (Od.next g l at_) := if_pos ⟨h, h1, h2⟩
theorem Od.usesO_none {g : List Gr.Node} {l : List Int} (h : Od.usesO g l = none) : Od.mayB g l = false := by
  unfold Od.usesO at h
  split at h
  · cases h
  · rename_i c; simpa using c
theorem Od.nextO_none {g : List Gr.Node} {l : List Int} {at_ : Int} (h : Od.mayB g l = false) : Od.nextO g l at_ = none := if_neg (fun c => by rw [h] at c; exact absurd c.1 (by simp))

/-- A piece of a slice, from a place on. -/
theorem ints_drop (a : Option Addr) (len cap r : Nat) (l : List Int) (h1 : r ≤ len) : ∃ aD : Option Addr, (∀ w, (Instr.slice 22 (.slice a len cap) (some (.int .i64 (r : Int))) none none).run Try.prog w = .ok (.slice aD (len - r) (cap - r)) w) ∧
    ∀ w, Ints w a len cap l → Ints w aD (len - r) (cap - r) (l.drop r) := by
  obtain ⟨i0, hi, hz0, hz1, hz2⟩ := info_parts Try.info3
  refine ⟨if cap = r then a else a.map (·.add r), fun w => ?_, fun w h => ?_⟩
  · have h3 : Try.prog.elem 22 = 3 := by kernel_rfl
    rw [run_slice_l w 22 a len cap (by rw [h3]; exact Try.underlying22) .i64 (r : Int) (by omega) (by omega), h3]
    simp [go_sem, sliced]
  · refine ⟨by have := h.le; omega, by have := h.cap_le; omega, by rw [List.length_drop, h.length], fun n hn => h.wf n (List.mem_of_mem_drop hn), fun h0 => ?_⟩
    obtain ⟨b, off, rfl, hb, hc⟩ := h.at_ (by omega)
    have := h.le
    refine ⟨b, off + r, by rw [if_neg (by omega)]; show some ((⟨b, off, none⟩ : Addr).add r) = _; unfold Addr.add; split <;> simp_all, hb, fun i hi => ?_⟩
    rw [show off + r + i = off + (r + i) by omega, hc (r + i) (by omega), nth_eq _ _ (by rw [h.length]; omega), nth_eq _ _ (by rw [List.length_drop, h.length]; omega), List.getElem_drop]
theorem run_take (a : Option Addr) (len cap r : Nat) (h1 : r ≤ len) (h2 : len ≤ cap) (w : World) : (Instr.slice 22 (.slice a len cap) none (some (.int .i64 (r : Int))) none).run Try.prog w = .ok (.slice a r cap) w := by
  obtain ⟨i0, hi, hz0, hz1, hz2⟩ := info_parts Try.info3
  have h3 : Try.prog.elem 22 = 3 := by kernel_rfl
  rw [run_slice_h w 22 a len cap (by rw [h3]; exact Try.underlying22) .i64 (r : Int) (by omega) (by omega), h3]
  have e : (a.map fun x => x.add 0) = a := by cases a <;> simp [Addr.add]
  by_cases c : cap = 0
  · simp [go_sem, sliced, c]
  · simp [go_sem, sliced, c]

namespace Od
theorem sumL_nonneg : ∀ o : List Int, (∀ v ∈ o, 0 ≤ v) → 0 ≤ sumL o
  | [], _ => Int.le_refl 0
  | x :: r, h => by have := sumL_nonneg r (fun v hv => h v (by simp [hv])); have := h x (by simp); simp only [sumL]; omega
theorem sumL_take_le (o : List Int) (h : ∀ v ∈ o, 0 ≤ v) (k : Nat) : 0 ≤ sumL (o.take k) ∧ sumL (o.take k) ≤ sumL o := by
  have h1 := sumL_nonneg (o.take k) (fun v hv => h v (List.mem_of_mem_take hv))
  have h2 := sumL_nonneg (o.drop k) (fun v hv => h v (List.mem_of_mem_drop hv))
  have h3 := sumL_append (o.take k) (o.drop k)
  rw [List.take_append_drop] at h3
  omega
theorem tot_take_le {g : List Gr.Node} {l : List Int} (h : InnAt g l) (k : Nat) : 0 ≤ tot g (l.take k) ∧ tot g (l.take k) ≤ tot g l := by
  have h1 := (tot_le (l := l.take k) (fun v hv => h v (List.mem_of_mem_take hv))).1
  have h2 := (tot_le (l := l.drop k) (fun v hv => h v (List.mem_of_mem_drop hv))).1
  have h3 := tot_append g (l.take k) (l.drop k)
  rw [List.take_append_drop] at h3
  omega
end Od

set_option maxHeartbeats 8000000 in
set_option maxRecDepth 100000 in
theorem ouses_walk (a : Option Addr) (len cap : Nat) (g : List Gr.Node) (ao : Option Addr) (lo co : Nat) (l : List Int) (cut : Int) (w : World) (HN : Nodes w a len cap g) (HO : Ints w ao lo co l) (hm0 : 0 ≤ cut) (hm1 : cut ≤ 255) :
    Calls Try.prog 16 #[.agg #[.slice a len cap], .slice ao lo co, .int .u8 cut] w fun e w' => e = .returned (.bool true) ∧ Below w.heap.size w w' := by
  have LN := Lib.hid HN.length
  have LO := Lib.hid HO.length
  have hle := HN.le
  have hcl := HN.cap_le
  have hll := HN.len_le
  have hol := HO.le
  have hocl := HO.cap_le
  have K0 := Lib.hid (GSt.start HN)
  have KO := Lib.hid HO
  clear HN HO
  go_enter Try.func16, Try.ntmps16
  go_wp2_with fail
  refine (oalive_any _).mono ?_
  rintro e w2 ⟨rfl, hb⟩
  have K2 := Lib.hid (K0.out.on hb)
  have c2 := K2.out.cell
  clear hb K0
  go_wp2_with fail
  refine (gsize_any _ _ _ g _ K2.out.n).mono ?_
  rintro e w3 ⟨v, rfl, ⟨hv0, hv1⟩, hb⟩
  have K3 := Lib.hid (K2.out.on hb)
  have c3 := K3.out.cell
  clear hb c2
  by_cases hbig : 20000 < v
  · have d : decide (v > 20000) = true := decide_eq_true hbig
    go_wp2_with fail
    refine (oalive_any _).mono ?_
    rintro e w4 ⟨rfl, hb⟩
    have K4 := Lib.hid (K3.out.on hb)
    clear hb
    go_wp2
    go_ret
    exact ⟨rfl, K4.out.bel⟩
  have d : decide (v > 20000) = false := decide_eq_false hbig
  by_cases hbig2 : 40 < lo
  · have d2 : decide ((lo : Int) > 40) = true := decide_eq_true (by omega)
    go_wp2_with fail
    refine (oalive_any _).mono ?_
    rintro e w4 ⟨rfl, hb⟩
    have K4 := Lib.hid (K3.out.on hb)
    clear hb
    go_wp2
    go_ret
    exact ⟨rfl, K4.out.bel⟩
  have d2 : decide ((lo : Int) > 40) = false := decide_eq_false (by omega)
  go_wp2_with fail
  refine (uses_any _ _ _ g _ _ _ l _ K3.out.n (KO.out.below K3.out.bel) (by omega)).mono ?_
  rintro e w4 ⟨hb, ⟨hs, rfl⟩ | ⟨u, au, lu, cu, hs, rfl, hI⟩⟩
  · have K4 := Lib.hid (K3.out.on hb)
    clear hb hs c3
    go_wp2
    go_ret
    exact ⟨rfl, K4.out.bel⟩
  obtain ⟨hm, rfl⟩ := Od.usesO_some hs
  have HM := Lib.hid hm
  have K4 := Lib.hid (K3.out.on hb)
  have c4 := K4.out.cell
  have HU4 := Lib.hid hI
  have hlu : lu = len := by rw [← hI.length, Od.uses_length, LN.out]
  subst hlu
  obtain ⟨hl1, hl2, _⟩ := Od.may_parts hm
  rw [LN.out] at hl1 hl2
  obtain ⟨r, hr, hrl⟩ := rem_nat (n := lo + 1) hm0 (by omega)
  have hz : ((lo : Int) + 1 == 0) = false := by simp; omega
  rw [show ((lo + 1 : Nat) : Int) = (lo : Int) + 1 by omega] at hr
  have hrl2 : r ≤ lo := by omega
  obtain ⟨aD, hslD, hD⟩ := ints_drop ao lo co r l hrl2
  have HD := Lib.hid hD
  have hslT := run_take ao lo co r hrl2 hol
  clear hb hs c3 hI hm hD
  go_wp2_with fail
  have HBd : Hid (Below w4.heap.size w4 w4.drew) := (Below.refl _ _).drew
  have K5 := Lib.hid (K4.out.on HBd.out)
  have HU5 := Lib.hid (HU4.out.below HBd.out)
  have c5 := K5.out.cell
  refine wp_region_still_call 4 mixed (by kernel_rfl) ?_
  clear HBd c4
  simp only [List.take_succ_cons, List.take_zero, List.getElem?_cons_succ, List.getElem?_cons_zero]
  repeat still_step
  refine wpStill_nil ?_
  intro KC hKC
  simp only [List.drop_succ_cons, List.drop_zero] at hKC
  go_simp
  refine (uses_any _ _ _ g _ _ _ (l.take r) _ K5.out.n ((KO.out.below K5.out.bel).take r hrl2) (by omega)).mono ?_
  rintro e w6 ⟨hb, ⟨hs, rfl⟩ | ⟨u2, aa, la, ca, hs, rfl, hI⟩⟩
  · rw [Od.usesO_of (Od.may_take r HM.out)] at hs; cases hs
  rw [Od.usesO_of (Od.may_take r HM.out)] at hs
  cases hs
  have K6 := Lib.hid (K5.out.on hb)
  have HU6 := Lib.hid (HU5.out.below hb)
  have HA6 := Lib.hid hI
  have c6 := K6.out.cell
  have hla : la = lu := by rw [← hI.length, Od.uses_length, LN.out]
  subst hla
  clear hb c5 hI
  refine hKC _ _ ?_
  clear hKC KC
  repeat still_step
  refine wpStill_nil ?_
  go_wp2_with fail
  have HBd : Hid (Below w6.heap.size w6 w6.drew) := (Below.refl _ _).drew
  have K7 := Lib.hid (K6.out.on HBd.out)
  have HU7 := Lib.hid (HU6.out.below HBd.out)
  have HA7 := Lib.hid (HA6.out.below HBd.out)
  have c7 := K7.out.cell
  refine wp_region_still_call 4 mixed (by kernel_rfl) ?_
  clear HBd c6
  simp only [List.take_succ_cons, List.take_zero, List.getElem?_cons_succ, List.getElem?_cons_zero]
  repeat still_step
  refine wpStill_nil ?_
  intro KC hKC
  simp only [List.drop_succ_cons, List.drop_zero] at hKC
  go_simp
  refine (uses_any _ _ _ g _ _ _ (l.drop r) _ K7.out.n (HD.out _ (KO.out.below K7.out.bel)) (by omega)).mono ?_
  rintro e w8 ⟨hb, ⟨hs, rfl⟩ | ⟨u3, ab, lb, cb, hs, rfl, hI⟩⟩
  · rw [Od.usesO_of (Od.may_drop r HM.out)] at hs; cases hs
  rw [Od.usesO_of (Od.may_drop r HM.out)] at hs
  cases hs
  have K8 := Lib.hid (K7.out.on hb)
  have HU8 := Lib.hid (HU7.out.below hb)
  have HA8 := Lib.hid (HA7.out.below hb)
  have HB8 := Lib.hid hI
  have c8 := K8.out.cell
  have hlb : lb = la := by rw [← hI.length, Od.uses_length, LN.out]
  subst hlb
  clear hb c7 hI
  refine hKC _ _ ?_
  clear hKC KC
  repeat still_step
  refine wpStill_nil ?_
  go_wp2_with fail
  refine (next_any _ _ _ g _ _ _ l (-1) _ K8.out.n (KO.out.below K8.out.bel) (by omega) (by omega) (by omega)).mono ?_
  rintro e w9 ⟨hb, ⟨hs, rfl⟩ | ⟨u4, ax, lx, cx, hs, rfl, hI⟩⟩
  · rw [Od.nextO_of HM.out (by omega) (by omega)] at hs; cases hs
  rw [Od.nextO_of HM.out (by omega) (by omega)] at hs
  cases hs
  have K9 := Lib.hid (K8.out.on hb)
  have HU := Lib.hid (HU8.out.below hb)
  have HA := Lib.hid (HA8.out.below hb)
  have HB := Lib.hid (HB8.out.below hb)
  have HX := Lib.hid hI
  have c9 := K9.out.cell
  have hlx : lx = lb := by rw [← hI.length, Od.next_length, LN.out]
  subst hlx
  have e1 : ((lx : Int) != (lx : Int)) = false := by simp
  have HTU : Hid (Od.sumL (Od.uses g l) = Od.tot g l) := Od.sumL_uses HM.out
  have HTB : Hid (0 ≤ Od.tot g l ∧ Od.tot g l ≤ 160) := by have := Od.tot_le (Od.may_inAt HM.out); have := LO.out; show _ ∧ _; omega
  clear hb c8 hI HU4 HU5 HU6 HU7 HU8 HA6 HA7 HA8 HB8 K2 K3 K4 K5 K6 K7 K8 hslD hslT HD
  go_wp2
  go_loopg [16, 17] lx (fun gg s i wr => ∃ k : Nat, k ≤ lx ∧ lx - k ≤ gg ∧ i = .int .i64 k ∧ s = .int .i64 (Od.sumL ((Od.uses g l).take k)) ∧ Hid (Below w9.heap.size w9 wr))
  case atStart => exact ⟨0, Nat.zero_le _, by omega, rfl, rfl, Below.refl _ _⟩
  case round =>
    obtain ⟨k, hk, hg, rfl, rfl, HW⟩ := hrel
    have HSB : Hid (0 ≤ Od.sumL ((Od.uses g l).take k) ∧ Od.sumL ((Od.uses g l).take k) ≤ 160) := by
      have h1 := Od.sumL_take_le (Od.uses g l) (fun v hv => by
        obtain ⟨i, hi, rfl⟩ := List.getElem_of_mem hv
        rw [← nth_eq _ i hi]
        exact (Od.uses_bound HM.out (by rw [Od.uses_length] at hi; exact hi)).1) k
      have h2 := HTU.out
      have h3 := HTB.out
      show _ ∧ _
      omega
    obtain ⟨hs0, hs1⟩ := HSB.out
    by_cases hlt : k < lx
    · obtain ⟨bU, oU, rfl, _, hcU⟩ := (HU.out.below HW.out).at_ (by omega)
      obtain ⟨bA, oA, rfl, _, hcA⟩ := (HA.out.below HW.out).at_ (by omega)
      obtain ⟨bB, oB, rfl, _, hcB⟩ := (HB.out.below HW.out).at_ (by omega)
      obtain ⟨bX, oX, rfl, _, hcX⟩ := (HX.out.below HW.out).at_ (by omega)
      have kU := hcU k hlt
      have kA := hcA k hlt
      have kB := hcB k hlt
      have kX := hcX k hlt
      have HST := Lib.hid (Od.sumL_take_snoc (Od.uses g l) k (by rw [Od.uses_length, LN.out]; exact hlt))
      have hgl : k < g.length := by rw [LN.out]; exact hlt
      have hP := Od.uses_parts HM.out r hgl
      obtain ⟨ba0, ba1⟩ := Od.uses_bound (Od.may_take r HM.out) hgl
      obtain ⟨bb0, bb1⟩ := Od.uses_bound (Od.may_drop r HM.out) hgl
      have lt1 : (l.take r).length ≤ lo := by rw [List.length_take, LO.out]; omega
      have lt2 : (l.drop r).length ≤ lo := by rw [List.length_drop, LO.out]; omega
      have hZ : k < g.length - 1 → ((0 < nth (Od.uses g l) k) ↔ (0 ≤ nth (Od.next g l (-1)) k)) := fun h => Od.uses_next HM.out h
      rw [LN.out] at hZ
      clear hcU hcA hcB hcX
      generalize nth (Od.uses g l) k = x at *
      generalize nth (Od.uses g (l.take r)) k = y at *
      generalize nth (Od.uses g (l.drop r)) k = z at *
      generalize nth (Od.next g l (-1)) k = t at *
      have hy1 : y ≤ 160 := by omega
      have hz1 : z ≤ 160 := by omega
      have hx0 : 0 ≤ x := by omega
      have hx1 : x ≤ 320 := by omega
      have dP : (x != y + z) = false := by simp [hP]
      clear ba1 bb1 lt1 lt2 hP
      have HFIN : Hid (Od.sumL ((Od.uses g l).take k) + x = Od.sumL ((Od.uses g l).take (k + 1))) := HST.out.symm
      generalize Od.sumL ((Od.uses g l).take k) = sk at *
      by_cases p1 : k < lx - 1
      · have q1 : decide ((k : Int) < (lx : Int) - 1) = true := decide_eq_true (by omega)
        by_cases p2 : 0 < x
        · have q2 : decide (x > 0) = true := decide_eq_true p2
          have q3 : decide (t ≥ 0) = true := decide_eq_true ((hZ p1).1 p2)
          clear hZ p2 p1
          go_wp2_with fail
          go_quiet (fail)
          have HW9 := Lib.hid (HW.out.trans (below_drewN wr nq _))
          go_wp2
          go_roundg (lx - (k + 1))
          case measure => exact Nat.lt_of_lt_of_le (Nat.sub_lt_sub_left hlt (Nat.lt_succ_self k)) hg
          case rel => exact ⟨k + 1, Nat.succ_le_of_lt hlt, Nat.le_refl _, by go_num, by rw [← HFIN.out], HW9⟩
        · have q2 : decide (x > 0) = false := decide_eq_false p2
          have q3 : decide (t ≥ 0) = false := decide_eq_false (fun c => p2 ((hZ p1).2 c))
          clear hZ p2 p1
          go_wp2_with fail
          go_quiet (fail)
          have HW9 := Lib.hid (HW.out.trans (below_drewN wr nq _))
          go_wp2
          go_roundg (lx - (k + 1))
          case measure => exact Nat.lt_of_lt_of_le (Nat.sub_lt_sub_left hlt (Nat.lt_succ_self k)) hg
          case rel => exact ⟨k + 1, Nat.succ_le_of_lt hlt, Nat.le_refl _, by go_num, by rw [← HFIN.out], HW9⟩
      · have q1 : decide ((k : Int) < (lx : Int) - 1) = false := decide_eq_false (by omega)
        clear hZ p1
        go_wp2_with fail
        go_quiet (fail)
        have HW9 := Lib.hid (HW.out.trans (below_drewN wr nq _))
        go_wp2
        go_roundg (lx - (k + 1))
        case measure => exact Nat.lt_of_lt_of_le (Nat.sub_lt_sub_left hlt (Nat.lt_succ_self k)) hg
        case rel => exact ⟨k + 1, Nat.succ_le_of_lt hlt, Nat.le_refl _, by go_num, by rw [← HFIN.out], HW9⟩
    · have hke : Od.sumL ((Od.uses g l).take k) = Od.tot g l := by
        rw [List.take_of_length_le (by rw [Od.uses_length, LN.out]; omega)]; exact HTU.out
      obtain ⟨ht0, ht1⟩ := HTB.out
      have HT0 : Hid (Od.tot g l = Od.tot g l - Od.tot g (l.take 0)) := by show _ = _; simp [Od.tot]
      rw [hke] at hs0 hs1 ⊢
      clear hke
      go_wp2
      go_loopg [16, 18] lo (fun gg s i wv => ∃ k : Nat, k ≤ lo ∧ lo - k ≤ gg ∧ i = .int .i64 k ∧ s = .int .i64 (Od.tot g l - Od.tot g (l.take k)) ∧ Hid (Below w9.heap.size w9 wv))
      case atStart => exact ⟨0, Nat.zero_le _, by omega, rfl, congrArg _ HT0.out, HW⟩
      case round =>
        rename World => wx
        obtain ⟨k2, hk2, hg2, rfl, rfl, HWx⟩ := hrel
        have HTT := Lib.hid (Od.tot_take_le (Od.may_inAt HM.out) k2)
        obtain ⟨hq0, hq1⟩ := HTT.out
        by_cases hlt2 : k2 < lo
        · obtain ⟨bo, oo, rfl, _, hco⟩ := (KO.out.below (K9.out.on HWx.out).bel).at_ (by omega)
          have hck := hco k2 hlt2
          have HIA := Lib.hid (Od.may_inAt HM.out _ (nth_mem l k2 (by rw [LO.out]; exact hlt2)))
          have HTS := Lib.hid (Od.tot_take_snoc g l k2 (by rw [LO.out]; exact hlt2))
          have cr := (K9.out.on HWx.out).cell
          have hin := HIA.out
          rw [LN.out] at hin
          obtain ⟨hn0, hn1, hn4, _⟩ := hin
          clear hco
          generalize nth l k2 = n at *
          obtain ⟨m, rfl⟩ : ∃ m : Nat, n = (m : Int) := ⟨n.toNat, by omega⟩
          rw [Int.toNat_natCast] at hn4 HTS
          have hml : m < lx := by omega
          obtain ⟨b, off, eA, hbl, hcs⟩ := K9.out.n.at_ (by omega)
          obtain ⟨ai, li, ci, sa, ls, cs, _, h1, _, _, _, hV⟩ := hcs m hml
          subst eA
          have n1 := (HWx.out.cell (p := ⟨b, off + m * 5 + 1, none⟩) hbl).trans h1
          have hVL := hV.i.length
          rw [hVL] at hn4 HTS
          clear hV h1 hcs hVL
          have HFIN : Hid (Od.tot g l - Od.tot g (l.take k2) - (li : Int) = Od.tot g l - Od.tot g (l.take (k2 + 1))) := by
            have := HTS.out; show _ = _; omega
          have hdd : 0 ≤ Od.tot g l - Od.tot g (l.take k2) ∧ Od.tot g l - Od.tot g (l.take k2) ≤ 160 := by omega
          obtain ⟨hd0, hd1⟩ := hdd
          generalize Od.tot g l - Od.tot g (l.take k2) = sk at *
          clear hq0 hq1
          go_wp2_with fail
          go_quiet (fail)
          have HW9 := Lib.hid (HWx.out.trans (below_drewN wx nq _))
          go_wp2
          go_roundg (lo - (k2 + 1))
          case measure => exact Nat.lt_of_lt_of_le (Nat.sub_lt_sub_left hlt2 (Nat.lt_succ_self k2)) hg2
          case rel => exact ⟨k2 + 1, Nat.succ_le_of_lt hlt2, Nat.le_refl _, by go_num, by rw [← HFIN.out], HW9⟩
        · have hz2 : Od.tot g l - Od.tot g (l.take k2) = 0 := by rw [List.take_of_length_le (by rw [LO.out]; omega)]; omega
          rw [hz2]
          clear hz2
          go_wp2
          go_ret
          exact ⟨rfl, (K9.out.on HWx.out).bel⟩
end Go.Proofs.Ytgmagldbfajedaa
