/-
  drydocklaw10.GraphsJoined: the walk gjoined_walk (it returns true, and changes nothing below).
-/
import Derived.Test.YtgmagldbfajedaaBh
import Derived.Deep.RegionHeld3
namespace Go.Proofs.Ytgmagldbfajedaa
open Go.RowKit

namespace Gr
theorem joined_add {g : List Node} {s : List (List Int)} (h : shapes g = some s) (hl : g.length ≤ 31) (p q : Nat) (hp : p < g.length) (hq : q < g.length) :
    (shapes (g ++ [⟨3, [p, q], [], 0, 0⟩])).isSome = sameB (rowL s p) (rowL s q) := by
  have hs := shapes_len h
  rw [shapes_snoc h (by simp) (by simp), if_pos (by omega), step_add (run_all h) p q (by omega) (by omega)]
  cases hb : sameB (rowL s p) (rowL s q) with
  | true => simp
  | false => simp
theorem joined_join {g : List Node} {s : List (List Int)} (h : shapes g = some s) (hl : g.length ≤ 31) (p k : Nat) (hp : p < g.length) (hk : k ≤ 3) :
    shapes (g ++ [⟨12, [p, p], [], k, 0⟩]) = if k < (rowL s p).length ∧ chk (longer k (rowL s p) (rowL s p)) = true then some (s ++ [longer k (rowL s p) (rowL s p)]) else none := by
  have hs := shapes_len h
  rw [shapes_snoc h (by simp) (by simp), if_pos (by omega), step_join p k (by omega) hk]
  split
  · rename_i heq
    split at heq
    · cases heq
    · rename_i hc; rw [if_neg hc]
  · rename_i t heq
    split at heq
    · rename_i hc; cases heq; rw [if_pos hc]
    · cases heq
end Gr

/-- 'l = append(l, m...)' of integers, on a slice of the call's own. -/
theorem wpList_appI {ops : Array Oper} {rest : List Oper} {o : Oper} {a : Act} {Q : Exit → Act → World → Prop} (w : World) (hgd : o.guard = none) (s t : Operand)
    (ho : o.op = .call { callee := .builtin .append, args := #[s, t], argTypes := #[22, 22] }) (base : Nat) (v : Value) (l l2 : List Int) (ad : Addr) (m c : Nat)
    (hown : Own base w v l) (h2 : Ints w (some ad) m c l2) (hs : a.eval s = v) (ht : a.eval t = .slice (some ad) m c) (hb : base ≤ w.heap.size) (hlen : l.length ≤ 1000000) (hlen2 : m ≤ 1000000)
    (h : ∀ v' w', Own base w' v' (l ++ l2) → Below base w w' → wpList Try.prog ops Q rest (a.put o.dst v') w') :
    wpList Try.prog ops Q (o :: rest) a w := by
  obtain ⟨i0, hi, hz0, hz1, hz2⟩ := info_parts Try.info3
  have hl2 := h2.length
  refine wpList_append_own _ hgd s t 22 ho base 3 i0 (.int .i64 0) 1 8 Try.underlying22 hi hz0 hz1 hz2 rfl (by decide) v l.length (l.map (Value.int .i64)) hs hown ad m c (l2.map (Value.int .i64)) ht ?_ ?_ ?_ ?_ ?_ hb ?_
  · rw [List.length_map, hl2]; omega
  · intro j u hj
    have hjl : j < l2.length := by have := (List.getElem?_eq_some_iff.1 hj).1; simpa using this
    obtain ⟨b, off, e, hlt, hc⟩ := h2.at_ (by omega)
    simp only [Option.some.injEq] at e
    subst e
    rw [Addr.add_lit, hc j (by omega), nth_eq l2 j hjl]
    rw [List.getElem?_map, List.getElem?_eq_getElem hjl] at hj
    simpa using hj
  · intro u hu; obtain ⟨x, _, rfl⟩ := List.mem_map.1 hu; rfl
  · unfold maxLen; omega
  · omega
  · intro v' w' hown' hgrow _
    refine h v' w' ?_ ((Below.refl base w).grown hgrow hb fun k hk => (World.ownsRow.lt hown k hk).1)
    unfold Own
    rw [List.length_append, List.map_append, hl2]
    exact hown'

theorem below_keep {w w' : World} (h : Below w.heap.size w w') {p : Addr} {v : Value} (hc : w.cell? p = some v) : w'.cell? p = some v :=
  (h.cell (World.block_lt_of_cell? w p hc)).trans hc

set_option maxHeartbeats 8000000 in
set_option maxRecDepth 100000 in
theorem gjoined_walk (a : Option Addr) (len cap : Nat) (g : List Gr.Node) (u0 u1 along : Int) (w : World) (HN : Nodes w a len cap g) (hu0 : 0 ≤ u0 ∧ u0 ≤ 255) (hu1 : 0 ≤ u1 ∧ u1 ≤ 255) (hal : 0 ≤ along ∧ along ≤ 255) :
    Calls Try.prog 10 #[.agg #[.slice a len cap], .agg #[.int .u8 u0, .int .u8 u1], .int .u8 along] w fun e w' => e = .returned (.bool true) ∧ Below w.heap.size w w' := by
  have LN := Lib.hid HN.length
  have hle := HN.le
  have hcl := HN.cap_le
  have hll := HN.len_le
  have K0 := Lib.hid (GSt.start HN)
  have hm0 : (((w.alloc (.cells #[.slice a len cap] 38)).alloc (.cells #[.int .u8 u0, .int .u8 u1] 52))).cell? ⟨w.heap.size + 1, 0, none⟩ = some (.int .u8 u0) := by rw [World.cell?_alloc_at _ _ _ _ (by simp)]; rfl
  have hm1 : (((w.alloc (.cells #[.slice a len cap] 38)).alloc (.cells #[.int .u8 u0, .int .u8 u1] 52))).cell? ⟨w.heap.size + 1, 1, none⟩ = some (.int .u8 u1) := by rw [World.cell?_alloc_at _ _ _ _ (by simp)]; rfl
  have M0 := Lib.hid hm0
  have M1 := Lib.hid hm1
  clear HN hm0 hm1
  go_enter Try.func10, Try.ntmps10
  go_wp2_with fail
  refine (galive_any _).mono ?_
  rintro e w2 ⟨rfl, hb⟩
  have K2 := Lib.hid ((K0.out.alloc _).on hb)
  have c2 := K2.out.cell
  have M02 := Lib.hid (below_keep hb M0.out)
  have M12 := Lib.hid (below_keep hb M1.out)
  clear hb K0 M0 M1
  go_wp2_with fail
  refine (gsize_any _ _ _ g _ K2.out.n).mono ?_
  rintro e w3 ⟨v, rfl, ⟨hv0, hv1⟩, hb⟩
  have K3 := Lib.hid (K2.out.on hb)
  have c3 := K3.out.cell
  have M03 := Lib.hid (below_keep hb M02.out)
  have M13 := Lib.hid (below_keep hb M12.out)
  clear hb c2 M02 M12
  by_cases hbig : 20000 < v
  · have d : decide (v > 20000) = true := decide_eq_true hbig
    go_wp2_with fail
    refine (galive_any _).mono ?_
    rintro e w4 ⟨rfl, hb⟩
    have K4 := Lib.hid (K3.out.on hb)
    clear hb
    go_wp2
    go_ret
    exact ⟨rfl, K4.out.bel⟩
  have d : decide (v > 20000) = false := decide_eq_false hbig
  by_cases h31 : 31 < len
  · have d31 : decide ((len : Int) > 31) = true := decide_eq_true (by omega)
    go_wp2_with fail
    refine (galive_any _).mono ?_
    rintro e w4 ⟨rfl, hb⟩
    have K4 := Lib.hid (K3.out.on hb)
    clear hb
    go_wp2
    go_ret
    exact ⟨rfl, K4.out.bel⟩
  have d31 : decide ((len : Int) > 31) = false := decide_eq_false (by omega)
  go_wp2_with fail
  refine (gshapes_any _ _ _ g _ K3.out.n).mono ?_
  rintro e w4 ⟨hb, ⟨hs, rfl⟩ | ⟨s, as4, ls4, hs, rfl, hG⟩⟩
  · have K4 := Lib.hid (K3.out.on hb)
    clear hb
    go_wp2
    go_ret
    exact ⟨rfl, K4.out.bel⟩
  have K4 := Lib.hid (K3.out.on hb)
  have c4 := K4.out.cell
  have m04 := below_keep hb M03.out
  have m14 := below_keep hb M13.out
  obtain ⟨⟨hl1, hl2⟩, _⟩ := Gr.shapes_iff.1 hs
  rw [LN.out] at hl1 hl2
  have HS := Lib.hid hs
  have HSL := Lib.hid (Gr.shapes_len hs)
  have hls : ls4 = len := by rw [← hG.length, HSL.out, LN.out]
  subst hls
  have KG := Lib.hid hG
  obtain ⟨p, hp, hpl⟩ := rem_nat (n := ls4) hu0.1 (by omega)
  obtain ⟨q, hq, hql⟩ := rem_nat (n := ls4) hu1.1 (by omega)
  obtain ⟨k, hk, hkl⟩ := rem_nat (n := 4) hal.1 (by omega)
  have hz : ((ls4 : Int) == 0) = false := by simp; omega
  have HA := Lib.hid (Gr.joined_add hs (by rw [LN.out]; omega) p q (by rw [LN.out]; exact hpl) (by rw [LN.out]; exact hql))
  have HJ := Lib.hid (Gr.joined_join hs (by rw [LN.out]; omega) p k (by rw [LN.out]; exact hpl) (by omega))
  have HC := Lib.hid (Gr.chk_parts (Gr.shapes_chk hs p (by rw [HSL.out, LN.out]; exact hpl)))
  obtain ⟨bS, oS, rfl, hbS, hcS⟩ := hG.at_ (by omega)
  obtain ⟨ap, lp, cp, hcp, hIp⟩ := hcS p hpl
  obtain ⟨aq, lq, cq, hcq, hIq⟩ := hcS q hql
  have HP := Lib.hid hIp
  have HQ := Lib.hid hIq
  clear hb hs hG c3 hcS hIp hIq M03 M13
  have HBa : Hid (Below w4.heap.size w4 (w4.drew.alloc (.cells #[.int .i64 p, .int .i64 q] 3))) := (Below.refl _ _).drew.alloc (Nat.le_refl _) _
  have HNa := Lib.hid (K4.out.on HBa.out).n
  have HVa : Hid (NodeV (w4.drew.alloc (.cells #[.int .i64 p, .int .i64 q] 3)) (some ⟨w4.heap.size, 0, none⟩) 2 2 none 0 0 ⟨3, [(p : Int), (q : Int)], [], 0, 0⟩) :=
    nodeV_lit (ints_kk w4.drew _ _ (by omega) (by omega)) Ints.nil (by simp) (by omega) (by omega) (by omega) (by omega)
  go_wp2_with fail
  have HSa : Hid ((w4.drew.alloc (.cells #[.int .i64 p, .int .i64 q] 3)).cell? ⟨w.heap.size, 0, none⟩ = some (.slice a ls4 cap) ∧ (w4.drew.alloc (.cells #[.int .i64 p, .int .i64 q] 3)).cell? ⟨bS, oS + p, none⟩ = some (.slice ap lp cp) ∧ (w4.drew.alloc (.cells #[.int .i64 p, .int .i64 q] 3)).cell? ⟨bS, oS + q, none⟩ = some (.slice aq lq cq)) :=
    ⟨below_keep HBa.out c4, below_keep HBa.out hcp, below_keep HBa.out hcq⟩
  go_region_held3 (fun w' => w'.cell? ⟨w.heap.size, 0, none⟩ = some (.slice a ls4 cap) ∧ w'.cell? ⟨bS, oS + p, none⟩ = some (.slice ap lp cp) ∧ w'.cell? ⟨bS, oS + q, none⟩ = some (.slice aq lq cq))
    (first
      | exact S7
      | exact S6
      | exact S5
      | go_keep)
    (first
      | (go_simp; go_at_call 37; refine (with_any a ls4 cap g _ _ _ _ _ _ 3 0 0 [(p : Int), (q : Int)] [] _ HNa.out HVa.out hl1 (by omega)).mono ?_; rintro e w5 ⟨a5, l5, q5, rfl, hN5, hb5⟩; have HB5 := HBa.out.trans (hb5.mono HBa.out.size); have S5 := And.intro (below_keep hb5 HSa.out.1) (And.intro (below_keep hb5 HSa.out.2.1) (below_keep hb5 HSa.out.2.2)))
      | (go_simp; go_at_call 34; refine (gcheck_any _ _ _ _ _ hN5).mono ?_; rintro e w6 ⟨rfl, hb6⟩; have HB6 := HB5.trans (hb6.mono HB5.size); have S6 := And.intro (below_keep hb6 S5.1) (And.intro (below_keep hb6 S5.2.1) (below_keep hb6 S5.2.2)); rw [HA.out])
      | (go_simp; go_at_call 30; refine (same_any _ _ _ _ _ _ _ _ _ (HP.out.below HB6) (HQ.out.below HB6)).mono ?_; rintro e w7 ⟨rfl, hb7⟩; have HB7 := HB6.trans (hb7.mono HB6.size); have S7 := And.intro (below_keep hb7 S6.1) (And.intro (below_keep hb7 S6.2.1) (below_keep hb7 S6.2.2))))
  have HB := Lib.hid HB7
  have K7 := Lib.hid (K4.out.on HB7)
  obtain ⟨c7, hcp7, _⟩ := S7
  have HP7 := Lib.hid (HP.out.below HB7)
  have LP := Lib.hid HP.out.length
  clear S5 S6 HB5 HB6 HB7 hb5 hb6 hb7 hN5 c4 hcp hcq m04 m14
  have eB : (sameB (rowL s p) (rowL s q) != sameB (rowL s p) (rowL s q)) = false := by simp
  have hk' : Int.tmod along 4 = (k : Int) := by simpa using hk
  clear hk
  go_wp2_with fail
  refine (with_any a ls4 cap g _ _ _ _ _ _ 12 (k : Int) 0 [(p : Int), (p : Int)] [] _ (K7.out.alloc _).n (nodeV_lit (ints_kk w7 _ _ (by omega) (by omega)) Ints.nil (by simp) (by omega) (by omega) (by omega) (by omega)) hl1 (by omega)).mono ?_
  rintro e w8 ⟨a8, l8, q8, rfl, hN8, hb8⟩
  have HN8 := Lib.hid hN8
  have HB8 : Hid (Below w7.heap.size w7 w8) := ((Below.refl _ _).alloc (Nat.le_refl _) _).trans (hb8.mono (by simp))
  clear hN8 hb8
  go_wp2_with fail
  refine (gshapes_any _ _ _ _ _ HN8.out).mono ?_
  rintro e w9 ⟨hb9, hres⟩
  have HB9 : Hid (Below w7.heap.size w7 w9) := HB8.out.trans (hb9.mono HB8.out.size)
  have hcp9 := below_keep HB9.out hcp7
  have HP9 := Lib.hid (HP7.out.below HB9.out)
  have HBE : Hid (Below w.heap.size w w9) := (K7.out.on HB9.out).bel
  clear c7 hcp7
  have hpl2 := HP9.out.le
  have hpl3 := HP9.out.cap_le
  by_cases ckl : (lp : Int) ≤ (k : Int)
  · have d1 : decide ((k : Int) ≥ (lp : Int)) = true := decide_eq_true ckl
    have hnone := HJ.out.trans (if_neg (fun h => by have := h.1; rw [LP.out] at this; omega))
    rcases hres with ⟨hs, rfl⟩ | ⟨s9, a9, l9, hs, rfl, hG⟩
    · clear hs hb9 hnone
      go_wp2
      go_ret
      exact ⟨rfl, HBE.out⟩
    · rw [hnone] at hs; cases hs
  · have d1 : decide ((k : Int) ≥ (lp : Int)) = false := decide_eq_false ckl
    have hklp : k < lp := by omega
    obtain ⟨bP, oP, rfl, hbP, _⟩ := HP9.out.at_ (by omega)
    have hC := HC.out
    rw [LP.out] at hC
    have hx := hC.2.2 (nth (rowL s p) k) (nth_mem _ _ (by rw [LP.out]; exact hklp))
    obtain ⟨hx0, hx1⟩ := hx
    have HLB : Hid (∀ v ∈ rowL s p, 1 ≤ v ∧ v ≤ 64) := hC.2.2
    have hlp4 : lp ≤ 4 := hC.2.1
    have HLG : Hid (Gr.longer (k : Int) (rowL s p) (rowL s p) = (rowL s p).set k (2 * nth (rowL s p) k)) := by
      show _ = _
      unfold Gr.longer
      simp only [Int.toNat_natCast]
      congr 1; omega
    cases hch : Gr.chk (Gr.longer (k : Int) (rowL s p) (rowL s p)) with
    | true =>
      have hsome := HJ.out.trans (if_pos ⟨by rw [LP.out]; exact hklp, hch⟩)
      rcases hres with ⟨hs, rfl⟩ | ⟨s9, a9, l9, hs, rfl, hG⟩
      · rw [hsome] at hs; cases hs
      · rw [hsome] at hs
        cases hs
        have hl9 : l9 = ls4 + 1 := by rw [← hG.length, List.length_append, HSL.out, LN.out]; rfl
        subst hl9
        have KT := Lib.hid hG
        have HCH := Lib.hid hch
        clear hC hb9 hsome hG hch
        go_wp2_with (at_builtin; go_must (refine wpList_appI _ rfl _ _ rfl w9.heap.size (.slice none 0 0) [] (rowL s p) ⟨bP, oP, none⟩ lp cp (Own.nil _ _) HP9.out rfl rfl (Nat.le_refl _) (by simp) (by omega) ?_))
        intro v' w10 hown' hbel
        obtain ⟨gg, og, cg, rfl, hM⟩ := hown'.mine (by rw [LP.out]; omega)
        rw [LP.out]
        have hmk := hM.cell k (by rw [LP.out]; exact hklp)
        have hfk := hM.fr k (by rw [LP.out]; exact hklp)
        have hM2 := hM.set k (by rw [LP.out]; exact hklp) (2 * nth (rowL s p) k)
        rw [← HLG.out] at hM2
        have hB10 := below_setCell (HBE.out.trans (hbel.mono HBE.out.size)) gg (og + k) (.int .i64 (2 * nth (rowL s p) k)) (by have := hM.lo; have := HBE.out.size; omega)
        have hK10 := below_setCell hbel gg (og + k) (.int .i64 (2 * nth (rowL s p) k)) hM.lo
        have HM2 := Lib.hid hM2
        have HB10 := Lib.hid hB10
        have HK10 := Lib.hid hK10
        have hlc := hM.le
        rw [LP.out] at hlc
        have hlc2 := hM.cap_le
        clear hown' hbel hM hM2 hB10 hK10
        generalize nth (rowL s p) k = x at *
        go_wp2_with fail
        have HI2 := HM2.out.ints (fun v hv => by have := Gr.longer_bounds (along := (k : Int)) (M := 64) (by omega) (by rw [LP.out]; omega) rfl HLB.out HLB.out v hv; omega)
        rw [Gr.longer_length, LP.out] at HI2
        have HI3 := Lib.hid HI2
        clear HI2
        refine (check_any _ _ _ _ _ HI3.out).mono ?_
        rintro e w11 ⟨rfl, rfl⟩
        rw [HCH.out]
        obtain ⟨bT, oT, ax, lx, cx, rfl, _, hxc, hIx⟩ := (KT.out.below HK10.out).get (n := (ls4 : Int)) (by omega) (by omega)
        have hrw : Gr.rowAt (s ++ [Gr.longer (k : Int) (rowL s p) (rowL s p)]) (ls4 : Int) = Gr.longer (k : Int) (rowL s p) (rowL s p) := by
          rw [Gr.rowAt_nat]
          have := rowL_snoc_last s (Gr.longer (k : Int) (rowL s p) (rowL s p))
          rwa [HSL.out, LN.out] at this
        rw [hrw] at hIx
        have hxc2 : (w10.setCell ⟨gg, og + k, none⟩ (.int .i64 (2 * x))).cell? ⟨bT, oT + ls4, none⟩ = some (.slice ax lx cx) := hxc
        have HIx := Lib.hid hIx
        clear hxc hIx hrw
        generalize w10.setCell ⟨gg, og + k, none⟩ (.int .i64 (2 * x)) = w11 at *
        go_wp2_with fail
        refine (same_any _ _ _ _ _ _ _ _ _ HIx.out HI3.out).mono ?_
        rintro e w12 ⟨rfl, hb12⟩
        rw [sameB_self]
        have HB12 := Lib.hid (HB10.out.trans (hb12.mono HB10.out.size))
        clear hb12
        go_wp2
        go_ret
        exact ⟨rfl, HB12.out⟩
    | false =>
      have hnone := HJ.out.trans (if_neg (fun h => by rw [hch] at h; cases h.2))
      rcases hres with ⟨hs, rfl⟩ | ⟨s9, a9, l9, hs, rfl, hG⟩
      · have HCH := Lib.hid hch
        clear hC hb9 hnone hs hch
        go_wp2_with (at_builtin; go_must (refine wpList_appI _ rfl _ _ rfl w9.heap.size (.slice none 0 0) [] (rowL s p) ⟨bP, oP, none⟩ lp cp (Own.nil _ _) HP9.out rfl rfl (Nat.le_refl _) (by simp) (by omega) ?_))
        intro v' w10 hown' hbel
        obtain ⟨gg, og, cg, rfl, hM⟩ := hown'.mine (by rw [LP.out]; omega)
        rw [LP.out]
        have hmk := hM.cell k (by rw [LP.out]; exact hklp)
        have hfk := hM.fr k (by rw [LP.out]; exact hklp)
        have hM2 := hM.set k (by rw [LP.out]; exact hklp) (2 * nth (rowL s p) k)
        rw [← HLG.out] at hM2
        have hB10 := below_setCell (HBE.out.trans (hbel.mono HBE.out.size)) gg (og + k) (.int .i64 (2 * nth (rowL s p) k)) (by have := hM.lo; have := HBE.out.size; omega)
        have HM2 := Lib.hid hM2
        have HB10 := Lib.hid hB10
        have hlc := hM.le
        rw [LP.out] at hlc
        have hlc2 := hM.cap_le
        clear hown' hbel hM hM2 hB10
        generalize nth (rowL s p) k = x at *
        go_wp2_with fail
        have HI2 := HM2.out.ints (fun v hv => by have := Gr.longer_bounds (along := (k : Int)) (M := 64) (by omega) (by rw [LP.out]; omega) rfl HLB.out HLB.out v hv; omega)
        rw [Gr.longer_length, LP.out] at HI2
        refine (check_any _ _ _ _ _ HI2).mono ?_
        rintro e w11 ⟨rfl, rfl⟩
        rw [HCH.out]
        go_wp2
        go_ret
        exact ⟨rfl, HB10.out⟩
      · rw [hnone] at hs; cases hs
end Go.Proofs.Ytgmagldbfajedaa
