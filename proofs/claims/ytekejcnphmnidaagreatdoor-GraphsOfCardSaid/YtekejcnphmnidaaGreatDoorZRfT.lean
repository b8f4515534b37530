import Derived.Test.YtekejcnphmnidaaGreatDoorZRfS
import Derived.Test.YtekejcnphmnidaaGreatDoorZRfN
import Derived.Test.YtekejcnphmnidaaGreatDoorZBh
import Derived.Test.YtekejcnphmnidaaGreatDoorZPlCat
namespace Go.Proofs.YtekejcnphmnidaaGreatDoor
open Go.RowKit
def RShapesE (w : World) (g : List Gr.Node) (e : Ending) (w' : World) : Prop :=
  Below w.heap.size w w' ∧ ((Gr.shapes g = none ∧ ∃ a l c, e = .returned (.tuple #[.slice a l c, .bool false])) ∨ ∃ s a l c, Gr.shapes g = some s ∧ e = .returned (.tuple #[.slice a l c, .bool true]) ∧ Grid w' a l c s)
namespace Gr
theorem nodeB_kind {x : Node} (h : nodeB x = true) : ∃ k, kindOf x.kind = some k ∧ ofB k x = true := by
  unfold nodeB at h
  cases hk : kindOf x.kind with
  | none => rw [hk] at h; cases h
  | some k => rw [hk] at h; exact ⟨k, rfl, h⟩
theorem step_node {L : List (List Int)} {x : Node} (h : nodeB x = false) : step L x = none := by
  unfold nodeB at h
  unfold step
  cases hk : kindOf x.kind with
  | none => rfl
  | some k => rw [hk] at h; simp only at h; simp only [h]; rw [if_neg (by simp)]
theorem okIn_bad {x : Node} {n j : Nat} (hj : j < x.inn.length) (h : nth x.inn j < 0 ∨ (n : Int) ≤ nth x.inn j) : okIn x n = false := by
  cases hc : okIn x n with
  | false => rfl
  | true =>
    unfold okIn at hc
    have := List.all_eq_true.1 hc _ (nth_mem x.inn j hj)
    simp only [Bool.and_eq_true, decide_eq_true_eq] at this
    omega
theorem okIn_all {x : Node} {n : Nat} (h : ∀ j, j < x.inn.length → 0 ≤ nth x.inn j ∧ nth x.inn j < (n : Int)) : okIn x n = true := by
  unfold okIn
  refine List.all_eq_true.2 fun v hv => ?_
  obtain ⟨j, hj, rfl⟩ := List.getElem_of_mem hv
  have := h j hj
  rw [nth_eq _ _ hj] at this
  simp only [Bool.and_eq_true, decide_eq_true_eq]
  exact this
end Gr
set_option maxHeartbeats 4000000 in
set_option maxRecDepth 100000 in
theorem rshapes_any (a : Option Addr) (len cap : Nat) (g : List Gr.Node) (w : World) (HN : Nodes w a len cap g) :
    Calls Tryz.prog 116 #[.agg #[.slice a len cap]] w fun e w' => RShapesE w g e w' := by
  have LN := Lib.hid HN.length
  have hle := HN.le
  have hcl := HN.cap_le
  have K0 := Lib.hid (GSt.start HN)
  clear HN
  by_cases c1 : len < 1
  · have d1 : decide ((len : Int) < 1) = true := decide_eq_true (by omega)
    have HR := Lib.hid (show Gr.shapes g = none by unfold Gr.shapes; rw [if_pos (.inl (by rw [LN.out]; exact c1))])
    clear c1
    go_enter Tryz.func116, Tryz.ntmps116
    go_wp2
    go_ret2
    exact ⟨K0.out.bel, .inl ⟨HR.out, _, _, _, rfl⟩⟩
  have d1 : decide ((len : Int) < 1) = false := decide_eq_false (by omega)
  by_cases c2 : 32 < len
  · have d2 : decide ((len : Int) > 32) = true := decide_eq_true (by omega)
    have HR := Lib.hid (show Gr.shapes g = none by unfold Gr.shapes; rw [if_pos (.inr (by rw [LN.out]; exact c2))])
    clear c1 c2
    go_enter Tryz.func116, Tryz.ntmps116
    go_wp2
    go_ret2
    exact ⟨K0.out.bel, .inl ⟨HR.out, _, _, _, rfl⟩⟩
  have d2 : decide ((len : Int) > 32) = false := decide_eq_false (by omega)
  go_enter Tryz.func116, Tryz.ntmps116
  go_wp2
  generalize w.alloc (.cells #[.slice a len cap] 56) = w2 at *
  go_loopg [4, 5, 6] len (fun gg u v i wr => ∃ (k : Nat) (L : List (List Int)), k ≤ len ∧ len - k ≤ gg ∧ i = .int .i64 k ∧ u = .int .i64 (Gr.inputs (g.take k) : Nat) ∧ Hid (Gr.run [] (g.take k) = some L) ∧ Hid (OwnG w2.heap.size wr v L) ∧ Hid (Below w2.heap.size w2 wr))
  case atStart => exact ⟨0, [], Nat.zero_le _, by omega, rfl, rfl, rfl, OwnG.nil _ _, Below.refl _ _⟩
  case round =>
    obtain ⟨k, L, hk, hg, rfl, rfl, HR, HO, HW⟩ := hrel
    have Kr := Lib.hid (K0.out.on HW.out)
    have cr := Kr.out.cell
    have HLl : Hid (L.length = k) := by show _ = _; have := Gr.run_length _ _ _ HR.out; rw [List.length_take, LN.out] at this; simp at this; omega
    obtain ⟨aL, lL, cL, rfl, hG, _⟩ := HO.out.grid
    obtain rfl : k = lL := by have h1 := hG.length; have h2 := HLl.out; omega
    have HG := Lib.hid hG
    have hgl := hG.le
    have hgc := hG.cap_le
    clear hG
    by_cases hlt : k < len
    · have dkl : decide ((k : Int) < (len : Int)) = true := decide_eq_true (by omega)
      obtain ⟨b, off, ai, li, ci, sa, ls, cs, rfl, _, n0, n1, n2, n3, n4, hV⟩ := Kr.out.n.get (Below.refl _ wr) hlt
      have HV := Lib.hid hV
      have hkd := hV.kind
      have LI := Lib.hid hV.i.length
      have hlile := hV.i.le
      have hlicl := hV.i.cap_le
      have HX : Hid (nodeN g k = ⟨(nodeN g k).kind, (nodeN g k).inn, (nodeN g k).shape, (nodeN g k).n, (nodeN g k).pad⟩) := rfl
      have HCK : Hid (∀ s ∈ L, Gr.chk s = true) := Gr.run_chk _ _ _ HR.out (fun _ h => by cases h)
      have HIS := Lib.hid (Gr.inputs_snoc g k (by rw [LN.out]; exact hlt))
      have hinb : Gr.inputs (g.take k) ≤ k := Nat.le_trans (Gr.inputs_le_length (g.take k)) (List.length_take_le _ _)
      have HB4 : Hid (Below wr.heap.size wr (wr.alloc (.cells #[.int .u8 (nodeN g k).kind, .slice ai li ci, .slice sa ls cs, .int .i64 (nodeN g k).n, .int .i64 (nodeN g k).pad] 103))) := (Below.refl _ _).alloc (Nat.le_refl _) _
      have Z4 : Hid ((wr.alloc (.cells #[.int .u8 (nodeN g k).kind, .slice ai li ci, .slice sa ls cs, .int .i64 (nodeN g k).n, .int .i64 (nodeN g k).pad] 103)).heap.size = wr.heap.size + 1) := by show _ = _; simp
      have X0 : Hid ((wr.alloc (.cells #[.int .u8 (nodeN g k).kind, .slice ai li ci, .slice sa ls cs, .int .i64 (nodeN g k).n, .int .i64 (nodeN g k).pad] 103)).cell? ⟨wr.heap.size, 0, none⟩ = some (.int .u8 (nodeN g k).kind)) := by show _ = _; rw [World.cell?_alloc_at _ _ _ _ rfl]; rfl
      have X1 : Hid ((wr.alloc (.cells #[.int .u8 (nodeN g k).kind, .slice ai li ci, .slice sa ls cs, .int .i64 (nodeN g k).n, .int .i64 (nodeN g k).pad] 103)).cell? ⟨wr.heap.size, 1, none⟩ = some (.slice ai li ci)) := by show _ = _; rw [World.cell?_alloc_at _ _ _ _ rfl]; rfl
      have X2 : Hid ((wr.alloc (.cells #[.int .u8 (nodeN g k).kind, .slice ai li ci, .slice sa ls cs, .int .i64 (nodeN g k).n, .int .i64 (nodeN g k).pad] 103)).cell? ⟨wr.heap.size, 2, none⟩ = some (.slice sa ls cs)) := by show _ = _; rw [World.cell?_alloc_at _ _ _ _ rfl]; rfl
      have X3 : Hid ((wr.alloc (.cells #[.int .u8 (nodeN g k).kind, .slice ai li ci, .slice sa ls cs, .int .i64 (nodeN g k).n, .int .i64 (nodeN g k).pad] 103)).cell? ⟨wr.heap.size, 3, none⟩ = some (.int .i64 (nodeN g k).n)) := by show _ = _; rw [World.cell?_alloc_at _ _ _ _ rfl]; rfl
      have X4 : Hid ((wr.alloc (.cells #[.int .u8 (nodeN g k).kind, .slice ai li ci, .slice sa ls cs, .int .i64 (nodeN g k).n, .int .i64 (nodeN g k).pad] 103)).cell? ⟨wr.heap.size, 4, none⟩ = some (.int .i64 (nodeN g k).pad)) := by show _ = _; rw [World.cell?_alloc_at _ _ _ _ rfl]; rfl
      have HV0 : Hid (NodeV wr ai li ci sa ls cs ⟨(nodeN g k).kind, (nodeN g k).inn, (nodeN g k).shape, (nodeN g k).n, (nodeN g k).pad⟩) := HV.out
      rw [HX.out] at HIS
      clear hV HV
      generalize (nodeN g k).kind = kd at *
      generalize (nodeN g k).n = nn at *
      generalize (nodeN g k).pad = pad at *
      generalize (nodeN g k).inn = inn at *
      generalize (nodeN g k).shape = shp at *
      go_wp2_with fail
      refine (rnode_any kd nn pad ai sa li ci ls cs inn shp _ (HV0.out.i.below HB4.out) (HV0.out.s.below HB4.out)).mono ?_
      rintro e w5 ⟨rfl, hb5⟩
      generalize wr.alloc (.cells #[.int .u8 kd, .slice ai li ci, .slice sa ls cs, .int .i64 nn, .int .i64 pad] 103) = w4 at *
      have hz4 := Z4.out
      have Y0 := Lib.hid ((hb5.cell (p := ⟨wr.heap.size, 0, none⟩) (show wr.heap.size < w4.heap.size by omega)).trans X0.out)
      have Y1 := Lib.hid ((hb5.cell (p := ⟨wr.heap.size, 1, none⟩) (show wr.heap.size < w4.heap.size by omega)).trans X1.out)
      have Y2 := Lib.hid ((hb5.cell (p := ⟨wr.heap.size, 2, none⟩) (show wr.heap.size < w4.heap.size by omega)).trans X2.out)
      have Y3 := Lib.hid ((hb5.cell (p := ⟨wr.heap.size, 3, none⟩) (show wr.heap.size < w4.heap.size by omega)).trans X3.out)
      have Y4 := Lib.hid ((hb5.cell (p := ⟨wr.heap.size, 4, none⟩) (show wr.heap.size < w4.heap.size by omega)).trans X4.out)
      have HB5 : Hid (Below wr.heap.size wr w5) := HB4.out.trans (hb5.mono HB4.out.size)
      have HZ5 : Hid (wr.heap.size < w5.heap.size) := by show _ < _; have := hb5.size; omega
      have HV5 := Lib.hid (HV0.out.below HB5.out)
      have HG5 := Lib.hid (HG.out.below HB5.out)
      clear n0 n1 n2 n3 n4 cr X0 X1 X2 X3 X4 hb5
      cases hnb : Gr.nodeB ⟨kd, inn, shp, nn, pad⟩ with
      | false =>
        have HST : Hid (Gr.shapes g = none) := Gr.shapes_fail (by rw [LN.out]; exact hlt) HR.out (by rw [HX.out]; exact Gr.step_node hnb)
        clear hnb
        go_wp2
        go_ret2
        exact ⟨Kr.out.bel.trans (HB5.out.mono Kr.out.bel.size), .inl ⟨HST.out, _, _, _, rfl⟩⟩
      | true =>
        obtain ⟨kk, hkk, hof⟩ := Gr.nodeB_kind hnb
        have HKK : Hid (Gr.kindOf kd = some kk) := hkk
        have HOF := Lib.hid hof
        have hli4 : li ≤ 4 := by have h1 := kindOf_bounds HKK.out; have h2 := (Gr.ofB_parts hof).2.1; simp only at h2; rw [LI.out] at h2; omega
        clear hnb hkk hof
        have y0 := Y0.out
        by_cases hI : kd = 1
        · have dI : (kd == 1) = true := by simp [hI]
          have HINS : Hid (Value.int IntKind.i64 (((Gr.inputs (g.take k) : Nat) : Int) + 1) = Value.int IntKind.i64 ((Gr.inputs (g.take (k + 1)) : Nat) : Int)) := by
            show _ = _
            rw [HIS.out, if_pos hI]; rfl
          clear hI
          go_wp2
          go_loopg [8, 9] li (fun gg vi j wv => ∃ q : Nat, q ≤ li ∧ li - q ≤ gg ∧ j = .int .i64 q ∧ Hid (OwnG w5.heap.size wv vi (rowsOf L (inn.take q))) ∧ Hid (Below w5.heap.size w5 wv) ∧ Hid (∀ j, j < q → 0 ≤ nth inn j ∧ nth inn j < (k : Int)))
          case atStart => exact ⟨0, Nat.zero_le _, by omega, rfl, OwnG.nil _ _, Below.refl _ _, fun j hj => absurd hj (Nat.not_lt_zero _)⟩
          case round =>
            rename World => wv
            obtain ⟨q, hq, hgq, rfl, HIo, HBv, HOK⟩ := hrel
            have z0 := (HBv.out.cell (p := ⟨wr.heap.size, 0, none⟩) HZ5.out).trans Y0.out
            have z1 := (HBv.out.cell (p := ⟨wr.heap.size, 1, none⟩) HZ5.out).trans Y1.out
            have z2 := (HBv.out.cell (p := ⟨wr.heap.size, 2, none⟩) HZ5.out).trans Y2.out
            have z3 := (HBv.out.cell (p := ⟨wr.heap.size, 3, none⟩) HZ5.out).trans Y3.out
            have z4 := (HBv.out.cell (p := ⟨wr.heap.size, 4, none⟩) HZ5.out).trans Y4.out
            have HVv := Lib.hid (HV5.out.below HBv.out)
            have hz5v := HBv.out.size
            by_cases hltq : q < li
            · have dql : decide ((q : Int) < (li : Int)) = true := decide_eq_true (by omega)
              obtain ⟨bI, oI, rfl, _, hcI⟩ := HVv.out.i.at_ (by omega)
              have kI := hcI q hltq
              have hqi : q < inn.length := by rw [LI.out]; exact hltq
              have HS := Lib.hid (rowsOf_snoc L inn q hqi)
              have HBAD : Hid (nth inn q < 0 ∨ (k : Int) ≤ nth inn q → Gr.shapes g = none) := fun h => Gr.shapes_fail (by rw [LN.out]; exact hlt) HR.out (by
                have h9 : Gr.okIn ⟨kd, inn, shp, nn, pad⟩ L.length = false := by rw [HLl.out]; exact Gr.okIn_bad (x := ⟨kd, inn, shp, nn, pad⟩) hqi h
                rw [HX.out, Gr.step_eq HKK.out, if_neg (fun h => by rw [h9] at h; cases h.2.1)])
              have HOK2 : Hid (0 ≤ nth inn q → nth inn q < (k : Int) → ∀ j, j < q + 1 → 0 ≤ nth inn j ∧ nth inn j < (k : Int)) := fun h1 h2 j hj => by
                by_cases e : j = q
                · subst e; exact ⟨h1, h2⟩
                · exact HOK.out j (by omega)
              clear hcI
              generalize nth inn q = x at *
              by_cases c1 : x < 0
              · have d1 : decide (x < 0) = true := decide_eq_true c1
                have HST := Lib.hid (HBAD.out (.inl c1))
                clear c1
                go_wp2
                go_ret2
                exact ⟨Kr.out.bel.trans ((HB5.out.trans (HBv.out.mono HB5.out.size)).mono Kr.out.bel.size), .inl ⟨HST.out, _, _, _, rfl⟩⟩
              have d1 : decide (x < 0) = false := decide_eq_false c1
              by_cases c2 : (k : Int) ≤ x
              · have d2 : decide (x ≥ (k : Int)) = true := decide_eq_true c2
                have HST := Lib.hid (HBAD.out (.inr c2))
                clear c1 c2
                go_wp2
                go_ret2
                exact ⟨Kr.out.bel.trans ((HB5.out.trans (HBv.out.mono HB5.out.size)).mono Kr.out.bel.size), .inl ⟨HST.out, _, _, _, rfl⟩⟩
              have d2 : decide (x ≥ (k : Int)) = false := decide_eq_false c2
              have HOK3 := Lib.hid (HOK2.out (by omega) (by omega))
              have hxL : x < (k : Int) := by omega
              obtain ⟨bS, oS, aP, lP, cP, rfl, hbS, kP0, hP0⟩ := HG5.out.get (n := x) (by omega) hxL
              have kP := (HBv.out.cell (p := ⟨bS, oS + x.toNat, none⟩) hbS).trans kP0
              have HP := Lib.hid (hP0.below HBv.out)
              have HPb : Hid (∀ p, aP = some p → 0 < lP → p.block < w5.heap.size) := fun p hp h0 => by
                obtain ⟨b', o', e', hlt', _⟩ := hP0.at_ h0
                rw [hp] at e'; cases e'
                exact hlt'
              clear hP0 kP0 hbS HBAD HOK2
              go_wp2_with (at_builtin; go_must (refine wpList_appG _ rfl _ _ rfl w5.heap.size _ _ aP lP cP (Gr.rowAt L x) HIo.out HP.out ?q1 rfl rfl hz5v ?q3 ?_))
              case q1 =>
                intro p hp h0 e
                have h1 := HPb.out p hp h0
                have h2 := (HIo.out.lt _ e.symm).1
                omega
              case q3 => rw [rowsOf_length, List.length_take]; omega
              intro v' w6 hown' hbel hgrow
              rw [← HS.out] at hown'
              have HO6 := Lib.hid hown'
              have HB6 : Hid (Below w5.heap.size w5 w6) := HBv.out.trans hbel
              clear hown' hbel hgrow kI kP z0 z1 z2 z3 z4
              go_wp2
              go_roundg (li - (q + 1))
              case measure => exact Nat.lt_of_lt_of_le (Nat.sub_lt_sub_left hltq (Nat.lt_succ_self q)) hgq
              case rel => exact ⟨q + 1, Nat.succ_le_of_lt hltq, Nat.le_refl _, by go_num, HO6, HB6, HOK3⟩
            · have dql : decide ((q : Int) < (li : Int)) = false := decide_eq_false (by omega)
              obtain rfl : q = li := by omega
              rw [List.take_of_length_le (by rw [LI.out]; omega)] at HIo
              have hok : Gr.okIn ⟨kd, inn, shp, nn, pad⟩ L.length = true := by rw [HLl.out]; exact Gr.okIn_all (x := ⟨kd, inn, shp, nn, pad⟩) (fun j hj => HOK.out j (by have := LI.out; simp only at hj; omega))
              obtain ⟨aI, lI, cI, rfl, hGi, _⟩ := HIo.out.grid
              obtain rfl : lI = q := by have h1 := hGi.length; rw [rowsOf_length, LI.out] at h1; omega
              have HGi := Lib.hid hGi
              have HCR : Hid (∀ s ∈ rowsOf L inn, Gr.chk s = true) := fun s hs => by
                unfold rowsOf at hs
                obtain ⟨v, hv, rfl⟩ := List.mem_map.1 hs
                unfold Gr.okIn at hok
                have h2 := List.all_eq_true.1 hok v hv
                simp only [Bool.and_eq_true, decide_eq_true_eq] at h2
                exact HCK.out _ (rowL_mem L v.toNat (by omega))
              have HOKI := Lib.hid hok
              clear hGi hok
              go_wp2_with fail
              refine (rshape_any ai sa aI lI ci ls cs cI kd nn pad inn shp kk L _ HVv.out HGi.out HKK.out HOF.out HCR.out).mono ?_
              rintro e w8 ⟨hb8, ⟨hc, a8, l8, c8, rfl⟩ | ⟨hc, a8, l8, c8, rfl, hI8⟩⟩
              · have HST : Hid (Gr.shapes g = none) := Gr.shapes_fail (by rw [LN.out]; exact hlt) HR.out (by rw [HX.out, Gr.step_eq HKK.out, if_neg (fun h => by rw [h.2.2] at hc; cases hc)])
                have HB8 := Lib.hid (HBv.out.trans (hb8.mono hz5v))
                clear hc hb8 z0 z1 z2 z3 z4
                go_wp2
                go_ret2
                exact ⟨Kr.out.bel.trans ((HB5.out.trans (HB8.out.mono HB5.out.size)).mono Kr.out.bel.size), .inl ⟨HST.out, _, _, _, rfl⟩⟩
              · have HR2 : Hid (Gr.run [] (g.take (k + 1)) = some (L ++ [Gr.shapeOf ⟨kd, inn, shp, nn, pad⟩ L])) := Gr.run_more' (by rw [LN.out]; exact hlt) HR.out (by rw [HX.out, Gr.step_eq HKK.out, if_pos ⟨HOF.out, HOKI.out, hc⟩])
                have HB8 := Lib.hid (HBv.out.trans (hb8.mono hz5v))
                have hl8 := (Gr.chk_parts hc).2.1
                rw [hI8.length] at hl8
                have HI8 := Lib.hid hI8
                clear hc hb8 hI8 z0 z1 z2 z3 z4
                generalize Gr.shapeOf ⟨kd, inn, shp, nn, pad⟩ L = S at *
                go_wp2_with (at_builtin; go_must (refine wpList_appIN _ rfl _ _ rfl w8.heap.size (.slice none 0 0) [] S a8 l8 c8 (Own.nil _ _) HI8.out rfl rfl (Nat.le_refl _) (by simp) (by omega) ?_))
                intro v9 w9 hO9 hb9
                obtain ⟨a9, l9, c9, rfl, hI9, hor9⟩ := hO9.ints HI8.out.wf
                have HI9 := Lib.hid hI9
                have HB9 : Hid (Below wr.heap.size wr w9) := HB5.out.trans ((HB8.out.trans (hb9.mono HB8.out.size)).mono HB5.out.size)
                have HO9 := Lib.hid (HO.out.below HB9.out)
                have HF9 : Hid (∀ p, a9 = some p → wr.heap.size ≤ p.block) := fun p hp => by
                  rcases hor9 with ⟨h, _⟩ | ⟨g9, h, h1, _⟩
                  · rw [h] at hp; cases hp
                  · rw [h] at hp; cases hp
                    exact Nat.le_trans (Nat.le_trans HB5.out.size HB8.out.size) h1
                have HW9 : Hid (Below w2.heap.size w2 w9) := HW.out.trans (HB9.out.mono HW.out.size)
                clear hO9 hb9 hI9 hor9
                go_wp2_with (at_builtin; go_must (refine wpList_appG _ rfl _ _ rfl w2.heap.size _ L a9 l9 c9 S HO9.out HI9.out ?r1 rfl rfl HW9.out.size ?r3 ?_))
                case r1 =>
                  intro p hp h0 e
                  have h1 := HF9.out p hp
                  have h2 := (HO.out.lt _ e.symm).2
                  omega
                case r3 => have := HLl.out; omega
                intro v' w10 hown' hbel hgrow
                have HO10 := Lib.hid hown'
                have HW10 : Hid (Below w2.heap.size w2 w10) := HW9.out.trans hbel
                clear hown' hbel hgrow
                go_wp2
                go_roundg (len - (k + 1))
                case measure => exact Nat.lt_of_lt_of_le (Nat.sub_lt_sub_left hlt (Nat.lt_succ_self k)) hg
                case rel => exact ⟨k + 1, L ++ [S], Nat.succ_le_of_lt hlt, Nat.le_refl _, by go_num, by first | exact HINS.out | (rw [← HINS.out]), HR2, HO10, HW10⟩
        · have dI : (kd == 1) = false := by simp [hI]
          have HINS : Hid (Value.int IntKind.i64 ((Gr.inputs (g.take k) : Nat) : Int) = Value.int IntKind.i64 ((Gr.inputs (g.take (k + 1)) : Nat) : Int)) := by
            show _ = _
            rw [HIS.out, if_neg hI]; rfl
          clear hI
          go_wp2
          go_loopg [8, 9] li (fun gg vi j wv => ∃ q : Nat, q ≤ li ∧ li - q ≤ gg ∧ j = .int .i64 q ∧ Hid (OwnG w5.heap.size wv vi (rowsOf L (inn.take q))) ∧ Hid (Below w5.heap.size w5 wv) ∧ Hid (∀ j, j < q → 0 ≤ nth inn j ∧ nth inn j < (k : Int)))
          case atStart => exact ⟨0, Nat.zero_le _, by omega, rfl, OwnG.nil _ _, Below.refl _ _, fun j hj => absurd hj (Nat.not_lt_zero _)⟩
          case round =>
            rename World => wv
            obtain ⟨q, hq, hgq, rfl, HIo, HBv, HOK⟩ := hrel
            have z0 := (HBv.out.cell (p := ⟨wr.heap.size, 0, none⟩) HZ5.out).trans Y0.out
            have z1 := (HBv.out.cell (p := ⟨wr.heap.size, 1, none⟩) HZ5.out).trans Y1.out
            have z2 := (HBv.out.cell (p := ⟨wr.heap.size, 2, none⟩) HZ5.out).trans Y2.out
            have z3 := (HBv.out.cell (p := ⟨wr.heap.size, 3, none⟩) HZ5.out).trans Y3.out
            have z4 := (HBv.out.cell (p := ⟨wr.heap.size, 4, none⟩) HZ5.out).trans Y4.out
            have HVv := Lib.hid (HV5.out.below HBv.out)
            have hz5v := HBv.out.size
            by_cases hltq : q < li
            · have dql : decide ((q : Int) < (li : Int)) = true := decide_eq_true (by omega)
              obtain ⟨bI, oI, rfl, _, hcI⟩ := HVv.out.i.at_ (by omega)
              have kI := hcI q hltq
              have hqi : q < inn.length := by rw [LI.out]; exact hltq
              have HS := Lib.hid (rowsOf_snoc L inn q hqi)
              have HBAD : Hid (nth inn q < 0 ∨ (k : Int) ≤ nth inn q → Gr.shapes g = none) := fun h => Gr.shapes_fail (by rw [LN.out]; exact hlt) HR.out (by
                have h9 : Gr.okIn ⟨kd, inn, shp, nn, pad⟩ L.length = false := by rw [HLl.out]; exact Gr.okIn_bad (x := ⟨kd, inn, shp, nn, pad⟩) hqi h
                rw [HX.out, Gr.step_eq HKK.out, if_neg (fun h => by rw [h9] at h; cases h.2.1)])
              have HOK2 : Hid (0 ≤ nth inn q → nth inn q < (k : Int) → ∀ j, j < q + 1 → 0 ≤ nth inn j ∧ nth inn j < (k : Int)) := fun h1 h2 j hj => by
                by_cases e : j = q
                · subst e; exact ⟨h1, h2⟩
                · exact HOK.out j (by omega)
              clear hcI
              generalize nth inn q = x at *
              by_cases c1 : x < 0
              · have d1 : decide (x < 0) = true := decide_eq_true c1
                have HST := Lib.hid (HBAD.out (.inl c1))
                clear c1
                go_wp2
                go_ret2
                exact ⟨Kr.out.bel.trans ((HB5.out.trans (HBv.out.mono HB5.out.size)).mono Kr.out.bel.size), .inl ⟨HST.out, _, _, _, rfl⟩⟩
              have d1 : decide (x < 0) = false := decide_eq_false c1
              by_cases c2 : (k : Int) ≤ x
              · have d2 : decide (x ≥ (k : Int)) = true := decide_eq_true c2
                have HST := Lib.hid (HBAD.out (.inr c2))
                clear c1 c2
                go_wp2
                go_ret2
                exact ⟨Kr.out.bel.trans ((HB5.out.trans (HBv.out.mono HB5.out.size)).mono Kr.out.bel.size), .inl ⟨HST.out, _, _, _, rfl⟩⟩
              have d2 : decide (x ≥ (k : Int)) = false := decide_eq_false c2
              have HOK3 := Lib.hid (HOK2.out (by omega) (by omega))
              have hxL : x < (k : Int) := by omega
              obtain ⟨bS, oS, aP, lP, cP, rfl, hbS, kP0, hP0⟩ := HG5.out.get (n := x) (by omega) hxL
              have kP := (HBv.out.cell (p := ⟨bS, oS + x.toNat, none⟩) hbS).trans kP0
              have HP := Lib.hid (hP0.below HBv.out)
              have HPb : Hid (∀ p, aP = some p → 0 < lP → p.block < w5.heap.size) := fun p hp h0 => by
                obtain ⟨b', o', e', hlt', _⟩ := hP0.at_ h0
                rw [hp] at e'; cases e'
                exact hlt'
              clear hP0 kP0 hbS HBAD HOK2
              go_wp2_with (at_builtin; go_must (refine wpList_appG _ rfl _ _ rfl w5.heap.size _ _ aP lP cP (Gr.rowAt L x) HIo.out HP.out ?q1 rfl rfl hz5v ?q3 ?_))
              case q1 =>
                intro p hp h0 e
                have h1 := HPb.out p hp h0
                have h2 := (HIo.out.lt _ e.symm).1
                omega
              case q3 => rw [rowsOf_length, List.length_take]; omega
              intro v' w6 hown' hbel hgrow
              rw [← HS.out] at hown'
              have HO6 := Lib.hid hown'
              have HB6 : Hid (Below w5.heap.size w5 w6) := HBv.out.trans hbel
              clear hown' hbel hgrow kI kP z0 z1 z2 z3 z4
              go_wp2
              go_roundg (li - (q + 1))
              case measure => exact Nat.lt_of_lt_of_le (Nat.sub_lt_sub_left hltq (Nat.lt_succ_self q)) hgq
              case rel => exact ⟨q + 1, Nat.succ_le_of_lt hltq, Nat.le_refl _, by go_num, HO6, HB6, HOK3⟩
            · have dql : decide ((q : Int) < (li : Int)) = false := decide_eq_false (by omega)
              obtain rfl : q = li := by omega
              rw [List.take_of_length_le (by rw [LI.out]; omega)] at HIo
              have hok : Gr.okIn ⟨kd, inn, shp, nn, pad⟩ L.length = true := by rw [HLl.out]; exact Gr.okIn_all (x := ⟨kd, inn, shp, nn, pad⟩) (fun j hj => HOK.out j (by have := LI.out; simp only at hj; omega))
              obtain ⟨aI, lI, cI, rfl, hGi, _⟩ := HIo.out.grid
              obtain rfl : lI = q := by have h1 := hGi.length; rw [rowsOf_length, LI.out] at h1; omega
              have HGi := Lib.hid hGi
              have HCR : Hid (∀ s ∈ rowsOf L inn, Gr.chk s = true) := fun s hs => by
                unfold rowsOf at hs
                obtain ⟨v, hv, rfl⟩ := List.mem_map.1 hs
                unfold Gr.okIn at hok
                have h2 := List.all_eq_true.1 hok v hv
                simp only [Bool.and_eq_true, decide_eq_true_eq] at h2
                exact HCK.out _ (rowL_mem L v.toNat (by omega))
              have HOKI := Lib.hid hok
              clear hGi hok
              go_wp2_with fail
              refine (rshape_any ai sa aI lI ci ls cs cI kd nn pad inn shp kk L _ HVv.out HGi.out HKK.out HOF.out HCR.out).mono ?_
              rintro e w8 ⟨hb8, ⟨hc, a8, l8, c8, rfl⟩ | ⟨hc, a8, l8, c8, rfl, hI8⟩⟩
              · have HST : Hid (Gr.shapes g = none) := Gr.shapes_fail (by rw [LN.out]; exact hlt) HR.out (by rw [HX.out, Gr.step_eq HKK.out, if_neg (fun h => by rw [h.2.2] at hc; cases hc)])
                have HB8 := Lib.hid (HBv.out.trans (hb8.mono hz5v))
                clear hc hb8 z0 z1 z2 z3 z4
                go_wp2
                go_ret2
                exact ⟨Kr.out.bel.trans ((HB5.out.trans (HB8.out.mono HB5.out.size)).mono Kr.out.bel.size), .inl ⟨HST.out, _, _, _, rfl⟩⟩
              · have HR2 : Hid (Gr.run [] (g.take (k + 1)) = some (L ++ [Gr.shapeOf ⟨kd, inn, shp, nn, pad⟩ L])) := Gr.run_more' (by rw [LN.out]; exact hlt) HR.out (by rw [HX.out, Gr.step_eq HKK.out, if_pos ⟨HOF.out, HOKI.out, hc⟩])
                have HB8 := Lib.hid (HBv.out.trans (hb8.mono hz5v))
                have hl8 := (Gr.chk_parts hc).2.1
                rw [hI8.length] at hl8
                have HI8 := Lib.hid hI8
                clear hc hb8 hI8 z0 z1 z2 z3 z4
                generalize Gr.shapeOf ⟨kd, inn, shp, nn, pad⟩ L = S at *
                go_wp2_with (at_builtin; go_must (refine wpList_appIN _ rfl _ _ rfl w8.heap.size (.slice none 0 0) [] S a8 l8 c8 (Own.nil _ _) HI8.out rfl rfl (Nat.le_refl _) (by simp) (by omega) ?_))
                intro v9 w9 hO9 hb9
                obtain ⟨a9, l9, c9, rfl, hI9, hor9⟩ := hO9.ints HI8.out.wf
                have HI9 := Lib.hid hI9
                have HB9 : Hid (Below wr.heap.size wr w9) := HB5.out.trans ((HB8.out.trans (hb9.mono HB8.out.size)).mono HB5.out.size)
                have HO9 := Lib.hid (HO.out.below HB9.out)
                have HF9 : Hid (∀ p, a9 = some p → wr.heap.size ≤ p.block) := fun p hp => by
                  rcases hor9 with ⟨h, _⟩ | ⟨g9, h, h1, _⟩
                  · rw [h] at hp; cases hp
                  · rw [h] at hp; cases hp
                    exact Nat.le_trans (Nat.le_trans HB5.out.size HB8.out.size) h1
                have HW9 : Hid (Below w2.heap.size w2 w9) := HW.out.trans (HB9.out.mono HW.out.size)
                clear hO9 hb9 hI9 hor9
                go_wp2_with (at_builtin; go_must (refine wpList_appG _ rfl _ _ rfl w2.heap.size _ L a9 l9 c9 S HO9.out HI9.out ?r1 rfl rfl HW9.out.size ?r3 ?_))
                case r1 =>
                  intro p hp h0 e
                  have h1 := HF9.out p hp
                  have h2 := (HO.out.lt _ e.symm).2
                  omega
                case r3 => have := HLl.out; omega
                intro v' w10 hown' hbel hgrow
                have HO10 := Lib.hid hown'
                have HW10 : Hid (Below w2.heap.size w2 w10) := HW9.out.trans hbel
                clear hown' hbel hgrow
                go_wp2
                go_roundg (len - (k + 1))
                case measure => exact Nat.lt_of_lt_of_le (Nat.sub_lt_sub_left hlt (Nat.lt_succ_self k)) hg
                case rel => exact ⟨k + 1, L ++ [S], Nat.succ_le_of_lt hlt, Nat.le_refl _, by go_num, by first | exact HINS.out | (rw [← HINS.out]), HR2, HO10, HW10⟩
    · have dkl : decide ((k : Int) < (len : Int)) = false := decide_eq_false (by omega)
      obtain rfl : k = len := by omega
      rw [List.take_of_length_le (by rw [LN.out]; omega)] at HR
      have hts : g.take k = g := List.take_of_length_le (by rw [LN.out]; omega)
      rw [hts]
      obtain ⟨m, rfl⟩ : ∃ m, k = m + 1 := ⟨k - 1, by omega⟩
      obtain ⟨b, off, ai, li, ci, sa, ls, cs, rfl, _, n0, n1, n2, n3, n4, _⟩ := Kr.out.n.get (Below.refl _ wr) (show m < m + 1 by omega)
      have HS : Hid (Gr.shapes g = if Gr.inputs g = 1 ∧ Gr.endB g = true then some L else none) := by
        show _ = _
        unfold Gr.shapes
        rw [if_neg (by rw [LN.out]; omega), HR.out]
      have HE : Hid (Gr.endB g = decide ((nodeN g m).kind ≠ 1 ∧ (nodeN g m).kind ≠ 2)) := by
        show _ = _
        have := Gr.endB_take (g := g) (n := m + 1) (by omega) (by rw [LN.out]; omega)
        rw [List.take_of_length_le (by rw [LN.out]; omega)] at this
        exact this
      have hI := Gr.inputs_le_length g
      rw [LN.out] at hI
      have e1 : (((m + 1 : Nat) : Int) - 1).toNat = m := by omega
      have p1 : (0 : Int) ≤ ((m + 1 : Nat) : Int) - 1 := by omega
      have q1 : ((m + 1 : Nat) : Int) - 1 < ((m + 1 : Nat) : Int) := by omega
      have w1 : IntKind.i64.wrap (((m + 1 : Nat) : Int) - 1) = ((m + 1 : Nat) : Int) - 1 := by rw [IntKind.wrap_i64]; omega
      clear n1 n2 n3 n4 hts
      generalize (nodeN g m).kind = kd at *
      generalize Gr.inputs g = ni at *
      by_cases cI : ni = 1
      · have dI : (((ni : Nat) : Int) == 1) = true := by simp; omega
        by_cases k1 : kd = 1
        · have dk1 : (kd != 1) = false := by simp [k1]
          have HST : Hid (Gr.shapes g = none) := by
            show _ = _
            rw [HS.out, if_neg]
            rintro ⟨_, h⟩
            rw [HE.out] at h
            exact (of_decide_eq_true h).1 k1
          clear k1
          go_wp2
          go_ret2
          exact ⟨Kr.out.bel, .inl ⟨HST.out, _, _, _, rfl⟩⟩
        have dk1 : (kd != 1) = true := by simp [k1]
        by_cases k2 : kd = 2
        · have dk2 : (kd != 2) = false := by simp [k2]
          have HST : Hid (Gr.shapes g = none) := by
            show _ = _
            rw [HS.out, if_neg]
            rintro ⟨_, h⟩
            rw [HE.out] at h
            exact (of_decide_eq_true h).2 k2
          clear k1 k2
          go_wp2
          go_ret2
          exact ⟨Kr.out.bel, .inl ⟨HST.out, _, _, _, rfl⟩⟩
        have dk2 : (kd != 2) = true := by simp [k2]
        have HST : Hid (Gr.shapes g = some L) := by
          show _ = _
          rw [HS.out, if_pos]
          exact ⟨cI, by rw [HE.out]; exact decide_eq_true ⟨k1, k2⟩⟩
        clear k1 k2
        go_wp2
        go_ret2
        exact ⟨Kr.out.bel, .inr ⟨L, _, _, _, HST.out, rfl, HG.out⟩⟩
      · have dI : (((ni : Nat) : Int) == 1) = false := by simp; omega
        have HST : Hid (Gr.shapes g = none) := by
          show _ = _
          rw [HS.out, if_neg (fun h => cI h.1)]
        go_wp2
        go_ret2
        exact ⟨Kr.out.bel, .inl ⟨HST.out, _, _, _, rfl⟩⟩
def RShapesN (w : World) (g : List Gr.Node) (e : Ending) (w' : World) : Prop :=
  Below w.heap.size w w' ∧ ((Gr.shapes g = none ∧ e = .returned (.tuple #[.slice none 0 0, .int .i64 1])) ∨ ∃ s a l c, Gr.shapes g = some s ∧ e = .returned (.tuple #[.slice a l c, .int .i64 0]) ∧ Grid w' a l c s)
theorem rShapes_any (a : Option Addr) (len cap : Nat) (g : List Gr.Node) (w : World) (HN : Nodes w a len cap g) :
    Calls Tryz.prog 20 #[.agg #[.slice a len cap]] w fun e w' => RShapesN w g e w' := by
  have K0 := Lib.hid (GSt.start HN)
  clear HN
  go_enter Tryz.func20, Tryz.ntmps20
  go_wp2_with fail
  refine (rshapes_any _ _ _ g _ K0.out.n).mono ?_
  rintro e w1 ⟨hb, ⟨hs, a1, l1, c1, rfl⟩ | ⟨s, a1, l1, c1, hs, rfl, hG⟩⟩
  · have HS := Lib.hid hs
    have HB := Lib.hid (K0.out.bel.trans (hb.mono K0.out.bel.size))
    clear hs hb
    go_wp2
    go_ret2
    exact ⟨HB.out, .inl ⟨HS.out, rfl⟩⟩
  · have HS := Lib.hid hs
    have HB := Lib.hid (K0.out.bel.trans (hb.mono K0.out.bel.size))
    have HG := Lib.hid hG
    clear hs hb hG
    go_wp2
    go_ret2
    exact ⟨HB.out, .inr ⟨s, _, _, _, HS.out, rfl, HG.out⟩⟩
theorem rCheck_any (a : Option Addr) (len cap : Nat) (g : List Gr.Node) (w : World) (HN : Nodes w a len cap g) :
    Calls Tryz.prog 24 #[.agg #[.slice a len cap]] w fun e w' => e = .returned (.bool (Gr.shapes g).isSome) ∧ Below w.heap.size w w' := by
  have K0 := Lib.hid (GSt.start HN)
  clear HN
  go_enter Tryz.func24, Tryz.ntmps24
  go_wp2_with fail
  refine (rshapes_any _ _ _ g _ K0.out.n).mono ?_
  rintro e w1 ⟨hb, ⟨hs, a1, l1, c1, rfl⟩ | ⟨s, a1, l1, c1, hs, rfl, hG⟩⟩
  · have HS := Lib.hid hs
    have HB := Lib.hid (K0.out.bel.trans (hb.mono K0.out.bel.size))
    clear hs hb
    go_wp2
    go_ret
    exact ⟨by rw [HS.out]; rfl, HB.out⟩
  · have HS := Lib.hid hs
    have HB := Lib.hid (K0.out.bel.trans (hb.mono K0.out.bel.size))
    clear hs hb hG
    go_wp2
    go_ret
    exact ⟨by rw [HS.out]; rfl, HB.out⟩
end Go.Proofs.YtekejcnphmnidaaGreatDoor
