/-
  drydocklaw12.OrdersNext: the walk onext_walk (it returns true, and changes nothing below).
-/
import Derived.Test.YtgmagldbfajedaaOrUsesLaw
namespace Go.Proofs.Ytgmagldbfajedaa
open Go.RowKit

set_option maxHeartbeats 8000000 in
set_option maxRecDepth 100000 in
theorem onext_walk (a : Option Addr) (len cap : Nat) (g : List Gr.Node) (ao : Option Addr) (lo co : Nat) (l : List Int) (at_ : Int) (w : World) (HN : Nodes w a len cap g) (HO : Ints w ao lo co l) (hm0 : 0 ≤ at_) (hm1 : at_ ≤ 255) :
    Calls Try.prog 15 #[.agg #[.slice a len cap], .slice ao lo co, .int .u8 at_] w fun e w' => e = .returned (.bool true) ∧ Below w.heap.size w w' := by
  have LN := Lib.hid HN.length
  have LO := Lib.hid HO.length
  have hle := HN.le
  have hcl := HN.cap_le
  have hll := HN.len_le
  have hol := HO.le
  have hocl := HO.cap_le
  have K0 := Lib.hid (GSt.start HN)
  have KO := Lib.hid HO
  clear HN HO
  go_enter Try.func15, Try.ntmps15
  go_wp2_with fail
  refine (oalive_any _).mono ?_
  rintro e w2 ⟨rfl, hb⟩
  have K2 := Lib.hid (K0.out.on hb)
  have c2 := K2.out.cell
  clear hb K0
  go_wp2_with fail
  refine (gsize_any _ _ _ g _ K2.out.n).mono ?_
  rintro e w3 ⟨v, rfl, ⟨hv0, hv1⟩, hb⟩
  have K3 := Lib.hid (K2.out.on hb)
  have c3 := K3.out.cell
  clear hb c2
  by_cases hbig : 20000 < v
  · have d : decide (v > 20000) = true := decide_eq_true hbig
    go_wp2_with fail
    refine (oalive_any _).mono ?_
    rintro e w4 ⟨rfl, hb⟩
    have K4 := Lib.hid (K3.out.on hb)
    clear hb
    go_wp2
    go_ret
    exact ⟨rfl, K4.out.bel⟩
  have d : decide (v > 20000) = false := decide_eq_false hbig
  by_cases hbig0 : lo = 0
  · have d2 : ((lo : Int) == 0) = true := by simp [hbig0]
    go_wp2_with fail
    refine (oalive_any _).mono ?_
    rintro e w4 ⟨rfl, hb⟩
    have K4 := Lib.hid (K3.out.on hb)
    clear hb
    go_wp2
    go_ret
    exact ⟨rfl, K4.out.bel⟩
  have d0 : ((lo : Int) == 0) = false := by simp [hbig0]
  by_cases hbig2 : 40 < lo
  · have d2 : decide ((lo : Int) > 40) = true := decide_eq_true (by omega)
    go_wp2_with fail
    refine (oalive_any _).mono ?_
    rintro e w4 ⟨rfl, hb⟩
    have K4 := Lib.hid (K3.out.on hb)
    clear hb
    go_wp2
    go_ret
    exact ⟨rfl, K4.out.bel⟩
  have d2 : decide ((lo : Int) > 40) = false := decide_eq_false (by omega)
  obtain ⟨r, hr, hrl⟩ := rem_nat (n := lo) hm0 (by omega)
  have hr40 : r ≤ 39 := by omega
  cases hm : Od.mayB g l with
  | false =>
    have hn1 : Od.nextO g l ((r : Int) - 1) = none := Od.nextO_none hm
    have hn2 : Od.nextO g l (r : Int) = none := Od.nextO_none hm
    go_wp2_with fail
    refine (next_any _ _ _ g _ _ _ l ((r : Int) - 1) _ K3.out.n (KO.out.below K3.out.bel) (by omega) (by omega) (by omega)).mono ?_
    rintro e w6 ⟨hb, ⟨_, rfl⟩ | ⟨u, au, lu, cu, hs, rfl, hI⟩⟩
    case inr => rw [hn1] at hs; cases hs
    have K6 := Lib.hid (K3.out.on hb)
    have c6 := K6.out.cell
    clear hb c3
    go_wp2_with fail
    refine (next_any _ _ _ g _ _ _ l (r : Int) _ K6.out.n (KO.out.below K6.out.bel) (by omega) (by omega) (by omega)).mono ?_
    rintro e w7 ⟨hb, ⟨_, rfl⟩ | ⟨u, au, lu, cu, hs, rfl, hI⟩⟩
    case inr => rw [hn2] at hs; cases hs
    have K7 := Lib.hid (K6.out.on hb)
    clear hb c6
    go_wp2
    go_ret
    exact ⟨rfl, K7.out.bel⟩
  | true =>
    have HM := Lib.hid hm
    obtain ⟨hl1, hl2, _⟩ := Od.may_parts hm
    rw [LN.out] at hl1 hl2
    clear hm
    go_wp2_with fail
    refine (next_any _ _ _ g _ _ _ l ((r : Int) - 1) _ K3.out.n (KO.out.below K3.out.bel) (by omega) (by omega) (by omega)).mono ?_
    rintro e w6 ⟨hb, ⟨hs, rfl⟩ | ⟨u, ax, lx, cx, hs, rfl, hI⟩⟩
    · rw [Od.nextO_of HM.out (by omega) (by rw [LO.out]; omega)] at hs; cases hs
    rw [Od.nextO_of HM.out (by omega) (by rw [LO.out]; omega)] at hs
    cases hs
    have K6 := Lib.hid (K3.out.on hb)
    have HX6 := Lib.hid hI
    have c6 := K6.out.cell
    have hlx : lx = len := by rw [← hI.length, Od.next_length, LN.out]
    subst hlx
    clear hb c3 hI
    go_wp2_with fail
    refine (next_any _ _ _ g _ _ _ l (r : Int) _ K6.out.n (KO.out.below K6.out.bel) (by omega) (by omega) (by omega)).mono ?_
    rintro e w7 ⟨hb, ⟨hs, rfl⟩ | ⟨u, ay, ly, cy, hs, rfl, hI⟩⟩
    · rw [Od.nextO_of HM.out (by omega) (by rw [LO.out]; omega)] at hs; cases hs
    rw [Od.nextO_of HM.out (by omega) (by rw [LO.out]; omega)] at hs
    cases hs
    have K7 := Lib.hid (K6.out.on hb)
    have HX7 := Lib.hid (HX6.out.below hb)
    have HY7 := Lib.hid hI
    have c7 := K7.out.cell
    have hly : ly = lx := by rw [← hI.length, Od.next_length, LN.out]
    subst hly
    clear hb c6 hI K2 K3 K6 HX6
    -- the node at the place
    have HIA := Lib.hid (Od.may_inAt HM.out _ (nth_mem l r (by rw [LO.out]; exact hrl)))
    obtain ⟨bo, oo, rfl, _, hco⟩ := (KO.out.below K7.out.bel).at_ (by omega)
    have hck := hco r hrl
    have hin := HIA.out
    rw [LN.out] at hin
    obtain ⟨hn0, hn1, _, _⟩ := hin
    have HTK : Hid (∀ n, Od.takes g l r n = hasB (nodeN g (nth l r).toNat).inn (n : Int)) := fun n => rfl
    clear hco
    generalize nth l r = z at *
    obtain ⟨m, rfl⟩ : ∃ m : Nat, z = (m : Int) := ⟨z.toNat, by omega⟩
    rw [Int.toNat_natCast] at HTK
    have hml : m < ly := by omega
    obtain ⟨b, off, ai, li, ci, sa, ls, cs, rfl, _, n0, n1, n2, n3, n4, hV⟩ := K7.out.n.get (Below.refl _ w7) hml
    have HV := Lib.hid hV.i
    clear hV
    have e1 : ((ly : Int) != (ly : Int)) = false := by simp
    have c7' : ∀ o, (w7.alloc o).cell? ⟨w.heap.size, 0, none⟩ = some (.slice (some ⟨b, off, none⟩) ly cap) := fun o => Lib.cell?_alloc_some _ c7
    have hck' : ∀ o, (w7.alloc o).cell? ⟨bo, oo + r, none⟩ = some (.int .i64 (m : Int)) := fun o => Lib.cell?_alloc_some _ hck
    have n0' : ∀ o, (w7.alloc o).cell? ⟨b, off + m * 5, none⟩ = some (.int .u8 (nodeN g m).kind) := fun o => Lib.cell?_alloc_some _ n0
    have n1' : ∀ o, (w7.alloc o).cell? ⟨b, off + m * 5 + 1, none⟩ = some (.slice ai li ci) := fun o => Lib.cell?_alloc_some _ n1
    have n2' : ∀ o, (w7.alloc o).cell? ⟨b, off + m * 5 + 2, none⟩ = some (.slice sa ls cs) := fun o => Lib.cell?_alloc_some _ n2
    have n3' : ∀ o, (w7.alloc o).cell? ⟨b, off + m * 5 + 3, none⟩ = some (.int .i64 (nodeN g m).n) := fun o => Lib.cell?_alloc_some _ n3
    have n4' : ∀ o, (w7.alloc o).cell? ⟨b, off + m * 5 + 4, none⟩ = some (.int .i64 (nodeN g m).pad) := fun o => Lib.cell?_alloc_some _ n4
    go_wp2
    go_region
    have HB8 : Hid (Below w7.heap.size w7 (w7.alloc (.cells #[.int .u8 (nodeN g m).kind, .slice ai li ci, .slice sa ls cs, .int .i64 (nodeN g m).n, .int .i64 (nodeN g m).pad] 46)).drew) := ((Below.refl _ _).alloc (Nat.le_refl _) _).drew
    have x1 : (w7.alloc (.cells #[.int .u8 (nodeN g m).kind, .slice ai li ci, .slice sa ls cs, .int .i64 (nodeN g m).n, .int .i64 (nodeN g m).pad] 46)).drew.cell? ⟨w7.heap.size, 1, none⟩ = some (.slice ai li ci) := by
      show (w7.alloc (.cells #[.int .u8 (nodeN g m).kind, .slice ai li ci, .slice sa ls cs, .int .i64 (nodeN g m).n, .int .i64 (nodeN g m).pad] 46)).cell? _ = _
      rw [World.cell?_alloc_at _ _ _ _ rfl]; rfl
    have hz8 : w7.heap.size < (w7.alloc (.cells #[.int .u8 (nodeN g m).kind, .slice ai li ci, .slice sa ls cs, .int .i64 (nodeN g m).n, .int .i64 (nodeN g m).pad] 46)).drew.heap.size := by show w7.heap.size < (w7.alloc (.cells #[.int .u8 (nodeN g m).kind, .slice ai li ci, .slice sa ls cs, .int .i64 (nodeN g m).n, .int .i64 (nodeN g m).pad] 46)).heap.size; simp
    generalize (w7.alloc (.cells #[.int .u8 (nodeN g m).kind, .slice ai li ci, .slice sa ls cs, .int .i64 (nodeN g m).n, .int .i64 (nodeN g m).pad] 46)).drew = w8 at *
    have K8 := Lib.hid (K7.out.on HB8.out)
    have HX8 := Lib.hid (HX7.out.below HB8.out)
    have HY8 := Lib.hid (HY7.out.below HB8.out)
    have HV8 := Lib.hid (HV.out.below HB8.out)
    have HX1 : Hid (∀ w', Below w8.heap.size w8 w' → w'.cell? ⟨w7.heap.size, 1, none⟩ = some (.slice ai li ci)) := fun w' hb => (hb.cell (p := ⟨w7.heap.size, 1, none⟩) hz8).trans x1
    have c8 := K8.out.cell
    clear c7 c7' hck hck' n0 n0' n1 n1' n2 n2' n3 n3' n4 n4' x1 hz8 K7 HX7 HY7 HV HB8 HIA
    go_wp2
    go_loopg [13] ly (fun gg i wr => ∃ k : Nat, k ≤ ly ∧ ly - k ≤ gg ∧ i = .int .i64 k ∧ Hid (Below w8.heap.size w8 wr))
    case atStart => exact ⟨0, Nat.zero_le _, by omega, rfl, Below.refl _ _⟩
    case round =>
      obtain ⟨k, hk, hg2, rfl, HW⟩ := hrel
      by_cases hlt2 : k < ly - 1
      · have dk : decide ((k : Int) < (ly : Int) - 1) = true := decide_eq_true (by omega)
        have x1 := HX1.out _ HW.out
        have HVr := Lib.hid (HV8.out.below HW.out)
        obtain ⟨bX, oX, rfl, _, hcX⟩ := (HX8.out.below HW.out).at_ (by omega)
        obtain ⟨bY, oY, rfl, _, hcY⟩ := (HY8.out.below HW.out).at_ (by omega)
        have kX := hcX k (by omega)
        have kY := hcY k (by omega)
        obtain ⟨z1, z2, z3⟩ := Od.next_step HM.out r (by rw [LO.out]; exact hrl) (n := k) (by rw [LN.out]; exact hlt2)
        obtain ⟨y0, y1⟩ := HY8.out.nth_wf (k := k) (by omega)
        rw [HTK.out k] at z1 z2
        clear hcX hcY
        generalize nth (Od.next g l ((r : Int) - 1)) k = x at *
        generalize nth (Od.next g l (r : Int)) k = y at *
        go_wp2_with fail
        refine (in_any _ _ _ _ _ _ HVr.out).mono ?_
        rintro e w9 ⟨rfl, rfl⟩
        cases hth : hasB (nodeN g m).inn (k : Int) with
        | true =>
          obtain rfl : x = (r : Int) := z1 hth
          clear z1 z2
          by_cases cy : 0 ≤ y
          · have qy : decide (y ≥ 0) = true := decide_eq_true cy
            have qz : decide (y ≤ (r : Int)) = false := decide_eq_false (fun c => z3 ⟨cy, c⟩)
            clear z3 cy
            go_wp2_with fail
            go_quiet (fail)
            have HW9 := Lib.hid (HW.out.trans (below_drewN w9 nq _))
            go_wp2
            go_roundg (ly - (k + 1))
            case measure => exact Nat.lt_of_lt_of_le (Nat.sub_lt_sub_left (by omega) (Nat.lt_succ_self k)) hg2
            case rel => exact ⟨k + 1, by omega, Nat.le_refl _, by go_num, HW9⟩
          · have qy : decide (y ≥ 0) = false := decide_eq_false cy
            clear z3 cy
            go_wp2_with fail
            go_quiet (fail)
            have HW9 := Lib.hid (HW.out.trans (below_drewN w9 nq _))
            go_wp2
            go_roundg (ly - (k + 1))
            case measure => exact Nat.lt_of_lt_of_le (Nat.sub_lt_sub_left (by omega) (Nat.lt_succ_self k)) hg2
            case rel => exact ⟨k + 1, by omega, Nat.le_refl _, by go_num, HW9⟩

        | false =>
          obtain ⟨hxy, hxr⟩ := z2 hth
          subst hxy
          have qx : (x == (r : Int)) = false := by simp [hxr]
          clear z1 z2 hxr
          by_cases cy : 0 ≤ x
          · have qy : decide (x ≥ 0) = true := decide_eq_true cy
            have qz : decide (x ≤ (r : Int)) = false := decide_eq_false (fun c => z3 ⟨cy, c⟩)
            clear z3 cy
            go_wp2_with fail
            go_quiet (fail)
            have HW9 := Lib.hid (HW.out.trans (below_drewN w9 nq _))
            go_wp2
            go_roundg (ly - (k + 1))
            case measure => exact Nat.lt_of_lt_of_le (Nat.sub_lt_sub_left (by omega) (Nat.lt_succ_self k)) hg2
            case rel => exact ⟨k + 1, by omega, Nat.le_refl _, by go_num, HW9⟩
          · have qy : decide (x ≥ 0) = false := decide_eq_false cy
            clear z3 cy
            go_wp2_with fail
            go_quiet (fail)
            have HW9 := Lib.hid (HW.out.trans (below_drewN w9 nq _))
            go_wp2
            go_roundg (ly - (k + 1))
            case measure => exact Nat.lt_of_lt_of_le (Nat.sub_lt_sub_left (by omega) (Nat.lt_succ_self k)) hg2
            case rel => exact ⟨k + 1, by omega, Nat.le_refl _, by go_num, HW9⟩

      · have dk : decide ((k : Int) < (ly : Int) - 1) = false := decide_eq_false (by omega)
        clear hg2
        have tX := Od.next_last (g := g) l ((r : Int) - 1) (by rw [LN.out]; omega)
        have tY := Od.next_last (g := g) l (r : Int) (by rw [LN.out]; omega)
        rw [LN.out, LO.out] at tX tY
        obtain ⟨mG, rfl⟩ : ∃ mG, ly = mG + 1 := ⟨ly - 1, by omega⟩
        obtain ⟨bX, oX, rfl, _, hcX⟩ := (HX8.out.below HW.out).at_ (by omega)
        obtain ⟨bY, oY, rfl, _, hcY⟩ := (HY8.out.below HW.out).at_ (by omega)
        have kX := hcX mG (by omega)
        have kY := hcY mG (by omega)
        rw [Nat.add_sub_cancel] at tX tY
        rw [tX] at kX
        rw [tY] at kY
        clear tX tY hcX hcY dk
        have hkm : mG ≤ k := by omega
        clear hlt2
        go_wp2
        go_ret
        exact ⟨rfl, (K8.out.on HW.out).bel⟩
end Go.Proofs.Ytgmagldbfajedaa
