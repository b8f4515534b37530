/-
  checkers.Check: contract chk_any (of any graph, room and steps).
-/
import Derived.Test.YtgmagldbfajedaaChBehind
import Derived.Test.YtgmagldbfajedaaCoOf
import Derived.Test.YtgmagldbfajedaaPlOfP
namespace Go.Proofs.Ytgmagldbfajedaa
open Go.RowKit

namespace Pl
theorem runC_drop {g : List Gr.Node} {b : Nat → Int} {room : Int} {K : Nat → Kn} {l : List (Int × Int)} {k : Nat} (hk : k < l.length) :
    runC g b room k K (l.drop k) = match stepK g K (stepN l k) with
    | none => ((k : Int), false)
    | some K' => if room < usedK b K' g.length ∨ 4 < askedK K' g.length then ((k : Int), false) else runC g b room (k + 1) K' (l.drop (k + 1)) := by
  have h : l.drop k = stepN l k :: l.drop (k + 1) := by
    rw [List.drop_eq_getElem_cons hk]
    congr 1
    unfold stepN; rw [List.getD_eq_getElem?_getD, List.getElem?_eq_getElem hk]; rfl
  rw [h]
  rfl
/-- What is known when the sources of the first k are. -/
def kfill (g : List Gr.Node) (k : Nat) : Nat → Kn := fun v => if v < k then kn0 g v else ⟨false, false, false, false⟩
theorem kfill_zero (g : List Gr.Node) (v : Nat) : (⟨false, false, false, false⟩ : Kn) = kfill g 0 v := by unfold kfill; rw [if_neg (Nat.not_lt_zero _)]
theorem kfill_next (g : List Gr.Node) (k v : Nat) : upd (kfill g k) k ⟨false, false, srcB (nodeN g k), srcB (nodeN g k)⟩ v = kfill g (k + 1) v := by
  unfold upd kfill
  by_cases c : v = k
  · subst c; rw [if_pos rfl, if_pos (Nat.lt_succ_self _)]; rfl
  · rw [if_neg c]
    by_cases d : v < k
    · rw [if_pos d, if_pos (by omega)]
    · rw [if_neg d, if_neg (by omega)]
theorem nodeN_out (g : List Gr.Node) (v : Nat) (h : g.length ≤ v) : nodeN g v = ⟨0, [], [], 0, 0⟩ := by
  unfold nodeN; rw [List.getD_eq_getElem?_getD, List.getElem?_eq_none h]; rfl
theorem kfill_all (g : List Gr.Node) (v : Nat) : kfill g g.length v = kn0 g v := by
  unfold kfill
  by_cases c : v < g.length
  · rw [if_pos c]
  · rw [if_neg c]
    unfold kn0
    rw [nodeN_out g v (by omega)]
    rfl
theorem usedK_bounds {b : Nat → Int} {K : Nat → Kn} (n : Nat) (h : ∀ i, i < n → 0 ≤ b i ∧ b i ≤ 20000) : ∀ j, j ≤ n → 0 ≤ usedK b K j ∧ usedK b K j ≤ 20000 * (j : Int)
  | 0, _ => by unfold usedK; omega
  | j + 1, hj => by
    have ih := usedK_bounds (K := K) n h j (by omega)
    have hb := h j (by omega)
    unfold usedK
    split
    · omega
    · omega
theorem askedK_bounds {K : Nat → Kn} : ∀ j : Nat, 0 ≤ askedK K j ∧ askedK K j ≤ (j : Int)
  | 0 => by unfold askedK; omega
  | j + 1 => by
    have ih := askedK_bounds (K := K) j
    unfold askedK
    split <;> omega
end Pl

theorem zero128 : Try.zeroCells128 = Array.replicate 128 (.bool false) := by kernel_rfl
theorem knbox_new (w : World) (g : List Gr.Node) : KnBox (w.alloc (.cells Try.zeroCells128 128)) w.heap.size (Pl.kfill g 0) := by
  have h : ∀ o, o < 128 → (w.alloc (.cells Try.zeroCells128 128)).cell? ⟨w.heap.size, o, none⟩ = some (.bool false) := fun o ho => by
    rw [World.cell?_alloc_at _ _ _ _ rfl, zero128]
    simp [ho]
  refine ⟨by simp, fun o _ => World.frozen?_alloc_at _ _ _ _ rfl, fun v hv => ?_⟩
  rw [← Pl.kfill_zero g v]
  exact ⟨h _ (by omega), h _ (by omega), h _ (by omega), h _ (by omega)⟩

set_option maxHeartbeats 4000000 in
set_option maxRecDepth 100000 in
theorem chk_any (a : Option Addr) (len cap : Nat) (g : List Gr.Node) (room : Int) (aL : Option Addr) (lL cL : Nat) (l : List (Int × Int)) (w : World) (HN : Nodes w a len cap g) (HL : StepsIn w aL lL cL l) :
    Calls Try.prog 58 #[.agg #[.slice a len cap], .int .i64 room, .slice aL lL cL] w fun e w' => e = .returned (.tuple #[.int .i64 (Pl.chkF g room l).1, .bool (Pl.chkF g room l).2]) ∧ Below w.heap.size w w' := by
  have LN := Lib.hid HN.length
  have KL := Lib.hid HL
  have LL := Lib.hid HL.length
  have hLle := HL.le
  have hLcl := HL.cap_le
  have hle := HN.le
  have hcl := HN.cap_le
  have K0 := Lib.hid (GSt.start HN)
  clear HN HL
  go_enter Try.func58, Try.ntmps58
  go_wp2_with fail
  refine (gcheck_any _ _ _ g _ K0.out.n).mono ?_
  rintro e w1 ⟨rfl, hb⟩
  have K1 := Lib.hid (K0.out.on hb)
  have c1 := K1.out.cell
  clear hb K0
  cases hsm : (Gr.shapes g).isSome with
  | false =>
    have HR : Hid (Pl.chkF g room l = (0, false)) := by
      show _ = _
      unfold Pl.chkF
      rw [show Gr.shapes g = none by cases h : Gr.shapes g with
        | none => rfl
        | some s => rw [h] at hsm; cases hsm]
    clear hsm
    go_wp2
    go_ret2
    exact ⟨by rw [HR.out]; rfl, K1.out.bel⟩
  | true =>
    obtain ⟨s, hs⟩ := Option.isSome_iff_exists.1 hsm
    have HS := Lib.hid hs
    obtain ⟨⟨hl1, hl2⟩, _, _⟩ := Gr.shapes_iff.1 hs
    rw [LN.out] at hl1 hl2
    clear hsm hs
    by_cases r0 : room < 0
    · have d0 : decide (room < 0) = true := decide_eq_true r0
      have HR : Hid (Pl.chkF g room l = (0, false)) := by
        show _ = _
        unfold Pl.chkF
        rw [HS.out]
        exact if_pos (.inl r0)
      go_wp2
      go_ret2
      exact ⟨by rw [HR.out]; rfl, K1.out.bel⟩
    have d0 : decide (room < 0) = false := decide_eq_false r0
    by_cases r1 : 1048576 < room
    · have d1 : decide (room > 1048576) = true := decide_eq_true r1
      have HR : Hid (Pl.chkF g room l = (0, false)) := by
        show _ = _
        unfold Pl.chkF
        rw [HS.out]
        exact if_pos (.inr r1)
      go_wp2
      go_ret2
      exact ⟨by rw [HR.out]; rfl, K1.out.bel⟩
    have d1 : decide (room > 1048576) = false := decide_eq_false r1
    have HC0 : Hid (Pl.chkF g room l = Pl.runC g (fun u => nth (Pl.bytesOf g s) u) room 0 (Pl.kn0 g) l) := Pl.chk_some HS.out ⟨by omega, by omega⟩ l
    go_wp2_with fail
    refine (cof_any _ _ _ g _ K1.out.n).mono ?_
    rintro e w2 ⟨hb, ⟨hs, _⟩ | ⟨s', aC, lC, hs, rfl, hC⟩⟩
    · rw [HS.out] at hs; cases hs
    obtain rfl : s' = s := by rw [HS.out] at hs; exact (Option.some.inj hs).symm
    have hlC : lC = g.length := by rw [← hC.length]; exact Co.costsK_length _ _ _
    obtain rfl : lC = len := by rw [hlC]; exact LN.out
    have hCle := hC.le
    have hCcl := hC.cap_le
    have K2 := Lib.hid (K1.out.on hb)
    have c2 := K2.out.cell
    have HC2 := Lib.hid hC
    have HKB := Lib.hid (knbox_new w2 g)
    have K3 := Lib.hid (K2.out.alloc (.cells Try.zeroCells128 128))
    have c3 := K3.out.cell
    have HBW : Hid (Below w2.heap.size w2 (w2.alloc (.cells Try.zeroCells128 128))) := (Below.refl _ _).alloc (Nat.le_refl _) _
    have HWW := Lib.hid K2.out.bel.size
    have HZW := Lib.hid K2.out.lt
    clear hb hs hC hlC c1 K1 c2
    go_wp2
    go_loopg [43] lC (fun gg i wr => ∃ k : Nat, k ≤ lC ∧ lC - k ≤ gg ∧ i = .int .i64 k ∧ Hid (KnBox wr w2.heap.size (Pl.kfill g k)) ∧ Hid (Below w2.heap.size w2 wr))
    case atStart => exact ⟨0, Nat.zero_le _, by omega, rfl, HKB, HBW⟩
    case round =>
      obtain ⟨k, hk, hg, rfl, HKr, HWr⟩ := hrel
      by_cases hlt : k < lC
      · have Kr := Lib.hid (K2.out.on HWr.out)
        obtain ⟨b, off, ai, li, ci, sa, ls, cs, rfl, _, n0, n1, n2, n3, n4, hV⟩ := Kr.out.n.get (Below.refl _ wr) hlt
        have hb4 : Below wr.heap.size wr (wr.alloc (.cells #[.int .u8 (nodeN g k).kind, .slice ai li ci, .slice sa ls cs, .int .i64 (nodeN g k).n, .int .i64 (nodeN g k).pad] 46)) := (Below.refl _ _).alloc (Nat.le_refl _) _
        have KB4 := HKr.out.below hb4
        obtain ⟨z0, z1, z2, z3⟩ := KB4.at_ k (by omega)
        have hfr := KB4.fr
        have f0 := hfr (k * 4) (by omega)
        have f1 := hfr (k * 4 + 1) (by omega)
        have f2 := hfr (k * 4 + 2) (by omega)
        have f3 := hfr (k * 4 + 3) (by omega)
        have x0 : (wr.alloc (.cells #[.int .u8 (nodeN g k).kind, .slice ai li ci, .slice sa ls cs, .int .i64 (nodeN g k).n, .int .i64 (nodeN g k).pad] 46)).cell? ⟨wr.heap.size, 0, none⟩ = some (.int .u8 (nodeN g k).kind) := by rw [World.cell?_alloc_at _ _ _ _ rfl]; rfl
        have hk32 : (k : Int) < 32 := by omega
        have HS4 := Lib.hid ((KB4.set (v := k) (by omega) ⟨false, false, Pl.srcB (nodeN g k), Pl.srcB (nodeN g k)⟩).congr (fun v _ => Pl.kfill_next g k v))
        have HB4 := Lib.hid (four_below ((HWr.out.alloc HWr.out.size (.cells #[.int .u8 (nodeN g k).kind, .slice ai li ci, .slice sa ls cs, .int .i64 (nodeN g k).n, .int .i64 (nodeN g k).pad] 46))) (B := w2.heap.size) (Nat.le_refl _) (k * 4) (.bool false) (.bool false) (.bool (Pl.srcB (nodeN g k))) (.bool (Pl.srcB (nodeN g k))))
        have HSR : Hid (Pl.srcB (nodeN g k) = (decide ((nodeN g k).kind = 1) || decide ((nodeN g k).kind = 2))) := rfl
        have hbl : w2.heap.size ≠ wr.heap.size := by have := HKr.out.lt; omega
        clear hV hb4 KB4 hfr
        generalize (nodeN g k).kind = kd at *
        generalize (nodeN g k).n = nn at *
        generalize (nodeN g k).pad = pad at *
        have dkl : decide ((k : Int) < (lC : Int)) = true := decide_eq_true (by omega)
        by_cases e1 : kd = 1
        · have q1 : (kd == 1) = true := by simp [e1]
          have hsr : Pl.srcB (nodeN g k) = true := by rw [HSR.out]; simp [e1]
          clear e1
          rw [hsr] at HS4 HB4
          clear hsr
          go_wp2
          go_roundg (lC - (k + 1))
          case measure => exact Nat.lt_of_lt_of_le (Nat.sub_lt_sub_left hlt (Nat.lt_succ_self k)) hg
          case rel => exact ⟨k + 1, Nat.succ_le_of_lt hlt, Nat.le_refl _, by go_num, HS4.out, HB4.out⟩
        have q1 : (kd == 1) = false := by simp [e1]
        by_cases e2 : kd = 2
        · have q2 : (kd == 2) = true := by simp [e2]
          have hsr : Pl.srcB (nodeN g k) = true := by rw [HSR.out]; simp [e2]
          clear e1 e2
          rw [hsr] at HS4 HB4
          clear hsr
          go_wp2
          go_roundg (lC - (k + 1))
          case measure => exact Nat.lt_of_lt_of_le (Nat.sub_lt_sub_left hlt (Nat.lt_succ_self k)) hg
          case rel => exact ⟨k + 1, Nat.succ_le_of_lt hlt, Nat.le_refl _, by go_num, HS4.out, HB4.out⟩
        have q2 : (kd == 2) = false := by simp [e2]
        have hsr : Pl.srcB (nodeN g k) = false := by rw [HSR.out]; simp [e1, e2]
        clear e1 e2
        rw [hsr] at HS4 HB4
        clear hsr
        go_wp2
        go_roundg (lC - (k + 1))
        case measure => exact Nat.lt_of_lt_of_le (Nat.sub_lt_sub_left hlt (Nat.lt_succ_self k)) hg
        case rel => exact ⟨k + 1, Nat.succ_le_of_lt hlt, Nat.le_refl _, by go_num, HS4.out, HB4.out⟩
      · have dkl : decide ((k : Int) < (lC : Int)) = false := decide_eq_false (by omega)
        obtain rfl : k = lC := by omega
        have HK4 : Hid (KnBox wr w2.heap.size (Pl.kn0 g)) := (HKr.out.congr (fun v _ => by
          have := Pl.kfill_all g v
          rw [LN.out] at this
          exact this))
        have HC4 : Hid (Pl.chkF g room l = Pl.runC g (fun u => nth (Pl.bytesOf g s') u) room 0 (Pl.kn0 g) (l.drop 0)) := by show _ = _; rw [HC0.out]; rfl
        have HBY : Hid (∀ i, i < k → 0 ≤ nth (Pl.bytesOf g s') i ∧ nth (Pl.bytesOf g s') i ≤ 20000) := fun i hi => by
          rw [Pl.bytes_at (by rw [LN.out]; exact hi)]
          have := Co.size_bounds HS.out (i := i) (by rw [LN.out]; exact hi)
          omega
        have HIN : Hid (∀ i, i < k → ∀ u ∈ (nodeN g i).inn, 0 ≤ u ∧ u < 32) := fun i hi u hu => by
          have := (Co.inn_of HS.out (i := i) (by rw [LN.out]; exact hi)).2 u hu
          omega
        clear HKr HKB HBW HC0 dkl hlt
        go_wp2
        go_loopg [64] lL (fun gg i wx => ∃ (j : Nat) (K : Nat → Pl.Kn), j ≤ lL ∧ lL - j ≤ gg ∧ i = .int .i64 j ∧ Hid (KnBox wx w2.heap.size K) ∧ Hid (Below w2.heap.size w2 wx) ∧ Hid (Pl.chkF g room l = Pl.runC g (fun u => nth (Pl.bytesOf g s') u) room j K (l.drop j)))
        case atStart => exact ⟨0, _, Nat.zero_le _, by omega, rfl, HK4, HWr, HC4⟩
        case round =>
          rename World => wx
          obtain ⟨j, K, hj, hgj, rfl, HKx, HWx, HCx⟩ := hrel
          have Kx := Lib.hid (K2.out.on HWx.out)
          by_cases hlt : j < lL
          · have djl : decide ((j : Int) < (lL : Int)) = true := decide_eq_true (by omega)
            have hjl : j < l.length := by rw [LL.out]; exact hlt
            obtain ⟨b, off, rfl, _, hc⟩ := (KL.out.below Kx.out.bel).at_ (by omega)
            obtain ⟨c0, c1⟩ := hc j hlt
            have hCR := HCx.out
            rw [Pl.runC_drop hjl] at hCR
            have HCR := Lib.hid hCR
            clear hc hCR hjl
            generalize stepN l j = st at *
            obtain ⟨kd, v⟩ := st
            simp only at c0 c1
            have hb5 : Below wx.heap.size wx (wx.alloc (.cells #[.int .u8 kd, .int .i64 v] 82)) := (Below.refl _ _).alloc (Nat.le_refl _) _
            have x0 : (wx.alloc (.cells #[.int .u8 kd, .int .i64 v] 82)).cell? ⟨wx.heap.size, 0, none⟩ = some (.int .u8 kd) := by rw [World.cell?_alloc_at _ _ _ _ rfl]; rfl
            have x1 : (wx.alloc (.cells #[.int .u8 kd, .int .i64 v] 82)).cell? ⟨wx.heap.size, 1, none⟩ = some (.int .i64 v) := by rw [World.cell?_alloc_at _ _ _ _ rfl]; rfl
            have K5 := Lib.hid (Kx.out.on hb5)
            have c5 := K5.out.cell
            have HK5 := Lib.hid (HKx.out.below hb5)
            have HW5 : Hid (Below w2.heap.size w2 (wx.alloc (.cells #[.int .u8 kd, .int .i64 v] 82))) := HWx.out.trans (hb5.mono HWx.out.size)
            have hz5 : wx.heap.size < (wx.alloc (.cells #[.int .u8 kd, .int .i64 v] 82)).heap.size := by simp
            have HZ5 := Lib.hid hz5
            have hbl : w2.heap.size ≠ wx.heap.size := by have := HKx.out.lt; omega
            have HX0 := Lib.hid x0
            have HX1 := Lib.hid x1
            clear hb5 hz5
            by_cases e1 : v < 0
            · have d1 : decide (v < 0) = true := decide_eq_true e1
              have HR : Hid (Pl.chkF g room l = ((j : Int), false)) := by
                show _ = _
                rw [HCR.out, show Pl.stepK g K (kd, v) = none from if_pos (.inl e1)]
              clear e1
              go_wp2
              go_ret2
              exact ⟨by rw [HR.out]; rfl, K5.out.bel⟩
            have d1 : decide (v < 0) = false := decide_eq_false e1
            by_cases e2 : (k : Int) ≤ v
            · have d2 : decide (v ≥ (k : Int)) = true := decide_eq_true e2
              have HR : Hid (Pl.chkF g room l = ((j : Int), false)) := by
                show _ = _
                rw [HCR.out, show Pl.stepK g K (kd, v) = none from if_pos (.inr (by rw [LN.out]; exact e2))]
              clear e1 e2
              go_wp2
              go_ret2
              exact ⟨by rw [HR.out]; rfl, K5.out.bel⟩
            have d2 : decide (v ≥ (k : Int)) = false := decide_eq_false e2
            obtain ⟨n, rfl⟩ : ∃ n : Nat, v = (n : Int) := ⟨v.toNat, by omega⟩
            have hn : n < k := by omega
            have HBE := Lib.hid (behind_any _ _ _ g w2.heap.size K kd n _ K5.out.n HK5.out hl2 hn (HIN.out n hn))
            clear e1 e2
            go_wp2_with fail
            refine HBE.out.mono ?_
            rintro e w6 ⟨⟨nk, rfl, hnk⟩, hb⟩
            have K6 := Lib.hid (K5.out.on hb)
            have HK6 := Lib.hid (HK5.out.below hb)
            have HW6 : Hid (Below w2.heap.size w2 w6) := HW5.out.trans (hb.mono HW5.out.size)
            have HBZ := Lib.hid hb.size
            have y0 := (hb.cell (p := ⟨wx.heap.size, 0, none⟩) HZ5.out).trans HX0.out
            have y1 := (hb.cell (p := ⟨wx.heap.size, 1, none⟩) HZ5.out).trans HX1.out
            have HNK := Lib.hid hnk
            clear hb hnk HBE x0 x1 c0 c1 c5
            cases hbe : Pl.beh g K kd n with
            | none =>
              have HR : Hid (Pl.chkF g room l = ((j : Int), false)) := by
                show _ = _
                rw [HCR.out, show Pl.stepK g K (kd, (n : Int)) = none by
                  unfold Pl.stepK
                  rw [if_neg (by simp only [LN.out]; omega)]
                  simp only [Int.toNat_natCast, hbe]]
              clear hbe
              go_wp2
              go_ret2
              exact ⟨by rw [HR.out]; rfl, (K6.out.alloc _).bel⟩
            | some kk =>
              obtain rfl := HNK.out kk hbe
              have HST : Hid (Pl.stepK g K (kd, (n : Int)) = some (Pl.upd K n kk)) := Pl.stepK_of (by rw [LN.out]; exact hn) hbe
              clear hbe
              have hb7 : Below w6.heap.size w6 (w6.alloc (.cells #[.bool kk.inn, .bool kk.asked, .bool kk.disk, .bool kk.src] 126)) := (Below.refl _ _).alloc (Nat.le_refl _) _
              have K7 := Lib.hid (K6.out.on hb7)
              have HW7 : Below w2.heap.size w2 (w6.alloc (.cells #[.bool kk.inn, .bool kk.asked, .bool kk.disk, .bool kk.src] 126)) := HW6.out.trans (hb7.mono HW6.out.size)
              have hz6 : wx.heap.size < w6.heap.size := Nat.lt_of_lt_of_le HZ5.out (HBZ.out)
              have v1 := (hb7.cell (p := ⟨wx.heap.size, 1, none⟩) hz6).trans y1
              have u0 : (w6.alloc (.cells #[.bool kk.inn, .bool kk.asked, .bool kk.disk, .bool kk.src] 126)).cell? ⟨w6.heap.size, 0, none⟩ = some (.bool kk.inn) := by rw [World.cell?_alloc_at _ _ _ _ rfl]; rfl
              have u1 : (w6.alloc (.cells #[.bool kk.inn, .bool kk.asked, .bool kk.disk, .bool kk.src] 126)).cell? ⟨w6.heap.size, 1, none⟩ = some (.bool kk.asked) := by rw [World.cell?_alloc_at _ _ _ _ rfl]; rfl
              have u2 : (w6.alloc (.cells #[.bool kk.inn, .bool kk.asked, .bool kk.disk, .bool kk.src] 126)).cell? ⟨w6.heap.size, 2, none⟩ = some (.bool kk.disk) := by rw [World.cell?_alloc_at _ _ _ _ rfl]; rfl
              have u3 : (w6.alloc (.cells #[.bool kk.inn, .bool kk.asked, .bool kk.disk, .bool kk.src] 126)).cell? ⟨w6.heap.size, 3, none⟩ = some (.bool kk.src) := by rw [World.cell?_alloc_at _ _ _ _ rfl]; rfl
              have KB7 := HK6.out.below hb7
              obtain ⟨z0, z1, z2, z3⟩ := KB7.at_ n (by omega)
              have hfr := KB7.fr
              have f0 := hfr (n * 4) (by omega)
              have f1 := hfr (n * 4 + 1) (by omega)
              have f2 := hfr (n * 4 + 2) (by omega)
              have f3 := hfr (n * 4 + 3) (by omega)
              have hn32 : (n : Int) < 32 := by omega
              have HKS := Lib.hid (KB7.set (v := n) (by omega) kk)
              have HBS := Lib.hid (four_below HW7 (B := w2.heap.size) (Nat.le_refl _) (n * 4) (.bool kk.inn) (.bool kk.asked) (.bool kk.disk) (.bool kk.src))
              have c8 : (((((w6.alloc (.cells #[.bool kk.inn, .bool kk.asked, .bool kk.disk, .bool kk.src] 126)).setCell ⟨w2.heap.size, n * 4, none⟩ (.bool kk.inn)).setCell ⟨w2.heap.size, n * 4 + 1, none⟩ (.bool kk.asked)).setCell ⟨w2.heap.size, n * 4 + 2, none⟩ (.bool kk.disk)).setCell ⟨w2.heap.size, n * 4 + 3, none⟩ (.bool kk.src)).cell? ⟨w.heap.size, 0, none⟩ = some (.slice a k cap) := (K2.out.on HBS.out).cell
              have hk32 : (k : Int) ≤ 32 := by omega
              clear hb7 HW7 KB7 hfr
              go_wp2
              go_loopg [18, 19, 99] k (fun gg u q i wv => ∃ (m : Nat) (us ak : Int), m ≤ k ∧ k - m ≤ gg ∧ i = .int .i64 m ∧ u = .int .i64 us ∧ q = .int .i64 ak ∧ (0 ≤ us ∧ us ≤ 20000 * (m : Int)) ∧ (0 ≤ ak ∧ ak ≤ (m : Int)) ∧ Hid (us = Pl.usedK (fun u => nth (Pl.bytesOf g s') u) (Pl.upd K n kk) m) ∧ Hid (ak = Pl.askedK (Pl.upd K n kk) m) ∧
                Hid (KnBox wv w2.heap.size (Pl.upd K n kk)) ∧ Hid (Below w2.heap.size w2 wv))
              case atStart => exact ⟨0, 0, 0, Nat.zero_le _, by omega, rfl, rfl, rfl, by omega, by omega, rfl, rfl, HKS, HBS⟩
              case round =>
                rename World => wv
                obtain ⟨m, us, ak, hm, hgm, rfl, rfl, rfl, hus, hak, HUS, HAK, HKv, HWv⟩ := hrel
                by_cases hltm : m < k
                · have dmk : decide ((m : Int) < (k : Int)) = true := decide_eq_true (by omega)
                  obtain ⟨z0, z1, z2, z3⟩ := HKv.out.at_ m (by omega)
                  obtain ⟨hy0, hy1⟩ := HBY.out m hltm
                  obtain ⟨bC, oC, eC, hbC, hcC⟩ := (HC2.out.below HWv.out).at_ (by omega)
                  cases eC
                  have kC := (hcC m hltm).1
                  rw [← Pl.bytes_nth (by rw [LN.out]; exact hltm)] at kC
                  have kC' : ∀ o, (wv.alloc o).cell? ⟨bC, oC + m * 3, none⟩ = some (.int .i64 (nth (Pl.bytesOf g s') m)) := fun o => Lib.cell?_alloc_some _ kC
                  have HU : Hid (Pl.usedK (fun u => nth (Pl.bytesOf g s') u) (Pl.upd K n kk) (m + 1) = Pl.usedK (fun u => nth (Pl.bytesOf g s') u) (Pl.upd K n kk) m + (if ((Pl.upd K n kk m).inn || (Pl.upd K n kk m).asked) = true then nth (Pl.bytesOf g s') m else 0)) := rfl
                  have HA : Hid (Pl.askedK (Pl.upd K n kk) (m + 1) = Pl.askedK (Pl.upd K n kk) m + (if (Pl.upd K n kk m).asked = true then 1 else 0)) := rfl
                  have hBn : Hid (∀ o, Below w2.heap.size w2 (wv.alloc o)) := fun o => HWv.out.alloc HWv.out.size o
                  have HKn : Hid (∀ o, KnBox (wv.alloc o) w2.heap.size (Pl.upd K n kk)) := fun o => HKv.out.below ((Below.refl _ _).alloc (Nat.le_refl _) o)
                  clear hcC
                  generalize (Pl.upd K n kk m).inn = i0 at *
                  generalize (Pl.upd K n kk m).asked = k0 at *
                  generalize (Pl.upd K n kk m).disk = s0 at *
                  generalize (Pl.upd K n kk m).src = r0 at *
                  generalize nth (Pl.bytesOf g s') m = bm at *
                  have hb8 : ∀ v : Value, (wv.alloc (.cells #[.bool i0, .bool k0, .bool s0, .bool r0] 126)).cell? ⟨wv.heap.size, 0, none⟩ = some (.bool i0) ∧ (wv.alloc (.cells #[.bool i0, .bool k0, .bool s0, .bool r0] 126)).cell? ⟨wv.heap.size, 1, none⟩ = some (.bool k0) := fun _ => ⟨by rw [World.cell?_alloc_at _ _ _ _ rfl]; rfl, by rw [World.cell?_alloc_at _ _ _ _ rfl]; rfl⟩
                  obtain ⟨t0, t1⟩ := hb8 undef
                  clear hb8
                  cases k0 with
                  | true =>
                    have HU2 := Lib.hid (show us + bm = Pl.usedK (fun u => nth (Pl.bytesOf g s') u) (Pl.upd K n kk) (m + 1) by rw [HU.out, HUS.out]; simp)
                    have HA2 := Lib.hid (show ak + 1 = Pl.askedK (Pl.upd K n kk) (m + 1) by rw [HA.out, HAK.out]; simp)
                    cases i0 with
                    | true =>
                      clear HU HA
                      go_wp2
                      go_roundg (k - (m + 1))
                      case measure => exact Nat.lt_of_lt_of_le (Nat.sub_lt_sub_left hltm (Nat.lt_succ_self m)) hgm
                      case rel => exact ⟨m + 1, _, _, Nat.succ_le_of_lt hltm, Nat.le_refl _, by go_num, rfl, rfl, by omega, by omega, HU2, HA2, HKn.out _, hBn.out _⟩
                    | false =>
                      clear HU HA
                      go_wp2
                      go_roundg (k - (m + 1))
                      case measure => exact Nat.lt_of_lt_of_le (Nat.sub_lt_sub_left hltm (Nat.lt_succ_self m)) hgm
                      case rel => exact ⟨m + 1, _, _, Nat.succ_le_of_lt hltm, Nat.le_refl _, by go_num, rfl, rfl, by omega, by omega, HU2, HA2, HKn.out _, hBn.out _⟩
                  | false =>
                    have HA2 := Lib.hid (show ak = Pl.askedK (Pl.upd K n kk) (m + 1) by rw [HA.out, HAK.out]; simp)
                    cases i0 with
                    | true =>
                      have HU2 := Lib.hid (show us + bm = Pl.usedK (fun u => nth (Pl.bytesOf g s') u) (Pl.upd K n kk) (m + 1) by rw [HU.out, HUS.out]; simp)
                      clear HU HA
                      go_wp2
                      go_roundg (k - (m + 1))
                      case measure => exact Nat.lt_of_lt_of_le (Nat.sub_lt_sub_left hltm (Nat.lt_succ_self m)) hgm
                      case rel => exact ⟨m + 1, _, _, Nat.succ_le_of_lt hltm, Nat.le_refl _, by go_num, rfl, rfl, by omega, by omega, HU2, HA2, HKn.out _, hBn.out _⟩
                    | false =>
                      have HU2 := Lib.hid (show us = Pl.usedK (fun u => nth (Pl.bytesOf g s') u) (Pl.upd K n kk) (m + 1) by rw [HU.out, HUS.out]; simp)
                      clear HU HA
                      go_wp2
                      go_roundg (k - (m + 1))
                      case measure => exact Nat.lt_of_lt_of_le (Nat.sub_lt_sub_left hltm (Nat.lt_succ_self m)) hgm
                      case rel => exact ⟨m + 1, _, _, Nat.succ_le_of_lt hltm, Nat.le_refl _, by go_num, rfl, rfl, by omega, by omega, HU2, HA2, HKn.out _, hBn.out _⟩
                · have dmk : decide ((m : Int) < (k : Int)) = false := decide_eq_false (by omega)
                  have hmk : m = k := by omega
                  have HE : Hid (us = Pl.usedK (fun u => nth (Pl.bytesOf g s') u) (Pl.upd K n kk) g.length ∧ ak = Pl.askedK (Pl.upd K n kk) g.length) := by
                    refine ⟨?_, ?_⟩
                    · rw [LN.out, ← hmk]; exact HUS.out
                    · rw [LN.out, ← hmk]; exact HAK.out
                  have Kv := Lib.hid (K2.out.on HWv.out)
                  by_cases g1 : room < us
                  · have d3 : decide (us > room) = true := decide_eq_true g1
                    have HR : Hid (Pl.chkF g room l = ((j : Int), false)) := by
                      show _ = _
                      rw [HCR.out, HST.out]
                      simp only
                      rw [if_pos (.inl (by rw [← HE.out.1]; exact g1))]
                    clear hmk g1
                    go_wp2
                    go_ret2
                    exact ⟨by rw [HR.out]; rfl, Kv.out.bel⟩
                  have d3 : decide (us > room) = false := decide_eq_false g1
                  by_cases g2 : 4 < ak
                  · have d4 : decide (ak > 4) = true := decide_eq_true g2
                    have HR : Hid (Pl.chkF g room l = ((j : Int), false)) := by
                      show _ = _
                      rw [HCR.out, HST.out]
                      simp only
                      rw [if_pos (.inr (by rw [← HE.out.2]; exact g2))]
                    clear hmk g1 g2
                    go_wp2
                    go_ret2
                    exact ⟨by rw [HR.out]; rfl, Kv.out.bel⟩
                  have d4 : decide (ak > 4) = false := decide_eq_false g2
                  have HCn : Hid (Pl.chkF g room l = Pl.runC g (fun u => nth (Pl.bytesOf g s') u) room (j + 1) (Pl.upd K n kk) (l.drop (j + 1))) := by
                    show _ = _
                    rw [HCR.out, HST.out]
                    simp only
                    rw [if_neg (by rw [← HE.out.1, ← HE.out.2]; omega)]
                  clear hmk g1 g2
                  go_wp2
                  go_roundg (lL - (j + 1))
                  case measure => exact Nat.lt_of_lt_of_le (Nat.sub_lt_sub_left hlt (Nat.lt_succ_self j)) hgj
                  case rel => exact ⟨j + 1, _, Nat.succ_le_of_lt hlt, Nat.le_refl _, by go_num, HKv, HWv, HCn⟩
          · have djl : decide ((j : Int) < (lL : Int)) = false := decide_eq_false (by omega)
            have c9 := Kx.out.cell
            have hk32 : (k : Int) ≤ 32 := by omega
            have HCE : Hid (Pl.chkF g room l = if Pl.endK k K k = true then (0, true) else ((lL : Int), false)) := by
              show _ = _
              rw [HCx.out, List.drop_of_length_le (by rw [LL.out]; omega), Pl.runC, LN.out]
              rw [show (j : Int) = (lL : Int) by omega]
            go_wp2
            go_loopg [136] k (fun gg i wv => ∃ m : Nat, m ≤ k ∧ k - m ≤ gg ∧ i = .int .i64 m ∧ Hid (Pl.endK k K m = true) ∧ Hid (KnBox wv w2.heap.size K) ∧ Hid (Below w2.heap.size w2 wv))
            case atStart => exact ⟨0, Nat.zero_le _, by omega, rfl, rfl, HKx, HWx⟩
            case round =>
              rename World => wv
              obtain ⟨m, hm, hgm, rfl, HE, HKv, HWv⟩ := hrel
              have Kv := Lib.hid (K2.out.on HWv.out)
              by_cases hltm : m < k
              · have dmk : decide ((m : Int) < (k : Int)) = true := decide_eq_true (by omega)
                obtain ⟨z0, z1, z2, z3⟩ := HKv.out.at_ m (by omega)
                have HN : Hid (Pl.endK k K (m + 1) = (Pl.endK k K m && !((K m).asked || (decide (m + 1 = k) && !(K m).inn)))) := rfl
                have HKn : Hid (∀ o, KnBox (wv.alloc o) w2.heap.size K) := fun o => HKv.out.below ((Below.refl _ _).alloc (Nat.le_refl _) o)
                have hBn : Hid (∀ o, Below w2.heap.size w2 (wv.alloc o)) := fun o => HWv.out.alloc HWv.out.size o
                have hcv : ∀ o, (wv.alloc o).cell? ⟨w.heap.size, 0, none⟩ = some (.slice a k cap) := fun o => Lib.cell?_alloc_some _ Kv.out.cell
                have HKO : Hid (∀ o, Below w.heap.size w (wv.alloc o)) := fun o => (K2.out.on (hBn.out o)).bel
                have HFAIL : Hid (Pl.endK k K (m + 1) = false → Pl.chkF g room l = ((lL : Int), false)) := fun h => by
                  rw [HCE.out, if_neg (fun he => ?_)]
                  have h1 := (Pl.endK_parts _).1 he
                  have h2 := (Pl.endK_parts (n := k) (K := K) (m + 1)).2 (fun v hv => h1 v (by omega))
                  rw [h] at h2; cases h2
                generalize (K m).inn = i0 at *
                generalize (K m).asked = k0 at *
                generalize (K m).disk = s0 at *
                generalize (K m).src = r0 at *
                have hb8 : ∀ v : Value, (wv.alloc (.cells #[.bool i0, .bool k0, .bool s0, .bool r0] 126)).cell? ⟨wv.heap.size, 0, none⟩ = some (.bool i0) ∧ (wv.alloc (.cells #[.bool i0, .bool k0, .bool s0, .bool r0] 126)).cell? ⟨wv.heap.size, 1, none⟩ = some (.bool k0) := fun _ => ⟨by rw [World.cell?_alloc_at _ _ _ _ rfl]; rfl, by rw [World.cell?_alloc_at _ _ _ _ rfl]; rfl⟩
                obtain ⟨t0, t1⟩ := hb8 undef
                clear hb8
                cases k0 with
                | true =>
                  have HR := Lib.hid (HFAIL.out (by rw [HN.out]; simp))
                  clear HN HFAIL
                  go_wp2
                  go_ret2
                  exact ⟨by rw [HR.out]; rfl, HKO.out _⟩
                | false =>
                  by_cases hlast : m + 1 = k
                  · have dl : ((m : Int) == (k : Int) - 1) = true := by simp; omega
                    cases i0 with
                    | false =>
                      have HR := Lib.hid (HFAIL.out (by rw [HN.out]; simp [hlast]))
                      clear HN HFAIL hlast
                      go_wp2
                      go_ret2
                      exact ⟨by rw [HR.out]; rfl, HKO.out _⟩
                    | true =>
                      have HN2 := Lib.hid (show Pl.endK k K (m + 1) = true by rw [HN.out, HE.out]; simp)
                      clear HN HFAIL hlast
                      go_wp2
                      go_roundg (k - (m + 1))
                      case measure => exact Nat.lt_of_lt_of_le (Nat.sub_lt_sub_left hltm (Nat.lt_succ_self m)) hgm
                      case rel => exact ⟨m + 1, Nat.succ_le_of_lt hltm, Nat.le_refl _, by go_num, HN2, HKn.out _, hBn.out _⟩
                  · have dl : ((m : Int) == (k : Int) - 1) = false := by simp; omega
                    have HN2 := Lib.hid (show Pl.endK k K (m + 1) = true by rw [HN.out, HE.out]; simp [hlast])
                    clear HN HFAIL hlast
                    go_wp2
                    go_roundg (k - (m + 1))
                    case measure => exact Nat.lt_of_lt_of_le (Nat.sub_lt_sub_left hltm (Nat.lt_succ_self m)) hgm
                    case rel => exact ⟨m + 1, Nat.succ_le_of_lt hltm, Nat.le_refl _, by go_num, HN2, HKn.out _, hBn.out _⟩
              · have dmk : decide ((m : Int) < (k : Int)) = false := decide_eq_false (by omega)
                have HR : Hid (Pl.chkF g room l = (0, true)) := by
                  show _ = _
                  have h : m = k := by omega
                  have he := HE.out
                  rw [h] at he
                  rw [HCE.out, if_pos he]
                go_wp2
                go_ret2
                exact ⟨by rw [HR.out]; rfl, Kv.out.bel⟩
end Go.Proofs.Ytgmagldbfajedaa
