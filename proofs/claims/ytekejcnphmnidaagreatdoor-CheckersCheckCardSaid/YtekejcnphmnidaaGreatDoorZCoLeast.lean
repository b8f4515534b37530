import Derived.Test.YtekejcnphmnidaaGreatDoorZCoOf
namespace Go.Proofs.YtekejcnphmnidaaGreatDoor
open Go.RowKit
theorem max_run (w : World) (tys : Array TypeId) (t : TypeId) (x y : Int) : (Builtin.max_ tys t #[.int .i64 x, .int .i64 y]).run Tryz.prog w = .ok (.int .i64 (Co.mx x y)) w := rfl
theorem least_snoc (c : List Co.Cost) (l : List Int) (k : Nat) (hk : k < l.length) : Co.leastF c (l.take (k + 1)) = Co.mx (Co.leastF c (l.take k)) (Co.costN c (nth l k).toNat).need := by
  unfold Co.leastF
  rw [take_snoc l k hk, List.foldl_append]; rfl
set_option maxHeartbeats 2000000 in
set_option maxRecDepth 100000 in
theorem cleast_any (a : Option Addr) (len cap : Nat) (g : List Gr.Node) (w : World) (HN : Nodes w a len cap g) :
    Calls Tryz.prog 34 #[.agg #[.slice a len cap]] w fun e w' => Below w.heap.size w w' ∧ ((Gr.shapes g = none ∧ e = .returned (.tuple #[.int .i64 0, .int .i64 1])) ∨ ∃ s, Gr.shapes g = some s ∧ e = .returned (.tuple #[.int .i64 (Co.leastF (Co.costs g s) (Od.ordOf g)), .int .i64 0])) := by
  have LN := Lib.hid HN.length
  have hle := HN.le
  have hcl := HN.cap_le
  have K0 := Lib.hid (GSt.start HN)
  clear HN
  go_enter Tryz.func34, Tryz.ntmps34
  go_wp2_with fail
  refine (cof_any _ _ _ g _ K0.out.n).mono ?_
  rintro e w1 ⟨hb, ⟨hs, rfl⟩ | ⟨s, aC, lC, hs, rfl, hC⟩⟩
  · have K1 := Lib.hid (K0.out.on hb)
    have HS := Lib.hid hs
    clear hb hs
    go_wp2
    go_ret2
    exact ⟨K1.out.bel, .inl ⟨HS.out, rfl⟩⟩
  have K1 := Lib.hid (K0.out.on hb)
  have c1 := K1.out.cell
  have HS := Lib.hid hs
  have HC1 := Lib.hid hC
  have hlC : lC = g.length := by rw [← hC.length]; exact Co.costsK_length _ _ _
  obtain rfl : lC = len := by rw [hlC]; exact LN.out
  have hCle := hC.le
  have hCcl := hC.cap_le
  have HNB : Hid (∀ i, i < g.length → 0 ≤ (Co.costN (Co.costs g s) i).need ∧ (Co.costN (Co.costs g s) i).need ≤ 81920) := fun i hi => by
    have h1 := Co.need_bounds hs hi
    have h2 := Co.insK_range s (nodeN g i).inn (nodeN g i).inn.length
    unfold Co.costs
    rw [Co.costsK_at _ _ _ _ hi]
    omega
  obtain ⟨⟨hl1, hl2⟩, _, _⟩ := Gr.shapes_iff.1 hs
  have HNd := Lib.hid (Od.need_of hl1 (fun n hn => Co.inn_of hs hn))
  clear hb hs hC K0 hlC
  go_wp2_with fail
  refine (of_any _ _ _ g _ K1.out.n).mono ?_
  rintro e w2 ⟨hb, ⟨hs, _⟩ | ⟨L, aL, lL, cL, hs, rfl, hI⟩⟩
  · unfold Od.ordO at hs
    rw [HS.out] at hs
    simp at hs
  have hLL : L = Od.ordOf g := by
    unfold Od.ordO at hs
    rw [HS.out] at hs
    simpa using hs.symm
  have HLE := Lib.hid hLL
  have K2 := Lib.hid (K1.out.on hb)
  have HC2 := Lib.hid (HC1.out.below hb)
  have HL2 := Lib.hid hI
  have HLL := Lib.hid hI.length
  have hLle := hI.le
  have hLcl := hI.cap_le
  have HAT : Hid (∀ i, i < lL → ∃ n : Nat, nth L i = (n : Int) ∧ n < lC) := fun i hi => by
    have h1 := hi
    rw [← HLL.out, hLL] at h1
    obtain ⟨n, h2, h3, _⟩ := Od.ord_at HNd.out h1
    exact ⟨n, by rw [hLL]; exact h2, by rw [← LN.out]; exact h3⟩
  clear hb hs hI hLL c1 K1 HC1
  go_wp2
  go_loopg [2, 24] lL (fun gg v i wr => ∃ (k : Nat) (n : Int), k ≤ lL ∧ lL - k ≤ gg ∧ i = .int .i64 k ∧ v = .int .i64 n ∧ Hid (n = Co.leastF (Co.costs g s) (L.take k)) ∧ (0 ≤ n ∧ n ≤ 81920) ∧ Hid (Below w2.heap.size w2 wr))
  case atStart => exact ⟨0, 0, Nat.zero_le _, by omega, rfl, rfl, rfl, by omega, Below.refl _ _⟩
  case round =>
    obtain ⟨k, n, hk, hg, rfl, rfl, HNE, hn, HW⟩ := hrel
    by_cases hlt : k < lL
    · have dlt : decide ((k : Int) < (lL : Int)) = true := decide_eq_true (by omega)
      obtain ⟨bL, oL, rfl, _, hcL⟩ := (HL2.out.below HW.out).at_ (by omega)
      have kL := hcL k hlt
      obtain ⟨q, hq1, hq2⟩ := HAT.out k hlt
      have HST := Lib.hid (least_snoc (Co.costs g s) L k (by rw [HLL.out]; exact hlt))
      rw [hq1, Int.toNat_natCast, ← HNE.out] at HST
      rw [hq1] at kL
      obtain ⟨bC, oC, rfl, _, hcC⟩ := (HC2.out.below HW.out).at_ (by omega)
      have kC := (hcC q hq2).2.1
      have hnb := HNB.out q (by rw [LN.out]; exact hq2)
      clear hcL hcC hq1
      generalize (Co.costN (Co.costs g s) q).need = m at *
      have hmr := max_run wr #[3, 3] 3 n m
      have hmb : 0 ≤ Co.mx n m ∧ Co.mx n m ≤ 81920 := by unfold Co.mx; split <;> omega
      generalize Co.mx n m = y at *
      go_wp2
      go_roundg (lL - (k + 1))
      case measure => exact Nat.lt_of_lt_of_le (Nat.sub_lt_sub_left hlt (Nat.lt_succ_self k)) hg
      case rel => exact ⟨k + 1, y, Nat.succ_le_of_lt hlt, Nat.le_refl _, by go_num, rfl, HST.out.symm, hmb, HW⟩
    · have dlt : decide ((k : Int) < (lL : Int)) = false := decide_eq_false (by omega)
      rw [List.take_of_length_le (by rw [HLL.out]; omega), HLE.out] at HNE
      go_wp2
      go_ret2
      exact ⟨(K2.out.on HW.out).bel, .inr ⟨s, HS.out, by rw [HNE.out]; rfl⟩⟩
end Go.Proofs.YtekejcnphmnidaaGreatDoor
