/-
  evicts.Again and the document's answer (ref21.Again), of any graph, any costs, any node: contracts again2_any, ragain_any: both answer againR.
-/
import Derived.Test.YtgmagldbfajedaaRfT
import Derived.Test.YtgmagldbfajedaaCoOwn
import Derived.Test.YtgmagldbfajedaaPlAgain
namespace Go.Proofs.Ytgmagldbfajedaa
open Go.RowKit

/-- Is a node rather reckoned again? -/
def againR (g : List Gr.Node) (C : List Co.Cost) (v : Int) : Bool := (Gr.shapes g).isSome && decide (C.length = g.length) && decide (0 ≤ v ∧ v < (g.length : Int)) && Pl.againB g C v
theorem againR_shapes {g : List Gr.Node} {C : List Co.Cost} {v : Int} (h : (Gr.shapes g).isSome = false) : againR g C v = false := by unfold againR; rw [h]; rfl
theorem againR_len {g : List Gr.Node} {C : List Co.Cost} {v : Int} (h : C.length ≠ g.length) : againR g C v = false := by unfold againR; rw [decide_eq_false h, Bool.and_false]; rfl
theorem againR_at {g : List Gr.Node} {C : List Co.Cost} {v : Int} (h : ¬ (0 ≤ v ∧ v < (g.length : Int))) : againR g C v = false := by unfold againR; rw [decide_eq_false h, Bool.and_false]; rfl
theorem againR_in {g : List Gr.Node} {C : List Co.Cost} {v : Int} (hs : (Gr.shapes g).isSome = true) (hl : C.length = g.length) (h : 0 ≤ v ∧ v < (g.length : Int)) : againR g C v = Pl.againB g C v := by
  unfold againR; rw [hs, decide_eq_true hl, decide_eq_true h]; rfl

set_option maxHeartbeats 2000000 in
theorem again2_any (a : Option Addr) (len cap : Nat) (g : List Gr.Node) (aC : Option Addr) (lC cC : Nat) (C : List Co.Cost) (v : Int) (w : World) (HN : Nodes w a len cap g) (HC : CostsIn w aC lC cC C) :
    Calls Try.prog 52 #[.agg #[.slice a len cap], .slice aC lC cC, .int .i64 v] w fun e w' => e = .returned (.bool (againR g C v)) ∧ Below w.heap.size w w' := by
  have LN := Lib.hid HN.length
  have LC := Lib.hid HC.length
  have hle := HN.le
  have hcl := HN.cap_le
  have hlC := HC.le
  have hcC := HC.cap_le
  cases hs : (Gr.shapes g).isSome with
  | false =>
    have HS := Lib.hid hs
    have HR := Lib.hid (againR_shapes (C := C) (v := v) hs)
    have K0 := Lib.hid (GSt.start HN)
    clear HN HC hs
    go_enter Try.func52, Try.ntmps52
    go_wp2_with fail
    refine (gcheck_any _ _ _ g _ K0.out.n).mono ?_
    rintro e w1 ⟨rfl, hb⟩
    rw [HS.out]
    have K1 := Lib.hid (K0.out.on hb)
    clear hb
    go_wp2
    go_ret
    exact ⟨by rw [HR.out]; rfl, K1.out.bel⟩
  | true =>
    by_cases hl : lC = len
    rotate_left
    · have HS := Lib.hid hs
      have HR := Lib.hid (againR_len (g := g) (C := C) (v := v) (by rw [LC.out, LN.out]; exact hl))
      have K0 := Lib.hid (GSt.start HN)
      have e1 : ((lC : Int) != (len : Int)) = true := by simp; omega
      clear HN HC hs hl
      go_enter Try.func52, Try.ntmps52
      go_wp2_with fail
      refine (gcheck_any _ _ _ g _ K0.out.n).mono ?_
      rintro e w1 ⟨rfl, hb⟩
      rw [HS.out]
      have K1 := Lib.hid (K0.out.on hb)
      have c1 := K1.out.cell
      clear hb
      go_wp2
      go_ret
      exact ⟨by rw [HR.out]; rfl, K1.out.bel⟩
    subst hl
    by_cases hv : 0 ≤ v ∧ v < (lC : Int)
    · have HR := againR_in (g := g) (C := C) (v := v) hs (by rw [LC.out, LN.out]) (by rw [LN.out]; exact hv)
      rw [HR]
      exact again_any a lC cap g aC cC C v w HN HC hs hv.1 hv.2
    · have HS := Lib.hid hs
      have HR := Lib.hid (againR_at (g := g) (C := C) (v := v) (by rw [LN.out]; exact hv))
      have K0 := Lib.hid (GSt.start HN)
      have e1 : ((lC : Int) != (lC : Int)) = false := by simp
      clear HN HC hs
      by_cases h0 : v < 0
      · have d1 : decide (v < 0) = true := decide_eq_true h0
        clear h0 hv
        go_enter Try.func52, Try.ntmps52
        go_wp2_with fail
        refine (gcheck_any _ _ _ g _ K0.out.n).mono ?_
        rintro e w1 ⟨rfl, hb⟩
        rw [HS.out]
        have K1 := Lib.hid (K0.out.on hb)
        have c1 := K1.out.cell
        clear hb
        go_wp2
        go_ret
        exact ⟨by rw [HR.out]; rfl, K1.out.bel⟩
      · have d1 : decide (v < 0) = false := decide_eq_false h0
        have d2 : decide (v ≥ (lC : Int)) = true := decide_eq_true (by omega)
        clear h0 hv
        go_enter Try.func52, Try.ntmps52
        go_wp2_with fail
        refine (gcheck_any _ _ _ g _ K0.out.n).mono ?_
        rintro e w1 ⟨rfl, hb⟩
        rw [HS.out]
        have K1 := Lib.hid (K0.out.on hb)
        have c1 := K1.out.cell
        clear hb
        go_wp2
        go_ret
        exact ⟨by rw [HR.out]; rfl, K1.out.bel⟩

set_option maxHeartbeats 4000000 in
set_option maxRecDepth 100000 in
theorem ragain_any (a : Option Addr) (len cap : Nat) (g : List Gr.Node) (aC : Option Addr) (lC cC : Nat) (C : List Co.Cost) (v : Int) (w : World) (HN : Nodes w a len cap g) (HC : CostsIn w aC lC cC C) :
    Calls Try.prog 53 #[.agg #[.slice a len cap], .slice aC lC cC, .int .i64 v] w fun e w' => e = .returned (.bool (againR g C v)) ∧ Below w.heap.size w w' := by
  have LN := Lib.hid HN.length
  have LC := Lib.hid HC.length
  have hle := HN.le
  have hcl := HN.cap_le
  have hlC := HC.le
  have hcC := HC.cap_le
  have K0 := Lib.hid (GSt.start HN)
  have HC0 := Lib.hid (HC.below ((Below.refl _ _).alloc (Nat.le_refl _) (.cells #[.slice a len cap] 38)))
  clear HN HC
  go_enter Try.func53, Try.ntmps53
  go_wp2_with fail
  refine (rCheck_any _ _ _ g _ K0.out.n).mono ?_
  rintro e w1 ⟨rfl, hb⟩
  have K1 := Lib.hid (K0.out.on hb)
  have HC1 := Lib.hid (HC0.out.below hb)
  have c1 := K1.out.cell
  clear hb
  cases hs : (Gr.shapes g).isSome with
  | false =>
    have HR := Lib.hid (againR_shapes (C := C) (v := v) hs)
    clear hs
    go_wp2
    go_ret
    exact ⟨by rw [HR.out]; rfl, K1.out.bel⟩
  | true =>
    by_cases hl : lC = len
    rotate_left
    · have HR := Lib.hid (againR_len (g := g) (C := C) (v := v) (by rw [LC.out, LN.out]; exact hl))
      have e1 : ((lC : Int) != (len : Int)) = true := by simp; omega
      clear hs hl
      go_wp2
      go_ret
      exact ⟨by rw [HR.out]; rfl, K1.out.bel⟩
    subst hl
    have e1 : ((lC : Int) != (lC : Int)) = false := by simp
    by_cases h0 : v < 0
    · have HR := Lib.hid (againR_at (g := g) (C := C) (v := v) (by rw [LN.out]; omega))
      have d1 : decide (v < 0) = true := decide_eq_true h0
      clear h0 hs
      go_wp2
      go_ret
      exact ⟨by rw [HR.out]; rfl, K1.out.bel⟩
    have d1 : decide (v < 0) = false := decide_eq_false h0
    by_cases h1 : (lC : Int) ≤ v
    · have HR := Lib.hid (againR_at (g := g) (C := C) (v := v) (by rw [LN.out]; omega))
      have d2 : decide (v ≥ (lC : Int)) = true := decide_eq_true h1
      clear h0 h1 hs
      go_wp2
      go_ret
      exact ⟨by rw [HR.out]; rfl, K1.out.bel⟩
    have d2 : decide (v ≥ (lC : Int)) = false := decide_eq_false h1
    obtain ⟨n, rfl⟩ : ∃ n : Nat, v = (n : Int) := ⟨v.toNat, by omega⟩
    have hn : n < lC := by omega
    have HR : Hid (againR g C (n : Int) = (!(decide ((nodeN g n).kind = 1) || decide ((nodeN g n).kind = 2)) && ((nodeN g n).inn.all fun u => Pl.srcB (nodeN g u.toNat)) && decide ((Co.costN C n).work ≤ (Co.costN C n).bytes))) := by
      show _ = _
      rw [againR_in hs (by rw [LC.out, LN.out]) (by rw [LN.out]; omega)]
      unfold Pl.againB
      rw [Int.toNat_natCast]
      rfl
    have HI1 : Hid (∀ u ∈ (nodeN g n).inn, 0 ≤ u ∧ u < lC) := fun u hu => by
      have := ((Pl.inn_ok hs).1 n (by rw [LN.out]; exact hn)).2 u hu; omega
    obtain ⟨b, off, ai, li, ci, sa, ls, cs, rfl, hbl, n0, n1, n2, n3, n4, hV⟩ := K1.out.n.get (Below.refl _ w1) hn
    have HV := Lib.hid hV
    have LI := Lib.hid hV.i.length
    have hlile := hV.i.le
    have hlicl := hV.i.cap_le
    have HNK : Hid (∀ u, u < lC → w1.cell? ⟨b, off + u * 5, none⟩ = some (.int .u8 (nodeN g u).kind)) := fun u hu => by
      obtain ⟨_, _, _, _, _, _, _, _, e, _, h, _⟩ := K1.out.n.get (Below.refl _ w1) hu
      cases e; exact h
    obtain ⟨bC, oC, rfl, hbC, hcC3⟩ := HC1.out.at_ (by omega)
    obtain ⟨y0, _, y2⟩ := hcC3 n hn
    have hb2 : Below w1.heap.size w1 (w1.alloc (.cells #[.int .u8 (nodeN g n).kind, .slice ai li ci, .slice sa ls cs, .int .i64 (nodeN g n).n, .int .i64 (nodeN g n).pad] 46)) := (Below.refl _ _).alloc (Nat.le_refl _) _
    have K2 := Lib.hid (K1.out.on hb2)
    have HB2 := Lib.hid hb2
    have X0 : Hid ((w1.alloc (.cells #[.int .u8 (nodeN g n).kind, .slice ai li ci, .slice sa ls cs, .int .i64 (nodeN g n).n, .int .i64 (nodeN g n).pad] 46)).cell? ⟨w1.heap.size, 0, none⟩ = some (.int .u8 (nodeN g n).kind)) := by show _ = _; rw [World.cell?_alloc_at _ _ _ _ rfl]; rfl
    have X1 : Hid ((w1.alloc (.cells #[.int .u8 (nodeN g n).kind, .slice ai li ci, .slice sa ls cs, .int .i64 (nodeN g n).n, .int .i64 (nodeN g n).pad] 46)).cell? ⟨w1.heap.size, 1, none⟩ = some (.slice ai li ci)) := by show _ = _; rw [World.cell?_alloc_at _ _ _ _ rfl]; rfl
    have Y0 := Lib.hid (below_keep hb2 y0)
    have Y2 := Lib.hid (below_keep hb2 y2)
    clear hb2 hV hcC3 h0 h1 hs
    generalize (nodeN g n).kind = kd at *
    generalize (nodeN g n).n = nn at *
    generalize (nodeN g n).pad = pp at *
    generalize (Co.costN C n).work = wk at *
    generalize (Co.costN C n).bytes = by_ at *
    go_wp2_with fail
    generalize w1.alloc (.cells #[.int .u8 kd, .slice ai li ci, .slice sa ls cs, .int .i64 nn, .int .i64 pp] 46) = w2 at *
    have x0 := X0.out
    have x1 := X1.out
    have q0 := Y0.out
    have q2 := Y2.out
    have c2 := K2.out.cell
    clear n0 n1 n2 n3 n4 y0 y2 c1
    by_cases k1 : kd = 1
    · have b1 : (kd == 1) = true := by simp [k1]
      have HR2 : Hid (againR g C (n : Int) = false) := by show _ = _; rw [HR.out, decide_eq_true k1]; rfl
      clear k1
      go_wp2_with fail
      go_quiet (fail)
      go_wp2
      go_ret
      exact ⟨by rw [HR2.out]; rfl, K2.out.bel.trans (below_drewN _ _ _)⟩
    have b1 : (kd == 1) = false := by simp [k1]
    by_cases k2 : kd = 2
    · have b2 : (kd == 2) = true := by simp [k2]
      have HR2 : Hid (againR g C (n : Int) = false) := by show _ = _; rw [HR.out, decide_eq_true k2, Bool.or_true]; rfl
      clear k1 k2
      go_wp2_with fail
      go_quiet (fail)
      go_wp2
      go_ret
      exact ⟨by rw [HR2.out]; rfl, K2.out.bel.trans (below_drewN _ _ _)⟩
    have b2 : (kd == 2) = false := by simp [k2]
    by_cases k3 : by_ < wk
    · have b3 : decide (wk > by_) = true := decide_eq_true k3
      have HR2 : Hid (againR g C (n : Int) = false) := by show _ = _; rw [HR.out, decide_eq_false (show ¬ wk ≤ by_ by omega), Bool.and_false]
      clear k1 k2 k3
      go_wp2_with fail
      go_quiet (fail)
      go_wp2
      go_ret
      exact ⟨by rw [HR2.out]; rfl, K2.out.bel.trans (below_drewN _ _ _)⟩
    have b3 : decide (wk > by_) = false := decide_eq_false k3
    have HR2 : Hid (againR g C (n : Int) = ((nodeN g n).inn.all fun u => Pl.srcB (nodeN g u.toNat))) := by
      show _ = _
      rw [HR.out, decide_eq_false k1, decide_eq_false k2, decide_eq_true (show wk ≤ by_ by omega), Bool.and_true]; rfl
    clear HR k1 k2 k3 x0 q0 q2
    have x0 := X0.out
    have q0 := Y0.out
    have q2 := Y2.out
    go_wp2_with fail
    go_quiet (fail)
    clear x0 q0 q2 b1 b2 b3
    have x1' : (w2.drewN nq).cell? ⟨w1.heap.size, 1, none⟩ = some (.slice ai li ci) := x1
    go_wp2
    go_loopg [8] li (fun gg i wr => ∃ j : Nat, j ≤ li ∧ li - j ≤ gg ∧ i = .int .i64 j ∧ Hid (∃ m, wr = w2.drewN m) ∧ Hid (∀ p, p < j → Pl.srcB (nodeN g (nth (nodeN g n).inn p).toNat) = true))
    case atStart => exact ⟨0, Nat.zero_le _, by omega, rfl, ⟨nq, rfl⟩, fun p hp => absurd hp (Nat.not_lt_zero _)⟩
    case round =>
      obtain ⟨j, hj, hg, rfl, HWr, HT⟩ := hrel
      obtain ⟨m, rfl⟩ := HWr.out
      have x1r : (w2.drewN m).cell? ⟨w1.heap.size, 1, none⟩ = some (.slice ai li ci) := x1
      by_cases hlt : j < li
      · have djl : decide ((j : Int) < (li : Int)) = true := decide_eq_true (by omega)
        obtain ⟨bI, oI, rfl, _, hcI⟩ := (HV.out.i.below HB2.out).at_ (by omega)
        have kI := hcI j hlt
        have hjl : j < (nodeN g n).inn.length := by rw [LI.out]; exact hlt
        obtain ⟨hu0, hu1⟩ := HI1.out (nth (nodeN g n).inn j) (nth_mem _ j hjl)
        have c2r : (w2.drewN m).cell? ⟨w.heap.size, 0, none⟩ = some (.slice (some ⟨b, off, none⟩) lC cap) := c2
        have HBAD : Hid (Pl.srcB (nodeN g (nth (nodeN g n).inn j).toNat) = false → againR g C (n : Int) = false) := fun h => by
          rw [HR2.out, List.all_eq_false]
          exact ⟨_, nth_mem _ j hjl, by simp [h]⟩
        have HOK : Hid (Pl.srcB (nodeN g (nth (nodeN g n).inn j).toNat) = true → ∀ p, p < j + 1 → Pl.srcB (nodeN g (nth (nodeN g n).inn p).toNat) = true) := fun h p hp => by
          by_cases e : p = j
          · subst e; exact h
          · exact HT.out p (by omega)
        have hsrc : Pl.srcB (nodeN g (nth (nodeN g n).inn j).toNat) = (decide ((nodeN g (nth (nodeN g n).inn j).toNat).kind = 1) || decide ((nodeN g (nth (nodeN g n).inn j).toNat).kind = 2)) := rfl
        rw [hsrc] at HBAD HOK
        have kU0 := HNK.out (nth (nodeN g n).inn j).toNat (by omega)
        have kU : w2.cell? ⟨b, off + (nth (nodeN g n).inn j).toNat * 5, none⟩ = some (.int .u8 (nodeN g (nth (nodeN g n).inn j).toNat).kind) := (HB2.out.cell (p := ⟨b, _, none⟩) hbl).trans kU0
        clear hcI kU0 hsrc
        generalize nth (nodeN g n).inn j = u at *
        generalize (nodeN g u.toNat).kind = ku at *
        by_cases k1 : ku = 1
        · have b1 : (ku != 1) = false := by simp [k1]
          have HT2 := Lib.hid (HOK.out (by rw [decide_eq_true k1]; rfl))
          clear k1
          go_wp2_with fail
          go_quiet (fail)
          go_wp2
          go_roundg (li - (j + 1))
          case measure => omega
          case rel => exact ⟨j + 1, by omega, by omega, by go_num, ⟨m + nq, by simp⟩, HT2⟩
        have b1 : (ku != 1) = true := by simp [k1]
        by_cases k2 : ku = 2
        · have b2 : (ku != 2) = false := by simp [k2]
          have HT2 := Lib.hid (HOK.out (by rw [decide_eq_true k2, Bool.or_true]))
          clear k1 k2
          go_wp2_with fail
          go_quiet (fail)
          go_wp2
          go_roundg (li - (j + 1))
          case measure => omega
          case rel => exact ⟨j + 1, by omega, by omega, by go_num, ⟨m + nq, by simp⟩, HT2⟩
        · have b2 : (ku != 2) = true := by simp [k2]
          have HR3 := Lib.hid (HBAD.out (by rw [decide_eq_false k1, decide_eq_false k2]; rfl))
          clear k1 k2
          go_wp2_with fail
          go_quiet (fail)
          go_wp2
          go_ret
          exact ⟨by rw [HR3.out]; rfl, K2.out.bel.trans (below_drewN _ _ _)⟩
      · have djl : decide ((j : Int) < (li : Int)) = false := decide_eq_false (by omega)
        have HR3 : Hid (againR g C (n : Int) = true) := by
          show _ = _
          rw [HR2.out, List.all_eq_true]
          intro u hu
          obtain ⟨p, hp, rfl⟩ := List.getElem_of_mem hu
          rw [← nth_eq _ p hp]
          exact HT.out p (by rw [LI.out] at hp; omega)
        go_wp2
        go_ret
        exact ⟨by rw [HR3.out]; rfl, K2.out.bel.trans (below_drewN _ _ _)⟩
end Go.Proofs.Ytgmagldbfajedaa
