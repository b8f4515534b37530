/-
  evicts.Again, of a graph that may be, its costs, and one of its nodes: contract again_any.
-/
import Derived.Test.YtgmagldbfajedaaPlA
import Derived.Test.YtgmagldbfajedaaGrJoinedLaw
import Derived.Lib.QuietBelow
namespace Go.Proofs.Ytgmagldbfajedaa
open Go.RowKit

theorem Try.enters89 : ∀ args w, (callFunc 89 args).run Try.prog w = .ok (.enter 89 args) w := enters_of Try.func89 (by kernel_rfl) rfl

theorem anyB_not_all (p : Int → Bool) : ∀ l : List Int, (!anyB (fun u => !p u) l) = l.all p
  | [] => rfl
  | x :: r => by
    have h := anyB_not_all p r
    rw [List.all_cons, ← h]
    unfold anyB
    simp

set_option maxHeartbeats 4000000 in
set_option maxRecDepth 100000 in
theorem again_any (a : Option Addr) (len cap : Nat) (g : List Gr.Node) (aC : Option Addr) (cC : Nat) (C : List Co.Cost) (v : Int) (w : World) (HN : Nodes w a len cap g) (HC : CostsIn w aC len cC C) (hs : (Gr.shapes g).isSome = true) (h0 : 0 ≤ v) (h1 : v < len) :
    Calls Try.prog 52 #[.agg #[.slice a len cap], .slice aC len cC, .int .i64 v] w fun e w' => e = .returned (.bool (Pl.againB g C v)) ∧ Below w.heap.size w w' := by
  obtain ⟨n, rfl⟩ : ∃ n : Nat, v = (n : Int) := ⟨v.toNat, by omega⟩
  have hn : n < len := by omega
  have LN := Lib.hid HN.length
  have hle := HN.le
  have hcl := HN.cap_le
  have hlC := HC.le
  have hcC := HC.cap_le
  have HIN := Lib.hid (Pl.inn_ok hs).1
  have K0 := Lib.hid (GSt.start HN)
  have HC0 := Lib.hid (HC.below ((Below.refl _ _).alloc (Nat.le_refl _) (.cells #[.slice a len cap] 38)))
  have HS := Lib.hid hs
  clear HN HC hs h0 h1
  go_enter Try.func52, Try.ntmps52
  go_wp2_with fail
  refine (gcheck_any _ _ _ g _ K0.out.n).mono ?_
  rintro e w1 ⟨rfl, hb⟩
  rw [HS.out]
  have K1 := Lib.hid (K0.out.on hb)
  have HC1 := Lib.hid (HC0.out.below hb)
  have c1 := K1.out.cell
  have d1 : decide ((n : Int) < 0) = false := decide_eq_false (by omega)
  have d2 : decide ((n : Int) ≥ (len : Int)) = false := decide_eq_false (by omega)
  obtain ⟨b, off, ai, li, ci, sa, ls, cs, rfl, _, n0, n1, n2, n3, n4, hV⟩ := K1.out.n.get (Below.refl _ w1) hn
  have HV := Lib.hid hV
  have HI1 : Hid (∀ u ∈ (nodeN g n).inn, 0 ≤ u ∧ u < len) := fun u hu => by
    have := (HIN.out n (by rw [LN.out]; exact hn)).2 u hu; omega
  have hb2 : Below w1.heap.size w1 (w1.alloc (.cells #[.int .u8 (nodeN g n).kind, .slice ai li ci, .slice sa ls cs, .int .i64 (nodeN g n).n, .int .i64 (nodeN g n).pad] 46)) := (Below.refl _ _).alloc (Nat.le_refl _) _
  have K2 := Lib.hid (K1.out.on hb2)
  have HC2 := Lib.hid (HC1.out.below hb2)
  have HV2 := Lib.hid (hV.below hb2)
  have X0 : Hid ((w1.alloc (.cells #[.int .u8 (nodeN g n).kind, .slice ai li ci, .slice sa ls cs, .int .i64 (nodeN g n).n, .int .i64 (nodeN g n).pad] 46)).cell? ⟨w1.heap.size, 0, none⟩ = some (.int .u8 (nodeN g n).kind)) := by show _ = _; rw [World.cell?_alloc_at _ _ _ _ rfl]; rfl
  have X1 : Hid ((w1.alloc (.cells #[.int .u8 (nodeN g n).kind, .slice ai li ci, .slice sa ls cs, .int .i64 (nodeN g n).n, .int .i64 (nodeN g n).pad] 46)).cell? ⟨w1.heap.size, 1, none⟩ = some (.slice ai li ci)) := by show _ = _; rw [World.cell?_alloc_at _ _ _ _ rfl]; rfl
  have X2 : Hid ((w1.alloc (.cells #[.int .u8 (nodeN g n).kind, .slice ai li ci, .slice sa ls cs, .int .i64 (nodeN g n).n, .int .i64 (nodeN g n).pad] 46)).cell? ⟨w1.heap.size, 2, none⟩ = some (.slice sa ls cs)) := by show _ = _; rw [World.cell?_alloc_at _ _ _ _ rfl]; rfl
  have X3 : Hid ((w1.alloc (.cells #[.int .u8 (nodeN g n).kind, .slice ai li ci, .slice sa ls cs, .int .i64 (nodeN g n).n, .int .i64 (nodeN g n).pad] 46)).cell? ⟨w1.heap.size, 3, none⟩ = some (.int .i64 (nodeN g n).n)) := by show _ = _; rw [World.cell?_alloc_at _ _ _ _ rfl]; rfl
  have X4 : Hid ((w1.alloc (.cells #[.int .u8 (nodeN g n).kind, .slice ai li ci, .slice sa ls cs, .int .i64 (nodeN g n).n, .int .i64 (nodeN g n).pad] 46)).cell? ⟨w1.heap.size, 4, none⟩ = some (.int .i64 (nodeN g n).pad)) := by show _ = _; rw [World.cell?_alloc_at _ _ _ _ rfl]; rfl
  have hz2 : w1.heap.size < (w1.alloc (.cells #[.int .u8 (nodeN g n).kind, .slice ai li ci, .slice sa ls cs, .int .i64 (nodeN g n).n, .int .i64 (nodeN g n).pad] 46)).heap.size := by simp
  have HZ2 := Lib.hid hz2
  have HR : Hid (Pl.againB g C (n : Int) = (!(decide ((nodeN g n).kind = 1) || decide ((nodeN g n).kind = 2)) && !anyB (nsrc g) (nodeN g n).inn && decide ((Co.costN C n).work ≤ (Co.costN C n).bytes))) := by
    show _ = _
    unfold Pl.againB
    rw [Int.toNat_natCast, ← anyB_not_all (fun u => Pl.srcB (nodeN g u.toNat))]
    rfl
  clear hb hb2 hV hz2
  generalize (nodeN g n).kind = kd at *
  generalize (nodeN g n).n = nn at *
  generalize (nodeN g n).pad = pp at *
  go_wp2_with fail
  refine (containsFunc_on 89 #[.pointer (some ⟨w.heap.size, 0, none⟩)] (nsrc g) Try.enters89 _ _ _ (nodeN g n).inn _ HV2.out.i (fun W hW u hu => ?_)).mono ?_
  · have KW := K2.out.on hW
    exact again1_any _ _ _ _ g u W KW.n KW.cell (HI1.out u hu).1 (HI1.out u hu).2
  rintro e w3 ⟨rfl, hb⟩
  have K3 := Lib.hid (K2.out.on hb)
  have x0 := (hb.cell (p := ⟨w1.heap.size, 0, none⟩) HZ2.out).trans X0.out
  have x1 := (hb.cell (p := ⟨w1.heap.size, 1, none⟩) HZ2.out).trans X1.out
  have x2 := (hb.cell (p := ⟨w1.heap.size, 2, none⟩) HZ2.out).trans X2.out
  have x3 := (hb.cell (p := ⟨w1.heap.size, 3, none⟩) HZ2.out).trans X3.out
  have x4 := (hb.cell (p := ⟨w1.heap.size, 4, none⟩) HZ2.out).trans X4.out
  obtain ⟨bC, oC, rfl, hbC, hcC3⟩ := (HC2.out.below hb).at_ (by omega)
  obtain ⟨y0, _, y2⟩ := hcC3 n hn
  have hz3 := hb.size
  clear hb n0 n1 n2 n3 n4 hcC3 c1
  generalize anyB (nsrc g) (nodeN g n).inn = bo at *
  generalize (Co.costN C n).work = wk at *
  generalize (Co.costN C n).bytes = by_ at *
  obtain ⟨bs, hbs⟩ : ∃ bs, (decide (kd = 1) || decide (kd = 2)) = bs := ⟨_, rfl⟩
  have HES : Hid (∀ W, Calls Try.prog 90 #[.agg #[.int .u8 kd, .slice ai li ci, .slice sa ls cs, .int .i64 nn, .int .i64 pp]] W fun e w' => e = .returned (.bool bs) ∧ Below W.heap.size W w') := fun W => by
    have := esource_any kd nn pp ai sa li ci ls cs W; rw [hbs] at this; exact this
  rw [hbs] at HR
  have HBc : Hid (bC < w3.heap.size) := hbC
  clear hbs hbC
  have k0 := Go.cell_regrown x0
  have k1 := Go.cell_regrown x1
  have k2 := Go.cell_regrown x2
  have k3 := Go.cell_regrown x3
  have k4 := Go.cell_regrown x4
  have k5 := Go.cell_regrown y0
  have k6 := Go.cell_regrown y2
  have HCQ : Hid (∀ d os, Calls Try.prog 90 #[.agg #[.int .u8 kd, .slice ai li ci, .slice sa ls cs, .int .i64 nn, .int .i64 pp]] (Sort.grow (redrawn w3 d) os) fun e w'' => e = .returned (.bool bs) ∧ ∃ p : Regrown, w'' = Sort.grow (redrawn w3 p.d) p.os) := fun d os => Calls.regrown_of (HES.out _)
  clear y0 y2 x0 x1 x2 x3 x4
  have HEND : Hid (∀ d os, Below w.heap.size w (Sort.grow (redrawn w3 d) os)) := fun d os => (K3.out.on (below_regrown w3 d os)).bel
  obtain ⟨bw, hbw⟩ : ∃ bw, decide (wk ≤ by_) = bw := ⟨_, rfl⟩
  rw [hbw] at HR
  cases bs <;> cases bo <;> cases bw
  all_goals
    have HR2 := HR.out
    simp only [Bool.not_true, Bool.not_false, Bool.and_false, Bool.and_true] at HR2
    have HR3 := Lib.hid HR2
    clear HR2 HR
    go_wp2_with fail
    refine wp_region_quiet_below mixed (by kernel_rfl) ?_
    repeat (go_big_quiet_step (exact HCQ.out _ _))
    refine wpQuiet_nil ?_
    intro _ hw'
    obtain ⟨⟨dq, osq⟩, hw''⟩ := hw'
    subst hw''
    go_wp2
    go_ret
    exact ⟨by rw [HR3.out]; rfl, HEND.out _ _⟩
end Go.Proofs.Ytgmagldbfajedaa
