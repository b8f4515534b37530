import Derived.Test.YtekejcnphmnidaaGreatDoorZChWalk
import Derived.OwnWalk
import Derived.StillTailTactics
import Derived.Test.YtekejcnphmnidaaGreatDoorZChAlive
import Derived.Test.YtekejcnphmnidaaGreatDoorZCoW
namespace Go.Proofs.YtekejcnphmnidaaGreatDoor
open Go.RowKit
structure RnBox (w : World) (B n : Nat) (K : Nat → Pl.Kn) : Prop where
  lt : B < w.heap.size
  fr : ∀ o, o < n * 3 → w.frozen? ⟨B, o, none⟩ = false
  at_ : ∀ v, v < n → w.cell? ⟨B, v * 3, none⟩ = some (.bool (K v).inn) ∧ w.cell? ⟨B, v * 3 + 1, none⟩ = some (.bool (K v).asked) ∧ w.cell? ⟨B, v * 3 + 2, none⟩ = some (.bool (K v).disk)
theorem RnBox.below {w w' : World} {B n : Nat} {K : Nat → Pl.Kn} (h : RnBox w B n K) (hb : Below w.heap.size w w') : RnBox w' B n K :=
  ⟨Nat.lt_of_lt_of_le h.lt hb.size, fun o ho => (hb.frozen (p := ⟨B, o, none⟩) h.lt).trans (h.fr o ho), fun v hv => by
    obtain ⟨h0, h1, h2⟩ := h.at_ v hv
    exact ⟨(hb.cell (p := ⟨B, _, none⟩) h.lt).trans h0, (hb.cell (p := ⟨B, _, none⟩) h.lt).trans h1, (hb.cell (p := ⟨B, _, none⟩) h.lt).trans h2⟩⟩
theorem RnBox.congr {w : World} {B n : Nat} {K K' : Nat → Pl.Kn} (h : RnBox w B n K) (e : ∀ v, v < n → (K' v).inn = (K v).inn ∧ (K' v).asked = (K v).asked ∧ (K' v).disk = (K v).disk) : RnBox w B n K' :=
  ⟨h.lt, h.fr, fun v hv => by obtain ⟨e0, e1, e2⟩ := e v hv; rw [e0, e1, e2]; exact h.at_ v hv⟩
theorem RnBox.setIn {w : World} {B n : Nat} {K : Nat → Pl.Kn} (h : RnBox w B n K) {v : Nat} (hv : v < n) (x : Bool) : RnBox (w.setCell ⟨B, v * 3, none⟩ (.bool x)) B n (Pl.upd K v ⟨x, (K v).asked, (K v).disk, (K v).src⟩) := by
  refine ⟨by simp only [World.setCell]; first | exact h.lt | simpa [World.setCell] using h.lt, fun o ho => by rw [World.frozen?_setCell]; exact h.fr o ho, fun u hu => ?_⟩
  by_cases e : u = v
  · subst e
    rw [Pl.upd_at]
    obtain ⟨h0, h1, h2⟩ := h.at_ u hu
    exact ⟨World.cell?_setCell_same _ _ _ h0, (set_off _ (by omega) _).trans h1, (set_off _ (by omega) _).trans h2⟩
  · rw [Pl.upd_ne _ _ _ e]
    obtain ⟨h0, h1, h2⟩ := h.at_ u hu
    exact ⟨(set_off _ (by omega) _).trans h0, (set_off _ (by omega) _).trans h1, (set_off _ (by omega) _).trans h2⟩
theorem RnBox.setAsked {w : World} {B n : Nat} {K : Nat → Pl.Kn} (h : RnBox w B n K) {v : Nat} (hv : v < n) (x : Bool) : RnBox (w.setCell ⟨B, v * 3 + 1, none⟩ (.bool x)) B n (Pl.upd K v ⟨(K v).inn, x, (K v).disk, (K v).src⟩) := by
  refine ⟨by simp only [World.setCell]; first | exact h.lt | simpa [World.setCell] using h.lt, fun o ho => by rw [World.frozen?_setCell]; exact h.fr o ho, fun u hu => ?_⟩
  by_cases e : u = v
  · subst e
    rw [Pl.upd_at]
    obtain ⟨h0, h1, h2⟩ := h.at_ u hu
    exact ⟨(set_off _ (by omega) _).trans h0, World.cell?_setCell_same _ _ _ h1, (set_off _ (by omega) _).trans h2⟩
  · rw [Pl.upd_ne _ _ _ e]
    obtain ⟨h0, h1, h2⟩ := h.at_ u hu
    exact ⟨(set_off _ (by omega) _).trans h0, (set_off _ (by omega) _).trans h1, (set_off _ (by omega) _).trans h2⟩
theorem RnBox.setDisk {w : World} {B n : Nat} {K : Nat → Pl.Kn} (h : RnBox w B n K) {v : Nat} (hv : v < n) (x : Bool) : RnBox (w.setCell ⟨B, v * 3 + 2, none⟩ (.bool x)) B n (Pl.upd K v ⟨(K v).inn, (K v).asked, x, (K v).src⟩) := by
  refine ⟨by simp only [World.setCell]; first | exact h.lt | simpa [World.setCell] using h.lt, fun o ho => by rw [World.frozen?_setCell]; exact h.fr o ho, fun u hu => ?_⟩
  by_cases e : u = v
  · subst e
    rw [Pl.upd_at]
    obtain ⟨h0, h1, h2⟩ := h.at_ u hu
    exact ⟨(set_off _ (by omega) _).trans h0, (set_off _ (by omega) _).trans h1, World.cell?_setCell_same _ _ _ h2⟩
  · rw [Pl.upd_ne _ _ _ e]
    obtain ⟨h0, h1, h2⟩ := h.at_ u hu
    exact ⟨(set_off _ (by omega) _).trans h0, (set_off _ (by omega) _).trans h1, (set_off _ (by omega) _).trans h2⟩
def MayE (g : List Gr.Node) (K : Nat → Pl.Kn) (kd : Int) (v B n : Nat) (w : World) (e : Ending) (w' : World) : Prop :=
  Below B w w' ∧ ((Pl.beh g K kd v = none ∧ e = .returned (.bool false)) ∨ ∃ k, Pl.beh g K kd v = some k ∧ e = .returned (.bool true) ∧ RnBox w' B n (Pl.upd K v k))
set_option maxHeartbeats 4000000 in
set_option maxRecDepth 100000 in
theorem rmay_any (a : Option Addr) (len cap : Nat) (g : List Gr.Node) (B cB : Nat) (K : Nat → Pl.Kn) (kd : Int) (v : Nat) (w : World) (HN : Nodes w a len cap g) (HB : RnBox w B len K) (_ : len ≤ 32) (_ : len ≤ cB) (_ : cB ≤ 9223372036854775807) (hv : v < len) (hinn : ∀ u ∈ (nodeN g v).inn, 0 ≤ u ∧ u < len) (hsrc : (K v).src = Pl.srcB (nodeN g v)) :
    Calls Tryz.prog 128 #[.agg #[.slice a len cap], .slice (some ⟨B, 0, none⟩) len cB, .agg #[.int .u8 kd, .int .i64 v]] w fun e w' => MayE g K kd v B len w e w' := by
  have hle := HN.le
  have hcl := HN.cap_le
  have KN := Lib.hid HN
  have HI := Lib.hid hinn
  obtain ⟨bN, oN, ai, li, ci, sa, ls, cs, eN, _, n0, n1, _, _, _, hV⟩ := HN.get (Below.refl _ w) hv
  cases eN
  have hbN : bN < w.heap.size := by assumption
  have HB2 : Hid (Below w.heap.size w ((w.alloc (.cells #[.slice (some ⟨bN, oN, none⟩) len cap] 56)).alloc (.cells #[.int .u8 kd, .int .i64 v] 128))) := ((Below.refl _ _).alloc (Nat.le_refl _) _).alloc (by simp) _
  have G0 : Hid (((w.alloc (.cells #[.slice (some ⟨bN, oN, none⟩) len cap] 56)).alloc (.cells #[.int .u8 kd, .int .i64 v] 128)).cell? ⟨w.heap.size, 0, none⟩ = some (.slice (some ⟨bN, oN, none⟩) len cap)) := by
    show _ = _
    refine Lib.cell?_alloc_some _ ?_
    rw [World.cell?_alloc_at _ _ _ _ rfl]; rfl
  have X0 : Hid (((w.alloc (.cells #[.slice (some ⟨bN, oN, none⟩) len cap] 56)).alloc (.cells #[.int .u8 kd, .int .i64 v] 128)).cell? ⟨w.heap.size + 1, 0, none⟩ = some (.int .u8 kd)) := by
    show _ = _
    rw [World.cell?_alloc_at _ _ _ _ (by simp)]; rfl
  have X1 : Hid (((w.alloc (.cells #[.slice (some ⟨bN, oN, none⟩) len cap] 56)).alloc (.cells #[.int .u8 kd, .int .i64 v] 128)).cell? ⟨w.heap.size + 1, 1, none⟩ = some (.int .i64 v)) := by
    show _ = _
    rw [World.cell?_alloc_at _ _ _ _ (by simp)]; rfl
  have KB := Lib.hid (HB.below HB2.out)
  have BB : Hid (Below B w ((w.alloc (.cells #[.slice (some ⟨bN, oN, none⟩) len cap] 56)).alloc (.cells #[.int .u8 kd, .int .i64 v] 128))) := HB2.out.mono (Nat.le_of_lt HB.lt)
  have HVI := Lib.hid (hV.i.below HB2.out)
  have HVL := Lib.hid hV.i.length
  have hil := hV.i.le
  have hic := hV.i.cap_le
  have nn0 := (HB2.out.cell (p := ⟨bN, _, none⟩) hbN).trans n0
  have nn1 := (HB2.out.cell (p := ⟨bN, _, none⟩) hbN).trans n1
  obtain ⟨b0, b1, b2⟩ := KB.out.at_ v hv
  have fr0 := KB.out.fr (v * 3) (by omega)
  have fr1 := KB.out.fr (v * 3 + 1) (by omega)
  have fr2 := KB.out.fr (v * 3 + 2) (by omega)
  have hvl : (v : Int) < (len : Int) := by omega
  have HSR : Hid ((K v).src = (decide ((nodeN g v).kind = 1) || decide ((nodeN g v).kind = 2))) := hsrc
  have SI := fun x => Lib.hid (KB.out.setIn hv x)
  have SK := fun x => Lib.hid (KB.out.setAsked hv x)
  have SD := fun x => Lib.hid (KB.out.setDisk hv x)
  have SKI := Lib.hid ((KB.out.setAsked hv false).setIn hv true)
  simp only [Pl.upd_at] at SKI
  clear HN HB hinn hsrc hV n0 n1 HB2 hbN
  have HK : Hid (K v = ⟨(K v).inn, (K v).asked, (K v).disk, (K v).src⟩) := rfl
  generalize (K v).inn = i0 at *
  generalize (K v).asked = k0 at *
  generalize (K v).disk = s0 at *
  generalize (K v).src = r0 at *
  generalize (nodeN g v).kind = kk at *
  by_cases e1 : kk = 1
  · have t1 : (kk == 1) = true := by simp [e1]
    obtain rfl : r0 = true := by rw [HSR.out]; simp [e1]
    clear e1 HSR
    by_cases q1 : kd = 1
    · subst q1
      have p1 : ((1 : Int) == 1) = true := by decide
      cases s0 with
      | false =>
        go_enter Tryz.func128, Tryz.ntmps128
        go_wp2
        go_ret
        exact ⟨BB.out, .inl ⟨by rw [Pl.beh_ask HK.out]; simp, rfl⟩⟩
      | true =>
        cases i0 with
        | true =>
          go_enter Tryz.func128, Tryz.ntmps128
          go_wp2
          go_ret
          exact ⟨BB.out, .inl ⟨by rw [Pl.beh_ask HK.out]; simp, rfl⟩⟩
        | false =>
          cases k0 with
          | true =>
            go_enter Tryz.func128, Tryz.ntmps128
            go_wp2
            go_ret
            exact ⟨BB.out, .inl ⟨by rw [Pl.beh_ask HK.out]; simp, rfl⟩⟩
          | false =>
            go_enter Tryz.func128, Tryz.ntmps128
            go_wp2
            go_ret
            exact ⟨below_setCell BB.out B _ _ (Nat.le_refl _), .inr ⟨_, by rw [Pl.beh_ask HK.out]; rfl, rfl, (SK true).out⟩⟩
    by_cases q2 : kd = 2
    · subst q2
      have p1 : ((2 : Int) == 1) = false := by decide
      have p2 : ((2 : Int) == 2) = true := by decide
      clear q1
      cases k0 with
      | false =>
        go_enter Tryz.func128, Tryz.ntmps128
        go_wp2
        go_ret
        exact ⟨BB.out, .inl ⟨by rw [Pl.beh_wait HK.out]; simp, rfl⟩⟩
      | true =>
        have fi : ((((w.alloc (.cells #[.slice (some ⟨bN, oN, none⟩) len cap] 56)).alloc (.cells #[.int .u8 2, .int .i64 v] 128))).setCell ⟨B, v * 3 + 1, none⟩ (.bool false)).frozen? ⟨B, v * 3, none⟩ = false := (World.frozen?_setCell _ _ _ _).trans fr0
        have ci0 : ((((w.alloc (.cells #[.slice (some ⟨bN, oN, none⟩) len cap] 56)).alloc (.cells #[.int .u8 2, .int .i64 v] 128))).setCell ⟨B, v * 3 + 1, none⟩ (.bool false)).cell? ⟨B, v * 3, none⟩ = some (.bool i0) := (set_off _ (by omega) _).trans b0
        go_enter Tryz.func128, Tryz.ntmps128
        go_wp2
        go_ret
        exact ⟨below_setCell (below_setCell BB.out B _ _ (Nat.le_refl _)) B _ _ (Nat.le_refl _), .inr ⟨_, by rw [Pl.beh_wait HK.out]; rfl, rfl, SKI.out.congr fun u _ => by unfold Pl.upd; split <;> simp_all⟩⟩
    by_cases q4 : kd = 4
    · subst q4
      have p1 : ((4 : Int) == 1) = false := by decide
      have p2 : ((4 : Int) == 2) = false := by decide
      have p3 : ((4 : Int) == 3) = false := by decide
      have p4 : ((4 : Int) == 4) = true := by decide
      clear q1 q2
      cases i0 with
      | false =>
        go_enter Tryz.func128, Tryz.ntmps128
        go_wp2
        go_ret
        exact ⟨BB.out, .inl ⟨by rw [Pl.beh_store HK.out]; simp, rfl⟩⟩
      | true =>
        cases s0 with
        | true =>
          go_enter Tryz.func128, Tryz.ntmps128
          go_wp2
          go_ret
          exact ⟨BB.out, .inl ⟨by rw [Pl.beh_store HK.out]; simp, rfl⟩⟩
        | false =>
          go_enter Tryz.func128, Tryz.ntmps128
          go_wp2
          go_ret
          exact ⟨below_setCell BB.out B _ _ (Nat.le_refl _), .inr ⟨_, by rw [Pl.beh_store HK.out]; rfl, rfl, (SD true).out⟩⟩
    by_cases q5 : kd = 5
    · subst q5
      have p1 : ((5 : Int) == 1) = false := by decide
      have p2 : ((5 : Int) == 2) = false := by decide
      have p3 : ((5 : Int) == 3) = false := by decide
      have p4 : ((5 : Int) == 4) = false := by decide
      have p5 : ((5 : Int) == 5) = true := by decide
      clear q1 q2 q4
      cases i0 with
      | false =>
        go_enter Tryz.func128, Tryz.ntmps128
        go_wp2
        go_ret
        exact ⟨BB.out, .inl ⟨by rw [Pl.beh_drop HK.out]; simp, rfl⟩⟩
      | true =>
        go_enter Tryz.func128, Tryz.ntmps128
        go_wp2
        go_ret
        exact ⟨below_setCell BB.out B _ _ (Nat.le_refl _), .inr ⟨_, by rw [Pl.beh_drop HK.out]; rfl, rfl, (SI false).out⟩⟩
    by_cases q3 : ¬ kd = 3
    · have p1 : (kd == 1) = false := by simp [q1]
      have p2 : (kd == 2) = false := by simp [q2]
      have p3 : (kd == 3) = false := by simp [q3]
      have p4 : (kd == 4) = false := by simp [q4]
      have p5 : (kd == 5) = false := by simp [q5]
      have HE := Lib.hid (Pl.beh_else (g := g) (K := K) (v := v) q1 q2 q3 q4 q5)
      clear q1 q2 q3 q4 q5
      go_enter Tryz.func128, Tryz.ntmps128
      go_wp2
      go_ret
      exact ⟨BB.out, .inl ⟨HE.out, rfl⟩⟩
    obtain rfl := Classical.not_not.1 q3
    clear q3
    have p1 : ((3 : Int) == 1) = false := by decide
    have p2 : ((3 : Int) == 2) = false := by decide
    have p3 : ((3 : Int) == 3) = true := by decide
    clear q1 q2 q4 q5
    have HD : Hid (Pl.beh g K 3 v = none) := by show _ = _; cases hA : Pl.inAll g K v with
      | true => rw [Pl.beh_do HK.out hA]; simp
      | false => exact Pl.beh_do_miss HK.out hA
    go_enter Tryz.func128, Tryz.ntmps128
    go_wp2
    go_ret
    exact ⟨BB.out, .inl ⟨HD.out, rfl⟩⟩
  have t1 : (kk == 1) = false := by simp [e1]
  by_cases e2 : kk = 2
  · have t2 : (kk == 2) = true := by simp [e2]
    obtain rfl : r0 = true := by rw [HSR.out]; simp [e2]
    clear e1 e2 HSR
    by_cases q1 : kd = 1
    · subst q1
      have p1 : ((1 : Int) == 1) = true := by decide
      cases s0 with
      | false =>
        go_enter Tryz.func128, Tryz.ntmps128
        go_wp2
        go_ret
        exact ⟨BB.out, .inl ⟨by rw [Pl.beh_ask HK.out]; simp, rfl⟩⟩
      | true =>
        cases i0 with
        | true =>
          go_enter Tryz.func128, Tryz.ntmps128
          go_wp2
          go_ret
          exact ⟨BB.out, .inl ⟨by rw [Pl.beh_ask HK.out]; simp, rfl⟩⟩
        | false =>
          cases k0 with
          | true =>
            go_enter Tryz.func128, Tryz.ntmps128
            go_wp2
            go_ret
            exact ⟨BB.out, .inl ⟨by rw [Pl.beh_ask HK.out]; simp, rfl⟩⟩
          | false =>
            go_enter Tryz.func128, Tryz.ntmps128
            go_wp2
            go_ret
            exact ⟨below_setCell BB.out B _ _ (Nat.le_refl _), .inr ⟨_, by rw [Pl.beh_ask HK.out]; rfl, rfl, (SK true).out⟩⟩
    by_cases q2 : kd = 2
    · subst q2
      have p1 : ((2 : Int) == 1) = false := by decide
      have p2 : ((2 : Int) == 2) = true := by decide
      clear q1
      cases k0 with
      | false =>
        go_enter Tryz.func128, Tryz.ntmps128
        go_wp2
        go_ret
        exact ⟨BB.out, .inl ⟨by rw [Pl.beh_wait HK.out]; simp, rfl⟩⟩
      | true =>
        have fi : ((((w.alloc (.cells #[.slice (some ⟨bN, oN, none⟩) len cap] 56)).alloc (.cells #[.int .u8 2, .int .i64 v] 128))).setCell ⟨B, v * 3 + 1, none⟩ (.bool false)).frozen? ⟨B, v * 3, none⟩ = false := (World.frozen?_setCell _ _ _ _).trans fr0
        have ci0 : ((((w.alloc (.cells #[.slice (some ⟨bN, oN, none⟩) len cap] 56)).alloc (.cells #[.int .u8 2, .int .i64 v] 128))).setCell ⟨B, v * 3 + 1, none⟩ (.bool false)).cell? ⟨B, v * 3, none⟩ = some (.bool i0) := (set_off _ (by omega) _).trans b0
        go_enter Tryz.func128, Tryz.ntmps128
        go_wp2
        go_ret
        exact ⟨below_setCell (below_setCell BB.out B _ _ (Nat.le_refl _)) B _ _ (Nat.le_refl _), .inr ⟨_, by rw [Pl.beh_wait HK.out]; rfl, rfl, SKI.out.congr fun u _ => by unfold Pl.upd; split <;> simp_all⟩⟩
    by_cases q4 : kd = 4
    · subst q4
      have p1 : ((4 : Int) == 1) = false := by decide
      have p2 : ((4 : Int) == 2) = false := by decide
      have p3 : ((4 : Int) == 3) = false := by decide
      have p4 : ((4 : Int) == 4) = true := by decide
      clear q1 q2
      cases i0 with
      | false =>
        go_enter Tryz.func128, Tryz.ntmps128
        go_wp2
        go_ret
        exact ⟨BB.out, .inl ⟨by rw [Pl.beh_store HK.out]; simp, rfl⟩⟩
      | true =>
        cases s0 with
        | true =>
          go_enter Tryz.func128, Tryz.ntmps128
          go_wp2
          go_ret
          exact ⟨BB.out, .inl ⟨by rw [Pl.beh_store HK.out]; simp, rfl⟩⟩
        | false =>
          go_enter Tryz.func128, Tryz.ntmps128
          go_wp2
          go_ret
          exact ⟨below_setCell BB.out B _ _ (Nat.le_refl _), .inr ⟨_, by rw [Pl.beh_store HK.out]; rfl, rfl, (SD true).out⟩⟩
    by_cases q5 : kd = 5
    · subst q5
      have p1 : ((5 : Int) == 1) = false := by decide
      have p2 : ((5 : Int) == 2) = false := by decide
      have p3 : ((5 : Int) == 3) = false := by decide
      have p4 : ((5 : Int) == 4) = false := by decide
      have p5 : ((5 : Int) == 5) = true := by decide
      clear q1 q2 q4
      cases i0 with
      | false =>
        go_enter Tryz.func128, Tryz.ntmps128
        go_wp2
        go_ret
        exact ⟨BB.out, .inl ⟨by rw [Pl.beh_drop HK.out]; simp, rfl⟩⟩
      | true =>
        go_enter Tryz.func128, Tryz.ntmps128
        go_wp2
        go_ret
        exact ⟨below_setCell BB.out B _ _ (Nat.le_refl _), .inr ⟨_, by rw [Pl.beh_drop HK.out]; rfl, rfl, (SI false).out⟩⟩
    by_cases q3 : ¬ kd = 3
    · have p1 : (kd == 1) = false := by simp [q1]
      have p2 : (kd == 2) = false := by simp [q2]
      have p3 : (kd == 3) = false := by simp [q3]
      have p4 : (kd == 4) = false := by simp [q4]
      have p5 : (kd == 5) = false := by simp [q5]
      have HE := Lib.hid (Pl.beh_else (g := g) (K := K) (v := v) q1 q2 q3 q4 q5)
      clear q1 q2 q3 q4 q5
      go_enter Tryz.func128, Tryz.ntmps128
      go_wp2
      go_ret
      exact ⟨BB.out, .inl ⟨HE.out, rfl⟩⟩
    obtain rfl := Classical.not_not.1 q3
    clear q3
    have p1 : ((3 : Int) == 1) = false := by decide
    have p2 : ((3 : Int) == 2) = false := by decide
    have p3 : ((3 : Int) == 3) = true := by decide
    clear q1 q2 q4 q5
    have HD : Hid (Pl.beh g K 3 v = none) := by show _ = _; cases hA : Pl.inAll g K v with
      | true => rw [Pl.beh_do HK.out hA]; simp
      | false => exact Pl.beh_do_miss HK.out hA
    go_enter Tryz.func128, Tryz.ntmps128
    go_wp2
    go_ret
    exact ⟨BB.out, .inl ⟨HD.out, rfl⟩⟩
  have t2 : (kk == 2) = false := by simp [e2]
  obtain rfl : r0 = false := by rw [HSR.out]; simp [e1, e2]
  clear e1 e2 HSR
  by_cases q1 : kd = 1
  · subst q1
    have p1 : ((1 : Int) == 1) = true := by decide
    cases s0 with
    | false =>
      go_enter Tryz.func128, Tryz.ntmps128
      go_wp2
      go_ret
      exact ⟨BB.out, .inl ⟨by rw [Pl.beh_ask HK.out]; simp, rfl⟩⟩
    | true =>
      cases i0 with
      | true =>
        go_enter Tryz.func128, Tryz.ntmps128
        go_wp2
        go_ret
        exact ⟨BB.out, .inl ⟨by rw [Pl.beh_ask HK.out]; simp, rfl⟩⟩
      | false =>
        cases k0 with
        | true =>
          go_enter Tryz.func128, Tryz.ntmps128
          go_wp2
          go_ret
          exact ⟨BB.out, .inl ⟨by rw [Pl.beh_ask HK.out]; simp, rfl⟩⟩
        | false =>
          go_enter Tryz.func128, Tryz.ntmps128
          go_wp2
          go_ret
          exact ⟨below_setCell BB.out B _ _ (Nat.le_refl _), .inr ⟨_, by rw [Pl.beh_ask HK.out]; rfl, rfl, (SK true).out⟩⟩
  by_cases q2 : kd = 2
  · subst q2
    have p1 : ((2 : Int) == 1) = false := by decide
    have p2 : ((2 : Int) == 2) = true := by decide
    clear q1
    cases k0 with
    | false =>
      go_enter Tryz.func128, Tryz.ntmps128
      go_wp2
      go_ret
      exact ⟨BB.out, .inl ⟨by rw [Pl.beh_wait HK.out]; simp, rfl⟩⟩
    | true =>
      have fi : ((((w.alloc (.cells #[.slice (some ⟨bN, oN, none⟩) len cap] 56)).alloc (.cells #[.int .u8 2, .int .i64 v] 128))).setCell ⟨B, v * 3 + 1, none⟩ (.bool false)).frozen? ⟨B, v * 3, none⟩ = false := (World.frozen?_setCell _ _ _ _).trans fr0
      have ci0 : ((((w.alloc (.cells #[.slice (some ⟨bN, oN, none⟩) len cap] 56)).alloc (.cells #[.int .u8 2, .int .i64 v] 128))).setCell ⟨B, v * 3 + 1, none⟩ (.bool false)).cell? ⟨B, v * 3, none⟩ = some (.bool i0) := (set_off _ (by omega) _).trans b0
      go_enter Tryz.func128, Tryz.ntmps128
      go_wp2
      go_ret
      exact ⟨below_setCell (below_setCell BB.out B _ _ (Nat.le_refl _)) B _ _ (Nat.le_refl _), .inr ⟨_, by rw [Pl.beh_wait HK.out]; rfl, rfl, SKI.out.congr fun u _ => by unfold Pl.upd; split <;> simp_all⟩⟩
  by_cases q4 : kd = 4
  · subst q4
    have p1 : ((4 : Int) == 1) = false := by decide
    have p2 : ((4 : Int) == 2) = false := by decide
    have p3 : ((4 : Int) == 3) = false := by decide
    have p4 : ((4 : Int) == 4) = true := by decide
    clear q1 q2
    cases i0 with
    | false =>
      go_enter Tryz.func128, Tryz.ntmps128
      go_wp2
      go_ret
      exact ⟨BB.out, .inl ⟨by rw [Pl.beh_store HK.out]; simp, rfl⟩⟩
    | true =>
      cases s0 with
      | true =>
        go_enter Tryz.func128, Tryz.ntmps128
        go_wp2
        go_ret
        exact ⟨BB.out, .inl ⟨by rw [Pl.beh_store HK.out]; simp, rfl⟩⟩
      | false =>
        go_enter Tryz.func128, Tryz.ntmps128
        go_wp2
        go_ret
        exact ⟨below_setCell BB.out B _ _ (Nat.le_refl _), .inr ⟨_, by rw [Pl.beh_store HK.out]; rfl, rfl, (SD true).out⟩⟩
  by_cases q5 : kd = 5
  · subst q5
    have p1 : ((5 : Int) == 1) = false := by decide
    have p2 : ((5 : Int) == 2) = false := by decide
    have p3 : ((5 : Int) == 3) = false := by decide
    have p4 : ((5 : Int) == 4) = false := by decide
    have p5 : ((5 : Int) == 5) = true := by decide
    clear q1 q2 q4
    cases i0 with
    | false =>
      go_enter Tryz.func128, Tryz.ntmps128
      go_wp2
      go_ret
      exact ⟨BB.out, .inl ⟨by rw [Pl.beh_drop HK.out]; simp, rfl⟩⟩
    | true =>
      go_enter Tryz.func128, Tryz.ntmps128
      go_wp2
      go_ret
      exact ⟨below_setCell BB.out B _ _ (Nat.le_refl _), .inr ⟨_, by rw [Pl.beh_drop HK.out]; rfl, rfl, (SI false).out⟩⟩
  by_cases q3 : ¬ kd = 3
  · have p1 : (kd == 1) = false := by simp [q1]
    have p2 : (kd == 2) = false := by simp [q2]
    have p3 : (kd == 3) = false := by simp [q3]
    have p4 : (kd == 4) = false := by simp [q4]
    have p5 : (kd == 5) = false := by simp [q5]
    have HE := Lib.hid (Pl.beh_else (g := g) (K := K) (v := v) q1 q2 q3 q4 q5)
    clear q1 q2 q3 q4 q5
    go_enter Tryz.func128, Tryz.ntmps128
    go_wp2
    go_ret
    exact ⟨BB.out, .inl ⟨HE.out, rfl⟩⟩
  obtain rfl := Classical.not_not.1 q3
  clear q3
  have p1 : ((3 : Int) == 1) = false := by decide
  have p2 : ((3 : Int) == 2) = false := by decide
  have p3 : ((3 : Int) == 3) = true := by decide
  clear q1 q2 q4 q5
  cases i0 with
  | true =>
    have HD : Hid (Pl.beh g K 3 v = none) := by show _ = _; cases hA : Pl.inAll g K v with
      | true => rw [Pl.beh_do HK.out hA]; simp
      | false => exact Pl.beh_do_miss HK.out hA
    go_enter Tryz.func128, Tryz.ntmps128
    go_wp2
    go_ret
    exact ⟨BB.out, .inl ⟨HD.out, rfl⟩⟩
  | false =>
    cases k0 with
    | true =>
      have HD : Hid (Pl.beh g K 3 v = none) := by show _ = _; cases hA : Pl.inAll g K v with
        | true => rw [Pl.beh_do HK.out hA]; simp
        | false => exact Pl.beh_do_miss HK.out hA
      go_enter Tryz.func128, Tryz.ntmps128
      go_wp2
      go_ret
      exact ⟨BB.out, .inl ⟨HD.out, rfl⟩⟩
    | false =>
      go_enter Tryz.func128, Tryz.ntmps128
      go_wp2
      go_loop [9] (fun i => ∃ k : Nat, k ≤ li ∧ i = .int .i64 k ∧ Hid (∀ j, j < k → (K (nth (nodeN g v).inn j).toNat).inn = true)) (fun i => li - (intOf i).toNat)
      case atStart => exact ⟨0, Nat.zero_le _, rfl, fun j hj => absurd hj (Nat.not_lt_zero _)⟩
      case round =>
        obtain ⟨k, hk, rfl, HT⟩ := hrel
        by_cases hlt : k < li
        · have dkl : decide ((k : Int) < (li : Int)) = true := decide_eq_true (by omega)
          obtain ⟨b, off, rfl, _, hc⟩ := HVI.out.at_ (by omega)
          have hck := hc k hlt
          obtain ⟨u0, u1⟩ := HI.out _ (nth_mem (nodeN g v).inn k (by rw [HVL.out]; exact hlt))
          obtain ⟨n, hn⟩ : ∃ n : Nat, nth (nodeN g v).inn k = (n : Int) := ⟨(nth (nodeN g v).inn k).toNat, by omega⟩
          rw [hn] at hck u1
          have kz := (KB.out.at_ n (by omega)).1
          have hnl : n < len := by omega
          cases hi : (K n).inn with
          | true =>
            rw [hi] at kz
            have HNX : Hid (∀ j, j < k + 1 → (K (nth (nodeN g v).inn j).toNat).inn = true) := fun j hj => by
              by_cases e : j = k
              · subst e; rw [hn, Int.toNat_natCast]; exact hi
              · exact HT.out j (by omega)
            clear hc hn hi
            go_wp2
            go_round
            case rel => exact ⟨k + 1, by omega, by go_num, HNX⟩
            case measure => simp [intOf]; omega
          | false =>
            rw [hi] at kz
            have HM : Hid (Pl.inAll g K v = false) := Pl.inAll_miss (by rw [HVL.out]; exact hlt) (by rw [hn, Int.toNat_natCast]; exact hi)
            clear hc hn hi
            go_wp2
            go_ret
            exact ⟨BB.out, .inl ⟨Pl.beh_do_miss HK.out HM.out, rfl⟩⟩
        · have dkl : decide ((k : Int) < (li : Int)) = false := decide_eq_false (by omega)
          have HA : Hid (Pl.inAll g K v = true) := Pl.inAll_all (fun j hj => HT.out j (by rw [HVL.out] at hj; omega))
          go_wp2
          go_ret
          exact ⟨below_setCell BB.out B _ _ (Nat.le_refl _), .inr ⟨_, by rw [Pl.beh_do HK.out HA.out]; rfl, rfl, (SI true).out⟩⟩
end Go.Proofs.YtekejcnphmnidaaGreatDoor

namespace Go.Proofs.YtekejcnphmnidaaGreatDoor
open Go.RowKit
theorem Tryz.under136 : Tryz.prog.underlying 136 = some (.slice 138) := by kernel_rfl
theorem Tryz.inf138 : (Tryz.prog.info? 138).map (fun i => (i.zero, i.size, i.bytes)) = some (some (.agg #[.bool false, .bool false, .bool false]), 3, 3) := by kernel_rfl
theorem made_at (n j : Nat) (h : j < n * 3) : (madeCells (Value.agg #[.bool false, .bool false, .bool false]).cells (n * 3)).toList[j]? = some (.bool false) := by
  have e : (Value.agg #[.bool false, .bool false, .bool false]).cells = #[.bool false, .bool false, .bool false] := by first | rfl | simp [Value.cells] | go_simp
  rw [e]
  unfold madeCells
  rw [Array.getElem?_toList, Array.getElem?_map, Array.getElem?_range]
  have h3 : j % 3 < 3 := Nat.mod_lt _ (by omega)
  simp only [h, if_true, Option.map_some]
  rcases (by omega : j % 3 = 0 ∨ j % 3 = 1 ∨ j % 3 = 2) with e | e | e <;> simp [e]
namespace Pl
theorem beh_src {g : List Gr.Node} {K : Nat → Kn} {kd : Int} {v : Nat} {k : Kn} (h : beh g K kd v = some k) : k.src = (K v).src := by
  unfold beh at h
  repeat' split at h
  all_goals first
    | (cases h; rfl)
    | cases h
end Pl
theorem rnbox_new {w : World} {base n : Nat} {B : Nat} {xs : List Value} (h : w.ownsRow base 138 3 (.slice (some ⟨B, 0, none⟩) n n) n xs) (hx : ∀ j, j < n * 3 → xs[j]? = some (.bool false)) (K : Nat → Pl.Kn) (hK : ∀ v, v < n → K v = ⟨false, false, false, false⟩) : RnBox w B n K := by
  rcases RowV.of_owns h with ⟨h1, _⟩ | ⟨g, off, cap, h1, h2⟩
  · cases h1
  · cases h1
    refine ⟨h2.lt, fun o ho => ?_, fun v hv => ?_⟩
    · have := (h2.all o ho).2; rwa [Nat.zero_add] at this
    · have c0 := h2.cell _ _ (hx (v * 3) (by omega))
      have c1 := h2.cell _ _ (hx (v * 3 + 1) (by omega))
      have c2 := h2.cell _ _ (hx (v * 3 + 2) (by omega))
      rw [Nat.zero_add] at c0 c1 c2
      rw [hK v hv]
      exact ⟨c0, c1, c2⟩
set_option maxHeartbeats 4000000 in
set_option maxRecDepth 100000 in
theorem rchk_any (a : Option Addr) (len cap : Nat) (g : List Gr.Node) (room : Int) (aL : Option Addr) (lL cL : Nat) (l : List (Int × Int)) (w : World) (HN : Nodes w a len cap g) (HL : StepsIn w aL lL cL l) :
    Calls Tryz.prog 41 #[.agg #[.slice a len cap], .int .i64 room, .slice aL lL cL] w fun e w' => e = .returned (.tuple #[.int .i64 (Pl.chkF g room l).1, .bool (Pl.chkF g room l).2]) ∧ Below w.heap.size w w' := by
  obtain ⟨i0, hi0, hz0, hz1, hz2⟩ := info_parts Tryz.inf138
  have LN := Lib.hid HN.length
  have KL := Lib.hid HL
  have LL := Lib.hid HL.length
  have hLle := HL.le
  have hLcl := HL.cap_le
  have hle := HN.le
  have hcl := HN.cap_le
  have K0 := Lib.hid (GSt.start HN)
  clear HN HL
  go_enter Tryz.func41, Tryz.ntmps41
  go_wp2_with fail
  refine (rCheck_any _ _ _ g _ K0.out.n).mono ?_
  rintro e w1 ⟨rfl, hb⟩
  have K1 := Lib.hid (K0.out.on hb)
  have c1 := K1.out.cell
  clear hb K0
  cases hsm : (Gr.shapes g).isSome with
  | false =>
    have HR : Hid (Pl.chkF g room l = (0, false)) := by
      show _ = _
      unfold Pl.chkF
      rw [show Gr.shapes g = none by cases h : Gr.shapes g with
        | none => rfl
        | some s => rw [h] at hsm; cases hsm]
    clear hsm
    go_wp2
    go_ret2
    exact ⟨by rw [HR.out]; rfl, K1.out.bel⟩
  | true =>
    obtain ⟨s, hs⟩ := Option.isSome_iff_exists.1 hsm
    have HS := Lib.hid hs
    obtain ⟨⟨hl1, hl2⟩, _, _⟩ := Gr.shapes_iff.1 hs
    rw [LN.out] at hl1 hl2
    clear hsm hs
    by_cases r0 : room < 0
    · have d0 : decide (room < 0) = true := decide_eq_true r0
      have HR : Hid (Pl.chkF g room l = (0, false)) := by
        show _ = _
        unfold Pl.chkF
        rw [HS.out]
        exact if_pos (.inl r0)
      go_wp2
      go_ret2
      exact ⟨by rw [HR.out]; rfl, K1.out.bel⟩
    have d0 : decide (room < 0) = false := decide_eq_false r0
    by_cases r1 : 1048576 < room
    · have d1 : decide (room > 1048576) = true := decide_eq_true r1
      have HR : Hid (Pl.chkF g room l = (0, false)) := by
        show _ = _
        unfold Pl.chkF
        rw [HS.out]
        exact if_pos (.inr r1)
      go_wp2
      go_ret2
      exact ⟨by rw [HR.out]; rfl, K1.out.bel⟩
    have d1 : decide (room > 1048576) = false := decide_eq_false r1
    have HC0 : Hid (Pl.chkF g room l = Pl.runC g (fun u => nth (Pl.bytesOf g s) u) room 0 (Pl.kn0 g) l) := Pl.chk_some HS.out ⟨by omega, by omega⟩ l
    go_wp2_with fail
    refine (rcof_any _ _ _ g _ K1.out.n).mono ?_
    rintro e w2 ⟨hb, ⟨hs, _⟩ | ⟨s', v, base, hs, _, rfl, h1⟩⟩
    · rw [HS.out] at hs; cases hs
    obtain rfl : s' = s := by rw [HS.out] at hs; exact (Option.some.inj hs).symm
    obtain ⟨aC, lC, cC, rfl, hC, _⟩ := h1.costs
    have hlC : lC = g.length := by rw [← hC.length]; exact Co.costsK_length _ _ _
    obtain rfl : lC = len := by rw [hlC]; exact LN.out
    have hCle := hC.le
    have hCcl := hC.cap_le
    have K2 := Lib.hid (K1.out.on hb)
    have c2 := K2.out.cell
    have HC2 := Lib.hid hC
    have HWW := Lib.hid K2.out.bel.size
    have HZW := Lib.hid K2.out.lt
    clear hb hs hC hlC h1 c1 K1
    go_wp2_with (at_make; refine wpList_make_full _ rfl _ _ 136 rfl w2.heap.size 138 i0 _ 3 Tryz.under136 hi0 hz0 hz1 .i64 .i64 _ _ lC rfl rfl rfl rfl (by rw [hz2]; omega) (by unfold maxLen; omega) (Nat.le_refl _) ?_)
    intro w3 hown hgrow
    have HKB : Hid (RnBox w3 w2.heap.size lC (Pl.kfill g 0)) := rnbox_new hown (fun j hj => made_at lC j hj) _ (fun v _ => (Pl.kfill_zero g v).symm)
    have HBW : Hid (Below w2.heap.size w2 w3) := (Below.refl _ _).grown hgrow (Nat.le_refl _) (fun k hk => nomatch hk)
    clear hown hgrow c2
    go_wp2
    go_loopg [11] lC (fun gg i wr => ∃ k : Nat, k ≤ lC ∧ lC - k ≤ gg ∧ i = .int .i64 k ∧ Hid (RnBox wr w2.heap.size lC (Pl.kfill g k)) ∧ Hid (Below w2.heap.size w2 wr))
    case atStart => exact ⟨0, Nat.zero_le _, by omega, rfl, HKB, HBW⟩
    case round =>
      obtain ⟨k, hk, hg, rfl, HKr, HWr⟩ := hrel
      have Kr := Lib.hid (K2.out.on HWr.out)
      have cr := Kr.out.cell
      by_cases hlt : k < lC
      · obtain ⟨b, off, ai, li, ci, sa, ls, cs, rfl, _, n0, n1, n2, n3, n4, hV⟩ := Kr.out.n.get (Below.refl _ wr) hlt
        obtain ⟨z0, z1, z2⟩ := HKr.out.at_ k hlt
        have f2 := HKr.out.fr (k * 3 + 2) (by omega)
        have HS4 := fun x => Lib.hid (HKr.out.setDisk hlt x)
        have HB4 := fun x => Lib.hid (below_setCell HWr.out w2.heap.size (k * 3 + 2) (.bool x) (Nat.le_refl _))
        have HSR : Hid (Pl.srcB (nodeN g k) = (decide ((nodeN g k).kind = 1) || decide ((nodeN g k).kind = 2))) := rfl
        have HNX : Hid (∀ v, (Pl.kfill g (k + 1) v).inn = (Pl.upd (Pl.kfill g k) k ⟨(Pl.kfill g k k).inn, (Pl.kfill g k k).asked, Pl.srcB (nodeN g k), (Pl.kfill g k k).src⟩ v).inn ∧ (Pl.kfill g (k + 1) v).asked = (Pl.upd (Pl.kfill g k) k ⟨(Pl.kfill g k k).inn, (Pl.kfill g k k).asked, Pl.srcB (nodeN g k), (Pl.kfill g k k).src⟩ v).asked ∧ (Pl.kfill g (k + 1) v).disk = (Pl.upd (Pl.kfill g k) k ⟨(Pl.kfill g k k).inn, (Pl.kfill g k k).asked, Pl.srcB (nodeN g k), (Pl.kfill g k k).src⟩ v).disk) := fun v => by
          rw [← Pl.kfill_next]
          have e0 : (Pl.kfill g k k).inn = false := by unfold Pl.kfill; rw [if_neg (by omega)]
          have e1 : (Pl.kfill g k k).asked = false := by unfold Pl.kfill; rw [if_neg (by omega)]
          rw [e0, e1]
          unfold Pl.upd
          split <;> exact ⟨rfl, rfl, rfl⟩
        clear hV n1 n2 n3 n4
        have dkl : decide ((k : Int) < (lC : Int)) = true := decide_eq_true (by omega)
        have hkl : (k : Int) < (lC : Int) := by omega
        generalize (nodeN g k).kind = kd at *
        by_cases e1 : kd = 1
        · have q1 : (kd == 1) = true := by simp [e1]
          have hsr : Pl.srcB (nodeN g k) = true := by rw [HSR.out]; simp [e1]
          have HKN := Lib.hid ((HS4 true).out.congr (fun v _ => by have := HNX.out v; rw [hsr] at this; exact this))
          have HBN := HB4 true
          clear e1 hsr
          go_wp2
          go_roundg (lC - (k + 1))
          case measure => exact Nat.lt_of_lt_of_le (Nat.sub_lt_sub_left hlt (Nat.lt_succ_self k)) hg
          case rel => exact ⟨k + 1, Nat.succ_le_of_lt hlt, Nat.le_refl _, by go_num, HKN, HBN⟩
        have q1 : (kd == 1) = false := by simp [e1]
        by_cases e2 : kd = 2
        · have q2 : (kd == 2) = true := by simp [e2]
          have hsr : Pl.srcB (nodeN g k) = true := by rw [HSR.out]; simp [e2]
          have HKN := Lib.hid ((HS4 true).out.congr (fun v _ => by have := HNX.out v; rw [hsr] at this; exact this))
          have HBN := HB4 true
          clear e1 e2 hsr
          go_wp2
          go_roundg (lC - (k + 1))
          case measure => exact Nat.lt_of_lt_of_le (Nat.sub_lt_sub_left hlt (Nat.lt_succ_self k)) hg
          case rel => exact ⟨k + 1, Nat.succ_le_of_lt hlt, Nat.le_refl _, by go_num, HKN, HBN⟩
        have q2 : (kd == 2) = false := by simp [e2]
        have hsr : Pl.srcB (nodeN g k) = false := by rw [HSR.out]; simp [e1, e2]
        have HKN := Lib.hid ((HS4 false).out.congr (fun v _ => by have := HNX.out v; rw [hsr] at this; exact this))
        have HBN := HB4 false
        clear e1 e2 hsr
        go_wp2
        go_roundg (lC - (k + 1))
        case measure => exact Nat.lt_of_lt_of_le (Nat.sub_lt_sub_left hlt (Nat.lt_succ_self k)) hg
        case rel => exact ⟨k + 1, Nat.succ_le_of_lt hlt, Nat.le_refl _, by go_num, HKN, HBN⟩
      · have dkl : decide ((k : Int) < (lC : Int)) = false := decide_eq_false (by omega)
        obtain rfl : k = lC := by omega
        have HK4 : Hid (RnBox wr w2.heap.size k (Pl.kn0 g)) := HKr.out.congr (fun v _ => by
          have := Pl.kfill_all g v
          rw [LN.out] at this
          rw [this]; exact ⟨rfl, rfl, rfl⟩)
        have HSRC : Hid (∀ v, (Pl.kn0 g v).src = Pl.srcB (nodeN g v)) := fun v => rfl
        have HC4 : Hid (Pl.chkF g room l = Pl.runC g (fun u => nth (Pl.bytesOf g s') u) room 0 (Pl.kn0 g) (l.drop 0)) := by show _ = _; rw [HC0.out]; rfl
        have HBY : Hid (∀ i, i < k → 0 ≤ nth (Pl.bytesOf g s') i ∧ nth (Pl.bytesOf g s') i ≤ 20000) := fun i hi => by
          rw [Pl.bytes_at (by rw [LN.out]; exact hi)]
          have := Co.size_bounds HS.out (i := i) (by rw [LN.out]; exact hi)
          omega
        have HIN : Hid (∀ i, i < k → ∀ u ∈ (nodeN g i).inn, 0 ≤ u ∧ u < k) := fun i hi u hu => by
          have := (Co.inn_of HS.out (i := i) (by rw [LN.out]; exact hi)).2 u hu
          omega
        clear HKr HKB HBW HC0 dkl hlt cr
        go_wp2
        go_loopg [12] lL (fun gg i wx => ∃ (j : Nat) (K : Nat → Pl.Kn), j ≤ lL ∧ lL - j ≤ gg ∧ i = .int .i64 j ∧ Hid (RnBox wx w2.heap.size k K) ∧ Hid (Below w2.heap.size w2 wx) ∧ Hid (∀ v, (K v).src = Pl.srcB (nodeN g v)) ∧ Hid (Pl.chkF g room l = Pl.runC g (fun u => nth (Pl.bytesOf g s') u) room j K (l.drop j)))
        case atStart => exact ⟨0, _, Nat.zero_le _, by omega, rfl, HK4, HWr, HSRC, HC4⟩
        case round =>
          rename World => wx
          obtain ⟨j, K, hj, hgj, rfl, HKx, HWx, HSx, HCx⟩ := hrel
          have Kx := Lib.hid (K2.out.on HWx.out)
          have cx := Kx.out.cell
          by_cases hlt : j < lL
          · have djl : decide ((j : Int) < (lL : Int)) = true := decide_eq_true (by omega)
            have hjl : j < l.length := by rw [LL.out]; exact hlt
            have hj64 : (j : Int) < (lL : Int) := by omega
            obtain ⟨b, off, eL, hbl, hc⟩ := KL.out.at_ (by omega)
            subst eL
            obtain ⟨c0, c1⟩ := hc j hlt
            replace c0 := (Kx.out.bel.cell (p := ⟨b, _, none⟩) hbl).trans c0
            replace c1 := (Kx.out.bel.cell (p := ⟨b, _, none⟩) hbl).trans c1
            have hCR := HCx.out
            rw [Pl.runC_drop hjl] at hCR
            have HCR := Lib.hid hCR
            clear hc hCR hjl
            generalize stepN l j = st at *
            obtain ⟨kd, v⟩ := st
            simp only at c0 c1
            by_cases e1 : v < 0
            · have d1 : decide (v < 0) = true := decide_eq_true e1
              have HR : Hid (Pl.chkF g room l = ((j : Int), false)) := by
                show _ = _
                rw [HCR.out, show Pl.stepK g K (kd, v) = none from if_pos (.inl e1)]
              clear e1
              go_wp2_with fail
              go_quiet (fail)
              have HKE : Hid (Below w.heap.size w (wx.drewN nq)) := Kx.out.bel.trans (below_drewN wx nq _)
              go_wp2
              go_ret2
              exact ⟨by rw [HR.out]; rfl, HKE.out⟩
            have d1 : decide (v < 0) = false := decide_eq_false e1
            by_cases e2 : (k : Int) ≤ v
            · have d2 : decide (v ≥ (k : Int)) = true := decide_eq_true e2
              have HR : Hid (Pl.chkF g room l = ((j : Int), false)) := by
                show _ = _
                rw [HCR.out, show Pl.stepK g K (kd, v) = none from if_pos (.inr (by rw [LN.out]; exact e2))]
              clear e1 e2
              go_wp2_with fail
              go_quiet (fail)
              have HKE : Hid (Below w.heap.size w (wx.drewN nq)) := Kx.out.bel.trans (below_drewN wx nq _)
              go_wp2
              go_ret2
              exact ⟨by rw [HR.out]; rfl, HKE.out⟩
            have d2 : decide (v ≥ (k : Int)) = false := decide_eq_false e2
            obtain ⟨n, rfl⟩ : ∃ n : Nat, v = (n : Int) := ⟨v.toNat, by omega⟩
            have hn : n < k := by omega
            have d2' : decide ((k : Int) ≤ (n : Int)) = false := decide_eq_false (by omega)
            have HBE : Hid (∀ wy, Below wx.heap.size wx wy → Calls Tryz.prog 128 #[.agg #[.slice a k cap], .slice (some ⟨w2.heap.size, 0, none⟩) k k, .agg #[.int .u8 kd, .int .i64 n]] wy fun e w' => MayE g K kd n w2.heap.size k wy e w') := fun wy hy => by
              have Ky := Kx.out.on hy
              exact rmay_any a k cap g w2.heap.size k K kd n wy Ky.n (HKx.out.below hy) (by omega) (Nat.le_refl _) (by omega) hn (HIN.out n hn) (HSx.out n)
            clear e1 e2
            cases hbe : Pl.beh g K kd n with
            | none =>
              have HR : Hid (Pl.chkF g room l = ((j : Int), false)) := by
                show _ = _
                rw [HCR.out, show Pl.stepK g K (kd, (n : Int)) = none by
                  unfold Pl.stepK
                  rw [if_neg (by simp only [LN.out]; omega)]
                  simp only [Int.toNat_natCast, hbe]]
              have HBN : Hid (∀ wy, Below wx.heap.size wx wy → Calls Tryz.prog 128 #[.agg #[.slice a k cap], .slice (some ⟨w2.heap.size, 0, none⟩) k k, .agg #[.int .u8 kd, .int .i64 n]] wy fun e w' => e = .returned (.bool false) ∧ Below w2.heap.size wy w') := fun wy hy => by
                refine (HBE.out wy hy).mono ?_
                rintro e w' ⟨hb, ⟨_, rfl⟩ | ⟨kk, h, _⟩⟩
                · exact ⟨rfl, hb⟩
                · rw [hbe] at h; cases h
              clear hbe HBE
              have hbk : b < w2.heap.size := Nat.lt_of_lt_of_le hbl HWW.out
              have hzw := HZW.out
              go_wp2_with fail
              go_still_tail 23, (by kernel_rfl)
              change wpList _ _ _ _ _ wx.drew
              go_wp2_with fail
              refine (HBN.out _ ((Below.refl _ _).drew)).mono ?_
              rintro e w6 ⟨rfl, hb6⟩
              have HKE : Hid (Below w.heap.size w w6) := (K2.out.on (HWx.out.drew.trans hb6)).bel
              clear hb6
              go_wp2
              go_ret2
              exact ⟨by rw [HR.out]; rfl, HKE.out⟩
            | some kk =>
              have HST : Hid (Pl.stepK g K (kd, (n : Int)) = some (Pl.upd K n kk)) := Pl.stepK_of (by rw [LN.out]; exact hn) hbe
              have HSK : Hid (∀ v, (Pl.upd K n kk v).src = Pl.srcB (nodeN g v)) := fun v => by
                by_cases e : v = n
                · subst e; rw [Pl.upd_at, Pl.beh_src hbe]; exact HSx.out v
                · rw [Pl.upd_ne _ _ _ e]; exact HSx.out v
              have HBN : Hid (∀ wy, Below wx.heap.size wx wy → Calls Tryz.prog 128 #[.agg #[.slice a k cap], .slice (some ⟨w2.heap.size, 0, none⟩) k k, .agg #[.int .u8 kd, .int .i64 n]] wy fun e w' => e = .returned (.bool true) ∧ RnBox w' w2.heap.size k (Pl.upd K n kk) ∧ Below w2.heap.size wy w') := fun wy hy => by
                refine (HBE.out wy hy).mono ?_
                rintro e w' ⟨hb, ⟨h, _⟩ | ⟨k3, h, rfl, hx⟩⟩
                · rw [hbe] at h; cases h
                · rw [hbe] at h; cases h; exact ⟨rfl, hx, hb⟩
              clear hbe HBE
              go_wp2_with fail
              go_still_tail 23, (by kernel_rfl)
              change wpList _ _ _ _ _ wx.drew
              go_wp2_with fail
              refine (HBN.out _ ((Below.refl _ _).drew)).mono ?_
              rintro e w6 ⟨rfl, hx6, hb6⟩
              have HK6 := Lib.hid hx6
              have HW6 : Hid (Below w2.heap.size w2 w6) := HWx.out.drew.trans hb6
              clear hb6 hx6 c0 c1 cx
              go_wp2
              go_loopg [13, 14, 15] k (fun gg u q i wv => ∃ (m : Nat) (us ak : Int), m ≤ k ∧ k - m ≤ gg ∧ i = .int .i64 m ∧ u = .int .i64 us ∧ q = .int .i64 ak ∧ (0 ≤ us ∧ us ≤ 20000 * (m : Int)) ∧ (0 ≤ ak ∧ ak ≤ (m : Int)) ∧ Hid (us = Pl.usedK (fun u => nth (Pl.bytesOf g s') u) (Pl.upd K n kk) m) ∧ Hid (ak = Pl.askedK (Pl.upd K n kk) m) ∧
                Hid (RnBox wv w2.heap.size k (Pl.upd K n kk)) ∧ Hid (Below w2.heap.size w2 wv))
              case atStart => exact ⟨0, 0, 0, Nat.zero_le _, by omega, rfl, rfl, rfl, by omega, by omega, rfl, rfl, HK6, HW6⟩
              case round =>
                rename World => wv
                obtain ⟨m, us, ak, hm, hgm, rfl, rfl, rfl, hus, hak, HUS, HAK, HKv, HWv⟩ := hrel
                by_cases hltm : m < k
                · have dmk : decide ((m : Int) < (k : Int)) = true := decide_eq_true (by omega)
                  have hmk : (m : Int) < (k : Int) := by omega
                  obtain ⟨z0, z1, z2⟩ := HKv.out.at_ m hltm
                  obtain ⟨hy0, hy1⟩ := HBY.out m hltm
                  obtain ⟨bC, oC, eC, hbC, hcC⟩ := (HC2.out.below HWv.out).at_ (by omega)
                  cases eC
                  have kC := (hcC m hltm).1
                  rw [← Pl.bytes_nth (by rw [LN.out]; exact hltm)] at kC
                  have HU : Hid (Pl.usedK (fun u => nth (Pl.bytesOf g s') u) (Pl.upd K n kk) (m + 1) = Pl.usedK (fun u => nth (Pl.bytesOf g s') u) (Pl.upd K n kk) m + (if ((Pl.upd K n kk m).inn || (Pl.upd K n kk m).asked) = true then nth (Pl.bytesOf g s') m else 0)) := rfl
                  have HA : Hid (Pl.askedK (Pl.upd K n kk) (m + 1) = Pl.askedK (Pl.upd K n kk) m + (if (Pl.upd K n kk m).asked = true then 1 else 0)) := rfl
                  clear hcC
                  generalize (Pl.upd K n kk m).inn = i0 at *
                  generalize (Pl.upd K n kk m).asked = k0 at *
                  generalize (Pl.upd K n kk m).disk = s0 at *
                  generalize nth (Pl.bytesOf g s') m = bm at *
                  cases k0 with
                  | true =>
                    have HU2 := Lib.hid (show us + bm = Pl.usedK (fun u => nth (Pl.bytesOf g s') u) (Pl.upd K n kk) (m + 1) by rw [HU.out, HUS.out]; simp)
                    have HA2 := Lib.hid (show ak + 1 = Pl.askedK (Pl.upd K n kk) (m + 1) by rw [HA.out, HAK.out]; simp)
                    cases i0 with
                    | true =>
                      clear HU HA
                      go_wp2
                      go_roundg (k - (m + 1))
                      case measure => exact Nat.lt_of_lt_of_le (Nat.sub_lt_sub_left hltm (Nat.lt_succ_self m)) hgm
                      case rel => exact ⟨m + 1, _, _, Nat.succ_le_of_lt hltm, Nat.le_refl _, by go_num, rfl, rfl, by omega, by omega, HU2, HA2, HKv, HWv⟩
                    | false =>
                      clear HU HA
                      go_wp2
                      go_roundg (k - (m + 1))
                      case measure => exact Nat.lt_of_lt_of_le (Nat.sub_lt_sub_left hltm (Nat.lt_succ_self m)) hgm
                      case rel => exact ⟨m + 1, _, _, Nat.succ_le_of_lt hltm, Nat.le_refl _, by go_num, rfl, rfl, by omega, by omega, HU2, HA2, HKv, HWv⟩
                  | false =>
                    have HA2 := Lib.hid (show ak = Pl.askedK (Pl.upd K n kk) (m + 1) by rw [HA.out, HAK.out]; simp)
                    cases i0 with
                    | true =>
                      have HU2 := Lib.hid (show us + bm = Pl.usedK (fun u => nth (Pl.bytesOf g s') u) (Pl.upd K n kk) (m + 1) by rw [HU.out, HUS.out]; simp)
                      clear HU HA
                      go_wp2
                      go_roundg (k - (m + 1))
                      case measure => exact Nat.lt_of_lt_of_le (Nat.sub_lt_sub_left hltm (Nat.lt_succ_self m)) hgm
                      case rel => exact ⟨m + 1, _, _, Nat.succ_le_of_lt hltm, Nat.le_refl _, by go_num, rfl, rfl, by omega, by omega, HU2, HA2, HKv, HWv⟩
                    | false =>
                      have HU2 := Lib.hid (show us = Pl.usedK (fun u => nth (Pl.bytesOf g s') u) (Pl.upd K n kk) (m + 1) by rw [HU.out, HUS.out]; simp)
                      clear HU HA
                      go_wp2
                      go_roundg (k - (m + 1))
                      case measure => exact Nat.lt_of_lt_of_le (Nat.sub_lt_sub_left hltm (Nat.lt_succ_self m)) hgm
                      case rel => exact ⟨m + 1, _, _, Nat.succ_le_of_lt hltm, Nat.le_refl _, by go_num, rfl, rfl, by omega, by omega, HU2, HA2, HKv, HWv⟩
                · have dmk : decide ((m : Int) < (k : Int)) = false := decide_eq_false (by omega)
                  have hmk : m = k := by omega
                  have HE : Hid (us = Pl.usedK (fun u => nth (Pl.bytesOf g s') u) (Pl.upd K n kk) g.length ∧ ak = Pl.askedK (Pl.upd K n kk) g.length) := by
                    refine ⟨?_, ?_⟩
                    · rw [LN.out, ← hmk]; exact HUS.out
                    · rw [LN.out, ← hmk]; exact HAK.out
                  have Kv := Lib.hid (K2.out.on HWv.out)
                  by_cases g1 : room < us
                  · have d3 : decide (us > room) = true := decide_eq_true g1
                    have HR : Hid (Pl.chkF g room l = ((j : Int), false)) := by
                      show _ = _
                      rw [HCR.out, HST.out]
                      simp only
                      rw [if_pos (.inl (by rw [← HE.out.1]; exact g1))]
                    clear hmk g1
                    go_wp2
                    go_ret2
                    exact ⟨by rw [HR.out]; rfl, Kv.out.bel⟩
                  have d3 : decide (us > room) = false := decide_eq_false g1
                  by_cases g2 : 4 < ak
                  · have d4 : decide (ak > 4) = true := decide_eq_true g2
                    have HR : Hid (Pl.chkF g room l = ((j : Int), false)) := by
                      show _ = _
                      rw [HCR.out, HST.out]
                      simp only
                      rw [if_pos (.inr (by rw [← HE.out.2]; exact g2))]
                    clear hmk g1 g2
                    go_wp2
                    go_ret2
                    exact ⟨by rw [HR.out]; rfl, Kv.out.bel⟩
                  have d4 : decide (ak > 4) = false := decide_eq_false g2
                  have HCn : Hid (Pl.chkF g room l = Pl.runC g (fun u => nth (Pl.bytesOf g s') u) room (j + 1) (Pl.upd K n kk) (l.drop (j + 1))) := by
                    show _ = _
                    rw [HCR.out, HST.out]
                    simp only
                    rw [if_neg (by rw [← HE.out.1, ← HE.out.2]; omega)]
                  clear hmk g1 g2
                  go_wp2
                  go_roundg (lL - (j + 1))
                  case measure => exact Nat.lt_of_lt_of_le (Nat.sub_lt_sub_left hlt (Nat.lt_succ_self j)) hgj
                  case rel => exact ⟨j + 1, _, Nat.succ_le_of_lt hlt, Nat.le_refl _, by go_num, HKv, HWv, HSK, HCn⟩
          · have djl : decide ((j : Int) < (lL : Int)) = false := decide_eq_false (by omega)
            have HCE : Hid (Pl.chkF g room l = if Pl.endK k K k = true then (0, true) else ((lL : Int), false)) := by
              show _ = _
              rw [HCx.out, List.drop_of_length_le (by rw [LL.out]; omega), Pl.runC, LN.out]
              rw [show (j : Int) = (lL : Int) by omega]
            clear cx
            go_wp2
            go_loopg [16] k (fun gg i wv => ∃ m : Nat, m ≤ k ∧ k - m ≤ gg ∧ i = .int .i64 m ∧ Hid (∀ v, v < m → (K v).asked = false) ∧ Hid (RnBox wv w2.heap.size k K) ∧ Hid (Below w2.heap.size w2 wv))
            case atStart => exact ⟨0, Nat.zero_le _, by omega, rfl, (fun v hv => absurd hv (Nat.not_lt_zero _)), HKx, HWx⟩
            case round =>
              rename World => wv
              obtain ⟨m, hm, hgm, rfl, HE, HKv, HWv⟩ := hrel
              have HKE := Lib.hid (K2.out.on HWv.out).bel
              by_cases hltm : m < k
              · have dmk : decide ((m : Int) < (k : Int)) = true := decide_eq_true (by omega)
                have hmk : (m : Int) < (k : Int) := by omega
                obtain ⟨z0, z1, z2⟩ := HKv.out.at_ m hltm
                cases hk0 : (K m).asked with
                | true =>
                  rw [hk0] at z1
                  have HR : Hid (Pl.chkF g room l = ((lL : Int), false)) := by
                    show _ = _
                    rw [HCE.out, if_neg (fun he => ?_)]
                    have h1 := ((Pl.endK_parts _).1 he m hltm).1
                    rw [hk0] at h1; cases h1
                  clear hk0
                  go_wp2
                  go_ret2
                  exact ⟨by rw [HR.out]; rfl, HKE.out⟩
                | false =>
                  rw [hk0] at z1
                  have HN2 : Hid (∀ v, v < m + 1 → (K v).asked = false) := fun v hv => by
                    by_cases e : v = m
                    · subst e; exact hk0
                    · exact HE.out v (by omega)
                  clear hk0
                  go_wp2
                  go_roundg (k - (m + 1))
                  case measure => exact Nat.lt_of_lt_of_le (Nat.sub_lt_sub_left hltm (Nat.lt_succ_self m)) hgm
                  case rel => exact ⟨m + 1, Nat.succ_le_of_lt hltm, Nat.le_refl _, by go_num, HN2, HKv, HWv⟩
              · have dmk : decide ((m : Int) < (k : Int)) = false := decide_eq_false (by omega)
                obtain rfl : m = k := by omega
                have ek : ((m : Int) - 1) = ((m - 1 : Nat) : Int) := by omega
                have ek1 : ((m - 1 : Nat) : Int) < (m : Int) := by omega
                obtain ⟨z0, z1, z2⟩ := HKv.out.at_ (m - 1) (by omega)
                cases hk0 : (K (m - 1)).inn with
                | true =>
                  rw [hk0] at z0
                  have HR : Hid (Pl.chkF g room l = (0, true)) := by
                    show _ = _
                    rw [HCE.out, if_pos ((Pl.endK_parts _).2 fun v hv => ⟨HE.out v hv, fun e => ?_⟩)]
                    rw [show v = m - 1 by omega]; exact hk0
                  clear hk0
                  go_wp2
                  go_ret2
                  exact ⟨by rw [HR.out]; rfl, HKE.out⟩
                | false =>
                  rw [hk0] at z0
                  have HR : Hid (Pl.chkF g room l = ((lL : Int), false)) := by
                    show _ = _
                    rw [HCE.out, if_neg (fun he => ?_)]
                    have h1 := ((Pl.endK_parts _).1 he (m - 1) (by omega)).2 (by omega)
                    rw [hk0] at h1; cases h1
                  clear hk0
                  go_wp2
                  go_ret2
                  exact ⟨by rw [HR.out]; rfl, HKE.out⟩
end Go.Proofs.YtekejcnphmnidaaGreatDoor


namespace Go.Proofs.YtekejcnphmnidaaGreatDoor
open Go.RowKit
theorem eql_bool (x : Bool) (w : World) : (binOp BinOp.eql 4 (.bool x) (.bool x)).run Tryz.prog w = .ok (.bool true) w := by cases x <;> (first | go_simp | simp [go_sem])
set_option maxHeartbeats 8000000 in
set_option maxRecDepth 100000 in
theorem cch_walk (a : Option Addr) (len cap : Nat) (g : List Gr.Node) (room : Int) (aL : Option Addr) (lL cL : Nat) (l : List (Int × Int)) (w : World) (HN : Nodes w a len cap g) (_ : -9223372036854775808 ≤ room) (_ : room ≤ 9223372036854775807) (HL : StepsIn w aL lL cL l) :
    Calls Tryz.prog 6 #[.agg #[.slice a len cap], .int .i64 room, .slice aL lL cL] w fun e w' => e = .returned (.bool true) ∧ Below w.heap.size w w' := by
  have LN := Lib.hid HN.length
  have hlen0 := HN.len_le
  have hLle := HL.le
  have hLcl := HL.cap_le
  have HL0 := Lib.hid HL
  have HWF : Hid (∀ i, i < len → NodeWf (nodeN g i)) := NodesIn.wf HN
  have K0 := Lib.hid (GSt.start HN)
  clear HN HL
  go_enter Tryz.func6, Tryz.ntmps6
  go_wp2_with fail
  refine (gsize2_any _ _ _ g _ K0.out.n).mono ?_
  rintro e w1 ⟨v, rfl, ⟨hv0, hv1⟩, hS, hb⟩
  have K1 := Lib.hid (K0.out.on hb)
  have c1 := K1.out.cell
  clear hb K0
  by_cases hv : 600 < v
  · have d1 : decide (v > 600) = true := decide_eq_true hv
    go_wp2_with fail
    refine (clives23_any _).mono ?_
    rintro e w2 ⟨rfl, hb⟩
    have HE := Lib.hid (K1.out.bel.trans (hb.mono K1.out.bel.size))
    clear hb
    go_wp2
    go_ret
    exact ⟨rfl, HE.out⟩
  have d1 : decide (v > 600) = false := decide_eq_false hv
  by_cases hl5 : 500 < lL
  · have d2 : decide ((lL : Int) > 500) = true := decide_eq_true (by omega)
    go_wp2_with fail
    refine (clives23_any _).mono ?_
    rintro e w2 ⟨rfl, hb⟩
    have HE := Lib.hid (K1.out.bel.trans (hb.mono K1.out.bel.size))
    clear hb
    go_wp2
    go_ret
    exact ⟨rfl, HE.out⟩
  have d2 : decide ((lL : Int) > 500) = false := decide_eq_false (by omega)
  have hlen : len ≤ 600 := by have := hS.1; omega
  have HSZ : Hid (∀ i, i < len → (nodeN g i).inn.length ≤ 1000000 ∧ (nodeN g i).shape.length ≤ 1000000) := fun i hi => by have := hS.2 (by omega) i hi; omega
  clear hS hv
  go_wp2_with fail
  refine (twinGr_any a len cap g w1 K1.out.n (by omega) HSZ.out).mono ?_
  rintro e w2 ⟨nb, c, ts, rfl, hT, hb⟩
  have K2 := Lib.hid (K1.out.on hb)
  have hw02 : w.heap.size ≤ w2.heap.size := K2.out.bel.size
  have HT2 : Hid (TwinGr w.heap.size w2 nb c ts g) := hT.lower K1.out.bel.size
  have HTB := Lib.hid hT.lts
  have hnb : nb < w2.heap.size := hT.row.lt
  clear hT hb c1
  have HA2 : Hid (Below w2.heap.size w2 (w2.alloc (.cells #[.slice (some ⟨nb, 0, none⟩) len c] 56))) := (Below.refl _ _).alloc (Nat.le_refl _) _
  have CT : Hid ((w2.alloc (.cells #[.slice (some ⟨nb, 0, none⟩) len c] 56)).cell? ⟨w2.heap.size, 0, none⟩ = some (.slice (some ⟨nb, 0, none⟩) len c)) := by show _ = _; rw [World.cell?_alloc_at _ _ _ _ rfl]; rfl
  have HZ3 : Hid (w2.heap.size < (w2.alloc (.cells #[.slice (some ⟨nb, 0, none⟩) len c] 56)).heap.size) := by show _ < _; simp
  go_wp2_with fail
  generalize w2.alloc (.cells #[.slice (some ⟨nb, 0, none⟩) len c] 56) = w3 at *
  have S3 : Hid (TSt w a len cap g w2.heap.size nb c ts w3) := ⟨K2.out.on HA2.out, CT.out, HZ3.out, HT2.out.below HA2.out⟩
  have HNT : Hid (∀ wk, TSt w a len cap g w2.heap.size nb c ts wk → Nodes wk (some ⟨nb, 0, none⟩) len c g) := fun wk S => by
    have := S.t.nodes (by rw [LN.out]; exact hlen0) (fun i hi => HWF.out i (by rw [← LN.out]; exact hi))
    rwa [LN.out] at this
  clear CT K2
  refine (twinS_any aL lL cL l w3 (HL0.out.below S3.out.k.bel) (by omega)).mono ?_
  rintro e w4 ⟨yb, cy, rfl, hyl, hY, hb⟩
  have S4 := Lib.hid (S3.out.on hb)
  have s4 := S4.out.ct
  have q4 := S4.out.k.cell
  have z34 := hb.size
  have hyb : yb < w4.heap.size := hY.lt
  have hyc := hY.lec
  have hyd := hY.cap_le
  have HY4 := Lib.hid hY
  obtain ⟨xs, hX⟩ := hY.rowV
  have HX4 := Lib.hid hX
  clear hY hX hb
  go_wp2_with fail
  refine (chk_any _ len c g room _ lL cy l w4 (HNT.out _ S4.out) HY4.out.steps).mono ?_
  rintro e w5 ⟨rfl, hb⟩
  have S5 := Lib.hid (S4.out.on hb)
  have s5 := S5.out.ct
  have q5 := S5.out.k.cell
  have B45 := Lib.hid hb
  clear hb s4 q4
  go_wp2_with fail
  refine (rchk_any a len cap g room aL lL cL l w5 S5.out.k.n (HL0.out.below S5.out.k.bel)).mono ?_
  rintro e w7 ⟨rfl, hb⟩
  have S7 := Lib.hid (S5.out.on hb)
  have B47 : Hid (Below w4.heap.size w4 w7) := B45.out.trans (hb.mono B45.out.size)
  have nE : ((Pl.chkF g room l).1 == (Pl.chkF g room l).1) = true := by simp
  have nB := eql_bool (Pl.chkF g room l).2
  clear hb s5 q5
  generalize (Pl.chkF g room l).1 = rA at *
  generalize (Pl.chkF g room l).2 = rB at *
  have S0 := Lib.hid (BkS.start w7)
  have HA7 : Hid (∀ o, Below w7.heap.size w7 (w7.alloc o)) := fun o => (Below.refl _ _).alloc (Nat.le_refl _) o
  have S8 : Hid (TSt w a len cap g w2.heap.size nb c ts (w7.alloc (.cells #[.int .i64 0, .slice none 0 0, .slice none 0 0, .slice none 0 0, .slice none 0 0, .slice none 0 0, .slice none 0 0, .slice none 0 0, .slice none 0 0, .slice none 0 0, .slice none 0 0, .slice none 0 0, .slice none 0 0, .slice none 0 0, .slice none 0 0, .slice none 0 0] 52))) := S7.out.on (HA7.out _)
  have s8 := S8.out.ct
  have z7 := S7.out.lt
  have q8 := S8.out.k.cell
  have B48 : Hid (Below w4.heap.size w4 (w7.alloc (.cells #[.int .i64 0, .slice none 0 0, .slice none 0 0, .slice none 0 0, .slice none 0 0, .slice none 0 0, .slice none 0 0, .slice none 0 0, .slice none 0 0, .slice none 0 0, .slice none 0 0, .slice none 0 0, .slice none 0 0, .slice none 0 0, .slice none 0 0, .slice none 0 0] 52))) := B47.out.trans ((HA7.out _).mono B47.out.size)
  have hz47 : w4.heap.size ≤ w7.heap.size := B47.out.size
  have hg0 : w.heap.size < w7.heap.size := S7.out.k.lt
  go_wp2_with fail
  generalize w7.alloc (.cells #[.int .i64 0, .slice none 0 0, .slice none 0 0, .slice none 0 0, .slice none 0 0, .slice none 0 0, .slice none 0 0, .slice none 0 0, .slice none 0 0, .slice none 0 0, .slice none 0 0, .slice none 0 0, .slice none 0 0, .slice none 0 0, .slice none 0 0, .slice none 0 0] 52) = w8 at *
  have hnb7 : nb < w7.heap.size := by omega
  refine (told_graph w8 _ _ _ _ _ _ _ _ _ nb c len ts g LN.out S8.out.t hnb7 S0.out (by simp; omega) (by simp) (by omega)).mono ?_
  rintro e w9 ⟨rfl, hS, hb⟩
  have T1 := Lib.hid hS
  have HX1 : Hid (Below w7.heap.size w8 w9) := hb
  clear hS hb
  have HLL : Hid ((heldsN 0 ts g len).length = 2 * len) := heldsN_length 0 ts g len
  go_wp2_with fail
  refine (told_steps w9 _ _ _ _ _ _ _ _ (some ⟨yb, 0, none⟩) lL cy xs T1.out (by simp) (by omega)).mono ?_
  rintro e w10 ⟨rfl, hS, hb⟩
  have T2 := Lib.hid hS
  have HX2 : Hid (Below w7.heap.size w8 w10) := HX1.out.trans hb
  have s10 := (HX2.out.cell (p := ⟨w2.heap.size, 0, none⟩) z7).trans s8
  have q10 := (HX2.out.cell (p := ⟨w.heap.size, 0, none⟩) hg0).trans q8
  have B410 : Hid (Below w4.heap.size w4 w10) := B48.out.trans (HX2.out.mono hz47)
  have S10 : Hid (TSt w a len cap g w2.heap.size nb c ts w10) := S4.out.on B410.out
  clear hS hb s8 q8
  go_wp2_with fail
  refine (leftGr_any nb c ts a len cap _ g w10 S10.out.t S10.out.k.n (by omega) HSZ.out).mono ?_
  rintro e w11 ⟨rfl, hb⟩
  have HSA := Lib.hid (S10.out.on hb)
  have B411 : Hid (Below w4.heap.size w4 w11) := B410.out.trans (hb.mono B410.out.size)
  have T3 := Lib.hid (T2.out.below hb)
  clear hb s10 q10
  go_wp2_with fail
  refine (leftS_any yb cy aL lL cL l w11 (HY4.out.below B411.out) (HL0.out.below HSA.out.k.bel) (by omega)).mono ?_
  rintro e w12 ⟨rfl, hb⟩
  have HSB := Lib.hid (HSA.out.on hb)
  have B412 : Hid (Below w4.heap.size w4 w12) := B411.out.trans (hb.mono B411.out.size)
  have T4 := Lib.hid (T3.out.below hb)
  clear hb
  have HVY : Hid (RowV 2 w12 (.slice (some ⟨yb, 0, none⟩) lL cy) lL xs) := HX4.out.keep B412.out.size (fun k hk => by cases hk; exact B412.out.block yb hyb)
  have HBLK := Lib.hid (blocksOf_heldsN 0 (ts := ts) (g := g) HSB.out.t.rows.len)
  rw [LN.out] at HBLK
  have hw3 := HZ3.out
  have HTW := Lib.hid HSB.out.t.lo
  have HND := Lib.hid HSB.out.t.nd
  have HBB : Hid ((∀ b ∈ blocksOf (([] ++ heldsN 0 ts g len) ++ ([] ++ [⟨.slice (some ⟨nb, 0, none⟩) len c, len, flatN ts g, .slice none 0 0, 0 + 2 * (len : Int) + 1⟩]) ++ ([] ++ [⟨.slice (some ⟨yb, 0, none⟩) lL cy, lL, xs, .slice none 0 0, 0 + 2 * (len : Int) + 1 + 1⟩]) ++ []), w.heap.size ≤ b ∧ b < w7.heap.size) ∧
      (blocksOf (([] ++ heldsN 0 ts g len) ++ ([] ++ [⟨.slice (some ⟨nb, 0, none⟩) len c, len, flatN ts g, .slice none 0 0, 0 + 2 * (len : Int) + 1⟩]) ++ ([] ++ [⟨.slice (some ⟨yb, 0, none⟩) lL cy, lL, xs, .slice none 0 0, 0 + 2 * (len : Int) + 1 + 1⟩]) ++ [])).Nodup) := by
    show _ ∧ _
    simp only [List.nil_append, List.append_nil, blocksOf_app, HBLK.out]
    have r0 : ∀ x ∈ blksN ts, w.heap.size ≤ x ∧ x < w2.heap.size := fun x hx => ⟨HTW.out x (List.mem_cons_of_mem _ hx), (HTB.out x (List.mem_cons_of_mem _ hx)).2⟩
    have r5 := HTW.out nb (List.mem_cons_self ..)
    refine ⟨fun b hm => ?_, ?_⟩
    · simp only [List.mem_append, mem_one] at hm
      rcases hm with (hm | hm) | hm
      · have := r0 b hm; omega
      · have : nb = b := Option.some.inj hm
        omega
      · have : yb = b := Option.some.inj hm
        omega
    · refine nodup_lv (s := w3.heap.size) ?_ (nodup_one _) (fun x hx => ?_) (fun x hx => ?_)
      · rw [List.nodup_append]
        refine ⟨(List.nodup_cons.1 HND.out).2, nodup_one _, fun x hx y hy e => ?_⟩
        have hy2 : nb = y := Option.some.inj (mem_one.1 hy)
        exact (List.nodup_cons.1 HND.out).1 (by rw [hy2, ← e]; exact hx)
      · rcases List.mem_append.1 hx with hx | hx
        · have := (r0 x hx).2; omega
        · have : nb = x := Option.some.inj (mem_one.1 hx); omega
      · have : yb = x := Option.some.inj (mem_one.1 hx)
        omega
  have HRI : Hid (∀ h ∈ [] ++ heldsN 0 ts g len, RowV 1 w12 h.v h.n h.xs ∧ h.n ≤ 1000000) := by
    intro h hm
    exact heldsN_row HSB.out.t.rows (fun i hi => HSZ.out i (by rw [← LN.out]; exact hi)) LN.out h (by simpa using hm)
  have HRN : Hid (∀ h ∈ [] ++ [(⟨.slice (some ⟨nb, 0, none⟩) len c, len, flatN ts g, .slice none 0 0, 0 + 2 * (len : Int) + 1⟩ : Held)], RowV 5 w12 h.v h.n h.xs ∧ h.n ≤ 1000000) := by
    intro h hm
    simp only [List.nil_append, List.mem_singleton] at hm
    subst hm
    have := HSB.out.t.rowV
    rw [LN.out] at this
    exact ⟨this, show len ≤ _ by omega⟩
  have HRS : Hid (∀ h ∈ [] ++ [(⟨.slice (some ⟨yb, 0, none⟩) lL cy, lL, xs, .slice none 0 0, 0 + 2 * (len : Int) + 1 + 1⟩ : Held)], RowV 2 w12 h.v h.n h.xs ∧ h.n ≤ 1000000) := by
    intro h hm
    simp only [List.nil_append, List.mem_singleton] at hm
    subst hm
    exact ⟨HVY.out, show lL ≤ _ by omega⟩
  have hwz : w.heap.size ≤ w7.heap.size := by omega
  go_wp2_with fail
  refine (apartB w12 _ _ w.heap.size _ _ _ _ _ T4.out (by omega) (by simp [HLL.out]; omega) HRI.out (by simp) HRN.out (by simp) HRS.out (by simp) (fun h hm => by cases hm) HBB.out.1 HBB.out.2 hwz).mono ?_
  rintro e w13 ⟨rfl, hb⟩
  have HEND : Hid (Below w.heap.size w w13) := HSB.out.k.bel.trans hb
  clear hb
  go_wp2_with fail
  refine (clives23_any _).mono ?_
  rintro e w14 ⟨rfl, hb⟩
  have HE := Lib.hid (HEND.out.trans (hb.mono HEND.out.size))
  clear hb
  go_wp2
  go_ret
  exact ⟨rfl, HE.out⟩
end Go.Proofs.YtekejcnphmnidaaGreatDoor

