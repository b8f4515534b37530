/-
  checkers' behind: contract behind_any (what is known of a node behind a step of its own).
-/
import Derived.Test.YtgmagldbfajedaaChBox
import Derived.BigRegion
namespace Go.Proofs.Ytgmagldbfajedaa
open Go.RowKit

/-- What is answered: the flags, and whether the step may be. -/
def BehE (g : List Gr.Node) (K : Nat → Pl.Kn) (kd : Int) (v : Nat) (e : Ending) : Prop :=
  ∃ n : Pl.Kn, e = .returned (.tuple #[.agg #[.bool n.inn, .bool n.asked, .bool n.disk, .bool n.src], .bool (Pl.beh g K kd v).isSome]) ∧ ∀ k, Pl.beh g K kd v = some k → k = n

theorem behE_of {g : List Gr.Node} {K : Nat → Pl.Kn} {kd : Int} {v : Nat} {i k s r c : Bool} (h : Pl.beh g K kd v = if c = true then some ⟨i, k, s, r⟩ else none) : BehE g K kd v (.returned (.tuple #[.agg #[.bool i, .bool k, .bool s, .bool r], .bool c])) := by
  refine ⟨⟨i, k, s, r⟩, ?_, fun n hn => ?_⟩
  · rw [h]; cases c <;> rfl
  · rw [h] at hn
    cases c
    · cases hn
    · exact (Option.some.inj hn).symm
theorem behE_none {g : List Gr.Node} {K : Nat → Pl.Kn} {kd : Int} {v : Nat} (h : Pl.beh g K kd v = none) (i k s r : Bool) : BehE g K kd v (.returned (.tuple #[.agg #[.bool i, .bool k, .bool s, .bool r], .bool false])) :=
  behE_of (c := false) h

namespace Pl
variable {g : List Gr.Node} {K : Nat → Kn} {v : Nat} {i k s r : Bool}
theorem beh_ask (h : K v = ⟨i, k, s, r⟩) : beh g K 1 v = if (!i && !k && s) = true then some ⟨i, true, s, r⟩ else none := by
  unfold beh; rw [h]; cases i <;> cases k <;> cases s <;> rfl
theorem beh_wait (h : K v = ⟨i, k, s, r⟩) : beh g K 2 v = if k = true then some ⟨true, false, s, r⟩ else none := by
  unfold beh; rw [h]; cases k <;> rfl
theorem beh_do (h : K v = ⟨i, k, s, r⟩) (ha : inAll g K v = true) : beh g K 3 v = if (!i && !k && !r) = true then some ⟨true, k, s, r⟩ else none := by
  unfold beh; rw [h, ha]; cases i <;> cases k <;> cases r <;> rfl
theorem beh_do_miss (_ : K v = ⟨i, k, s, r⟩) (ha : inAll g K v = false) : beh g K 3 v = none := by
  unfold beh; rw [ha]; rfl
theorem beh_store (h : K v = ⟨i, k, s, r⟩) : beh g K 4 v = if (i && !s) = true then some ⟨i, k, true, r⟩ else none := by
  unfold beh; rw [h]; cases i <;> cases s <;> rfl
theorem beh_drop (h : K v = ⟨i, k, s, r⟩) : beh g K 5 v = if i = true then some ⟨false, k, s, r⟩ else none := by
  unfold beh; rw [h]; cases i <;> rfl
theorem beh_else {kd : Int} (q1 : ¬ kd = 1) (q2 : ¬ kd = 2) (q3 : ¬ kd = 3) (q4 : ¬ kd = 4) (q5 : ¬ kd = 5) : beh g K kd v = none := by
  unfold beh; rw [if_neg q1, if_neg q2, if_neg q3, if_neg q4, if_neg q5]
theorem inAll_all (h : ∀ j, j < (nodeN g v).inn.length → (K (nth (nodeN g v).inn j).toNat).inn = true) : inAll g K v = true := by
  unfold inAll
  rw [List.all_eq_true]
  intro x hx
  obtain ⟨j, hj, rfl⟩ := List.getElem_of_mem hx
  have := h j hj
  rw [nth_eq _ j hj] at this
  exact this
theorem inAll_miss {j : Nat} (hj : j < (nodeN g v).inn.length) (h : (K (nth (nodeN g v).inn j).toNat).inn = false) : inAll g K v = false := by
  unfold inAll
  rw [List.all_eq_false]
  exact ⟨_, nth_mem _ j hj, by rw [h]; simp⟩
end Pl

theorem four_lit (w w0 : World) (base B : Nat) {u0 u1 u2 u3 : Value} (h0 : w.cell? ⟨B, 0, none⟩ = some u0) (h1 : w.cell? ⟨B, 1, none⟩ = some u1) (h2 : w.cell? ⟨B, 2, none⟩ = some u2) (h3 : w.cell? ⟨B, 3, none⟩ = some u3) (hb : Below base w0 w) (hB : base ≤ B) (v0 v1 v2 v3 : Value) :
    ((((w.setCell ⟨B, 0, none⟩ v0).setCell ⟨B, 1, none⟩ v1).setCell ⟨B, 2, none⟩ v2).setCell ⟨B, 3, none⟩ v3).cell? ⟨B, 0, none⟩ = some v0 ∧ ((((w.setCell ⟨B, 0, none⟩ v0).setCell ⟨B, 1, none⟩ v1).setCell ⟨B, 2, none⟩ v2).setCell ⟨B, 3, none⟩ v3).cell? ⟨B, 1, none⟩ = some v1 ∧ ((((w.setCell ⟨B, 0, none⟩ v0).setCell ⟨B, 1, none⟩ v1).setCell ⟨B, 2, none⟩ v2).setCell ⟨B, 3, none⟩ v3).cell? ⟨B, 2, none⟩ = some v2 ∧ ((((w.setCell ⟨B, 0, none⟩ v0).setCell ⟨B, 1, none⟩ v1).setCell ⟨B, 2, none⟩ v2).setCell ⟨B, 3, none⟩ v3).cell? ⟨B, 3, none⟩ = some v3 ∧ Below base w0 ((((w.setCell ⟨B, 0, none⟩ v0).setCell ⟨B, 1, none⟩ v1).setCell ⟨B, 2, none⟩ v2).setCell ⟨B, 3, none⟩ v3) := by
  obtain ⟨t0, t1, t2, t3⟩ := four_same w (B := B) (o := 0) h0 h1 h2 h3 v0 v1 v2 v3
  have hb4 := four_below hb hB 0 v0 v1 v2 v3
  unfold four at t0 t1 t2 t3 hb4
  simp only [Nat.zero_add] at t0 t1 t2 t3 hb4
  exact ⟨t0, t1, t2, t3, hb4⟩
theorem four_drew (w w0 : World) (base B : Nat) {u0 u1 u2 u3 : Value} (h0 : w.cell? ⟨B, 0, none⟩ = some u0) (h1 : w.cell? ⟨B, 1, none⟩ = some u1) (h2 : w.cell? ⟨B, 2, none⟩ = some u2) (h3 : w.cell? ⟨B, 3, none⟩ = some u3) (hb : Below base w0 w) (hB : base ≤ B) (v0 v1 v2 v3 : Value) :
    ((((w.setCell ⟨B, 0, none⟩ v0).setCell ⟨B, 1, none⟩ v1).setCell ⟨B, 2, none⟩ v2).setCell ⟨B, 3, none⟩ v3).drew.cell? ⟨B, 0, none⟩ = some v0 ∧ ((((w.setCell ⟨B, 0, none⟩ v0).setCell ⟨B, 1, none⟩ v1).setCell ⟨B, 2, none⟩ v2).setCell ⟨B, 3, none⟩ v3).drew.cell? ⟨B, 1, none⟩ = some v1 ∧ ((((w.setCell ⟨B, 0, none⟩ v0).setCell ⟨B, 1, none⟩ v1).setCell ⟨B, 2, none⟩ v2).setCell ⟨B, 3, none⟩ v3).drew.cell? ⟨B, 2, none⟩ = some v2 ∧ ((((w.setCell ⟨B, 0, none⟩ v0).setCell ⟨B, 1, none⟩ v1).setCell ⟨B, 2, none⟩ v2).setCell ⟨B, 3, none⟩ v3).drew.cell? ⟨B, 3, none⟩ = some v3 ∧ Below base w0 ((((w.setCell ⟨B, 0, none⟩ v0).setCell ⟨B, 1, none⟩ v1).setCell ⟨B, 2, none⟩ v2).setCell ⟨B, 3, none⟩ v3).drew := by
  obtain ⟨t0, t1, t2, t3, hb4⟩ := four_lit w w0 base B h0 h1 h2 h3 hb hB v0 v1 v2 v3
  generalize ((((w.setCell ⟨B, 0, none⟩ v0).setCell ⟨B, 1, none⟩ v1).setCell ⟨B, 2, none⟩ v2).setCell ⟨B, 3, none⟩ v3) = W at *
  exact ⟨t0, t1, t2, t3, hb4.drew⟩

theorem eql_ask (i k s r : Bool) (w : World) : (binOp BinOp.eql 126 (.agg #[.bool i, .bool k, .bool s, .bool r]) (.agg #[.bool false, .bool false, .bool true, .bool r])).run Try.prog w = .ok (.bool (!i && !k && s)) w := by
  cases i <;> cases k <;> cases s <;> cases r <;> kernel_rfl
theorem eql_do (i k s r : Bool) (w : World) : (binOp BinOp.eql 126 (.agg #[.bool i, .bool k, .bool s, .bool r]) (.agg #[.bool false, .bool false, .bool s, .bool false])).run Try.prog w = .ok (.bool (!i && !k && !r)) w := by
  cases i <;> cases k <;> cases s <;> cases r <;> kernel_rfl

set_option maxHeartbeats 4000000 in
set_option maxRecDepth 100000 in
theorem behind_any (a : Option Addr) (len cap : Nat) (g : List Gr.Node) (B : Nat) (K : Nat → Pl.Kn) (kd : Int) (v : Nat) (w : World) (HN : Nodes w a len cap g) (HB : KnBox w B K) (hl : len ≤ 32) (hv : v < len) (hinn : ∀ u ∈ (nodeN g v).inn, 0 ≤ u ∧ u < 32) :
    Calls Try.prog 99 #[.pointer (some ⟨B, 0, none⟩), .agg #[.slice a len cap], .agg #[.int .u8 kd, .int .i64 v]] w fun e w' => BehE g K kd v e ∧ Below w.heap.size w w' := by
  have hle := HN.le
  have hcl := HN.cap_le
  have KN := Lib.hid HN
  have KB := Lib.hid HB
  have HI := Lib.hid hinn
  obtain ⟨b0, b1, b2, b3⟩ := HB.at_ v (by omega)
  have hBl := HB.lt
  have HB3 : Hid (Below w.heap.size w (((w.alloc (.cells #[.slice a len cap] 38)).alloc (.cells #[.int .u8 kd, .int .i64 v] 82)).alloc (.cells #[.bool false, .bool false, .bool false, .bool false] 126))) := (((Below.refl _ _).alloc (Nat.le_refl _) _).alloc (by simp) _).alloc (by simp; omega) _
  clear HN HB hinn
  go_enter Try.func99, Try.ntmps99
  go_wp2_with fail
  have g0 : (((w.alloc (.cells #[.slice a len cap] 38)).alloc (.cells #[.int .u8 kd, .int .i64 v] 82)).alloc (.cells #[.bool false, .bool false, .bool false, .bool false] 126)).cell? ⟨w.heap.size, 0, none⟩ = some (.slice a len cap) := Lib.cell?_alloc_some _ (Lib.cell?_alloc_some _ (by rw [World.cell?_alloc_at _ _ _ _ rfl]; rfl))
  have x0 : (((w.alloc (.cells #[.slice a len cap] 38)).alloc (.cells #[.int .u8 kd, .int .i64 v] 82)).alloc (.cells #[.bool false, .bool false, .bool false, .bool false] 126)).cell? ⟨w.heap.size + 1, 0, none⟩ = some (.int .u8 kd) := Lib.cell?_alloc_some _ (by rw [World.cell?_alloc_at _ _ _ _ (by simp)]; rfl)
  have x1 : (((w.alloc (.cells #[.slice a len cap] 38)).alloc (.cells #[.int .u8 kd, .int .i64 v] 82)).alloc (.cells #[.bool false, .bool false, .bool false, .bool false] 126)).cell? ⟨w.heap.size + 1, 1, none⟩ = some (.int .i64 v) := Lib.cell?_alloc_some _ (by rw [World.cell?_alloc_at _ _ _ _ (by simp)]; rfl)
  have n0 : ∀ i, i < 4 → (((w.alloc (.cells #[.slice a len cap] 38)).alloc (.cells #[.int .u8 kd, .int .i64 v] 82)).alloc (.cells #[.bool false, .bool false, .bool false, .bool false] 126)).cell? ⟨w.heap.size + 2, i, none⟩ = some (.bool false) := fun i hi => by
    rcases (by omega : i = 0 ∨ i = 1 ∨ i = 2 ∨ i = 3) with rfl | rfl | rfl | rfl <;> (rw [World.cell?_alloc_at _ _ _ _ (by simp)]; rfl)
  have nf : ∀ i, (((w.alloc (.cells #[.slice a len cap] 38)).alloc (.cells #[.int .u8 kd, .int .i64 v] 82)).alloc (.cells #[.bool false, .bool false, .bool false, .bool false] 126)).frozen? ⟨w.heap.size + 2, i, none⟩ = false := fun i => World.frozen?_alloc_at _ _ _ _ (by simp)
  have hz3 : (((w.alloc (.cells #[.slice a len cap] 38)).alloc (.cells #[.int .u8 kd, .int .i64 v] 82)).alloc (.cells #[.bool false, .bool false, .bool false, .bool false] 126)).heap.size = w.heap.size + 3 := by simp
  have y0 := (HB3.out.cell (p := ⟨B, _, none⟩) hBl).trans b0
  have y1 := (HB3.out.cell (p := ⟨B, _, none⟩) hBl).trans b1
  have y2 := (HB3.out.cell (p := ⟨B, _, none⟩) hBl).trans b2
  have y3 := (HB3.out.cell (p := ⟨B, _, none⟩) hBl).trans b3
  clear b0 b1 b2 b3
  generalize (((w.alloc (.cells #[.slice a len cap] 38)).alloc (.cells #[.int .u8 kd, .int .i64 v] 82)).alloc (.cells #[.bool false, .bool false, .bool false, .bool false] 126)) = w3 at *
  have z0 : ∀ o, (w3.alloc o).cell? ⟨B, v * 4, none⟩ = some (.bool (K v).inn) := fun o => Lib.cell?_alloc_some _ y0
  have z1 : ∀ o, (w3.alloc o).cell? ⟨B, v * 4 + 1, none⟩ = some (.bool (K v).asked) := fun o => Lib.cell?_alloc_some _ y1
  have z2 : ∀ o, (w3.alloc o).cell? ⟨B, v * 4 + 2, none⟩ = some (.bool (K v).disk) := fun o => Lib.cell?_alloc_some _ y2
  have z3 : ∀ o, (w3.alloc o).cell? ⟨B, v * 4 + 3, none⟩ = some (.bool (K v).src) := fun o => Lib.cell?_alloc_some _ y3
  have u1 : ∀ o, (w3.alloc o).cell? ⟨w.heap.size + 1, 1, none⟩ = some (.int .i64 v) := fun o => Lib.cell?_alloc_some _ x1
  have hv32 : (v : Int) < 32 := by omega
  have HB4 : Hid (Below w3.heap.size w3 (w3.alloc (.cells #[.bool (K v).inn, .bool (K v).asked, .bool (K v).disk, .bool (K v).src] 126)).drew) := ((Below.refl _ _).alloc (Nat.le_refl _) _).drew
  have a0 : (w3.alloc (.cells #[.bool (K v).inn, .bool (K v).asked, .bool (K v).disk, .bool (K v).src] 126)).drew.cell? ⟨w.heap.size + 3, 0, none⟩ = some (.bool (K v).inn) := by show (w3.alloc _).cell? _ = _; rw [World.cell?_alloc_at _ _ _ _ hz3.symm]; rfl
  have a1 : (w3.alloc (.cells #[.bool (K v).inn, .bool (K v).asked, .bool (K v).disk, .bool (K v).src] 126)).drew.cell? ⟨w.heap.size + 3, 1, none⟩ = some (.bool (K v).asked) := by show (w3.alloc _).cell? _ = _; rw [World.cell?_alloc_at _ _ _ _ hz3.symm]; rfl
  have a2 : (w3.alloc (.cells #[.bool (K v).inn, .bool (K v).asked, .bool (K v).disk, .bool (K v).src] 126)).drew.cell? ⟨w.heap.size + 3, 2, none⟩ = some (.bool (K v).disk) := by show (w3.alloc _).cell? _ = _; rw [World.cell?_alloc_at _ _ _ _ hz3.symm]; rfl
  have a3 : (w3.alloc (.cells #[.bool (K v).inn, .bool (K v).asked, .bool (K v).disk, .bool (K v).src] 126)).drew.cell? ⟨w.heap.size + 3, 3, none⟩ = some (.bool (K v).src) := by show (w3.alloc _).cell? _ = _; rw [World.cell?_alloc_at _ _ _ _ hz3.symm]; rfl
  go_region
  generalize (w3.alloc (.cells #[.bool (K v).inn, .bool (K v).asked, .bool (K v).disk, .bool (K v).src] 126)).drew = w4 at *
  have c0 := (HB4.out.cell (p := ⟨w.heap.size + 2, 0, none⟩) (by show w.heap.size + 2 < w3.heap.size; omega)).trans (n0 0 (by omega))
  have c1 := (HB4.out.cell (p := ⟨w.heap.size + 2, 1, none⟩) (by show w.heap.size + 2 < w3.heap.size; omega)).trans (n0 1 (by omega))
  have c2 := (HB4.out.cell (p := ⟨w.heap.size + 2, 2, none⟩) (by show w.heap.size + 2 < w3.heap.size; omega)).trans (n0 2 (by omega))
  have c3 := (HB4.out.cell (p := ⟨w.heap.size + 2, 3, none⟩) (by show w.heap.size + 2 < w3.heap.size; omega)).trans (n0 3 (by omega))
  have d0 := (HB4.out.frozen (p := ⟨w.heap.size + 2, 0, none⟩) (by show w.heap.size + 2 < w3.heap.size; omega)).trans (nf 0)
  have d1 := (HB4.out.frozen (p := ⟨w.heap.size + 2, 1, none⟩) (by show w.heap.size + 2 < w3.heap.size; omega)).trans (nf 1)
  have d2 := (HB4.out.frozen (p := ⟨w.heap.size + 2, 2, none⟩) (by show w.heap.size + 2 < w3.heap.size; omega)).trans (nf 2)
  have d3 := (HB4.out.frozen (p := ⟨w.heap.size + 2, 3, none⟩) (by show w.heap.size + 2 < w3.heap.size; omega)).trans (nf 3)
  have e0 := (HB4.out.cell (p := ⟨w.heap.size + 1, 0, none⟩) (by show w.heap.size + 1 < w3.heap.size; omega)).trans x0
  have e1 := (HB4.out.cell (p := ⟨w.heap.size + 1, 1, none⟩) (by show w.heap.size + 1 < w3.heap.size; omega)).trans x1
  have G0 := Lib.hid ((HB4.out.cell (p := ⟨w.heap.size, 0, none⟩) (by show w.heap.size < w3.heap.size; omega)).trans g0)
  have HB := Lib.hid (HB3.out.trans (HB4.out.mono (by omega)))
  clear n0 nf x0 x1 y0 y1 y2 y3 z0 z1 z2 z3 u1 g0 HB3
  have HK : Hid (K v = ⟨(K v).inn, (K v).asked, (K v).disk, (K v).src⟩) := rfl
  generalize (K v).inn = i0 at *
  generalize (K v).asked = k0 at *
  generalize (K v).disk = s0 at *
  generalize (K v).src = r0 at *
  obtain ⟨F0, F1, F2, F3⟩ := four_same w4 (B := w.heap.size + 1 + 1) (o := 0) c0 c1 c2 c3 (.bool i0) (.bool k0) (.bool s0) (.bool r0)
  have f0 : ((((w4.setCell ⟨w.heap.size + 1 + 1, 0, none⟩ (.bool i0)).setCell ⟨w.heap.size + 1 + 1, 1, none⟩ (.bool k0)).setCell ⟨w.heap.size + 1 + 1, 2, none⟩ (.bool s0)).setCell ⟨w.heap.size + 1 + 1, 3, none⟩ (.bool r0)).cell? ⟨w.heap.size + 1 + 1, 0, none⟩ = some (.bool i0) := F0
  have f1 : ((((w4.setCell ⟨w.heap.size + 1 + 1, 0, none⟩ (.bool i0)).setCell ⟨w.heap.size + 1 + 1, 1, none⟩ (.bool k0)).setCell ⟨w.heap.size + 1 + 1, 2, none⟩ (.bool s0)).setCell ⟨w.heap.size + 1 + 1, 3, none⟩ (.bool r0)).cell? ⟨w.heap.size + 1 + 1, 1, none⟩ = some (.bool k0) := F1
  have f2 : ((((w4.setCell ⟨w.heap.size + 1 + 1, 0, none⟩ (.bool i0)).setCell ⟨w.heap.size + 1 + 1, 1, none⟩ (.bool k0)).setCell ⟨w.heap.size + 1 + 1, 2, none⟩ (.bool s0)).setCell ⟨w.heap.size + 1 + 1, 3, none⟩ (.bool r0)).cell? ⟨w.heap.size + 1 + 1, 2, none⟩ = some (.bool s0) := F2
  have f3 : ((((w4.setCell ⟨w.heap.size + 1 + 1, 0, none⟩ (.bool i0)).setCell ⟨w.heap.size + 1 + 1, 1, none⟩ (.bool k0)).setCell ⟨w.heap.size + 1 + 1, 2, none⟩ (.bool s0)).setCell ⟨w.heap.size + 1 + 1, 3, none⟩ (.bool r0)).cell? ⟨w.heap.size + 1 + 1, 3, none⟩ = some (.bool r0) := F3
  have h0 : ∀ p, ((((w4.setCell ⟨w.heap.size + 1 + 1, 0, none⟩ (.bool i0)).setCell ⟨w.heap.size + 1 + 1, 1, none⟩ (.bool k0)).setCell ⟨w.heap.size + 1 + 1, 2, none⟩ (.bool s0)).setCell ⟨w.heap.size + 1 + 1, 3, none⟩ (.bool r0)).frozen? p = w4.frozen? p := fun p => by simp only [World.frozen?_setCell]
  have k1 : ∀ A o, A ≠ w.heap.size + 1 + 1 → ((((w4.setCell ⟨w.heap.size + 1 + 1, 0, none⟩ (.bool i0)).setCell ⟨w.heap.size + 1 + 1, 1, none⟩ (.bool k0)).setCell ⟨w.heap.size + 1 + 1, 2, none⟩ (.bool s0)).setCell ⟨w.heap.size + 1 + 1, 3, none⟩ (.bool r0)).cell? ⟨A, o, none⟩ = w4.cell? ⟨A, o, none⟩ := fun A o h => four_other w4 (B := w.heap.size + 1 + 1) (o := 0) (.inl h) _ _ _ _
  have HB5 : Hid (Below w.heap.size w ((((w4.setCell ⟨w.heap.size + 1 + 1, 0, none⟩ (.bool i0)).setCell ⟨w.heap.size + 1 + 1, 1, none⟩ (.bool k0)).setCell ⟨w.heap.size + 1 + 1, 2, none⟩ (.bool s0)).setCell ⟨w.heap.size + 1 + 1, 3, none⟩ (.bool r0))) := four_below HB.out (B := w.heap.size + 1 + 1) (by omega) 0 _ _ _ _
  have b0 := (k1 (w.heap.size + 3) 0 (by omega)).trans a0
  have b1 := (k1 (w.heap.size + 3) 1 (by omega)).trans a1
  have b2 := (k1 (w.heap.size + 3) 2 (by omega)).trans a2
  have b3 := (k1 (w.heap.size + 3) 3 (by omega)).trans a3
  have y0 := (k1 (w.heap.size + 1) 0 (by omega)).trans e0
  have y1 := (k1 (w.heap.size + 1) 1 (by omega)).trans e1
  have G5 := Lib.hid ((k1 w.heap.size 0 (by omega)).trans G0.out)
  have g0 := (h0 _).trans d0
  have g1 := (h0 _).trans d1
  have g2 := (h0 _).trans d2
  have g3 := (h0 _).trans d3
  by_cases q1 : kd = 1
  · subst q1
    have p1 : ((1 : Int) == 1) = true := by decide
    have hq := eql_ask i0 k0 s0 r0
    go_wp2_with fail
    generalize ((((w4.setCell ⟨w.heap.size + 1 + 1, 0, none⟩ (.bool i0)).setCell ⟨w.heap.size + 1 + 1, 1, none⟩ (.bool k0)).setCell ⟨w.heap.size + 1 + 1, 2, none⟩ (.bool s0)).setCell ⟨w.heap.size + 1 + 1, 3, none⟩ (.bool r0)) = w5 at *
    clear F0 F1 F2 F3 h0 k1 G0 a0 a1 a2 a3 c0 c1 c2 c3 d0 d1 d2 d3 e0 e1 HB
    have m1 : (w5.setCell ⟨w.heap.size + 1 + 1, 1, none⟩ (.bool true)).cell? ⟨w.heap.size + 1 + 1, 0, none⟩ = some (.bool i0) := (set_off _ (by decide) _).trans f0
    have m2 : (w5.setCell ⟨w.heap.size + 1 + 1, 1, none⟩ (.bool true)).cell? ⟨w.heap.size + 1 + 1, 1, none⟩ = some (.bool true) := World.cell?_setCell_same _ _ _ f1
    have m3 : (w5.setCell ⟨w.heap.size + 1 + 1, 1, none⟩ (.bool true)).cell? ⟨w.heap.size + 1 + 1, 2, none⟩ = some (.bool s0) := (set_off _ (by decide) _).trans f2
    have m4 : (w5.setCell ⟨w.heap.size + 1 + 1, 1, none⟩ (.bool true)).cell? ⟨w.heap.size + 1 + 1, 3, none⟩ = some (.bool r0) := (set_off _ (by decide) _).trans f3
    go_region
    have hb1 : Below w.heap.size w (w5.setCell ⟨w.heap.size + 1 + 1, 1, none⟩ (.bool true)) := below_setCell HB5.out (w.heap.size + 1 + 1) 1 (.bool true) (by omega)
    obtain ⟨t0, t1, t2, t3, hb7⟩ := four_drew (w5.setCell ⟨w.heap.size + 1 + 1, 1, none⟩ (.bool true)) w w.heap.size (w.heap.size + 1 + 1) m1 m2 m3 m4 hb1 (by omega) (.bool i0) (.bool true) (.bool s0) (.bool r0)
    have HB7 := Lib.hid hb7
    clear hb7 hb1
    generalize (((((w5.setCell ⟨w.heap.size + 1 + 1, 1, none⟩ (.bool true)).setCell ⟨w.heap.size + 1 + 1, 0, none⟩ (.bool i0)).setCell ⟨w.heap.size + 1 + 1, 1, none⟩ (.bool true)).setCell ⟨w.heap.size + 1 + 1, 2, none⟩ (.bool s0)).setCell ⟨w.heap.size + 1 + 1, 3, none⟩ (.bool r0)).drew = w7 at *
    go_wp2
    refine bodyPost_ret (by simp [results, Try.results99, go_sem, t0, t1, t2, t3]; try rfl) rfl ?_
    exact ⟨behE_of (Pl.beh_ask HK.out), HB7.out⟩
  by_cases q2 : kd = 2
  · subst q2
    have p1 : ((2 : Int) == 1) = false := by decide
    have p2 : ((2 : Int) == 2) = true := by decide
    clear q1
    go_wp2_with fail
    generalize ((((w4.setCell ⟨w.heap.size + 1 + 1, 0, none⟩ (.bool i0)).setCell ⟨w.heap.size + 1 + 1, 1, none⟩ (.bool k0)).setCell ⟨w.heap.size + 1 + 1, 2, none⟩ (.bool s0)).setCell ⟨w.heap.size + 1 + 1, 3, none⟩ (.bool r0)) = w5 at *
    clear F0 F1 F2 F3 h0 k1 G0 a0 a1 a2 a3 c0 c1 c2 c3 d0 d1 d2 d3 e0 e1 HB
    have m1 : (w5.setCell ⟨w.heap.size + 1 + 1, 0, none⟩ (.bool true)).cell? ⟨w.heap.size + 1 + 1, 0, none⟩ = some (.bool true) := World.cell?_setCell_same _ _ _ f0
    have m2 : (w5.setCell ⟨w.heap.size + 1 + 1, 0, none⟩ (.bool true)).cell? ⟨w.heap.size + 1 + 1, 1, none⟩ = some (.bool k0) := (set_off _ (by decide) _).trans f1
    have m3 : (w5.setCell ⟨w.heap.size + 1 + 1, 0, none⟩ (.bool true)).cell? ⟨w.heap.size + 1 + 1, 2, none⟩ = some (.bool s0) := (set_off _ (by decide) _).trans f2
    have m4 : (w5.setCell ⟨w.heap.size + 1 + 1, 0, none⟩ (.bool true)).cell? ⟨w.heap.size + 1 + 1, 3, none⟩ = some (.bool r0) := (set_off _ (by decide) _).trans f3
    have m5 : ((w5.setCell ⟨w.heap.size + 1 + 1, 0, none⟩ (.bool true)).setCell ⟨w.heap.size + 1 + 1, 1, none⟩ (.bool false)).cell? ⟨w.heap.size + 1 + 1, 0, none⟩ = some (.bool true) := (set_off _ (by decide) _).trans m1
    have m6 : ((w5.setCell ⟨w.heap.size + 1 + 1, 0, none⟩ (.bool true)).setCell ⟨w.heap.size + 1 + 1, 1, none⟩ (.bool false)).cell? ⟨w.heap.size + 1 + 1, 1, none⟩ = some (.bool false) := World.cell?_setCell_same _ _ _ m2
    have m7 : ((w5.setCell ⟨w.heap.size + 1 + 1, 0, none⟩ (.bool true)).setCell ⟨w.heap.size + 1 + 1, 1, none⟩ (.bool false)).cell? ⟨w.heap.size + 1 + 1, 2, none⟩ = some (.bool s0) := (set_off _ (by decide) _).trans m3
    have m8 : ((w5.setCell ⟨w.heap.size + 1 + 1, 0, none⟩ (.bool true)).setCell ⟨w.heap.size + 1 + 1, 1, none⟩ (.bool false)).cell? ⟨w.heap.size + 1 + 1, 3, none⟩ = some (.bool r0) := (set_off _ (by decide) _).trans m4
    go_region
    have hb1 : Below w.heap.size w (w5.setCell ⟨w.heap.size + 1 + 1, 0, none⟩ (.bool true)) := below_setCell HB5.out (w.heap.size + 1 + 1) 0 (.bool true) (by omega)
    have hb2 : Below w.heap.size w ((w5.setCell ⟨w.heap.size + 1 + 1, 0, none⟩ (.bool true)).setCell ⟨w.heap.size + 1 + 1, 1, none⟩ (.bool false)) := below_setCell hb1 (w.heap.size + 1 + 1) 1 (.bool false) (by omega)
    obtain ⟨t0, t1, t2, t3, hb7⟩ := four_drew ((w5.setCell ⟨w.heap.size + 1 + 1, 0, none⟩ (.bool true)).setCell ⟨w.heap.size + 1 + 1, 1, none⟩ (.bool false)) w w.heap.size (w.heap.size + 1 + 1) m5 m6 m7 m8 hb2 (by omega) (.bool true) (.bool false) (.bool s0) (.bool r0)
    have HB7 := Lib.hid hb7
    clear hb7 hb1 hb2
    generalize ((((((w5.setCell ⟨w.heap.size + 1 + 1, 0, none⟩ (.bool true)).setCell ⟨w.heap.size + 1 + 1, 1, none⟩ (.bool false)).setCell ⟨w.heap.size + 1 + 1, 0, none⟩ (.bool true)).setCell ⟨w.heap.size + 1 + 1, 1, none⟩ (.bool false)).setCell ⟨w.heap.size + 1 + 1, 2, none⟩ (.bool s0)).setCell ⟨w.heap.size + 1 + 1, 3, none⟩ (.bool r0)).drew = w7 at *
    go_wp2
    refine bodyPost_ret (by simp [results, Try.results99, go_sem, t0, t1, t2, t3]; try rfl) rfl ?_
    exact ⟨behE_of (Pl.beh_wait HK.out), HB7.out⟩
  by_cases q4 : kd = 4
  · subst q4
    have p1 : ((4 : Int) == 1) = false := by decide
    have p2 : ((4 : Int) == 2) = false := by decide
    have p3 : ((4 : Int) == 3) = false := by decide
    have p4 : ((4 : Int) == 4) = true := by decide
    clear q1 q2
    cases i0 with
    | true =>
      go_wp2_with fail
      generalize ((((w4.setCell ⟨w.heap.size + 1 + 1, 0, none⟩ (.bool true)).setCell ⟨w.heap.size + 1 + 1, 1, none⟩ (.bool k0)).setCell ⟨w.heap.size + 1 + 1, 2, none⟩ (.bool s0)).setCell ⟨w.heap.size + 1 + 1, 3, none⟩ (.bool r0)) = w5 at *
      clear F0 F1 F2 F3 h0 k1 G0 a0 a1 a2 a3 c0 c1 c2 c3 d0 d1 d2 d3 e0 e1 HB
      have m1 : (w5.setCell ⟨w.heap.size + 1 + 1, 2, none⟩ (.bool true)).cell? ⟨w.heap.size + 1 + 1, 0, none⟩ = some (.bool true) := (set_off _ (by decide) _).trans f0
      have m2 : (w5.setCell ⟨w.heap.size + 1 + 1, 2, none⟩ (.bool true)).cell? ⟨w.heap.size + 1 + 1, 1, none⟩ = some (.bool k0) := (set_off _ (by decide) _).trans f1
      have m3 : (w5.setCell ⟨w.heap.size + 1 + 1, 2, none⟩ (.bool true)).cell? ⟨w.heap.size + 1 + 1, 2, none⟩ = some (.bool true) := World.cell?_setCell_same _ _ _ f2
      have m4 : (w5.setCell ⟨w.heap.size + 1 + 1, 2, none⟩ (.bool true)).cell? ⟨w.heap.size + 1 + 1, 3, none⟩ = some (.bool r0) := (set_off _ (by decide) _).trans f3
      go_region
      have hb1 : Below w.heap.size w (w5.setCell ⟨w.heap.size + 1 + 1, 2, none⟩ (.bool true)) := below_setCell HB5.out (w.heap.size + 1 + 1) 2 (.bool true) (by omega)
      obtain ⟨t0, t1, t2, t3, hb7⟩ := four_drew (w5.setCell ⟨w.heap.size + 1 + 1, 2, none⟩ (.bool true)) w w.heap.size (w.heap.size + 1 + 1) m1 m2 m3 m4 hb1 (by omega) (.bool true) (.bool k0) (.bool true) (.bool r0)
      have HB7 := Lib.hid hb7
      clear hb7 hb1
      generalize (((((w5.setCell ⟨w.heap.size + 1 + 1, 2, none⟩ (.bool true)).setCell ⟨w.heap.size + 1 + 1, 0, none⟩ (.bool true)).setCell ⟨w.heap.size + 1 + 1, 1, none⟩ (.bool k0)).setCell ⟨w.heap.size + 1 + 1, 2, none⟩ (.bool true)).setCell ⟨w.heap.size + 1 + 1, 3, none⟩ (.bool r0)).drew = w7 at *
      go_wp2
      refine bodyPost_ret (by simp [results, Try.results99, go_sem, t0, t1, t2, t3]; try rfl) rfl ?_
      exact ⟨behE_of (Pl.beh_store HK.out), HB7.out⟩
    | false =>
      go_wp2_with fail
      generalize ((((w4.setCell ⟨w.heap.size + 1 + 1, 0, none⟩ (.bool false)).setCell ⟨w.heap.size + 1 + 1, 1, none⟩ (.bool k0)).setCell ⟨w.heap.size + 1 + 1, 2, none⟩ (.bool s0)).setCell ⟨w.heap.size + 1 + 1, 3, none⟩ (.bool r0)) = w5 at *
      clear F0 F1 F2 F3 h0 k1 G0 a0 a1 a2 a3 c0 c1 c2 c3 d0 d1 d2 d3 e0 e1 HB
      have m1 : (w5.setCell ⟨w.heap.size + 1 + 1, 2, none⟩ (.bool true)).cell? ⟨w.heap.size + 1 + 1, 0, none⟩ = some (.bool false) := (set_off _ (by decide) _).trans f0
      have m2 : (w5.setCell ⟨w.heap.size + 1 + 1, 2, none⟩ (.bool true)).cell? ⟨w.heap.size + 1 + 1, 1, none⟩ = some (.bool k0) := (set_off _ (by decide) _).trans f1
      have m3 : (w5.setCell ⟨w.heap.size + 1 + 1, 2, none⟩ (.bool true)).cell? ⟨w.heap.size + 1 + 1, 2, none⟩ = some (.bool true) := World.cell?_setCell_same _ _ _ f2
      have m4 : (w5.setCell ⟨w.heap.size + 1 + 1, 2, none⟩ (.bool true)).cell? ⟨w.heap.size + 1 + 1, 3, none⟩ = some (.bool r0) := (set_off _ (by decide) _).trans f3
      go_region
      have hb1 : Below w.heap.size w (w5.setCell ⟨w.heap.size + 1 + 1, 2, none⟩ (.bool true)) := below_setCell HB5.out (w.heap.size + 1 + 1) 2 (.bool true) (by omega)
      obtain ⟨t0, t1, t2, t3, hb7⟩ := four_drew (w5.setCell ⟨w.heap.size + 1 + 1, 2, none⟩ (.bool true)) w w.heap.size (w.heap.size + 1 + 1) m1 m2 m3 m4 hb1 (by omega) (.bool false) (.bool k0) (.bool true) (.bool r0)
      have HB7 := Lib.hid hb7
      clear hb7 hb1
      generalize (((((w5.setCell ⟨w.heap.size + 1 + 1, 2, none⟩ (.bool true)).setCell ⟨w.heap.size + 1 + 1, 0, none⟩ (.bool false)).setCell ⟨w.heap.size + 1 + 1, 1, none⟩ (.bool k0)).setCell ⟨w.heap.size + 1 + 1, 2, none⟩ (.bool true)).setCell ⟨w.heap.size + 1 + 1, 3, none⟩ (.bool r0)).drew = w7 at *
      go_wp2
      refine bodyPost_ret (by simp [results, Try.results99, go_sem, t0, t1, t2, t3]; try rfl) rfl ?_
      exact ⟨behE_of (Pl.beh_store HK.out), HB7.out⟩
  by_cases q5 : kd = 5
  · subst q5
    have p1 : ((5 : Int) == 1) = false := by decide
    have p2 : ((5 : Int) == 2) = false := by decide
    have p3 : ((5 : Int) == 3) = false := by decide
    have p4 : ((5 : Int) == 4) = false := by decide
    have p5 : ((5 : Int) == 5) = true := by decide
    clear q1 q2 q4
    go_wp2_with fail
    generalize ((((w4.setCell ⟨w.heap.size + 1 + 1, 0, none⟩ (.bool i0)).setCell ⟨w.heap.size + 1 + 1, 1, none⟩ (.bool k0)).setCell ⟨w.heap.size + 1 + 1, 2, none⟩ (.bool s0)).setCell ⟨w.heap.size + 1 + 1, 3, none⟩ (.bool r0)) = w5 at *
    clear F0 F1 F2 F3 h0 k1 G0 a0 a1 a2 a3 c0 c1 c2 c3 d0 d1 d2 d3 e0 e1 HB
    have m1 : (w5.setCell ⟨w.heap.size + 1 + 1, 0, none⟩ (.bool false)).cell? ⟨w.heap.size + 1 + 1, 0, none⟩ = some (.bool false) := World.cell?_setCell_same _ _ _ f0
    have m2 : (w5.setCell ⟨w.heap.size + 1 + 1, 0, none⟩ (.bool false)).cell? ⟨w.heap.size + 1 + 1, 1, none⟩ = some (.bool k0) := (set_off _ (by decide) _).trans f1
    have m3 : (w5.setCell ⟨w.heap.size + 1 + 1, 0, none⟩ (.bool false)).cell? ⟨w.heap.size + 1 + 1, 2, none⟩ = some (.bool s0) := (set_off _ (by decide) _).trans f2
    have m4 : (w5.setCell ⟨w.heap.size + 1 + 1, 0, none⟩ (.bool false)).cell? ⟨w.heap.size + 1 + 1, 3, none⟩ = some (.bool r0) := (set_off _ (by decide) _).trans f3
    go_region
    have hb1 : Below w.heap.size w (w5.setCell ⟨w.heap.size + 1 + 1, 0, none⟩ (.bool false)) := below_setCell HB5.out (w.heap.size + 1 + 1) 0 (.bool false) (by omega)
    obtain ⟨t0, t1, t2, t3, hb7⟩ := four_drew (w5.setCell ⟨w.heap.size + 1 + 1, 0, none⟩ (.bool false)) w w.heap.size (w.heap.size + 1 + 1) m1 m2 m3 m4 hb1 (by omega) (.bool false) (.bool k0) (.bool s0) (.bool r0)
    have HB7 := Lib.hid hb7
    clear hb7 hb1
    generalize (((((w5.setCell ⟨w.heap.size + 1 + 1, 0, none⟩ (.bool false)).setCell ⟨w.heap.size + 1 + 1, 0, none⟩ (.bool false)).setCell ⟨w.heap.size + 1 + 1, 1, none⟩ (.bool k0)).setCell ⟨w.heap.size + 1 + 1, 2, none⟩ (.bool s0)).setCell ⟨w.heap.size + 1 + 1, 3, none⟩ (.bool r0)).drew = w7 at *
    go_wp2
    refine bodyPost_ret (by simp [results, Try.results99, go_sem, t0, t1, t2, t3]; try rfl) rfl ?_
    exact ⟨behE_of (Pl.beh_drop HK.out), HB7.out⟩
  by_cases q3 : kd = 3
  · subst q3
    have p1 : ((3 : Int) == 1) = false := by decide
    have p2 : ((3 : Int) == 2) = false := by decide
    have p3 : ((3 : Int) == 3) = true := by decide
    clear q1 q2 q4 q5
    have hq := eql_do i0 k0 s0 r0
    obtain ⟨bN, oN, ai, li, ci, sa, ls, cs, eN, _, n0, n1, n2, n3, n4, hV⟩ := KN.out.get (Below.refl _ w) hv
    cases eN
    have HVI := Lib.hid (hV.i.below HB5.out)
    have HVL := Lib.hid hV.i.length
    have hil := hV.i.le
    have hic := hV.i.cap_le
    have KB5 := Lib.hid (KB.out.below HB5.out)
    have gg := G5.out
    have nn1 := (HB5.out.cell (p := ⟨bN, _, none⟩) (by assumption)).trans n1
    clear n0 n1 n2 n3 n4 hV
    go_wp2_with fail
    generalize ((((w4.setCell ⟨w.heap.size + 1 + 1, 0, none⟩ (.bool i0)).setCell ⟨w.heap.size + 1 + 1, 1, none⟩ (.bool k0)).setCell ⟨w.heap.size + 1 + 1, 2, none⟩ (.bool s0)).setCell ⟨w.heap.size + 1 + 1, 3, none⟩ (.bool r0)) = w5 at *
    clear F0 F1 F2 F3 h0 k1 G0 a0 a1 a2 a3 c0 c1 c2 c3 d0 d1 d2 d3 e0 e1 HB
    go_loop [46] (fun i => ∃ k : Nat, k ≤ li ∧ i = .int .i64 k ∧ Hid (∀ j, j < k → (K (nth (nodeN g v).inn j).toNat).inn = true)) (fun i => li - (intOf i).toNat)
    case atStart => exact ⟨0, Nat.zero_le _, rfl, fun j hj => absurd hj (Nat.not_lt_zero _)⟩
    case round =>
      obtain ⟨k, hk, rfl, HT⟩ := hrel
      by_cases hlt : k < li
      · have dkl : decide ((k : Int) < (li : Int)) = true := decide_eq_true (by omega)
        obtain ⟨b, off, rfl, _, hc⟩ := HVI.out.at_ (by omega)
        have hck := hc k hlt
        obtain ⟨u0, u1⟩ := HI.out _ (nth_mem (nodeN g v).inn k (by rw [HVL.out]; exact hlt))
        obtain ⟨n, hn⟩ : ∃ n : Nat, nth (nodeN g v).inn k = (n : Int) := ⟨(nth (nodeN g v).inn k).toNat, by omega⟩
        rw [hn] at hck u1
        have kz := (KB5.out.at_ n (by omega)).1
        have hn32 : (n : Int) < 32 := u1
        cases hi : (K n).inn with
        | true =>
          rw [hi] at kz
          have HN : Hid (∀ j, j < k + 1 → (K (nth (nodeN g v).inn j).toNat).inn = true) := fun j hj => by
            by_cases e : j = k
            · subst e; rw [hn, Int.toNat_natCast]; exact hi
            · exact HT.out j (by omega)
          clear hc hn hi
          go_wp2
          go_round
          case rel => exact ⟨k + 1, by omega, by go_num, HN⟩
          case measure => simp [intOf]; omega
        | false =>
          rw [hi] at kz
          have HM : Hid (Pl.inAll g K v = false) := Pl.inAll_miss (by rw [HVL.out]; exact hlt) (by rw [hn, Int.toNat_natCast]; exact hi)
          clear hc hn hi
          go_wp2
          obtain ⟨t0, t1, t2, t3, hb7⟩ := four_lit w5 w w.heap.size (w.heap.size + 1 + 1) f0 f1 f2 f3 HB5.out (by omega) (.bool i0) (.bool k0) (.bool s0) (.bool r0)
          have HB7 := Lib.hid hb7
          clear hb7
          go_wp2
          refine bodyPost_ret (by simp [results, Try.results99, go_sem, t0, t1, t2, t3]; try rfl) rfl ?_
          exact ⟨behE_none (Pl.beh_do_miss HK.out HM.out) _ _ _ _, HB7.out⟩
      · have dkl : decide ((k : Int) < (li : Int)) = false := decide_eq_false (by omega)
        have HA : Hid (Pl.inAll g K v = true) := Pl.inAll_all (fun j hj => HT.out j (by rw [HVL.out] at hj; omega))
        go_wp2_with fail
        have m1 : (w5.setCell ⟨w.heap.size + 1 + 1, 0, none⟩ (.bool true)).cell? ⟨w.heap.size + 1 + 1, 0, none⟩ = some (.bool true) := World.cell?_setCell_same _ _ _ f0
        have m2 : (w5.setCell ⟨w.heap.size + 1 + 1, 0, none⟩ (.bool true)).cell? ⟨w.heap.size + 1 + 1, 1, none⟩ = some (.bool k0) := (set_off _ (by decide) _).trans f1
        have m3 : (w5.setCell ⟨w.heap.size + 1 + 1, 0, none⟩ (.bool true)).cell? ⟨w.heap.size + 1 + 1, 2, none⟩ = some (.bool s0) := (set_off _ (by decide) _).trans f2
        have m4 : (w5.setCell ⟨w.heap.size + 1 + 1, 0, none⟩ (.bool true)).cell? ⟨w.heap.size + 1 + 1, 3, none⟩ = some (.bool r0) := (set_off _ (by decide) _).trans f3
        go_region
        have hb1 : Below w.heap.size w (w5.setCell ⟨w.heap.size + 1 + 1, 0, none⟩ (.bool true)) := below_setCell HB5.out (w.heap.size + 1 + 1) 0 (.bool true) (by omega)
        obtain ⟨t0, t1, t2, t3, hb7⟩ := four_drew (w5.setCell ⟨w.heap.size + 1 + 1, 0, none⟩ (.bool true)) w w.heap.size (w.heap.size + 1 + 1) m1 m2 m3 m4 hb1 (by omega) (.bool true) (.bool k0) (.bool s0) (.bool r0)
        have HB7 := Lib.hid hb7
        clear hb7 hb1
        generalize (((((w5.setCell ⟨w.heap.size + 1 + 1, 0, none⟩ (.bool true)).setCell ⟨w.heap.size + 1 + 1, 0, none⟩ (.bool true)).setCell ⟨w.heap.size + 1 + 1, 1, none⟩ (.bool k0)).setCell ⟨w.heap.size + 1 + 1, 2, none⟩ (.bool s0)).setCell ⟨w.heap.size + 1 + 1, 3, none⟩ (.bool r0)).drew = w7 at *
        go_wp2
        refine bodyPost_ret (by simp [results, Try.results99, go_sem, t0, t1, t2, t3]; try rfl) rfl ?_
        exact ⟨behE_of (Pl.beh_do HK.out HA.out), HB7.out⟩
  have p1 : (kd == 1) = false := by simpa using q1
  have p2 : (kd == 2) = false := by simpa using q2
  have p3 : (kd == 3) = false := by simpa using q3
  have p4 : (kd == 4) = false := by simpa using q4
  have p5 : (kd == 5) = false := by simpa using q5
  have HX : Hid (Pl.beh g K kd v = none) := Pl.beh_else q1 q2 q3 q4 q5
  clear q1 q2 q3 q4 q5
  go_wp2
  generalize ((((w4.setCell ⟨w.heap.size + 1 + 1, 0, none⟩ (.bool i0)).setCell ⟨w.heap.size + 1 + 1, 1, none⟩ (.bool k0)).setCell ⟨w.heap.size + 1 + 1, 2, none⟩ (.bool s0)).setCell ⟨w.heap.size + 1 + 1, 3, none⟩ (.bool r0)) = w5 at *
  clear F0 F1 F2 F3 h0 k1 G0 a0 a1 a2 a3 c0 c1 c2 c3 d0 d1 d2 d3 e0 e1 HB
  obtain ⟨t0, t1, t2, t3, hb7⟩ := four_lit w5 w w.heap.size (w.heap.size + 1 + 1) f0 f1 f2 f3 HB5.out (by omega) (.bool i0) (.bool k0) (.bool s0) (.bool r0)
  have HB7 := Lib.hid hb7
  clear hb7
  refine bodyPost_ret (by simp [results, Try.results99, go_sem, t0, t1, t2, t3]; try rfl) rfl ?_
  exact ⟨behE_none HX.out _ _ _ _, HB7.out⟩
end Go.Proofs.Ytgmagldbfajedaa
