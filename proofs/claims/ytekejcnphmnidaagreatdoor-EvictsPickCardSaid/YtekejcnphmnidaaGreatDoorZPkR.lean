/-
  's := evicts.State{In: TwinInts(z.In), Pinned: TwinInts(z.Pinned), Room: z.Room}' of drydocklaw21.EvictsPick: the law of that region, whatever order it draws (twins_region).
-/
import Derived.Test.YtekejcnphmnidaaGreatDoorZRpW
namespace Go.Proofs.YtekejcnphmnidaaGreatDoor
open Go.RowKit

section
variable {o : Oper} {a : Act} {w : World} {K : Act → World → Prop} {Q : Exit → Act → World → Prop} {x y : Operand}
theorem wp_fld24 {b i : Nat} (hi : i = 0 ∨ i = 1 ∨ i = 2) (ho : o.op = .fieldAddr 24 x i) (hx : a.eval x = .pointer (some ⟨b, 0, none⟩)) (hK : K (a.put o.dst (.pointer (some ⟨b, i, none⟩))) w) : o.wp Tryz.prog a w K Q := by
  refine wp_retZ ?_ hK
  clear hK
  generalize a.eval = ev at *
  rcases hi with rfl | rfl | rfl <;> (unfold execOp; rw [ho]; simp [hx, go_sem])
theorem wp_ld22 {p : Addr} {c : Value} (ho : o.op = .load 22 x) (hx : a.eval x = .pointer (some p)) (hc : w.cell? p = some c) (hK : K (a.put o.dst c) w) : o.wp Tryz.prog a w K Q := by
  refine wp_retZ ?_ hK
  clear hK
  generalize a.eval = ev at *
  unfold execOp; rw [ho]; simp [hx, hc, go_sem]
theorem wp_ld3 {p : Addr} {c : Value} (ho : o.op = .load 3 x) (hx : a.eval x = .pointer (some p)) (hc : w.cell? p = some c) (hK : K (a.put o.dst c) w) : o.wp Tryz.prog a w K Q := by
  refine wp_retZ ?_ hK
  clear hK
  generalize a.eval = ev at *
  unfold execOp; rw [ho]; simp [hx, hc, go_sem]
theorem wp_call10 {v : Value} (ho : o.op = .call { callee := .value (.func 10), args := #[x], argTypes := #[22] }) (hx : a.eval x = v) {post : Ending → World → Prop} (hc : Calls Tryz.prog 10 #[v] w post) (hK : ∀ e w', post e w' → ∃ u, e = .returned u ∧ K (a.put o.dst u) w') : o.wp Tryz.prog a w K Q := by
  have hf : a.eval (.func 10) = .func (.func 10) #[] #[] := rfl
  have hm : (execOp a.eval o).run Tryz.prog w = .ok (.enter 10 #[v]) w := by
    clear hK hc
    generalize a.eval = ev at *
    unfold execOp
    rw [ho]
    simp [hx, hf, go_sem]
  unfold Oper.wp
  rw [hm, Oper.upon_enter]
  refine hc.mono ?_
  intro e w' h
  obtain ⟨u, rfl, h2⟩ := hK e w' h
  exact h2
theorem wp_bld29 {z : Operand} {a1 a2 : Option Addr} {l1 c1 l2 c2 : Nat} {n : Int} (ho : o.op = .build 29 #[(0, x), (1, y), (2, z)]) (hx : a.eval x = .slice a1 l1 c1) (hy : a.eval y = .slice a2 l2 c2) (hz : a.eval z = .int .i64 n) (hK : K (a.put o.dst (.agg #[.slice a1 l1 c1, .slice a2 l2 c2, .int .i64 n])) w) : o.wp Tryz.prog a w K Q := by
  refine wp_retZ ?_ hK
  clear hK
  generalize a.eval = ev at *
  unfold execOp; rw [ho]; simp [hx, hy, hz, go_sem]
theorem wp_alloc29 (ho : o.op = .alloc 29) (hK : K (a.put o.dst (.pointer (some ⟨w.heap.size, 0, none⟩))) (w.alloc (.cells #[.slice none 0 0, .slice none 0 0, .int .i64 0] 29))) : o.wp Tryz.prog a w K Q := by
  refine wp_retZ ?_ hK
  clear hK
  unfold execOp; rw [ho]; simp [go_sem]
/-- Three cells written to. -/
def three (w : World) (G : Nat) (v0 v1 v2 : Value) : World := ((w.setCell ⟨G, 0, none⟩ v0).setCell ⟨G, 1, none⟩ v1).setCell ⟨G, 2, none⟩ v2
theorem set_offZ (w : World) {G i j : Nat} (h : i ≠ j) (v : Value) : (w.setCell ⟨G, i, none⟩ v).cell? ⟨G, j, none⟩ = w.cell? ⟨G, j, none⟩ := by
  have hne : (⟨G, i, none⟩ : Addr) ≠ ⟨G, j, none⟩ := fun c => h (Addr.mk.inj c).2.1
  rw [World.cell?_setCell_other _ _ _ _ (by first | exact hne | exact hne.symm)]
theorem three_same (w : World) {G : Nat} {u0 u1 u2 : Value} (h0 : w.cell? ⟨G, 0, none⟩ = some u0) (h1 : w.cell? ⟨G, 1, none⟩ = some u1) (h2 : w.cell? ⟨G, 2, none⟩ = some u2) (v0 v1 v2 : Value) :
    (three w G v0 v1 v2).cell? ⟨G, 0, none⟩ = some v0 ∧ (three w G v0 v1 v2).cell? ⟨G, 1, none⟩ = some v1 ∧ (three w G v0 v1 v2).cell? ⟨G, 2, none⟩ = some v2 := by
  unfold three
  refine ⟨?_, ?_, ?_⟩
  · rw [set_offZ _ (by decide), set_offZ _ (by decide)]
    exact World.cell?_setCell_same _ _ _ h0
  · rw [set_offZ _ (by decide)]
    exact World.cell?_setCell_same _ _ _ ((set_offZ _ (by decide) _).trans h1)
  · exact World.cell?_setCell_same _ _ _ ((set_offZ _ (by decide) _).trans ((set_offZ _ (by decide) _).trans h2))
theorem three_below {base : Nat} {w0 w : World} (h : Below base w0 w) {G : Nat} (hG : base ≤ G) (v0 v1 v2 : Value) : Below base w0 (three w G v0 v1 v2) :=
  below_setCell (below_setCell (below_setCell h _ _ _ hG) _ _ _ hG) _ _ _ hG
theorem three_size (w : World) (G : Nat) (v0 v1 v2 : Value) : (three w G v0 v1 v2).heap.size = w.heap.size := by simp [three, World.setCell]
theorem three_block (w : World) {G k : Nat} (h : G ≠ k) (v0 v1 v2 : Value) : (three w G v0 v1 v2).heap[k]? = w.heap[k]? := by
  have hne : ∀ i, (⟨G, i, none⟩ : Addr).block ≠ k := fun i => h
  unfold three
  rw [Below.heap_setCell _ _ _ _ (by first | exact h | exact h.symm), Below.heap_setCell _ _ _ _ (by first | exact h | exact h.symm), Below.heap_setCell _ _ _ _ (by first | exact h | exact h.symm)]
theorem wp_st29 {nb : Nat} {a1 a2 : Option Addr} {l1 c1 l2 c2 : Nat} {n : Int} {u0 u1 u2 : Value} (ho : o.op = .store 29 x y) (hx : a.eval x = .pointer (some ⟨nb, 0, none⟩)) (hy : a.eval y = .agg #[.slice a1 l1 c1, .slice a2 l2 c2, .int .i64 n]) (hc : w.heap[nb]? = some (.cells #[u0, u1, u2] 29 (0, 0)))
    (hK : K (a.put o.dst undef) (three w nb (.slice a1 l1 c1) (.slice a2 l2 c2) (.int .i64 n))) : o.wp Tryz.prog a w K Q := by
  have hc0 : w.cell? ⟨nb, 0, none⟩ = some u0 := by unfold World.cell?; rw [hc]; rfl
  have hc1 : w.cell? ⟨nb, 1, none⟩ = some u1 := by unfold World.cell?; rw [hc]; rfl
  have hc2 : w.cell? ⟨nb, 2, none⟩ = some u2 := by unfold World.cell?; rw [hc]; rfl
  have hf0 : w.frozen? ⟨nb, 0, none⟩ = false := by unfold World.frozen?; rw [hc]; rfl
  have hf1 : w.frozen? ⟨nb, 1, none⟩ = false := by unfold World.frozen?; rw [hc]; rfl
  have hf2 : w.frozen? ⟨nb, 2, none⟩ = false := by unfold World.frozen?; rw [hc]; rfl
  have hd1 : (w.setCell ⟨nb, 0, none⟩ (.slice a1 l1 c1)).cell? ⟨nb, 1, none⟩ = some u1 := (set_offZ _ (by decide) _).trans hc1
  have hd2 : ((w.setCell ⟨nb, 0, none⟩ (.slice a1 l1 c1)).setCell ⟨nb, 1, none⟩ (.slice a2 l2 c2)).cell? ⟨nb, 2, none⟩ = some u2 := (set_offZ _ (by decide) _).trans ((set_offZ _ (by decide) _).trans hc2)
  have hr : (execOp a.eval o).run Tryz.prog w = .ok .skip (three w nb (.slice a1 l1 c1) (.slice a2 l2 c2) (.int .i64 n)) := by
    clear hK hc
    generalize a.eval = ev at *
    unfold execOp three; rw [ho]; simp [hx, hy, hc0, hf0, hf1, hf2, hd1, hd2, go_sem]
  unfold Oper.wp; rw [hr]; exact hK
end
theorem TwinI.other {w w' : World} {b len cap : Nat} {l : List Int} (h : TwinI w b len cap l) (hz : w.heap.size ≤ w'.heap.size) (hb : w'.heap[b]? = w.heap[b]?) : TwinI w' b len cap l := ⟨h.length, h.row.keep hz hb⟩

/-- The region's operations. -/
structure IsTw (l : List Oper) : Prop where
  len : l.length = 11
  k0 : OpAt l 0 (some 14) (.fieldAddr 24 (.tmp 1) 0) []
  k1 : OpAt l 1 (some 15) (.load 22 (.tmp 14)) [0]
  k2 : OpAt l 2 (some 16) (.call { callee := .value (.func 10), args := #[.tmp 15], argTypes := #[22] }) [1]
  k3 : OpAt l 3 (some 17) (.fieldAddr 24 (.tmp 1) 1) []
  k4 : OpAt l 4 (some 18) (.load 22 (.tmp 17)) [3]
  k5 : OpAt l 5 (some 19) (.call { callee := .value (.func 10), args := #[.tmp 18], argTypes := #[22] }) [4, 2]
  k6 : OpAt l 6 (some 20) (.fieldAddr 24 (.tmp 1) 2) []
  k7 : OpAt l 7 (some 21) (.load 3 (.tmp 20)) [6]
  k8 : OpAt l 8 (some 22) (.build 29 #[(0, .tmp 16), (1, .tmp 19), (2, .tmp 21)]) [2, 5, 7]
  k9 : OpAt l 9 (some 3) (.alloc 29) []
  k10 : OpAt l 10 none (.store 29 (.tmp 3) (.tmp 22)) [0, 1, 2, 3, 4, 5, 6, 7, 8, 9]

def constT (gb : Nat) (vi vp : Value) (room : Int) : Nat → Option Value
  | 0 => some (.pointer (some ⟨gb, 0, none⟩)) | 1 => some vi | 3 => some (.pointer (some ⟨gb, 1, none⟩)) | 4 => some vp | 6 => some (.pointer (some ⟨gb, 2, none⟩)) | 7 => some (.int .i64 room) | _ => none

structure PreT (wq : World) (li lp : Nat) (inn pin : List Int) (room : Int) (B : Nat → Bool) (vals : Nat → Value) (w : World) : Prop where
  bel : Below wq.heap.size wq w
  r5 : B 5 = true → B 2 = true
  c2 : B 2 = true → ∃ b c, vals 2 = .slice (some ⟨b, 0, none⟩) li c ∧ wq.heap.size ≤ b ∧ TwinI w b li c inn
  c5 : B 5 = true → ∃ b c, vals 5 = .slice (some ⟨b, 0, none⟩) lp c ∧ wq.heap.size ≤ b ∧ TwinI w b lp c pin
  bld : B 8 = true → vals 8 = .agg #[vals 2, vals 5, .int .i64 room] ∧ B 2 = true ∧ B 5 = true
  box : B 9 = true → ∃ nb, vals 9 = .pointer (some ⟨nb, 0, none⟩) ∧ wq.heap.size ≤ nb ∧ w.heap[nb]? = some (.cells #[.slice none 0 0, .slice none 0 0, .int .i64 0] 29 (0, 0))
  n25 : B 2 = true → B 5 = true → ∀ b, (vals 2).ownBlock = some b → (vals 5).ownBlock ≠ some b
  n29 : B 2 = true → B 9 = true → ∀ b, (vals 2).ownBlock = some b → vals 9 ≠ .pointer (some ⟨b, 0, none⟩)
  n59 : B 5 = true → B 9 = true → ∀ b, (vals 5).ownBlock = some b → vals 9 ≠ .pointer (some ⟨b, 0, none⟩)
/-- What the region leaves. -/
structure FinT (wq : World) (li lp : Nat) (inn pin : List Int) (room : Int) (w : World) (nb b c b' c' : Nat) : Prop where
  bel : Below wq.heap.size wq w
  lo : wq.heap.size ≤ nb
  lt : nb < w.heap.size
  x0 : w.cell? ⟨nb, 0, none⟩ = some (.slice (some ⟨b, 0, none⟩) li c)
  x1 : w.cell? ⟨nb, 1, none⟩ = some (.slice (some ⟨b', 0, none⟩) lp c')
  x2 : w.cell? ⟨nb, 2, none⟩ = some (.int .i64 room)
  t1 : TwinI w b li c inn
  t2 : TwinI w b' lp c' pin
  lo1 : wq.heap.size ≤ b
  lo2 : wq.heap.size ≤ b'
  ne : b ≠ b'
  ne1 : nb ≠ b
  ne2 : nb ≠ b'
structure InvT (wq : World) (gb : Nat) (vi vp : Value) (li lp : Nat) (inn pin : List Int) (room : Int) (B : Nat → Bool) (vals : Nat → Value) (w : World) : Prop where
  cs : ∀ i c, constT gb vi vp room i = some c → B i = true → vals i = c
  d10 : B 10 = true → ∀ j, j < 10 → B j = true
  pre : B 10 = false → PreT wq li lp inn pin room B vals w
  fin : B 10 = true → ∃ nb b c b' c', vals 9 = .pointer (some ⟨nb, 0, none⟩) ∧ vals 2 = .slice (some ⟨b, 0, none⟩) li c ∧ vals 5 = .slice (some ⟨b', 0, none⟩) lp c' ∧ vals 8 = .agg #[.slice (some ⟨b, 0, none⟩) li c, .slice (some ⟨b', 0, none⟩) lp c', .int .i64 room] ∧ FinT wq li lp inn pin room w nb b c b' c'

section
variable {wq : World} {gb : Nat} {vi vp : Value} {li lp : Nat} {inn pin : List Int} {room : Int}
theorem InvT.put {B : Nat → Bool} {vals : Nat → Value} {w : World} (I : InvT wq gb vi vp li lp inn pin room B vals w) {i : Nat} (hi : i < 10) (hn : B i = false) (v : Value) (w' : World) (hc : ∀ c, constT gb vi vp room i = some c → v = c)
    (hp : PreT wq li lp inn pin room B vals w → PreT wq li lp inn pin room (setBZ B i) (updV vals i v) w') : InvT wq gb vi vp li lp inn pin room (setBZ B i) (updV vals i v) w' := by
  have h10 : B 10 = false := by
    cases h : B 10 with
    | false => rfl
    | true => have := I.d10 h i hi; rw [hn] at this; cases this
  have e10 : setBZ B i 10 = false := by rw [setBZ_ne B (by omega)]; exact h10
  refine ⟨fun j x hj hb => ?_, fun h => (by rw [e10] at h; cases h), fun _ => hp (I.pre h10), fun h => (by rw [e10] at h; cases h)⟩
  by_cases e : i = j
  · subst e; rw [updV_at]; exact hc _ hj
  · rw [updV_ne _ _ _ (Ne.symm e)]; rw [setBZ_ne B e] at hb; exact I.cs j x hj hb
theorem PreT.pure {B : Nat → Bool} {vals : Nat → Value} {w : World} (I : PreT wq li lp inn pin room B vals w) {i : Nat} (h2 : i ≠ 2) (h5 : i ≠ 5) (h8 : i ≠ 8) (h9 : i ≠ 9) (v : Value) : PreT wq li lp inn pin room (setBZ B i) (updV vals i v) w := by
  have e2 := setBZ_ne B h2
  have e5 := setBZ_ne B h5
  have e8 := setBZ_ne B h8
  have e9 := setBZ_ne B h9
  have u2 := updV_ne vals i v (Ne.symm h2)
  have u5 := updV_ne vals i v (Ne.symm h5)
  have u8 := updV_ne vals i v (Ne.symm h8)
  have u9 := updV_ne vals i v (Ne.symm h9)
  exact ⟨I.bel, by rw [e5, e2]; exact I.r5, by rw [e2, u2]; exact I.c2, by rw [e5, u5]; exact I.c5, by rw [e8, u8, u2, u5, e2, e5]; exact I.bld, by rw [e9, u9]; exact I.box, by rw [e2, e5, u2, u5]; exact I.n25, by rw [e2, e9, u2, u9]; exact I.n29, by rw [e5, e9, u5, u9]; exact I.n59⟩
theorem PreT.b2 {B : Nat → Bool} {vals : Nat → Value} {w w' : World} (I : PreT wq li lp inn pin room B vals w) (hn : B 2 = false) (hb : Below w.heap.size w w') {b c : Nat} (hlo : w.heap.size ≤ b) (hT : TwinI w' b li c inn) : PreT wq li lp inn pin room (setBZ B 2) (updV vals 2 (.slice (some ⟨b, 0, none⟩) li c)) w' := by
  have e5 := setBZ_ne B (show 2 ≠ 5 by decide)
  have e8 := setBZ_ne B (show 2 ≠ 8 by decide)
  have e9 := setBZ_ne B (show 2 ≠ 9 by decide)
  have h5 : B 5 = false := by
    cases h : B 5 with
    | false => rfl
    | true => have := I.r5 h; rw [hn] at this; cases this
  have h8 : B 8 = false := by
    cases h : B 8 with
    | false => rfl
    | true => have := (I.bld h).2.1; rw [hn] at this; cases this
  have u9 := updV_ne vals 2 (.slice (some ⟨b, 0, none⟩) li c) (show 9 ≠ 2 by decide)
  have hz := I.bel.size
  refine ⟨I.bel.trans (hb.mono hz), fun _ => setBZ_at B 2, fun _ => ⟨b, c, updV_at _ _ _, by omega, hT⟩, fun h => (by rw [e5, h5] at h; cases h), fun h => (by rw [e8, h8] at h; cases h), fun h => ?_, fun _ h => (by rw [e5, h5] at h; cases h), fun _ h b' hb' => ?_, fun h => (by rw [e5, h5] at h; cases h)⟩
  · rw [e9] at h
    obtain ⟨nb, h1, h2, h3⟩ := I.box h
    have hlt : nb < w.heap.size := (Array.getElem?_eq_some_iff.1 h3).1
    exact ⟨nb, by rw [u9]; exact h1, h2, by rw [hb.block nb hlt]; exact h3⟩
  · rw [e9] at h
    rw [updV_at] at hb'
    rw [u9]
    obtain ⟨nb, h1, h2, h3⟩ := I.box h
    have hlt : nb < w.heap.size := (Array.getElem?_eq_some_iff.1 h3).1
    rw [h1]
    intro e
    have hb2 : b = b' := Option.some.inj hb'
    injection e with e; injection e with e; injection e with e _ _
    omega
theorem PreT.b5 {B : Nat → Bool} {vals : Nat → Value} {w w' : World} (I : PreT wq li lp inn pin room B vals w) (h2 : B 2 = true) (hn : B 5 = false) (hb : Below w.heap.size w w') {b c : Nat} (hlo : w.heap.size ≤ b) (hT : TwinI w' b lp c pin) : PreT wq li lp inn pin room (setBZ B 5) (updV vals 5 (.slice (some ⟨b, 0, none⟩) lp c)) w' := by
  have e2 := setBZ_ne B (show 5 ≠ 2 by decide)
  have e8 := setBZ_ne B (show 5 ≠ 8 by decide)
  have e9 := setBZ_ne B (show 5 ≠ 9 by decide)
  have h8 : B 8 = false := by
    cases h : B 8 with
    | false => rfl
    | true => have := (I.bld h).2.2; rw [hn] at this; cases this
  have u9 := updV_ne vals 5 (.slice (some ⟨b, 0, none⟩) lp c) (show 9 ≠ 5 by decide)
  have u2 := updV_ne vals 5 (.slice (some ⟨b, 0, none⟩) lp c) (show 2 ≠ 5 by decide)
  have hz := I.bel.size
  obtain ⟨bb, cc, v2, lo2, T2⟩ := I.c2 h2
  have hlt2 := T2.row.lt
  refine ⟨I.bel.trans (hb.mono hz), fun _ => by rw [e2]; exact h2, fun _ => ⟨bb, cc, by rw [u2]; exact v2, lo2, T2.below hb⟩, fun _ => ⟨b, c, updV_at _ _ _, by omega, hT⟩, fun h => (by rw [e8, h8] at h; cases h), fun h => ?_, fun _ _ b' hb' => ?_, fun _ h => ?_, fun _ h b' hb' => ?_⟩
  · rw [e9] at h
    obtain ⟨nb, h1, h2, h3⟩ := I.box h
    have hlt : nb < w.heap.size := (Array.getElem?_eq_some_iff.1 h3).1
    exact ⟨nb, by rw [u9]; exact h1, h2, by rw [hb.block nb hlt]; exact h3⟩
  · rw [u2, v2] at hb'
    have hb2 : bb = b' := Option.some.inj hb'
    rw [updV_at]
    intro e
    have hb3 : b = b' := Option.some.inj e
    omega
  · rw [e9] at h
    rw [u2, u9]; exact I.n29 h2 h
  · rw [e9] at h
    rw [updV_at] at hb'
    rw [u9]
    obtain ⟨nb, h1, h2, h3⟩ := I.box h
    have hlt : nb < w.heap.size := (Array.getElem?_eq_some_iff.1 h3).1
    rw [h1]
    intro e
    have hb2 : b = b' := Option.some.inj hb'
    injection e with e; injection e with e; injection e with e _ _
    omega
theorem PreT.b8 {B : Nat → Bool} {vals : Nat → Value} {w : World} (I : PreT wq li lp inn pin room B vals w) (h2 : B 2 = true) (h5 : B 5 = true) : PreT wq li lp inn pin room (setBZ B 8) (updV vals 8 (.agg #[vals 2, vals 5, .int .i64 room])) w := by
  have e2 := setBZ_ne B (show 8 ≠ 2 by decide)
  have e5 := setBZ_ne B (show 8 ≠ 5 by decide)
  have e9 := setBZ_ne B (show 8 ≠ 9 by decide)
  have u2 := updV_ne vals 8 (.agg #[vals 2, vals 5, .int .i64 room]) (show 2 ≠ 8 by decide)
  have u5 := updV_ne vals 8 (.agg #[vals 2, vals 5, .int .i64 room]) (show 5 ≠ 8 by decide)
  have u9 := updV_ne vals 8 (.agg #[vals 2, vals 5, .int .i64 room]) (show 9 ≠ 8 by decide)
  exact ⟨I.bel, by rw [e5, e2]; exact I.r5, by rw [e2, u2]; exact I.c2, by rw [e5, u5]; exact I.c5, fun _ => ⟨by rw [updV_at, u2, u5], by rw [e2]; exact h2, by rw [e5]; exact h5⟩, by rw [e9, u9]; exact I.box, by rw [e2, e5, u2, u5]; exact I.n25, by rw [e2, e9, u2, u9]; exact I.n29, by rw [e5, e9, u5, u9]; exact I.n59⟩
theorem PreT.b9 {B : Nat → Bool} {vals : Nat → Value} {w : World} (I : PreT wq li lp inn pin room B vals w) : PreT wq li lp inn pin room (setBZ B 9) (updV vals 9 (.pointer (some ⟨w.heap.size, 0, none⟩))) (w.alloc (.cells #[.slice none 0 0, .slice none 0 0, .int .i64 0] 29)) := by
  have e2 := setBZ_ne B (show 9 ≠ 2 by decide)
  have e5 := setBZ_ne B (show 9 ≠ 5 by decide)
  have e8 := setBZ_ne B (show 9 ≠ 8 by decide)
  have u2 := updV_ne vals 9 (.pointer (some ⟨w.heap.size, 0, none⟩)) (show 2 ≠ 9 by decide)
  have u5 := updV_ne vals 9 (.pointer (some ⟨w.heap.size, 0, none⟩)) (show 5 ≠ 9 by decide)
  have u8 := updV_ne vals 9 (.pointer (some ⟨w.heap.size, 0, none⟩)) (show 8 ≠ 9 by decide)
  have hb : Below w.heap.size w (w.alloc (.cells #[.slice none 0 0, .slice none 0 0, .int .i64 0] 29)) := (Below.refl _ _).alloc (Nat.le_refl _) _
  have hz := I.bel.size
  refine ⟨I.bel.trans (hb.mono hz), by rw [e5, e2]; exact I.r5, fun h => ?_, fun h => ?_, by rw [e8, u8, u2, u5, e2, e5]; exact I.bld, fun _ => ⟨w.heap.size, updV_at _ _ _, hz, by show (w.heap.push _)[w.heap.size]? = _; simp⟩, by rw [e2, e5, u2, u5]; exact I.n25, fun h _ b hb' => ?_, fun h _ b hb' => ?_⟩
  · rw [e2] at h; rw [u2]
    obtain ⟨b, c, h1, h2, h3⟩ := I.c2 h
    exact ⟨b, c, h1, h2, h3.below hb⟩
  · rw [e5] at h; rw [u5]
    obtain ⟨b, c, h1, h2, h3⟩ := I.c5 h
    exact ⟨b, c, h1, h2, h3.below hb⟩
  · rw [e2] at h
    rw [u2] at hb'
    obtain ⟨b', c, h1, h2, h3⟩ := I.c2 h
    have := h3.row.lt
    rw [h1] at hb'
    have hb2 : b' = b := Option.some.inj hb'
    rw [updV_at]
    intro e
    injection e with e; injection e with e; injection e with e _ _
    omega
  · rw [e5] at h
    rw [u5] at hb'
    obtain ⟨b', c, h1, h2, h3⟩ := I.c5 h
    have := h3.row.lt
    rw [h1] at hb'
    have hb2 : b' = b := Option.some.inj hb'
    rw [updV_at]
    intro e
    injection e with e; injection e with e; injection e with e _ _
    omega

def finT (gb : Nat) (vi vp : Value) (room : Int) (v2 v5 v8 v9 : Value) : Nat → Value := fun i => if i = 2 then v2 else if i = 5 then v5 else if i = 8 then v8 else if i = 9 then v9 else (constT gb vi vp room i).getD undef

set_option maxHeartbeats 2000000 in
theorem twins_region {ops : List Oper} (S : IsTw ops) {size : Nat} {Q : Exit → Act → World → Prop} {id : Nat} {a0 : Act} (ai ap : Option Addr) (ci cp : Nat) (hvi : vi = .slice ai li ci) (hvp : vp = .slice ap lp cp) (hs : a0.tmps.size = size) (hB : canonB ops size = true) (e1 : a0.eval (.tmp 1) = .pointer (some ⟨gb, 0, none⟩))
    (hlt : gb < wq.heap.size) (hx0 : wq.cell? ⟨gb, 0, none⟩ = some vi) (hx1 : wq.cell? ⟨gb, 1, none⟩ = some vp) (hx2 : wq.cell? ⟨gb, 2, none⟩ = some (.int .i64 room)) (hI : Ints wq ai li ci inn) (hP : Ints wq ap lp cp pin) (hli : li ≤ 1000000) (hlp : lp ≤ 1000000)
    (hQ : ∀ nb b c b' c' W, FinT wq li lp inn pin room W nb b c b' c' → Q .normal ((((((((((a0.put (some 14) (.pointer (some ⟨gb, 0, none⟩))).put (some 15) vi).put (some 16) (.slice (some ⟨b, 0, none⟩) li c)).put (some 17) (.pointer (some ⟨gb, 1, none⟩))).put (some 18) vp).put (some 19) (.slice (some ⟨b', 0, none⟩) lp c')).put (some 20) (.pointer (some ⟨gb, 2, none⟩))).put (some 21) (.int .i64 room)).put (some 22) (.agg #[.slice (some ⟨b, 0, none⟩) li c, .slice (some ⟨b', 0, none⟩) lp c', .int .i64 room])).put (some 3) (.pointer (some ⟨nb, 0, none⟩))) W) :
    (Code.region id ops.toArray true).wp Tryz.prog Q a0 wq := by
  have hBd : Below wq.heap.size wq wq.drew := (Below.refl _ _).drew
  refine wp_region_canon hs mixed hB (fun listed vals w => InvT wq gb vi vp li lp inn pin room (fun k => listed.getD k false) vals w) (fun _ => undef) ?_ ?_ ?_
  · have hf : ∀ k, (Array.replicate ops.length false).getD k false = false := fun k => by
      simp only [Array.getD_eq_getD_getElem?, Array.getElem?_replicate]
      split <;> simp
    simp only [hf]
    exact ⟨(fun _ _ _ h => by cases h), (fun h => by cases h), fun _ => ⟨hBd, (fun h => by cases h), (fun h => by cases h), (fun h => by cases h), (fun h => by cases h), (fun h => by cases h), (fun h => by cases h), (fun h => by cases h), (fun h => by cases h)⟩, (fun h => by cases h)⟩
  · intro listed vals w a i o hz ho hn hdep I hF K hK
    have hi : i < 11 := by rw [← S.len]; exact (List.getElem?_eq_some_iff.1 ho).1
    have hset : ∀ vals' w', InvT wq gb vi vp li lp inn pin room (setBZ (fun k => listed.getD k false) i) vals' w' → InvT wq gb vi vp li lp inn pin room (fun k => (listed.setIfInBounds i true).getD k false) vals' w' := fun vals' w' h => by
      have e : (fun k => (listed.setIfInBounds i true).getD k false) = setBZ (fun k => listed.getD k false) i := funext fun k => getD_set (by rw [hz, S.len]; exact hi)
      rw [e]; exact h
    have hE : ∀ j u c, j < 11 → dstAt ops j = some u → listed.getD j false = true → constT gb vi vp room j = some c → a.eval (.tmp u) = c := fun j u c hj hd hl hc => (hF.new j u (by rw [S.len]; exact hj) hd hl).trans (I.cs j c hc hl)
    have hV : ∀ j u, j < 11 → dstAt ops j = some u → listed.getD j false = true → a.eval (.tmp u) = vals j := fun j u hj hd hl => hF.new j u (by rw [S.len]; exact hj) hd hl
    have hds : ∀ j, j < 11 → dstAt ops j ≠ some 1 := fun j hj h => by
      obtain rfl | rfl | rfl | rfl | rfl | rfl | rfl | rfl | rfl | rfl | rfl : j = 0 ∨ j = 1 ∨ j = 2 ∨ j = 3 ∨ j = 4 ∨ j = 5 ∨ j = 6 ∨ j = 7 ∨ j = 8 ∨ j = 9 ∨ j = 10 := by omega
      · rw [S.k0.dst] at h; cases h
      · rw [S.k1.dst] at h; cases h
      · rw [S.k2.dst] at h; cases h
      · rw [S.k3.dst] at h; cases h
      · rw [S.k4.dst] at h; cases h
      · rw [S.k5.dst] at h; cases h
      · rw [S.k6.dst] at h; cases h
      · rw [S.k7.dst] at h; cases h
      · rw [S.k8.dst] at h; cases h
      · rw [S.k9.dst] at h; cases h
      · rw [S.k10.dst] at h; cases h
    have ev1 : a.eval (.tmp 1) = .pointer (some ⟨gb, 0, none⟩) := (hF.old 1 (fun j hj h => absurd h (hds j (by rw [← S.len]; exact hj)))).trans e1
    have hP10 : ∀ j, j < 10 → listed.getD j false = false → listed.getD 10 false = false := fun j hj h => by
      cases h10 : listed.getD 10 false with
      | false => rfl
      | true => have := I.d10 h10 j hj; rw [h] at this; cases this
    obtain rfl | rfl | rfl | rfl | rfl | rfl | rfl | rfl | rfl | rfl | rfl : i = 0 ∨ i = 1 ∨ i = 2 ∨ i = 3 ∨ i = 4 ∨ i = 5 ∨ i = 6 ∨ i = 7 ∨ i = 8 ∨ i = 9 ∨ i = 10 := by omega
    · obtain ⟨_, hop, hd'⟩ := S.k0.is (B := fun k => listed.getD k false) ho hdep
      exact wp_fld24 (by decide) hop ev1 (hK _ _ (hset _ _ (I.put (by decide) hn _ _ (fun c h => (Option.some.inj h)) fun J => J.pure (by decide) (by decide) (by decide) (by decide) _)))
    · obtain ⟨_, hop, hd'⟩ := S.k1.is (B := fun k => listed.getD k false) ho hdep
      have J := I.pre (hP10 1 (by decide) hn)
      exact wp_ld22 hop (hE 0 14 _ (by decide) S.k0.dst (hd' 0 (by simp)) rfl) ((J.bel.cell (p := ⟨gb, 0, none⟩) hlt).trans hx0) (hK _ _ (hset _ _ (I.put (by decide) hn _ _ (fun c h => (Option.some.inj h)) fun J => J.pure (by decide) (by decide) (by decide) (by decide) _)))
    · obtain ⟨_, hop, hd'⟩ := S.k2.is (B := fun k => listed.getD k false) ho hdep
      have J := I.pre (hP10 2 (by decide) hn)
      refine wp_call10 hop ((hE 1 15 _ (by decide) S.k1.dst (hd' 1 (by simp)) rfl).trans hvi) (twinI_any ai li ci inn w (hI.below J.bel) hli) ?_
      rintro e w' ⟨b, c, rfl, hlo, hT, hb⟩
      exact ⟨_, rfl, hK _ _ (hset _ _ (I.put (by decide) hn _ _ (fun c h => by cases h) fun J => J.b2 hn hb hlo hT))⟩
    · obtain ⟨_, hop, hd'⟩ := S.k3.is (B := fun k => listed.getD k false) ho hdep
      exact wp_fld24 (by decide) hop ev1 (hK _ _ (hset _ _ (I.put (by decide) hn _ _ (fun c h => (Option.some.inj h)) fun J => J.pure (by decide) (by decide) (by decide) (by decide) _)))
    · obtain ⟨_, hop, hd'⟩ := S.k4.is (B := fun k => listed.getD k false) ho hdep
      have J := I.pre (hP10 4 (by decide) hn)
      exact wp_ld22 hop (hE 3 17 _ (by decide) S.k3.dst (hd' 3 (by simp)) rfl) ((J.bel.cell (p := ⟨gb, 1, none⟩) hlt).trans hx1) (hK _ _ (hset _ _ (I.put (by decide) hn _ _ (fun c h => (Option.some.inj h)) fun J => J.pure (by decide) (by decide) (by decide) (by decide) _)))
    · obtain ⟨_, hop, hd'⟩ := S.k5.is (B := fun k => listed.getD k false) ho hdep
      have J := I.pre (hP10 5 (by decide) hn)
      refine wp_call10 hop ((hE 4 18 _ (by decide) S.k4.dst (hd' 4 (by simp)) rfl).trans hvp) (twinI_any ap lp cp pin w (hP.below J.bel) hlp) ?_
      rintro e w' ⟨b, c, rfl, hlo, hT, hb⟩
      exact ⟨_, rfl, hK _ _ (hset _ _ (I.put (by decide) hn _ _ (fun c h => by cases h) fun J => J.b5 (hd' 2 (by simp)) hn hb hlo hT))⟩
    · obtain ⟨_, hop, hd'⟩ := S.k6.is (B := fun k => listed.getD k false) ho hdep
      exact wp_fld24 (by decide) hop ev1 (hK _ _ (hset _ _ (I.put (by decide) hn _ _ (fun c h => (Option.some.inj h)) fun J => J.pure (by decide) (by decide) (by decide) (by decide) _)))
    · obtain ⟨_, hop, hd'⟩ := S.k7.is (B := fun k => listed.getD k false) ho hdep
      have J := I.pre (hP10 7 (by decide) hn)
      exact wp_ld3 hop (hE 6 20 _ (by decide) S.k6.dst (hd' 6 (by simp)) rfl) ((J.bel.cell (p := ⟨gb, 2, none⟩) hlt).trans hx2) (hK _ _ (hset _ _ (I.put (by decide) hn _ _ (fun c h => (Option.some.inj h)) fun J => J.pure (by decide) (by decide) (by decide) (by decide) _)))
    · obtain ⟨_, hop, hd'⟩ := S.k8.is (B := fun k => listed.getD k false) ho hdep
      have J := I.pre (hP10 8 (by decide) hn)
      have h2 : listed.getD 2 false = true := hd' 2 (by simp)
      have h5 : listed.getD 5 false = true := hd' 5 (by simp)
      obtain ⟨b, c, e2, _⟩ := J.c2 h2
      obtain ⟨b', c', e5, _⟩ := J.c5 h5
      refine wp_bld29 hop ((hV 2 16 (by decide) S.k2.dst h2).trans e2) ((hV 5 19 (by decide) S.k5.dst h5).trans e5) (hE 7 21 _ (by decide) S.k7.dst (hd' 7 (by simp)) rfl) ?_
      rw [← e2, ← e5]
      exact hK _ _ (hset _ _ (I.put (by decide) hn _ _ (fun c h => by cases h) fun J => J.b8 h2 h5))
    · obtain ⟨_, hop, hd'⟩ := S.k9.is (B := fun k => listed.getD k false) ho hdep
      exact wp_alloc29 hop (hK _ _ (hset _ _ (I.put (by decide) hn _ _ (fun c h => by cases h) fun J => J.b9)))
    · obtain ⟨_, hop, hd'⟩ := S.k10.is (B := fun k => listed.getD k false) ho hdep
      have J := I.pre hn
      have h2 : listed.getD 2 false = true := hd' 2 (by simp)
      have h5 : listed.getD 5 false = true := hd' 5 (by simp)
      have h8 : listed.getD 8 false = true := hd' 8 (by simp)
      have h9 : listed.getD 9 false = true := hd' 9 (by simp)
      obtain ⟨b, c, e2, lo2, T2⟩ := J.c2 h2
      obtain ⟨b', c', e5, lo5, T5⟩ := J.c5 h5
      obtain ⟨e8, _⟩ := J.bld h8
      obtain ⟨nb, e9, lo9, hh⟩ := J.box h9
      rw [e2, e5] at e8
      have hne : b ≠ b' := fun e => J.n25 h2 h5 b (by rw [e2]; rfl) (by rw [e5, e]; rfl)
      have hne1 : nb ≠ b := fun e => J.n29 h2 h9 b (by rw [e2]; rfl) (by rw [e9, e])
      have hne2 : nb ≠ b' := fun e => J.n59 h5 h9 b' (by rw [e5]; rfl) (by rw [e9, e])
      have hlt9 : nb < w.heap.size := (Array.getElem?_eq_some_iff.1 hh).1
      refine wp_st29 hop ((hV 9 3 (by decide) S.k9.dst h9).trans e9) ((hV 8 22 (by decide) S.k8.dst h8).trans e8) hh ?_
      have hc0 : w.cell? ⟨nb, 0, none⟩ = some (.slice none 0 0) := by unfold World.cell?; rw [hh]; rfl
      have hc1 : w.cell? ⟨nb, 1, none⟩ = some (.slice none 0 0) := by unfold World.cell?; rw [hh]; rfl
      have hc2 : w.cell? ⟨nb, 2, none⟩ = some (.int .i64 0) := by unfold World.cell?; rw [hh]; rfl
      obtain ⟨y0, y1, y2⟩ := three_same w hc0 hc1 hc2 (.slice (some ⟨b, 0, none⟩) li c) (.slice (some ⟨b', 0, none⟩) lp c') (.int .i64 room)
      have hzz := three_size w nb (.slice (some ⟨b, 0, none⟩) li c) (.slice (some ⟨b', 0, none⟩) lp c') (.int .i64 room)
      have hb1 := three_block w hne1 (.slice (some ⟨b, 0, none⟩) li c) (.slice (some ⟨b', 0, none⟩) lp c') (.int .i64 room)
      have hb2 := three_block w hne2 (.slice (some ⟨b, 0, none⟩) li c) (.slice (some ⟨b', 0, none⟩) lp c') (.int .i64 room)
      refine hK _ _ (hset _ _ ⟨fun j x hj hb => ?_, fun _ j hj => ?_, fun h => (by rw [setBZ_at] at h; cases h), fun _ => ⟨nb, b, c, b', c', by rw [updV_ne _ _ _ (by decide)]; exact e9, by rw [updV_ne _ _ _ (by decide)]; exact e2, by rw [updV_ne _ _ _ (by decide)]; exact e5, by rw [updV_ne _ _ _ (by decide)]; exact e8,
        ⟨three_below J.bel lo9 _ _ _, lo9, by rw [hzz]; exact hlt9, y0, y1, y2, T2.other (by rw [hzz]; exact Nat.le_refl _) hb1, T5.other (by rw [hzz]; exact Nat.le_refl _) hb2, lo2, lo5, hne, hne1, hne2⟩⟩⟩)
      · have e : (10 : Nat) ≠ j := fun e => by subst e; cases hj
        rw [updV_ne _ _ _ (Ne.symm e)]; rw [setBZ_ne _ e] at hb; exact I.cs j x hj hb
      · rw [setBZ_ne _ (by omega)]
        exact hd' j (by simp only [List.mem_cons, List.not_mem_nil, or_false]; omega)
  · intro listed vals w hall I
    have hA : ∀ i, i < 11 → listed.getD i false = true := fun i hi => hall i (by rw [S.len]; exact hi)
    obtain ⟨nb, b, c, b', c', e9, e2, e5, e8, F⟩ := I.fin (hA 10 (by decide))
    have := hQ nb b c b' c' w F
    rw [S.len]
    rw [puts_congr 11 (vals' := finT gb vi vp room (vals 2) (vals 5) (vals 8) (vals 9)) ?_]
    · have hnone : ∀ (a : Act) (v : Value), a.put none v = a := fun _ _ => rfl
      have q0 : ∀ v2 v5 v8 v9, finT gb vi vp room v2 v5 v8 v9 0 = .pointer (some ⟨gb, 0, none⟩) := fun _ _ _ _ => rfl
      have q1 : ∀ v2 v5 v8 v9, finT gb vi vp room v2 v5 v8 v9 1 = vi := fun _ _ _ _ => rfl
      have q2 : ∀ v2 v5 v8 v9, finT gb vi vp room v2 v5 v8 v9 2 = v2 := fun _ _ _ _ => rfl
      have q3 : ∀ v2 v5 v8 v9, finT gb vi vp room v2 v5 v8 v9 3 = .pointer (some ⟨gb, 1, none⟩) := fun _ _ _ _ => rfl
      have q4 : ∀ v2 v5 v8 v9, finT gb vi vp room v2 v5 v8 v9 4 = vp := fun _ _ _ _ => rfl
      have q5 : ∀ v2 v5 v8 v9, finT gb vi vp room v2 v5 v8 v9 5 = v5 := fun _ _ _ _ => rfl
      have q6 : ∀ v2 v5 v8 v9, finT gb vi vp room v2 v5 v8 v9 6 = .pointer (some ⟨gb, 2, none⟩) := fun _ _ _ _ => rfl
      have q7 : ∀ v2 v5 v8 v9, finT gb vi vp room v2 v5 v8 v9 7 = .int .i64 room := fun _ _ _ _ => rfl
      have q8 : ∀ v2 v5 v8 v9, finT gb vi vp room v2 v5 v8 v9 8 = v8 := fun _ _ _ _ => rfl
      have q9 : ∀ v2 v5 v8 v9, finT gb vi vp room v2 v5 v8 v9 9 = v9 := fun _ _ _ _ => rfl
      simp only [putsK, S.k0.dst, S.k1.dst, S.k2.dst, S.k3.dst, S.k4.dst, S.k5.dst, S.k6.dst, S.k7.dst, S.k8.dst, S.k9.dst, S.k10.dst, hnone, q0, q1, q2, q3, q4, q5, q6, q7, q8, q9, e2, e5, e8, e9]
      exact this
    · intro i hi
      obtain rfl | rfl | rfl | rfl | rfl | rfl | rfl | rfl | rfl | rfl | rfl : i = 0 ∨ i = 1 ∨ i = 2 ∨ i = 3 ∨ i = 4 ∨ i = 5 ∨ i = 6 ∨ i = 7 ∨ i = 8 ∨ i = 9 ∨ i = 10 := by omega
      · exact .inr (I.cs 0 _ rfl (hA 0 (by decide)))
      · exact .inr (I.cs 1 _ rfl (hA 1 (by decide)))
      · exact .inr rfl
      · exact .inr (I.cs 3 _ rfl (hA 3 (by decide)))
      · exact .inr (I.cs 4 _ rfl (hA 4 (by decide)))
      · exact .inr rfl
      · exact .inr (I.cs 6 _ rfl (hA 6 (by decide)))
      · exact .inr (I.cs 7 _ rfl (hA 7 (by decide)))
      · exact .inr rfl
      · exact .inr rfl
      · exact .inl S.k10.dst
end
end Go.Proofs.YtekejcnphmnidaaGreatDoor
