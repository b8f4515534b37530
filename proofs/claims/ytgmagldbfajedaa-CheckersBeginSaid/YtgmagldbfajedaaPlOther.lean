/-
  What a grown slice that is none of the making's leaves (MkSt.other); rows of integers as a grid (grid_two, grid_three).
-/
import Derived.Test.YtgmagldbfajedaaPlMakes
namespace Go.Proofs.Ytgmagldbfajedaa
open Go.RowKit
section
variable {w0 : World} {M : Nat} {vg vc vb vo : Value} {room : Int} {again : Bool} {at_ : Int} {st : Pl.St} {w w' : World}

/-- A slice that is held grows: the making stays, and all else that is held. -/
theorem MkSt.other (H : MkSt w0 M vg vc vb vo room again at_ st w) {r : Option Nat} (hg : w.grownBy w' r) (hr : ∀ k, r = some k → Held M w k ∧ w0.heap.size ≤ k) :
    MkSt w0 M vg vc vb vo room again at_ st w' ∧ ∀ k, Held M w k → r ≠ some k → Held M w' k ∧ w'.heap[k]? = w.heap[k]? := by
  have hM : r ≠ some M := fun e => (hr M e).1.2.1 rfl
  have hc : ∀ o, w'.cell? ⟨M, o, none⟩ = w.cell? ⟨M, o, none⟩ := fun o => (box_cells H.lt hg hM o).1
  have hf : ∀ o, w'.frozen? ⟨M, o, none⟩ = w.frozen? ⟨M, o, none⟩ := fun o => (box_cells H.lt hg hM o).2
  obtain ⟨vi, vd, vl, o1, o2, o3, o4, o5, o6, o7, o8⟩ := H.own
  have hne : ∀ k, (vi.ownBlock = some k ∨ vd.ownBlock = some k ∨ vl.ownBlock = some k) → r ≠ some k := fun k hk e => by
    have h3 := (hr k e).1.2.2
    rcases hk with h | h | h
    · exact h3 7 (by omega) vi o1 h
    · exact h3 8 (by omega) vd o2 h
    · exact h3 9 (by omega) vl o3 h
  have hbel : Below w0.heap.size w0 w' := H.bel.grown hg H.bel.size (fun k hk => (hr k hk).2)
  refine ⟨⟨H.hM, Nat.lt_of_lt_of_le H.lt hg.size, hbel, (hc 0).trans H.c0, (hc 1).trans H.c1, (hc 2).trans H.c2, (hc 3).trans H.c3, (hc 4).trans H.c4, (hc 5).trans H.c5, (hc 6).trans H.c6, fun o ho => (hf o).trans (H.fr o ho),
    vi, vd, vl, (hc 7).trans o1, (hc 8).trans o2, (hc 9).trans o3, o4.keep (fun k hk => hg.block k (Own.lt o4 k hk).2 (fun e => hne k (.inl hk) e.symm)), o5.keep (fun k hk => hg.block k (Own.lt o5 k hk).2 (fun e => hne k (.inr (.inl hk)) e.symm)),
    o6.keep (fun k hk => hg.block k (o6.lt k hk).2 (fun e => hne k (.inr (.inr hk)) e.symm)), o7, o8⟩, fun k ⟨h1, h2, h3⟩ hk => ⟨⟨Nat.lt_of_lt_of_le h1 hg.size, h2, fun o ho v hv => h3 o ho v (by rw [← hc o]; exact hv)⟩, hg.block k h1 (fun e => hk e.symm)⟩⟩

/-- What was held ahead stays so, where the slice that grows was made behind. -/
theorem Keep.other {w4 : World} (hK : Keep M w4 w) {r : Option Nat} (hs : w.heap.size ≤ w'.heap.size) (hh : ∀ k, Held M w k → r ≠ some k → Held M w' k ∧ w'.heap[k]? = w.heap[k]?) (hr : ∀ k, r = some k → w4.heap.size ≤ k) : Keep M w4 w' :=
  ⟨Nat.le_trans hK.size hs, fun k hk => by
    obtain ⟨a1, a2⟩ := hK.held k hk
    obtain ⟨b1, b2⟩ := hh k a1 (fun e => by have := hr k e; have := hk.1; omega)
    exact ⟨b1, b2.trans a2⟩⟩

/-- A slice of the call's own, apart from the making, is held. -/
def OwnH (M base : Nat) (w : World) (v : Value) (l : List Int) : Prop := Own base w v l ∧ ∀ k, v.ownBlock = some k → Held M w k
theorem OwnH.nil (M base : Nat) (w : World) : OwnH M base w (.slice none 0 0) [] := ⟨Own.nil _ _, fun k hk => by cases hk⟩
theorem OwnH.keep {base : Nat} {v : Value} {l : List Int} (h : OwnH M base w v l) (hK : Keep M w w') : OwnH M base w' v l :=
  ⟨h.1.keep (fun k hk => (hK.held k (h.2 k hk)).2), fun k hk => (hK.held k (h.2 k hk)).1⟩
theorem OwnH.grow (H : MkSt w0 M vg vc vb vo room again at_ st w) {base : Nat} {v v' : Value} {l l' : List Int} (h : OwnH M base w v l) (hO : Own base w' v' l') (hg : w.grownBy w' v.ownBlock) (hob : v'.ownBlock = v.ownBlock ∨ ∃ k, v'.ownBlock = some k ∧ w.heap.size ≤ k) : OwnH M base w' v' l' := by
  have hM : v.ownBlock ≠ some M := fun e => (h.2 M e).2.1 rfl
  have hc : ∀ o, w'.cell? ⟨M, o, none⟩ = w.cell? ⟨M, o, none⟩ := fun o => (box_cells H.lt hg hM o).1
  refine ⟨hO, fun k hk => ?_⟩
  rcases hob with e | ⟨q, e, hq⟩
  · have h1 := h.2 k (e ▸ hk)
    exact ⟨Nat.lt_of_lt_of_le h1.1 hg.size, h1.2.1, fun o ho u hu => h1.2.2 o ho u (by rw [← hc o]; exact hu)⟩
  · rw [e] at hk; injection hk with hk
    subst hk
    have hlt := (Own.lt hO q e).2
    have hML := H.lt
    refine ⟨hlt, by omega, fun o ho u hu e2 => ?_⟩
    rw [hc o] at hu
    obtain ⟨vi, vd, vl, o1, o2, o3, o4, o5, o6, _, _⟩ := H.own
    rcases ho with rfl | rfl | rfl
    · rw [o1] at hu; cases hu; have := (Own.lt o4 _ e2).2; omega
    · rw [o2] at hu; cases hu; have := (Own.lt o5 _ e2).2; omega
    · rw [o3] at hu; cases hu; have := (o6.lt _ e2).2; omega
theorem OwnH.ints {base : Nat} {v : Value} {l : List Int} (h : OwnH M base w v l) (hwf : ∀ n ∈ l, -9223372036854775808 ≤ n ∧ n ≤ 9223372036854775807) : ∃ a len cap, v = .slice a len cap ∧ IntsH M w a len cap l := by
  obtain ⟨a, len, cap, rfl, hI, _⟩ := h.1.ints hwf
  exact ⟨a, len, cap, rfl, hI, fun p hp _ => h.2 p.block (by rw [hp]; rfl)⟩

theorem grid_two {W : World} {a1 a2 : Option Addr} {n1 c1 n2 c2 : Nat} {l1 l2 : List Int} (h1 : Ints W a1 n1 c1 l1) (h2 : Ints W a2 n2 c2 l2) (T : TypeId) :
    Grid (W.alloc (.cells #[.slice a1 n1 c1, .slice a2 n2 c2] T)) (some ⟨W.heap.size, 0, none⟩) 2 2 [l1, l2] := by
  have hb : Below W.heap.size W (W.alloc (.cells #[.slice a1 n1 c1, .slice a2 n2 c2] T)) := (Below.refl _ _).alloc (Nat.le_refl _) _
  refine ⟨Nat.le_refl _, by omega, rfl, fun _ => ⟨_, _, rfl, by simp, fun i hi => ?_⟩⟩
  match i, hi with
  | 0, _ => exact ⟨a1, n1, c1, by rw [World.cell?_alloc_at _ _ _ _ rfl]; rfl, h1.below hb⟩
  | 1, _ => exact ⟨a2, n2, c2, by rw [World.cell?_alloc_at _ _ _ _ rfl]; rfl, h2.below hb⟩
theorem grid_three {W : World} {a1 a2 a3 : Option Addr} {n1 c1 n2 c2 n3 c3 : Nat} {l1 l2 l3 : List Int} (h1 : Ints W a1 n1 c1 l1) (h2 : Ints W a2 n2 c2 l2) (h3 : Ints W a3 n3 c3 l3) (T : TypeId) :
    Grid (W.alloc (.cells #[.slice a1 n1 c1, .slice a2 n2 c2, .slice a3 n3 c3] T)) (some ⟨W.heap.size, 0, none⟩) 3 3 [l1, l2, l3] := by
  have hb : Below W.heap.size W (W.alloc (.cells #[.slice a1 n1 c1, .slice a2 n2 c2, .slice a3 n3 c3] T)) := (Below.refl _ _).alloc (Nat.le_refl _) _
  refine ⟨Nat.le_refl _, by omega, rfl, fun _ => ⟨_, _, rfl, by simp, fun i hi => ?_⟩⟩
  match i, hi with
  | 0, _ => exact ⟨a1, n1, c1, by rw [World.cell?_alloc_at _ _ _ _ rfl]; rfl, h1.below hb⟩
  | 1, _ => exact ⟨a2, n2, c2, by rw [World.cell?_alloc_at _ _ _ _ rfl]; rfl, h2.below hb⟩
  | 2, _ => exact ⟨a3, n3, c3, by rw [World.cell?_alloc_at _ _ _ _ rfl]; rfl, h3.below hb⟩
end
end Go.Proofs.Ytgmagldbfajedaa
