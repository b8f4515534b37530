/-
  What a turn of the making's own slices leaves (MkSt.turn), two of them at once (MkSt.putLD); slices that are held (IntsH.fresh, IntsH.old).
-/
import Derived.Test.YtgmagldbfajedaaPlDrop
import Derived.Test.YtgmagldbfajedaaPlSmall
namespace Go.Proofs.Ytgmagldbfajedaa
open Go.RowKit

section
variable {w0 : World} {M : Nat} {vg vc vb vo : Value} {room : Int} {again : Bool} {at_ : Int} {st : Pl.St} {w w1 : World}

theorem MkSt.turn (H : MkSt w0 M vg vc vb vo room again at_ st w) {W : World} {st' : Pl.St} {vi vd vl vi' vd' vl' : Value} (hi : w.cell? ⟨M, 7, none⟩ = some vi) (hd : w.cell? ⟨M, 8, none⟩ = some vd) (hl : w.cell? ⟨M, 9, none⟩ = some vl)
    (hsz : w.heap.size ≤ W.heap.size) (hbel : Below w0.heap.size w0 W) (hc : ∀ o, o < 7 → W.cell? ⟨M, o, none⟩ = w.cell? ⟨M, o, none⟩) (hf : ∀ o, o < 10 → W.frozen? ⟨M, o, none⟩ = w.frozen? ⟨M, o, none⟩)
    (c7 : W.cell? ⟨M, 7, none⟩ = some vi') (c8 : W.cell? ⟨M, 8, none⟩ = some vd') (c9 : W.cell? ⟨M, 9, none⟩ = some vl') (o1 : Own (M + 1) W vi' st'.inn) (o2 : Own (M + 1) W vd' st'.disk) (o3 : OwnL (M + 1) W vl' st'.l)
    (b1 : vi'.ownBlock = vi.ownBlock ∨ ∃ k, vi'.ownBlock = some k ∧ w.heap.size ≤ k) (b2 : vd'.ownBlock = vd.ownBlock ∨ ∃ k, vd'.ownBlock = some k ∧ w.heap.size ≤ k) (b3 : vl'.ownBlock = vl.ownBlock ∨ ∃ k, vl'.ownBlock = some k ∧ w.heap.size ≤ k)
    (d1 : ∀ k, vi'.ownBlock = some k → vd'.ownBlock ≠ some k ∧ vl'.ownBlock ≠ some k) (d2 : ∀ k, vd'.ownBlock = some k → vl'.ownBlock ≠ some k)
    (hk : ∀ k, k < w.heap.size → k ≠ M → vi.ownBlock ≠ some k → vd.ownBlock ≠ some k → vl.ownBlock ≠ some k → W.heap[k]? = w.heap[k]?) :
    MkSt w0 M vg vc vb vo room again at_ st' W ∧ Keep M w W := by
  refine ⟨⟨H.hM, Nat.lt_of_lt_of_le H.lt hsz, hbel, (hc 0 (by omega)).trans H.c0, (hc 1 (by omega)).trans H.c1, (hc 2 (by omega)).trans H.c2, (hc 3 (by omega)).trans H.c3, (hc 4 (by omega)).trans H.c4, (hc 5 (by omega)).trans H.c5, (hc 6 (by omega)).trans H.c6,
    fun o ho => (hf o ho).trans (H.fr o ho), vi', vd', vl', c7, c8, c9, o1, o2, o3, d1, d2⟩, hsz, fun k ⟨h1, h2, h3⟩ => ?_⟩
  have fre : ∀ {v v' : Value}, (v'.ownBlock = v.ownBlock ∨ ∃ q, v'.ownBlock = some q ∧ w.heap.size ≤ q) → v.ownBlock ≠ some k → v'.ownBlock ≠ some k := fun hb hn e => by
    rcases hb with h | ⟨q, h, hq⟩
    · exact hn (h ▸ e)
    · rw [h] at e; injection e with e; omega
  have n1 := h3 7 (by omega) vi hi
  have n2 := h3 8 (by omega) vd hd
  have n3 := h3 9 (by omega) vl hl
  refine ⟨⟨Nat.lt_of_lt_of_le h1 hsz, h2, fun o ho v hv => ?_⟩, hk k h1 h2 n1 n2 n3⟩
  rcases ho with rfl | rfl | rfl
  · rw [c7] at hv; cases hv; exact fre b1 n1
  · rw [c8] at hv; cases hv; exact fre b2 n2
  · rw [c9] at hv; cases hv; exact fre b3 n3

/-- A slice in new memory is held. -/
theorem IntsH.fresh (H : MkSt w0 M vg vc vb vo room again at_ st w) {W : World} (hb : Below w.heap.size w W) {a : Option Addr} {len cap : Nat} {l : List Int} (hI : Ints W a len cap l) (hn : ∀ p, a = some p → w.heap.size ≤ p.block) : IntsH M W a len cap l :=
  ⟨hI, fun p hp h0 => by
    obtain ⟨b, off, e, hlt, _⟩ := hI.at_ h0
    rw [hp] at e; cases e
    have h1 := hn _ hp
    simp only at h1 ⊢
    have hM := H.lt
    refine ⟨hlt, by omega, fun o ho v hv e => ?_⟩
    obtain ⟨vi, vd, vl, o1, o2, o3, o4, o5, o6, _, _⟩ := (H.on hb).own
    obtain ⟨ri, rd, rl, p1, p2, p3, p4, p5, p6, _, _⟩ := H.own
    have q : ∀ o' u, w.cell? ⟨M, o', none⟩ = some u → W.cell? ⟨M, o', none⟩ = some u := fun o' u hu => (hb.cell (p := ⟨M, o', none⟩) hM).trans hu
    rcases ho with rfl | rfl | rfl
    · rw [q _ _ p1] at hv; cases hv; have := (Own.lt p4 _ e).2; omega
    · rw [q _ _ p2] at hv; cases hv; have := (Own.lt p5 _ e).2; omega
    · rw [q _ _ p3] at hv; cases hv; have := (p6.lt _ e).2; omega⟩

/-- A slice from ahead of the making is held. -/
theorem IntsH.old (H : MkSt w0 M vg vc vb vo room again at_ st w) {a : Option Addr} {len cap : Nat} {l : List Int} (hI : Ints w0 a len cap l) : IntsH M w a len cap l :=
  ⟨hI.below H.bel, fun p hp h0 => by
    obtain ⟨b, off, e, hlt, _⟩ := hI.at_ h0
    rw [hp] at e; cases e
    have hM := H.lt
    have hM0 := H.hM
    simp only
    refine ⟨Nat.lt_trans (Nat.lt_of_lt_of_le hlt hM0) hM, by omega, fun o ho v hv e => ?_⟩
    obtain ⟨vi, vd, vl, o1, o2, o3, o4, o5, o6, _, _⟩ := H.own
    rcases ho with rfl | rfl | rfl
    · rw [o1] at hv; cases hv; have := (Own.lt o4 _ e).1; omega
    · rw [o2] at hv; cases hv; have := (Own.lt o5 _ e).1; omega
    · rw [o3] at hv; cases hv; have := (o6.lt _ e).1; omega⟩
theorem IntsH.nil {M : Nat} {w : World} : IntsH M w none 0 0 [] := ⟨Ints.nil, fun p hp => by cases hp⟩
theorem IntsH.on {M : Nat} {w W : World} {a : Option Addr} {len cap : Nat} {l : List Int} (hM : M < w.heap.size) (h : IntsH M w a len cap l) (hb : Below w.heap.size w W) : IntsH M W a len cap l := h.keep (Keep.of_below hM hb)

/-- Two of the making's slices have grown, and are stored, the list of steps first. -/
theorem MkSt.putLD (H : MkSt w0 M vg vc vb vo room again at_ st w) {W : World} {vl vd v' u' : Value} {x : Int × Int} {y : Int} (hl : w.cell? ⟨M, 9, none⟩ = some vl) (hd : w.cell? ⟨M, 8, none⟩ = some vd)
    (hO : OwnL (M + 1) W v' (st.l ++ [x])) (hO2 : Own (M + 1) W u' (st.disk ++ [y])) (hB : Below (M + 1) w W) (hbl : ∀ k, k < w.heap.size → vl.ownBlock ≠ some k → vd.ownBlock ≠ some k → W.heap[k]? = w.heap[k]?)
    (hob1 : v'.ownBlock = vl.ownBlock ∨ ∃ k, v'.ownBlock = some k ∧ w.heap.size ≤ k) (hob2 : u'.ownBlock = vd.ownBlock ∨ ∃ k, u'.ownBlock = some k ∧ w.heap.size ≤ k) (hdis : ∀ k, u'.ownBlock = some k → v'.ownBlock ≠ some k) (hsz : w.heap.size ≤ W.heap.size) :
    MkSt w0 M vg vc vb vo room again at_ ⟨st.inn, st.disk ++ [y], st.l ++ [x]⟩ ((W.setCell ⟨M, 9, none⟩ v').setCell ⟨M, 8, none⟩ u') ∧ Keep M w ((W.setCell ⟨M, 9, none⟩ v').setCell ⟨M, 8, none⟩ u') := by
  obtain ⟨vi, vd', vl', o1, o2, o3, o4, o5, o6, o7, o8⟩ := H.own
  rw [hl] at o3
  cases o3
  rw [hd] at o2
  cases o2
  have hcM : ∀ o, W.cell? ⟨M, o, none⟩ = w.cell? ⟨M, o, none⟩ := fun o => hB.cell (p := ⟨M, o, none⟩) (Nat.lt_succ_self M)
  have hfM : ∀ o, W.frozen? ⟨M, o, none⟩ = w.frozen? ⟨M, o, none⟩ := fun o => hB.frozen (p := ⟨M, o, none⟩) (Nat.lt_succ_self M)
  have hs2 : ((W.setCell ⟨M, 9, none⟩ v').setCell ⟨M, 8, none⟩ u').heap.size = W.heap.size := by simp [World.setCell]
  have hh : ∀ k, k ≠ M → ((W.setCell ⟨M, 9, none⟩ v').setCell ⟨M, 8, none⟩ u').heap[k]? = W.heap[k]? := fun k h => (heap_set_ne _ _ _ h).trans (heap_set_ne _ _ _ h)
  have hi : ∀ k, vi.ownBlock = some k → k ≠ M ∧ k < w.heap.size := fun k hk => by have := Own.lt o4 k hk; omega
  have fre : ∀ {k : Nat} {v v' : Value}, (v'.ownBlock = v.ownBlock ∨ ∃ q, v'.ownBlock = some q ∧ w.heap.size ≤ q) → k < w.heap.size → v.ownBlock ≠ some k → v'.ownBlock ≠ some k := fun hb hk hn e => by
    rcases hb with h | ⟨q, h, hq⟩
    · exact hn (h ▸ e)
    · rw [h] at e; injection e with e; omega
  refine H.turn o1 hd hl (by rw [hs2]; exact hsz) (below_setCell (below_setCell (H.bel.trans (hB.mono (by have := H.hM; omega))) _ _ _ H.hM) _ _ _ H.hM) (fun o ho => ?_) (fun o _ => by rw [World.frozen?_setCell, World.frozen?_setCell]; exact hfM o) (vi' := vi) (vd' := u') (vl' := v') ?_ ?_ ?_
    (o4.keep fun k hk => (hh k (hi k hk).1).trans (hbl k (hi k hk).2 (o7 k hk).2 (o7 k hk).1)) (hO2.keep fun k hk => hh k (by have := (Own.lt hO2 k hk).1; omega)) (hO.keep fun k hk => hh k (by have := (hO.lt k hk).1; omega))
    (.inl rfl) hob2 hob1 (fun k hk => ⟨fre hob2 (hi k hk).2 (o7 k hk).1, fre hob1 (hi k hk).2 (o7 k hk).2⟩) hdis (fun k h1 h2 _ h4 h5 => (hh k h2).trans (hbl k h1 h5 h4))
  · rw [set_off _ (by omega), set_off _ (by omega)]; exact hcM o
  · rw [set_off _ (by decide), set_off _ (by decide)]; exact (hcM 7).trans o1
  · refine World.cell?_setCell_same _ _ _ (u := vd) ?_
    rw [set_off _ (by decide)]; exact (hcM 8).trans hd
  · rw [set_off _ (by decide)]; exact World.cell?_setCell_same _ _ _ ((hcM 9).trans hl)
end
end Go.Proofs.Ytgmagldbfajedaa
