/-
  plans.Of: what its parts stand on: the clip of steps (clipL_any), a making laid whole (ten), the beginning that both tries are made of (BgSt).
-/
import Derived.Test.YtgmagldbfajedaaPlPlaceW
namespace Go.Proofs.Ytgmagldbfajedaa
open Go.RowKit

set_option maxHeartbeats 1000000 in
theorem clipL_any (a : Option Addr) (len cap : Nat) (w : World) (h1 : len ≤ cap) (h2 : cap ≤ 9223372036854775807) (h3 : a = none → len = 0 ∧ cap = 0) :
    Calls Try.prog 96 #[.slice a len cap] w fun e w' => e = .returned (.slice a len len) ∧ w = w' := by
  cases a with
  | none =>
    obtain ⟨rfl, rfl⟩ := h3 rfl
    go_enter Try.func96, Try.ntmps96
    go_wp2
    go_ret
    exact ⟨rfl, rfl⟩
  | some x =>
    clear h3
    go_enter Try.func96, Try.ntmps96
    go_wp2
    go_ret
    exact ⟨rfl, rfl⟩

/-- Ten cells of a block, stored one behind the other. -/
def ten (w : World) (G : Nat) (v0 v1 v2 v3 v4 v5 v6 v7 v8 v9 : Value) : World :=
  (((((((((w.setCell ⟨G, 0, none⟩ v0).setCell ⟨G, 1, none⟩ v1).setCell ⟨G, 2, none⟩ v2).setCell ⟨G, 3, none⟩ v3).setCell ⟨G, 4, none⟩ v4).setCell ⟨G, 5, none⟩ v5).setCell ⟨G, 6, none⟩ v6).setCell ⟨G, 7, none⟩ v7).setCell ⟨G, 8, none⟩ v8).setCell ⟨G, 9, none⟩ v9
theorem ten_size (w : World) (G : Nat) (v0 v1 v2 v3 v4 v5 v6 v7 v8 v9 : Value) : (ten w G v0 v1 v2 v3 v4 v5 v6 v7 v8 v9).heap.size = w.heap.size := by simp [ten, World.setCell]
theorem ten_heap (w : World) {G k : Nat} (h : k ≠ G) (v0 v1 v2 v3 v4 v5 v6 v7 v8 v9 : Value) : (ten w G v0 v1 v2 v3 v4 v5 v6 v7 v8 v9).heap[k]? = w.heap[k]? := by
  unfold ten
  rw [heap_set_ne _ _ _ h, heap_set_ne _ _ _ h, heap_set_ne _ _ _ h, heap_set_ne _ _ _ h, heap_set_ne _ _ _ h, heap_set_ne _ _ _ h, heap_set_ne _ _ _ h, heap_set_ne _ _ _ h, heap_set_ne _ _ _ h, heap_set_ne _ _ _ h]
theorem ten_frozen (w : World) (G : Nat) (v0 v1 v2 v3 v4 v5 v6 v7 v8 v9 : Value) (p : Addr) : (ten w G v0 v1 v2 v3 v4 v5 v6 v7 v8 v9).frozen? p = w.frozen? p := by
  unfold ten
  simp only [World.frozen?_setCell]
theorem ten_below {base : Nat} {w0 w : World} (h : Below base w0 w) {G : Nat} (hG : base ≤ G) (v0 v1 v2 v3 v4 v5 v6 v7 v8 v9 : Value) : Below base w0 (ten w G v0 v1 v2 v3 v4 v5 v6 v7 v8 v9) :=
  below_setCell (below_setCell (below_setCell (below_setCell (below_setCell (below_setCell (below_setCell (below_setCell (below_setCell (below_setCell h _ _ _ hG) _ _ _ hG) _ _ _ hG) _ _ _ hG) _ _ _ hG) _ _ _ hG) _ _ _ hG) _ _ _ hG) _ _ _ hG) _ _ _ hG
/-- One store keeps what is there, and is there behind it. -/
theorem set_some (w : World) {G i j : Nat} (v u : Value) (h : w.cell? ⟨G, j, none⟩ = some u) : (w.setCell ⟨G, i, none⟩ v).cell? ⟨G, j, none⟩ = some (if i = j then v else u) := by
  by_cases e : i = j
  · subst e; rw [if_pos rfl]; exact World.cell?_setCell_same _ _ _ h
  · rw [if_neg e, set_off w e]; exact h
theorem ten_cell (w : World) {G : Nat} (v0 v1 v2 v3 v4 v5 v6 v7 v8 v9 : Value) {j : Nat} {u : Value} (h : w.cell? ⟨G, j, none⟩ = some u) :
    (ten w G v0 v1 v2 v3 v4 v5 v6 v7 v8 v9).cell? ⟨G, j, none⟩ = some (if 9 = j then v9 else if 8 = j then v8 else if 7 = j then v7 else if 6 = j then v6 else if 5 = j then v5 else if 4 = j then v4 else if 3 = j then v3 else if 2 = j then v2 else if 1 = j then v1 else if 0 = j then v0 else u) :=
  set_some _ _ _ (set_some _ _ _ (set_some _ _ _ (set_some _ _ _ (set_some _ _ _ (set_some _ _ _ (set_some _ _ _ (set_some _ _ _ (set_some _ _ _ (set_some _ _ _ h)))))))))

/-- The beginning of a plan's making, as it lies: its box at block B, made behind w1; two slices made behind wb; all else lies as in wb. -/
structure BgSt (w1 wb : World) (B : Nat) (vg vc vo : Value) (room : Int) (bytes disk : List Int) (w : World) : Prop where
  hB : w1.heap.size ≤ B
  lt : B < w.heap.size
  hbB : B < wb.heap.size
  sz : wb.heap.size ≤ w.heap.size
  kp : ∀ k, k < wb.heap.size → k ≠ B → w.heap[k]? = wb.heap[k]?
  bel : Below w1.heap.size w1 w
  c0 : w.cell? ⟨B, 0, none⟩ = some vg
  c1 : w.cell? ⟨B, 1, none⟩ = some vc
  c3 : w.cell? ⟨B, 3, none⟩ = some vo
  c4 : w.cell? ⟨B, 4, none⟩ = some (.int .i64 room)
  c5 : w.cell? ⟨B, 5, none⟩ = some (.bool false)
  c6 : w.cell? ⟨B, 6, none⟩ = some (.int .i64 0)
  c7 : w.cell? ⟨B, 7, none⟩ = some (.slice none 0 0)
  c9 : w.cell? ⟨B, 9, none⟩ = some (.slice none 0 0)
  fr : ∀ o, o < 10 → w.frozen? ⟨B, o, none⟩ = false
  own : ∃ vb vd, w.cell? ⟨B, 2, none⟩ = some vb ∧ w.cell? ⟨B, 8, none⟩ = some vd ∧ Own wb.heap.size w vb bytes ∧ Own wb.heap.size w vd disk ∧ ∀ k, vb.ownBlock = some k → vd.ownBlock ≠ some k

theorem BgSt.start {w2 w4 : World} {vg vc vo : Value} {room : Int}
    (hb : Below (w2.alloc (.cells #[vg, vc, .slice none 0 0, .slice none 0 0, .int .i64 room, .bool false, .int .i64 0, .slice none 0 0, .slice none 0 0, .slice none 0 0] 120)).heap.size (w2.alloc (.cells #[vg, vc, .slice none 0 0, .slice none 0 0, .int .i64 room, .bool false, .int .i64 0, .slice none 0 0, .slice none 0 0, .slice none 0 0] 120)) w4) :
    BgSt w2 (w4.setCell ⟨w2.heap.size, 3, none⟩ vo) w2.heap.size vg vc vo room [] [] (w4.setCell ⟨w2.heap.size, 3, none⟩ vo) := by
  have hz : w2.heap.size < (w2.alloc (.cells #[vg, vc, .slice none 0 0, .slice none 0 0, .int .i64 room, .bool false, .int .i64 0, .slice none 0 0, .slice none 0 0, .slice none 0 0] 120)).heap.size := by simp
  have hsz : (w4.setCell ⟨w2.heap.size, 3, none⟩ vo).heap.size = w4.heap.size := by simp [World.setCell]
  have hlt : w2.heap.size < (w4.setCell ⟨w2.heap.size, 3, none⟩ vo).heap.size := by rw [hsz]; exact Nat.lt_of_lt_of_le hz hb.size
  have hA : Below w2.heap.size w2 (w2.alloc (.cells #[vg, vc, .slice none 0 0, .slice none 0 0, .int .i64 room, .bool false, .int .i64 0, .slice none 0 0, .slice none 0 0, .slice none 0 0] 120)) := (Below.refl _ _).alloc (Nat.le_refl _) _
  have hc : ∀ o u, (w2.alloc (.cells #[vg, vc, .slice none 0 0, .slice none 0 0, .int .i64 room, .bool false, .int .i64 0, .slice none 0 0, .slice none 0 0, .slice none 0 0] 120)).cell? ⟨w2.heap.size, o, none⟩ = some u → 3 ≠ o → (w4.setCell ⟨w2.heap.size, 3, none⟩ vo).cell? ⟨w2.heap.size, o, none⟩ = some u := fun o u hu ho => by
    rw [set_off _ ho]; exact (hb.cell (p := ⟨w2.heap.size, o, none⟩) hz).trans hu
  have h3 : w4.cell? ⟨w2.heap.size, 3, none⟩ = some (.slice none 0 0) := (hb.cell (p := ⟨w2.heap.size, 3, none⟩) hz).trans (by rw [World.cell?_alloc_at _ _ _ _ rfl]; rfl)
  refine ⟨Nat.le_refl _, hlt, hlt, Nat.le_refl _, fun _ _ _ => rfl, below_setCell (hA.trans (hb.mono hA.size)) _ _ _ (Nat.le_refl _), hc 0 _ (by rw [World.cell?_alloc_at _ _ _ _ rfl]; rfl) (by decide), hc 1 _ (by rw [World.cell?_alloc_at _ _ _ _ rfl]; rfl) (by decide), World.cell?_setCell_same _ _ _ h3, hc 4 _ (by rw [World.cell?_alloc_at _ _ _ _ rfl]; rfl) (by decide), hc 5 _ (by rw [World.cell?_alloc_at _ _ _ _ rfl]; rfl) (by decide), hc 6 _ (by rw [World.cell?_alloc_at _ _ _ _ rfl]; rfl) (by decide), hc 7 _ (by rw [World.cell?_alloc_at _ _ _ _ rfl]; rfl) (by decide), hc 9 _ (by rw [World.cell?_alloc_at _ _ _ _ rfl]; rfl) (by decide),
    fun o ho => ?_, .slice none 0 0, .slice none 0 0, hc 2 _ (by rw [World.cell?_alloc_at _ _ _ _ rfl]; rfl) (by decide), hc 8 _ (by rw [World.cell?_alloc_at _ _ _ _ rfl]; rfl) (by decide), Own.nil _ _, Own.nil _ _, fun k hk => by cases hk⟩
  rw [World.frozen?_setCell]
  exact (hb.frozen (p := ⟨w2.heap.size, o, none⟩) hz).trans (World.frozen?_alloc_at _ _ _ _ rfl)

section
variable {w1 wb : World} {B : Nat} {vg vc vo : Value} {room : Int} {bytes disk : List Int} {w w' : World}
theorem BgSt.on (h : BgSt w1 wb B vg vc vo room bytes disk w) (hb : Below w.heap.size w w') : BgSt w1 wb B vg vc vo room bytes disk w' := by
  have hc : ∀ o u, w.cell? ⟨B, o, none⟩ = some u → w'.cell? ⟨B, o, none⟩ = some u := fun o u hu => (hb.cell (p := ⟨B, o, none⟩) h.lt).trans hu
  obtain ⟨vb, vd, o1, o2, o3, o4, o5⟩ := h.own
  exact ⟨h.hB, Nat.lt_of_lt_of_le h.lt hb.size, h.hbB, Nat.le_trans h.sz hb.size, fun k h1 h2 => (hb.block k (Nat.lt_of_lt_of_le h1 h.sz)).trans (h.kp k h1 h2), h.bel.trans (hb.mono h.bel.size), hc _ _ h.c0, hc _ _ h.c1, hc _ _ h.c3, hc _ _ h.c4, hc _ _ h.c5, hc _ _ h.c6, hc _ _ h.c7, hc _ _ h.c9, fun o ho => (hb.frozen (p := ⟨B, o, none⟩) h.lt).trans (h.fr o ho),
    vb, vd, hc _ _ o1, hc _ _ o2, o3.keep (fun k hk => hb.block k (Own.lt o3 k hk).2), o4.keep (fun k hk => hb.block k (Own.lt o4 k hk).2), o5⟩

theorem BgSt.put2 (H : BgSt w1 wb B vg vc vo room bytes disk w) {vb v' : Value} {l' : List Int} (hb : w.cell? ⟨B, 2, none⟩ = some vb) (hO : Own wb.heap.size w' v' l') (hBl : Below wb.heap.size w w') (hg : w.grownBy w' vb.ownBlock)
    (hob : v'.ownBlock = vb.ownBlock ∨ ∃ k, v'.ownBlock = some k ∧ w.heap.size ≤ k) : BgSt w1 wb B vg vc vo room l' disk (w'.setCell ⟨B, 2, none⟩ v') := by
  obtain ⟨vb', vd, o1, o2, o3, o4, o5⟩ := H.own
  rw [hb] at o1; cases o1
  have hbB := H.hbB
  have hrM : vb.ownBlock ≠ some B := fun e => by have := (Own.lt o3 B e).1; omega
  have hbc := fun o => box_cells H.lt hg hrM o
  have hc : ∀ o u, o ≠ 2 → w.cell? ⟨B, o, none⟩ = some u → (w'.setCell ⟨B, 2, none⟩ v').cell? ⟨B, o, none⟩ = some u := fun o u ho hu => by
    rw [set_off _ (fun e => ho e.symm), (hbc o).1]; exact hu
  have hsz : (w'.setCell ⟨B, 2, none⟩ v').heap.size = w'.heap.size := by simp [World.setCell]
  refine ⟨H.hB, by rw [hsz]; exact Nat.lt_of_lt_of_le H.lt hg.size, hbB, by rw [hsz]; exact Nat.le_trans H.sz hg.size, fun k h1 h2 => ((heap_set_ne _ _ _ h2).trans (hBl.block k h1)).trans (H.kp k h1 h2), below_setCell (H.bel.trans (hBl.mono (by have := H.hB; omega))) _ _ _ H.hB, hc _ _ (by decide) H.c0, hc _ _ (by decide) H.c1, hc _ _ (by decide) H.c3, hc _ _ (by decide) H.c4, hc _ _ (by decide) H.c5, hc _ _ (by decide) H.c6, hc _ _ (by decide) H.c7, hc _ _ (by decide) H.c9,
    fun o ho => by rw [World.frozen?_setCell, (hbc o).2]; exact H.fr o ho, v', vd, World.cell?_setCell_same _ _ _ ((hbc 2).1.trans hb), hc _ _ (by decide) o2, hO.keep (fun k hk => heap_set_ne _ _ _ (by have := (Own.lt hO k hk).1; omega)),
    o4.keep (fun k hk => (heap_set_ne _ _ _ (by have := (Own.lt o4 k hk).1; omega)).trans (hg.block k (Own.lt o4 k hk).2 (fun e => o5 k e.symm hk))), fun k hk e => ?_⟩
  rcases hob with h | ⟨q, h, hq⟩
  · exact o5 k (h ▸ hk) e
  · rw [h] at hk; injection hk with hk; have := (Own.lt o4 k e).2; omega
theorem BgSt.put8 (H : BgSt w1 wb B vg vc vo room bytes disk w) {vd v' : Value} {l' : List Int} (hd : w.cell? ⟨B, 8, none⟩ = some vd) (hO : Own wb.heap.size w' v' l') (hBl : Below wb.heap.size w w') (hg : w.grownBy w' vd.ownBlock)
    (hob : v'.ownBlock = vd.ownBlock ∨ ∃ k, v'.ownBlock = some k ∧ w.heap.size ≤ k) : BgSt w1 wb B vg vc vo room bytes l' (w'.setCell ⟨B, 8, none⟩ v') := by
  obtain ⟨vb, vd', o1, o2, o3, o4, o5⟩ := H.own
  rw [hd] at o2; cases o2
  have hbB := H.hbB
  have hrM : vd.ownBlock ≠ some B := fun e => by have := (Own.lt o4 B e).1; omega
  have hbc := fun o => box_cells H.lt hg hrM o
  have hc : ∀ o u, o ≠ 8 → w.cell? ⟨B, o, none⟩ = some u → (w'.setCell ⟨B, 8, none⟩ v').cell? ⟨B, o, none⟩ = some u := fun o u ho hu => by
    rw [set_off _ (fun e => ho e.symm), (hbc o).1]; exact hu
  have hsz : (w'.setCell ⟨B, 8, none⟩ v').heap.size = w'.heap.size := by simp [World.setCell]
  refine ⟨H.hB, by rw [hsz]; exact Nat.lt_of_lt_of_le H.lt hg.size, hbB, by rw [hsz]; exact Nat.le_trans H.sz hg.size, fun k h1 h2 => ((heap_set_ne _ _ _ h2).trans (hBl.block k h1)).trans (H.kp k h1 h2), below_setCell (H.bel.trans (hBl.mono (by have := H.hB; omega))) _ _ _ H.hB, hc _ _ (by decide) H.c0, hc _ _ (by decide) H.c1, hc _ _ (by decide) H.c3, hc _ _ (by decide) H.c4, hc _ _ (by decide) H.c5, hc _ _ (by decide) H.c6, hc _ _ (by decide) H.c7, hc _ _ (by decide) H.c9,
    fun o ho => by rw [World.frozen?_setCell, (hbc o).2]; exact H.fr o ho, vb, v', hc _ _ (by decide) o1, World.cell?_setCell_same _ _ _ ((hbc 8).1.trans hd),
    o3.keep (fun k hk => (heap_set_ne _ _ _ (by have := (Own.lt o3 k hk).1; omega)).trans (hg.block k (Own.lt o3 k hk).2 (fun e => o5 k hk e.symm))), hO.keep (fun k hk => heap_set_ne _ _ _ (by have := (Own.lt hO k hk).1; omega)), fun k hk e => ?_⟩
  rcases hob with h | ⟨q, h, hq⟩
  · exact o5 k hk (h ▸ e)
  · rw [h] at e; injection e with e; have := (Own.lt o3 k hk).2; omega
end

section
variable {w0 : World} {M : Nat} {vg vc vb vo : Value} {room : Int} {again : Bool} {at_ : Int} {st : Pl.St} {w : World}
/-- The place of the order is stored. -/
theorem MkSt.at (H : MkSt w0 M vg vc vb vo room again at_ st w) (x : Int) : MkSt w0 M vg vc vb vo room again x st (w.setCell ⟨M, 6, none⟩ (.int .i64 x)) ∧ Keep M w (w.setCell ⟨M, 6, none⟩ (.int .i64 x)) := by
  obtain ⟨vi, vd, vl, o1, o2, o3, o4, o5, o6, o7, o8⟩ := H.own
  have hc : ∀ o u, o ≠ 6 → w.cell? ⟨M, o, none⟩ = some u → (w.setCell ⟨M, 6, none⟩ (.int .i64 x)).cell? ⟨M, o, none⟩ = some u := fun o u ho hu => by rw [set_off _ (fun e => ho e.symm)]; exact hu
  have hsz : (w.setCell ⟨M, 6, none⟩ (.int .i64 x)).heap.size = w.heap.size := by simp [World.setCell]
  have hh : ∀ k, k ≠ M → (w.setCell ⟨M, 6, none⟩ (.int .i64 x)).heap[k]? = w.heap[k]? := fun k h => heap_set_ne _ _ _ h
  refine ⟨⟨H.hM, by rw [hsz]; exact H.lt, below_setCell H.bel _ _ _ H.hM, hc _ _ (by decide) H.c0, hc _ _ (by decide) H.c1, hc _ _ (by decide) H.c2, hc _ _ (by decide) H.c3, hc _ _ (by decide) H.c4, hc _ _ (by decide) H.c5, World.cell?_setCell_same _ _ _ H.c6, fun o ho => by rw [World.frozen?_setCell]; exact H.fr o ho,
    vi, vd, vl, hc _ _ (by decide) o1, hc _ _ (by decide) o2, hc _ _ (by decide) o3, o4.keep (fun k hk => hh k (by have := (Own.lt o4 k hk).1; omega)), o5.keep (fun k hk => hh k (by have := (Own.lt o5 k hk).1; omega)), o6.keep (fun k hk => hh k (by have := (o6.lt k hk).1; omega)), o7, o8⟩,
    by rw [hsz]; exact Nat.le_refl _, fun k ⟨h1, h2, h3⟩ => ⟨⟨by rw [hsz]; exact h1, h2, fun o ho v hv => h3 o ho v (by rw [set_off _ (by omega)] at hv; exact hv)⟩, hh k h2⟩⟩
end

namespace Pl
def srcsK (g : List Gr.Node) (k : Nat) : List Int := ((List.range k).filter fun i => srcB (nodeN g i)).map fun (i : Nat) => (i : Int)
theorem srcsK_snoc (g : List Gr.Node) (k : Nat) : srcsK g (k + 1) = srcsK g k ++ (if srcB (nodeN g k) = true then [(k : Int)] else []) := by
  unfold srcsK
  rw [List.range_succ, List.filter_append, List.map_append]
  congr 1
  by_cases h : srcB (nodeN g k) = true
  · simp [h]
  · simp [h]
theorem srcsK_len (g : List Gr.Node) (k : Nat) : (srcsK g k).length ≤ k := by
  unfold srcsK
  have := List.length_filter_le (fun i => srcB (nodeN g i)) (List.range k)
  simp at this ⊢; omega
theorem bytes_nth {g : List Gr.Node} {s : List (List Int)} {i : Nat} (hi : i < g.length) : nth (bytesOf g s) i = (Co.costN (Co.costs g s) i).bytes := by
  have hl : (Co.costs g s).length = g.length := Co.costsK_length _ _ _
  unfold bytesOf
  rw [nth_eq _ i (by simp [hl, hi])]
  simp only [List.getElem_map]
  unfold Co.costN
  rw [List.getD_eq_getElem?_getD, List.getElem?_eq_getElem (by omega)]; rfl
theorem bytes_len (g : List Gr.Node) (s : List (List Int)) : (bytesOf g s).length = g.length := by
  unfold bytesOf; rw [List.length_map]; exact Co.costsK_length _ _ _
end Pl

/-- A try begins: the beginning is laid whole over the making, with a disk of its own. -/
theorem MkSt.begin {w0 wt w8 : World} {M : Nat} {vg vc vb vo v : Value} {room : Int} {again b0 : Bool} {disk : List Int} (hM : w0.heap.size ≤ M) (hlt : M < wt.heap.size) (hbel : Below w0.heap.size w0 wt)
    (c0 : wt.cell? ⟨M, 0, none⟩ = some vg) (c1 : wt.cell? ⟨M, 1, none⟩ = some vc) (c2 : wt.cell? ⟨M, 2, none⟩ = some vb) (c3 : wt.cell? ⟨M, 3, none⟩ = some vo) (c4 : wt.cell? ⟨M, 4, none⟩ = some (.int .i64 room)) (c5 : wt.cell? ⟨M, 5, none⟩ = some (.bool b0)) (c6 : wt.cell? ⟨M, 6, none⟩ = some (.int .i64 0))
    (c7 : wt.cell? ⟨M, 7, none⟩ = some (.slice none 0 0)) {u8 : Value} (c8 : wt.cell? ⟨M, 8, none⟩ = some u8) (c9 : wt.cell? ⟨M, 9, none⟩ = some (.slice none 0 0)) (hf : ∀ o, o < 10 → wt.frozen? ⟨M, o, none⟩ = false)
    (hb : Below wt.heap.size wt w8) (hO : Own wt.heap.size w8 v disk) : MkSt w0 M vg vc vb vo room again 0 ⟨[], disk, []⟩ ((w8.setCell ⟨M, 8, none⟩ v).setCell ⟨M, 5, none⟩ (.bool again)) := by
  have hc : ∀ o u, wt.cell? ⟨M, o, none⟩ = some u → o ≠ 8 → o ≠ 5 → ((w8.setCell ⟨M, 8, none⟩ v).setCell ⟨M, 5, none⟩ (.bool again)).cell? ⟨M, o, none⟩ = some u := fun o u hu h8 h5 => by
    rw [set_off _ (Ne.symm h5), set_off _ (Ne.symm h8)]; exact (hb.cell (p := ⟨M, o, none⟩) hlt).trans hu
  have hsz : ((w8.setCell ⟨M, 8, none⟩ v).setCell ⟨M, 5, none⟩ (.bool again)).heap.size = w8.heap.size := by simp [World.setCell]
  have hh : ∀ k, k ≠ M → ((w8.setCell ⟨M, 8, none⟩ v).setCell ⟨M, 5, none⟩ (.bool again)).heap[k]? = w8.heap[k]? := fun k h => (heap_set_ne _ _ _ h).trans (heap_set_ne _ _ _ h)
  refine ⟨hM, by rw [hsz]; exact Nat.lt_of_lt_of_le hlt hb.size, below_setCell (below_setCell (hbel.trans (hb.mono (by omega))) _ _ _ hM) _ _ _ hM, hc _ _ c0 (by decide) (by decide), hc _ _ c1 (by decide) (by decide), hc _ _ c2 (by decide) (by decide), hc _ _ c3 (by decide) (by decide), hc _ _ c4 (by decide) (by decide), ?_, hc _ _ c6 (by decide) (by decide),
    fun o ho => by rw [World.frozen?_setCell, World.frozen?_setCell]; exact (hb.frozen (p := ⟨M, o, none⟩) hlt).trans (hf o ho), .slice none 0 0, v, .slice none 0 0, hc _ _ c7 (by decide) (by decide), ?_, hc _ _ c9 (by decide) (by decide), Own.nil _ _, ?_, OwnL.nil _ _, (fun k hk => by cases hk), (fun k _ hk => by cases hk)⟩
  · refine World.cell?_setCell_same _ _ _ (u := .bool b0) ?_
    rw [set_off _ (by decide)]; exact (hb.cell (p := ⟨M, 5, none⟩) hlt).trans c5
  · rw [set_off _ (by decide)]; exact World.cell?_setCell_same _ _ _ ((hb.cell (p := ⟨M, 8, none⟩) hlt).trans c8)
  · have h1 : Own wt.heap.size ((w8.setCell ⟨M, 8, none⟩ v).setCell ⟨M, 5, none⟩ (.bool again)) v disk := hO.keep (fun k hk => hh k (by have := (Own.lt hO k hk).1; omega))
    obtain ⟨p1, p2⟩ := h1
    refine ⟨p1, p2.imp_right fun ⟨g, cp, cur, e1, e2, r⟩ => ⟨g, cp, cur, e1, by omega, r⟩⟩

/-- A block behind the making that is none of its own is held. -/
theorem Held.of {w0 w : World} {M : Nat} {vg vc vb vo : Value} {room at_ : Int} {again : Bool} {st : Pl.St} (_ : MkSt w0 M vg vc vb vo room again at_ st w) {k : Nat} (h1 : k < w.heap.size) (h2 : k ≠ M) (h3 : ∀ o, o = 7 ∨ o = 8 ∨ o = 9 → ∀ v, w.cell? ⟨M, o, none⟩ = some v → v.ownBlock ≠ some k) : Held M w k := ⟨h1, h2, h3⟩
theorem MkSt.cells {w0 w : World} {M : Nat} {vg vc vb vo : Value} {room at_ : Int} {again : Bool} {st : Pl.St} (H : MkSt w0 M vg vc vb vo room again at_ st w) : ∀ o, o < 10 → (∃ u, w.cell? ⟨M, o, none⟩ = some u) ∧ w.frozen? ⟨M, o, none⟩ = false := fun o ho => by
  refine ⟨?_, H.fr o ho⟩
  obtain ⟨vi, vd, vl, o1, o2, o3, _⟩ := H.own
  obtain rfl | rfl | rfl | rfl | rfl | rfl | rfl | rfl | rfl | rfl : o = 0 ∨ o = 1 ∨ o = 2 ∨ o = 3 ∨ o = 4 ∨ o = 5 ∨ o = 6 ∨ o = 7 ∨ o = 8 ∨ o = 9 := by omega
  · exact ⟨_, H.c0⟩
  · exact ⟨_, H.c1⟩
  · exact ⟨_, H.c2⟩
  · exact ⟨_, H.c3⟩
  · exact ⟨_, H.c4⟩
  · exact ⟨_, H.c5⟩
  · exact ⟨_, H.c6⟩
  · exact ⟨_, o1⟩
  · exact ⟨_, o2⟩
  · exact ⟨_, o3⟩
end Go.Proofs.Ytgmagldbfajedaa
