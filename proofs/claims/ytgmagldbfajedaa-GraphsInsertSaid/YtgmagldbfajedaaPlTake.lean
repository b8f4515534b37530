/-
  plans.(*making).takes: contract takes_any; what a store of a grown slice into the box leaves (MkSt.putL, putI, putD).
-/
import Derived.Test.YtgmagldbfajedaaPlMem
import Derived.Test.YtgmagldbfajedaaBt
namespace Go.Proofs.Ytgmagldbfajedaa
open Go.RowKit

theorem wpList_app1h {ops : Array Oper} {rest : List Oper} {o : Oper} {a : Act} {Q : Exit → Act → World → Prop} (w : World) (hgd : o.guard = none) (s t : Operand)
    (ho : o.op = .call { callee := .builtin .append, args := #[s, t], argTypes := #[22, 22] }) (base : Nat) (v : Value) (l : List Int) (x : Int) (hown : Own base w v l)
    (hs : a.eval s = v) (ht : a.eval t = .slice (some ⟨w.heap.size, 0, none⟩) 1 1) (hbase : base ≤ w.heap.size) (hlen : l.length ≤ 10000000)
    (hK : ∀ v' w', Own base w' v' (l ++ [x]) → Below base w w' → w.grownBy w' v.ownBlock → (v'.ownBlock = v.ownBlock ∨ ∃ k, v'.ownBlock = some k ∧ w.heap.size < k) → wpList Try.prog ops Q rest (a.put o.dst v') w') :
    wpList Try.prog ops Q (o :: rest) a (w.alloc (.cells #[.int .i64 x] 3)) := by
  obtain ⟨i0, hi, hz0, hz1, hz2⟩ := info_parts Try.info3
  have hl2 := Own.lt hown
  have hrow : w.ownsRow base 3 1 v l.length (l.map (Value.int .i64)) := hown
  refine wpList_append_own_at _ hgd s t 22 ho base 3 i0 (.int .i64 0) 1 8 Try.underlying22 hi hz0 hz1 hz2 rfl (by decide) v l.length (l.map (Value.int .i64)) hs (hrow.alloc _) ⟨w.heap.size, 0, none⟩ 1 1 [.int .i64 x] ht rfl
    (fun j u hu => ?_) (fun u hu => ?_) ?_ ?_ (by simp; omega) ?_
  · rw [Addr.add_lit, World.cell?_alloc_at _ _ _ _ rfl]
    rw [← hu]; simp
  · simp only [List.mem_cons, List.not_mem_nil, or_false] at hu
    subst hu; rfl
  · unfold maxLen; omega
  · omega
  · intro v' w' hown' hgrow _ hob
    have hga : w.grownBy w' v.ownBlock := ⟨hgrow.os, hgrow.tape, hgrow.output, Nat.le_trans (by simp) hgrow.size, fun k hk hn => (hgrow.block k (by simp; omega) hn).trans (Below.heap_alloc _ _ _ hk)⟩
    refine hK v' w' ?_ ((Below.refl base w).grown hga hbase fun k hk => (hl2 k hk).1) hga ?_
    · show w'.ownsRow base 3 1 v' (l ++ [x]).length ((l ++ [x]).map (Value.int .i64))
      rw [List.length_append, List.map_append]; exact hown'
    · rcases hob with h1 | h1
      · exact .inl h1
      · exact .inr ⟨_, h1, by simp⟩

theorem ownsRow_slice {w : World} {base e size n : Nat} {v : Value} {vs : List Value} (h : w.ownsRow base e size v n vs) : ∃ a len cap, v = .slice a len cap := by
  obtain ⟨_, h2⟩ := h
  rcases h2 with ⟨rfl, _⟩ | ⟨g, cap, cur, hv, _⟩
  · exact ⟨_, _, _, rfl⟩
  · exact ⟨_, _, _, hv⟩

section
variable {w0 : World} {M : Nat} {vg vc vb vo : Value} {room : Int} {again : Bool} {at_ : Int} {st : Pl.St} {w w1 : World}

theorem heap_set_ne (w : World) {M k : Nat} (o : Nat) (u : Value) (h : k ≠ M) : (w.setCell ⟨M, o, none⟩ u).heap[k]? = w.heap[k]? := Below.heap_setCell _ _ _ _ (by intro e; exact h e)

/-- Behind an append to one of the box's slices, and the store of it: the cells of the box. -/
theorem box_cells (hM : M < w.heap.size) {r : Option Nat} (hg : w.grownBy w1 r) (hr : r ≠ some M) (o : Nat) : w1.cell? ⟨M, o, none⟩ = w.cell? ⟨M, o, none⟩ ∧ w1.frozen? ⟨M, o, none⟩ = w.frozen? ⟨M, o, none⟩ := by
  have h := hg.block M hM (fun e => hr e.symm)
  exact ⟨by unfold World.cell?; rw [h], World.frozen?_of_block h⟩

theorem MkSt.putL (H : MkSt w0 M vg vc vb vo room again at_ st w) {vl v' : Value} {x : Int × Int} (hl : w.cell? ⟨M, 9, none⟩ = some vl) (hO : OwnL (M + 1) w1 v' (st.l ++ [x])) (hB : Below (M + 1) w w1) (hg : w.grownBy w1 vl.ownBlock)
    (hob : v'.ownBlock = vl.ownBlock ∨ ∃ k, v'.ownBlock = some k ∧ w.heap.size ≤ k) :
    MkSt w0 M vg vc vb vo room again at_ ⟨st.inn, st.disk, st.l ++ [x]⟩ (w1.setCell ⟨M, 9, none⟩ v') ∧ Keep M w (w1.setCell ⟨M, 9, none⟩ v') := by
  obtain ⟨vi, vd, vl', o1, o2, o3, o4, o5, o6, o7, o8⟩ := H.own
  rw [hl] at o3
  cases o3
  have hrM : vl.ownBlock ≠ some M := fun e => by have := (o6.lt M e).1; omega
  have hbc := fun o => box_cells H.lt hg hrM o
  have hc : ∀ o u, o ≠ 9 → w.cell? ⟨M, o, none⟩ = some u → (w1.setCell ⟨M, 9, none⟩ v').cell? ⟨M, o, none⟩ = some u := fun o u ho hu => by
    rw [set_off _ (fun e => ho e.symm), (hbc o).1]; exact hu
  have h9 : (w1.setCell ⟨M, 9, none⟩ v').cell? ⟨M, 9, none⟩ = some v' := World.cell?_setCell_same _ _ _ ((hbc 9).1.trans hl)
  have hbl : ∀ k, k < w.heap.size → k ≠ M → vl.ownBlock ≠ some k → (w1.setCell ⟨M, 9, none⟩ v').heap[k]? = w.heap[k]? := fun k hk h1 h2 => by
    rw [heap_set_ne _ _ _ h1]; exact hg.block k hk (fun e => h2 e.symm)
  have hi : ∀ k, vi.ownBlock = some k → k ≠ M ∧ k < w.heap.size := fun k hk => by have := Own.lt o4 k hk; omega
  have hd : ∀ k, vd.ownBlock = some k → k ≠ M ∧ k < w.heap.size := fun k hk => by have := Own.lt o5 k hk; omega
  have hfre : ∀ k, k < w.heap.size → vl.ownBlock ≠ some k → v'.ownBlock ≠ some k := fun k hk h1 h2 => by
    rcases hob with h | ⟨q, h, h3⟩
    · exact h1 (h ▸ h2)
    · rw [h] at h2; injection h2 with h2; omega
  have hsz : (w1.setCell ⟨M, 9, none⟩ v').heap.size = w1.heap.size := by simp [World.setCell]
  refine ⟨⟨H.hM, by rw [hsz]; exact Nat.lt_of_lt_of_le H.lt hg.size, below_setCell (H.bel.trans (hB.mono (by have := H.hM; omega))) _ _ _ H.hM, hc _ _ (by decide) H.c0, hc _ _ (by decide) H.c1, hc _ _ (by decide) H.c2, hc _ _ (by decide) H.c3, hc _ _ (by decide) H.c4, hc _ _ (by decide) H.c5, hc _ _ (by decide) H.c6,
    fun o ho => by rw [World.frozen?_setCell, (hbc o).2]; exact H.fr o ho,
    vi, vd, v', hc _ _ (by decide) o1, hc _ _ (by decide) o2, h9, o4.keep (fun k hk => hbl k (hi k hk).2 (hi k hk).1 (o7 k hk).2), o5.keep (fun k hk => hbl k (hd k hk).2 (hd k hk).1 (o8 k hk)),
    hO.keep (fun k hk => heap_set_ne _ _ _ (by have := (hO.lt k hk).1; omega)), fun k hk => ⟨(o7 k hk).1, hfre k (hi k hk).2 (o7 k hk).2⟩, fun k hk => hfre k (hd k hk).2 (o8 k hk)⟩, ⟨by rw [hsz]; exact hg.size, fun k ⟨h1, h2, h3⟩ => ⟨⟨by rw [hsz]; exact Nat.lt_of_lt_of_le h1 hg.size, h2, fun o ho v hv => ?_⟩, hbl k h1 h2 (h3 9 (by omega) vl hl)⟩⟩⟩
  by_cases c : o = 9
  · subst c
    rw [h9] at hv; cases hv
    exact hfre k h1 (h3 9 (by omega) vl hl)
  · rw [set_off _ (fun e => c e.symm), (hbc o).1] at hv
    exact h3 o ho v hv

theorem MkSt.putI (H : MkSt w0 M vg vc vb vo room again at_ st w) {vi v' : Value} {l' : List Int} (hi : w.cell? ⟨M, 7, none⟩ = some vi) (hO : Own (M + 1) w1 v' l') (hB : Below (M + 1) w w1) (hg : w.grownBy w1 vi.ownBlock)
    (hob : v'.ownBlock = vi.ownBlock ∨ ∃ k, v'.ownBlock = some k ∧ w.heap.size ≤ k) :
    MkSt w0 M vg vc vb vo room again at_ ⟨l', st.disk, st.l⟩ (w1.setCell ⟨M, 7, none⟩ v') ∧ Keep M w (w1.setCell ⟨M, 7, none⟩ v') := by
  obtain ⟨vi', vd, vl, o1, o2, o3, o4, o5, o6, o7, o8⟩ := H.own
  rw [hi] at o1
  cases o1
  have hrM : vi.ownBlock ≠ some M := fun e => by have := (Own.lt o4 M e).1; omega
  have hbc := fun o => box_cells H.lt hg hrM o
  have hc : ∀ o u, o ≠ 7 → w.cell? ⟨M, o, none⟩ = some u → (w1.setCell ⟨M, 7, none⟩ v').cell? ⟨M, o, none⟩ = some u := fun o u ho hu => by
    rw [set_off _ (fun e => ho e.symm), (hbc o).1]; exact hu
  have h9 : (w1.setCell ⟨M, 7, none⟩ v').cell? ⟨M, 7, none⟩ = some v' := World.cell?_setCell_same _ _ _ ((hbc 7).1.trans hi)
  have hbl : ∀ k, k < w.heap.size → k ≠ M → vi.ownBlock ≠ some k → (w1.setCell ⟨M, 7, none⟩ v').heap[k]? = w.heap[k]? := fun k hk h1 h2 => by
    rw [heap_set_ne _ _ _ h1]; exact hg.block k hk (fun e => h2 e.symm)
  have hl : ∀ k, vl.ownBlock = some k → k ≠ M ∧ k < w.heap.size := fun k hk => by have := o6.lt k hk; omega
  have hd : ∀ k, vd.ownBlock = some k → k ≠ M ∧ k < w.heap.size := fun k hk => by have := Own.lt o5 k hk; omega
  have hfre : ∀ k, k < w.heap.size → vi.ownBlock ≠ some k → v'.ownBlock ≠ some k := fun k hk h1 h2 => by
    rcases hob with h | ⟨q, h, h3⟩
    · exact h1 (h ▸ h2)
    · rw [h] at h2; injection h2 with h2; omega
  have hnd : ∀ k, vd.ownBlock = some k → vi.ownBlock ≠ some k := fun k hk e => (o7 k e).1 hk
  have hnl : ∀ k, vl.ownBlock = some k → vi.ownBlock ≠ some k := fun k hk e => (o7 k e).2 hk
  have hsz : (w1.setCell ⟨M, 7, none⟩ v').heap.size = w1.heap.size := by simp [World.setCell]
  refine ⟨⟨H.hM, by rw [hsz]; exact Nat.lt_of_lt_of_le H.lt hg.size, below_setCell (H.bel.trans (hB.mono (by have := H.hM; omega))) _ _ _ H.hM, hc _ _ (by decide) H.c0, hc _ _ (by decide) H.c1, hc _ _ (by decide) H.c2, hc _ _ (by decide) H.c3, hc _ _ (by decide) H.c4, hc _ _ (by decide) H.c5, hc _ _ (by decide) H.c6,
    fun o ho => by rw [World.frozen?_setCell, (hbc o).2]; exact H.fr o ho,
    v', vd, vl, h9, hc _ _ (by decide) o2, hc _ _ (by decide) o3, hO.keep (fun k hk => heap_set_ne _ _ _ (by have := (Own.lt hO k hk).1; omega)), o5.keep (fun k hk => hbl k (hd k hk).2 (hd k hk).1 (hnd k hk)), o6.keep (fun k hk => hbl k (hl k hk).2 (hl k hk).1 (hnl k hk)),
    fun k hk => ⟨fun e => hfre k (hd k e).2 (hnd k e) hk, fun e => hfre k (hl k e).2 (hnl k e) hk⟩, o8⟩, ⟨by rw [hsz]; exact hg.size, fun k ⟨h1, h2, h3⟩ => ⟨⟨by rw [hsz]; exact Nat.lt_of_lt_of_le h1 hg.size, h2, fun o ho v hv => ?_⟩, hbl k h1 h2 (h3 7 (by omega) vi hi)⟩⟩⟩
  by_cases c : o = 7
  · subst c
    rw [h9] at hv; cases hv
    exact hfre k h1 (h3 7 (by omega) vi hi)
  · rw [set_off _ (fun e => c e.symm), (hbc o).1] at hv
    exact h3 o ho v hv

theorem MkSt.putD (H : MkSt w0 M vg vc vb vo room again at_ st w) {vd v' : Value} {l' : List Int} (hd0 : w.cell? ⟨M, 8, none⟩ = some vd) (hO : Own (M + 1) w1 v' l') (hB : Below (M + 1) w w1) (hg : w.grownBy w1 vd.ownBlock)
    (hob : v'.ownBlock = vd.ownBlock ∨ ∃ k, v'.ownBlock = some k ∧ w.heap.size ≤ k) :
    MkSt w0 M vg vc vb vo room again at_ ⟨st.inn, l', st.l⟩ (w1.setCell ⟨M, 8, none⟩ v') ∧ Keep M w (w1.setCell ⟨M, 8, none⟩ v') := by
  obtain ⟨vi, vd', vl, o1, o2, o3, o4, o5, o6, o7, o8⟩ := H.own
  rw [hd0] at o2
  cases o2
  have hrM : vd.ownBlock ≠ some M := fun e => by have := (Own.lt o5 M e).1; omega
  have hbc := fun o => box_cells H.lt hg hrM o
  have hc : ∀ o u, o ≠ 8 → w.cell? ⟨M, o, none⟩ = some u → (w1.setCell ⟨M, 8, none⟩ v').cell? ⟨M, o, none⟩ = some u := fun o u ho hu => by
    rw [set_off _ (fun e => ho e.symm), (hbc o).1]; exact hu
  have h9 : (w1.setCell ⟨M, 8, none⟩ v').cell? ⟨M, 8, none⟩ = some v' := World.cell?_setCell_same _ _ _ ((hbc 8).1.trans hd0)
  have hbl : ∀ k, k < w.heap.size → k ≠ M → vd.ownBlock ≠ some k → (w1.setCell ⟨M, 8, none⟩ v').heap[k]? = w.heap[k]? := fun k hk h1 h2 => by
    rw [heap_set_ne _ _ _ h1]; exact hg.block k hk (fun e => h2 e.symm)
  have hl : ∀ k, vl.ownBlock = some k → k ≠ M ∧ k < w.heap.size := fun k hk => by have := o6.lt k hk; omega
  have hi : ∀ k, vi.ownBlock = some k → k ≠ M ∧ k < w.heap.size := fun k hk => by have := Own.lt o4 k hk; omega
  have hfre : ∀ k, k < w.heap.size → vd.ownBlock ≠ some k → v'.ownBlock ≠ some k := fun k hk h1 h2 => by
    rcases hob with h | ⟨q, h, h3⟩
    · exact h1 (h ▸ h2)
    · rw [h] at h2; injection h2 with h2; omega
  have hni : ∀ k, vi.ownBlock = some k → vd.ownBlock ≠ some k := fun k hk => (o7 k hk).1
  have hnl : ∀ k, vl.ownBlock = some k → vd.ownBlock ≠ some k := fun k hk e => o8 k e hk
  have hsz : (w1.setCell ⟨M, 8, none⟩ v').heap.size = w1.heap.size := by simp [World.setCell]
  refine ⟨⟨H.hM, by rw [hsz]; exact Nat.lt_of_lt_of_le H.lt hg.size, below_setCell (H.bel.trans (hB.mono (by have := H.hM; omega))) _ _ _ H.hM, hc _ _ (by decide) H.c0, hc _ _ (by decide) H.c1, hc _ _ (by decide) H.c2, hc _ _ (by decide) H.c3, hc _ _ (by decide) H.c4, hc _ _ (by decide) H.c5, hc _ _ (by decide) H.c6,
    fun o ho => by rw [World.frozen?_setCell, (hbc o).2]; exact H.fr o ho,
    vi, v', vl, hc _ _ (by decide) o1, h9, hc _ _ (by decide) o3, o4.keep (fun k hk => hbl k (hi k hk).2 (hi k hk).1 (hni k hk)), hO.keep (fun k hk => heap_set_ne _ _ _ (by have := (Own.lt hO k hk).1; omega)), o6.keep (fun k hk => hbl k (hl k hk).2 (hl k hk).1 (hnl k hk)),
    fun k hk => ⟨hfre k (hi k hk).2 (hni k hk), (o7 k hk).2⟩, fun k hk e => hfre k (hl k e).2 (hnl k e) hk⟩, ⟨by rw [hsz]; exact hg.size, fun k ⟨h1, h2, h3⟩ => ⟨⟨by rw [hsz]; exact Nat.lt_of_lt_of_le h1 hg.size, h2, fun o ho v hv => ?_⟩, hbl k h1 h2 (h3 8 (by omega) vd hd0)⟩⟩⟩
  by_cases c : o = 8
  · subst c
    rw [h9] at hv; cases hv
    exact hfre k h1 (h3 8 (by omega) vd hd0)
  · rw [set_off _ (fun e => c e.symm), (hbc o).1] at hv
    exact h3 o ho v hv

set_option maxHeartbeats 1000000 in
set_option maxRecDepth 100000 in
theorem takes_any (k v : Int) (H : MkSt w0 M vg vc vb vo room again at_ st w) (h1 : st.l.length ≤ 1000000) (h2 : st.inn.length ≤ 1000000) :
    Calls Try.prog 128 #[.pointer (some ⟨M, 0, none⟩), .int .u8 k, .int .i64 v] w fun e w' => e = .returned (.tuple #[]) ∧ MkSt w0 M vg vc vb vo room again at_ (Pl.takeS k v st) w' ∧ Keep M w w' := by
  have HK := Lib.hid H
  obtain ⟨vi, vd, vl, o1, o2, o3, o4, o5, o6, o7, o8⟩ := H.own
  obtain ⟨al, ll, cl, rfl⟩ := ownsRow_slice (Classical.choose_spec o6).1
  have HO6 := Lib.hid o6
  have hM := H.lt
  have O3 := Lib.hid o3
  clear H o7 o8 o4 o5 o2 o6
  go_enter Try.func128, Try.ntmps128
  go_wp2_with (at_builtin; go_must (refine wpList_appL _ rfl _ _ rfl (M + 1) _ st.l (k, v) HO6.out rfl rfl hM (by omega) ?_))
  intro v' w1 hO hB hg hob
  have hbc := box_cells (M := M) hM hg (fun e => by have := (HO6.out.lt M e).1; omega) 9
  have y9 := hbc.1.trans O3.out
  have z9 := hbc.2.trans (HK.out.fr 9 (by omega))
  obtain ⟨a1, n1, q1, rfl⟩ := ownsRow_slice (Classical.choose_spec hO).1
  obtain ⟨hM1, hK1⟩ := HK.out.putL O3.out hO hB hg (hob.imp_right fun ⟨q, h, h3⟩ => ⟨q, h, Nat.le_of_lt h3⟩)
  have HM1 := Lib.hid hM1
  have HK1 := Lib.hid hK1
  obtain ⟨vi', vd', vl', p1, _, _, p4, _⟩ := hM1.own
  obtain ⟨ai, li, ci, rfl⟩ := ownsRow_slice p4
  have P4 := Lib.hid p4
  have P1 := Lib.hid p1
  have hM2 := hM1.lt
  have z7 := hM1.fr 7 (by omega)
  have Z7 := Lib.hid z7
  clear hO hB hg hob hbc hM1 hK1 p4 o3 HO6 z7
  go_wp2_with (at_builtin; go_must (refine wpList_app1h (w1.setCell ⟨M, 9, none⟩ (.slice a1 n1 q1)) rfl _ _ rfl (M + 1) _ st.inn v P4.out rfl (by show Value.slice (some ⟨w1.heap.size, 0, none⟩) 1 1 = _; simp [World.setCell]) hM2 (by omega) ?_))
  intro v'' w2 hO2 hB2 hg2 hob2
  have hbc := box_cells (M := M) hM2 hg2 (fun e => by have := (Own.lt P4.out M e).1; omega) 7
  have y7 := hbc.1.trans P1.out
  have z7 := hbc.2.trans Z7.out
  obtain ⟨a2, n2, q2, rfl⟩ := ownsRow_slice (show w2.ownsRow (M + 1) 3 1 v'' (st.inn ++ [v]).length ((st.inn ++ [v]).map (Value.int .i64)) from hO2)
  obtain ⟨hM3, hK3⟩ := HM1.out.putI P1.out hO2 hB2 hg2 (by
    rcases hob2 with h | ⟨q, h, h3⟩
    · exact .inl h
    · exact .inr ⟨q, h, Nat.le_of_lt (by simpa [World.setCell] using h3)⟩)
  have HM3 := Lib.hid hM3
  have HK3 := Lib.hid (HK1.out.trans hK3)
  clear hO2 hB2 hg2 hob2 hbc hM3 hK3 p1 y9 z9 hM2
  go_wp2
  go_returns
  exact ⟨rfl, HM3.out, HK3.out⟩
end
end Go.Proofs.Ytgmagldbfajedaa
