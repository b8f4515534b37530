/-
  plans.(*making).drop: contract drop_any (its region 1 draws its order).
-/
import Derived.Test.YtgmagldbfajedaaPlDel
namespace Go.Proofs.Ytgmagldbfajedaa
open Go.RowKit

theorem step_appL {ops : Array Oper} {o : Oper} {a : Act} {K : Act → World → Prop} {Q : Exit → Act → World → Prop} {E : Prop} (W : World) (hgd : o.guard = none) (s t : Operand)
    (ho : o.op = .call { callee := .builtin .append, args := #[s, t], argTypes := #[75, 75] }) (base : Nat) (v : Value) (l : List (Int × Int)) (x : Int × Int) (b : Nat)
    (hown : OwnL base W v l) (hs : a.eval s = v) (ht : a.eval t = .slice (some ⟨b, 0, none⟩) 1 1) (hnew : W.heap[b]? = some (.cells #[.int .u8 x.1, .int .i64 x.2] 82 (0, 0))) (hb : base ≤ W.heap.size) (hlen : l.length ≤ 10000000)
    (h : ∀ v' w', OwnL base w' v' (l ++ [x]) → Below base W w' → W.grownBy w' v.ownBlock → (v'.ownBlock = v.ownBlock ∨ ∃ k, v'.ownBlock = some k ∧ W.heap.size ≤ k) → K (a.put o.dst v') w') :
    if Region.wanted o (yielded ops a.tmps) = true then Oper.wp Try.prog o a W K Q else E := by
  obtain ⟨i0, hi, hz0, hz1, hz2⟩ := info_parts Try.info82
  have hl2 := hown.lt
  obtain ⟨vs, hrow, hvs⟩ := hown
  have hw : Region.wanted o (yielded ops a.tmps) = true := by simp [Region.wanted, hgd]
  rw [if_pos hw]
  obtain ⟨v', w', hr, hown', hgrow, _, hob⟩ := run_append_own_at (P := Try.prog) W base 75 o.type 82 i0 _ 2 16 Try.underlying75 hi hz0 hz1 hz2 rfl (by decide) v l.length vs hrow ⟨b, 0, none⟩ 1 1 [.int .u8 x.1, .int .i64 x.2] rfl (by
    intro j u hj
    match j, hj with
    | 0, hj => simp at hj; subst hj; simp [Addr.add, World.cell?, hnew]
    | 1, hj => simp at hj; subst hj; simp [Addr.add, World.cell?, hnew]) (by
    intro u hu
    simp only [List.mem_cons, List.not_mem_nil, or_false] at hu
    rcases hu with rfl | rfl <;> rfl) (by unfold maxLen; omega) (by omega) hb
  unfold Oper.wp execOp
  simp only [ho, resolve, invoke, builtin, Sem.run_bind, Sem.run_pure, Result.andThen_ok, List.map_toArray, List.map_cons, List.map_nil, hs, ht, hr]
  · refine h v' w' ⟨vs ++ [.int .u8 x.1, .int .i64 x.2], by rw [List.length_append]; exact hown', fun i hil => ?_⟩ ((Below.refl base W).grown hgrow hb fun k hk => (hl2 k hk).1) hgrow ?_
    · have hvl : vs.length = l.length * 2 := hrow.1
      by_cases hlt : i < l.length
      · rw [stepN_left _ _ _ hlt]
        obtain ⟨e0, e1⟩ := hvs i hlt
        refine ⟨?_, ?_⟩ <;> (rw [List.getElem?_append_left (by omega)]; assumption)
      · have he : i = l.length := by rw [List.length_append] at hil; simp at hil; omega
        subst he
        rw [stepN_last]
        refine ⟨?_, ?_⟩ <;> (rw [List.getElem?_append_right (by omega), hvl]; simp [Nat.add_sub_cancel_left])
    · exact hob.imp_right fun e => ⟨_, e, Nat.le_refl _⟩

section
variable {w0 : World} {M : Nat} {vg vc vb vo : Value} {room : Int} {again : Bool} {at_ : Int} {st : Pl.St} {w w1 : World}

theorem Try.enters145 : ∀ args w, (callFunc 145 args).run Try.prog w = .ok (.enter 145 args) w := enters_of Try.func145 (by kernel_rfl) rfl

set_option maxHeartbeats 1000000 in
theorem drop1_gives (u x : Int) (B : Nat) (W : World) (hc : W.cell? ⟨B, 0, none⟩ = some (.int .i64 u)) :
    FnGives Try.prog 145 #[.pointer (some ⟨B, 0, none⟩)] #[.int .i64 x] (.bool (decide (x = u))) W := by
  show Calls Try.prog 145 #[.int .i64 x, .pointer (some ⟨B, 0, none⟩)] W _
  go_enter Try.func145, Try.ntmps145
  go_wp2
  all_goals (go_ret; exact ⟨by show Ending.returned (.bool (x == u)) = _; rfl, 0, rfl⟩)

set_option maxHeartbeats 1000000 in
set_option maxRecDepth 100000 in
theorem drop_any (u : Int) (H : MkSt w0 M vg vc vb vo room again at_ st w) (h1 : st.l.length ≤ 1000000) :
    Calls Try.prog 129 #[.pointer (some ⟨M, 0, none⟩), .int .i64 u] w fun e w' => e = .returned (.tuple #[]) ∧ MkSt w0 M vg vc vb vo room again at_ (Pl.dropS u st) w' ∧ Keep M w w' := by
  have hB0 : Below w.heap.size w (w.alloc (.cells #[.int .i64 u] 3)) := (Below.refl _ _).alloc (Nat.le_refl _) _
  have H1 := H.on hB0
  have hK0 := Keep.of_below H.lt hB0
  have xu : (w.alloc (.cells #[.int .i64 u] 3)).cell? ⟨w.heap.size, 0, none⟩ = some (.int .i64 u) := by rw [World.cell?_alloc_at _ _ _ _ rfl]; rfl
  have hz1 : (w.alloc (.cells #[.int .i64 u] 3)).heap.size = w.heap.size + 1 := by simp
  have hM := H.lt
  have HK0 := Lib.hid hK0
  obtain ⟨ri, rd, rl, r1, r2, r3, r4, r5, r6, r7, r8⟩ := H.own
  have ei := (hB0.cell (p := ⟨M, 7, none⟩) hM).trans r1
  have el := (hB0.cell (p := ⟨M, 9, none⟩) hM).trans r3
  have HRI : Hid (∀ k, ri.ownBlock = some k → k < w.heap.size) := fun k hk => (Own.lt r4 k hk).2
  have HRX : Hid (∀ k, rl.ownBlock = some k → k < w.heap.size) := fun k hk => (r6.lt k hk).2
  clear H hB0 hK0 r1 r2 r3 r4 r5 r6 r7 r8
  go_enter Try.func129, Try.ntmps129
  go_wp2_with fail
  generalize w.alloc (.cells #[.int .i64 u] 3) = w1 at *
  have hBd : Below w1.heap.size w1 w1.drew := (Below.refl _ _).drew
  have hBa : ∀ o, Below w1.heap.size w1 (w1.drew.alloc o) := fun o => hBd.alloc (Nat.le_refl _) o
  obtain ⟨vi, vd, vl, o1, o2, o3, o4, o5, o6, o7, o8⟩ := H1.own
  obtain rfl : rl = vl := by simpa using el.symm.trans o3
  obtain ⟨al, ll, cl, rfl⟩ := ownsRow_slice (Classical.choose_spec o6).1
  obtain rfl : ri = vi := by simpa using ei.symm.trans o1
  clear el ei
  have hM1 := H1.lt
  have HYI : Hid (∀ o, (w1.drew.alloc o).cell? ⟨M, 7, none⟩ = some ri) := fun o => ((hBa o).cell (p := ⟨M, 7, none⟩) hM1).trans o1
  have x9 : w1.drew.cell? ⟨M, 9, none⟩ = some (.slice al ll cl) := o3
  have y9 : ∀ o, (w1.drew.alloc o).cell? ⟨M, 9, none⟩ = some (.slice al ll cl) := fun o => ((hBa o).cell (p := ⟨M, 9, none⟩) hM1).trans o3
  have xu1 : w1.drew.cell? ⟨w.heap.size, 0, none⟩ = some (.int .i64 u) := xu
  have yu : ∀ o, (w1.drew.alloc o).cell? ⟨w.heap.size, 0, none⟩ = some (.int .i64 u) := fun o => ((hBa o).cell (p := ⟨w.heap.size, 0, none⟩) (by show w.heap.size < w1.heap.size; omega)).trans xu
  have HO : Hid (∀ o, OwnL (M + 1) (w1.drew.alloc o) (.slice al ll cl) st.l) := fun o => o6.keep (fun k hk => (hBa o).block k (o6.lt k hk).2)
  have HMa : Hid (∀ o, MkSt w0 M vg vc vb vo room again at_ st (w1.drew.alloc o)) := fun o => H1.on (hBa o)
  have HKa : Hid (∀ o, Keep M w (w1.drew.alloc o)) := fun o => HK0.out.trans (Keep.of_below hM1 (hBa o))
  have HU : Hid (∀ o W, Below (M + 1) (w1.drew.alloc o) W → True) := fun _ _ _ => trivial
  have hrl : ∀ k, Value.ownBlock (.slice al ll cl) = some k → M + 1 ≤ k ∧ k < w1.heap.size := o6.lt
  have HRL := Lib.hid hrl
  have HZ := Lib.hid hz1
  have HB1 := Lib.hid xu
  clear H1 hBd hBa o1 o2 o4 o5 o6 o7 o8 hrl HU hz1
  go_region_law (first
    | (refine step_appL _ (by rfl) _ _ (by rfl) (M + 1) (.slice al ll cl) st.l (5, u) w1.heap.size (by exact HO.out _) (by rfl) (by rfl) (by first | (show (w1.heap.push _)[w1.heap.size]? = _; simp) | simp) (by simp; omega) (by omega) ?_; intro v7 w7 hO7 hb7 hg7 hob7
       obtain ⟨a7, n7, q7, rfl⟩ := ownsRow_slice (Classical.choose_spec hO7).1
       have y7 := (box_cells (M := M) (HMa.out _).lt hg7 (fun e => by have := (HRL.out M e).1; omega) 9).1.trans (y9 _)
       have z7 := (box_cells (M := M) (HMa.out _).lt hg7 (fun e => by have := (HRL.out M e).1; omega) 9).2.trans ((HMa.out _).fr 9 (by omega))))
  all_goals
    obtain ⟨hM8, hK8⟩ := (HMa.out _).putL (y9 _) hO7 hb7 hg7 hob7
    have HM8 := Lib.hid hM8
    have HK8 := Lib.hid ((HKa.out _).trans hK8)
    obtain ⟨vi', vd', vl', p1, _, _, p4, _⟩ := hM8.own
    have P4 := Lib.hid p4
    have P1 := Lib.hid p1
    have hMl := hM8.lt
    have zz7 := hM8.fr 7 (by omega)
    have Z7 := Lib.hid zz7
    have p1' := p1
    rw [set_off _ (by decide), (box_cells (M := M) (HMa.out _).lt hg7 (fun e => by have := (HRL.out M e).1; omega) 7).1.trans (HYI.out _)] at p1'
    obtain rfl : ri = vi' := by simpa using p1'
    clear p1'
    have hsz8 : w.heap.size < (w7.setCell ⟨M, 9, none⟩ (.slice a7 n7 q7)).heap.size := by
      have h := hg7.size
      have hz := HZ.out
      rw [show (w7.setCell ⟨M, 9, none⟩ (.slice a7 n7 q7)).heap.size = w7.heap.size by simp [World.setCell]]
      simp at h; omega
    have xb : (w7.setCell ⟨M, 9, none⟩ (.slice a7 n7 q7)).cell? ⟨w.heap.size, 0, none⟩ = some (.int .i64 u) := by
      have e : (w7.setCell ⟨M, 9, none⟩ (.slice a7 n7 q7)).heap[w.heap.size]? = w1.heap[w.heap.size]? := (heap_set_ne _ _ _ (by omega)).trans ((hg7.block _ (by have := HZ.out; simp; omega) (fun e => by have := HRX.out _ e.symm; omega)).trans (Below.heap_alloc _ _ _ (by have := HZ.out; omega)))
      unfold World.cell? at xu ⊢
      rw [e]; exact xu
    have hdel := deleteF_any 145 #[.pointer (some ⟨w.heap.size, 0, none⟩)] (fun x => decide (x = u)) Try.enters145 (M + 1) ri st.inn (w7.setCell ⟨M, 9, none⟩ (.slice a7 n7 q7)) P4.out (fun W hs hk x => drop1_gives u x w.heap.size W (by
      rw [← xb]; unfold World.cell?; rw [hk _ hsz8 (fun e => by have := HRI.out _ e; omega)]))
    have HDel := Lib.hid hdel
    obtain ⟨ai, li, ci, rfl⟩ := ownsRow_slice p4
    clear hO7 hb7 hg7 hob7 hM8 hK8 p4 zz7 hdel
    go_wp2_with (go_at_call 144; refine HDel.out.mono ?_; rintro e w9 ⟨v9, rfl, hO9, hg9, hob9⟩; obtain ⟨a9, n9, c9, rfl⟩ := ownsRow_slice (show w9.ownsRow (M + 1) 3 1 v9 _ _ from hO9); have y9' := (box_cells (M := M) hMl hg9 (fun e => by have := (Own.lt P4.out M e).1; omega) 7).1.trans P1.out; have z9' := (box_cells (M := M) hMl hg9 (fun e => by have := (Own.lt P4.out M e).1; omega) 7).2.trans Z7.out)
    obtain ⟨hMf, hKf⟩ := HM8.out.putI P1.out hO9 ((Below.refl _ _).grown hg9 hMl fun k hk => (Own.lt P4.out k hk).1) hg9 (.inl hob9)
    go_returns
    exact ⟨rfl, hMf, HK8.out.trans hKf⟩
end
end Go.Proofs.Ytgmagldbfajedaa
