/-
  Plain Lean: a try reckons all of the order; the second one never fails where the room is enough (chapter 22).
-/
import Derived.Test.YtgmagldbfajedaaPlPlace
namespace Go.Proofs.Ytgmagldbfajedaa
namespace Pl
open Gr Od Co

variable {E : Env}

theorem srcs_mem (g : List Gr.Node) (u : Int) : u ∈ (((List.range g.length).filter fun i => srcB (nodeN g i)).map fun (i : Nat) => (i : Int)) ↔ (0 ≤ u ∧ u < g.length) ∧ srcB (nodeN g u.toNat) = true := by
  simp only [List.mem_map, List.mem_filter, List.mem_range]
  constructor
  · rintro ⟨i, ⟨h1, h2⟩, rfl⟩
    rw [Int.toNat_natCast]
    exact ⟨⟨by omega, by omega⟩, h2⟩
  · rintro ⟨⟨h0, h1⟩, h2⟩
    exact ⟨u.toNat, ⟨by omega, h2⟩, by omega⟩
theorem srcs_nodup (g : List Gr.Node) : (((List.range g.length).filter fun i => srcB (nodeN g i)).map fun (i : Nat) => (i : Int)).Nodup := by
  have h : (List.range g.length).Pairwise (· ≠ ·) := List.nodup_range
  have h2 := h.filter (fun i => srcB (nodeN g i))
  exact List.Pairwise.map _ (fun a b hab => by omega) h2

theorem start_placed (hE : EnvOk E) (hO : OrdOk E) : Placed E 0 (start E) := by
  have hm := srcs_mem E.g
  refine ⟨⟨⟨kn0 E.g, ⟨rfl, fun u hu => ⟨rfl, rfl, ?_, rfl⟩, (fun x hx => by simp [start, useds] at hx), List.nodup_nil, (fun v hv => by cases hv), srcs_nodup E.g, fun v hv => ((hm v).1 hv).1, (fun v hv => by cases hv), List.nodup_nil, by simp, fun u h1 h2 => ?_, hE.rm.1, trivial⟩⟩, trivial, ?_⟩, ?_, ?_, fun u hu => .inl ((hm u).1 hu).2, fun i hi => by omega, fun h => ?_⟩
  · show srcB (nodeN E.g u) = _
    rw [Bool.eq_iff_iff, hasB_iff]
    show _ ↔ (u : Int) ∈ (((List.range E.g.length).filter fun i => srcB (nodeN E.g i)).map fun (i : Nat) => (i : Int))
    rw [hm, Int.toNat_natCast]
    exact ⟨fun h => ⟨by omega, h⟩, fun h => h.2⟩
  · rw [hasB_iff]
    show (u : Int) ∈ (((List.range E.g.length).filter fun i => srcB (nodeN E.g i)).map fun (i : Nat) => (i : Int))
    rw [hm, Int.toNat_natCast]
    exact ⟨by omega, h2⟩
  · intro p u q e
    simp [start] at e
  · intro i j h1; omega
  · intro u hu; cases hu
  · have := hO.pos; omega

theorem places_spec (hE : EnvOk E) (hO : OrdOk E) : ∀ (m at_ : Nat) (st : St), at_ + m = E.order.length → Placed E at_ st →
    (∃ at2 A, J E at2 (places E m at_ st).1 A) ∧ phi (places E m at_ st).1 ≤ phi st + 70 * m ∧ ((places E m at_ st).2 = true → Placed E E.order.length (places E m at_ st).1)
  | 0, at_, st, h, H => ⟨⟨at_, [], H.j⟩, by simp [places], fun _ => by rw [← h]; exact H⟩
  | m + 1, at_, st, h, H => by
    obtain ⟨⟨A, h1⟩, h2, h3⟩ := place_spec hE hO (by omega) H
    rw [places]
    by_cases c : (place E at_ st).2 = false
    · rw [if_pos c]
      refine ⟨?_, by simp only; omega, fun e => by cases e⟩
      rcases h1 with h1 | h1
      · exact ⟨_, _, h1⟩
      · exact ⟨_, _, h1⟩
    · rw [if_neg c]
      obtain ⟨f1, f2, f3⟩ := places_spec hE hO m (at_ + 1) (place E at_ st).1 (by omega) (h3 (by simpa using c))
      exact ⟨f1, by omega, f3⟩

theorem nodup_len (n : Nat) (l : List Int) (hn : l.Nodup) (hr : ∀ v ∈ l, 0 ≤ v ∧ v < (n : Int)) : l.length ≤ n := by
  have h1 := sumP_list (f := fun _ => 1) (n := n) l hn hr
  have h2 : (l.map fun _ => (1 : Int)).sum = l.length := by
    clear h1 hn hr
    induction l with
    | nil => rfl
    | cons v r ih => simp only [List.map_cons, List.sum_cons, ih, List.length_cons]; omega
  have h3 : ∀ m, sumP (fun _ => 1) (fun u => hasB l (u : Int)) m ≤ m := fun m => by
    induction m with
    | zero => simp [sumP]
    | succ m ih => unfold sumP; split <;> omega
  have := h3 n
  have h4 : (l.map fun v => (fun _ => (1 : Int)) v.toNat).sum = l.length := h2
  omega

/-- A try is short, whether it does it or not. -/
theorem try_len (hE : EnvOk E) (hO : OrdOk E) : (tryF E).1.l.length ≤ 2300 ∧ (tryF E).1.inn.length ≤ 32 ∧ (tryF E).1.disk.length ≤ 32 := by
  obtain ⟨⟨at2, A, h1⟩, h2, _⟩ := places_spec hE hO E.order.length 0 (start E) (by omega) (start_placed hE hO)
  have h3 : phi (start E) ≤ 0 := by
    unfold phi start
    simp only [List.length_nil]
    omega
  obtain ⟨K, hK⟩ := h1.inv
  have h4 := nodup_len E.g.length _ hK.nd hK.rg
  have h5 := nodup_len E.g.length _ hK.dnd hK.drg
  have h6 := hO.len
  have h7 := hO.l2
  unfold tryF
  unfold phi at h2 h3
  refine ⟨?_, by omega, by omega⟩
  have : (70 : Int) * E.order.length ≤ 2240 := by omega
  omega

theorem try_good (hE : EnvOk E) (hO : OrdOk E) (h : (tryF E).2 = true) : Placed E E.order.length (tryF E).1 :=
  (places_spec hE hO E.order.length 0 (start E) (by omega) (start_placed hE hO)).2.2 h

/-! ### Where nothing is reckoned again, and the room is enough, a try does it -/

theorem pins_fit (hE : EnvOk E) {T inn pinned : List Int} {u : Int} (hT : ∀ x ∈ T, 0 ≤ x ∧ x < (E.g.length : Int)) (hin : inn.Nodup) (hu : u ∈ T) (hui : ¬ u ∈ inn) (hp : ∀ x ∈ inn, x ∈ pinned → x ∈ T) : Ev.at_ E.b u + Ev.sumB E.b (Ev.pins pinned inn) ≤ Ev.sumB E.b T := by
  have := sub_sum E.b (u :: Ev.pins pinned inn) T (fun v hv => (at_nonneg hE (hT v hv).1 (hT v hv).2).1) (List.nodup_cons.2 ⟨fun h => hui (List.mem_filter.1 h).1, hin.filter _⟩) (fun x hx => by
    rcases List.mem_cons.1 hx with rfl | hx
    · exact hu
    · obtain ⟨h1, h2⟩ := List.mem_filter.1 hx
      exact hp x h1 ((hasB_iff _ _).1 h2))
  simpa [Ev.sumB] using this

theorem second_ok (hE : EnvOk E) {at_ : Nat} {nx pin : List Int} {m : Int} (hm : m ≤ (E.g.length : Int) - 1) (hus : ∀ u, 0 ≤ u → u < m → 0 ≤ Ev.at_ nx u → Use E at_ u) (hnl : nx.length = E.g.length) {T : List Int} (hT : ∀ x ∈ T, 0 ≤ x ∧ x < m)
    (hpin : ∀ u ∈ pin, u = m ∨ u ∈ T) (hm0 : 0 ≤ m) (fit : Ev.sumB E.b T ≤ E.room) :
    ∀ (r : List Int) (st : St) (A : List Int), J E at_ st A → (∀ u ∈ A, u ∈ pin) → (∀ u ∈ r, u ∈ pin ∧ u ∈ T) → r.Nodup → (∀ u ∈ r, u ∈ st.inn ∨ u ∈ st.disk) → (∀ u ∈ st.inn, u < m) → A.length + r.length ≤ 4 → (second E nx pin r st A).2.2 = true
  | [], st, A, _, _, _, _, _, _, _ => rfl
  | u :: r, st, A, h, hA, hr, hn, hav, hb, hl => by
    obtain ⟨n1, n2⟩ := List.nodup_cons.1 hn
    rw [List.length_cons] at hl
    by_cases c : hasB st.inn u = true
    · rw [second, if_pos c]
      exact second_ok hE hm hus hnl hT hpin hm0 fit r st A h hA (fun x hx => hr x (by simp [hx])) n2 (fun x hx => hav x (by simp [hx])) hb (by omega)
    · rw [second, if_neg c]
      have c' : ¬ u ∈ st.inn := fun h => c ((hasB_iff _ _).2 h)
      have huT := (hr u (by simp)).2
      have hu0 := hT u huT
      have d : (makes E nx u pin st).2 = true := by
        refine makes_ok hE h ⟨hu0.1, by omega⟩ hnl (fun x hx => ?_) (Int.le_trans (pins_fit hE (T := T) (fun x hx => ⟨(hT x hx).1, by have := (hT x hx).2; omega⟩) h.nd huT c' (fun x hx hp => ?_)) fit)
        · rcases hpin x hx with h | h
          · subst h; omega
          · have := hT x h; omega
        · rcases hpin x hp with h | h
          · have := hb x hx; omega
          · exact h
      rw [if_neg (by rw [d]; decide)]
      obtain ⟨m1, m2, m3, m4⟩ := makes_spec hE (nx := nx) h (v := u) hA (fun x hx h0 => hus x (h.rg x hx).1 (hb x hx) h0)
      have hin1 : hasB (makes E nx u pin st).1.inn u = false := by
        rw [hasB_false]; intro hx
        rcases m2.news u hx with h | h
        · exact c' h
        · exact h
      have hd1 : hasB (makes E nx u pin st).1.disk u = true := by
        rw [hasB_iff]
        rcases hav u (by simp) with h | h
        · exact absurd h c'
        · exact m2.dsk u h
      obtain ⟨a1, a2⟩ := m1.ask (u := u) ⟨hu0.1, by omega⟩ hin1 hd1 (m4 d) (by omega)
      generalize (makes E nx u pin st).1 = st1 at *
      refine second_ok hE hm hus hnl hT hpin hm0 fit r (takeS 1 u st1) (A ++ [u]) a1 (fun x hx => ?_) (fun x hx => hr x (by simp [hx])) n2 (fun x hx => ?_) (fun x hx => ?_) (by simp; omega)
      · rcases List.mem_append.1 hx with hx | hx
        · exact hA x hx
        · simp at hx; subst hx; exact (hr _ (by simp)).1
      · rcases hav x (by simp [hx]) with h | h
        · exact .inl (List.mem_append_left _ (m2.keep x h (hr x (by simp [hx])).1))
        · exact .inr (m2.dsk x h)
      · rcases List.mem_append.1 hx with hx | hx
        · rcases m2.news x hx with h | h
          · exact hb x h
          · exact h.elim
        · simp at hx; subst hx; exact hu0.2

theorem place_ok (hE : EnvOk E) (hO : OrdOk E) {at_ : Nat} (hat : at_ < E.order.length) {st : St} (H : Placed E at_ st) (hag : ∀ u, E.ag u = false)
    (fit : srcB (nodeN E.g (nth E.order at_).toNat) = false → Ev.at_ E.b (nth E.order at_) + Ev.sumB E.b (once (nodeN E.g (nth E.order at_).toNat).inn) ≤ E.room) : (place E at_ st).2 = true := by
  obtain ⟨hv0, hv1⟩ := hO.at_ at_ hat
  have he := place_eq (E := E) at_ st
  by_cases hs : srcB (nodeN E.g (nth E.order at_).toNat) = true
  · rw [if_pos hs] at he
    rw [he]
  rw [if_neg hs] at he
  have hs' : srcB (nodeN E.g (nth E.order at_).toNat) = false := by simpa using hs
  have fit' := fit hs'
  have hnl : (Od.next E.g E.order ((at_ : Int) - 1)).length = E.g.length := next_length _ _ _
  generalize hnx : Od.next E.g E.order ((at_ : Int) - 1) = nx at *
  have hinn := hO.inn at_ hat
  have hb : ∀ u ∈ st.inn, u < nth E.order at_ := fun u hu => H.inn u hu at_ (Nat.le_refl _) hat
  have hus : ∀ u, 0 ≤ u → u < nth E.order at_ → 0 ≤ Ev.at_ nx u → Use E at_ u := fun u h0 h1 h2 => by
    rw [← hnx] at h2
    exact (next_use hO (by omega) h0 (by omega)).1 h2
  have hav : ∀ u ∈ (nodeN E.g (nth E.order at_).toNat).inn, (0 ≤ u ∧ u < nth E.order at_) ∧ (u ∈ st.inn ∨ u ∈ st.disk) := fun u hu => by
    obtain ⟨h0, h1, i, h2, h3⟩ := hinn u hu
    refine ⟨⟨h0, h1⟩, ?_⟩
    rcases H.n i at_ h2 (Nat.le_refl _) hat (by rw [h3]; exact hu) with h | h | h
    · rw [h3] at h; exact .inl h
    · rw [h3] at h; exact .inr h
    · rw [hag] at h; cases h
  have hil := (hO.io (nth E.order at_).toNat (by omega)).1
  obtain ⟨⟨A, b1, b2⟩, b3, b4, b5, b6⟩ := brings_flat hE (by omega) hus (nth E.order at_).toNat (v := nth E.order at_) (pinned := []) H.j hav hb hil
  have hbn := (at_nonneg hE hv0 hv1).1
  have d' : (brings E nx ((nth E.order at_).toNat + 1) (nth E.order at_) [] st).2 = true := by
    rw [b6]
    refine second_ok hE (at_ := at_) (m := nth E.order at_) (by omega) hus hnl (T := once (nodeN E.g (nth E.order at_).toNat).inn) (fun x hx => (hav x ((once_mem _ _).1 hx)).1) (fun u hu => ?_) hv0 (by omega) _ _ [] H.j (fun _ h => by cases h)
      (fun u hu => ⟨List.mem_append_right _ hu, hu⟩) (once_nodup _) (fun u hu => (hav u ((once_mem _ _).1 hu)).2) hb (by simpa using Nat.le_trans (once_length _) hil)
    rcases List.mem_append.1 hu with h | h
    · simp at h; exact .inl h
    · exact .inr h
  rw [if_neg (by rw [d']; decide)] at he
  obtain rfl := b2 d'
  have b5' := b5 d'
  generalize (brings E nx ((nth E.order at_).toNat + 1) (nth E.order at_) [] st).1 = st1 at *
  have hbr1 : ∀ u ∈ st1.inn, u < nth E.order at_ := fun u hu => by
    rcases b3.news u hu with h | h
    · exact hb u h
    · exact (hav u h).1.2
  have e' : (makes E nx (nth E.order at_) ([nth E.order at_] ++ (nodeN E.g (nth E.order at_).toNat).inn) st1).2 = true := by
    have hsub := sub_sum E.b (Ev.pins ([nth E.order at_] ++ (nodeN E.g (nth E.order at_).toNat).inn) st1.inn) (once (nodeN E.g (nth E.order at_).toNat).inn) (fun v hv => by
      have := (hav v ((once_mem _ _).1 hv)).1
      exact (at_nonneg hE this.1 (by omega)).1) (b1.nd.filter _) (fun x hx => by
      obtain ⟨h1, h2⟩ := List.mem_filter.1 hx
      rw [hasB_iff] at h2
      rw [once_mem]
      rcases List.mem_append.1 h2 with h | h
      · simp at h; have := hbr1 x h1; omega
      · exact h)
    refine makes_ok hE b1 ⟨hv0, hv1⟩ hnl (fun x hx => ?_) (by omega)
    rcases List.mem_append.1 hx with h | h
    · simp at h; subst h; omega
    · have := (hav x h).1; omega
  rw [if_neg (by rw [e']; decide)] at he
  rw [he]

theorem places_ok (hE : EnvOk E) (hO : OrdOk E) (hag : ∀ u, E.ag u = false) (fit : ∀ i, i < E.order.length → srcB (nodeN E.g (nth E.order i).toNat) = false → Ev.at_ E.b (nth E.order i) + Ev.sumB E.b (once (nodeN E.g (nth E.order i).toNat).inn) ≤ E.room) :
    ∀ (m at_ : Nat) (st : St), at_ + m = E.order.length → Placed E at_ st → (places E m at_ st).2 = true
  | 0, _, _, _, _ => rfl
  | m + 1, at_, st, h, H => by
    have hp := place_ok hE hO (by omega) H hag (fit at_ (by omega))
    rw [places, if_neg (by rw [hp]; decide)]
    exact places_ok hE hO hag fit m (at_ + 1) _ (by omega) ((place_spec hE hO (by omega) H).2.2 hp)
theorem try_ok (hE : EnvOk E) (hO : OrdOk E) (hag : ∀ u, E.ag u = false) (fit : ∀ i, i < E.order.length → srcB (nodeN E.g (nth E.order i).toNat) = false → Ev.at_ E.b (nth E.order i) + Ev.sumB E.b (once (nodeN E.g (nth E.order i).toNat).inn) ≤ E.room) : (tryF E).2 = true :=
  places_ok hE hO hag fit E.order.length 0 (start E) (by omega) (start_placed hE hO)
end Pl
end Go.Proofs.Ytgmagldbfajedaa
