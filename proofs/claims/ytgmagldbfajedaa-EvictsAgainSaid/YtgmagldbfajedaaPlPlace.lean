/-
  Plain Lean: the nodes of the order are reckoned one after the other (chapter 22): what stays, and that the second try does it.
-/
import Derived.Test.YtgmagldbfajedaaPlBring
namespace Go.Proofs.Ytgmagldbfajedaa
namespace Pl
open Gr Od Co

variable {E : Env}

/-! ### The order -/

theorem ord_may {g : List Gr.Node} (hs : (shapes g).isSome = true) (hn : Need g (needed g)) : mayB g (ordOf g) = true := by
  unfold mayB
  rw [hs, Bool.true_and]
  refine okB_all fun i hi => ?_
  obtain ⟨n, h1, h2, _⟩ := ord_at hn hi
  refine ⟨by omega, by omega, ?_⟩
  rw [hasB_false]
  intro hm
  obtain ⟨j, hj, he⟩ := mem_nth hm
  rw [List.length_take] at hj
  have hj2 : j < i := by omega
  rw [nth_eq _ _ (by rw [List.length_take]; omega), List.getElem_take, ← nth_eq _ j (by omega)] at he
  have := rise_nth (ord_rise g) hj2 hi
  omega

theorem inn_ok {g : List Gr.Node} (h : (shapes g).isSome = true) : InnOk g g.length ∧ 1 ≤ g.length ∧ g.length ≤ 32 := by
  obtain ⟨s, hss⟩ := Option.isSome_iff_exists.1 h
  obtain ⟨⟨hl1, hl2⟩, _, _⟩ := shapes_iff.1 hss
  exact ⟨fun n hn => inn_of hss hn, hl1, hl2⟩

/-- What is known of the order. -/
structure OrdOk (E : Env) : Prop where
  io : InnOk E.g E.g.length
  l1 : 1 ≤ E.g.length
  l2 : E.g.length ≤ 32
  may : mayB E.g E.order = true
  at_ : ∀ i, i < E.order.length → 0 ≤ nth E.order i ∧ nth E.order i < E.g.length
  rise : ∀ i j, i < j → j < E.order.length → nth E.order i < nth E.order j
  inn : ∀ j, j < E.order.length → ∀ u ∈ (nodeN E.g (nth E.order j).toNat).inn, 0 ≤ u ∧ u < nth E.order j ∧ ∃ i, i < j ∧ nth E.order i = u
  pos : 0 < E.order.length
  last : nth E.order (E.order.length - 1) = (E.g.length : Int) - 1
  taken : ∀ i, i < E.order.length - 1 → ∃ k, i < k ∧ k < E.order.length ∧ nth E.order i ∈ (nodeN E.g (nth E.order k).toNat).inn
  len : E.order.length ≤ E.g.length
  srcInn : ∀ v, srcB (nodeN E.g v) = true → v < E.g.length → (nodeN E.g v).inn = []
  lastSrc : srcB (nodeN E.g (E.g.length - 1)) = false

theorem ordOk (hE : EnvOk E) : OrdOk E := by
  obtain ⟨hio, hl1, hl2⟩ := inn_ok hE.sh
  have hN := need_of hl1 hio
  have hO := hE.ord
  obtain ⟨s, hss⟩ := Option.isSome_iff_exists.1 hE.sh
  refine ⟨hio, hl1, hl2, by rw [hO]; exact ord_may hE.sh hN, fun i hi => ?_, fun i j h1 h2 => ?_, fun j hj u hu => ?_, by rw [hO]; exact ord_pos hN, by rw [hO]; exact ord_last hN, fun i hi => ?_, ?_, fun v h1 h2 => ?_, ?_⟩
  · rw [hO] at hi ⊢
    obtain ⟨n, h1, h2, _⟩ := ord_at hN hi
    omega
  · rw [hO] at h2 ⊢; exact rise_nth (ord_rise E.g) h1 h2
  · rw [hO] at hj hu ⊢
    have h1 := ord_inn hio hN hj hu
    rw [hasB_iff] at h1
    obtain ⟨i, hi, he⟩ := mem_nth h1
    rw [List.length_take] at hi
    rw [nth_eq _ _ (by rw [List.length_take]; omega), List.getElem_take, ← nth_eq _ i (by omega)] at he
    obtain ⟨n, h2, h3, _⟩ := ord_at hN hj
    rw [h2, Int.toNat_natCast] at hu
    have := (hio n h3).2 u hu
    exact ⟨this.1, by omega, i, by omega, he⟩
  · rw [hO] at hi
    obtain ⟨k, h1, h2, h3⟩ := ord_taken hN hi
    rw [hO]
    exact ⟨k, h1, h2, (hasB_iff _ _).1 h3⟩
  · rw [hO]
    have := placesF_length (needed E.g) 0
    have := hN.ln
    unfold ordOf
    omega
  · obtain ⟨k, h3, h4, _⟩ := run_node (shapes_iff.1 hss).2.1 v h2
    have h5 := (ofB_parts h4).2.1
    unfold srcB at h1
    simp only [Bool.or_eq_true, decide_eq_true_eq] at h1
    have h6 : k.most = 0 := by
      rcases h1 with h1 | h1 <;> rw [h1] at h3 <;> simp [kindOf] at h3 <;> rw [← h3]
    rw [h6] at h5
    exact List.eq_nil_of_length_eq_zero (by omega)
  · have h1 := (shapes_iff.1 hss).2.2.2
    have h2 := endB_take (g := E.g) (n := E.g.length) hl1 (Nat.le_refl _)
    rw [List.take_length, h1] at h2
    have h3 := of_decide_eq_true h2.symm
    unfold srcB
    simp [h3.1, h3.2]

/-- Where a node is used next. -/
theorem next_use (hO : OrdOk E) {at_ : Nat} (hat : at_ ≤ E.order.length) {u : Int} (h0 : 0 ≤ u) (h1 : u < (E.g.length : Int) - 1) : 0 ≤ Ev.at_ (Od.next E.g E.order ((at_ : Int) - 1)) u ↔ Use E at_ u := by
  obtain ⟨n, rfl⟩ : ∃ n : Nat, u = (n : Int) := ⟨u.toNat, by omega⟩
  unfold Ev.at_
  rw [Int.toNat_natCast, next_nth _ _ (by omega), show ((E.order.length : Int) - 1 - ((at_ : Int) - 1)).toNat = E.order.length - at_ by omega]
  rcases nextD_first hO.may (n := n) (by omega) (E.order.length - at_) (by omega) with ⟨h2, h3⟩ | ⟨i, h2, h3, h4, h5, _⟩
  · rw [h2]
    constructor
    · intro h; omega
    · rintro ⟨j, h4, h5, h6⟩
      have := h3 j (by omega) h5
      unfold takes at this
      rw [hasB_false] at this
      exact absurd h6 this
  · rw [h4]
    unfold takes at h5
    rw [hasB_iff] at h5
    exact ⟨fun _ => ⟨i, by omega, h3, h5⟩, fun _ => by omega⟩
theorem next_last' (hO : OrdOk E) (at_ : Int) : Ev.at_ (Od.next E.g E.order at_) ((E.g.length : Int) - 1) = E.order.length := by
  unfold Ev.at_
  rw [show ((E.g.length : Int) - 1).toNat = E.g.length - 1 by have := hO.l1; omega]
  exact next_last _ _ hO.l1

/-- What is used from a place on, and came ahead of it, is there. -/
def N (E : Env) (at_ : Nat) (st : St) : Prop := ∀ i j, i < at_ → at_ ≤ j → j < E.order.length → nth E.order i ∈ (nodeN E.g (nth E.order j).toNat).inn → Avail E st (nth E.order i)

theorem drops_spec (hE : EnvOk E) {at_ : Nat} {nx : List Int} (hnl : nx.length = E.g.length) {st : St} (h : J E at_ st []) : ∀ k, k ≤ E.g.length →
    J E at_ (dropsK nx st k) [] ∧ phi (dropsK nx st k) = phi st ∧ (dropsK nx st k).disk = st.disk ∧ (∀ u ∈ (dropsK nx st k).inn, u ∈ st.inn ∧ (u < k → 0 ≤ Ev.at_ nx u)) ∧
    (∀ u ∈ st.inn, 0 ≤ Ev.at_ nx u → u ∈ (dropsK nx st k).inn) ∧ ∃ q, (dropsK nx st k).l = st.l ++ q
  | 0, _ => ⟨h, rfl, rfl, fun u hu => ⟨hu, fun c => by have := (h.rg u hu).1; omega⟩, fun _ h _ => h, [], by simp [dropsK]⟩
  | k + 1, hk => by
    obtain ⟨h1, h2, h3, h4, h5, q, h6⟩ := drops_spec hE hnl h k (by omega)
    unfold dropsK
    by_cases c : hasB (dropsK nx st k).inn (k : Int) = true ∧ nth nx k < 0
    · rw [if_pos c]
      obtain ⟨d1, d2⟩ := h1.drop hE c.1 rfl
      refine ⟨d1, d2.trans h2, h3, fun u hu => ?_, fun u hu h0 => ?_, q ++ [(5, (k : Int))], by show (dropsK nx st k).l ++ _ = _; rw [h6, List.append_assoc]⟩
      · have hu2 : u ∈ (dropsK nx st k).inn ∧ u ≠ (k : Int) := by simpa [dropS] using hu
        obtain ⟨h7, h8⟩ := h4 u hu2.1
        exact ⟨h7, fun hlt => h8 (by omega)⟩
      · have hne : u ≠ (k : Int) := by
          rintro rfl
          unfold Ev.at_ at h0
          rw [Int.toNat_natCast] at h0
          omega
        have := h5 u hu h0
        simp [dropS, this, hne]
    · rw [if_neg c]
      refine ⟨h1, h2, h3, fun u hu => ?_, h5, q, h6⟩
      obtain ⟨h7, h8⟩ := h4 u hu
      refine ⟨h7, fun hlt => ?_⟩
      by_cases d : u = (k : Int)
      · subst d
        have hx : ¬ nth nx k < 0 := fun hlt => c ⟨(hasB_iff _ _).2 hu, hlt⟩
        unfold Ev.at_
        rw [Int.toNat_natCast]
        omega
      · exact h8 (by omega)

theorem sub_sum (b : List Int) : ∀ (l m : List Int), (∀ v ∈ m, 0 ≤ Ev.at_ b v) → l.Nodup → (∀ x ∈ l, x ∈ m) → Ev.sumB b l ≤ Ev.sumB b m
  | [], m, hp, _, _ => by
    have : ∀ m : List Int, (∀ v ∈ m, 0 ≤ Ev.at_ b v) → 0 ≤ Ev.sumB b m := fun m => by
      induction m with
      | nil => intro _; simp [Ev.sumB]
      | cons x r ih =>
        intro h
        have h1 := h x (by simp)
        have h2 := ih fun v hv => h v (by simp [hv])
        simp only [Ev.sumB]; omega
    simpa [Ev.sumB] using this m hp
  | x :: r, m, hp, hn, hs => by
    obtain ⟨n1, n2⟩ := List.nodup_cons.1 hn
    have hx := hs x (by simp)
    have h1 := sub_sum b r (m.erase x) (fun v hv => hp v (List.mem_of_mem_erase hv)) n2 (fun y hy => by
      have hne : y ≠ x := by rintro rfl; exact n1 hy
      exact (List.mem_erase_of_ne hne).2 (hs y (by simp [hy])))
    have h2 := Ev.sumB_perm b (List.perm_cons_erase hx)
    simp only [Ev.sumB] at h2 ⊢
    omega

/-- The room that is taken behind the last step. -/
theorem Inv.lastUsed {st : St} {A : List Int} {K : Nat → Kn} (H : Inv E st A K) {l : List (Int × Int)} {s : Int × Int} (he : st.l = l ++ [s]) : Ev.sumB E.b st.inn ∈ useds E.g (fun u => nth E.b u) (kn0 E.g) st.l := by
  have hr := H.run
  rw [he] at hr ⊢
  obtain ⟨K1, h1, h2⟩ := (okRun_append _ _ _ _).1 hr
  obtain ⟨K2, h3, _, h4⟩ := okRun_cons h2
  simp [okRun] at h4
  subst h4
  rw [useds_append _ _ _ _ h1, useds, h3]
  simp only [useds, List.mem_append, List.mem_cons, List.not_mem_nil, or_false]
  right
  exact (Inv.used (fun u hu => ⟨(H.kn u hu).1, (H.kn u hu).2.1⟩) H.sub H.nd H.rg).symm

/-- A node of the order was reckoned: the step is there, and what it needs was taken. -/
def Did (E : Env) (st : St) (v : Int) : Prop := srcB (nodeN E.g v.toNat) = true ∨ ((3, v) ∈ st.l ∧ ∃ x ∈ useds E.g (fun u => nth E.b u) (kn0 E.g) st.l, Ev.at_ E.b v + Ev.sumB E.b (once (nodeN E.g v.toNat).inn) ≤ x)
theorem Did.ext {st st' : St} {A : List Int} {at_ : Nat} {v : Int} (h : Did E st v) (hJ : J E at_ st A) (he : ∃ q, st'.l = st.l ++ q) : Did E st' v := by
  obtain ⟨q, he⟩ := he
  obtain ⟨K, hK⟩ := hJ.inv
  rcases h with h | ⟨h1, x, h2, h3⟩
  · exact .inl h
  · refine .inr ⟨by rw [he]; exact List.mem_append_left _ h1, x, ?_, h3⟩
    rw [he, useds_append _ _ _ _ hK.run]
    exact List.mem_append_left _ h2

/-- What a place leaves. -/
structure Placed (E : Env) (at_ : Nat) (st : St) : Prop where
  j : J E at_ st []
  n : N E at_ st
  inn : ∀ u ∈ st.inn, ∀ i, at_ ≤ i → i < E.order.length → u < nth E.order i
  dsk : ∀ u ∈ st.disk, srcB (nodeN E.g u.toNat) = true ∨ ∀ i, at_ ≤ i → i < E.order.length → u < nth E.order i
  did : ∀ i, i < at_ → Did E st (nth E.order i)
  root : at_ = E.order.length → ((E.g.length : Int) - 1) ∈ st.inn

theorem place_eq (at_ : Nat) (st : St) : place E at_ st = if srcB (nodeN E.g (nth E.order at_).toNat) = true then (st, true) else
    if (brings E (Od.next E.g E.order ((at_ : Int) - 1)) ((nth E.order at_).toNat + 1) (nth E.order at_) [] st).2 = false then ((brings E (Od.next E.g E.order ((at_ : Int) - 1)) ((nth E.order at_).toNat + 1) (nth E.order at_) [] st).1, false) else
    if (makes E (Od.next E.g E.order ((at_ : Int) - 1)) (nth E.order at_) ([nth E.order at_] ++ (nodeN E.g (nth E.order at_).toNat).inn) (brings E (Od.next E.g E.order ((at_ : Int) - 1)) ((nth E.order at_).toNat + 1) (nth E.order at_) [] st).1).2 = false then
      ((makes E (Od.next E.g E.order ((at_ : Int) - 1)) (nth E.order at_) ([nth E.order at_] ++ (nodeN E.g (nth E.order at_).toNat).inn) (brings E (Od.next E.g E.order ((at_ : Int) - 1)) ((nth E.order at_).toNat + 1) (nth E.order at_) [] st).1).1, false) else
    (dropsK (Od.next E.g E.order (at_ : Int)) (takeS 3 (nth E.order at_) (makes E (Od.next E.g E.order ((at_ : Int) - 1)) (nth E.order at_) ([nth E.order at_] ++ (nodeN E.g (nth E.order at_).toNat).inn) (brings E (Od.next E.g E.order ((at_ : Int) - 1)) ((nth E.order at_).toNat + 1) (nth E.order at_) [] st).1).1) E.g.length, true) := rfl

theorem place_spec (hE : EnvOk E) (hO : OrdOk E) {at_ : Nat} (hat : at_ < E.order.length) {st : St} (H : Placed E at_ st) :
    (∃ A, J E at_ (place E at_ st).1 A ∨ J E (at_ + 1) (place E at_ st).1 A) ∧ phi (place E at_ st).1 ≤ phi st + 70 ∧ ((place E at_ st).2 = true → Placed E (at_ + 1) (place E at_ st).1) := by
  obtain ⟨hv0, hv1⟩ := hO.at_ at_ hat
  have he := place_eq (E := E) at_ st
  by_cases hs : srcB (nodeN E.g (nth E.order at_).toNat) = true
  · rw [if_pos hs] at he
    rw [he]
    have hnil := hO.srcInn _ hs (by omega)
    have hJ : J E (at_ + 1) st [] := ⟨H.j.inv, H.j.sd, H.j.fut.skip hnil⟩
    refine ⟨⟨[], .inl H.j⟩, by simp only; omega, fun _ => ⟨hJ, fun i j h1 h2 h3 h4 => ?_, fun u hu i h1 h2 => H.inn u hu i (by omega) h2, fun u hu => (H.dsk u hu).imp id (fun h i h1 h2 => h i (by omega) h2), fun i hi => ?_, fun hl => ?_⟩⟩
    · by_cases c : i = at_
      · subst c; exact .inr (.inl (H.j.srcs ⟨hv0, hv1⟩ hs))
      · exact H.n i j (by omega) (by omega) h3 h4
    · by_cases c : i = at_
      · subst c; exact .inl hs
      · exact H.did i (by omega)
    · exfalso
      have h1 := hO.last
      rw [show E.order.length - 1 = at_ by omega] at h1
      have h2 := hO.lastSrc
      rw [h1, show ((E.g.length : Int) - 1).toNat = E.g.length - 1 by have := hO.l1; omega] at hs
      rw [hs] at h2; cases h2
  rw [if_neg hs] at he
  have hs' : srcB (nodeN E.g (nth E.order at_).toNat) = false := by simpa using hs
  generalize hnx : Od.next E.g E.order ((at_ : Int) - 1) = nx at *
  have hinn := hO.inn at_ hat
  have hb : ∀ u ∈ st.inn, u < nth E.order at_ := fun u hu => H.inn u hu at_ (Nat.le_refl _) hat
  have hus : ∀ u, 0 ≤ u → u < nth E.order at_ → 0 ≤ Ev.at_ nx u → Use E at_ u := fun u h0 h1 h2 => by
    rw [← hnx] at h2
    exact (next_use hO (by omega) h0 (by omega)).1 h2
  have hav : ∀ u ∈ (nodeN E.g (nth E.order at_).toNat).inn, (0 ≤ u ∧ u < nth E.order at_) ∧ Avail E st u := fun u hu => by
    obtain ⟨h0, h1, i, h2, h3⟩ := hinn u hu
    refine ⟨⟨h0, h1⟩, ?_⟩
    rw [← h3]
    exact H.n i at_ h2 (Nat.le_refl _) hat (by rw [h3]; exact hu)
  have hil := (hO.io (nth E.order at_).toNat (by omega)).1
  have hb1 : ((∃ A, J E at_ (brings E nx ((nth E.order at_).toNat + 1) (nth E.order at_) [] st).1 A ∧ ((brings E nx ((nth E.order at_).toNat + 1) (nth E.order at_) [] st).2 = true → A = [])) ∧
      Tr E nx (fun u => u ∈ ([] : List Int) ∨ u = nth E.order at_ ∨ u ∈ (nodeN E.g (nth E.order at_).toNat).inn) (fun u => 0 ≤ u ∧ u < nth E.order at_) st (brings E nx ((nth E.order at_).toNat + 1) (nth E.order at_) [] st).1 ∧
      phi (brings E nx ((nth E.order at_).toNat + 1) (nth E.order at_) [] st).1 ≤ phi st + 68 ∧ ((brings E nx ((nth E.order at_).toNat + 1) (nth E.order at_) [] st).2 = true → ∀ u ∈ (nodeN E.g (nth E.order at_).toNat).inn, u ∈ (brings E nx ((nth E.order at_).toNat + 1) (nth E.order at_) [] st).1.inn)) := by
    by_cases c : (nth E.order at_).toNat = 0
    · have hav2 : ∀ u ∈ (nodeN E.g (nth E.order at_).toNat).inn, (0 ≤ u ∧ u < nth E.order at_) ∧ (u ∈ st.inn ∨ u ∈ st.disk) := fun u hu => by have := (hav u hu).1; omega
      rw [c] at hav2 ⊢
      obtain ⟨h1, h2, h3, h4, _⟩ := brings_flat hE (by omega) hus 0 (v := nth E.order at_) (pinned := []) H.j (by rw [c]; exact hav2) hb hil
      rw [c] at h2 h4
      exact ⟨h1, h2.mono (fun _ h => h) (fun u hu => (hav2 u hu).1), by omega, h4⟩
    · obtain ⟨f, hf⟩ : ∃ f, (nth E.order at_).toNat + 1 = f + 2 := ⟨(nth E.order at_).toNat - 1, by omega⟩
      rw [hf]
      exact brings_spec hE hO.io (by omega) hus f H.j hav hb hil
  obtain ⟨⟨A, b1, b2⟩, b3, b4, b5⟩ := hb1
  generalize (nth E.order at_).toNat + 1 = fu at *
  by_cases d : (brings E nx fu (nth E.order at_) [] st).2 = false
  · rw [if_pos d] at he
    rw [he]
    exact ⟨⟨A, .inl b1⟩, by simp only; omega, fun c => by cases c⟩
  rw [if_neg d] at he
  have d' : (brings E nx fu (nth E.order at_) [] st).2 = true := by simpa using d
  obtain rfl := b2 d'
  have b5' := b5 d'
  generalize (brings E nx fu (nth E.order at_) [] st).1 = st1 at *
  have hbr1 : ∀ u ∈ st1.inn, u < nth E.order at_ := fun u hu => by
    rcases b3.news u hu with h | h
    · exact hb u h
    · exact h.2
  obtain ⟨m1, m2, m3, m4⟩ := makes_spec hE (nx := nx) b1 (v := nth E.order at_) (pinned := [nth E.order at_] ++ (nodeN E.g (nth E.order at_).toNat).inn) (fun _ h => by cases h) (fun x hx h0 => hus x (b1.rg x hx).1 (hbr1 x hx) h0)
  by_cases e : (makes E nx (nth E.order at_) ([nth E.order at_] ++ (nodeN E.g (nth E.order at_).toNat).inn) st1).2 = false
  · rw [if_pos e] at he
    rw [he]
    exact ⟨⟨[], .inl m1⟩, by simp only; omega, fun c => by cases c⟩
  rw [if_neg e] at he
  have e' : (makes E nx (nth E.order at_) ([nth E.order at_] ++ (nodeN E.g (nth E.order at_).toNat).inn) st1).2 = true := by simpa using e
  have m4' := m4 e'
  generalize (makes E nx (nth E.order at_) ([nth E.order at_] ++ (nodeN E.g (nth E.order at_).toNat).inn) st1).1 = st2 at *
  have t12 : Tr E nx (fun u => u ∈ (nodeN E.g (nth E.order at_).toNat).inn) (fun u => 0 ≤ u ∧ u < nth E.order at_) st st2 :=
    (b3.mono (fun u hu => .inr (.inr hu)) (fun _ h => h)).trans m2 (fun u hu => List.mem_append_right _ hu) (fun _ h => h.elim)
  have hbr2 : ∀ u ∈ st2.inn, u < nth E.order at_ := fun u hu => by
    rcases t12.news u hu with h | h
    · exact hb u h
    · exact h.2
  have hin2 : hasB st2.inn (nth E.order at_) = false := by
    rw [hasB_false]; intro hx; have := hbr2 _ hx; omega
  have hdk2 : ∀ u ∈ st2.disk, srcB (nodeN E.g u.toNat) = true ∨ u < nth E.order at_ := fun u hu => by
    rcases t12.dnew u hu with h | h | h
    · exact (H.dsk u h).imp id (fun h => h at_ (Nat.le_refl _) hat)
    · exact .inr (hb u h)
    · exact .inr h.2
  have hd2 : hasB st2.disk (nth E.order at_) = false := by
    rw [hasB_false]; intro hx
    rcases hdk2 _ hx with h | h
    · rw [h] at hs'; cases hs'
    · omega
  have hin3 : ∀ k ∈ (nodeN E.g (nth E.order at_).toNat).inn, k ∈ st2.inn := fun k hk => m2.keep k (b5' k hk) (List.mem_append_right _ hk)
  obtain ⟨a1, a2⟩ := m1.do ⟨hv0, hv1⟩ hin2 hd2 hs' (fun k hk => (hasB_iff _ _).2 (hin3 k hk)) m4'
  have a1' : J E (at_ + 1) (takeS 3 (nth E.order at_) st2) [] := ⟨a1.inv, a1.sd, m1.fut.done⟩
  have hnl : (Od.next E.g E.order (at_ : Int)).length = E.g.length := next_length _ _ _
  obtain ⟨f1, f2, f3, f4, f5, q, f6⟩ := drops_spec hE hnl a1' E.g.length (Nat.le_refl _)
  have hnx2 : (at_ : Int) = ((at_ + 1 : Nat) : Int) - 1 := by omega
  generalize hst3 : takeS 3 (nth E.order at_) st2 = st3 at *
  have hst3i : ∀ u, u ∈ st3.inn ↔ u ∈ st2.inn ∨ u = nth E.order at_ := fun u => by rw [← hst3]; simp [takeS]
  have hst3d : st3.disk = st2.disk := by rw [← hst3]; rfl
  generalize hst4 : dropsK (Od.next E.g E.order (at_ : Int)) st3 E.g.length = st4 at *
  rw [he]
  refine ⟨⟨[], .inr f1⟩, by simp only; omega, fun _ => ⟨f1, fun i j h1 h2 h3 h4 => ?_, fun u hu i h1 h2 => ?_, fun u hu => ?_, fun i hi => ?_, fun hl => ?_⟩⟩
  · obtain ⟨hx0, hx1, _⟩ := hO.inn j h3 _ h4
    have hxj := (hO.at_ j h3).2
    have hU2 : Use E (at_ + 1) (nth E.order i) := ⟨j, h2, h3, h4⟩
    have hn2 : 0 ≤ Ev.at_ (Od.next E.g E.order (at_ : Int)) (nth E.order i) := by
      rw [hnx2]; exact (next_use hO (by omega) hx0 (by omega)).2 hU2
    by_cases c : i = at_
    · subst c
      exact .inl (f5 _ ((hst3i _).2 (.inr rfl)) hn2)
    · have hU1 : Use E at_ (nth E.order i) := ⟨j, by omega, h3, h4⟩
      have hn1 : 0 ≤ Ev.at_ nx (nth E.order i) := by rw [← hnx]; exact (next_use hO (by omega) hx0 (by omega)).2 hU1
      have hA2 : nth E.order i ∈ st2.inn ∨ nth E.order i ∈ st2.disk ∨ E.ag (nth E.order i) = true := by
        rcases H.n i j (by omega) (by omega) h3 h4 with h | h | h
        · exact t12.av _ (.inl h) hn1
        · exact t12.av _ (.inr h) hn1
        · exact .inr (.inr h)
      rcases hA2 with h | h | h
      · exact .inl (f5 _ ((hst3i _).2 (.inl h)) hn2)
      · exact .inr (.inl (by rw [f3, hst3d]; exact h))
      · exact .inr (.inr h)
  · have h3 := (hst3i u).1 (f4 u hu).1
    have h4 := hO.rise at_ i (by omega) h2
    rcases h3 with h3 | h3
    · have := hbr2 u h3; omega
    · omega
  · rw [f3, hst3d] at hu
    refine (hdk2 u hu).imp id (fun h i h1 h2 => ?_)
    have := hO.rise at_ i (by omega) h2
    omega
  · by_cases c : i = at_
    · subst c
      refine Did.ext (st := st3) (.inr ⟨by rw [← hst3]; simp [takeS], Ev.sumB E.b st3.inn, ?_, ?_⟩) a1' ⟨q, f6⟩
      · obtain ⟨K3, hK3⟩ := a1'.inv
        exact hK3.lastUsed (l := st2.l) (s := (3, nth E.order i)) (by rw [← hst3]; rfl)
      · have hsub := sub_sum E.b (nth E.order i :: once (nodeN E.g (nth E.order i).toNat).inn) st3.inn (fun v hv => (at_nonneg hE (a1'.rg v hv).1 (a1'.rg v hv).2).1)
          (List.nodup_cons.2 ⟨fun hx => by have := hinn _ ((once_mem _ _).1 hx); omega, once_nodup _⟩) (fun x hx => by
            rcases List.mem_cons.1 hx with rfl | hx
            · exact (hst3i _).2 (.inr rfl)
            · exact (hst3i _).2 (.inl (hin3 x ((once_mem _ _).1 hx))))
        simpa [Ev.sumB] using hsub
    · have h1 := H.did i (by omega)
      obtain ⟨q1, e1⟩ := t12.ext
      refine (h1.ext H.j (st' := st3) ⟨q1 ++ [(3, nth E.order at_)], ?_⟩).ext a1' ⟨q, f6⟩
      rw [← hst3]
      show st2.l ++ _ = _
      rw [e1, List.append_assoc]
  · have h1 := hO.last
    rw [show E.order.length - 1 = at_ by omega] at h1
    rw [← h1]
    refine f5 _ ((hst3i _).2 (.inr rfl)) ?_
    rw [h1, next_last' hO]
    omega
end Pl
end Go.Proofs.Ytgmagldbfajedaa
