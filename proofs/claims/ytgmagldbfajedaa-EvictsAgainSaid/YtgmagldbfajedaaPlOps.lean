/-
  Plain Lean: a plan's steps keep what stays; room for a node (chapter 22).
-/
import Derived.Test.YtgmagldbfajedaaPlPlan
namespace Go.Proofs.Ytgmagldbfajedaa
namespace Pl
open Gr Od Co

/-! ### The five steps -/

theorem beh1 {g : List Gr.Node} {K : Nat → Kn} {v : Nat} (h1 : (K v).inn = false) (h2 : (K v).asked = false) (h3 : (K v).disk = true) : beh g K 1 v = some ⟨(K v).inn, true, (K v).disk, (K v).src⟩ := by
  unfold beh; rw [if_pos rfl, if_pos ⟨h1, h2, h3⟩]
theorem beh2 {g : List Gr.Node} {K : Nat → Kn} {v : Nat} (h : (K v).asked = true) : beh g K 2 v = some ⟨true, false, (K v).disk, (K v).src⟩ := by
  unfold beh; rw [if_neg (by decide), if_pos rfl, if_pos h]
theorem beh3 {g : List Gr.Node} {K : Nat → Kn} {v : Nat} (h1 : inAll g K v = true) (h2 : (K v).inn = false) (h3 : (K v).asked = false) (h4 : (K v).src = false) : beh g K 3 v = some ⟨true, (K v).asked, (K v).disk, (K v).src⟩ := by
  unfold beh; rw [if_neg (by decide), if_neg (by decide), if_pos rfl, if_pos ⟨h1, h2, h3, h4⟩]
theorem beh4 {g : List Gr.Node} {K : Nat → Kn} {v : Nat} (h1 : (K v).inn = true) (h2 : (K v).disk = false) : beh g K 4 v = some ⟨(K v).inn, (K v).asked, true, (K v).src⟩ := by
  unfold beh; rw [if_neg (by decide), if_neg (by decide), if_neg (by decide), if_pos rfl, if_pos ⟨h1, h2⟩]
theorem beh5 {g : List Gr.Node} {K : Nat → Kn} {v : Nat} (h : (K v).inn = true) : beh g K 5 v = some ⟨false, (K v).asked, (K v).disk, (K v).src⟩ := by
  unfold beh; rw [if_neg (by decide), if_neg (by decide), if_neg (by decide), if_neg (by decide), if_pos rfl, if_pos h]

theorem hasB_snoc' (l : List Int) (x u : Int) : hasB (l ++ [x]) u = (hasB l u || decide (u = x)) := by
  rw [Bool.eq_iff_iff, hasB_iff]; simp [hasB_iff]
theorem hasB_drop (l : List Int) (x u : Int) : hasB (l.filter fun v => !decide (v = x)) u = (hasB l u && !decide (u = x)) := by
  rw [Bool.eq_iff_iff, hasB_iff]; simp [hasB_iff]
theorem sumB_drop (b : List Int) : ∀ (l : List Int) (u : Int), l.Nodup → u ∈ l → Ev.sumB b (l.filter fun v => !decide (v = u)) = Ev.sumB b l - Ev.at_ b u
  | [], u, _, h => by cases h
  | x :: r, u, hn, hu => by
    obtain ⟨h1, h2⟩ := List.nodup_cons.1 hn
    by_cases c : x = u
    · subst c
      have : (r.filter fun v => !decide (v = x)) = r := List.filter_eq_self.2 fun y hy => by
        simp; rintro rfl; exact h1 hy
      rw [List.filter_cons_of_neg (by simp), this]
      simp only [Ev.sumB]
      omega
    · rw [List.filter_cons_of_pos (by simp [c])]
      have hur : u ∈ r := by
        rcases List.mem_cons.1 hu with h | h
        · exact absurd h.symm c
        · exact h
      simp only [Ev.sumB, sumB_drop b r u h2 hur]
      omega
theorem len_drop : ∀ (l : List Int) (u : Int), l.Nodup → u ∈ l → (l.filter fun v => !decide (v = u)).length + 1 = l.length
  | [], u, _, h => by cases h
  | x :: r, u, hn, hu => by
    obtain ⟨h1, h2⟩ := List.nodup_cons.1 hn
    by_cases c : x = u
    · subst c
      have : (r.filter fun v => !decide (v = x)) = r := List.filter_eq_self.2 fun y hy => by
        simp; rintro rfl; exact h1 hy
      rw [List.filter_cons_of_neg (by simp), this, List.length_cons]
    · rw [List.filter_cons_of_pos (by simp [c])]
      have hur : u ∈ r := by
        rcases List.mem_cons.1 hu with h | h
        · exact absurd h.symm c
        · exact h
      rw [List.length_cons, List.length_cons, len_drop r u h2 hur]

/-- What is asked of what a plan is made for. -/
structure EnvOk (E : Env) : Prop where
  sh : (shapes E.g).isSome = true
  bl : E.b.length = E.g.length
  bw : Ev.within E.b = true
  rm : 0 ≤ E.room ∧ E.room ≤ 1048576
  ord : E.order = ordOf E.g
  ag : ∀ u, E.ag u = true → srcB (nodeN E.g u.toNat) = false ∧ ∀ k ∈ (nodeN E.g u.toNat).inn, srcB (nodeN E.g k.toNat) = true

theorem at_nonneg {E : Env} (hE : EnvOk E) {u : Int} (h0 : 0 ≤ u) (h : u < E.g.length) : 0 ≤ Ev.at_ E.b u ∧ Ev.at_ E.b u ≤ 1048576 := Ev.at_within _ hE.bw u h0 (by rw [hE.bl]; exact h)

theorem nodup_snoc {l : List Int} {u : Int} (h : l.Nodup) (hu : hasB l u = false) : (l ++ [u]).Nodup := by
  rw [hasB_false] at hu
  refine List.nodup_append.2 ⟨h, by simp, fun a ha b hb => ?_⟩
  simp at hb; subst hb; rintro rfl; exact hu ha

variable {E : Env} {st : St} {A : List Int} {K : Nat → Kn}

theorem Inv.drop (hE : EnvOk E) (H : Inv E st A K) {u : Int} (hu : hasB st.inn u = true) (hA : hasB A u = false) : ∃ K', Inv E (dropS u st) A K' := by
  obtain ⟨h0, h1⟩ := H.rg u ((hasB_iff _ _).1 hu)
  obtain ⟨v, rfl⟩ : ∃ v : Nat, u = (v : Int) := ⟨u.toNat, by omega⟩
  obtain ⟨k1, k2, k3, k4⟩ := H.kn v (by omega)
  have hin : (K v).inn = true := by rw [k1, hu, hA]; rfl
  refine ⟨_, H.push (by omega) (beh5 hin) (inn' := st.inn.filter fun x => !decide (x = (v : Int))) (disk' := st.disk) (A' := A) (H.nd.filter _) (fun x hx => H.rg x (List.mem_filter.1 hx).1) H.dnd H.drg (fun x hx => ?_) H.and H.al (fun _ h => h) ?_ ⟨?_, ?_, k3, k4⟩ (fun x hx => ⟨?_, rfl, rfl⟩) (fun h => by cases h)⟩
  · refine List.mem_filter.2 ⟨H.sub x hx, ?_⟩
    simp
    rintro rfl
    rw [(hasB_iff _ _).2 hx] at hA; cases hA
  · rw [sumB_drop _ _ _ H.nd ((hasB_iff _ _).1 hu)]
    have := (at_nonneg hE h0 h1).1
    have := H.sum
    omega
  · rw [hasB_drop]; simp
  · exact k2
  · rw [hasB_drop]; simp [hx]

theorem Inv.store (H : Inv E st A K) {u : Int} (hu : hasB st.inn u = true) (hA : hasB A u = false) (hd : hasB st.disk u = false) : ∃ K', Inv E (storeS u st) A K' := by
  obtain ⟨h0, h1⟩ := H.rg u ((hasB_iff _ _).1 hu)
  obtain ⟨v, rfl⟩ : ∃ v : Nat, u = (v : Int) := ⟨u.toNat, by omega⟩
  obtain ⟨k1, k2, k3, k4⟩ := H.kn v (by omega)
  have hin : (K v).inn = true := by rw [k1, hu, hA]; rfl
  refine ⟨_, H.push (by omega) (beh4 hin (by rw [k3]; exact hd)) (inn' := st.inn) (disk' := st.disk ++ [(v : Int)]) (A' := A) H.nd H.rg (nodup_snoc H.dnd hd) (fun x hx => ?_) H.sub H.and H.al (fun x h => List.mem_append_left _ h) H.sum ⟨k1, k2, ?_, k4⟩ (fun x hx => ⟨rfl, rfl, ?_⟩) (fun h => by cases h)⟩
  · rcases List.mem_append.1 hx with hx | hx
    · exact H.drg x hx
    · simp at hx; subst hx; omega
  · rw [hasB_snoc']; simp
  · rw [hasB_snoc']; simp [hx]

theorem Inv.ask (H : Inv E st A K) {u : Int} (h0 : 0 ≤ u ∧ u < E.g.length) (hu : hasB st.inn u = false) (hd : hasB st.disk u = true) (hs : Ev.sumB E.b st.inn + Ev.at_ E.b u ≤ E.room) (hal : A.length < 4) : ∃ K', Inv E (takeS 1 u st) (A ++ [u]) K' := by
  obtain ⟨v, rfl⟩ : ∃ v : Nat, u = (v : Int) := ⟨u.toNat, by omega⟩
  obtain ⟨k1, k2, k3, k4⟩ := H.kn v (by omega)
  have hA : hasB A (v : Int) = false := by
    rw [hasB_false]; intro h; rw [hasB_false] at hu; exact hu (H.sub _ h)
  have hin : (K v).inn = false := by rw [k1, hu]; rfl
  refine ⟨_, H.push (by omega) (beh1 hin (by rw [k2]; exact hA) (by rw [k3]; exact hd)) (inn' := st.inn ++ [(v : Int)]) (disk' := st.disk) (A' := A ++ [(v : Int)]) (nodup_snoc H.nd hu) (fun x hx => ?_) H.dnd H.drg (fun x hx => ?_) (nodup_snoc H.and hA) (by simp; omega) (fun _ h => h) ?_ ⟨?_, ?_, k3, k4⟩ (fun x hx => ⟨?_, ?_, rfl⟩) (fun h => by cases h)⟩
  · rcases List.mem_append.1 hx with hx | hx
    · exact H.rg x hx
    · simp at hx; subst hx; omega
  · rcases List.mem_append.1 hx with hx | hx
    · exact List.mem_append_left _ (H.sub x hx)
    · exact List.mem_append_right _ hx
  · rw [Ev.sumB_append]; simp only [Ev.sumB]; omega
  · rw [hasB_snoc', hasB_snoc']; simp [hin]
  · rw [hasB_snoc']; simp
  · rw [hasB_snoc']; simp [hx]
  · rw [hasB_snoc']; simp [hx]

theorem Inv.wait (H : Inv E st A K) {u : Int} {r : List Int} (hA : A = u :: r) : ∃ K', Inv E (stepS 2 u st) r K' := by
  subst hA
  obtain ⟨h0, h1⟩ := H.rg u (H.sub u (by simp))
  obtain ⟨v, rfl⟩ : ∃ v : Nat, u = (v : Int) := ⟨u.toNat, by omega⟩
  obtain ⟨k1, k2, k3, k4⟩ := H.kn v (by omega)
  obtain ⟨n1, n2⟩ := List.nodup_cons.1 H.and
  have hi : hasB st.inn (v : Int) = true := (hasB_iff _ _).2 (H.sub _ (by simp))
  have hr : hasB r (v : Int) = false := (hasB_false _ _).2 n1
  refine ⟨_, H.push (by omega) (beh2 (by rw [k2, hasB_iff]; simp)) (inn' := st.inn) (disk' := st.disk) (A' := r) H.nd H.rg H.dnd H.drg (fun x hx => H.sub x (by simp [hx])) n2 (by have := H.al; simp at this; omega) (fun _ h => h) H.sum ⟨?_, ?_, k3, k4⟩ (fun x hx => ⟨rfl, ?_, rfl⟩) (fun h => by cases h)⟩
  · rw [hi, hr]; rfl
  · rw [hr]
  · rw [Bool.eq_iff_iff, hasB_iff, hasB_iff]; simp [hx]

theorem Inv.do (H : Inv E st [] K) {u : Int} (h0 : 0 ≤ u ∧ u < E.g.length) (hu : hasB st.inn u = false) (hd : hasB st.disk u = false) (hsrc : srcB (nodeN E.g u.toNat) = false) (hin : ∀ k ∈ (nodeN E.g u.toNat).inn, hasB st.inn k = true) (hs : Ev.sumB E.b st.inn + Ev.at_ E.b u ≤ E.room) : ∃ K', Inv E (takeS 3 u st) [] K' := by
  obtain ⟨v, rfl⟩ : ∃ v : Nat, u = (v : Int) := ⟨u.toNat, by omega⟩
  rw [Int.toNat_natCast] at hsrc hin
  obtain ⟨k1, k2, k3, k4⟩ := H.kn v (by omega)
  have hall : inAll E.g K v = true := by
    unfold inAll
    rw [List.all_eq_true]
    intro x hx
    have hxi := hin x hx
    obtain ⟨hx0, hx1⟩ := H.rg x ((hasB_iff _ _).1 hxi)
    have := (H.kn x.toNat (by omega)).1
    rw [this, Int.toNat_of_nonneg hx0, hxi]; rfl
  refine ⟨_, H.push (by omega) (beh3 hall (by rw [k1, hu]; rfl) (by rw [k2]; rfl) (by rw [k4]; exact hsrc)) (inn' := st.inn ++ [(v : Int)]) (disk' := st.disk) (A' := []) (nodup_snoc H.nd hu) (fun x hx => ?_) H.dnd H.drg (fun x hx => by cases hx) List.nodup_nil (by simp) (fun _ h => h) ?_ ⟨?_, k2, k3, k4⟩ (fun x hx => ⟨?_, rfl, rfl⟩) (fun _ => hd)⟩
  · rcases List.mem_append.1 hx with hx | hx
    · exact H.rg x hx
    · simp at hx; subst hx; omega
  · rw [Ev.sumB_append]; simp only [Ev.sumB]; omega
  · rw [hasB_snoc']; simp [hasB_nil]
  · rw [hasB_snoc']; simp [hx]

/-! ### Stores: each goes right behind that, and is used again -/

def sdB : List (Int × Int) → Prop
  | [] => True
  | [s] => s.1 ≠ 4
  | s :: t :: r => (s.1 = 4 → t = (5, s.2)) ∧ sdB (t :: r)
theorem sdB_append : ∀ (l r : List (Int × Int)), sdB l → sdB r → sdB (l ++ r)
  | [], _, _, h => h
  | [_], [], h, _ => h
  | [_], _ :: _, h, h2 => ⟨fun c => absurd c h, h2⟩
  | _ :: t :: l, r, h, h2 => ⟨h.1, sdB_append (t :: l) r h.2 h2⟩
theorem sdB_one {s : Int × Int} (h : s.1 ≠ 4) : sdB [s] := h
theorem sdB_two (u : Int) : sdB [(4, u), (5, u)] := ⟨fun _ => rfl, by show (5 : Int) ≠ 4; decide⟩
theorem sdB_at : ∀ (l : List (Int × Int)) (i : Nat) (h : i < l.length), sdB l → (l[i]).1 = 4 → ∃ h2 : i + 1 < l.length, l[i + 1] = (5, (l[i]).2)
  | [s], 0, _, hs, h4 => absurd h4 hs
  | s :: t :: r, 0, _, hs, h4 => ⟨by simp, hs.1 h4⟩
  | s :: t :: r, i + 1, h, hs, h4 => by
    obtain ⟨h2, h3⟩ := sdB_at (t :: r) i (by simpa using h) hs.2 (by simpa using h4)
    exact ⟨by simpa using h2, by simpa using h3⟩

/-- Is a node used from a place of the order on? -/
def Use (E : Env) (at_ : Nat) (u : Int) : Prop := ∃ j, at_ ≤ j ∧ j < E.order.length ∧ u ∈ (nodeN E.g (nth E.order j).toNat).inn
/-- What was stored is used later on. -/
def Fut (E : Env) (at_ : Nat) (l : List (Int × Int)) : Prop := ∀ p u q, l = p ++ (4, u) :: q → (∃ w, (3, w) ∈ q ∧ u ∈ (nodeN E.g w.toNat).inn) ∨ Use E at_ u

theorem concat_split {α : Type} {l p q : List α} {s x : α} (h : l ++ [s] = p ++ x :: q) : (q = [] ∧ l = p ∧ s = x) ∨ ∃ q', q = q' ++ [s] ∧ l = p ++ x :: q' := by
  rcases List.eq_nil_or_concat q with rfl | ⟨q', y, rfl⟩
  · have := List.append_inj' h rfl
    simp at this
    exact .inl ⟨rfl, this.1, this.2⟩
  · right
    have h2 : l ++ [s] = (p ++ x :: q') ++ [y] := by simpa using h
    have := List.append_inj' h2 rfl
    simp at this
    exact ⟨q', by rw [this.2]; simp, this.1⟩

theorem Fut.push {at_ : Nat} {l : List (Int × Int)} (h : Fut E at_ l) {s : Int × Int} (hs : s.1 ≠ 4) : Fut E at_ (l ++ [s]) := by
  intro p u q e
  rcases concat_split e with ⟨_, _, rfl⟩ | ⟨q', rfl, e'⟩
  · exact absurd rfl hs
  · rcases h p u q' e' with ⟨w, h1, h2⟩ | h1
    · exact .inl ⟨w, List.mem_append_left _ h1, h2⟩
    · exact .inr h1
theorem Fut.store {at_ : Nat} {l : List (Int × Int)} (h : Fut E at_ l) {u : Int} (hu : Use E at_ u) : Fut E at_ (l ++ [(4, u)]) := by
  intro p x q e
  rcases concat_split e with ⟨_, _, e2⟩ | ⟨q', rfl, e'⟩
  · cases e2; exact .inr hu
  · rcases h p x q' e' with ⟨w, h1, h2⟩ | h1
    · exact .inl ⟨w, List.mem_append_left _ h1, h2⟩
    · exact .inr h1
theorem Fut.done {at_ : Nat} {l : List (Int × Int)} (h : Fut E at_ l) : Fut E (at_ + 1) (l ++ [(3, nth E.order at_)]) := by
  intro p x q e
  rcases concat_split e with ⟨_, _, e2⟩ | ⟨q', rfl, e'⟩
  · cases e2
  · rcases h p x q' e' with ⟨w, h1, h2⟩ | ⟨j, h1, h2, h3⟩
    · exact .inl ⟨w, List.mem_append_left _ h1, h2⟩
    · by_cases c : j = at_
      · subst c; exact .inl ⟨_, by simp, h3⟩
      · exact .inr ⟨j, by omega, h2, h3⟩
theorem Fut.skip {at_ : Nat} {l : List (Int × Int)} (h : Fut E at_ l) (hn : (nodeN E.g (nth E.order at_).toNat).inn = []) : Fut E (at_ + 1) l := by
  intro p x q e
  rcases h p x q e with h | ⟨j, h1, h2, h3⟩
  · exact .inl h
  · by_cases c : j = at_
    · subst c; rw [hn] at h3; cases h3
    · exact .inr ⟨j, by omega, h2, h3⟩

/-- How many steps, but for those that go and are stored. -/
def phi (st : St) : Int := (st.l.length : Int) + st.inn.length - st.disk.length

/-- What stays, and what of the steps is known. -/
structure J (E : Env) (at_ : Nat) (st : St) (A : List Int) : Prop where
  inv : ∃ K, Inv E st A K
  sd : sdB st.l
  fut : Fut E at_ st.l

theorem J.nd {at_ : Nat} (h : J E at_ st A) : st.inn.Nodup := let ⟨_, h⟩ := h.inv; h.nd
theorem J.rg {at_ : Nat} (h : J E at_ st A) : ∀ v ∈ st.inn, 0 ≤ v ∧ v < (E.g.length : Int) := let ⟨_, h⟩ := h.inv; h.rg
theorem J.sub {at_ : Nat} (h : J E at_ st A) : ∀ v ∈ A, v ∈ st.inn := let ⟨_, h⟩ := h.inv; h.sub

theorem J.drop (hE : EnvOk E) {at_ : Nat} (h : J E at_ st A) {u : Int} (hu : hasB st.inn u = true) (hA : hasB A u = false) : J E at_ (dropS u st) A ∧ phi (dropS u st) = phi st := by
  obtain ⟨K, hK⟩ := h.inv
  refine ⟨⟨hK.drop hE hu hA, sdB_append _ _ h.sd (sdB_one (by show (5 : Int) ≠ 4; decide)), h.fut.push (by show (5 : Int) ≠ 4; decide)⟩, ?_⟩
  have := len_drop st.inn u hK.nd ((hasB_iff _ _).1 hu)
  unfold phi dropS
  simp only [List.length_append, List.length_cons, List.length_nil]
  omega

/-- What goes is stored first. -/
theorem J.away (hE : EnvOk E) {at_ : Nat} (h : J E at_ st A) {u : Int} (hu : hasB st.inn u = true) (hA : hasB A u = false) (hd : hasB st.disk u = false) (hus : Use E at_ u) : J E at_ (dropS u (storeS u st)) A ∧ phi (dropS u (storeS u st)) = phi st := by
  obtain ⟨K, hK⟩ := h.inv
  obtain ⟨K1, hK1⟩ := hK.store hu hA hd
  refine ⟨⟨hK1.drop hE hu hA, ?_, ?_⟩, ?_⟩
  · show sdB ((st.l ++ [(4, u)]) ++ [(5, u)])
    rw [List.append_assoc]
    exact sdB_append _ _ h.sd (sdB_two u)
  · exact (h.fut.store hus).push (by show (5 : Int) ≠ 4; decide)
  · have := len_drop st.inn u hK.nd ((hasB_iff _ _).1 hu)
    unfold phi dropS storeS
    simp only [List.length_append, List.length_cons, List.length_nil]
    omega

theorem J.evict (hE : EnvOk E) {at_ : Nat} (h : J E at_ st A) {nx : List Int} {u : Int} (hu : hasB st.inn u = true) (hA : hasB A u = false) (hus : 0 ≤ Ev.at_ nx u → Use E at_ u) :
    J E at_ (evict1 E nx st u) A ∧ phi (evict1 E nx st u) = phi st ∧ (evict1 E nx st u).inn = st.inn.filter (fun v => !decide (v = u)) ∧ (∀ v ∈ st.disk, v ∈ (evict1 E nx st u).disk) ∧ (∀ v ∈ (evict1 E nx st u).disk, v ∈ st.disk ∨ v = u) ∧
      (0 ≤ Ev.at_ nx u → u ∈ (evict1 E nx st u).disk ∨ E.ag u = true) ∧ ∃ q, (evict1 E nx st u).l = st.l ++ q := by
  unfold evict1
  by_cases c : 0 ≤ Ev.at_ nx u ∧ hasB st.disk u = false ∧ E.ag u = false
  · rw [if_pos c]
    obtain ⟨h1, h2⟩ := h.away hE hu hA c.2.1 (hus c.1)
    exact ⟨h1, h2, rfl, fun v hv => List.mem_append_left _ hv, fun v hv => by simpa [storeS, dropS] using hv, fun _ => .inl (by simp [storeS, dropS]), [(4, u), (5, u)], by simp [storeS, dropS]⟩
  · rw [if_neg c]
    obtain ⟨h1, h2⟩ := h.drop hE hu hA
    refine ⟨h1, h2, rfl, fun v hv => hv, fun v hv => .inl hv, fun h0 => ?_, [(5, u)], rfl⟩
    by_cases d : hasB st.disk u = false
    · right
      cases ha : E.ag u with
      | true => rfl
      | false => exact absurd ⟨h0, d, ha⟩ c
    · left
      rw [← hasB_iff]
      show hasB st.disk u = true
      simpa using d

/-- What a piece of a plan leaves as it was. -/
structure Tr (E : Env) (nx : List Int) (pin R : Int → Prop) (st st' : St) : Prop where
  keep : ∀ u ∈ st.inn, pin u → u ∈ st'.inn
  news : ∀ u ∈ st'.inn, u ∈ st.inn ∨ R u
  dsk : ∀ u ∈ st.disk, u ∈ st'.disk
  dnew : ∀ u ∈ st'.disk, u ∈ st.disk ∨ u ∈ st.inn ∨ R u
  av : ∀ u, u ∈ st.inn ∨ u ∈ st.disk → 0 ≤ Ev.at_ nx u → u ∈ st'.inn ∨ u ∈ st'.disk ∨ E.ag u = true
  ext : ∃ q, st'.l = st.l ++ q
theorem Tr.refl {nx : List Int} {pin R : Int → Prop} (st : St) : Tr E nx pin R st st :=
  ⟨fun _ h _ => h, fun _ h => .inl h, fun _ h => h, fun _ h => .inl h, fun _ h _ => h.elim .inl (fun h => .inr (.inl h)), [], by simp⟩
theorem Tr.trans {nx : List Int} {pin pin2 R R2 : Int → Prop} {st st1 st2 : St} (h1 : Tr E nx pin R st st1) (h2 : Tr E nx pin2 R2 st1 st2) (hp : ∀ u, pin u → pin2 u) (hR : ∀ u, R2 u → R u) : Tr E nx pin R st st2 := by
  refine ⟨fun u hu hp' => h2.keep u (h1.keep u hu hp') (hp u hp'), fun u hu => ?_, fun u hu => h2.dsk u (h1.dsk u hu), fun u hu => ?_, fun u hu h0 => ?_, ?_⟩
  · rcases h2.news u hu with h | h
    · exact h1.news u h
    · exact .inr (hR u h)
  · rcases h2.dnew u hu with h | h | h
    · exact h1.dnew u h
    · rcases h1.news u h with h | h
      · exact .inr (.inl h)
      · exact .inr (.inr h)
    · exact .inr (.inr (hR u h))
  · rcases h1.av u hu h0 with h | h | h
    · exact h2.av u (.inl h) h0
    · exact h2.av u (.inr h) h0
    · exact .inr (.inr h)
  · obtain ⟨q1, e1⟩ := h1.ext
    obtain ⟨q2, e2⟩ := h2.ext
    exact ⟨q1 ++ q2, by rw [e2, e1, List.append_assoc]⟩
theorem Tr.mono {nx : List Int} {pin pin2 R R2 : Int → Prop} {st st1 : St} (h1 : Tr E nx pin R st st1) (hp : ∀ u, pin2 u → pin u) (hR : ∀ u, R u → R2 u) : Tr E nx pin2 R2 st st1 :=
  ⟨fun u hu h => h1.keep u hu (hp u h), fun u hu => (h1.news u hu).imp id (hR u), h1.dsk, fun u hu => (h1.dnew u hu).imp id (fun h => h.imp id (hR u)), h1.av, h1.ext⟩
theorem Tr.take {nx : List Int} {pin R : Int → Prop} {st : St} {k u : Int} (hR : R u) : Tr E nx pin R st (takeS k u st) := by
  refine ⟨fun v hv _ => List.mem_append_left _ hv, fun v hv => ?_, fun v h => h, fun v h => .inl h, fun v hv _ => ?_, [(k, u)], rfl⟩
  · rcases List.mem_append.1 hv with h | h
    · exact .inl h
    · simp at h; subst h; exact .inr hR
  · rcases hv with h | h
    · exact .inl (List.mem_append_left _ h)
    · exact .inr (.inl h)

theorem evict_fold (hE : EnvOk E) {at_ : Nat} {nx : List Int} : ∀ (l : List Int) (st : St), J E at_ st A → l.Nodup → (∀ u ∈ l, hasB st.inn u = true ∧ hasB A u = false ∧ (0 ≤ Ev.at_ nx u → Use E at_ u)) →
    J E at_ (l.foldl (evict1 E nx) st) A ∧ phi (l.foldl (evict1 E nx) st) = phi st ∧ (l.foldl (evict1 E nx) st).inn = Ev.frees l st.inn ∧ (∀ v ∈ st.disk, v ∈ (l.foldl (evict1 E nx) st).disk) ∧
    (∀ v ∈ (l.foldl (evict1 E nx) st).disk, v ∈ st.disk ∨ v ∈ l) ∧ (∀ u ∈ l, 0 ≤ Ev.at_ nx u → u ∈ (l.foldl (evict1 E nx) st).disk ∨ E.ag u = true) ∧ ∃ q, (l.foldl (evict1 E nx) st).l = st.l ++ q
  | [], st, h, _, _ => ⟨h, rfl, (List.filter_eq_self.2 (fun x _ => by simp [hasB_nil])).symm, fun _ h => h, fun _ h => .inl h, (fun _ h => by cases h), [], by simp⟩
  | u :: r, st, h, hn, hu => by
    obtain ⟨n1, n2⟩ := List.nodup_cons.1 hn
    obtain ⟨u1, u2, u3⟩ := hu u (by simp)
    obtain ⟨e1, e2, e3, e4, e5, e6, q1, e7⟩ := h.evict hE u1 u2 u3
    obtain ⟨f1, f2, f3, f4, f5, f6, q2, f7⟩ := evict_fold hE r (evict1 E nx st u) e1 n2 (fun x hx => by
      obtain ⟨x1, x2, x3⟩ := hu x (by simp [hx])
      refine ⟨?_, x2, x3⟩
      rw [e3, hasB_drop, x1]
      have : x ≠ u := by rintro rfl; exact n1 hx
      simp [this])
    rw [List.foldl_cons]
    refine ⟨f1, f2.trans e2, ?_, fun v hv => f4 v (e4 v hv), fun v hv => ?_, fun x hx h0 => ?_, q1 ++ q2, by rw [f7, e7, List.append_assoc]⟩
    · rw [f3, e3]
      unfold Ev.frees
      rw [List.filter_filter]
      refine List.filter_congr fun x _ => ?_
      unfold hasB
      rw [List.contains_cons]
      by_cases c : x = u
      · subst c; simp
      · simp [c]
    · rcases f5 v hv with h | h
      · rcases e5 v h with h | h
        · exact .inl h
        · exact .inr (by simp [h])
      · exact .inr (by simp [h])
    · rcases List.mem_cons.1 hx with rfl | hx
      · rcases e6 h0 with h | h
        · exact .inl (f4 _ h)
        · exact .inr h
      · exact f6 x hx h0

theorem frees_sum (b : List Int) (l inn : List Int) (hl : l.Nodup) (hi : inn.Nodup) (h : ∀ u ∈ l, u ∈ inn) : Ev.sumB b (Ev.frees l inn) = Ev.sumB b inn - Ev.sumB b l := by
  have h1 := Ev.sumB_split b l inn
  have h2 : (Ev.pins l inn).Perm l := by
    refine (List.perm_ext_iff_of_nodup (hi.filter _) hl).2 fun x => ?_
    rw [List.mem_filter, hasB_iff]
    exact ⟨fun h => h.2, fun hx => ⟨h x hx, hx⟩⟩
  rw [Ev.sumB_perm b h2] at h1
  omega

/-- Room for a node: what stays, and that there is room. -/
theorem makes_spec (hE : EnvOk E) {at_ : Nat} {nx : List Int} (h : J E at_ st A) {v : Int} {pinned : List Int} (hA : ∀ u ∈ A, u ∈ pinned) (hus : ∀ u ∈ st.inn, 0 ≤ Ev.at_ nx u → Use E at_ u) :
    J E at_ (makes E nx v pinned st).1 A ∧ Tr E nx (fun u => u ∈ pinned) (fun _ => False) st (makes E nx v pinned st).1 ∧ phi (makes E nx v pinned st).1 = phi st ∧
    ((makes E nx v pinned st).2 = true → Ev.sumB E.b (makes E nx v pinned st).1.inn + Ev.at_ E.b v ≤ E.room) := by
  obtain ⟨K, hK⟩ := h.inv
  have hm : ∀ u ∈ pickL' E nx st v pinned, u ∈ st.inn ∧ ¬ u ∈ pinned := fun u hu => by
    obtain ⟨h1, h2⟩ := Ev.pickL_mem hu
    exact ⟨h1, fun c => h2 ((once_mem _ _).2 c)⟩
  have hn : (pickL' E nx st v pinned).Nodup := Ev.pickL_nodup
  obtain ⟨f1, f2, f3, f4, f5, f6, f7⟩ := evict_fold hE (nx := nx) (pickL' E nx st v pinned) st h hn (fun u hu => by
    obtain ⟨h1, h2⟩ := hm u hu
    exact ⟨(hasB_iff _ _).2 h1, (hasB_false _ _).2 fun c => h2 (hA u c), hus u h1⟩)
  unfold makes
  refine ⟨f1, ⟨fun u hu hp => ?_, fun u hu => ?_, f4, fun u hu => ?_, fun u hu h0 => ?_, f7⟩, f2, fun hok => ?_⟩
  · simp only
    rw [f3]
    refine List.mem_filter.2 ⟨hu, ?_⟩
    have : hasB (pickL' E nx st v pinned) u = false := (hasB_false _ _).2 fun c => (hm u c).2 hp
    simp [this]
  · simp only at hu
    rw [f3] at hu
    exact .inl (List.mem_filter.1 hu).1
  · rcases f5 u hu with h | h
    · exact .inl h
    · exact .inr (.inl (hm u h).1)
  · simp only
    rcases hu with h | h
    · by_cases c : u ∈ pickL' E nx st v pinned
      · rcases f6 u c h0 with h | h
        · exact .inr (.inl h)
        · exact .inr (.inr h)
      · left
        rw [f3]
        refine List.mem_filter.2 ⟨h, ?_⟩
        have : hasB (pickL' E nx st v pinned) u = false := (hasB_false _ _).2 c
        simp [this]
    · exact .inr (.inl (f4 u h))
  · simp only at hok ⊢
    have he : Ev.pickE st.inn (once pinned) E.b nx E.room (Ev.at_ E.b v) = 0 := of_decide_eq_true hok
    have := Ev.room_end he
    rw [f3, frees_sum E.b _ _ hn hK.nd (fun u hu => (hm u hu).1)]
    unfold pickL'
    omega

/-- Where what is pinned leaves room there is room. -/
theorem makes_ok (hE : EnvOk E) {at_ : Nat} {nx : List Int} (h : J E at_ st A) {v : Int} {pinned : List Int} (hv : 0 ≤ v ∧ v < E.g.length) (hnx : nx.length = E.g.length) (hp : ∀ u ∈ pinned, 0 ≤ u ∧ u < (E.g.length : Int))
    (hr : Ev.at_ E.b v + Ev.sumB E.b (Ev.pins pinned st.inn) ≤ E.room) : (makes E nx v pinned st).2 = true := by
  obtain ⟨K, hK⟩ := h.inv
  have hb := at_nonneg hE hv.1 hv.2
  have h1 : Ev.argsB st.inn (once pinned) E.b nx E.room (Ev.at_ E.b v) = true := by
    unfold Ev.argsB
    simp only [Bool.and_eq_true, decide_eq_true_eq]
    refine ⟨⟨⟨⟨?_, ?_⟩, by rw [hnx, hE.bl]⟩, hE.bw⟩, ?_⟩
    · exact (Ev.nodesB_iff _ _ _).2 ⟨fun u hu => ⟨(hK.rg u hu).1, by rw [hE.bl]; exact (hK.rg u hu).2, by simp⟩, hK.nd⟩
    · exact (Ev.nodesB_iff _ _ _).2 ⟨fun u hu => ⟨(hp u ((once_mem _ _).1 hu)).1, by rw [hE.bl]; exact (hp u ((once_mem _ _).1 hu)).2, by simp⟩, once_nodup _⟩
    · have := hE.rm
      simp [Ev.within]
      omega
  have h2 : Ev.pins (once pinned) st.inn = Ev.pins pinned st.inn := by
    unfold Ev.pins
    refine List.filter_congr fun x _ => ?_
    rw [Bool.eq_iff_iff, hasB_iff, hasB_iff, once_mem]
  unfold makes pickE'
  simp only
  rw [decide_eq_true_eq]
  exact Ev.none_ok h1 (by rw [h2]; exact hr)
end Pl
end Go.Proofs.Ytgmagldbfajedaa
