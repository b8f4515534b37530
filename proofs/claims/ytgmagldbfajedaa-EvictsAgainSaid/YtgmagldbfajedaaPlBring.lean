/-
  Plain Lean: what a node takes in comes, and the next node of the order is reckoned (chapter 22): what stays.
-/
import Derived.Test.YtgmagldbfajedaaPlOps
namespace Go.Proofs.Ytgmagldbfajedaa
namespace Pl
open Gr Od Co

variable {E : Env}

theorem J.ask {at_ : Nat} {st : St} {A : List Int} (h : J E at_ st A) {u : Int} (h0 : 0 ≤ u ∧ u < E.g.length) (hu : hasB st.inn u = false) (hd : hasB st.disk u = true) (hs : Ev.sumB E.b st.inn + Ev.at_ E.b u ≤ E.room) (hal : A.length < 4) :
    J E at_ (takeS 1 u st) (A ++ [u]) ∧ phi (takeS 1 u st) = phi st + 2 := by
  obtain ⟨K, hK⟩ := h.inv
  refine ⟨⟨hK.ask h0 hu hd hs hal, sdB_append _ _ h.sd (sdB_one (by show (1 : Int) ≠ 4; decide)), h.fut.push (by show (1 : Int) ≠ 4; decide)⟩, ?_⟩
  unfold phi takeS
  simp only [List.length_append, List.length_cons, List.length_nil]
  omega
theorem J.do {at_ : Nat} {st : St} (h : J E at_ st []) {u : Int} (h0 : 0 ≤ u ∧ u < E.g.length) (hu : hasB st.inn u = false) (hd : hasB st.disk u = false) (hsrc : srcB (nodeN E.g u.toNat) = false) (hin : ∀ k ∈ (nodeN E.g u.toNat).inn, hasB st.inn k = true)
    (hs : Ev.sumB E.b st.inn + Ev.at_ E.b u ≤ E.room) : J E at_ (takeS 3 u st) [] ∧ phi (takeS 3 u st) = phi st + 2 := by
  obtain ⟨K, hK⟩ := h.inv
  refine ⟨⟨hK.do h0 hu hd hsrc hin hs, sdB_append _ _ h.sd (sdB_one (by show (3 : Int) ≠ 4; decide)), h.fut.push (by show (3 : Int) ≠ 4; decide)⟩, ?_⟩
  unfold phi takeS
  simp only [List.length_append, List.length_cons, List.length_nil]
  omega
theorem J.wait {at_ : Nat} {st : St} {u : Int} {r : List Int} (h : J E at_ st (u :: r)) : J E at_ (stepS 2 u st) r ∧ phi (stepS 2 u st) = phi st + 1 := by
  obtain ⟨K, hK⟩ := h.inv
  refine ⟨⟨hK.wait rfl, sdB_append _ _ h.sd (sdB_one (by show (2 : Int) ≠ 4; decide)), h.fut.push (by show (2 : Int) ≠ 4; decide)⟩, ?_⟩
  unfold phi stepS
  simp only [List.length_append, List.length_cons, List.length_nil]
  omega

theorem waits_spec {at_ : Nat} : ∀ (A : List Int) (st : St), J E at_ st A → J E at_ (waits A st) [] ∧ (waits A st).inn = st.inn ∧ (waits A st).disk = st.disk ∧ phi (waits A st) = phi st + A.length ∧ ∃ q, (waits A st).l = st.l ++ q
  | [], st, h => ⟨h, rfl, rfl, by simp [waits], [], by simp [waits]⟩
  | u :: r, st, h => by
    obtain ⟨h1, h2⟩ := h.wait
    obtain ⟨h3, h4, h5, h6, q, h7⟩ := waits_spec r (stepS 2 u st) h1
    have e : waits (u :: r) st = waits r (stepS 2 u st) := rfl
    rw [e]
    refine ⟨h3, h4, h5, ?_, [(2, u)] ++ q, ?_⟩
    · rw [h6, h2, List.length_cons]; omega
    · rw [h7]; simp [stepS]

theorem second_spec (hE : EnvOk E) {at_ : Nat} {nx pin : List Int} {m : Int} (hm : m ≤ (E.g.length : Int) - 1) (hus : ∀ u, 0 ≤ u → u < m → 0 ≤ Ev.at_ nx u → Use E at_ u) :
    ∀ (r : List Int) (st : St) (A : List Int), J E at_ st A → (∀ u ∈ A, u ∈ pin) → (∀ u ∈ r, u ∈ pin) → r.Nodup → (∀ u ∈ r, (0 ≤ u ∧ u < m) ∧ (u ∈ st.inn ∨ u ∈ st.disk)) → (∀ u ∈ st.inn, u < m) → A.length + r.length ≤ 4 →
      J E at_ (second E nx pin r st A).1 (second E nx pin r st A).2.1 ∧ Tr E nx (fun u => u ∈ pin) (fun u => u ∈ r) st (second E nx pin r st A).1 ∧ phi (second E nx pin r st A).1 ≤ phi st + 2 * r.length ∧
      (second E nx pin r st A).2.1.length ≤ A.length + r.length ∧ ((second E nx pin r st A).2.2 = true → ∀ u ∈ r, u ∈ (second E nx pin r st A).1.inn)
  | [], st, A, h, _, _, _, _, _, _ => ⟨h, Tr.refl _, by simp [second], by simp [second], (fun _ _ hu => by cases hu)⟩
  | u :: r, st, A, h, hA, hr, hn, hav, hb, hl => by
    obtain ⟨n1, n2⟩ := List.nodup_cons.1 hn
    rw [List.length_cons] at hl ⊢
    by_cases c : hasB st.inn u = true
    · rw [second, if_pos c]
      obtain ⟨h1, h2, h3, h4, h5⟩ := second_spec hE hm hus r st A h hA (fun x hx => hr x (by simp [hx])) n2 (fun x hx => hav x (by simp [hx])) hb (by omega)
      refine ⟨h1, h2.mono (fun _ h => h) (fun x hx => by simp [hx]), by omega, by omega, fun hok x hx => ?_⟩
      rcases List.mem_cons.1 hx with rfl | hx
      · exact h2.keep _ ((hasB_iff _ _).1 c) (hr _ (by simp))
      · exact h5 hok x hx
    · rw [second, if_neg c]
      obtain ⟨m1, m2, m3, m4⟩ := makes_spec hE (nx := nx) h (v := u) hA (fun x hx h0 => hus x (h.rg x hx).1 (hb x hx) h0)
      by_cases d : (makes E nx u pin st).2 = false
      · rw [if_pos d]
        exact ⟨m1, m2.mono (fun _ h => h) (fun _ h => h.elim), by simp only; omega, by simp only; omega, (fun hok => by cases hok)⟩
      · rw [if_neg d]
        have d' : (makes E nx u pin st).2 = true := by simpa using d
        have c' : hasB st.inn u = false := by simpa using c
        obtain ⟨hu0, hu1⟩ := hav u (by simp)
        have hin1 : hasB (makes E nx u pin st).1.inn u = false := by
          rw [hasB_false]; intro hx
          rcases m2.news u hx with h | h
          · rw [hasB_false] at c'; exact c' h
          · exact h
        have hd1 : hasB (makes E nx u pin st).1.disk u = true := by
          rw [hasB_iff]
          rcases hu1 with h | h
          · rw [hasB_false] at c'; exact absurd h c'
          · exact m2.dsk u h
        obtain ⟨a1, a2⟩ := m1.ask (u := u) ⟨hu0.1, by omega⟩ hin1 hd1 (m4 d') (by omega)
        generalize (makes E nx u pin st).1 = st1 at *
        obtain ⟨h1, h2, h3, h4, h5⟩ := second_spec hE hm hus r (takeS 1 u st1) (A ++ [u]) a1
          (fun x hx => by
            rcases List.mem_append.1 hx with hx | hx
            · exact hA x hx
            · simp at hx; subst hx; exact hr _ (by simp))
          (fun x hx => hr x (by simp [hx])) n2
          (fun x hx => by
            obtain ⟨hx0, hx1⟩ := hav x (by simp [hx])
            refine ⟨hx0, ?_⟩
            rcases hx1 with h | h
            · exact .inl (List.mem_append_left _ (m2.keep x h (hr x (by simp [hx]))))
            · exact .inr (m2.dsk x h))
          (fun x hx => by
            rcases List.mem_append.1 hx with hx | hx
            · rcases m2.news x hx with h | h
              · exact hb x h
              · exact h.elim
            · simp at hx; subst hx; exact hu0.2)
          (by simp; omega)
        refine ⟨h1, ?_, by omega, by simp at h4; omega, fun hok x hx => ?_⟩
        · exact ((m2.mono (R2 := fun x => x ∈ u :: r) (fun _ h => h) (fun _ h => h.elim)).trans (Tr.take (nx := nx) (pin := fun x => x ∈ pin) (R := fun x => x ∈ u :: r) (by simp)) (fun _ h => h) (fun _ h => h)).trans h2 (fun _ h => h) (fun x hx => by simp [hx])
        · rcases List.mem_cons.1 hx with rfl | hx
          · exact h2.keep _ (by simp [takeS]) (hr _ (by simp))
          · exact h5 hok x hx

theorem first_flat {nx : List Int} {br : Int → List Int → St → St × Bool} {pin : List Int} {st : St} : ∀ (r : List Int), (∀ u ∈ r, u ∈ st.inn ∨ u ∈ st.disk) → first E nx br pin r st = (st, true)
  | [], _ => rfl
  | u :: r, h => by
    have := h u (by simp)
    rw [first, if_pos (by rw [hasB_iff, hasB_iff]; exact this), first_flat r (fun x hx => h x (by simp [hx]))]

theorem brings_eq (nx : List Int) (f : Nat) (v : Int) (pinned : List Int) (st : St) : brings E nx (f + 1) v pinned st =
    if (first E nx (brings E nx f) (pinned ++ [v] ++ once (nodeN E.g v.toNat).inn) (once (nodeN E.g v.toNat).inn) st).2 = false then ((first E nx (brings E nx f) (pinned ++ [v] ++ once (nodeN E.g v.toNat).inn) (once (nodeN E.g v.toNat).inn) st).1, false) else
    if (second E nx (pinned ++ [v] ++ once (nodeN E.g v.toNat).inn) (once (nodeN E.g v.toNat).inn) (first E nx (brings E nx f) (pinned ++ [v] ++ once (nodeN E.g v.toNat).inn) (once (nodeN E.g v.toNat).inn) st).1 []).2.2 = false then
      ((second E nx (pinned ++ [v] ++ once (nodeN E.g v.toNat).inn) (once (nodeN E.g v.toNat).inn) (first E nx (brings E nx f) (pinned ++ [v] ++ once (nodeN E.g v.toNat).inn) (once (nodeN E.g v.toNat).inn) st).1 []).1, false) else
    (waits (second E nx (pinned ++ [v] ++ once (nodeN E.g v.toNat).inn) (once (nodeN E.g v.toNat).inn) (first E nx (brings E nx f) (pinned ++ [v] ++ once (nodeN E.g v.toNat).inn) (once (nodeN E.g v.toNat).inn) st).1 []).2.1
      (second E nx (pinned ++ [v] ++ once (nodeN E.g v.toNat).inn) (once (nodeN E.g v.toNat).inn) (first E nx (brings E nx f) (pinned ++ [v] ++ once (nodeN E.g v.toNat).inn) (once (nodeN E.g v.toNat).inn) st).1 []).1,
      decide ((second E nx (pinned ++ [v] ++ once (nodeN E.g v.toNat).inn) (once (nodeN E.g v.toNat).inn) (first E nx (brings E nx f) (pinned ++ [v] ++ once (nodeN E.g v.toNat).inn) (once (nodeN E.g v.toNat).inn) st).1 []).2.1.length ≤ 4)) := rfl

/-- Behind the first part: what is asked for comes. -/
theorem brings_second (hE : EnvOk E) {at_ : Nat} {nx pin r : List Int} {m : Int} (hm : m ≤ (E.g.length : Int) - 1) (hus : ∀ u, 0 ≤ u → u < m → 0 ≤ Ev.at_ nx u → Use E at_ u) {st : St} (h : J E at_ st []) (hr : ∀ u ∈ r, u ∈ pin) (hn : r.Nodup)
    (hav : ∀ u ∈ r, (0 ≤ u ∧ u < m) ∧ (u ∈ st.inn ∨ u ∈ st.disk)) (hb : ∀ u ∈ st.inn, u < m) (hl : r.length ≤ 4) {p : St × Bool}
    (hp : p = if (second E nx pin r st []).2.2 = false then ((second E nx pin r st []).1, false) else (waits (second E nx pin r st []).2.1 (second E nx pin r st []).1, decide ((second E nx pin r st []).2.1.length ≤ 4))) :
    (∃ A, J E at_ p.1 A ∧ (p.2 = true → A = [])) ∧ Tr E nx (fun u => u ∈ pin) (fun u => u ∈ r) st p.1 ∧ phi p.1 ≤ phi st + 12 ∧ (p.2 = true → ∀ u ∈ r, u ∈ p.1.inn) ∧ p.2 = (second E nx pin r st []).2.2 := by
  obtain ⟨h1, h2, h3, h4, h5⟩ := second_spec hE hm hus r st [] h (fun _ h => by cases h) hr hn hav hb (by simpa using hl)
  simp only [List.length_nil, Nat.zero_add] at h4
  by_cases d : (second E nx pin r st []).2.2 = false
  · rw [if_pos d] at hp
    subst hp
    refine ⟨⟨_, h1, fun c => by cases c⟩, h2, by simp only; omega, fun c => by (cases c), d.symm⟩
  · rw [if_neg d] at hp
    subst hp
    obtain ⟨w1, w2, w3, w4, q, w5⟩ := waits_spec _ _ h1
    refine ⟨⟨[], w1, fun _ => rfl⟩, ⟨fun u hu hp => ?_, fun u hu => ?_, fun u hu => ?_, fun u hu => ?_, fun u hu h0 => ?_, ?_⟩, by simp only; omega, fun _ u hu => ?_, ?_⟩
    · simp only; rw [w2]; exact h2.keep u hu hp
    · simp only at hu; rw [w2] at hu; exact h2.news u hu
    · simp only; rw [w3]; exact h2.dsk u hu
    · simp only at hu; rw [w3] at hu; exact h2.dnew u hu
    · simp only; rw [w2, w3]; exact h2.av u hu h0
    · obtain ⟨q1, e1⟩ := h2.ext
      exact ⟨q1 ++ q, by simp only; rw [w5, e1, List.append_assoc]⟩
    · simp only; rw [w2]; exact h5 (by simpa using d) u hu
    · simp only
      rw [decide_eq_true (by omega)]
      simpa using d

/-- All that a node takes in is in, or on the disk: it is asked for. -/
theorem brings_flat (hE : EnvOk E) {at_ : Nat} {nx : List Int} {m : Int} (hm : m ≤ (E.g.length : Int) - 1) (hus : ∀ u, 0 ≤ u → u < m → 0 ≤ Ev.at_ nx u → Use E at_ u) (f : Nat) {v : Int} {pinned : List Int} {st : St} (h : J E at_ st [])
    (hav : ∀ u ∈ (nodeN E.g v.toNat).inn, (0 ≤ u ∧ u < m) ∧ (u ∈ st.inn ∨ u ∈ st.disk)) (hb : ∀ u ∈ st.inn, u < m) (hl : (nodeN E.g v.toNat).inn.length ≤ 4) :
    (∃ A, J E at_ (brings E nx (f + 1) v pinned st).1 A ∧ ((brings E nx (f + 1) v pinned st).2 = true → A = [])) ∧ Tr E nx (fun u => u ∈ pinned ∨ u = v ∨ u ∈ (nodeN E.g v.toNat).inn) (fun u => u ∈ (nodeN E.g v.toNat).inn) st (brings E nx (f + 1) v pinned st).1 ∧
    phi (brings E nx (f + 1) v pinned st).1 ≤ phi st + 12 ∧ ((brings E nx (f + 1) v pinned st).2 = true → ∀ u ∈ (nodeN E.g v.toNat).inn, u ∈ (brings E nx (f + 1) v pinned st).1.inn) ∧
    (brings E nx (f + 1) v pinned st).2 = (second E nx (pinned ++ [v] ++ once (nodeN E.g v.toNat).inn) (once (nodeN E.g v.toNat).inn) st []).2.2 := by
  have hf := first_flat (E := E) (nx := nx) (br := brings E nx f) (pin := pinned ++ [v] ++ once (nodeN E.g v.toNat).inn) (st := st) (once (nodeN E.g v.toNat).inn) (fun u hu => (hav u ((once_mem _ _).1 hu)).2)
  have he := brings_eq (E := E) nx f v pinned st
  rw [hf] at he
  simp only [Bool.true_eq_false, if_false] at he
  obtain ⟨h1, h2, h3, h4, h5⟩ := brings_second hE hm hus h (pin := pinned ++ [v] ++ once (nodeN E.g v.toNat).inn) (r := once (nodeN E.g v.toNat).inn) (fun u hu => List.mem_append_right _ hu) (once_nodup _) (fun u hu => hav u ((once_mem _ _).1 hu)) hb
    (Nat.le_trans (once_length _) hl) he
  refine ⟨h1, h2.mono (fun u hu => ?_) (fun u hu => (once_mem _ _).1 hu), h3, fun hok u hu => h4 hok u ((once_mem _ _).2 hu), h5⟩
  simp only [List.mem_append, List.mem_singleton, once_mem]
  rcases hu with h | h | h
  · exact .inl (.inl h)
  · exact .inl (.inr h)
  · exact .inr h

/-- What is there to be taken in: in, on the disk, or rather reckoned again. -/
def Avail (E : Env) (st : St) (u : Int) : Prop := u ∈ st.inn ∨ u ∈ st.disk ∨ E.ag u = true

theorem J.srcs {at_ : Nat} {st : St} {A : List Int} (h : J E at_ st A) {u : Int} (h0 : 0 ≤ u ∧ u < E.g.length) (hs : srcB (nodeN E.g u.toNat) = true) : u ∈ st.disk := by
  obtain ⟨K, hK⟩ := h.inv
  have := hK.src u.toNat (by omega) hs
  rw [Int.toNat_of_nonneg h0.1, hasB_iff] at this
  exact this

/-- What is rather reckoned again is. -/
theorem first_spec (hE : EnvOk E) (hio : InnOk E.g E.g.length) {at_ : Nat} {nx pin : List Int} {m : Int} (hm : m ≤ (E.g.length : Int) - 1) (hus : ∀ u, 0 ≤ u → u < m → 0 ≤ Ev.at_ nx u → Use E at_ u) (f : Nat) :
    ∀ (r : List Int) (st : St), J E at_ st [] → (∀ u ∈ r, u ∈ pin) → (∀ u ∈ r, (0 ≤ u ∧ u < m) ∧ Avail E st u) → (∀ u ∈ st.inn, u < m) →
      (∃ A, J E at_ (first E nx (brings E nx (f + 1)) pin r st).1 A ∧ ((first E nx (brings E nx (f + 1)) pin r st).2 = true → A = [])) ∧ Tr E nx (fun u => u ∈ pin) (fun u => 0 ≤ u ∧ u < m) st (first E nx (brings E nx (f + 1)) pin r st).1 ∧
      phi (first E nx (brings E nx (f + 1)) pin r st).1 ≤ phi st + 14 * r.length ∧
      ((first E nx (brings E nx (f + 1)) pin r st).2 = true → ∀ u ∈ r, u ∈ (first E nx (brings E nx (f + 1)) pin r st).1.inn ∨ u ∈ (first E nx (brings E nx (f + 1)) pin r st).1.disk)
  | [], st, h, _, _, _ => ⟨⟨[], h, fun _ => rfl⟩, Tr.refl _, by simp [first], (fun _ _ hu => by cases hu)⟩
  | u :: r, st, h, hr, hav, hb => by
    have hrr : ∀ x ∈ r, x ∈ pin := fun x hx => hr x (by simp [hx])
    rw [List.length_cons]
    by_cases c : hasB st.inn u = true ∨ hasB st.disk u = true
    · rw [first, if_pos c]
      obtain ⟨h1, h2, h3, h4⟩ := first_spec hE hio hm hus f r st h hrr (fun x hx => hav x (by simp [hx])) hb
      refine ⟨h1, h2, by omega, fun hok x hx => ?_⟩
      rcases List.mem_cons.1 hx with rfl | hx
      · rw [hasB_iff, hasB_iff] at c
        rcases c with c | c
        · exact .inl (h2.keep _ c (hr _ (by simp)))
        · exact .inr (h2.dsk _ c)
      · exact h4 hok x hx
    · rw [first, if_neg c]
      obtain ⟨⟨hu0, hu1⟩, hua⟩ := hav u (by simp)
      rw [hasB_iff, hasB_iff] at c
      have hag : E.ag u = true := by
        rcases hua with h | h | h
        · exact absurd (.inl h) c
        · exact absurd (.inr h) c
        · exact h
      obtain ⟨hs1, hs2⟩ := hE.ag u hag
      obtain ⟨hi1, hi2⟩ := hio u.toNat (by omega)
      have hins : ∀ x ∈ (nodeN E.g u.toNat).inn, (0 ≤ x ∧ x < m) ∧ (x ∈ st.inn ∨ x ∈ st.disk) := fun x hx => by
        have := hi2 x hx
        exact ⟨⟨this.1, by omega⟩, .inr (h.srcs ⟨this.1, by omega⟩ (hs2 x hx))⟩
      obtain ⟨⟨A, b1, b2⟩, b3, b4, b5, _⟩ := brings_flat hE hm hus f (v := u) (pinned := pin) h hins hb hi1
      have hpin : ∀ x, x ∈ pin → x ∈ pin ∨ x = u ∨ x ∈ (nodeN E.g u.toNat).inn := fun x hx => .inl hx
      have hRm : ∀ x, x ∈ (nodeN E.g u.toNat).inn → 0 ≤ x ∧ x < m := fun x hx => (hins x hx).1
      generalize hst1 : (brings E nx (f + 1) u pin st).1 = st1 at *
      by_cases d : (brings E nx (f + 1) u pin st).2 = false
      · rw [if_pos d]
        exact ⟨⟨A, b1, fun c => by cases c⟩, b3.mono hpin hRm, by simp only; omega, fun c => by cases c⟩
      rw [if_neg d]
      have d' : (brings E nx (f + 1) u pin st).2 = true := by simpa using d
      obtain rfl := b2 d'
      have b5' := b5 d'
      have hb1 : ∀ x ∈ st1.inn, x < m := fun x hx => by
        rcases b3.news x hx with h | h
        · exact hb x h
        · exact (hRm x h).2
      obtain ⟨m1, m2, m3, m4⟩ := makes_spec hE (nx := nx) b1 (v := u) (pinned := pin ++ (nodeN E.g u.toNat).inn) (fun _ h => by cases h) (fun x hx h0 => hus x (b1.rg x hx).1 (hb1 x hx) h0)
      generalize hst2 : (makes E nx u (pin ++ (nodeN E.g u.toNat).inn) st1).1 = st2 at *
      have t12 : Tr E nx (fun x => x ∈ pin) (fun x => 0 ≤ x ∧ x < m) st st2 := (b3.mono hpin hRm).trans m2 (fun x hx => List.mem_append_left _ hx) (fun _ h => h.elim)
      by_cases e : (makes E nx u (pin ++ (nodeN E.g u.toNat).inn) st1).2 = false
      · rw [if_pos e]
        exact ⟨⟨[], m1, fun c => by cases c⟩, t12, by simp only; omega, fun c => by cases c⟩
      rw [if_neg e]
      have e' : (makes E nx u (pin ++ (nodeN E.g u.toNat).inn) st1).2 = true := by simpa using e
      have hne : ¬ u ∈ (nodeN E.g u.toNat).inn := fun hx => by have := hi2 u hx; omega
      have hin2 : hasB st2.inn u = false := by
        rw [hasB_false]; intro hx
        rcases m2.news u hx with h | h
        · rcases b3.news u h with h | h
          · exact c (.inl h)
          · exact hne h
        · exact h
      have hd2 : hasB st2.disk u = false := by
        rw [hasB_false]; intro hx
        rcases m2.dnew u hx with h | h | h
        · rcases b3.dnew u h with h | h | h
          · exact c (.inr h)
          · exact c (.inl h)
          · exact hne h
        · rcases b3.news u h with h | h
          · exact c (.inl h)
          · exact hne h
        · exact h
      obtain ⟨a1, a2⟩ := m1.do (u := u) ⟨hu0, by omega⟩ hin2 hd2 hs1 (fun k hk => (hasB_iff _ _).2 (m2.keep k (b5' k hk) (List.mem_append_right _ hk))) (m4 e')
      have t3 : Tr E nx (fun x => x ∈ pin) (fun x => 0 ≤ x ∧ x < m) st (takeS 3 u st2) := t12.trans (Tr.take (nx := nx) (pin := fun x => x ∈ pin) (R := fun x => 0 ≤ x ∧ x < m) ⟨hu0, hu1⟩) (fun _ h => h) (fun _ h => h)
      obtain ⟨h1, h2, h3, h4⟩ := first_spec hE hio hm hus f r (takeS 3 u st2) a1 hrr (fun x hx => by
          obtain ⟨hx0, hx1⟩ := hav x (by simp [hx])
          refine ⟨hx0, ?_⟩
          rcases hx1 with h | h | h
          · exact .inl (t3.keep x h (hrr x hx))
          · exact .inr (.inl (t3.dsk x h))
          · exact .inr (.inr h)) (fun x hx => by
          rcases t3.news x hx with h | h
          · exact hb x h
          · exact h.2)
      refine ⟨h1, t3.trans h2 (fun _ h => h) (fun _ h => h), by omega, fun hok x hx => ?_⟩
      rcases List.mem_cons.1 hx with rfl | hx
      · exact .inl (h2.keep _ (by simp [takeS]) (hr _ (by simp)))
      · exact h4 hok x hx

/-- What a node takes in comes. -/
theorem brings_spec (hE : EnvOk E) (hio : InnOk E.g E.g.length) {at_ : Nat} {nx : List Int} {m : Int} (hm : m ≤ (E.g.length : Int) - 1) (hus : ∀ u, 0 ≤ u → u < m → 0 ≤ Ev.at_ nx u → Use E at_ u) (f : Nat) {v : Int} {pinned : List Int} {st : St} (h : J E at_ st [])
    (hav : ∀ u ∈ (nodeN E.g v.toNat).inn, (0 ≤ u ∧ u < m) ∧ Avail E st u) (hb : ∀ u ∈ st.inn, u < m) (hl : (nodeN E.g v.toNat).inn.length ≤ 4) :
    (∃ A, J E at_ (brings E nx (f + 2) v pinned st).1 A ∧ ((brings E nx (f + 2) v pinned st).2 = true → A = [])) ∧ Tr E nx (fun u => u ∈ pinned ∨ u = v ∨ u ∈ (nodeN E.g v.toNat).inn) (fun u => 0 ≤ u ∧ u < m) st (brings E nx (f + 2) v pinned st).1 ∧
    phi (brings E nx (f + 2) v pinned st).1 ≤ phi st + 68 ∧ ((brings E nx (f + 2) v pinned st).2 = true → ∀ u ∈ (nodeN E.g v.toNat).inn, u ∈ (brings E nx (f + 2) v pinned st).1.inn) := by
  have hol := Nat.le_trans (once_length (nodeN E.g v.toNat).inn) hl
  have hpin : ∀ u, u ∈ pinned ∨ u = v ∨ u ∈ (nodeN E.g v.toNat).inn → u ∈ pinned ++ [v] ++ once (nodeN E.g v.toNat).inn := fun u hu => by
    simp only [List.mem_append, List.mem_singleton, once_mem]
    rcases hu with h | h | h
    · exact .inl (.inl h)
    · exact .inl (.inr h)
    · exact .inr h
  obtain ⟨⟨A, f1, f2⟩, f3, f4, f5⟩ := first_spec hE hio hm hus f (pin := pinned ++ [v] ++ once (nodeN E.g v.toNat).inn) (once (nodeN E.g v.toNat).inn) st h (fun u hu => List.mem_append_right _ hu) (fun u hu => hav u ((once_mem _ _).1 hu)) hb
  have he := brings_eq (E := E) nx (f + 1) v pinned st
  by_cases d : (first E nx (brings E nx (f + 1)) (pinned ++ [v] ++ once (nodeN E.g v.toNat).inn) (once (nodeN E.g v.toNat).inn) st).2 = false
  · rw [if_pos d] at he
    rw [he]
    exact ⟨⟨A, f1, fun c => by cases c⟩, f3.mono hpin (fun _ h => h), by simp only; omega, fun c => by cases c⟩
  rw [if_neg d] at he
  have d' : (first E nx (brings E nx (f + 1)) (pinned ++ [v] ++ once (nodeN E.g v.toNat).inn) (once (nodeN E.g v.toNat).inn) st).2 = true := by simpa using d
  obtain rfl := f2 d'
  obtain ⟨h1, h2, h3, h4, _⟩ := brings_second hE hm hus f1 (pin := pinned ++ [v] ++ once (nodeN E.g v.toNat).inn) (r := once (nodeN E.g v.toNat).inn) (fun u hu => List.mem_append_right _ hu) (once_nodup _)
    (fun u hu => ⟨(hav u ((once_mem _ _).1 hu)).1, f5 d' u hu⟩) (fun u hu => by
      rcases f3.news u hu with h | h
      · exact hb u h
      · exact h.2) hol he
  refine ⟨h1, (f3.mono hpin (fun _ h => h)).trans h2 hpin (fun u hu => (hav u ((once_mem _ _).1 hu)).1), Int.le_trans h3 (by omega), fun hok u hu => h4 hok u ((once_mem _ _).2 hu)⟩
end Pl
end Go.Proofs.Ytgmagldbfajedaa
