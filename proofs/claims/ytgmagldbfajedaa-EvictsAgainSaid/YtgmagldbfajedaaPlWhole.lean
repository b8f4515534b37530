/-
  Plain Lean: in room for all each node that counts comes once, goes once, and nothing is stored (chapter 22).
-/
import Derived.Test.YtgmagldbfajedaaPlTries
namespace Go.Proofs.Ytgmagldbfajedaa
namespace Pl
open Gr Od Co

variable {E : Env}

/-- How often a node came; how often it went. -/
def cT (u : Int) (l : List (Int × Int)) : Nat := l.countP fun s => (decide (s.1 = 1) || decide (s.1 = 3)) && decide (s.2 = u)
def cD (u : Int) (l : List (Int × Int)) : Nat := l.countP fun s => decide (s.1 = 5) && decide (s.2 = u)
theorem cT_snoc (u : Int) (l : List (Int × Int)) (s : Int × Int) : cT u (l ++ [s]) = cT u l + (if (s.1 = 1 ∨ s.1 = 3) ∧ s.2 = u then 1 else 0) := by
  unfold cT
  rw [List.countP_append, List.countP_singleton]
  congr 1
  by_cases h : (s.1 = 1 ∨ s.1 = 3) ∧ s.2 = u
  · rw [if_pos h, if_pos (by simpa using h)]
  · rw [if_neg h, if_neg (by simpa using h)]
theorem cD_snoc (u : Int) (l : List (Int × Int)) (s : Int × Int) : cD u (l ++ [s]) = cD u l + (if s.1 = 5 ∧ s.2 = u then 1 else 0) := by
  unfold cD
  rw [List.countP_append, List.countP_singleton]
  congr 1
  by_cases h : s.1 = 5 ∧ s.2 = u
  · rw [if_pos h, if_pos (by simpa using h)]
  · rw [if_neg h, if_neg (by simpa using h)]

def allN (g : List Gr.Node) : List Int := (List.range g.length).map fun (i : Nat) => (i : Int)
theorem allN_mem (g : List Gr.Node) (u : Int) : u ∈ allN g ↔ 0 ≤ u ∧ u < g.length := by
  unfold allN
  simp only [List.mem_map, List.mem_range]
  constructor
  · rintro ⟨i, h1, rfl⟩; omega
  · rintro ⟨h0, h1⟩; exact ⟨u.toNat, by omega, by omega⟩
/-- The room is enough for all. -/
def Big (E : Env) : Prop := Ev.sumB E.b (allN E.g) ≤ E.room

theorem makes_big (hE : EnvOk E) (hB : Big E) {at_ : Nat} {nx : List Int} {st : St} {A : List Int} (h : J E at_ st A) {v : Int} {pinned : List Int} (hv : 0 ≤ v ∧ v < E.g.length) (hvi : ¬ v ∈ st.inn) (hnx : nx.length = E.g.length) (hp : ∀ u ∈ pinned, 0 ≤ u ∧ u < (E.g.length : Int)) :
    makes E nx v pinned st = (st, true) ∧ Ev.sumB E.b st.inn + Ev.at_ E.b v ≤ E.room := by
  have hall : ∀ x ∈ allN E.g, 0 ≤ x ∧ x < (E.g.length : Int) := fun x hx => (allN_mem _ _).1 hx
  have h1 : (makes E nx v pinned st).2 = true := makes_ok hE h hv hnx hp (Int.le_trans (pins_fit hE hall h.nd ((allN_mem _ _).2 hv) hvi (fun x hx _ => (allN_mem _ _).2 (h.rg x hx))) hB)
  have h2 := sub_sum E.b (v :: st.inn) (allN E.g) (fun x hx => (at_nonneg hE (hall x hx).1 (hall x hx).2).1) (List.nodup_cons.2 ⟨hvi, h.nd⟩) (fun x hx => by
    rcases List.mem_cons.1 hx with rfl | hx
    · exact (allN_mem _ _).2 hv
    · exact (allN_mem _ _).2 (h.rg x hx))
  simp only [Ev.sumB] at h2
  unfold Big at hB
  have h3 : pickL' E nx st v pinned = [] := by
    unfold pickL' Ev.pickL
    split
    · exact Ev.greedy_none _ _ _ _ (by omega)
    · rfl
  refine ⟨?_, by omega⟩
  have h4 : (makes E nx v pinned st).1 = st := by
    unfold makes
    rw [h3]; rfl
  exact Prod.ext h4 h1

/-- What is known of how often nodes came and went. -/
structure W0 (E : Env) (at_ : Nat) (st : St) : Prop where
  ns : ∀ s ∈ st.l, s.1 ≠ 4
  ct : ∀ u, cT u st.l = cD u st.l + (if hasB st.inn u = true then 1 else 0)
  c1 : ∀ u, cT u st.l ≤ 1
  gone : ∀ u, 0 < cD u st.l → ¬ Use E at_ u ∧ u ≠ (E.g.length : Int) - 1

theorem W0.take {at_ : Nat} {st : St} (h : W0 E at_ st) {k u : Int} (hk : k = 1 ∨ k = 3) (hu : hasB st.inn u = false) (hus : Use E at_ u ∨ u = (E.g.length : Int) - 1) : W0 E at_ (takeS k u st) := by
  have hD : cD u st.l = 0 := by
    rcases Nat.eq_zero_or_pos (cD u st.l) with h0 | h0
    · exact h0
    · obtain ⟨h1, h2⟩ := h.gone u h0
      rcases hus with h | h
      · exact absurd h h1
      · exact absurd h h2
  have hT : cT u st.l = 0 := by have := h.ct u; rw [hu, hD] at this; simpa using this
  have hD2 : ∀ x, cD x (takeS k u st).l = cD x st.l := fun x => by
    show cD x (st.l ++ [(k, u)]) = _
    rw [cD_snoc, if_neg (by rintro ⟨c, _⟩; simp only at c; omega), Nat.add_zero]
  have hT2 : ∀ x, cT x (takeS k u st).l = cT x st.l + (if u = x then 1 else 0) := fun x => by
    show cT x (st.l ++ [(k, u)]) = _
    rw [cT_snoc]
    congr 1
    by_cases c : u = x
    · rw [if_pos c, if_pos ⟨hk, c⟩]
    · rw [if_neg c, if_neg (fun d => c d.2)]
  refine ⟨fun s hs => ?_, fun x => ?_, fun x => ?_, fun x hx => h.gone x (by rw [← hD2]; exact hx)⟩
  · rcases List.mem_append.1 hs with hs | hs
    · exact h.ns s hs
    · simp at hs; subst hs; simp only; omega
  · rw [hT2, hD2, h.ct x]
    show _ = cD x st.l + (if hasB (st.inn ++ [u]) x = true then 1 else 0)
    rw [hasB_snoc']
    by_cases c : u = x
    · subst c; rw [hu]; simp
    · rw [if_neg c]
      have : ¬ x = u := fun d => c d.symm
      simp [this]
  · rw [hT2]
    by_cases c : u = x
    · subst c; rw [hT]; simp
    · rw [if_neg c]; exact h.c1 x

theorem W0.wait {at_ : Nat} {st : St} (h : W0 E at_ st) (u : Int) : W0 E at_ (stepS 2 u st) := by
  have hD2 : ∀ x, cD x (stepS 2 u st).l = cD x st.l := fun x => by
    show cD x (st.l ++ [(2, u)]) = _
    rw [cD_snoc, if_neg (by rintro ⟨c, _⟩; simp at c), Nat.add_zero]
  have hT2 : ∀ x, cT x (stepS 2 u st).l = cT x st.l := fun x => by
    show cT x (st.l ++ [(2, u)]) = _
    rw [cT_snoc, if_neg (by rintro ⟨c, _⟩; simp at c), Nat.add_zero]
  refine ⟨fun s hs => ?_, fun x => ?_, fun x => by rw [hT2]; exact h.c1 x, fun x hx => h.gone x (by rw [← hD2]; exact hx)⟩
  · rcases List.mem_append.1 hs with hs | hs
    · exact h.ns s hs
    · simp at hs; subst hs; show (2 : Int) ≠ 4; decide
  · rw [hT2, hD2]; exact h.ct x
theorem W0.waits {at_ : Nat} : ∀ (A : List Int) {st : St}, W0 E at_ st → W0 E at_ (waits A st)
  | [], _, h => h
  | u :: r, st, h => by
    have e : Pl.waits (u :: r) st = Pl.waits r (stepS 2 u st) := rfl
    rw [e]
    exact W0.waits r (h.wait u)

theorem W0.drop {at_ : Nat} {st : St} (h : W0 E at_ st) {u : Int} (hu : hasB st.inn u = true) (hus : ¬ Use E at_ u ∧ u ≠ (E.g.length : Int) - 1) : W0 E at_ (dropS u st) := by
  have hT2 : ∀ x, cT x (dropS u st).l = cT x st.l := fun x => by
    show cT x (st.l ++ [(5, u)]) = _
    rw [cT_snoc, if_neg (by rintro ⟨c, _⟩; simp at c), Nat.add_zero]
  have hD2 : ∀ x, cD x (dropS u st).l = cD x st.l + (if u = x then 1 else 0) := fun x => by
    show cD x (st.l ++ [(5, u)]) = _
    rw [cD_snoc]
    congr 1
    by_cases c : u = x
    · rw [if_pos c, if_pos ⟨rfl, c⟩]
    · rw [if_neg c, if_neg (fun d => c d.2)]
  refine ⟨fun s hs => ?_, fun x => ?_, fun x => by rw [hT2]; exact h.c1 x, fun x hx => ?_⟩
  · rcases List.mem_append.1 hs with hs | hs
    · exact h.ns s hs
    · simp at hs; subst hs; show (5 : Int) ≠ 4; decide
  · rw [hT2, hD2, h.ct x]
    show _ = cD x st.l + _ + (if hasB (st.inn.filter fun v => !decide (v = u)) x = true then 1 else 0)
    rw [hasB_drop]
    by_cases c : u = x
    · subst c; rw [hu]; simp
    · rw [if_neg c]
      have : ¬ x = u := fun d => c d.symm
      simp [this]
  · rw [hD2] at hx
    by_cases c : u = x
    · subst c; exact hus
    · rw [if_neg c, Nat.add_zero] at hx
      exact h.gone x hx

theorem W0.next {at_ : Nat} {st : St} (h : W0 E at_ st) : W0 E (at_ + 1) st :=
  ⟨h.ns, h.ct, h.c1, fun u hu => ⟨fun ⟨j, h1, h2, h3⟩ => (h.gone u hu).1 ⟨j, by omega, h2, h3⟩, (h.gone u hu).2⟩⟩

theorem second_big (hE : EnvOk E) (hB : Big E) {at_ : Nat} {nx pin : List Int} (hnl : nx.length = E.g.length) (hpin : ∀ u ∈ pin, 0 ≤ u ∧ u < (E.g.length : Int)) :
    ∀ (r : List Int) (st : St) (A : List Int), J E at_ st A → W0 E at_ st → (∀ u ∈ A, u ∈ pin) → (∀ u ∈ r, u ∈ pin ∧ Use E at_ u) → (∀ u ∈ r, u ∈ st.inn ∨ u ∈ st.disk) → A.length + r.length ≤ 4 →
      W0 E at_ (second E nx pin r st A).1 ∧ (second E nx pin r st A).2.2 = true ∧ (∀ u ∈ (second E nx pin r st A).1.inn, u ∈ st.inn ∨ u ∈ r) ∧ (∀ u ∈ st.inn, u ∈ (second E nx pin r st A).1.inn) ∧ (second E nx pin r st A).1.disk = st.disk
  | [], st, A, _, hW, _, _, _, _ => ⟨hW, rfl, fun u hu => .inl hu, fun _ h => h, rfl⟩
  | u :: r, st, A, h, hW, hA, hr, hav, hl => by
    rw [List.length_cons] at hl
    by_cases c : hasB st.inn u = true
    · rw [second, if_pos c]
      obtain ⟨h1, h2, h3, h4, h5⟩ := second_big hE hB hnl hpin r st A h hW hA (fun x hx => hr x (by simp [hx])) (fun x hx => hav x (by simp [hx])) (by omega)
      exact ⟨h1, h2, fun x hx => (h3 x hx).imp id (fun h => by simp [h]), h4, h5⟩
    · rw [second, if_neg c]
      have c' : hasB st.inn u = false := by simpa using c
      have hu0 := hpin u (hr u (by simp)).1
      obtain ⟨m1, m2⟩ := makes_big hE hB h (nx := nx) (pinned := pin) hu0 (by rw [← hasB_false]; exact c') hnl hpin
      rw [m1]
      simp only [Bool.true_eq_false, if_false]
      have hd1 : hasB st.disk u = true := by
        rw [hasB_iff]
        rcases hav u (by simp) with h | h
        · exact absurd ((hasB_iff _ _).2 h) c
        · exact h
      obtain ⟨a1, a2⟩ := h.ask (u := u) hu0 c' hd1 m2 (by omega)
      obtain ⟨h1, h2, h3, h4, h5⟩ := second_big hE hB hnl hpin r (takeS 1 u st) (A ++ [u]) a1 (hW.take (.inl rfl) c' (.inl (hr u (by simp)).2)) (fun x hx => by
          rcases List.mem_append.1 hx with hx | hx
          · exact hA x hx
          · simp at hx; subst hx; exact (hr _ (by simp)).1) (fun x hx => hr x (by simp [hx])) (fun x hx => by
          rcases hav x (by simp [hx]) with h | h
          · exact .inl (List.mem_append_left _ h)
          · exact .inr h) (by simp; omega)
      refine ⟨h1, h2, fun x hx => ?_, fun x hx => h4 x (List.mem_append_left _ hx), h5⟩
      rcases h3 x hx with h | h
      · rcases List.mem_append.1 h with h | h
        · exact .inl h
        · simp at h; subst h; exact .inr (by simp)
      · exact .inr (by simp [h])

/-- The same, with what is in being used, but the last one. -/
structure WW (E : Env) (at_ : Nat) (st : St) : Prop where
  w : W0 E at_ st
  clr : ∀ u ∈ st.inn, u < (E.g.length : Int) - 1 → Use E at_ u
  nb : ∀ i j, i < at_ → at_ ≤ j → j < E.order.length → nth E.order i ∈ (nodeN E.g (nth E.order j).toNat).inn → nth E.order i ∈ st.inn ∨ nth E.order i ∈ st.disk

theorem drops_big (hE : EnvOk E) (hO : OrdOk E) {at_ : Nat} (hat : at_ ≤ E.order.length) {st : St} (h : J E at_ st []) (hW : W0 E at_ st) : ∀ k, k ≤ E.g.length → W0 E at_ (dropsK (Od.next E.g E.order ((at_ : Int) - 1)) st k)
  | 0, _ => hW
  | k + 1, hk => by
    have h1 := drops_big hE hO hat h hW k (by omega)
    unfold dropsK
    by_cases c : hasB (dropsK (Od.next E.g E.order ((at_ : Int) - 1)) st k).inn (k : Int) = true ∧ nth (Od.next E.g E.order ((at_ : Int) - 1)) k < 0
    · rw [if_pos c]
      have hne : (k : Int) ≠ (E.g.length : Int) - 1 := fun e => by
        have h2 := next_last' hO ((at_ : Int) - 1)
        rw [← e] at h2
        unfold Ev.at_ at h2
        rw [Int.toNat_natCast] at h2
        omega
      refine h1.drop c.1 ⟨fun hU => ?_, hne⟩
      have h2 := (next_use hO hat (u := (k : Int)) (by omega) (by omega)).2 hU
      unfold Ev.at_ at h2
      rw [Int.toNat_natCast] at h2
      omega
    · rw [if_neg c]; exact h1

theorem place_big (hE : EnvOk E) (hO : OrdOk E) (hB : Big E) {at_ : Nat} (hat : at_ < E.order.length) {st : St} (H : Placed E at_ st) (HW : WW E at_ st) : (place E at_ st).2 = true ∧ WW E (at_ + 1) (place E at_ st).1 := by
  obtain ⟨hv0, hv1⟩ := hO.at_ at_ hat
  have he := place_eq (E := E) at_ st
  by_cases hs : srcB (nodeN E.g (nth E.order at_).toNat) = true
  · rw [if_pos hs] at he
    rw [he]
    have hnil := hO.srcInn _ hs (by omega)
    refine ⟨rfl, HW.w.next, fun u hu h1 => ?_, fun i j h1 h2 h3 h4 => ?_⟩
    · obtain ⟨j, h2, h3, h4⟩ := HW.clr u hu h1
      by_cases c : j = at_
      · subst c; rw [hnil] at h4; cases h4
      · exact ⟨j, by omega, h3, h4⟩
    · by_cases c : i = at_
      · subst c; exact .inr (H.j.srcs ⟨hv0, hv1⟩ hs)
      · exact HW.nb i j (by omega) (by omega) h3 h4
  rw [if_neg hs] at he
  have hs' : srcB (nodeN E.g (nth E.order at_).toNat) = false := by simpa using hs
  have hnl : (Od.next E.g E.order ((at_ : Int) - 1)).length = E.g.length := next_length _ _ _
  generalize hnx : Od.next E.g E.order ((at_ : Int) - 1) = nx at *
  have hinn := hO.inn at_ hat
  have hb : ∀ u ∈ st.inn, u < nth E.order at_ := fun u hu => H.inn u hu at_ (Nat.le_refl _) hat
  have hus : ∀ u, 0 ≤ u → u < nth E.order at_ → 0 ≤ Ev.at_ nx u → Use E at_ u := fun u h0 h1 h2 => by
    rw [← hnx] at h2
    exact (next_use hO (by omega) h0 (by omega)).1 h2
  have hav : ∀ u ∈ (nodeN E.g (nth E.order at_).toNat).inn, (0 ≤ u ∧ u < nth E.order at_) ∧ (u ∈ st.inn ∨ u ∈ st.disk) := fun u hu => by
    obtain ⟨h0, h1, i, h2, h3⟩ := hinn u hu
    refine ⟨⟨h0, h1⟩, ?_⟩
    have := HW.nb i at_ h2 (Nat.le_refl _) hat (by rw [h3]; exact hu)
    rwa [h3] at this
  have huse : ∀ u ∈ (nodeN E.g (nth E.order at_).toNat).inn, Use E at_ u := fun u hu => ⟨at_, Nat.le_refl _, hat, hu⟩
  have hil := (hO.io (nth E.order at_).toNat (by omega)).1
  have hpr : ∀ u ∈ [] ++ [nth E.order at_] ++ once (nodeN E.g (nth E.order at_).toNat).inn, 0 ≤ u ∧ u < (E.g.length : Int) := fun u hu => by
    simp only [List.nil_append, List.mem_append, List.mem_singleton, once_mem] at hu
    rcases hu with rfl | h
    · exact ⟨hv0, hv1⟩
    · have := (hav u h).1; omega
  obtain ⟨s1, s2, s3, s4, s5⟩ := second_big hE hB (at_ := at_) hnl hpr (once (nodeN E.g (nth E.order at_).toNat).inn) st [] H.j HW.w (fun _ h => by cases h) (fun u hu => ⟨List.mem_append_right _ hu, huse u ((once_mem _ _).1 hu)⟩) (fun u hu => (hav u ((once_mem _ _).1 hu)).2)
    (by simpa using Nat.le_trans (once_length _) hil)
  obtain ⟨⟨A, b1, b2⟩, b3, b4, b5, b6⟩ := brings_flat hE (by omega) hus (nth E.order at_).toNat (v := nth E.order at_) (pinned := []) H.j hav hb hil
  have d' : (brings E nx ((nth E.order at_).toNat + 1) (nth E.order at_) [] st).2 = true := by rw [b6]; exact s2
  have hbe : (brings E nx ((nth E.order at_).toNat + 1) (nth E.order at_) [] st).1 = waits (second E nx ([] ++ [nth E.order at_] ++ once (nodeN E.g (nth E.order at_).toNat).inn) (once (nodeN E.g (nth E.order at_).toNat).inn) st []).2.1
      (second E nx ([] ++ [nth E.order at_] ++ once (nodeN E.g (nth E.order at_).toNat).inn) (once (nodeN E.g (nth E.order at_).toNat).inn) st []).1 := by
    rw [brings_eq, first_flat (once (nodeN E.g (nth E.order at_).toNat).inn) (fun u hu => (hav u ((once_mem _ _).1 hu)).2)]
    simp only [Bool.true_eq_false, if_false]
    rw [if_neg (by rw [s2]; decide)]
  have hWb : W0 E at_ (brings E nx ((nth E.order at_).toNat + 1) (nth E.order at_) [] st).1 := by rw [hbe]; exact s1.waits _
  rw [if_neg (by rw [d']; decide)] at he
  obtain rfl := b2 d'
  have b5' := b5 d'
  have hdk : ∀ u ∈ st.disk, u ∈ (brings E nx ((nth E.order at_).toNat + 1) (nth E.order at_) [] st).1.disk := b3.dsk
  have hkp : ∀ u ∈ st.inn, u ∈ (brings E nx ((nth E.order at_).toNat + 1) (nth E.order at_) [] st).1.inn := by
    have hwi : ∀ (A : List Int) (s : St), (waits A s).inn = s.inn := fun A => by
      induction A with
      | nil => intro s; rfl
      | cons x r ih => intro s; exact ih (stepS 2 x s)
    rw [hbe, hwi]; exact s4
  generalize (brings E nx ((nth E.order at_).toNat + 1) (nth E.order at_) [] st).1 = st1 at *
  have hbr1 : ∀ u ∈ st1.inn, u < nth E.order at_ := fun u hu => by
    rcases b3.news u hu with h | h
    · exact hb u h
    · exact (hav u h).1.2
  have hvi : ¬ nth E.order at_ ∈ st1.inn := fun h => by have := hbr1 _ h; omega
  obtain ⟨m1, m2⟩ := makes_big hE hB b1 (nx := nx) (v := nth E.order at_) (pinned := [nth E.order at_] ++ (nodeN E.g (nth E.order at_).toNat).inn) ⟨hv0, hv1⟩ hvi hnl (fun u hu => by
    rcases List.mem_append.1 hu with h | h
    · simp at h; subst h; exact ⟨hv0, hv1⟩
    · have := (hav u h).1; omega)
  rw [m1] at he
  simp only [Bool.true_eq_false, if_false] at he
  have hd1 : hasB st1.disk (nth E.order at_) = false := by
    rw [hasB_false]; intro hx
    rcases b3.dnew _ hx with h | h | h
    · rcases H.dsk _ h with h | h
      · rw [h] at hs'; cases hs'
      · have := h at_ (Nat.le_refl _) hat; omega
    · have := hb _ h; omega
    · have := (hav _ h).1; omega
  obtain ⟨a1, a2⟩ := b1.do ⟨hv0, hv1⟩ ((hasB_false _ _).2 hvi) hd1 hs' (fun k hk => (hasB_iff _ _).2 (b5' k hk)) (by omega)
  have a1' : J E (at_ + 1) (takeS 3 (nth E.order at_) st1) [] := ⟨a1.inv, a1.sd, b1.fut.done⟩
  have hvu : Use E at_ (nth E.order at_) ∨ nth E.order at_ = (E.g.length : Int) - 1 := by
    by_cases c : at_ < E.order.length - 1
    · obtain ⟨k, h1, h2, h3⟩ := hO.taken at_ c
      exact .inl ⟨k, by omega, h2, h3⟩
    · right
      have := hO.last
      rwa [show E.order.length - 1 = at_ by omega] at this
  have hW3 := (hWb.take (k := 3) (.inr rfl) ((hasB_false _ _).2 hvi) hvu).next
  have hnl2 : (Od.next E.g E.order (at_ : Int)).length = E.g.length := next_length _ _ _
  obtain ⟨f1, f2, f3, f4, f5, q, f6⟩ := drops_spec hE hnl2 a1' E.g.length (Nat.le_refl _)
  have hcast : (((at_ + 1 : Nat) : Int) - 1) = (at_ : Int) := by omega
  have hW4 := drops_big hE hO (at_ := at_ + 1) (by omega) a1' hW3 E.g.length (Nat.le_refl _)
  rw [hcast] at hW4
  rw [he]
  refine ⟨rfl, hW4, fun u hu h1 => ?_, fun i j h1 h2 h3 h4 => ?_⟩
  · obtain ⟨h2, h3⟩ := f4 u hu
    have h0 := (a1'.rg u h2)
    have h4 := h3 (by omega)
    rw [← hcast] at h4
    exact (next_use hO (at_ := at_ + 1) (by omega) h0.1 h1).1 h4
  · obtain ⟨hx0, hx1, _⟩ := hO.inn j h3 _ h4
    have hxj := (hO.at_ j h3).2
    have hn2 : 0 ≤ Ev.at_ (Od.next E.g E.order (at_ : Int)) (nth E.order i) := by
      rw [← hcast]; exact (next_use hO (at_ := at_ + 1) (by omega) hx0 (by omega)).2 ⟨j, h2, h3, h4⟩
    by_cases c : i = at_
    · subst c
      exact .inl (f5 _ (by simp [takeS]) hn2)
    · rcases HW.nb i j (by omega) (by omega) h3 h4 with h | h
      · exact .inl (f5 _ (List.mem_append_left _ (hkp _ h)) hn2)
      · right
        simp only
        rw [f3]
        exact hdk _ h

theorem places_big (hE : EnvOk E) (hO : OrdOk E) (hB : Big E) : ∀ (m at_ : Nat) (st : St), at_ + m = E.order.length → Placed E at_ st → WW E at_ st → (places E m at_ st).2 = true ∧ WW E E.order.length (places E m at_ st).1
  | 0, at_, st, h, _, HW => ⟨rfl, by rw [← h]; exact HW⟩
  | m + 1, at_, st, h, H, HW => by
    obtain ⟨h1, h2⟩ := place_big hE hO hB (by omega) H HW
    rw [places, if_neg (by rw [h1]; decide)]
    exact places_big hE hO hB m (at_ + 1) _ (by omega) ((place_spec hE hO (by omega) H).2.2 h1) h2

/-- In room for all the first try does it, and each that counts came once. -/
theorem try_big (hE : EnvOk E) (hO : OrdOk E) (hB : Big E) : (tryF E).2 = true ∧ (∀ s ∈ (tryF E).1.l, s.1 ≠ 4) ∧
    (∀ u : Int, 0 ≤ u → u < (E.g.length : Int) - 1 → (cT u (tryF E).1.l = 0 ∧ cD u (tryF E).1.l = 0) ∨ (cT u (tryF E).1.l = 1 ∧ cD u (tryF E).1.l = 1)) ∧
    cT ((E.g.length : Int) - 1) (tryF E).1.l = 1 ∧ cD ((E.g.length : Int) - 1) (tryF E).1.l = 0 := by
  have hS : WW E 0 (start E) := ⟨⟨fun s hs => by simp [start] at hs, fun u => by simp [start, cT, cD, hasB_nil], fun u => by simp [start, cT], fun u hu => by simp [start, cD] at hu⟩, fun u hu => by (simp [start] at hu), fun i j h => by omega⟩
  obtain ⟨h1, h2⟩ := places_big hE hO hB E.order.length 0 (start E) (by omega) (start_placed hE hO) hS
  have h3 := try_good hE hO h1
  have hin : ∀ u ∈ (tryF E).1.inn, ¬ u < (E.g.length : Int) - 1 := fun u hu hlt => by
    obtain ⟨j, h4, h5, _⟩ := h2.clr u hu hlt
    omega
  refine ⟨h1, h2.w.ns, fun u h0 hu => ?_, ?_⟩
  · have h4 := h2.w.ct u
    have h5 := h2.w.c1 u
    have h6 : hasB (tryF E).1.inn u = false := by rw [hasB_false]; exact fun c => hin u c hu
    unfold tryF at h6 ⊢
    rw [h6] at h4
    simp only [Bool.false_eq_true, if_false] at h4
    omega
  · have h4 := h2.w.ct ((E.g.length : Int) - 1)
    have h5 := h2.w.c1 ((E.g.length : Int) - 1)
    have h6 : hasB (tryF E).1.inn ((E.g.length : Int) - 1) = true := (hasB_iff _ _).2 (h3.root rfl)
    unfold tryF at h6 ⊢
    rw [h6] at h4
    simp only [if_true] at h4
    omega
end Pl
end Go.Proofs.Ytgmagldbfajedaa
