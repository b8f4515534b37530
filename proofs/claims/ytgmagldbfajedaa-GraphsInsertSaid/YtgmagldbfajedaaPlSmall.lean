/-
  Plain Lean: the lists of a plan's making are no longer than its steps, and hold nodes of the graph; the steps only grow.
-/
import Derived.Test.YtgmagldbfajedaaPlLaw
namespace Go.Proofs.Ytgmagldbfajedaa
namespace Pl
open Gr Od Co

/-- What is in, and on the disk, is no more than the steps tell, and all of it are nodes. -/
structure Small (n : Nat) (st : St) : Prop where
  i : st.inn.length ≤ st.l.length
  d : st.disk.length ≤ st.l.length + 32
  ri : ∀ v ∈ st.inn, 0 ≤ v ∧ v < (n : Int)
  rd : ∀ v ∈ st.disk, 0 ≤ v ∧ v < (n : Int)
/-- Behind it the steps are more, and the lists no longer than these. -/
def Grew (n : Nat) (st st' : St) : Prop := (Small n st → Small n st') ∧ st.l.length ≤ st'.l.length
variable {n : Nat}
theorem Grew.refl (st : St) : Grew n st st := ⟨id, Nat.le_refl _⟩
theorem Grew.trans {a b c : St} (h : Grew n a b) (h2 : Grew n b c) : Grew n a c := ⟨fun x => h2.1 (h.1 x), Nat.le_trans h.2 h2.2⟩
theorem grew_drop (u : Int) (st : St) : Grew n st (dropS u st) :=
  ⟨fun h => ⟨by have := List.length_filter_le (fun v => !decide (v = u)) st.inn; have := h.i; simp only [dropS, List.length_append, List.length_cons, List.length_nil]; omega,
    by have := h.d; simp only [dropS, List.length_append, List.length_cons, List.length_nil]; omega, fun v hv => h.ri v (List.mem_filter.1 hv).1, h.rd⟩, by simp [dropS]⟩
theorem grew_take (k u : Int) (st : St) (hu : 0 ≤ u ∧ u < (n : Int)) : Grew n st (takeS k u st) :=
  ⟨fun h => ⟨by have := h.i; simp only [takeS, List.length_append, List.length_cons, List.length_nil]; omega,
    by have := h.d; simp only [takeS, List.length_append, List.length_cons, List.length_nil]; omega, fun v hv => by
      rcases List.mem_append.1 hv with h1 | h1
      · exact h.ri v h1
      · simp at h1; subst h1; exact hu, h.rd⟩, by simp [takeS]⟩
theorem grew_store (u : Int) (st : St) (hu : 0 ≤ u ∧ u < (n : Int)) : Grew n st (storeS u st) :=
  ⟨fun h => ⟨by have := h.i; simp only [storeS, List.length_append, List.length_cons, List.length_nil]; omega,
    by have := h.d; simp only [storeS, List.length_append, List.length_cons, List.length_nil]; omega, h.ri, fun v hv => by
      rcases List.mem_append.1 hv with h1 | h1
      · exact h.rd v h1
      · simp at h1; subst h1; exact hu⟩, by simp [storeS]⟩
theorem grew_step (k u : Int) (st : St) : Grew n st (stepS k u st) :=
  ⟨fun h => ⟨by have := h.i; simp only [stepS, List.length_append, List.length_cons, List.length_nil]; omega,
    by have := h.d; simp only [stepS, List.length_append, List.length_cons, List.length_nil]; omega, h.ri, h.rd⟩, by simp [stepS]⟩
theorem grew_evict (E : Env) (nx : List Int) (st : St) (u : Int) (hu : 0 ≤ u ∧ u < (n : Int)) : Grew n st (evict1 E nx st u) := by
  unfold evict1
  split
  · exact (grew_store u st hu).trans (grew_drop u _)
  · exact grew_drop u st
theorem grew_evicts (E : Env) (nx : List Int) : ∀ (l : List Int) (st : St), (∀ u ∈ l, 0 ≤ u ∧ u < (n : Int)) → Grew n st (l.foldl (evict1 E nx) st)
  | [], st, _ => Grew.refl st
  | u :: r, st, h => (grew_evict E nx st u (h u (by simp))).trans (grew_evicts E nx r _ (fun v hv => h v (by simp [hv])))
theorem len_evict (E : Env) (nx : List Int) (st : St) (u : Int) : st.l.length ≤ (evict1 E nx st u).l.length := by
  unfold evict1
  split <;> simp [dropS, storeS] <;> omega
theorem len_evicts (E : Env) (nx : List Int) : ∀ (l : List Int) (st : St), st.l.length ≤ (l.foldl (evict1 E nx) st).l.length
  | [], _ => Nat.le_refl _
  | u :: r, st => Nat.le_trans (len_evict E nx st u) (len_evicts E nx r _)
theorem grew_makes (E : Env) (nx : List Int) (v : Int) (pinned : List Int) (st : St) : Grew n st (makes E nx v pinned st).1 :=
  ⟨fun h => (grew_evicts E nx _ st (fun u hu => h.ri u (Ev.pickL_mem hu).1)).1 h, len_evicts E nx _ st⟩
theorem grew_first (E : Env) (nx : List Int) (br : Int → List Int → St → St × Bool) (hb : ∀ u p st, 0 ≤ u ∧ u < (n : Int) → Grew n st (br u p st).1) (pin : List Int) : ∀ (r : List Int) (st : St), (∀ u ∈ r, 0 ≤ u ∧ u < (n : Int)) → Grew n st (first E nx br pin r st).1
  | [], st, _ => Grew.refl st
  | u :: r, st, hr => by
    have hu := hr u (by simp)
    have hr2 : ∀ u ∈ r, 0 ≤ u ∧ u < (n : Int) := fun v hv => hr v (by simp [hv])
    unfold first
    split
    · exact grew_first E nx br hb pin r st hr2
    · split
      · exact hb _ _ _ hu
      · split
        · exact (hb _ _ _ hu).trans (grew_makes E nx _ _ _)
        · exact (((hb u pin st hu).trans (grew_makes E nx _ _ _)).trans (grew_take 3 u _ hu)).trans (grew_first E nx br hb pin r _ hr2)
theorem grew_second (E : Env) (nx : List Int) (pin : List Int) : ∀ (r : List Int) (st : St) (A : List Int), (∀ u ∈ r, 0 ≤ u ∧ u < (n : Int)) → Grew n st (second E nx pin r st A).1
  | [], st, A, _ => Grew.refl st
  | u :: r, st, A, hr => by
    have hr2 : ∀ u ∈ r, 0 ≤ u ∧ u < (n : Int) := fun v hv => hr v (by simp [hv])
    unfold second
    split
    · exact grew_second E nx pin r st A hr2
    · split
      · exact grew_makes E nx _ _ _
      · exact ((grew_makes E nx u pin st).trans (grew_take 1 u _ (hr u (by simp)))).trans (grew_second E nx pin r _ _ hr2)
theorem second_len (E : Env) (nx : List Int) (pin : List Int) : ∀ (r : List Int) (st : St) (A : List Int), (second E nx pin r st A).2.1.length ≤ A.length + r.length
  | [], st, A => Nat.le_refl _
  | u :: r, st, A => by
    unfold second
    split
    · have := second_len E nx pin r st A; simp only [List.length_cons]; omega
    · split
      · simp only [List.length_cons]; omega
      · have := second_len E nx pin r (takeS 1 u (makes E nx u pin st).1) (A ++ [u]); simp only [List.length_append, List.length_cons, List.length_nil] at this ⊢; omega
theorem grew_waits : ∀ (A : List Int) (st : St), Grew n st (waits A st)
  | [], st => Grew.refl st
  | u :: r, st => (grew_step 2 u st).trans (grew_waits r _)
theorem inn_rng {E : Env} (hio : InnOk E.g E.g.length) {v : Int} (hv : 0 ≤ v ∧ v < (E.g.length : Int)) : ∀ u ∈ once (nodeN E.g v.toNat).inn, 0 ≤ u ∧ u < (E.g.length : Int) := fun u hu => by
  have h1 := (hio v.toNat (by omega)).2 u ((once_mem _ _).1 hu)
  omega
theorem grew_brings {E : Env} (hio : InnOk E.g E.g.length) (nx : List Int) : ∀ (f : Nat) (v : Int) (pinned : List Int) (st : St), 0 ≤ v ∧ v < (E.g.length : Int) → Grew E.g.length st (brings E nx f v pinned st).1
  | 0, _, _, st, _ => Grew.refl st
  | f + 1, v, pinned, st, hv => by
    rw [brings_eq]
    have hr := inn_rng hio hv
    have h1 := grew_first E nx (brings E nx f) (fun u p st hu => grew_brings hio nx f u p st hu) (pinned ++ [v] ++ once (nodeN E.g v.toNat).inn) (once (nodeN E.g v.toNat).inn) st hr
    split
    · exact h1
    · have h2 := h1.trans (grew_second E nx (pinned ++ [v] ++ once (nodeN E.g v.toNat).inn) (once (nodeN E.g v.toNat).inn) _ [] hr)
      split
      · exact h2
      · exact h2.trans (grew_waits _ _)
theorem grew_dropsK (nx : List Int) (st : St) : ∀ k, Grew n st (dropsK nx st k)
  | 0 => Grew.refl st
  | k + 1 => by
    unfold dropsK
    split
    · exact (grew_dropsK nx st k).trans (grew_drop _ _)
    · exact grew_dropsK nx st k
theorem grew_place {E : Env} (hO : OrdOk E) (at_ : Nat) (hat : at_ < E.order.length) (st : St) : Grew E.g.length st (place E at_ st).1 := by
  have hv := hO.at_ at_ hat
  rw [place_eq]
  split
  · exact Grew.refl st
  · have h1 := grew_brings hO.io (Od.next E.g E.order ((at_ : Int) - 1)) ((nth E.order at_).toNat + 1) (nth E.order at_) [] st hv
    split
    · exact h1
    · have h2 := h1.trans (grew_makes (n := E.g.length) E (Od.next E.g E.order ((at_ : Int) - 1)) (nth E.order at_) ([nth E.order at_] ++ (nodeN E.g (nth E.order at_).toNat).inn) _)
      split
      · exact h2
      · exact (h2.trans (grew_take 3 _ _ hv)).trans (grew_dropsK _ _ _)
theorem grew_places {E : Env} (hO : OrdOk E) : ∀ (m at_ : Nat) (st : St), at_ + m ≤ E.order.length → Grew E.g.length st (places E m at_ st).1
  | 0, _, st, _ => Grew.refl st
  | m + 1, at_, st, h => by
    unfold places
    split
    · exact grew_place hO at_ (by omega) st
    · exact (grew_place hO at_ (by omega) st).trans (grew_places hO m (at_ + 1) _ (by omega))
theorem small_start {E : Env} (h : E.g.length ≤ 32) : Small E.g.length (start E) :=
  ⟨Nat.le_refl _, (by
    show (((List.range E.g.length).filter fun i => srcB (nodeN E.g i)).map fun (i : Nat) => (i : Int)).length ≤ 0 + 32
    have := List.length_filter_le (fun i => srcB (nodeN E.g i)) (List.range E.g.length)
    simp at this ⊢; omega), (fun v hv => by cases hv), fun v hv => ((srcs_mem E.g v).1 hv).1⟩

/-! ### The rest of a list, from a place on -/
theorem drop_nth {l : List Int} {k : Nat} (hk : k < l.length) : l.drop k = nth l k :: l.drop (k + 1) := by
  rw [List.drop_eq_getElem_cons hk, ← nth_eq l k hk]
end Pl
end Go.Proofs.Ytgmagldbfajedaa
