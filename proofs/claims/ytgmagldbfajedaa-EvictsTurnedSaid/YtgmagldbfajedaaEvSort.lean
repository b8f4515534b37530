/-
  slices.SortStableFunc order facts that the pick needs.
-/
import Derived.Test.YtgmagldbfajedaaEvPlain
import Derived.Test.YtgmagldbfajedaaStPlain
namespace Go.Proofs.Ytgmagldbfajedaa
open Go.Sort

def ltc (cf : Int → Int → Int) (x y : Int) : Bool := decide (cf x y < 0)

theorem far_swo (bytes next : List Int) : SWO (ltc (Ev.far bytes next)) where
  irrefl x := by
    unfold ltc
    rw [decide_eq_false_iff_not, Ev.far_neg]
    intro h; apply h
    rcases Ev.far_total bytes next x x with h1 | h1 <;> exact h1
  trans x y z h1 h2 := by
    unfold ltc at *
    simp only [decide_eq_true_eq, Ev.far_neg] at *
    intro h3
    rcases Ev.far_total bytes next x y with k1 | k1
    · exact h2 (Ev.far_trans bytes next z x y h3 k1)
    · exact h1 k1
  ntrans x y z h1 h2 := by
    unfold ltc at *
    simp only [decide_eq_false_iff_not, Ev.far_neg, Classical.not_not] at *
    exact Ev.far_trans bytes next z y x h2 h1

theorem stable_sorted (bytes next l : List Int) : (St.stable (ltc (Ev.far bytes next)) l.toArray).toList = Ev.sorted bytes next l := by
  obtain ⟨hp, hs⟩ := St.stable_spec (far_swo bytes next) l.toArray
  have hz := hp.1
  refine Ev.sorted_unique bytes next l _ ?_ ?_
  · have h := hp.2.2
    have e1 : ∀ d : Array Int, d.size = l.toArray.size → d.extract 0 l.toArray.size = d := by
      intro d hd
      rw [← hd]; simp
    rw [e1 _ hz, e1 _ rfl] at h
    simpa using h
  · rw [List.pairwise_iff_getElem]
    intro i j hi hj hij
    have h := hs i j (Nat.zero_le _) hij (by simpa [hz] using hj)
    generalize St.stable (ltc (Ev.far bytes next)) l.toArray = d at *
    unfold ltc at h
    rw [decide_eq_false_iff_not, Ev.far_neg, Classical.not_not] at h
    simp only [Array.length_toList] at hi hj
    rw [getElem!_pos _ i hi, getElem!_pos _ j hj] at h
    simpa using h
end Go.Proofs.Ytgmagldbfajedaa
