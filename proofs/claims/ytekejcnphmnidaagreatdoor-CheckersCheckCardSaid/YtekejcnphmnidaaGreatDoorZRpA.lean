import Derived.Test.YtekejcnphmnidaaGreatDoorZBs
import Derived.Test.YtekejcnphmnidaaGreatDoorZBkS
namespace Go.Proofs.YtekejcnphmnidaaGreatDoor
open Go.RowKit
theorem rhasB_hit {l : List Int} {x : Int} {k : Nat} (hk : k < l.length) (h : nth l k = x) : hasB l x = true := (hasB_iff _ _).2 (h ▸ nth_mem l k hk)
theorem rhasB_miss {l : List Int} {x : Int} (h : ∀ k, k < l.length → nth l k ≠ x) : hasB l x = false := by
  cases hc : hasB l x with
  | false => rfl
  | true =>
    obtain ⟨k, hk, e⟩ := List.getElem_of_mem ((hasB_iff _ _).1 hc)
    exact absurd (by rw [nth_eq l k hk]; exact e) (h k hk)
namespace Ev
end Ev
end Go.Proofs.YtekejcnphmnidaaGreatDoor
