/-
  What a slice of integers reads as, and how it stays.
-/
import Derived.Test.YtgmagldbfajedaaRows
import Derived.WalkKit
import Derived.Lib.Hide
import Derived.Deep.LoopGhost
import Derived.Outline
import Derived.Deep.QuietTactic
import Derived.BigQuiet
import Derived.IntWalk
import Derived.Deep.RegionWith
import Derived.WalkSpells
import Derived.Shelf.Abstract
import Derived.Test.YtgmagldbfajedaaLists
namespace Go.Proofs.Ytgmagldbfajedaa
open Go.RowKit

theorem mixed : Try.prog.follows .mixedOrders = true := by kernel_rfl

/-- A slice of integers of 64 bits: its elements. -/
structure Ints (w : World) (a : Option Addr) (len cap : Nat) (l : List Int) : Prop where
  le : len ≤ cap
  cap_le : cap ≤ 9223372036854775807
  length : l.length = len
  wf : ∀ n ∈ l, -9223372036854775808 ≤ n ∧ n ≤ 9223372036854775807
  at_ : 0 < len → ∃ b off, a = some ⟨b, off, none⟩ ∧ b < w.heap.size ∧ ∀ i, i < len → w.cell? ⟨b, off + i, none⟩ = some (.int .i64 (nth l i))

theorem Ints.below {w w' : World} {a : Option Addr} {len cap : Nat} {l : List Int} (h : Ints w a len cap l) (hb : Below w.heap.size w w') : Ints w' a len cap l :=
  ⟨h.le, h.cap_le, h.length, h.wf, fun h0 => by
    obtain ⟨b, off, rfl, hlt, hc⟩ := h.at_ h0
    exact ⟨b, off, rfl, Nat.lt_of_lt_of_le hlt hb.size, fun i hi => (hb.cell (p := ⟨b, off + i, none⟩) hlt).trans (hc i hi)⟩⟩

/-- A beginning of the slice. -/
theorem Ints.take {w : World} {a : Option Addr} {len cap : Nat} {l : List Int} (h : Ints w a len cap l) (k : Nat) (hk : k ≤ len) : Ints w a k cap (l.take k) :=
  ⟨Nat.le_trans hk h.le, h.cap_le, by rw [List.length_take, h.length]; omega, fun n hn => h.wf n (List.mem_of_mem_take hn), fun h0 => by
    obtain ⟨b, off, e, hlt, hc⟩ := h.at_ (by omega)
    refine ⟨b, off, e, hlt, fun i hi => ?_⟩
    rw [hc i (by omega)]
    unfold nth
    simp only [List.getD_eq_getElem?_getD, List.getElem?_take, hi, if_true]⟩

theorem Ints.drewN {w : World} {a : Option Addr} {len cap : Nat} {l : List Int} (h : Ints w a len cap l) (n : Nat) : Ints (w.drewN n) a len cap l :=
  ⟨h.le, h.cap_le, h.length, h.wf, h.at_⟩

theorem Ints.nil {w : World} : Ints w none 0 0 [] := ⟨Nat.le_refl _, by omega, rfl, (fun _ h => nomatch h), (fun h => absurd h (Nat.lt_irrefl 0))⟩

theorem below_drewN (w : World) (n : Nat) (B : Nat) : Below B w (w.drewN n) := ⟨rfl, rfl, rfl, Nat.le_refl _, fun _ _ => rfl⟩


/-- A function value of integers that answers a test, in every world in which all of B lies unturned, and turns nothing. -/
def PredAt (g : Nat) (cb : Array Value) (p : Int → Bool) (B : World) : Prop :=
  ∀ (w : World), Below B.heap.size B w → ∀ x : Int, -9223372036854775808 ≤ x → x ≤ 9223372036854775807 →
    Calls Try.prog g (#[.int .i64 x] ++ cb) w fun e w' => e = .returned (.bool (p x)) ∧ Below w.heap.size w w'

theorem PredAt.on {g : Nat} {cb : Array Value} {p : Int → Bool} {B B' : World} (h : PredAt g cb p B) (hb : Below B.heap.size B B') : PredAt g cb p B' :=
  fun w hw x h0 h1 => h w (hb.trans (hw.mono hb.size)) x h0 h1

theorem Ints.nth_wf {w : World} {a : Option Addr} {len cap : Nat} {l : List Int} (h : Ints w a len cap l) {k : Nat} (hk : k < len) : -9223372036854775808 ≤ nth l k ∧ nth l k ≤ 9223372036854775807 :=
  h.wf _ (nth_mem l k (by rw [h.length]; exact hk))

theorem below_step {B : Nat} {w w1 w2 : World} (h : Below B w w1) (k : Below w1.heap.size w1 w2) (hB : B ≤ w1.heap.size) : Below B w w2 := h.trans (k.mono hB)

end Go.Proofs.Ytgmagldbfajedaa
