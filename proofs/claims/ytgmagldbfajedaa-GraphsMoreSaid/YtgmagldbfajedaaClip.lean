/-
  slices.Clip of a slice of ints: contract clip_any (its result is the slice itself, with its length as capacity).
-/
import Derived.Test.YtgmagldbfajedaaOwn
import Derived.Test.YtgmagldbfajedaaStBase
namespace Go.Proofs.Ytgmagldbfajedaa
open Go.RowKit

theorem clip_any (a : Option Addr) (len cap : Nat) (w : World) (h1 : len ≤ cap) (h2 : cap ≤ 9223372036854775807) (h3 : a = none → len = 0 ∧ cap = 0) :
    Calls Try.prog 65 #[.slice a len cap] w fun e w' => e = .returned (.slice a len len) ∧ w = w' := by
  cases a with
  | none =>
    obtain ⟨rfl, rfl⟩ := h3 rfl
    go_enter Try.func65, Try.ntmps65
    go_wp2
    go_ret
    exact ⟨rfl, rfl⟩
  | some x =>
    clear h3
    go_enter Try.func65, Try.ntmps65
    go_wp2
    go_ret
    exact ⟨rfl, rfl⟩

theorem But.intsO {blk : Nat} {w w' : World} (h : But blk w w') {a : Option Addr} {len cap : Nat} {l : List Int} (hI : Ints w a len cap l) (hn : ∀ b off, a = some ⟨b, off, none⟩ → b < w.heap.size → b ≠ blk) : Ints w' a len cap l :=
  ⟨hI.le, hI.cap_le, hI.length, hI.wf, fun h0 => by
    obtain ⟨b', off', e, hlt, hc⟩ := hI.at_ h0
    exact ⟨b', off', e, Nat.lt_of_lt_of_le hlt h.size, fun i hi => (h.cell (p := ⟨b', off' + i, none⟩) hlt (hn b' off' e hlt)).trans (hc i hi)⟩⟩

theorem But.below {blk B : Nat} {w w' : World} (h : But blk w w') (hB : B ≤ blk) (hs : B ≤ w.heap.size) : Below B w w' := ⟨h.os, h.tape, h.output, h.size, fun k hk => h.block k (by omega) (by omega)⟩

/-- A row of integers is a world of the sort. -/
theorem sv_start {w : World} {g len cap : Nat} {l : List Int} {dom : Int → Prop} (hI : Ints w (some ⟨g, 0, none⟩) len cap l) (hg : g < w.heap.size) (hf : ∀ i, i < cap → w.frozen? ⟨g, i, none⟩ = false) (hd : ∀ x ∈ l, dom x) :
    SV g 0 len dom w l.toArray w := by
  have hz : l.toArray.size = len := by simpa using hI.length
  have hget : ∀ i, i < len → l.toArray[i]! = nth l i := fun i hi => by
    have : i < l.length := by rw [hI.length]; exact hi
    rw [nth_eq l i this, getElem!_pos _ i (by simpa using this)]; simp
  refine ⟨hz, fun i hi => ?_, fun j hj => ?_, But.refl _ _, hg⟩
  · rw [hget i hi]; exact hd _ (nth_mem l i (by rw [hI.length]; exact hi))
  · rw [hz] at hj
    obtain ⟨b, off, e, _, hc⟩ := hI.at_ (by omega)
    simp only [Option.some.injEq, Addr.mk.injEq] at e
    obtain ⟨rfl, rfl, _⟩ := e
    have := hI.le
    refine ⟨?_, by rw [Nat.zero_add]; exact hf j (by omega)⟩
    rw [hget j hj]; exact hc j hj

theorem sv_ints {w0 w : World} {g len cap : Nat} {d : Array Int} {dom : Int → Prop} (S : SV g 0 len dom w0 d w) (hle : len ≤ cap) (hcap : cap ≤ 9223372036854775807) (hd : ∀ x, dom x → -9223372036854775808 ≤ x ∧ x ≤ 9223372036854775807) :
    Ints w (some ⟨g, 0, none⟩) len cap d.toList := by
  have hz := S.size
  refine ⟨hle, hcap, by simpa using hz, fun x hx => ?_, fun _ => ⟨g, 0, rfl, S.lt, fun i hi => ?_⟩⟩
  · obtain ⟨i, hi, rfl⟩ := List.getElem_of_mem hx
    have hi' : i < d.size := by simpa using hi
    have := S.dom i (by omega)
    rw [getElem!_pos d i hi'] at this
    simpa using hd _ this
  · rw [S.c1 i hi]
    have hi' : i < d.size := by omega
    rw [nth_eq _ i (by simpa using hi'), getElem!_pos d i hi']; simp

end Go.Proofs.Ytgmagldbfajedaa
