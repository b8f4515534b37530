import Derived.Test.YtekejcnphmnidaaGreatDoorZBf
import Derived.Test.YtekejcnphmnidaaGreatDoorZChAlive
namespace Go.Proofs.YtekejcnphmnidaaGreatDoor
open Go.ChangeShapes Go.WideShapes Go.ChangeAt Go.RowKit
set_option maxRecDepth 100000 in
theorem i64_open {H : Type} {enc : TypeId × Value → H} {W : World} {base : Nat} {v : Value} {d : DataW H} {p : List MemPlace} (hval : Value.okWide Tryz.prog W .any base 3 v) (h : DataW.Trod enc Tryz.prog W 0 (fun _ => true) true 3 v d p) :
    ∃ n : Int, v = .int .i64 n ∧ -9223372036854775808 ≤ n ∧ n ≤ 9223372036854775807 := by
  obtain ⟨n, rfl, _, wf⟩ := open_int Tryz.underlying3 hval h
  exact ⟨n, rfl, wf_bounds wf.2⟩
set_option maxRecDepth 100000 in
theorem list_open {H : Type} {enc : TypeId × Value → H} {W : World} {v : Value} {d : DataW H} {p : List MemPlace} {base : Nat} (hval : Value.okWide Tryz.prog W .any base 22 v) (h : DataW.Trod enc Tryz.prog W 0 (fun _ => true) true 22 v d p) (hlt : ∀ x ∈ p, x.block < W.heap.size)
    (hw : ∀ m ∈ d.weights Tryz.prog 22, m ≤ reachBytes) : ∃ a len cap l, v = .slice a len cap ∧ Ints W a len cap l ∧ len ≤ 17592186044416 := by
  obtain ⟨a0, len0, cap0, rfl⟩ := okWide_slice Tryz.underlying22 hval
  obtain ⟨n, hn⟩ := h
  obtain ⟨a, len, cap, l, e, hi, hl⟩ := ints_of_trod hn hlt hw
  exact ⟨a, len, cap, l, by simpa [Value.cells] using e, hi, hl⟩
end Go.Proofs.YtekejcnphmnidaaGreatDoor

namespace Go.Proofs.YtekejcnphmnidaaGreatDoor
open Go.ChangeShapes Go.WideShapes Go.ChangeAt Go.RowKit
theorem Tryz.cel128 : Tryz.prog.cellsOf 128 = 2 := by kernel_rfl
theorem Tryz.cel126 : Tryz.prog.cellsOf 126 = 1 := by kernel_rfl
section
variable {H : Type} {enc : TypeId × Value → H} {W : World}
set_option maxRecDepth 100000 in
theorem step_of_trod {n : Nat} {cs : List Value} {y : DataW H × List MemPlace} (hf : DataW.trod enc Tryz.prog W 0 (fun _ => true) true n 128 cs = some y) :
    ∃ x : Int × Int, cs = [.int .u8 x.1, .int .i64 x.2] := by
  obtain ⟨xs, n, _, hx, hl, hlen, hfs⟩ := DataW.trod_struct Tryz.underlying128 hf
  rw [Tryz.cel128] at hl
  match cs, hl with
  | [c0, c1], _ =>
  match xs, hlen with
  | [y0, y1], _ =>
    subst hx
    have f0 : DataW.trod enc Tryz.prog W 0 (fun _ => true) true n 126 [c0] = some y0 := by simpa [Tryz.cel126, Tryz.cells3] using hfs 0 _ rfl
    have f1 : DataW.trod enc Tryz.prog W 0 (fun _ => true) true n 3 [c1] = some y1 := by simpa [Tryz.cel126, Tryz.cells3] using hfs 1 _ rfl
    obtain ⟨kd, e0, _, w0⟩ := DataW.trod_int Tryz.underlying126 f0
    obtain ⟨v, e1, _, w3⟩ := DataW.trod_int Tryz.underlying3 f1
    simp only [List.cons.injEq, and_true] at e0 e1
    subst e0; subst e1
    exact ⟨(kd, v), rfl⟩
theorem steps_of_trod {n : Nat} {cs : List Value} {y : DataW H × List MemPlace} (hf : DataW.trod enc Tryz.prog W 0 (fun _ => true) true n 75 cs = some y) (hlt : ∀ x ∈ y.2, x.block < W.heap.size) :
    ∃ a len cap l, cs = [.slice a len cap] ∧ StepsIn W a len cap l := by
  rcases Go.Deep.open_slice Tryz.underlying75 hf with ⟨rfl, rfl⟩ | ⟨a, len, cap, m, n, D, Pl, rfl, _, hl, hm, hmm, rfl, hx⟩
  · exact ⟨none, 0, 0, [], rfl, StepsIn.nil⟩
  · simp only [if_true] at hmm
    subst hmm
    rw [Tryz.cel128] at hx
    obtain ⟨b, off, spot⟩ := a
    by_cases h0 : 0 < len
    · have hspot : spot = none := by
        obtain ⟨cs', h1, h2⟩ := hx 0 (by omega)
        obtain ⟨_, hl5, hc5⟩ := World.cells?_some h1
        have h3 := hc5 0 (by omega)
        rw [List.getElem?_eq_getElem (by omega)] at h3
        simpa [Addr.add] using World.cell?_spot h3
      subst hspot
      have hstep : ∀ i, i < len → ∃ x : Int × Int, W.cell? ⟨b, off + i * 2, none⟩ = some (.int .u8 x.1) ∧ W.cell? ⟨b, off + i * 2 + 1, none⟩ = some (.int .i64 x.2) := by
        intro i hi
        obtain ⟨cs', h1, h2⟩ := hx i (by omega)
        obtain ⟨_, hl5, hc5⟩ := World.cells?_some h1
        obtain ⟨x, rfl⟩ := step_of_trod h2
        refine ⟨x, ?_, ?_⟩
        · have h4 := hc5 0 (by omega)
          rw [Addr.add_lit, Addr.add_lit] at h4
          exact h4
        · have h4 := hc5 1 (by omega)
          rw [Addr.add_lit, Addr.add_lit] at h4
          exact h4
      obtain ⟨X, hX⟩ := Go.Deep.choose_lt hstep
      refine ⟨some ⟨b, off, none⟩, len, m, (List.range len).map X, rfl, ⟨hl, by unfold maxLen at hm; omega, by simp, fun _ => ⟨b, off, rfl, ?_, fun i hi => ?_⟩⟩⟩
      · exact hlt (.cell b off) (by simp only [List.mem_append, Tryz.cel128]; left; exact MemPlace.mem_row.2 ⟨0, by omega, by simp⟩)
      · rw [show stepN ((List.range len).map X) i = X i by unfold stepN; rw [List.getD_eq_getElem?_getD, List.getElem?_eq_getElem (by simpa using hi)]; simp]
        exact hX i hi
    · have : len = 0 := by omega
      subst this
      exact ⟨some ⟨b, off, spot⟩, 0, m, [], rfl, ⟨hl, by unfold maxLen at hm; omega, rfl, fun h => absurd h (by omega)⟩⟩
set_option maxRecDepth 100000 in
theorem steps_open {base : Nat} {v : Value} {d : DataW H} {p : List MemPlace} (hval : Value.okWide Tryz.prog W .any base 75 v) (h : DataW.Trod enc Tryz.prog W 0 (fun _ => true) true 75 v d p) (hlt : ∀ x ∈ p, x.block < W.heap.size)
    (_ : ∀ m ∈ d.weights Tryz.prog 75, m ≤ reachBytes) : ∃ a len cap l, v = .slice a len cap ∧ StepsIn W a len cap l := by
  obtain ⟨a0, len0, cap0, rfl⟩ := okWide_slice Tryz.underlying75 hval
  obtain ⟨n, hn⟩ := h
  obtain ⟨a, len, cap, l, e, hi⟩ := steps_of_trod hn hlt
  exact ⟨a, len, cap, l, by simpa [Value.cells] using e, hi⟩
end
end Go.Proofs.YtekejcnphmnidaaGreatDoor
