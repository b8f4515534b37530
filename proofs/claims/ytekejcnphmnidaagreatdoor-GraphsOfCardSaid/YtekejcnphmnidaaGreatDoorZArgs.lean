import Derived.Test.YtekejcnphmnidaaGreatDoorZBf
namespace Go.Proofs.YtekejcnphmnidaaGreatDoor
open Go.ChangeShapes Go.WideShapes Go.ChangeAt Go.RowKit
set_option maxRecDepth 100000 in
theorem i64_open {H : Type} {enc : TypeId × Value → H} {W : World} {base : Nat} {v : Value} {d : DataW H} {p : List MemPlace} (hval : Value.okWide Tryz.prog W .any base 3 v) (h : DataW.Trod enc Tryz.prog W 0 (fun _ => true) true 3 v d p) :
    ∃ n : Int, v = .int .i64 n ∧ -9223372036854775808 ≤ n ∧ n ≤ 9223372036854775807 := by
  obtain ⟨n, rfl, _, wf⟩ := open_int Tryz.underlying3 hval h
  exact ⟨n, rfl, wf_bounds wf.2⟩
set_option maxRecDepth 100000 in
theorem list_open {H : Type} {enc : TypeId × Value → H} {W : World} {v : Value} {d : DataW H} {p : List MemPlace} {base : Nat} (hval : Value.okWide Tryz.prog W .any base 22 v) (h : DataW.Trod enc Tryz.prog W 0 (fun _ => true) true 22 v d p) (hlt : ∀ x ∈ p, x.block < W.heap.size)
    (hw : ∀ m ∈ d.weights Tryz.prog 22, m ≤ reachBytes) : ∃ a len cap l, v = .slice a len cap ∧ Ints W a len cap l ∧ len ≤ 17592186044416 := by
  obtain ⟨a0, len0, cap0, rfl⟩ := okWide_slice Tryz.underlying22 hval
  obtain ⟨n, hn⟩ := h
  obtain ⟨a, len, cap, l, e, hi, hl⟩ := ints_of_trod hn hlt hw
  exact ⟨a, len, cap, l, by simpa [Value.cells] using e, hi, hl⟩
end Go.Proofs.YtekejcnphmnidaaGreatDoor
