/-
  How an argument reads: a slice of integers, inside a struct or not.
-/
import Derived.Test.YtgmagldbfajedaaBase
import Derived.ProofKit
import Derived.SizedLaws
import Derived.Deep.Slices
import Derived.ChangeOld
namespace Go.Proofs.Ytgmagldbfajedaa
open Go.ChangeShapes Go.WideShapes Go.ChangeAt Go.RowKit

theorem own : ownKnob Try.prog.godebug = none := by kernel_rfl
theorem laidOut : laidOutB Try.prog = true := by kernel_rfl
theorem Try.cells3 : Try.prog.cellsOf 3 = 1 := by kernel_rfl
theorem Try.cells22 : Try.prog.cellsOf 22 = 1 := by kernel_rfl
theorem Try.cells24 : Try.prog.cellsOf 24 = 6 := by kernel_rfl
theorem Try.bytes3 : Try.prog.bytesOf 3 = 8 := by kernel_rfl

section
variable {H : Type} {enc : TypeId × Value → H} {W : World}

theorem wf_bounds {n : Int} (h : (Lit.int .i64 n).wf = true) : -9223372036854775808 ≤ n ∧ n ≤ 9223372036854775807 := by
  have h1 : IntKind.i64.min = -9223372036854775808 := rfl
  have h2 : IntKind.i64.max = 9223372036854775807 := rfl
  simp only [Lit.wf, Bool.and_eq_true, decide_eq_true_eq] at h
  omega

/-- A slice of integers, read. -/
theorem ints_of_trod {n : Nat} {cs : List Value} {y : DataW H × List MemPlace} (hf : DataW.trod enc Try.prog W 0 (fun _ => true) true n 22 cs = some y) (hlt : ∀ x ∈ y.2, x.block < W.heap.size)
    (hw : ∀ m ∈ y.1.weights Try.prog 22, m ≤ reachBytes) : ∃ a len cap l, cs = [.slice a len cap] ∧ Ints W a len cap l ∧ len ≤ 17592186044416 := by
  rcases open_ints Try.underlying22 Try.underlying3 Try.cells3 hf with ⟨rfl, rfl⟩ | ⟨a, len, cap, zs, rfl, _, hl, hm, hz, hx, hcell, hwz⟩
  · exact ⟨none, 0, 0, [], rfl, Ints.nil, by omega⟩
  · simp only [if_true] at hz
    have hlen : len * 8 ≤ 140737488351232 := by
      have := hw ((zs.take len).length * 8 + (zs.drop len).length * 8) (by
        rw [hx]; simp only [DataW.weights, Try.underlying22, Try.bytes3, List.mem_cons]; left; simp [lits, Nat.add_mul])
      simp only [List.length_take, List.length_drop, reachBytes] at this
      omega
    refine ⟨some a, len, cap, zs.take len, rfl, ⟨hl, by unfold maxLen at hm; omega, by rw [List.length_take]; omega, fun m hm => wf_bounds (hwz m (List.mem_of_mem_take hm)), fun h0 => ?_⟩, by omega⟩
    obtain ⟨b, off, spot⟩ := a
    have hspot : spot = none := by simpa [Addr.add] using World.cell?_spot (hcell 0 (by omega))
    subst hspot
    refine ⟨b, off, rfl, hlt (.cell b off) (by rw [hx]; exact MemPlace.mem_row.2 ⟨0, by omega, by simp⟩), fun i hi => ?_⟩
    have h1 := hcell i (by omega)
    rw [add_plain] at h1
    rw [h1]
    unfold nth
    simp only [List.getD_eq_getElem?_getD, List.getElem?_take, hi, if_true]

/-- What is known of the struct 'Given' of chapter 21. -/
structure GivenIs (W : World) (v : Value) (ai ap ab an : Option Addr) (li ci lp cp lb cb ln cn : Nat) (inn pin bytes next : List Int) (room need : Int) : Prop where
  val : v = .agg #[.slice ai li ci, .slice ap lp cp, .int .i64 room, .int .i64 need, .slice ab lb cb, .slice an ln cn]
  i : Ints W ai li ci inn
  p : Ints W ap lp cp pin
  b : Ints W ab lb cb bytes
  n : Ints W an ln cn next
  li : li ≤ 17592186044416
  lp : lp ≤ 17592186044416
  lb : lb ≤ 17592186044416
  ln : ln ≤ 17592186044416
  room : -9223372036854775808 ≤ room ∧ room ≤ 9223372036854775807
  need : -9223372036854775808 ≤ need ∧ need ≤ 9223372036854775807

theorem array6 {α : Type} {cs : Array α} (h : cs.size = 6) : ∃ c0 c1 c2 c3 c4 c5, cs = #[c0, c1, c2, c3, c4, c5] := by
  obtain ⟨l⟩ := cs
  match l, h with
  | [c0, c1, c2, c3, c4, c5], _ => exact ⟨c0, c1, c2, c3, c4, c5, rfl⟩

set_option maxRecDepth 100000 in
theorem given_open {base : Nat} {v : Value} {d : DataW H} {p : List MemPlace} (hv : Value.okWide Try.prog W .any base 24 v) (h : DataW.Trod enc Try.prog W 0 (fun _ => true) true 24 v d p)
    (hlt : ∀ x ∈ p, x.block < W.heap.size) (hw : ∀ m ∈ d.weights Try.prog 24, m ≤ reachBytes) :
    ∃ ai ap ab an li ci lp cp lb cb ln cn inn pin bytes next room need, GivenIs W v ai ap ab an li ci lp cp lb cb ln cn inn pin bytes next room need := by
  obtain ⟨cs, rfl, hsz⟩ := okWide_struct Try.underlying24 hv
  obtain ⟨c0, c1, c2, c3, c4, c5, rfl⟩ := array6 (hsz.trans Try.cells24)
  obtain ⟨fuel, hf⟩ := h
  obtain ⟨xs, n, _, hx, hl, hlen, hfs⟩ := DataW.trod_struct Try.underlying24 hf
  match xs, hlen with
  | [y0, y1, y2, y3, y4, y5], _ =>
    simp only [Prod.mk.injEq] at hx
    obtain ⟨rfl, rfl⟩ := hx
    have f0 : DataW.trod enc Try.prog W 0 (fun _ => true) true n 22 [c0] = some y0 := by simpa [Value.cells, Try.cells22, Try.cells3] using hfs 0 _ rfl
    have f1 : DataW.trod enc Try.prog W 0 (fun _ => true) true n 22 [c1] = some y1 := by simpa [Value.cells, Try.cells22, Try.cells3] using hfs 1 _ rfl
    have f2 : DataW.trod enc Try.prog W 0 (fun _ => true) true n 3 [c2] = some y2 := by simpa [Value.cells, Try.cells22, Try.cells3] using hfs 2 _ rfl
    have f3 : DataW.trod enc Try.prog W 0 (fun _ => true) true n 3 [c3] = some y3 := by simpa [Value.cells, Try.cells22, Try.cells3] using hfs 3 _ rfl
    have f4 : DataW.trod enc Try.prog W 0 (fun _ => true) true n 22 [c4] = some y4 := by simpa [Value.cells, Try.cells22, Try.cells3] using hfs 4 _ rfl
    have f5 : DataW.trod enc Try.prog W 0 (fun _ => true) true n 22 [c5] = some y5 := by simpa [Value.cells, Try.cells22, Try.cells3] using hfs 5 _ rfl
    simp only [List.flatMap_cons, List.flatMap_nil, List.append_nil, List.mem_append] at hlt
    simp only [DataW.weights, Try.underlying24, DataW.weightsEach, List.map_cons, List.map_nil, List.mem_append] at hw
    obtain ⟨ai, li, ci, inn, e0, i0, r0⟩ := ints_of_trod f0 (fun x hx => hlt x (by simp [hx])) (fun m hm => hw m (by simp [hm]))
    obtain ⟨ap, lp, cp, pin, e1, i1, r1⟩ := ints_of_trod f1 (fun x hx => hlt x (by simp [hx])) (fun m hm => hw m (by simp [hm]))
    obtain ⟨room, e2, _, w2⟩ := DataW.trod_int Try.underlying3 f2
    obtain ⟨need, e3, _, w3⟩ := DataW.trod_int Try.underlying3 f3
    obtain ⟨ab, lb, cb, bytes, e4, i4, r4⟩ := ints_of_trod f4 (fun x hx => hlt x (by simp [hx])) (fun m hm => hw m (by simp [hm]))
    obtain ⟨an, ln, cn, next, e5, i5, r5⟩ := ints_of_trod f5 (fun x hx => hlt x (by simp [hx])) (fun m hm => hw m (by simp [hm]))
    simp only [List.cons.injEq, and_true] at e0 e1 e2 e3 e4 e5
    subst e0; subst e1; subst e2; subst e3; subst e4; subst e5
    exact ⟨ai, ap, ab, an, li, ci, lp, cp, lb, cb, ln, cn, inn, pin, bytes, next, room, need, rfl, i0, i1, i4, i5, r0, r1, r4, r5, wf_bounds w2, wf_bounds w3⟩
end

end Go.Proofs.Ytgmagldbfajedaa
