/-
  One text out of: GrShapesP, GrLaws, GrShapesW, GrUses, GrLaws2, GrSizes.
-/
import Derived.Test.YtgmagldbfajedaaGrShape
import Derived.Test.YtgmagldbfajedaaBe
import Derived.Test.YtgmagldbfajedaaBa
import Derived.Test.YtgmagldbfajedaaBf
/- GrShapesP: What graphs.Shapes calls, besides shape: contracts shapes1_any (its test), clipG_any; look-ups of a kind that is none; plain lemmas for its loop.
-/
namespace Go.Proofs.Ytgmagldbfajedaa
open Go.RowKit Go.MapKept

theorem clipG_any (a : Option Addr) (len cap : Nat) (w : World) (h1 : len ≤ cap) (h2 : cap ≤ 9223372036854775807) (h3 : a = none → len = 0 ∧ cap = 0) :
    Calls Try.prog 74 #[.slice a len cap] w fun e w' => e = .returned (.slice a len len) ∧ w = w' := by
  cases a with
  | none =>
    obtain ⟨rfl, rfl⟩ := h3 rfl
    go_enter Try.func74, Try.ntmps74
    go_wp2
    go_ret
    exact ⟨rfl, rfl⟩
  | some x =>
    clear h3
    go_enter Try.func74, Try.ntmps74
    go_wp2
    go_ret
    exact ⟨rfl, rfl⟩

/-- Is a number that of no node ahead? -/
def outK (k : Nat) (n : Int) : Bool := decide (n < 0) || decide ((k : Int) ≤ n)

theorem shapes1_any (g k : Nat) (n : Int) (w : World) (hc : w.cell? ⟨g, 0, none⟩ = some (.int .i64 k)) : Calls Try.prog 71 #[.int .i64 n, .pointer (some ⟨g, 0, none⟩)] w fun e w' => e = .returned (.bool (outK k n)) ∧ w' = w := by
  by_cases c : n < 0
  · have d1 : decide (n < 0) = true := decide_eq_true c
    have HR := Lib.hid (show outK k n = true by unfold outK; rw [d1]; rfl)
    go_enter Try.func71, Try.ntmps71
    go_wp2
    go_ret
    exact ⟨by rw [HR.out]; rfl, rfl⟩
  · have d1 : decide (n < 0) = false := decide_eq_false c
    have HR := Lib.hid (show outK k n = decide ((k : Int) ≤ n) by unfold outK; rw [d1]; rfl)
    go_enter Try.func71, Try.ntmps71
    go_wp2
    go_ret
    exact ⟨by rw [HR.out]; rfl, rfl⟩

theorem okIn_any (x : Gr.Node) (k : Nat) : Gr.okIn x k = !anyB (outK k) x.inn := by
  unfold Gr.okIn anyB
  rw [Bool.eq_iff_iff]
  simp only [List.all_eq_true, Bool.and_eq_true, decide_eq_true_eq, Bool.not_eq_true', List.any_eq_false, outK, Bool.or_eq_true]
  constructor
  · intro h v hv hn
    have := h v hv
    omega
  · intro h v hv
    have := h v hv
    omega

theorem predAt_out (g k : Nat) (B : World) (hg : g < B.heap.size) (hc : B.cell? ⟨g, 0, none⟩ = some (.int .i64 k)) : PredAt 71 #[.pointer (some ⟨g, 0, none⟩)] (outK k) B := fun w hw x _ _ =>
  (shapes1_any g k x w ((hw.cell (p := ⟨g, 0, none⟩) hg).trans hc)).mono fun e w' ⟨he, hw'⟩ => ⟨he, by rw [hw']; exact Below.refl _ _⟩

theorem run_zero100 (w : World) : (zeroValue 100).run Try.prog w = .ok (.agg #[.int .i64 0, .int .i64 0, .int .i64 0, .int .i64 0, .int .i64 0, .int .i64 0]) w := Try.zeroValue100 w

/-- What is looked up where there is no such kind. -/
theorem KindsMap.absent {w : World} {r : Nat} (h : KindsMap w r) {k : Int} (hk : Gr.kindOf k = none) :
    (Instr.lookup 95 (.map (some r)) (.int .u8 k) true).run Try.prog w = .ok (.tuple #[.agg #[.int .i64 0, .int .i64 0, .int .i64 0, .int .i64 0, .int .i64 0, .int .i64 0], .bool false]) w := by
  obtain ⟨es, clock, h1, h2, h3⟩ := h
  have hkey := isKey_u8 k
  rcases findNow_spec hkey es.toList 0 (fun e he => by obtain ⟨j, _, hj, _⟩ := h2 e he; rw [hj]; exact isKey_u8 j) with ⟨hf, _⟩ | ⟨j, e, hf, hj, he⟩
  · simp [Instr.lookup, run_underlying Try.under95, Go.MapKept.run_getObj_map h1, run_checkKey Try.under44 hkey, run_findKey Try.under44 hf, Result.andThen]
  · obtain ⟨k', kd', hk1, hk2, hv⟩ := h2 e (List.mem_of_getElem? hj)
    rw [he] at hk1
    simp only [Value.int.injEq, true_and] at hk1
    subst hk1
    rw [hk] at hk2
    cases hk2

namespace Gr
theorem inputs_snoc (g : List Node) (k : Nat) (hk : k < g.length) : inputs (g.take (k + 1)) = inputs (g.take k) + if (nodeN g k).kind = 1 then 1 else 0 := by
  rw [List.take_succ_eq_append_getElem hk, inputs_append, nodeN_eq g k hk]; rfl
theorem shapes_fail {g : List Node} {k : Nat} (hk : k < g.length) {M : List (List Int)} (h : run [] (g.take k) = some M) (hs : step M (nodeN g k) = none) : shapes g = none := by
  have := run_fail hk h (by rw [← nodeN_eq g k hk]; exact hs)
  unfold shapes
  split
  · rfl
  · rw [this]
theorem run_more' {g : List Node} {k : Nat} (hk : k < g.length) {M : List (List Int)} {s : List Int} (h : run [] (g.take k) = some M) (hs : step M (nodeN g k) = some s) : run [] (g.take (k + 1)) = some (M ++ [s]) :=
  run_more hk h (by rw [← nodeN_eq g k hk]; exact hs)
end Gr
end Go.Proofs.Ytgmagldbfajedaa

/- GrLaws: Plain Lean: what the laws of chapter 10 say, of the plain shapes.
-/
namespace Go.Proofs.Ytgmagldbfajedaa
namespace Gr

theorem shapes_iff {g : List Node} {s : List (List Int)} : shapes g = some s ↔ (1 ≤ g.length ∧ g.length ≤ 32) ∧ run [] g = some s ∧ inputs g = 1 ∧ endB g = true := by
  unfold shapes
  constructor
  · intro h
    split at h
    · cases h
    · rename_i hl
      split at h
      · cases h
      · rename_i L hr
        split at h
        · rename_i hc
          cases h
          exact ⟨by omega, hr, hc.1, hc.2⟩
        · cases h
  · rintro ⟨hl, hr, h1, h2⟩
    rw [if_neg (by omega), hr]
    simp only
    rw [if_pos ⟨h1, h2⟩]

theorem endB_take {g : List Node} {n : Nat} (h1 : 1 ≤ n) (hn : n ≤ g.length) : endB (g.take n) = decide ((nodeN g (n - 1)).kind ≠ 1 ∧ (nodeN g (n - 1)).kind ≠ 2) := by
  obtain ⟨m, rfl⟩ : ∃ m, n = m + 1 := ⟨n - 1, by omega⟩
  unfold endB
  rw [List.take_succ_eq_append_getElem (by omega), List.getLast?_append, nodeN_eq g _ (by omega)]
  simp

theorem endB_snoc (g : List Node) (x : Node) : endB (g ++ [x]) = decide (x.kind ≠ 1 ∧ x.kind ≠ 2) := by
  unfold endB; simp

theorem shapes_len {g : List Node} {s : List (List Int)} (h : shapes g = some s) : s.length = g.length := by
  have := run_length _ _ _ (shapes_iff.1 h).2.1
  simpa using this

theorem shapes_chk {g : List Node} {s : List (List Int)} (h : shapes g = some s) (i : Nat) (hi : i < s.length) : chk (rowL s i) = true :=
  run_chk _ _ _ (shapes_iff.1 h).2.1 (fun _ h => by cases h) _ (rowL_mem s i hi)

/-- A beginning of a graph that may be. -/
theorem shapes_take {g : List Node} {s : List (List Int)} (h : shapes g = some s) {n : Nat} (h1 : 1 ≤ n) (hn : n ≤ g.length) :
    shapes (g.take n) = if inputN g < n ∧ (nodeN g (n - 1)).kind ≠ 1 ∧ (nodeN g (n - 1)).kind ≠ 2 then some (s.take n) else none := by
  obtain ⟨hl, hr, hi, he⟩ := shapes_iff.1 h
  unfold shapes
  rw [if_neg (by rw [List.length_take]; omega), run_prefix hr n hn]
  simp only
  have h2 := inputs_one g n hi
  have h3 := endB_take h1 hn
  by_cases c1 : inputN g < n
  · by_cases c2 : (nodeN g (n - 1)).kind ≠ 1 ∧ (nodeN g (n - 1)).kind ≠ 2
    · rw [if_pos ⟨h2.2 c1, by rw [h3]; exact decide_eq_true c2⟩, if_pos ⟨c1, c2⟩]
    · rw [if_neg (fun e => c2 (by rw [h3] at e; exact of_decide_eq_true e.2)), if_neg (fun e => c2 e.2)]
  · rw [if_neg (fun e => c1 (h2.1 e.1)), if_neg (fun e => c1 e.1)]

/-- One node more, behind a graph that may be. -/
theorem shapes_snoc {g : List Node} {s : List (List Int)} (h : shapes g = some s) {x : Node} (h1 : x.kind ≠ 1) (h2 : x.kind ≠ 2) :
    shapes (g ++ [x]) = if g.length < 32 then (match step s x with | none => none | some t => some (s ++ [t])) else none := by
  obtain ⟨hl, hr, hi, he⟩ := shapes_iff.1 h
  unfold shapes
  have hin : inputs (g ++ [x]) = 1 := by rw [inputs_append]; simp [inputs, hi, h1]
  have hen : endB (g ++ [x]) = true := by rw [endB_snoc]; exact decide_eq_true ⟨h1, h2⟩
  by_cases c : g.length < 32
  · rw [if_neg (by simp; omega), if_pos c, run_snoc, hr]
    simp only
    cases step s x with
    | none => rfl
    | some t => simp only [hin, hen, and_self, if_true]
  · rw [if_pos (by simp; omega), if_neg c]

theorem shapes_snoc_end {g : List Node} {x : Node} (h : x.kind = 1 ∨ x.kind = 2) : shapes (g ++ [x]) = none := by
  cases hs : shapes (g ++ [x]) with
  | none => rfl
  | some s =>
    have := (shapes_iff.1 hs).2.2.2
    rw [endB_snoc] at this
    have := of_decide_eq_true this
    omega

theorem rowAt_nat (L : List (List Int)) (k : Nat) : rowAt L (k : Int) = rowL L k := by unfold rowAt rowL; rfl

/-- What is known of each node of a graph that may be. -/
theorem run_node {g : List Node} {s : List (List Int)} (h : run [] g = some s) (i : Nat) (hi : i < g.length) :
    ∃ k, kindOf (nodeN g i).kind = some k ∧ ofB k (nodeN g i) = true ∧ okIn (nodeN g i) i = true ∧ rowL s i = shapeOf (nodeN g i) (s.take i) := by
  have hp := run_prefix h i (by omega)
  have hp1 := run_prefix h (i + 1) (by omega)
  have hl := run_length _ _ _ h
  simp only [List.length_nil, Nat.zero_add] at hl
  rw [List.take_succ_eq_append_getElem hi, run_snoc, hp] at hp1
  simp only at hp1
  cases hs : step (s.take i) g[i] with
  | none => rw [hs] at hp1; cases hp1
  | some t =>
    rw [hs] at hp1
    simp only [Option.some.injEq] at hp1
    obtain ⟨k, h1, h2, h3, h4, h5⟩ := step_some hs
    rw [nodeN_eq g i hi]
    refine ⟨k, h1, h2, by simpa [List.length_take, Nat.min_eq_left (show i ≤ s.length by omega)] using h3, ?_⟩
    rw [← h5]
    have h6 : rowL (s.take (i + 1)) i = t := by
      rw [← hp1]
      have := rowL_snoc_last (s.take i) t
      rwa [List.length_take, Nat.min_eq_left (by omega)] at this
    rw [← h6]
    unfold rowL
    simp only [List.getD_eq_getElem?_getD, List.getElem?_take, Nat.lt_succ_self, if_true]

/-- A node of relu. -/
theorem step_relu {s : List (List Int)} (hs : ∀ t ∈ s, chk t = true) (inn : List Int) (n : Int) :
    step s ⟨5, inn, [], n, 0⟩ = match inn with
      | [k] => if 0 ≤ k ∧ k < s.length ∧ n = 0 then some (rowAt s k) else none
      | _ => none := by
  rw [step_eq (k := ⟨1, 1, 0, 0, 0, 0⟩) rfl]
  match inn with
  | [] => rfl
  | [k] =>
    simp only
    by_cases c : 0 ≤ k ∧ k < s.length ∧ n = 0
    · rw [if_pos c, if_pos]
      · simp [shapeOf, nth]
      · obtain ⟨c1, c2, c3⟩ := c
        subst c3
        refine ⟨rfl, by simp [okIn]; omega, ?_⟩
        have : k.toNat < s.length := by omega
        have h1 := hs _ (rowL_mem s k.toNat this)
        simpa [shapeOf, nth, rowAt, rowL] using h1
    · rw [if_neg c, if_neg]
      rintro ⟨h1, h2, h3⟩
      obtain ⟨_, _, h4, h5, _⟩ := ofB_parts h1
      simp only at h4 h5
      simp [okIn] at h2
      exact c ⟨by omega, by omega, by omega⟩
  | a :: b :: r =>
    simp only
    rw [if_neg]
    rintro ⟨h1, _⟩
    have h2 := (ofB_parts h1).2.1
    simp only [List.length_cons] at h2
    omega

theorem step_shift {s : List (List Int)} (hs : ∀ t ∈ s, chk t = true) (k n : Int) (h0 : 0 ≤ k) (h1 : k < s.length) :
    step s ⟨6, [k], [], n, 0⟩ = if 0 ≤ n ∧ n ≤ 31 then some (rowAt s k) else none := by
  rw [step_eq (k := ⟨1, 1, 0, 31, 0, 0⟩) rfl]
  by_cases c : 0 ≤ n ∧ n ≤ 31
  · rw [if_pos c, if_pos]
    · simp [shapeOf, nth]
    · refine ⟨?_, by simp [okIn]; omega, ?_⟩
      · unfold ofB
        rw [if_neg (by simp; omega)]
        rfl
      · have : k.toNat < s.length := by omega
        have h1 := hs _ (rowL_mem s k.toNat this)
        simpa [shapeOf, nth, rowAt, rowL] using h1
  · rw [if_neg c, if_neg]
    rintro ⟨h1, h2, h3⟩
    obtain ⟨_, _, h4, h5, _⟩ := ofB_parts h1
    simp only at h4 h5
    exact c ⟨h4, h5⟩

end Gr
end Go.Proofs.Ytgmagldbfajedaa

/- GrShapesW: graphs.Shapes: contract gshapes_any.
-/
namespace Go.Proofs.Ytgmagldbfajedaa
open Go.RowKit

/-- What graphs.Shapes answers. -/
def ShapesE (w : World) (g : List Gr.Node) (e : Ending) (w' : World) : Prop :=
  Below w.heap.size w w' ∧ ((Gr.shapes g = none ∧ e = .returned (.tuple #[.slice none 0 0, .int .i64 1])) ∨ ∃ s a len, Gr.shapes g = some s ∧ e = .returned (.tuple #[.slice a len len, .int .i64 0]) ∧ Grid w' a len len s)

set_option maxHeartbeats 4000000 in
set_option maxRecDepth 100000 in
theorem gshapes_any (a : Option Addr) (len cap : Nat) (g : List Gr.Node) (w : World) (HN : Nodes w a len cap g) :
    Calls Try.prog 33 #[.agg #[.slice a len cap]] w fun e w' => ShapesE w g e w' := by
  have KN := Lib.hid HN
  have LN := Lib.hid HN.length
  have hle := HN.le
  have hcl := HN.cap_le
  clear HN
  by_cases c1 : len < 1
  · have d1 : decide ((len : Int) < 1) = true := decide_eq_true (by omega)
    have HR := Lib.hid (show Gr.shapes g = none by unfold Gr.shapes; rw [if_pos (.inl (by rw [LN.out]; exact c1))])
    clear c1
    go_enter Try.func33, Try.ntmps33
    go_wp2
    go_ret2
    exact ⟨(Below.refl _ _).alloc (Nat.le_refl _) _, .inl ⟨HR.out, rfl⟩⟩
  · have d1 : decide ((len : Int) < 1) = false := decide_eq_false (by omega)
    by_cases c2 : 32 < len
    · have d2 : decide ((len : Int) > 32) = true := decide_eq_true (by omega)
      have HR := Lib.hid (show Gr.shapes g = none by unfold Gr.shapes; rw [if_pos (.inr (by rw [LN.out]; exact c2))])
      clear c1 c2
      go_enter Try.func33, Try.ntmps33
      go_wp2
      go_ret2
      exact ⟨(Below.refl _ _).alloc (Nat.le_refl _) _, .inl ⟨HR.out, rfl⟩⟩
    · have d2 : decide ((len : Int) > 32) = false := decide_eq_false (by omega)
      go_enter Try.func33, Try.ntmps33
      go_wp2_with fail
      refine (kinds_any _).mono ?_
      rintro e w2 ⟨r, rfl, hr, hK, hb⟩
      have HK := Lib.hid hK
      have HB2 : Hid (Below w.heap.size w w2) := ((Below.refl _ _).alloc (Nat.le_refl _) _).trans (hb.mono (by simp))
      have hz2 : w.heap.size < w2.heap.size := by have := hb.size; simp at this; omega
      have hrz : r < w2.heap.size := by obtain ⟨es, clock, h1, _⟩ := hK; exact (Array.getElem?_eq_some_iff.1 h1).1
      have b0 : w2.cell? ⟨w.heap.size, 0, none⟩ = some (.slice a len cap) := by rw [hb.cell (p := ⟨w.heap.size, 0, none⟩) (by simp), World.cell?_alloc_at _ _ _ _ rfl]; rfl
      clear hK hb hr
      go_wp2
      go_loopg [7, 28] len (fun gg u i wr => ∃ (k : Nat) (L : List (List Int)) (v : Value), k ≤ len ∧ len - k ≤ gg ∧ i = .int .i64 k ∧ u = .int .i64 (Gr.inputs (g.take k) : Nat) ∧ Hid (Gr.run [] (g.take k) = some L) ∧
        Hid (wr.cell? ⟨w2.heap.size, 0, none⟩ = some v) ∧ Hid (wr.frozen? ⟨w2.heap.size, 0, none⟩ = false) ∧ Hid (OwnD (fun b => w2.heap.size < b) (w2.heap.size + 1) wr v L) ∧ Hid (Below w2.heap.size w2 wr) ∧ Hid (w2.heap.size < wr.heap.size))
      case atStart =>
        exact ⟨0, [], .slice none 0 0, Nat.zero_le _, by omega, rfl, rfl, rfl, by show _ = _; rw [World.cell?_alloc_at _ _ _ _ rfl]; rfl, World.frozen?_alloc_at _ _ _ _ rfl, OwnD.nil _ _ _, (Below.refl _ _).alloc (Nat.le_refl _) _, by show _ < _; simp⟩
      case round =>
        obtain ⟨k, L, v, hk, hg, rfl, rfl, HR, HC, HF, HO, HWr, HZ⟩ := hrel
        have HW : Hid (Below w.heap.size w wr) := HB2.out.trans (HWr.out.mono (by omega))
        by_cases hlt : k < len
        · obtain ⟨b, off, rfl, hbl, hcs⟩ := KN.out.at_ (by omega)
          obtain ⟨ai, li, ci, sa, ls, cs, h0, h1, h2, h3, h4, hV⟩ := hcs k hlt
          have HV : Hid (NodeV wr ai li ci sa ls cs ⟨(nodeN g k).kind, (nodeN g k).inn, (nodeN g k).shape, (nodeN g k).n, (nodeN g k).pad⟩) := hV.below HW.out
          have n0 := (HW.out.cell (p := ⟨b, off + k * 5, none⟩) hbl).trans h0
          have n1 := (HW.out.cell (p := ⟨b, off + k * 5 + 1, none⟩) hbl).trans h1
          have n2 := (HW.out.cell (p := ⟨b, off + k * 5 + 2, none⟩) hbl).trans h2
          have n3 := (HW.out.cell (p := ⟨b, off + k * 5 + 3, none⟩) hbl).trans h3
          have n4 := (HW.out.cell (p := ⟨b, off + k * 5 + 4, none⟩) hbl).trans h4
          have hkd := hV.kind
          clear hcs h0 h1 h2 h3 h4 hV
          have HX : Hid (nodeN g k = ⟨(nodeN g k).kind, (nodeN g k).inn, (nodeN g k).shape, (nodeN g k).n, (nodeN g k).pad⟩) := rfl
          generalize (nodeN g k).kind = kd at *
          generalize (nodeN g k).n = nn at *
          generalize (nodeN g k).pad = pad at *
          have HB3 : Hid (Below wr.heap.size wr ((wr.alloc (.cells #[.int .i64 k] 3)).alloc (.cells #[.int .u8 kd, .slice ai li ci, .slice sa ls cs, .int .i64 nn, .int .i64 pad] 46))) := ((Below.refl _ _).alloc (Nat.le_refl _) _).alloc (by simp) _
          have hz3 : ((wr.alloc (.cells #[.int .i64 k] 3)).alloc (.cells #[.int .u8 kd, .slice ai li ci, .slice sa ls cs, .int .i64 nn, .int .i64 pad] 46)).heap.size = wr.heap.size + 2 := by simp
          have i0 : ((wr.alloc (.cells #[.int .i64 k] 3)).alloc (.cells #[.int .u8 kd, .slice ai li ci, .slice sa ls cs, .int .i64 nn, .int .i64 pad] 46)).cell? ⟨wr.heap.size, 0, none⟩ = some (.int .i64 k) := Lib.cell?_alloc_some _ (by rw [World.cell?_alloc_at _ _ _ _ rfl]; rfl)
          have x0 : ((wr.alloc (.cells #[.int .i64 k] 3)).alloc (.cells #[.int .u8 kd, .slice ai li ci, .slice sa ls cs, .int .i64 nn, .int .i64 pad] 46)).cell? ⟨wr.heap.size + 1, 0, none⟩ = some (.int .u8 kd) := by rw [World.cell?_alloc_at _ _ _ _ (by simp)]; rfl
          have x1 : ((wr.alloc (.cells #[.int .i64 k] 3)).alloc (.cells #[.int .u8 kd, .slice ai li ci, .slice sa ls cs, .int .i64 nn, .int .i64 pad] 46)).cell? ⟨wr.heap.size + 1, 1, none⟩ = some (.slice ai li ci) := by rw [World.cell?_alloc_at _ _ _ _ (by simp)]; rfl
          have x2 : ((wr.alloc (.cells #[.int .i64 k] 3)).alloc (.cells #[.int .u8 kd, .slice ai li ci, .slice sa ls cs, .int .i64 nn, .int .i64 pad] 46)).cell? ⟨wr.heap.size + 1, 2, none⟩ = some (.slice sa ls cs) := by rw [World.cell?_alloc_at _ _ _ _ (by simp)]; rfl
          have x3 : ((wr.alloc (.cells #[.int .i64 k] 3)).alloc (.cells #[.int .u8 kd, .slice ai li ci, .slice sa ls cs, .int .i64 nn, .int .i64 pad] 46)).cell? ⟨wr.heap.size + 1, 3, none⟩ = some (.int .i64 nn) := by rw [World.cell?_alloc_at _ _ _ _ (by simp)]; rfl
          have x4 : ((wr.alloc (.cells #[.int .i64 k] 3)).alloc (.cells #[.int .u8 kd, .slice ai li ci, .slice sa ls cs, .int .i64 nn, .int .i64 pad] 46)).cell? ⟨wr.heap.size + 1, 4, none⟩ = some (.int .i64 pad) := by rw [World.cell?_alloc_at _ _ _ _ (by simp)]; rfl
          have I0 := Lib.hid i0
          have X0 := Lib.hid x0
          have X1 := Lib.hid x1
          have X2 := Lib.hid x2
          have X3 := Lib.hid x3
          have X4 := Lib.hid x4
          have Z3 := Lib.hid hz3
          clear i0 x0 x1 x2 x3 x4 hz3
          generalize (nodeN g k).inn = inn at *
          generalize (nodeN g k).shape = shp at *
          go_wp2_with fail
          generalize ((wr.alloc (.cells #[.int .i64 k] 3)).alloc (.cells #[.int .u8 kd, .slice ai li ci, .slice sa ls cs, .int .i64 nn, .int .i64 pad] 46)) = w3 at *
          have i0 := I0.out
          have x0 := X0.out
          have x1 := X1.out
          have x2 := X2.out
          have x3 := X3.out
          have x4 := X4.out
          have hz3 := Z3.out
          clear n0 n1 n2 n3 n4 I0 X0 X1 X2 X3 X4 Z3
          have HK3 := Lib.hid ((HK.out.below HWr.out).below HB3.out)
          cases hkk : Gr.kindOf kd with
          | none =>
            have hlk := HK3.out.absent hkk
            have HST : Hid (Gr.shapes g = none) := Gr.shapes_fail (by rw [LN.out]; exact hlt) HR.out (by rw [HX.out]; unfold Gr.step; simp only [hkk])
            clear hkk
            rw [hlk]
            go_wp2
            go_ret2
            exact ⟨HW.out.trans ((HB3.out.mono HW.out.size).alloc (by have := HW.out.size; omega) _), .inl ⟨HST.out, rfl⟩⟩
          | some kk =>
            have hlk := (HK3.out.there hkk).1
            simp only [kindV] at hlk
            have HKK := Lib.hid hkk
            rw [hlk]
            go_wp2_with fail
            refine (kindof_any kk.least kk.most kk.low kk.high kk.around kk.shaped kd nn pad ai sa li ci ls cs inn shp _ ((HV.out.i.below HB3.out).alloc _) ((HV.out.s.below HB3.out).alloc _)).mono ?_
            rintro e w4 ⟨rfl, hb4⟩
            have HB4 : Hid (Below w3.heap.size w3 w4) := ((Below.refl _ _).alloc (Nat.le_refl _) _).trans (hb4.mono (by simp))
            clear hb4
            cases ho : Gr.ofB ⟨kk.least, kk.most, kk.low, kk.high, kk.around, kk.shaped⟩ ⟨kd, inn, shp, nn, pad⟩ with
            | false =>
              have HST : Hid (Gr.shapes g = none) := Gr.shapes_fail (by rw [LN.out]; exact hlt) HR.out (by rw [HX.out, Gr.step_eq hkk, if_neg (fun h => by rw [show Gr.ofB kk ⟨kd, inn, shp, nn, pad⟩ = false from ho] at h; cases h.1)])
              clear ho hkk
              go_wp2
              go_ret2
              exact ⟨HW.out.trans ((HB3.out.trans (HB4.out.mono (by omega))).mono HW.out.size), .inl ⟨HST.out, rfl⟩⟩
            | true =>
              have ho : Gr.ofB kk ⟨kd, inn, shp, nn, pad⟩ = true := ho
              have y1 := (HB4.out.cell (p := ⟨wr.heap.size + 1, 1, none⟩) (show wr.heap.size + 1 < w3.heap.size by omega)).trans x1
              have HPr := Lib.hid (predAt_out wr.heap.size k w4 (by have := HB4.out.size; omega) ((HB4.out.cell (p := ⟨wr.heap.size, 0, none⟩) (show wr.heap.size < w3.heap.size by omega)).trans i0))
              have HI4 := Lib.hid ((HV.out.i.below HB3.out).below HB4.out)
              have hlen4 : L.length = k := by have := Gr.run_length _ _ _ HR.out; rw [List.length_take, LN.out] at this; simp at this; omega
              have HOK := Lib.hid (okIn_any ⟨kd, inn, shp, nn, pad⟩ k)
              go_wp2_with fail
              refine (containsFunc_any 71 _ (outK k) (enters_of Try.func71 (by kernel_rfl) rfl) _ _ _ inn _ HI4.out HPr.out).mono ?_
              rintro e w5 ⟨rfl, hb5⟩
              have HB45 : Hid (Below w3.heap.size w3 w5) := HB4.out.trans (hb5.mono HB4.out.size)
              clear hb5
              cases hany : anyB (outK k) inn with
              | true =>
                have HST : Hid (Gr.shapes g = none) := Gr.shapes_fail (by rw [LN.out]; exact hlt) HR.out (by
                  have h9 : Gr.okIn ⟨kd, inn, shp, nn, pad⟩ L.length = false := by rw [hlen4, HOK.out]; simp [hany]
                  rw [HX.out, Gr.step_eq hkk, if_neg (fun h => by rw [h9] at h; cases h.2.1)])
                clear ho hkk hany
                go_wp2
                go_ret2
                exact ⟨HW.out.trans ((HB3.out.trans (HB45.out.mono (by omega))).mono HW.out.size), .inl ⟨HST.out, rfl⟩⟩
              | false =>
                have hok : Gr.okIn ⟨kd, inn, shp, nn, pad⟩ L.length = true := by rw [hlen4, HOK.out]; simp [hany]
                have y0 := (HB45.out.cell (p := ⟨wr.heap.size + 1, 0, none⟩) (show wr.heap.size + 1 < w3.heap.size by omega)).trans x0
                have y2 := (HB45.out.cell (p := ⟨wr.heap.size + 1, 2, none⟩) (show wr.heap.size + 1 < w3.heap.size by omega)).trans x2
                have y3 := (HB45.out.cell (p := ⟨wr.heap.size + 1, 3, none⟩) (show wr.heap.size + 1 < w3.heap.size by omega)).trans x3
                have y4 := (HB45.out.cell (p := ⟨wr.heap.size + 1, 4, none⟩) (show wr.heap.size + 1 < w3.heap.size by omega)).trans x4
                clear y1
                have y1 := (HB45.out.cell (p := ⟨wr.heap.size + 1, 1, none⟩) (show wr.heap.size + 1 < w3.heap.size by omega)).trans x1
                have HB5 : Hid (Below wr.heap.size wr w5) := HB3.out.trans (HB45.out.mono (by omega))
                have hz5 : wr.heap.size + 2 ≤ w5.heap.size := by have := HB45.out.size; omega
                obtain ⟨aL, lL, cL, rfl, hG, _⟩ := (HO.out.below HB5.out).grid
                have HG5 := Lib.hid hG
                have HCK : Hid (∀ s ∈ L, Gr.chk s = true) := Gr.run_chk _ _ _ HR.out (fun _ h => by cases h)
                have t5 := (HB5.out.cell (p := ⟨w2.heap.size, 0, none⟩) HZ.out).trans HC.out
                clear hG hany x0 x1 x2 x3 x4 i0 hlk HK3
                have HIS := Lib.hid (Gr.inputs_snoc g k (by rw [LN.out]; exact hlt))
                have hinb : Gr.inputs (g.take k) ≤ k := Nat.le_trans (Gr.inputs_le_length (g.take k)) (List.length_take_le _ _)
                rw [HX.out] at HIS
                by_cases hI : kd = 1
                · have dI : (kd == 1) = true := by simp [hI]
                  have HINS : Hid (Value.int IntKind.i64 (((Gr.inputs (g.take k) : Nat) : Int) + 1) = Value.int IntKind.i64 ((Gr.inputs (g.take (k + 1)) : Nat) : Int)) := by
                    show _ = _
                    rw [HIS.out, if_pos hI]; rfl
                  clear hI
                  go_wp2_with fail
                  refine (shape_any ai sa aL li ci ls cs lL cL kd nn pad inn shp kk L _ (HV.out.below HB5.out) (HG5.out) hkk ho hok HCK.out).mono ?_
                  rintro e w6 ⟨a6, n6, rfl, hI6, hfr6, hb6⟩
                  have HI6 := Lib.hid hI6
                  have HB6 : Hid (Below wr.heap.size wr w6) := HB5.out.trans (hb6.mono HB5.out.size)
                  have HFR6 : Hid (∀ p, a6 = some p → wr.heap.size ≤ p.block) := fun p hp => Nat.le_trans HB5.out.size (hfr6 p hp)
                  have hz6 : wr.heap.size ≤ w6.heap.size := HB6.out.size
                  have t6 := (HB6.out.cell (p := ⟨w2.heap.size, 0, none⟩) HZ.out).trans HC.out
                  have q6 := (HB6.out.frozen (p := ⟨w2.heap.size, 0, none⟩) HZ.out).trans HF.out
                  have x0 := (hb6.cell (p := ⟨wr.heap.size + 1, 0, none⟩) (show wr.heap.size + 1 < w5.heap.size by omega)).trans y0
                  clear hI6 hb6 hfr6 y0 y1 y2 y3 y4 t5
                  cases hch : Gr.chk (Gr.shapeOf ⟨kd, inn, shp, nn, pad⟩ L) with
                  | false =>
                    have HST : Hid (Gr.shapes g = none) := Gr.shapes_fail (by rw [LN.out]; exact hlt) HR.out (by rw [HX.out, Gr.step_eq hkk, if_neg (fun h => by rw [h.2.2] at hch; cases hch)])
                    have HCH := Lib.hid hch
                    clear hch ho hok
                    go_wp2_with fail
                    refine (check_any _ _ _ _ _ HI6.out).mono ?_
                    rintro e w7 ⟨rfl, rfl⟩
                    rw [HCH.out]
                    go_wp2
                    go_ret2
                    exact ⟨HW.out.trans (HB6.out.mono HW.out.size), .inl ⟨HST.out, rfl⟩⟩
                  | true =>
                    have HR2 : Hid (Gr.run [] (g.take (k + 1)) = some (L ++ [Gr.shapeOf ⟨kd, inn, shp, nn, pad⟩ L])) := Gr.run_more' (by rw [LN.out]; exact hlt) HR.out (by rw [HX.out, Gr.step_eq hkk, if_pos ⟨ho, hok, hch⟩])
                    have HCH := Lib.hid hch
                    have hLl : L.length = k := by have := Gr.run_length _ _ _ HR.out; rw [List.length_take, LN.out] at this; simp at this; omega
                    have HO6 := Lib.hid (HO.out.below HB6.out)
                    clear hch ho hok
                    generalize Gr.shapeOf ⟨kd, inn, shp, nn, pad⟩ L = S at *
                    go_wp2_with fail
                    refine (check_any _ _ _ S _ HI6.out).mono ?_
                    rintro e w7 ⟨rfl, rfl⟩
                    rw [HCH.out]
                    go_wp2_with (at_builtin; go_must (refine wpList_appD _ rfl _ _ rfl (w2.heap.size + 1) _ L a6 n6 n6 S HO6.out HI6.out ?q1 rfl rfl ?q2 ?q3 ?_))
                    case q1 =>
                      intro p hp h0
                      have h1 := HFR6.out p hp
                      refine ⟨fun e => ?_, by have := HZ.out; omega⟩
                      have h2 := (HO.out.lt _ e.symm).2
                      omega
                    case q2 => have := HZ.out; omega
                    case q3 => omega
                    intro v' w8 hown' hbel hgrow
                    obtain ⟨av, lv, cv, rfl, _, _⟩ := hown'.grid
                    have HZ8 : Hid (w2.heap.size < w8.heap.size) := Nat.lt_of_lt_of_le (Nat.lt_of_lt_of_le HZ.out hz6) hbel.size
                    have t8 := (hbel.cell (p := ⟨w2.heap.size, 0, none⟩) (by simp)).trans t6
                    have q8 := (hbel.frozen (p := ⟨w2.heap.size, 0, none⟩) (by simp)).trans q6
                    have HO8 := Lib.hid (hown'.store w2.heap.size 0 (.slice av lv cv) (by omega) (fun b hb => by omega))
                    have HW8 : Hid (Below w2.heap.size w2 (w8.setCell ⟨w2.heap.size, 0, none⟩ (.slice av lv cv))) := below_setCell ((HWr.out.trans (HB6.out.mono (by have := HZ.out; omega))).trans (hbel.mono (by omega))) _ _ _ (Nat.le_refl _)
                    have HC8 : Hid ((w8.setCell ⟨w2.heap.size, 0, none⟩ (.slice av lv cv)).cell? ⟨w2.heap.size, 0, none⟩ = some (.slice av lv cv)) := World.cell?_setCell_same _ _ _ t8
                    have HF8 : Hid ((w8.setCell ⟨w2.heap.size, 0, none⟩ (.slice av lv cv)).frozen? ⟨w2.heap.size, 0, none⟩ = false) := by show _ = _; rw [World.frozen?_setCell]; exact q8
                    have HZ9 : Hid (w2.heap.size < (w8.setCell ⟨w2.heap.size, 0, none⟩ (.slice av lv cv)).heap.size) := by show _ < _; simp [World.setCell]; exact HZ8.out
                    clear hown' hbel hgrow t6 q6
                    go_wp2
                    go_roundg (len - (k + 1))
                    case measure => exact Nat.lt_of_lt_of_le (Nat.sub_lt_sub_left hlt (Nat.lt_succ_self k)) hg
                    case rel => exact ⟨k + 1, L ++ [S], .slice av lv cv, Nat.succ_le_of_lt hlt, Nat.le_refl _, by go_num, by first | exact HINS.out | (rw [← HINS.out]; go_num), HR2, HC8, HF8, HO8, HW8, HZ9⟩
                · have dI : (kd == 1) = false := by simp [hI]
                  have HINS : Hid (Gr.inputs (g.take k) = Gr.inputs (g.take (k + 1))) := by
                    show _ = _
                    rw [HIS.out, if_neg hI]; rfl
                  clear hI
                  go_wp2_with fail
                  refine (shape_any ai sa aL li ci ls cs lL cL kd nn pad inn shp kk L _ (HV.out.below HB5.out) (HG5.out) hkk ho hok HCK.out).mono ?_
                  rintro e w6 ⟨a6, n6, rfl, hI6, hfr6, hb6⟩
                  have HI6 := Lib.hid hI6
                  have HB6 : Hid (Below wr.heap.size wr w6) := HB5.out.trans (hb6.mono HB5.out.size)
                  have HFR6 : Hid (∀ p, a6 = some p → wr.heap.size ≤ p.block) := fun p hp => Nat.le_trans HB5.out.size (hfr6 p hp)
                  have hz6 : wr.heap.size ≤ w6.heap.size := HB6.out.size
                  have t6 := (HB6.out.cell (p := ⟨w2.heap.size, 0, none⟩) HZ.out).trans HC.out
                  have q6 := (HB6.out.frozen (p := ⟨w2.heap.size, 0, none⟩) HZ.out).trans HF.out
                  have x0 := (hb6.cell (p := ⟨wr.heap.size + 1, 0, none⟩) (show wr.heap.size + 1 < w5.heap.size by omega)).trans y0
                  clear hI6 hb6 hfr6 y0 y1 y2 y3 y4 t5
                  cases hch : Gr.chk (Gr.shapeOf ⟨kd, inn, shp, nn, pad⟩ L) with
                  | false =>
                    have HST : Hid (Gr.shapes g = none) := Gr.shapes_fail (by rw [LN.out]; exact hlt) HR.out (by rw [HX.out, Gr.step_eq hkk, if_neg (fun h => by rw [h.2.2] at hch; cases hch)])
                    have HCH := Lib.hid hch
                    clear hch ho hok
                    go_wp2_with fail
                    refine (check_any _ _ _ _ _ HI6.out).mono ?_
                    rintro e w7 ⟨rfl, rfl⟩
                    rw [HCH.out]
                    go_wp2
                    go_ret2
                    exact ⟨HW.out.trans (HB6.out.mono HW.out.size), .inl ⟨HST.out, rfl⟩⟩
                  | true =>
                    have HR2 : Hid (Gr.run [] (g.take (k + 1)) = some (L ++ [Gr.shapeOf ⟨kd, inn, shp, nn, pad⟩ L])) := Gr.run_more' (by rw [LN.out]; exact hlt) HR.out (by rw [HX.out, Gr.step_eq hkk, if_pos ⟨ho, hok, hch⟩])
                    have HCH := Lib.hid hch
                    have hLl : L.length = k := by have := Gr.run_length _ _ _ HR.out; rw [List.length_take, LN.out] at this; simp at this; omega
                    have HO6 := Lib.hid (HO.out.below HB6.out)
                    clear hch ho hok
                    generalize Gr.shapeOf ⟨kd, inn, shp, nn, pad⟩ L = S at *
                    go_wp2_with fail
                    refine (check_any _ _ _ S _ HI6.out).mono ?_
                    rintro e w7 ⟨rfl, rfl⟩
                    rw [HCH.out]
                    go_wp2_with (at_builtin; go_must (refine wpList_appD _ rfl _ _ rfl (w2.heap.size + 1) _ L a6 n6 n6 S HO6.out HI6.out ?q1 rfl rfl ?q2 ?q3 ?_))
                    case q1 =>
                      intro p hp h0
                      have h1 := HFR6.out p hp
                      refine ⟨fun e => ?_, by have := HZ.out; omega⟩
                      have h2 := (HO.out.lt _ e.symm).2
                      omega
                    case q2 => have := HZ.out; omega
                    case q3 => omega
                    intro v' w8 hown' hbel hgrow
                    obtain ⟨av, lv, cv, rfl, _, _⟩ := hown'.grid
                    have HZ8 : Hid (w2.heap.size < w8.heap.size) := Nat.lt_of_lt_of_le (Nat.lt_of_lt_of_le HZ.out hz6) hbel.size
                    have t8 := (hbel.cell (p := ⟨w2.heap.size, 0, none⟩) (by simp)).trans t6
                    have q8 := (hbel.frozen (p := ⟨w2.heap.size, 0, none⟩) (by simp)).trans q6
                    have HO8 := Lib.hid (hown'.store w2.heap.size 0 (.slice av lv cv) (by omega) (fun b hb => by omega))
                    have HW8 : Hid (Below w2.heap.size w2 (w8.setCell ⟨w2.heap.size, 0, none⟩ (.slice av lv cv))) := below_setCell ((HWr.out.trans (HB6.out.mono (by have := HZ.out; omega))).trans (hbel.mono (by omega))) _ _ _ (Nat.le_refl _)
                    have HC8 : Hid ((w8.setCell ⟨w2.heap.size, 0, none⟩ (.slice av lv cv)).cell? ⟨w2.heap.size, 0, none⟩ = some (.slice av lv cv)) := World.cell?_setCell_same _ _ _ t8
                    have HF8 : Hid ((w8.setCell ⟨w2.heap.size, 0, none⟩ (.slice av lv cv)).frozen? ⟨w2.heap.size, 0, none⟩ = false) := by show _ = _; rw [World.frozen?_setCell]; exact q8
                    have HZ9 : Hid (w2.heap.size < (w8.setCell ⟨w2.heap.size, 0, none⟩ (.slice av lv cv)).heap.size) := by show _ < _; simp [World.setCell]; exact HZ8.out
                    clear hown' hbel hgrow t6 q6
                    go_wp2
                    go_roundg (len - (k + 1))
                    case measure => exact Nat.lt_of_lt_of_le (Nat.sub_lt_sub_left hlt (Nat.lt_succ_self k)) hg
                    case rel => exact ⟨k + 1, L ++ [S], .slice av lv cv, Nat.succ_le_of_lt hlt, Nat.le_refl _, by go_num, by rw [← HINS.out], HR2, HC8, HF8, HO8, HW8, HZ9⟩
        · obtain rfl : k = len := by omega
          rw [List.take_of_length_le (by rw [LN.out]; omega)] at HR
          have hts : g.take k = g := List.take_of_length_le (by rw [LN.out]; omega)
          rw [hts]
          obtain ⟨aL, lL, cL, rfl, hG, hor⟩ := HO.out.grid
          have HG := Lib.hid hG
          have hgl := hG.le
          have hgc := hG.cap_le
          have hgn : aL = none → lL = 0 ∧ cL = 0 := fun e => by
            rcases hor with ⟨_, h1, h2⟩ | ⟨g', h1, _⟩
            · exact ⟨h1, h2⟩
            · rw [e] at h1; cases h1
          obtain ⟨m, rfl⟩ : ∃ m, k = m + 1 := ⟨k - 1, by omega⟩
          obtain ⟨b, off, rfl, hbl, hcs⟩ := KN.out.at_ (by omega)
          obtain ⟨ai, li, ci, sa, ls, cs, h0, _⟩ := hcs m (by omega)
          have n0 := (HW.out.cell (p := ⟨b, off + m * 5, none⟩) hbl).trans h0
          have r0 := (HWr.out.cell (p := ⟨w.heap.size, 0, none⟩) hz2).trans b0
          have t6 : ∀ o, (wr.alloc o).cell? ⟨w2.heap.size, 0, none⟩ = some (.slice aL lL cL) := fun o => Lib.cell?_alloc_some _ HC.out
          obtain ⟨kk, hkk, _⟩ := Gr.run_node HR.out m (by rw [LN.out]; omega)
          have hlk := ((HK.out.below HWr.out).there hkk).2
          have HM := Lib.hid (Gr.kindOf_most hkk)
          have HS : Hid (Gr.shapes g = if Gr.inputs g = 1 ∧ Gr.endB g = true then some L else none) := by
            show _ = _
            unfold Gr.shapes
            rw [if_neg (by rw [LN.out]; omega), HR.out]
          have HE : Hid (Gr.endB g = decide ((nodeN g m).kind ≠ 1 ∧ (nodeN g m).kind ≠ 2)) := by
            show _ = _
            have := Gr.endB_take (g := g) (n := m + 1) (by omega) (by rw [LN.out]; omega)
            rw [List.take_of_length_le (by rw [LN.out]; omega)] at this
            exact this
          have hI := Gr.inputs_le_length g
          rw [LN.out] at hI
          simp only [kindV] at hlk
          have e1 : (((m + 1 : Nat) : Int) - 1).toNat = m := by omega
          have p1 : (0 : Int) ≤ ((m + 1 : Nat) : Int) - 1 := by omega
          have q1 : ((m + 1 : Nat) : Int) - 1 < ((m + 1 : Nat) : Int) := by omega
          have w1 : IntKind.i64.wrap (((m + 1 : Nat) : Int) - 1) = ((m + 1 : Nat) : Int) - 1 := by rw [IntKind.wrap_i64]; omega
          clear hG hor hcs h0 hkk
          generalize (nodeN g m).kind = kd at *
          generalize Gr.inputs g = ni at *
          by_cases cI : ni = 1
          · have dI : (((ni : Nat) : Int) != 1) = false := by simp; omega
            by_cases cM : kk.most = 0
            · have dM : (kk.most == 0) = true := by simp [cM]
              have HST : Hid (Gr.shapes g = none) := by
                show _ = _
                rw [HS.out, if_neg]
                rintro ⟨_, h⟩
                rw [HE.out] at h
                have h1 := of_decide_eq_true h
                have h2 := HM.out.1 cM
                omega
              clear cM
              go_wp2
              go_ret2
              exact ⟨HW.out.alloc HW.out.size _, .inl ⟨HST.out, rfl⟩⟩
            · have dM : (kk.most == 0) = false := by simp [cM]
              have HST : Hid (Gr.shapes g = some L) := by
                show _ = _
                rw [HS.out, if_pos]
                refine ⟨cI, ?_⟩
                rw [HE.out]
                refine decide_eq_true ⟨fun h => cM (HM.out.2 (.inl h)), fun h => cM (HM.out.2 (.inr h))⟩
              clear cM
              go_wp2_with fail
              refine (clipG_any _ _ _ _ hgl hgc hgn).mono ?_
              rintro e w6 ⟨rfl, rfl⟩
              have HGf := Lib.hid (HG.out.below ((Below.refl _ wr).alloc (Nat.le_refl _) (.cells #[.int .i64 kk.least, .int .i64 kk.most, .int .i64 kk.low, .int .i64 kk.high, .int .i64 kk.around, .int .i64 kk.shaped] 100)))
              go_wp2
              go_ret2
              exact ⟨HW.out.alloc HW.out.size _, .inr ⟨L, _, _, HST.out, rfl, ⟨Nat.le_refl _, by omega, HGf.out.length, HGf.out.at_⟩⟩⟩
          · have dI : (((ni : Nat) : Int) != 1) = true := by simp; omega
            have HST : Hid (Gr.shapes g = none) := by
              show _ = _
              rw [HS.out, if_neg (fun h => cI h.1)]
            go_wp2
            go_ret2
            exact ⟨HW.out.alloc HW.out.size _, .inl ⟨HST.out, rfl⟩⟩
end Go.Proofs.Ytgmagldbfajedaa

/- GrUses: graphs.Check, Weights, Input; drydocklaw01.GraphSize, SameGrids: contracts gcheck_any, weights_any, input_any, gsize_any, grids_any.
-/
namespace Go.Proofs.Ytgmagldbfajedaa
open Go.RowKit

theorem NodesIn.on {w w' : World} {a : Option Addr} {len cap : Nat} {g : List Gr.Node} (h : Nodes w a len cap g) (hb : Below w.heap.size w w') : Nodes w' a len cap g := NodesIn.below h hb hb

theorem gcheck_any (a : Option Addr) (len cap : Nat) (g : List Gr.Node) (w : World) (HN : Nodes w a len cap g) :
    Calls Try.prog 34 #[.agg #[.slice a len cap]] w fun e w' => e = .returned (.bool (Gr.shapes g).isSome) ∧ Below w.heap.size w w' := by
  go_enter Try.func34, Try.ntmps34
  go_wp2_with fail
  refine (gshapes_any _ _ _ g _ (HN.on ((Below.refl _ _).alloc (Nat.le_refl _) _))).mono ?_
  rintro e w1 ⟨hb, ⟨hs, rfl⟩ | ⟨s, a1, l1, hs, rfl, hG⟩⟩
  · have HS := Lib.hid hs
    have HB : Hid (Below w.heap.size w w1) := ((Below.refl _ _).alloc (Nat.le_refl _) _).trans (hb.mono (by simp))
    clear hs hb
    go_wp2
    go_ret
    exact ⟨by rw [HS.out]; rfl, HB.out⟩
  · have HS := Lib.hid hs
    have HB : Hid (Below w.heap.size w w1) := ((Below.refl _ _).alloc (Nat.le_refl _) _).trans (hb.mono (by simp))
    clear hs hb hG
    go_wp2
    go_ret
    exact ⟨by rw [HS.out]; rfl, HB.out⟩

theorem input1_any (kd n pad : Int) (ai sa : Option Addr) (li ci ls cs : Nat) (w : World) :
    Calls Try.prog 76 #[.agg #[.int .u8 kd, .slice ai li ci, .slice sa ls cs, .int .i64 n, .int .i64 pad]] w fun e w' => e = .returned (.bool (kd == 1)) ∧ Below w.heap.size w w' := by
  go_enter Try.func76, Try.ntmps76
  go_wp2
  go_ret
  exact ⟨rfl, (Below.refl _ _).alloc (Nat.le_refl _) _⟩

/-- The cells of the node at a place, in a later world. -/
theorem NodesIn.get {w w' : World} {a : Option Addr} {len cap : Nat} {g : List Gr.Node} (h : Nodes w a len cap g) (hb : Below w.heap.size w w') {k : Nat} (hk : k < len) :
    ∃ b off ai li ci sa ls cs, a = some ⟨b, off, none⟩ ∧ b < w.heap.size ∧ w'.cell? ⟨b, off + k * 5, none⟩ = some (.int .u8 (nodeN g k).kind) ∧ w'.cell? ⟨b, off + k * 5 + 1, none⟩ = some (.slice ai li ci) ∧
      w'.cell? ⟨b, off + k * 5 + 2, none⟩ = some (.slice sa ls cs) ∧ w'.cell? ⟨b, off + k * 5 + 3, none⟩ = some (.int .i64 (nodeN g k).n) ∧ w'.cell? ⟨b, off + k * 5 + 4, none⟩ = some (.int .i64 (nodeN g k).pad) ∧ NodeV w' ai li ci sa ls cs (nodeN g k) := by
  obtain ⟨b, off, rfl, hlt, hc⟩ := h.at_ (by omega)
  obtain ⟨ai, li, ci, sa, ls, cs, h0, h1, h2, h3, h4, hV⟩ := hc k hk
  exact ⟨b, off, ai, li, ci, sa, ls, cs, rfl, hlt, (hb.cell (p := ⟨b, _, none⟩) hlt).trans h0, (hb.cell (p := ⟨b, _, none⟩) hlt).trans h1, (hb.cell (p := ⟨b, _, none⟩) hlt).trans h2,
    (hb.cell (p := ⟨b, _, none⟩) hlt).trans h3, (hb.cell (p := ⟨b, _, none⟩) hlt).trans h4, hV.below hb⟩

set_option maxHeartbeats 1000000 in
theorem indexNode_any (a : Option Addr) (len cap : Nat) (g : List Gr.Node) (w : World) (HN : Nodes w a len cap g) :
    Calls Try.prog 75 #[.slice a len cap, .func (.func 76) #[] #[]] w fun e w' => e = .returned (.int .i64 (Gr.inputIx g)) ∧ Below w.heap.size w w' := by
  have KN := Lib.hid HN
  have LN := Lib.hid HN.length
  have hle := HN.le
  have hcl := HN.cap_le
  clear HN
  go_enter Try.func75, Try.ntmps75
  go_wp2
  go_loopg [8] len (fun gg i wr => ∃ k : Nat, k ≤ len ∧ len - k ≤ gg ∧ i = .int .i64 k ∧ Hid (∀ j (hj : j < g.length), j < k → g[j].kind ≠ 1) ∧ Hid (Below w.heap.size w wr))
  case atStart => exact ⟨0, Nat.zero_le _, by omega, rfl, fun j _ hj => absurd hj (Nat.not_lt_zero _), Below.refl _ _⟩
  case round =>
    obtain ⟨k, hk, hg, rfl, HT, HW⟩ := hrel
    by_cases hlt : k < len
    · obtain ⟨b, off, ai, li, ci, sa, ls, cs, rfl, _, n0, n1, n2, n3, n4, _⟩ := KN.out.get HW.out hlt
      have HK : Hid (g[k]'(by rw [LN.out]; exact hlt) = nodeN g k) := (nodeN_eq g k (by rw [LN.out]; exact hlt)).symm
      generalize (nodeN g k).n = nn at *
      generalize (nodeN g k).pad = pp at *
      by_cases c : (nodeN g k).kind = 1
      · have HR : Hid (Gr.inputIx g = (k : Int)) := by
          have h1 := Gr.inputN_eq (g := g) (k := k) (by rw [LN.out]; exact hlt) HT.out (by rw [HK.out]; exact c)
          show _ = _
          unfold Gr.inputIx
          rw [h1, if_pos (by rw [LN.out]; exact hlt)]
        have dc : ((nodeN g k).kind == 1) = true := by simp [c]
        clear c HK HT
        generalize (nodeN g k).kind = kd at *
        go_wp2_with fail
        refine (input1_any _ _ _ _ _ _ _ _ _ _).mono ?_
        rintro e w1 ⟨rfl, hb1⟩
        have HB1 := Lib.hid (HW.out.trans (hb1.mono HW.out.size))
        clear hb1 n0 n1 n2 n3 n4
        go_wp2
        go_ret
        exact ⟨by rw [HR.out]; rfl, HB1.out⟩
      · have HT2 : Hid (∀ j (hj : j < g.length), j < k + 1 → g[j].kind ≠ 1) := fun j hj hjk => by
          rcases Nat.lt_succ_iff_lt_or_eq.1 hjk with h | h
          · exact HT.out j hj h
          · subst h; rw [HK.out]; exact c
        have dc : ((nodeN g k).kind == 1) = false := by simp [c]
        clear c HK HT
        generalize (nodeN g k).kind = kd at *
        go_wp2_with fail
        refine (input1_any _ _ _ _ _ _ _ _ _ _).mono ?_
        rintro e w1 ⟨rfl, hb1⟩
        have HB1 := Lib.hid (HW.out.trans (hb1.mono HW.out.size))
        clear hb1 n0 n1 n2 n3 n4
        go_wp2
        go_roundg (len - (k + 1))
        case measure => omega
        case rel => exact ⟨k + 1, by omega, by omega, by go_num, HT2, HB1⟩
    · have HR : Hid (Gr.inputIx g = -1) := by
        have h1 := Gr.inputN_none (g := g) (fun j hj => HT.out j hj (by have := LN.out; omega))
        show _ = _
        unfold Gr.inputIx
        rw [h1, if_neg (by omega)]
      go_wp2
      go_ret
      exact ⟨by rw [HR.out]; rfl, HW.out⟩

theorem input_any (a : Option Addr) (len cap : Nat) (g : List Gr.Node) (w : World) (HN : Nodes w a len cap g) :
    Calls Try.prog 35 #[.agg #[.slice a len cap]] w fun e w' => e = .returned (.int .i64 (Gr.inputIx g)) ∧ Below w.heap.size w w' := by
  go_enter Try.func35, Try.ntmps35
  go_wp2_with fail
  refine (indexNode_any _ _ _ g _ (HN.on ((Below.refl _ _).alloc (Nat.le_refl _) _))).mono ?_
  rintro e w1 ⟨rfl, hb⟩
  have HB : Hid (Below w.heap.size w w1) := ((Below.refl _ _).alloc (Nat.le_refl _) _).trans (hb.mono (by simp))
  clear hb
  go_wp2
  go_ret
  exact ⟨rfl, HB.out⟩

/-- 'l = append(l, x)' on a slice of the call's own: behind the block of one cell that the operand lays. -/
theorem wpList_app1w {ops : Array Oper} {rest : List Oper} {o : Oper} {a : Act} {Q : Exit → Act → World → Prop} (w : World) (hgd : o.guard = none) (s t : Operand)
    (ho : o.op = .call { callee := .builtin .append, args := #[s, t], argTypes := #[22, 22] }) (base : Nat) (v : Value) (l : List Int) (x : Int)
    (hown : Own base w v l) (hs : a.eval s = v) (ht : a.eval t = .slice (some ⟨w.heap.size, 0, none⟩) 1 1) (hb : base ≤ w.heap.size) (hlen : l.length < 17592186044416)
    (h : ∀ v' w', Own base w' v' (l ++ [x]) → Below base w w' → w.grownBy w' v.ownBlock → wpList Try.prog ops Q rest (a.put o.dst v') w') :
    wpList Try.prog ops Q (o :: rest) a (w.alloc (.cells #[.int .i64 x] 3)) := by
  obtain ⟨i0, hi, hz0, hz1, hz2⟩ := info_parts Try.info3
  refine wpList_append_own _ hgd s t 22 ho base 3 i0 (.int .i64 0) 1 8 Try.underlying22 hi hz0 hz1 hz2 rfl (by decide) v l.length (l.map (Value.int .i64)) hs (hown.alloc _) ⟨w.heap.size, 0, none⟩ 1 1 [.int .i64 x] ht rfl ?_ ?_ ?_ ?_ ?_ ?_
  · intro j u hj
    match j, hj with
    | 0, hj => simp at hj; subst hj; simp [Addr.add]
  · intro u hu; simp at hu; subst hu; rfl
  · unfold maxLen; omega
  · omega
  · simp; omega
  · intro v' w' hown' hgrow _
    refine h v' w' ?_ ?_ ?_
    · unfold Own; simpa using hown'
    · refine ((Below.refl base w).alloc hb _).grown hgrow (by simp; omega) ?_
      intro k hk
      exact (World.ownsRow.lt hown k hk).1
    · exact ⟨hgrow.os, hgrow.tape, hgrow.output, Nat.le_trans (by simp) hgrow.size, fun k hk hn => (hgrow.block k (by simp; omega) hn).trans (Below.heap_alloc _ _ _ hk)⟩

set_option maxHeartbeats 2000000 in
theorem weights_any (a : Option Addr) (len cap : Nat) (g : List Gr.Node) (w : World) (HN : Nodes w a len cap g) :
    Calls Try.prog 38 #[.agg #[.slice a len cap]] w fun e w' => ∃ a1 l1, e = .returned (.slice a1 l1 l1) ∧ Ints w' a1 l1 l1 (Gr.weights g) ∧ Below w.heap.size w w' := by
  have KN := Lib.hid HN
  have LN := Lib.hid HN.length
  have hle := HN.le
  have hcl := HN.cap_le
  have hll := HN.len_le
  clear HN
  go_enter Try.func38, Try.ntmps38
  go_wp2
  go_loopg [2, 8] len (fun gg v i wr => ∃ k : Nat, k ≤ len ∧ len - k ≤ gg ∧ i = .int .i64 k ∧ Hid (Own w.heap.size wr v (Gr.weights (g.take k))) ∧ Hid (Below w.heap.size w wr))
  case atStart => exact ⟨0, Nat.zero_le _, by omega, rfl, Own.nil _ _, (Below.refl _ _).alloc (Nat.le_refl _) _⟩
  case round =>
    obtain ⟨k, hk, hg, rfl, HO, HW⟩ := hrel
    by_cases hlt : k < len
    · obtain ⟨b, off, ai, li, ci, sa, ls, cs, rfl, _, n0, n1, n2, n3, n4, _⟩ := KN.out.get HW.out hlt
      have HS := Lib.hid (Gr.weights_snoc (g := g) (k := k) (by rw [LN.out]; exact hlt))
      rw [← nodeN_eq g k (by rw [LN.out]; exact hlt)] at HS
      generalize (nodeN g k).n = nn at *
      generalize (nodeN g k).pad = pp at *
      generalize (nodeN g k).kind = kd at *
      have hln : (Gr.weights (g.take k)).length ≤ k := Nat.le_trans (Gr.weightsF_length _ _) (List.length_take_le _ _)
      by_cases c : kd = 2
      · have dc : (kd == 2) = true := by simp [c]
        rw [if_pos c] at HS
        clear c
        go_wp2_with (at_builtin; go_must (refine wpList_app1w _ rfl _ _ rfl w.heap.size _ _ _ (HO.out.below ((Below.refl _ _).alloc (Nat.le_refl _) _)) rfl (by simp [Act.eval]) ?c0 ?c1 ?_))
        case c0 => have := HW.out.size; simp; omega
        case c1 => omega
        intro v' w3 hown' hbel hgrow
        rw [← HS.out] at hown'
        have HO' := Lib.hid hown'
        have HW3 : Hid (Below w.heap.size w w3) := (HW.out.alloc HW.out.size _).trans hbel
        clear hown' hbel hgrow n0 n1 n2 n3 n4
        go_wp2
        go_roundg (len - (k + 1))
        case measure => exact Nat.lt_of_lt_of_le (Nat.sub_lt_sub_left hlt (Nat.lt_succ_self k)) hg
        case rel => exact ⟨k + 1, Nat.succ_le_of_lt hlt, Nat.le_refl _, by go_num, HO', HW3⟩
      · have dc : (kd == 2) = false := by simp [c]
        rw [if_neg c, List.append_nil] at HS
        clear c
        go_wp2
        go_roundg (len - (k + 1))
        case measure => exact Nat.lt_of_lt_of_le (Nat.sub_lt_sub_left hlt (Nat.lt_succ_self k)) hg
        case rel => exact ⟨k + 1, Nat.succ_le_of_lt hlt, Nat.le_refl _, by go_num, by rw [HS.out]; exact HO.out.below ((Below.refl _ _).alloc (Nat.le_refl _) _), HW.out.alloc HW.out.size _⟩
    · rw [List.take_of_length_le (by rw [LN.out]; omega)] at HO
      obtain ⟨a1, l1, c1, rfl, hq1, hq2, hq3, hI, _⟩ := HO.out.clipped (fun v hv => by have := Gr.weightsF_mem g 0 v hv; have := LN.out; omega)
      have HI := Lib.hid hI
      clear hI
      go_wp2_with fail
      refine (clip_any _ _ _ _ hq1 hq2 hq3).mono ?_
      rintro e w6 ⟨rfl, rfl⟩
      go_wp2
      go_ret
      exact ⟨_, _, rfl, HI.out, HW.out⟩
end Go.Proofs.Ytgmagldbfajedaa

/- GrLaws2: Plain Lean: what the laws GraphsJoined and GraphsInsert say, of the plain shapes.
-/
namespace Go.Proofs.Ytgmagldbfajedaa
namespace Gr

theorem step_add {s : List (List Int)} (hs : ∀ t ∈ s, chk t = true) (a b : Nat) (ha : a < s.length) (hb : b < s.length) :
    step s ⟨3, [a, b], [], 0, 0⟩ = if sameB (rowL s a) (rowL s b) = true then some (rowL s a) else none := by
  rw [step_eq (k := ⟨2, 2, 0, 0, 0, 0⟩) rfl]
  have e : shapeOf ⟨3, [a, b], [], 0, 0⟩ s = if sameB (rowL s a) (rowL s b) = true then rowL s a else [] := by
    simp [shapeOf, nth, rowAt_nat]
  by_cases c : sameB (rowL s a) (rowL s b) = true
  · rw [if_pos c] at e ⊢
    rw [e, if_pos ⟨rfl, by simp [okIn]; omega, hs _ (rowL_mem s a ha)⟩]
  · rw [if_neg c] at e ⊢
    rw [e, if_neg (fun h => by have := h.2.2; revert this; decide)]

theorem step_join {s : List (List Int)} (a k : Nat) (ha : a < s.length) (hk : k ≤ 3) :
    step s ⟨12, [a, a], [], k, 0⟩ = if k < (rowL s a).length ∧ chk (longer k (rowL s a) (rowL s a)) = true then some (longer k (rowL s a) (rowL s a)) else none := by
  rw [step_eq (k := ⟨1, 4, 0, 3, 0, 0⟩) rfl]
  have e : shapeOf ⟨12, [a, a], [], k, 0⟩ s = if k < (rowL s a).length then longer k (rowL s a) (rowL s a) else [] := by
    have e1 : shapeOf ⟨12, [a, a], [], k, 0⟩ s = joinF k (rowL s a) [rowL s a] := by simp [shapeOf, joined, rowAt_nat]
    rw [e1]
    by_cases c : k < (rowL s a).length
    · rw [if_pos c, joinF_fit rfl (by omega) (fun _ _ _ => rfl), joinF_nil, longer_length, if_neg (by omega)]
    · rw [if_neg c, joinF_bad (.inr (by omega))]
  have ho : ofB ⟨1, 4, 0, 3, 0, 0⟩ ⟨12, [a, a], [], k, 0⟩ = true := by
    unfold ofB
    rw [if_neg (by simp; omega)]
    rfl
  by_cases c : k < (rowL s a).length
  · rw [if_pos c] at e
    rw [e]
    by_cases c2 : chk (longer k (rowL s a) (rowL s a)) = true
    · rw [if_pos ⟨ho, by simp [okIn]; omega, c2⟩, if_pos ⟨c, c2⟩]
    · rw [if_neg (fun h => c2 h.2.2), if_neg (fun h => c2 h.2)]
  · rw [if_neg c] at e
    rw [e, if_neg (fun h => by have := h.2.2; revert this; decide), if_neg (fun h => c h.1)]

/-- Taken in by one further on. -/
def bumpI (k : Nat) (v : Int) : Int := if (k : Int) ≤ v then v + 1 else v
def bump (k : Nat) (x : Node) : Node := ⟨x.kind, x.inn.map (bumpI k), x.shape, x.n, x.pad⟩
def insG (k : Nat) (s : List Int) (L : List (List Int)) : List (List Int) := L.take k ++ s :: L.drop k

theorem insG_length (k : Nat) (s : List Int) (L : List (List Int)) : (insG k s L).length = L.length + 1 := by
  unfold insG; simp; omega
theorem insG_snoc (k : Nat) (s t : List Int) (L : List (List Int)) (hk : k ≤ L.length) : insG k s L ++ [t] = insG k s (L ++ [t]) := by
  unfold insG
  rw [List.take_append_of_le_length hk, List.drop_append_of_le_length hk]
  simp
theorem rowAt_insG (k : Nat) (s : List Int) (L : List (List Int)) (hk : k ≤ L.length) (v : Int) (h0 : 0 ≤ v) : rowAt (insG k s L) (bumpI k v) = rowAt L v := by
  unfold rowAt insG bumpI
  split
  · rename_i h
    rw [List.getD_eq_getElem?_getD, List.getD_eq_getElem?_getD, List.getElem?_append_right (by simp; omega)]
    rw [List.length_take, Nat.min_eq_left hk, show (v + 1).toNat - k = (v.toNat - k) + 1 by omega, List.getElem?_cons_succ, List.getElem?_drop, show k + (v.toNat - k) = v.toNat by omega]
  · rename_i h
    rw [List.getD_eq_getElem?_getD, List.getD_eq_getElem?_getD, List.getElem?_append_left (by simp; omega), List.getElem?_take, if_pos (by omega)]
theorem okIn_bump (k : Nat) (x : Node) (n : Nat) (hk : k ≤ n) : okIn (bump k x) (n + 1) = okIn x n := by
  unfold okIn bump
  rw [Bool.eq_iff_iff]
  simp only [List.all_eq_true, List.mem_map, Bool.and_eq_true, decide_eq_true_eq]
  constructor
  · intro h v hv
    have := h _ ⟨v, hv, rfl⟩
    unfold bumpI at this
    split at this <;> omega
  · rintro h _ ⟨v, hv, rfl⟩
    have := h v hv
    unfold bumpI
    split <;> omega
theorem ofB_bump (k : Nat) (kd : Kind) (x : Node) : ofB kd (bump k x) = ofB kd x := by unfold ofB bump; simp
theorem nth_bump (k : Nat) (l : List Int) (i : Nat) (hi : i < l.length) : nth (l.map (bumpI k)) i = bumpI k (nth l i) := by
  rw [nth_eq _ _ (by simpa using hi), nth_eq _ _ hi]; simp

theorem shapeOf_bump (k : Nat) (s : List Int) (L : List (List Int)) (hk : k ≤ L.length) {kd : Kind} {x : Node} (hkd : kindOf x.kind = some kd) (ho : ofB kd x = true) (hi : okIn x L.length = true) :
    shapeOf (bump k x) (insG k s L) = shapeOf x L := by
  have hin : ∀ v ∈ x.inn, 0 ≤ v := fun v hv => by
    unfold okIn at hi
    have := List.all_eq_true.1 hi v hv
    simp at this; exact this.1
  have hl := (ofB_parts ho).1
  have hleast : ¬ (x.kind = 1 ∨ x.kind = 2) → 0 < x.inn.length := fun h => by have := (kindOf_least hkd).2 h; omega
  have h0 : ¬ (x.kind = 1 ∨ x.kind = 2) → rowAt (insG k s L) (nth (bump k x).inn 0) = rowAt L (nth x.inn 0) := fun h => by
    show rowAt (insG k s L) (nth (x.inn.map (bumpI k)) 0) = _
    rw [nth_bump k _ _ (hleast h), rowAt_insG k s L hk _ (hin _ (nth_mem _ _ (hleast h)))]
  have htwo : (x.kind = 3 ∨ x.kind = 4 ∨ x.kind = 7 ∨ x.kind = 8) → 1 < x.inn.length := fun h => by
    have : kd.least = 2 := by
      unfold kindOf at hkd
      rcases h with h | h | h | h <;> (rw [h] at hkd; simp at hkd; rw [← hkd])
    omega
  have h1 : (x.kind = 3 ∨ x.kind = 4 ∨ x.kind = 7 ∨ x.kind = 8) → rowAt (insG k s L) (nth (bump k x).inn 1) = rowAt L (nth x.inn 1) := fun h => by
    show rowAt (insG k s L) (nth (x.inn.map (bumpI k)) 1) = _
    rw [nth_bump k _ _ (htwo h), rowAt_insG k s L hk _ (hin _ (nth_mem _ _ (htwo h)))]
  have hm : (bump k x).inn.map (rowAt (insG k s L)) = x.inn.map (rowAt L) := by
    show (x.inn.map (bumpI k)).map (rowAt (insG k s L)) = _
    rw [List.map_map]
    exact List.map_congr_left fun v hv => rowAt_insG k s L hk v (hin v hv)
  unfold shapeOf
  show (if x.kind = 1 ∨ x.kind = 2 then x.shape else _) = _
  by_cases c1 : x.kind = 1 ∨ x.kind = 2
  · rw [if_pos c1, if_pos c1]
  rw [if_neg c1, if_neg c1, h0 c1, hm]
  show (if x.kind = 5 ∨ x.kind = 6 then _ else if x.kind = 3 ∨ x.kind = 4 then _ else if x.kind = 10 then _ else if x.kind = 7 then _ else if x.kind = 8 then _ else _) = _
  by_cases c2 : x.kind = 5 ∨ x.kind = 6
  · rw [if_pos c2, if_pos c2]
  rw [if_neg c2, if_neg c2]
  by_cases c3 : x.kind = 3 ∨ x.kind = 4
  · rw [if_pos c3, if_pos c3, h1 (by omega)]
  rw [if_neg c3, if_neg c3]
  by_cases c4 : x.kind = 10
  · rw [if_pos c4, if_pos c4]; rfl
  rw [if_neg c4, if_neg c4]
  by_cases c5 : x.kind = 7
  · rw [if_pos c5, if_pos c5, h1 (by omega)]
  rw [if_neg c5, if_neg c5]
  by_cases c6 : x.kind = 8
  · rw [if_pos c6, if_pos c6, h1 (by omega)]; rfl
  rw [if_neg c6, if_neg c6]
  rfl

theorem step_bump (k : Nat) (s : List Int) (L : List (List Int)) (hk : k ≤ L.length) (x : Node) : step (insG k s L) (bump k x) = step L x := by
  cases hkd : kindOf x.kind with
  | none => unfold step; rw [show (bump k x).kind = x.kind from rfl, hkd]
  | some kd =>
    rw [step_eq hkd, step_eq (show kindOf (bump k x).kind = some kd from hkd), ofB_bump, insG_length, okIn_bump k x _ hk]
    by_cases c : ofB kd x = true ∧ okIn x L.length = true
    · rw [shapeOf_bump k s L hk hkd c.1 c.2]
    · rw [if_neg (fun h => c ⟨h.1, h.2.1⟩), if_neg (fun h => c ⟨h.1, h.2.1⟩)]

theorem run_bump (k : Nat) (s : List Int) : ∀ (g : List Node) (L : List (List Int)), k ≤ L.length → run (insG k s L) (g.map (bump k)) = (run L g).map (insG k s)
  | [], L, _ => rfl
  | x :: r, L, hk => by
    simp only [List.map_cons, run, step_bump k s L hk]
    cases step L x with
    | none => rfl
    | some t =>
      simp only
      rw [insG_snoc k s t L hk]
      exact run_bump k s r (L ++ [t]) (by simp; omega)

/-- A weight more, ahead of a node. -/
def insert (k : Nat) (s : List Int) (g : List Node) : List Node := g.take k ++ (⟨2, [], s, 0, 0⟩ : Node) :: (g.drop k).map (bump k)

theorem step_weight (L : List (List Int)) (s : List Int) : step L ⟨2, [], s, 0, 0⟩ = if chk s = true then some s else none := by
  rw [step_eq (k := ⟨0, 0, 0, 0, 0, 1⟩) rfl]
  have e : shapeOf ⟨2, [], s, 0, 0⟩ L = s := by simp [shapeOf]
  have ho : ofB ⟨0, 0, 0, 0, 0, 1⟩ ⟨2, [], s, 0, 0⟩ = chk s := rfl
  rw [e, ho]
  by_cases c : chk s = true
  · rw [if_pos ⟨c, rfl, c⟩, if_pos c]
  · rw [if_neg (fun h => c h.1), if_neg c]

theorem inputs_bump (k : Nat) : ∀ g : List Node, inputs (g.map (bump k)) = inputs g
  | [] => rfl
  | x :: r => by simp only [List.map_cons, inputs, inputs_bump k r]; rfl

theorem shapes_insert {g : List Node} {was : List (List Int)} (h : shapes g = some was) (hl : g.length ≤ 31) (k : Nat) (hk : k < g.length) (s : List Int) :
    shapes (insert k s g) = if chk s = true then some (insG k s was) else none := by
  obtain ⟨hl1, hr, hi, he⟩ := shapes_iff.1 h
  have hwl := shapes_len h
  have hrun : run [] (insert k s g) = if chk s = true then some (insG k s was) else none := by
    unfold insert
    rw [run_append, run_prefix hr k (by omega)]
    simp only [run, step_weight]
    by_cases c : chk s = true
    · simp only [if_pos c]
      have h1 : was.take k ++ [s] = insG k s (was.take k) := by
        unfold insG; rw [List.take_take, List.drop_eq_nil_of_le (by rw [List.length_take]; omega), Nat.min_self]
      have h2 : run (was.take k) (g.drop k) = some was := by
        have h3 := run_append (g.take k) [] (g.drop k)
        rw [List.take_append_drop, hr, run_prefix hr k (by omega)] at h3
        exact h3.symm
      rw [h1, run_bump k s _ _ (by simp; omega), h2]
      rfl
    · simp only [if_neg c]
  have hin : inputs (insert k s g) = 1 := by
    unfold insert
    rw [inputs_append, inputs, inputs_bump]
    have := inputs_append (g.take k) (g.drop k)
    rw [List.take_append_drop] at this
    simp only [show ((2 : Int) = 1) = False by simp, if_false]
    omega
  have hen : endB (insert k s g) = true := by
    unfold insert endB
    unfold endB at he
    rw [← List.take_append_drop k g, List.getLast?_append] at he
    rw [List.getLast?_append, List.getLast?_cons, List.getLast?_map]
    cases hq : (g.drop k).getLast? with
    | none =>
      have : g.drop k = [] := by simpa using hq
      have h5 : (g.drop k).length = 0 := by rw [this]; rfl
      rw [List.length_drop] at h5; omega
    | some y =>
      rw [hq] at he
      simp only [Option.some_or] at he
      simpa [bump] using he
  have hlen : (insert k s g).length = g.length + 1 := by unfold insert; simp; omega
  unfold shapes
  rw [if_neg (by omega), hrun]
  by_cases c : chk s = true
  · rw [if_pos c]; simp only [hin, hen, and_self, if_true]
  · rw [if_neg c]

end Gr
end Go.Proofs.Ytgmagldbfajedaa

/- GrSizes: drydocklaw01.GraphSize, SameGrids: contracts gsize_any, grids_any.
-/
namespace Go.Proofs.Ytgmagldbfajedaa
open Go.RowKit

theorem isize_any (a : Option Addr) (len cap : Nat) (w : World) : Calls Try.prog 134 #[.slice a len cap] w fun e w' => e = .returned (.int .i64 len) ∧ w = w' := by
  go_enter Try.func134, Try.ntmps134
  go_wp2
  go_ret
  exact ⟨rfl, rfl⟩

theorem nsize_any (kd n pad : Int) (ai sa : Option Addr) (li ci ls cs : Nat) (w : World) (h1 : li ≤ 17592186044416) (h2 : ls ≤ 17592186044416) :
    Calls Try.prog 105 #[.agg #[.int .u8 kd, .slice ai li ci, .slice sa ls cs, .int .i64 n, .int .i64 pad]] w fun e w' => ∃ v : Int, e = .returned (.int .i64 v) ∧ (0 ≤ v ∧ v ≤ 40000000000000) ∧ Below w.heap.size w w' := by
  by_cases c : 1 + (li : Int) ≤ 1048576
  · have d : decide (1 + (li : Int) ≤ 1048576) = true := decide_eq_true c
    go_enter Try.func105, Try.ntmps105
    go_wp2_with fail
    refine (isize_any _ _ _ _).mono ?_
    rintro e w1 ⟨rfl, rfl⟩
    go_wp2_with fail
    refine (isize_any _ _ _ _).mono ?_
    rintro e w1 ⟨rfl, rfl⟩
    go_wp2
    go_ret
    exact ⟨1 + li + ls, rfl, ⟨by omega, by omega⟩, (Below.refl _ _).alloc (Nat.le_refl _) _⟩
  · have d : decide (1 + (li : Int) ≤ 1048576) = false := decide_eq_false c
    go_enter Try.func105, Try.ntmps105
    go_wp2_with fail
    refine (isize_any _ _ _ _).mono ?_
    rintro e w1 ⟨rfl, rfl⟩
    go_wp2
    go_ret
    exact ⟨1 + li, rfl, ⟨by omega, by omega⟩, (Below.refl _ _).alloc (Nat.le_refl _) _⟩

set_option maxHeartbeats 2000000 in
theorem nssize_any (a : Option Addr) (len cap : Nat) (g : List Gr.Node) (w : World) (HN : Nodes w a len cap g) :
    Calls Try.prog 67 #[.slice a len cap] w fun e w' => ∃ v : Int, e = .returned (.int .i64 v) ∧ (0 ≤ v ∧ v ≤ 90000000000000) ∧ Below w.heap.size w w' := by
  have KN := Lib.hid HN
  have hle := HN.le
  have hcl := HN.cap_le
  have hll := HN.len_le
  clear HN
  go_enter Try.func67, Try.ntmps67
  go_wp2
  go_loopg [3, 4] len (fun gg n i wr => ∃ (k : Nat) (v : Int), k ≤ len ∧ len - k ≤ gg ∧ i = .int .i64 k ∧ n = .int .i64 v ∧ 0 ≤ v ∧ v ≤ 90000000000000 ∧ Hid (Below w.heap.size w wr))
  case atStart => exact ⟨0, len, Nat.zero_le _, by omega, rfl, rfl, by omega, by omega, Below.refl _ _⟩
  case round =>
    obtain ⟨k, v, hk, hg, rfl, rfl, hv0, hv1, HW⟩ := hrel
    by_cases hlt : k < len
    · by_cases c : v ≤ 1048576
      · have d : decide (v ≤ 1048576) = true := decide_eq_true c
        obtain ⟨b, off, ai, li, ci, sa, ls, cs, rfl, _, n0, n1, n2, n3, n4, hV⟩ := KN.out.get HW.out hlt
        have hl1 := hV.li
        have hl2 := hV.ls
        clear hV
        generalize (nodeN g k).n = nn at *
        generalize (nodeN g k).pad = pp at *
        generalize (nodeN g k).kind = kd at *
        go_wp2_with fail
        refine (nsize_any _ _ _ _ _ _ _ _ _ _ hl1 hl2).mono ?_
        rintro e w1 ⟨u, rfl, ⟨hu0, hu1⟩, hb1⟩
        have HB1 := Lib.hid (HW.out.trans (hb1.mono HW.out.size))
        clear hb1 n0 n1 n2 n3 n4
        go_wp2
        go_roundg (len - (k + 1))
        case measure => exact Nat.lt_of_lt_of_le (Nat.sub_lt_sub_left hlt (Nat.lt_succ_self k)) hg
        case rel => exact ⟨k + 1, v + u, Nat.succ_le_of_lt hlt, Nat.le_refl _, by go_num, by go_num, by omega, by omega, HB1⟩
      · have d : decide (v ≤ 1048576) = false := decide_eq_false c
        go_wp2
        go_ret
        exact ⟨v, rfl, ⟨hv0, hv1⟩, HW.out⟩
    · go_wp2
      go_ret
      exact ⟨v, rfl, ⟨hv0, hv1⟩, HW.out⟩

theorem gsize_any (a : Option Addr) (len cap : Nat) (g : List Gr.Node) (w : World) (HN : Nodes w a len cap g) :
    Calls Try.prog 32 #[.agg #[.slice a len cap]] w fun e w' => ∃ v : Int, e = .returned (.int .i64 v) ∧ (0 ≤ v ∧ v ≤ 90000000000001) ∧ Below w.heap.size w w' := by
  go_enter Try.func32, Try.ntmps32
  go_wp2_with fail
  refine (nssize_any _ _ _ g _ (HN.on ((Below.refl _ _).alloc (Nat.le_refl _) _))).mono ?_
  rintro e w1 ⟨v, rfl, ⟨hv0, hv1⟩, hb⟩
  have HB : Hid (Below w.heap.size w w1) := ((Below.refl _ _).alloc (Nat.le_refl _) _).trans (hb.mono (by simp))
  clear hb
  go_wp2
  go_ret
  exact ⟨1 + v, rfl, ⟨by omega, by omega⟩, HB.out⟩

/-- Are two lists of shapes the same? -/
def gridsB (L M : List (List Int)) : Bool := decide (L.length = M.length) && (List.range L.length).all fun i => sameB (rowL L i) (rowL M i)
theorem gridsB_len {L M : List (List Int)} (h : L.length ≠ M.length) : gridsB L M = false := by unfold gridsB; rw [decide_eq_false h]; rfl
theorem gridsB_hit {L M : List (List Int)} {k : Nat} (hk : k < L.length) (h : sameB (rowL L k) (rowL M k) = false) : gridsB L M = false := by
  unfold gridsB
  have : ((List.range L.length).all fun i => sameB (rowL L i) (rowL M i)) = false := by
    rw [List.all_eq_false]
    exact ⟨k, List.mem_range.2 hk, by simp [h]⟩
  rw [this, Bool.and_false]
theorem gridsB_all {L M : List (List Int)} (hl : L.length = M.length) (h : ∀ i, i < L.length → sameB (rowL L i) (rowL M i) = true) : gridsB L M = true := by
  unfold gridsB
  rw [decide_eq_true hl, Bool.true_and, List.all_eq_true]
  exact fun i hi => h i (List.mem_range.1 hi)

set_option maxHeartbeats 2000000 in
set_option maxRecDepth 100000 in
theorem grids_any (a b : Option Addr) (la ca lb cb : Nat) (L M : List (List Int)) (w : World) (HA : Grid w a la ca L) (HB : Grid w b lb cb M) :
    Calls Try.prog 40 #[.slice a la ca, .slice b lb cb] w fun e w' => e = .returned (.bool (gridsB L M)) ∧ Below w.heap.size w w' := by
  have KA := Lib.hid HA
  have KB := Lib.hid HB
  have LA := Lib.hid HA.length
  have LB := Lib.hid HB.length
  have ha1 := HA.le
  have ha2 := HA.cap_le
  have hb1 := HB.le
  have hb2 := HB.cap_le
  clear HA HB
  by_cases hl : la = lb
  · subst hl
    have hne : ((la : Int) != (la : Int)) = false := by simp
    go_enter Try.func40, Try.ntmps40
    go_wp2
    go_loopg [5] la (fun gg i wr => ∃ k : Nat, k ≤ la ∧ la - k ≤ gg ∧ i = .int .i64 k ∧ Hid (∀ i, i < k → sameB (rowL L i) (rowL M i) = true) ∧ Hid (Below w.heap.size w wr))
    case atStart => exact ⟨0, Nat.zero_le _, by omega, rfl, fun i hi => absurd hi (Nat.not_lt_zero _), Below.refl _ _⟩
    case round =>
      obtain ⟨k, hk, hg, rfl, HT, HW⟩ := hrel
      by_cases hlt : k < la
      · obtain ⟨bA, oA, rfl, hbA, hcA⟩ := KA.out.at_ (by omega)
        obtain ⟨bB, oB, rfl, hbB, hcB⟩ := KB.out.at_ (by omega)
        obtain ⟨ax, lx, cx, hx, hIx⟩ := hcA k hlt
        obtain ⟨ay, ly, cy, hy, hIy⟩ := hcB k hlt
        have hx2 := (HW.out.cell (p := ⟨bA, oA + k, none⟩) hbA).trans hx
        have hy2 := (HW.out.cell (p := ⟨bB, oB + k, none⟩) hbB).trans hy
        have HX := Lib.hid ((hIx.below HW.out).below (Below.refl _ wr).drew)
        have HY := Lib.hid ((hIy.below HW.out).below (Below.refl _ wr).drew)
        have HWd : Hid (Below w.heap.size w wr.drew) := HW.out.drew
        clear hcA hcB hx hy hIx hIy
        cases hs : sameB (rowL L k) (rowL M k) with
        | true =>
          have HT2 : Hid (∀ i, i < k + 1 → sameB (rowL L i) (rowL M i) = true) := fun i hi => by
            rcases Nat.lt_succ_iff_lt_or_eq.1 hi with h | h
            · exact HT.out i h
            · subst h; exact hs
          have HS := Lib.hid hs
          clear hs
          go_wp2_with fail
          refine wp_region_still_call 8 mixed (by kernel_rfl) ?_
          simp only [List.take_succ_cons, List.take_zero, List.getElem?_cons_succ, List.getElem?_cons_zero]
          repeat still_step
          refine wpStill_nil ?_
          intro KC hKC
          simp only [List.drop_succ_cons, List.drop_zero] at hKC
          go_simp
          refine (same_any _ _ _ _ _ _ _ _ _ HX.out HY.out).mono ?_
          rintro e w7 ⟨rfl, hb7⟩
          rw [HS.out]
          have HW7 := Lib.hid (HWd.out.trans (hb7.mono HWd.out.size))
          clear hb7
          refine hKC _ _ ?_
          clear hKC KC
          repeat still_step
          refine wpStill_nil ?_
          go_wp2
          go_roundg (la - (k + 1))
          case measure => exact Nat.lt_of_lt_of_le (Nat.sub_lt_sub_left hlt (Nat.lt_succ_self k)) hg
          case rel => exact ⟨k + 1, Nat.succ_le_of_lt hlt, Nat.le_refl _, by go_num, HT2, HW7⟩
        | false =>
          have HR := Lib.hid (gridsB_hit (L := L) (M := M) (k := k) (by rw [LA.out]; exact hlt) hs)
          have HS := Lib.hid hs
          clear hs
          go_wp2_with fail
          refine wp_region_still_call 8 mixed (by kernel_rfl) ?_
          simp only [List.take_succ_cons, List.take_zero, List.getElem?_cons_succ, List.getElem?_cons_zero]
          repeat still_step
          refine wpStill_nil ?_
          intro KC hKC
          simp only [List.drop_succ_cons, List.drop_zero] at hKC
          go_simp
          refine (same_any _ _ _ _ _ _ _ _ _ HX.out HY.out).mono ?_
          rintro e w7 ⟨rfl, hb7⟩
          rw [HS.out]
          have HW7 := Lib.hid (HWd.out.trans (hb7.mono HWd.out.size))
          clear hb7
          refine hKC _ _ ?_
          clear hKC KC
          repeat still_step
          refine wpStill_nil ?_
          go_wp2
          go_ret
          exact ⟨by rw [HR.out]; rfl, HW7.out⟩
      · have HR := Lib.hid (gridsB_all (L := L) (M := M) (by rw [LA.out, LB.out]) (fun i hi => HT.out i (by rw [LA.out] at hi; omega)))
        go_wp2
        go_ret
        exact ⟨by rw [HR.out]; rfl, HW.out⟩
  · have hne : ((la : Int) != (lb : Int)) = true := by simp; omega
    have HR := Lib.hid (gridsB_len (L := L) (M := M) (by rw [LA.out, LB.out]; exact hl))
    clear hl
    go_enter Try.func40, Try.ntmps40
    go_wp2
    go_ret
    exact ⟨by rw [HR.out]; rfl, Below.refl _ _⟩
end Go.Proofs.Ytgmagldbfajedaa
