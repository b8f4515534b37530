import Derived.Test.YtekejcnphmnidaaGreatDoorZCoOf
import Derived.Test.YtekejcnphmnidaaGreatDoorZCoRL
import Derived.BigRegion
namespace Go.Proofs.YtekejcnphmnidaaGreatDoor
namespace Pl
open Gr Od Co
structure Kn where
  inn : Bool
  asked : Bool
  disk : Bool
  src : Bool
def srcB (x : Gr.Node) : Bool := decide (x.kind = 1) || decide (x.kind = 2)
def upd (K : Nat → Kn) (v : Nat) (k : Kn) : Nat → Kn := fun u => if u = v then k else K u
theorem upd_at (K : Nat → Kn) (v : Nat) (k : Kn) : upd K v k v = k := if_pos rfl
theorem upd_ne (K : Nat → Kn) (v : Nat) (k : Kn) {u : Nat} (h : u ≠ v) : upd K v k u = K u := if_neg h
def inAll (g : List Gr.Node) (K : Nat → Kn) (v : Nat) : Bool := (nodeN g v).inn.all fun u => (K u.toNat).inn
def beh (g : List Gr.Node) (K : Nat → Kn) (kind : Int) (v : Nat) : Option Kn :=
  if kind = 1 then (if (K v).inn = false ∧ (K v).asked = false ∧ (K v).disk = true then some ⟨(K v).inn, true, (K v).disk, (K v).src⟩ else none)
  else if kind = 2 then (if (K v).asked = true then some ⟨true, false, (K v).disk, (K v).src⟩ else none)
  else if kind = 3 then (if inAll g K v = true ∧ (K v).inn = false ∧ (K v).asked = false ∧ (K v).src = false then some ⟨true, (K v).asked, (K v).disk, (K v).src⟩ else none)
  else if kind = 4 then (if (K v).inn = true ∧ (K v).disk = false then some ⟨(K v).inn, (K v).asked, true, (K v).src⟩ else none)
  else if kind = 5 then (if (K v).inn = true then some ⟨false, (K v).asked, (K v).disk, (K v).src⟩ else none)
  else none
def stepK (g : List Gr.Node) (K : Nat → Kn) (s : Int × Int) : Option (Nat → Kn) :=
  if s.2 < 0 ∨ (g.length : Int) ≤ s.2 then none else match beh g K s.1 s.2.toNat with
    | none => none
    | some k => some (upd K s.2.toNat k)
theorem stepK_of {g : List Gr.Node} {K : Nat → Kn} {kind : Int} {v : Nat} {k : Kn} (hv : v < g.length) (h : beh g K kind v = some k) : stepK g K (kind, (v : Int)) = some (upd K v k) := by
  unfold stepK
  rw [if_neg (by simp only; omega)]
  simp only [Int.toNat_natCast, h]
def usedK (b : Nat → Int) (K : Nat → Kn) : Nat → Int
  | 0 => 0
  | k + 1 => usedK b K k + (if ((K k).inn || (K k).asked) = true then b k else 0)
def askedK (K : Nat → Kn) : Nat → Int
  | 0 => 0
  | k + 1 => askedK K k + (if (K k).asked = true then 1 else 0)
def endK (n : Nat) (K : Nat → Kn) : Nat → Bool
  | 0 => true
  | k + 1 => endK n K k && !((K k).asked || (decide (k + 1 = n) && !(K k).inn))
def runC (g : List Gr.Node) (b : Nat → Int) (room : Int) : Nat → (Nat → Kn) → List (Int × Int) → Int × Bool
  | i, K, [] => if endK g.length K g.length = true then (0, true) else ((i : Int), false)
  | i, K, s :: r => match stepK g K s with
    | none => ((i : Int), false)
    | some K' => if room < usedK b K' g.length ∨ 4 < askedK K' g.length then ((i : Int), false) else runC g b room (i + 1) K' r
def kn0 (g : List Gr.Node) : Nat → Kn := fun v => ⟨false, false, srcB (nodeN g v), srcB (nodeN g v)⟩
theorem endK_parts {n : Nat} {K : Nat → Kn} : ∀ m, endK n K m = true ↔ ∀ v, v < m → (K v).asked = false ∧ (v + 1 = n → (K v).inn = true)
  | 0 => by simp [endK]
  | m + 1 => by
    unfold endK
    rw [Bool.and_eq_true, endK_parts m]
    constructor
    · rintro ⟨h1, h2⟩ v hv
      by_cases c : v < m
      · exact h1 v c
      · obtain rfl : v = m := by omega
        cases ha : (K v).asked <;> cases hi : (K v).inn <;> simp [ha, hi] at h2 ⊢
        exact h2
    · intro h
      refine ⟨fun v hv => h v (by omega), ?_⟩
      obtain ⟨h1, h2⟩ := h m (by omega)
      rw [h1]
      by_cases c : m + 1 = n
      · simp [c, h2 c]
      · simp [c]
def bytesOf (g : List Gr.Node) (s : List (List Int)) : List Int := (costs g s).map fun c => c.bytes
theorem bytes_at {g : List Gr.Node} {s : List (List Int)} {i : Nat} (hi : i < g.length) : nth (bytesOf g s) i = 4 * size (rowL s i) := by
  unfold bytesOf costs costsK
  rw [nth_eq _ i (by simpa using hi)]
  simp [cost]
theorem bytes_nth {g : List Gr.Node} {s : List (List Int)} {i : Nat} (hi : i < g.length) : nth (bytesOf g s) i = (Co.costN (Co.costs g s) i).bytes := by
  have hl : (Co.costs g s).length = g.length := Co.costsK_length _ _ _
  unfold bytesOf
  rw [nth_eq _ i (by simp [hl, hi])]
  simp only [List.getElem_map]
  unfold Co.costN
  rw [List.getD_eq_getElem?_getD, List.getElem?_eq_getElem (by omega)]; rfl
def chkF (g : List Gr.Node) (room : Int) (l : List (Int × Int)) : Int × Bool := match shapes g with
  | none => (0, false)
  | some s => if room < 0 ∨ 1048576 < room then (0, false) else runC g (fun u => nth (bytesOf g s) u) room 0 (kn0 g) l
theorem chk_some {g : List Gr.Node} {s : List (List Int)} (h : shapes g = some s) {room : Int} (hr : 0 ≤ room ∧ room ≤ 1048576) (l : List (Int × Int)) : chkF g room l = runC g (fun u => nth (bytesOf g s) u) room 0 (kn0 g) l := by
  unfold chkF
  rw [h]
  simp only
  rw [if_neg (by omega)]
end Pl
open Go.RowKit
def stepN (l : List (Int × Int)) (i : Nat) : Int × Int := l.getD i (0, 0)
theorem stepN_left (l : List (Int × Int)) (s : Int × Int) (i : Nat) (h : i < l.length) : stepN (l ++ [s]) i = stepN l i := by
  unfold stepN; rw [List.getD_eq_getElem?_getD, List.getD_eq_getElem?_getD, List.getElem?_append_left h]
theorem stepN_last (l : List (Int × Int)) (s : Int × Int) : stepN (l ++ [s]) l.length = s := by
  unfold stepN; rw [List.getD_eq_getElem?_getD, List.getElem?_append_right (Nat.le_refl _)]; simp
structure StepsIn (w : World) (a : Option Addr) (len cap : Nat) (l : List (Int × Int)) : Prop where
  le : len ≤ cap
  cap_le : cap ≤ 9223372036854775807
  length : l.length = len
  at_ : 0 < len → ∃ b off, a = some ⟨b, off, none⟩ ∧ b < w.heap.size ∧ ∀ i, i < len → w.cell? ⟨b, off + i * 2, none⟩ = some (.int .u8 (stepN l i).1) ∧ w.cell? ⟨b, off + i * 2 + 1, none⟩ = some (.int .i64 (stepN l i).2)
theorem StepsIn.nil {w : World} : StepsIn w none 0 0 [] := ⟨Nat.le_refl _, by omega, rfl, (fun h => absurd h (Nat.lt_irrefl 0))⟩
theorem StepsIn.below {w w' : World} {a : Option Addr} {len cap : Nat} {l : List (Int × Int)} (h : StepsIn w a len cap l) (hb : Below w.heap.size w w') : StepsIn w' a len cap l :=
  ⟨h.le, h.cap_le, h.length, fun h0 => by
    obtain ⟨b, off, rfl, hlt, hc⟩ := h.at_ h0
    refine ⟨b, off, rfl, Nat.lt_of_lt_of_le hlt hb.size, fun i hi => ?_⟩
    obtain ⟨h1, h2⟩ := hc i hi
    exact ⟨(hb.cell (p := ⟨b, _, none⟩) hlt).trans h1, (hb.cell (p := ⟨b, _, none⟩) hlt).trans h2⟩⟩
theorem set_off (w : World) {G i j : Nat} (h : i ≠ j) (v : Value) : (w.setCell ⟨G, i, none⟩ v).cell? ⟨G, j, none⟩ = w.cell? ⟨G, j, none⟩ := by
  have hne : (⟨G, i, none⟩ : Addr) ≠ ⟨G, j, none⟩ := fun c => h (Addr.mk.inj c).2.1
  rw [World.cell?_setCell_other _ _ _ _ (by first | exact hne | exact hne.symm)]
def four (w : World) (B o : Nat) (v0 v1 v2 v3 : Value) : World := (((w.setCell ⟨B, o, none⟩ v0).setCell ⟨B, o + 1, none⟩ v1).setCell ⟨B, o + 2, none⟩ v2).setCell ⟨B, o + 3, none⟩ v3
theorem four_other (w : World) {B o A p : Nat} (h : A ≠ B ∨ p < o ∨ o + 3 < p) (v0 v1 v2 v3 : Value) : (four w B o v0 v1 v2 v3).cell? ⟨A, p, none⟩ = w.cell? ⟨A, p, none⟩ := by
  have hne : ∀ k, k < 4 → (⟨A, p, none⟩ : Addr) ≠ ⟨B, o + k, none⟩ := fun k hk e => by
    have h1 := congrArg Addr.block e
    have h2 := congrArg Addr.off e
    simp only at h1 h2
    omega
  unfold four
  rw [World.cell?_setCell_other _ _ _ _ (by first | exact hne 3 (by omega) | exact (hne 3 (by omega)).symm), World.cell?_setCell_other _ _ _ _ (by first | exact hne 2 (by omega) | exact (hne 2 (by omega)).symm),
    World.cell?_setCell_other _ _ _ _ (by first | exact hne 1 (by omega) | exact (hne 1 (by omega)).symm), World.cell?_setCell_other _ _ _ _ (by first | exact hne 0 (by omega) | exact (hne 0 (by omega)).symm)]
theorem four_same (w : World) {B o : Nat} {u0 u1 u2 u3 : Value} (h0 : w.cell? ⟨B, o, none⟩ = some u0) (h1 : w.cell? ⟨B, o + 1, none⟩ = some u1) (h2 : w.cell? ⟨B, o + 2, none⟩ = some u2) (h3 : w.cell? ⟨B, o + 3, none⟩ = some u3) (v0 v1 v2 v3 : Value) :
    (four w B o v0 v1 v2 v3).cell? ⟨B, o, none⟩ = some v0 ∧ (four w B o v0 v1 v2 v3).cell? ⟨B, o + 1, none⟩ = some v1 ∧ (four w B o v0 v1 v2 v3).cell? ⟨B, o + 2, none⟩ = some v2 ∧ (four w B o v0 v1 v2 v3).cell? ⟨B, o + 3, none⟩ = some v3 := by
  unfold four
  refine ⟨?_, ?_, ?_, ?_⟩
  · rw [set_off _ (by omega), set_off _ (by omega), set_off _ (by omega)]
    exact World.cell?_setCell_same _ _ _ h0
  · rw [set_off _ (by omega), set_off _ (by omega)]
    exact World.cell?_setCell_same _ _ _ ((set_off _ (by omega) _).trans h1)
  · rw [set_off _ (by omega)]
    exact World.cell?_setCell_same _ _ _ ((set_off _ (by omega) _).trans ((set_off _ (by omega) _).trans h2))
  · exact World.cell?_setCell_same _ _ _ ((set_off _ (by omega) _).trans ((set_off _ (by omega) _).trans ((set_off _ (by omega) _).trans h3)))
theorem four_below {base : Nat} {w0 w : World} (h : Below base w0 w) {B : Nat} (hB : base ≤ B) (o : Nat) (v0 v1 v2 v3 : Value) : Below base w0 (four w B o v0 v1 v2 v3) :=
  below_setCell (below_setCell (below_setCell (below_setCell h B _ _ hB) B _ _ hB) B _ _ hB) B _ _ hB
theorem four_frozen (w : World) (B o : Nat) (v0 v1 v2 v3 : Value) (p : Addr) : (four w B o v0 v1 v2 v3).frozen? p = w.frozen? p := by
  unfold four
  simp only [World.frozen?_setCell]
theorem four_size (w : World) (B o : Nat) (v0 v1 v2 v3 : Value) : (four w B o v0 v1 v2 v3).heap.size = w.heap.size := by unfold four; simp [World.setCell]
structure KnBox (w : World) (B : Nat) (K : Nat → Pl.Kn) : Prop where
  lt : B < w.heap.size
  fr : ∀ o, o < 128 → w.frozen? ⟨B, o, none⟩ = false
  at_ : ∀ v, v < 32 → w.cell? ⟨B, v * 4, none⟩ = some (.bool (K v).inn) ∧ w.cell? ⟨B, v * 4 + 1, none⟩ = some (.bool (K v).asked) ∧ w.cell? ⟨B, v * 4 + 2, none⟩ = some (.bool (K v).disk) ∧ w.cell? ⟨B, v * 4 + 3, none⟩ = some (.bool (K v).src)
theorem KnBox.below {w w' : World} {B : Nat} {K : Nat → Pl.Kn} (h : KnBox w B K) (hb : Below w.heap.size w w') : KnBox w' B K :=
  ⟨Nat.lt_of_lt_of_le h.lt hb.size, fun o ho => (hb.frozen (p := ⟨B, o, none⟩) h.lt).trans (h.fr o ho), fun v hv => by
    obtain ⟨h0, h1, h2, h3⟩ := h.at_ v hv
    exact ⟨(hb.cell (p := ⟨B, _, none⟩) h.lt).trans h0, (hb.cell (p := ⟨B, _, none⟩) h.lt).trans h1, (hb.cell (p := ⟨B, _, none⟩) h.lt).trans h2, (hb.cell (p := ⟨B, _, none⟩) h.lt).trans h3⟩⟩
theorem KnBox.set {w : World} {B : Nat} {K : Nat → Pl.Kn} (h : KnBox w B K) {v : Nat} (hv : v < 32) (k : Pl.Kn) : KnBox (four w B (v * 4) (.bool k.inn) (.bool k.asked) (.bool k.disk) (.bool k.src)) B (Pl.upd K v k) := by
  obtain ⟨h0, h1, h2, h3⟩ := h.at_ v hv
  refine ⟨by rw [four_size]; exact h.lt, fun o ho => by rw [four_frozen]; exact h.fr o ho, fun u hu => ?_⟩
  by_cases c : u = v
  · subst c
    rw [Pl.upd_at]
    exact four_same w h0 h1 h2 h3 _ _ _ _
  · rw [Pl.upd_ne _ _ _ c]
    obtain ⟨g0, g1, g2, g3⟩ := h.at_ u hu
    refine ⟨?_, ?_, ?_, ?_⟩
    · rw [four_other w (by omega)]; exact g0
    · rw [four_other w (by omega)]; exact g1
    · rw [four_other w (by omega)]; exact g2
    · rw [four_other w (by omega)]; exact g3
theorem KnBox.congr {w : World} {B : Nat} {K K' : Nat → Pl.Kn} (h : KnBox w B K) (e : ∀ v, v < 32 → K v = K' v) : KnBox w B K' :=
  ⟨h.lt, h.fr, fun v hv => by rw [← e v hv]; exact h.at_ v hv⟩
end Go.Proofs.YtekejcnphmnidaaGreatDoor

namespace Go.Proofs.YtekejcnphmnidaaGreatDoor
open Go.RowKit
def BehE (g : List Gr.Node) (K : Nat → Pl.Kn) (kd : Int) (v : Nat) (e : Ending) : Prop :=
  ∃ n : Pl.Kn, e = .returned (.tuple #[.agg #[.bool n.inn, .bool n.asked, .bool n.disk, .bool n.src], .bool (Pl.beh g K kd v).isSome]) ∧ ∀ k, Pl.beh g K kd v = some k → k = n
theorem behE_of {g : List Gr.Node} {K : Nat → Pl.Kn} {kd : Int} {v : Nat} {i k s r c : Bool} (h : Pl.beh g K kd v = if c = true then some ⟨i, k, s, r⟩ else none) : BehE g K kd v (.returned (.tuple #[.agg #[.bool i, .bool k, .bool s, .bool r], .bool c])) := by
  refine ⟨⟨i, k, s, r⟩, ?_, fun n hn => ?_⟩
  · rw [h]; cases c <;> rfl
  · rw [h] at hn
    cases c
    · cases hn
    · exact (Option.some.inj hn).symm
theorem behE_none {g : List Gr.Node} {K : Nat → Pl.Kn} {kd : Int} {v : Nat} (h : Pl.beh g K kd v = none) (i k s r : Bool) : BehE g K kd v (.returned (.tuple #[.agg #[.bool i, .bool k, .bool s, .bool r], .bool false])) :=
  behE_of (c := false) h
namespace Pl
variable {g : List Gr.Node} {K : Nat → Kn} {v : Nat} {i k s r : Bool}
theorem beh_ask (h : K v = ⟨i, k, s, r⟩) : beh g K 1 v = if (!i && !k && s) = true then some ⟨i, true, s, r⟩ else none := by
  unfold beh; rw [h]; cases i <;> cases k <;> cases s <;> rfl
theorem beh_wait (h : K v = ⟨i, k, s, r⟩) : beh g K 2 v = if k = true then some ⟨true, false, s, r⟩ else none := by
  unfold beh; rw [h]; cases k <;> rfl
theorem beh_do (h : K v = ⟨i, k, s, r⟩) (ha : inAll g K v = true) : beh g K 3 v = if (!i && !k && !r) = true then some ⟨true, k, s, r⟩ else none := by
  unfold beh; rw [h, ha]; cases i <;> cases k <;> cases r <;> rfl
theorem beh_do_miss (_ : K v = ⟨i, k, s, r⟩) (ha : inAll g K v = false) : beh g K 3 v = none := by
  unfold beh; rw [ha]; rfl
theorem beh_store (h : K v = ⟨i, k, s, r⟩) : beh g K 4 v = if (i && !s) = true then some ⟨i, k, true, r⟩ else none := by
  unfold beh; rw [h]; cases i <;> cases s <;> rfl
theorem beh_drop (h : K v = ⟨i, k, s, r⟩) : beh g K 5 v = if i = true then some ⟨false, k, s, r⟩ else none := by
  unfold beh; rw [h]; cases i <;> rfl
theorem beh_else {kd : Int} (q1 : ¬ kd = 1) (q2 : ¬ kd = 2) (q3 : ¬ kd = 3) (q4 : ¬ kd = 4) (q5 : ¬ kd = 5) : beh g K kd v = none := by
  unfold beh; rw [if_neg q1, if_neg q2, if_neg q3, if_neg q4, if_neg q5]
theorem inAll_all (h : ∀ j, j < (nodeN g v).inn.length → (K (nth (nodeN g v).inn j).toNat).inn = true) : inAll g K v = true := by
  unfold inAll
  rw [List.all_eq_true]
  intro x hx
  obtain ⟨j, hj, rfl⟩ := List.getElem_of_mem hx
  have := h j hj
  rw [nth_eq _ j hj] at this
  exact this
theorem inAll_miss {j : Nat} (hj : j < (nodeN g v).inn.length) (h : (K (nth (nodeN g v).inn j).toNat).inn = false) : inAll g K v = false := by
  unfold inAll
  rw [List.all_eq_false]
  exact ⟨_, nth_mem _ j hj, by rw [h]; simp⟩
end Pl
theorem four_lit (w w0 : World) (base B : Nat) {u0 u1 u2 u3 : Value} (h0 : w.cell? ⟨B, 0, none⟩ = some u0) (h1 : w.cell? ⟨B, 1, none⟩ = some u1) (h2 : w.cell? ⟨B, 2, none⟩ = some u2) (h3 : w.cell? ⟨B, 3, none⟩ = some u3) (hb : Below base w0 w) (hB : base ≤ B) (v0 v1 v2 v3 : Value) :
    ((((w.setCell ⟨B, 0, none⟩ v0).setCell ⟨B, 1, none⟩ v1).setCell ⟨B, 2, none⟩ v2).setCell ⟨B, 3, none⟩ v3).cell? ⟨B, 0, none⟩ = some v0 ∧ ((((w.setCell ⟨B, 0, none⟩ v0).setCell ⟨B, 1, none⟩ v1).setCell ⟨B, 2, none⟩ v2).setCell ⟨B, 3, none⟩ v3).cell? ⟨B, 1, none⟩ = some v1 ∧ ((((w.setCell ⟨B, 0, none⟩ v0).setCell ⟨B, 1, none⟩ v1).setCell ⟨B, 2, none⟩ v2).setCell ⟨B, 3, none⟩ v3).cell? ⟨B, 2, none⟩ = some v2 ∧ ((((w.setCell ⟨B, 0, none⟩ v0).setCell ⟨B, 1, none⟩ v1).setCell ⟨B, 2, none⟩ v2).setCell ⟨B, 3, none⟩ v3).cell? ⟨B, 3, none⟩ = some v3 ∧ Below base w0 ((((w.setCell ⟨B, 0, none⟩ v0).setCell ⟨B, 1, none⟩ v1).setCell ⟨B, 2, none⟩ v2).setCell ⟨B, 3, none⟩ v3) := by
  obtain ⟨t0, t1, t2, t3⟩ := four_same w (B := B) (o := 0) h0 h1 h2 h3 v0 v1 v2 v3
  have hb4 := four_below hb hB 0 v0 v1 v2 v3
  unfold four at t0 t1 t2 t3 hb4
  simp only [Nat.zero_add] at t0 t1 t2 t3 hb4
  exact ⟨t0, t1, t2, t3, hb4⟩
theorem four_drew (w w0 : World) (base B : Nat) {u0 u1 u2 u3 : Value} (h0 : w.cell? ⟨B, 0, none⟩ = some u0) (h1 : w.cell? ⟨B, 1, none⟩ = some u1) (h2 : w.cell? ⟨B, 2, none⟩ = some u2) (h3 : w.cell? ⟨B, 3, none⟩ = some u3) (hb : Below base w0 w) (hB : base ≤ B) (v0 v1 v2 v3 : Value) :
    ((((w.setCell ⟨B, 0, none⟩ v0).setCell ⟨B, 1, none⟩ v1).setCell ⟨B, 2, none⟩ v2).setCell ⟨B, 3, none⟩ v3).drew.cell? ⟨B, 0, none⟩ = some v0 ∧ ((((w.setCell ⟨B, 0, none⟩ v0).setCell ⟨B, 1, none⟩ v1).setCell ⟨B, 2, none⟩ v2).setCell ⟨B, 3, none⟩ v3).drew.cell? ⟨B, 1, none⟩ = some v1 ∧ ((((w.setCell ⟨B, 0, none⟩ v0).setCell ⟨B, 1, none⟩ v1).setCell ⟨B, 2, none⟩ v2).setCell ⟨B, 3, none⟩ v3).drew.cell? ⟨B, 2, none⟩ = some v2 ∧ ((((w.setCell ⟨B, 0, none⟩ v0).setCell ⟨B, 1, none⟩ v1).setCell ⟨B, 2, none⟩ v2).setCell ⟨B, 3, none⟩ v3).drew.cell? ⟨B, 3, none⟩ = some v3 ∧ Below base w0 ((((w.setCell ⟨B, 0, none⟩ v0).setCell ⟨B, 1, none⟩ v1).setCell ⟨B, 2, none⟩ v2).setCell ⟨B, 3, none⟩ v3).drew := by
  obtain ⟨t0, t1, t2, t3, hb4⟩ := four_lit w w0 base B h0 h1 h2 h3 hb hB v0 v1 v2 v3
  generalize ((((w.setCell ⟨B, 0, none⟩ v0).setCell ⟨B, 1, none⟩ v1).setCell ⟨B, 2, none⟩ v2).setCell ⟨B, 3, none⟩ v3) = W at *
  exact ⟨t0, t1, t2, t3, hb4.drew⟩
theorem eql_ask (i k s r : Bool) (w : World) : (binOp BinOp.eql 130 (.agg #[.bool i, .bool k, .bool s, .bool r]) (.agg #[.bool false, .bool false, .bool true, .bool r])).run Tryz.prog w = .ok (.bool (!i && !k && s)) w := by
  cases i <;> cases k <;> cases s <;> cases r <;> kernel_rfl
theorem eql_do (i k s r : Bool) (w : World) : (binOp BinOp.eql 130 (.agg #[.bool i, .bool k, .bool s, .bool r]) (.agg #[.bool false, .bool false, .bool s, .bool false])).run Tryz.prog w = .ok (.bool (!i && !k && !r)) w := by
  cases i <;> cases k <;> cases s <;> cases r <;> kernel_rfl
set_option maxHeartbeats 4000000 in
set_option maxRecDepth 100000 in
theorem behind_any (a : Option Addr) (len cap : Nat) (g : List Gr.Node) (B : Nat) (K : Nat → Pl.Kn) (kd : Int) (v : Nat) (w : World) (HN : Nodes w a len cap g) (HB : KnBox w B K) (hl : len ≤ 32) (hv : v < len) (hinn : ∀ u ∈ (nodeN g v).inn, 0 ≤ u ∧ u < 32) :
    Calls Tryz.prog 127 #[.pointer (some ⟨B, 0, none⟩), .agg #[.slice a len cap], .agg #[.int .u8 kd, .int .i64 v]] w fun e w' => BehE g K kd v e ∧ Below w.heap.size w w' := by
  have hle := HN.le
  have hcl := HN.cap_le
  have KN := Lib.hid HN
  have KB := Lib.hid HB
  have HI := Lib.hid hinn
  obtain ⟨b0, b1, b2, b3⟩ := HB.at_ v (by omega)
  have hBl := HB.lt
  have HB3 : Hid (Below w.heap.size w (((w.alloc (.cells #[.slice a len cap] 56)).alloc (.cells #[.int .u8 kd, .int .i64 v] 128)).alloc (.cells #[.bool false, .bool false, .bool false, .bool false] 130))) := (((Below.refl _ _).alloc (Nat.le_refl _) _).alloc (by simp) _).alloc (by simp; omega) _
  clear HN HB hinn
  go_enter Tryz.func127, Tryz.ntmps127
  go_wp2_with fail
  have g0 : (((w.alloc (.cells #[.slice a len cap] 56)).alloc (.cells #[.int .u8 kd, .int .i64 v] 128)).alloc (.cells #[.bool false, .bool false, .bool false, .bool false] 130)).cell? ⟨w.heap.size, 0, none⟩ = some (.slice a len cap) := Lib.cell?_alloc_some _ (Lib.cell?_alloc_some _ (by rw [World.cell?_alloc_at _ _ _ _ rfl]; rfl))
  have x0 : (((w.alloc (.cells #[.slice a len cap] 56)).alloc (.cells #[.int .u8 kd, .int .i64 v] 128)).alloc (.cells #[.bool false, .bool false, .bool false, .bool false] 130)).cell? ⟨w.heap.size + 1, 0, none⟩ = some (.int .u8 kd) := Lib.cell?_alloc_some _ (by rw [World.cell?_alloc_at _ _ _ _ (by simp)]; rfl)
  have x1 : (((w.alloc (.cells #[.slice a len cap] 56)).alloc (.cells #[.int .u8 kd, .int .i64 v] 128)).alloc (.cells #[.bool false, .bool false, .bool false, .bool false] 130)).cell? ⟨w.heap.size + 1, 1, none⟩ = some (.int .i64 v) := Lib.cell?_alloc_some _ (by rw [World.cell?_alloc_at _ _ _ _ (by simp)]; rfl)
  have n0 : ∀ i, i < 4 → (((w.alloc (.cells #[.slice a len cap] 56)).alloc (.cells #[.int .u8 kd, .int .i64 v] 128)).alloc (.cells #[.bool false, .bool false, .bool false, .bool false] 130)).cell? ⟨w.heap.size + 2, i, none⟩ = some (.bool false) := fun i hi => by
    rcases (by omega : i = 0 ∨ i = 1 ∨ i = 2 ∨ i = 3) with rfl | rfl | rfl | rfl <;> (rw [World.cell?_alloc_at _ _ _ _ (by simp)]; rfl)
  have nf : ∀ i, (((w.alloc (.cells #[.slice a len cap] 56)).alloc (.cells #[.int .u8 kd, .int .i64 v] 128)).alloc (.cells #[.bool false, .bool false, .bool false, .bool false] 130)).frozen? ⟨w.heap.size + 2, i, none⟩ = false := fun i => World.frozen?_alloc_at _ _ _ _ (by simp)
  have hz3 : (((w.alloc (.cells #[.slice a len cap] 56)).alloc (.cells #[.int .u8 kd, .int .i64 v] 128)).alloc (.cells #[.bool false, .bool false, .bool false, .bool false] 130)).heap.size = w.heap.size + 3 := by simp
  have y0 := (HB3.out.cell (p := ⟨B, _, none⟩) hBl).trans b0
  have y1 := (HB3.out.cell (p := ⟨B, _, none⟩) hBl).trans b1
  have y2 := (HB3.out.cell (p := ⟨B, _, none⟩) hBl).trans b2
  have y3 := (HB3.out.cell (p := ⟨B, _, none⟩) hBl).trans b3
  clear b0 b1 b2 b3
  generalize (((w.alloc (.cells #[.slice a len cap] 56)).alloc (.cells #[.int .u8 kd, .int .i64 v] 128)).alloc (.cells #[.bool false, .bool false, .bool false, .bool false] 130)) = w3 at *
  have z0 : ∀ o, (w3.alloc o).cell? ⟨B, v * 4, none⟩ = some (.bool (K v).inn) := fun o => Lib.cell?_alloc_some _ y0
  have z1 : ∀ o, (w3.alloc o).cell? ⟨B, v * 4 + 1, none⟩ = some (.bool (K v).asked) := fun o => Lib.cell?_alloc_some _ y1
  have z2 : ∀ o, (w3.alloc o).cell? ⟨B, v * 4 + 2, none⟩ = some (.bool (K v).disk) := fun o => Lib.cell?_alloc_some _ y2
  have z3 : ∀ o, (w3.alloc o).cell? ⟨B, v * 4 + 3, none⟩ = some (.bool (K v).src) := fun o => Lib.cell?_alloc_some _ y3
  have u1 : ∀ o, (w3.alloc o).cell? ⟨w.heap.size + 1, 1, none⟩ = some (.int .i64 v) := fun o => Lib.cell?_alloc_some _ x1
  have hv32 : (v : Int) < 32 := by omega
  have HB4 : Hid (Below w3.heap.size w3 (w3.alloc (.cells #[.bool (K v).inn, .bool (K v).asked, .bool (K v).disk, .bool (K v).src] 130)).drew) := ((Below.refl _ _).alloc (Nat.le_refl _) _).drew
  have a0 : (w3.alloc (.cells #[.bool (K v).inn, .bool (K v).asked, .bool (K v).disk, .bool (K v).src] 130)).drew.cell? ⟨w.heap.size + 3, 0, none⟩ = some (.bool (K v).inn) := by show (w3.alloc _).cell? _ = _; rw [World.cell?_alloc_at _ _ _ _ hz3.symm]; rfl
  have a1 : (w3.alloc (.cells #[.bool (K v).inn, .bool (K v).asked, .bool (K v).disk, .bool (K v).src] 130)).drew.cell? ⟨w.heap.size + 3, 1, none⟩ = some (.bool (K v).asked) := by show (w3.alloc _).cell? _ = _; rw [World.cell?_alloc_at _ _ _ _ hz3.symm]; rfl
  have a2 : (w3.alloc (.cells #[.bool (K v).inn, .bool (K v).asked, .bool (K v).disk, .bool (K v).src] 130)).drew.cell? ⟨w.heap.size + 3, 2, none⟩ = some (.bool (K v).disk) := by show (w3.alloc _).cell? _ = _; rw [World.cell?_alloc_at _ _ _ _ hz3.symm]; rfl
  have a3 : (w3.alloc (.cells #[.bool (K v).inn, .bool (K v).asked, .bool (K v).disk, .bool (K v).src] 130)).drew.cell? ⟨w.heap.size + 3, 3, none⟩ = some (.bool (K v).src) := by show (w3.alloc _).cell? _ = _; rw [World.cell?_alloc_at _ _ _ _ hz3.symm]; rfl
  go_region
  generalize (w3.alloc (.cells #[.bool (K v).inn, .bool (K v).asked, .bool (K v).disk, .bool (K v).src] 130)).drew = w4 at *
  have c0 := (HB4.out.cell (p := ⟨w.heap.size + 2, 0, none⟩) (by show w.heap.size + 2 < w3.heap.size; omega)).trans (n0 0 (by omega))
  have c1 := (HB4.out.cell (p := ⟨w.heap.size + 2, 1, none⟩) (by show w.heap.size + 2 < w3.heap.size; omega)).trans (n0 1 (by omega))
  have c2 := (HB4.out.cell (p := ⟨w.heap.size + 2, 2, none⟩) (by show w.heap.size + 2 < w3.heap.size; omega)).trans (n0 2 (by omega))
  have c3 := (HB4.out.cell (p := ⟨w.heap.size + 2, 3, none⟩) (by show w.heap.size + 2 < w3.heap.size; omega)).trans (n0 3 (by omega))
  have d0 := (HB4.out.frozen (p := ⟨w.heap.size + 2, 0, none⟩) (by show w.heap.size + 2 < w3.heap.size; omega)).trans (nf 0)
  have d1 := (HB4.out.frozen (p := ⟨w.heap.size + 2, 1, none⟩) (by show w.heap.size + 2 < w3.heap.size; omega)).trans (nf 1)
  have d2 := (HB4.out.frozen (p := ⟨w.heap.size + 2, 2, none⟩) (by show w.heap.size + 2 < w3.heap.size; omega)).trans (nf 2)
  have d3 := (HB4.out.frozen (p := ⟨w.heap.size + 2, 3, none⟩) (by show w.heap.size + 2 < w3.heap.size; omega)).trans (nf 3)
  have e0 := (HB4.out.cell (p := ⟨w.heap.size + 1, 0, none⟩) (by show w.heap.size + 1 < w3.heap.size; omega)).trans x0
  have e1 := (HB4.out.cell (p := ⟨w.heap.size + 1, 1, none⟩) (by show w.heap.size + 1 < w3.heap.size; omega)).trans x1
  have G0 := Lib.hid ((HB4.out.cell (p := ⟨w.heap.size, 0, none⟩) (by show w.heap.size < w3.heap.size; omega)).trans g0)
  have HB := Lib.hid (HB3.out.trans (HB4.out.mono (by omega)))
  clear n0 nf x0 x1 y0 y1 y2 y3 z0 z1 z2 z3 u1 g0 HB3
  have HK : Hid (K v = ⟨(K v).inn, (K v).asked, (K v).disk, (K v).src⟩) := rfl
  generalize (K v).inn = i0 at *
  generalize (K v).asked = k0 at *
  generalize (K v).disk = s0 at *
  generalize (K v).src = r0 at *
  obtain ⟨F0, F1, F2, F3⟩ := four_same w4 (B := w.heap.size + 1 + 1) (o := 0) c0 c1 c2 c3 (.bool i0) (.bool k0) (.bool s0) (.bool r0)
  have f0 : ((((w4.setCell ⟨w.heap.size + 1 + 1, 0, none⟩ (.bool i0)).setCell ⟨w.heap.size + 1 + 1, 1, none⟩ (.bool k0)).setCell ⟨w.heap.size + 1 + 1, 2, none⟩ (.bool s0)).setCell ⟨w.heap.size + 1 + 1, 3, none⟩ (.bool r0)).cell? ⟨w.heap.size + 1 + 1, 0, none⟩ = some (.bool i0) := F0
  have f1 : ((((w4.setCell ⟨w.heap.size + 1 + 1, 0, none⟩ (.bool i0)).setCell ⟨w.heap.size + 1 + 1, 1, none⟩ (.bool k0)).setCell ⟨w.heap.size + 1 + 1, 2, none⟩ (.bool s0)).setCell ⟨w.heap.size + 1 + 1, 3, none⟩ (.bool r0)).cell? ⟨w.heap.size + 1 + 1, 1, none⟩ = some (.bool k0) := F1
  have f2 : ((((w4.setCell ⟨w.heap.size + 1 + 1, 0, none⟩ (.bool i0)).setCell ⟨w.heap.size + 1 + 1, 1, none⟩ (.bool k0)).setCell ⟨w.heap.size + 1 + 1, 2, none⟩ (.bool s0)).setCell ⟨w.heap.size + 1 + 1, 3, none⟩ (.bool r0)).cell? ⟨w.heap.size + 1 + 1, 2, none⟩ = some (.bool s0) := F2
  have f3 : ((((w4.setCell ⟨w.heap.size + 1 + 1, 0, none⟩ (.bool i0)).setCell ⟨w.heap.size + 1 + 1, 1, none⟩ (.bool k0)).setCell ⟨w.heap.size + 1 + 1, 2, none⟩ (.bool s0)).setCell ⟨w.heap.size + 1 + 1, 3, none⟩ (.bool r0)).cell? ⟨w.heap.size + 1 + 1, 3, none⟩ = some (.bool r0) := F3
  have h0 : ∀ p, ((((w4.setCell ⟨w.heap.size + 1 + 1, 0, none⟩ (.bool i0)).setCell ⟨w.heap.size + 1 + 1, 1, none⟩ (.bool k0)).setCell ⟨w.heap.size + 1 + 1, 2, none⟩ (.bool s0)).setCell ⟨w.heap.size + 1 + 1, 3, none⟩ (.bool r0)).frozen? p = w4.frozen? p := fun p => by simp only [World.frozen?_setCell]
  have k1 : ∀ A o, A ≠ w.heap.size + 1 + 1 → ((((w4.setCell ⟨w.heap.size + 1 + 1, 0, none⟩ (.bool i0)).setCell ⟨w.heap.size + 1 + 1, 1, none⟩ (.bool k0)).setCell ⟨w.heap.size + 1 + 1, 2, none⟩ (.bool s0)).setCell ⟨w.heap.size + 1 + 1, 3, none⟩ (.bool r0)).cell? ⟨A, o, none⟩ = w4.cell? ⟨A, o, none⟩ := fun A o h => four_other w4 (B := w.heap.size + 1 + 1) (o := 0) (.inl h) _ _ _ _
  have HB5 : Hid (Below w.heap.size w ((((w4.setCell ⟨w.heap.size + 1 + 1, 0, none⟩ (.bool i0)).setCell ⟨w.heap.size + 1 + 1, 1, none⟩ (.bool k0)).setCell ⟨w.heap.size + 1 + 1, 2, none⟩ (.bool s0)).setCell ⟨w.heap.size + 1 + 1, 3, none⟩ (.bool r0))) := four_below HB.out (B := w.heap.size + 1 + 1) (by omega) 0 _ _ _ _
  have b0 := (k1 (w.heap.size + 3) 0 (by omega)).trans a0
  have b1 := (k1 (w.heap.size + 3) 1 (by omega)).trans a1
  have b2 := (k1 (w.heap.size + 3) 2 (by omega)).trans a2
  have b3 := (k1 (w.heap.size + 3) 3 (by omega)).trans a3
  have y0 := (k1 (w.heap.size + 1) 0 (by omega)).trans e0
  have y1 := (k1 (w.heap.size + 1) 1 (by omega)).trans e1
  have G5 := Lib.hid ((k1 w.heap.size 0 (by omega)).trans G0.out)
  have g0 := (h0 _).trans d0
  have g1 := (h0 _).trans d1
  have g2 := (h0 _).trans d2
  have g3 := (h0 _).trans d3
  by_cases q1 : kd = 1
  · subst q1
    have p1 : ((1 : Int) == 1) = true := by decide
    have hq := eql_ask i0 k0 s0 r0
    go_wp2_with fail
    generalize ((((w4.setCell ⟨w.heap.size + 1 + 1, 0, none⟩ (.bool i0)).setCell ⟨w.heap.size + 1 + 1, 1, none⟩ (.bool k0)).setCell ⟨w.heap.size + 1 + 1, 2, none⟩ (.bool s0)).setCell ⟨w.heap.size + 1 + 1, 3, none⟩ (.bool r0)) = w5 at *
    clear F0 F1 F2 F3 h0 k1 G0 a0 a1 a2 a3 c0 c1 c2 c3 d0 d1 d2 d3 e0 e1 HB
    have m1 : (w5.setCell ⟨w.heap.size + 1 + 1, 1, none⟩ (.bool true)).cell? ⟨w.heap.size + 1 + 1, 0, none⟩ = some (.bool i0) := (set_off _ (by decide) _).trans f0
    have m2 : (w5.setCell ⟨w.heap.size + 1 + 1, 1, none⟩ (.bool true)).cell? ⟨w.heap.size + 1 + 1, 1, none⟩ = some (.bool true) := World.cell?_setCell_same _ _ _ f1
    have m3 : (w5.setCell ⟨w.heap.size + 1 + 1, 1, none⟩ (.bool true)).cell? ⟨w.heap.size + 1 + 1, 2, none⟩ = some (.bool s0) := (set_off _ (by decide) _).trans f2
    have m4 : (w5.setCell ⟨w.heap.size + 1 + 1, 1, none⟩ (.bool true)).cell? ⟨w.heap.size + 1 + 1, 3, none⟩ = some (.bool r0) := (set_off _ (by decide) _).trans f3
    go_region
    have hb1 : Below w.heap.size w (w5.setCell ⟨w.heap.size + 1 + 1, 1, none⟩ (.bool true)) := below_setCell HB5.out (w.heap.size + 1 + 1) 1 (.bool true) (by omega)
    obtain ⟨t0, t1, t2, t3, hb7⟩ := four_drew (w5.setCell ⟨w.heap.size + 1 + 1, 1, none⟩ (.bool true)) w w.heap.size (w.heap.size + 1 + 1) m1 m2 m3 m4 hb1 (by omega) (.bool i0) (.bool true) (.bool s0) (.bool r0)
    have HB7 := Lib.hid hb7
    clear hb7 hb1
    generalize (((((w5.setCell ⟨w.heap.size + 1 + 1, 1, none⟩ (.bool true)).setCell ⟨w.heap.size + 1 + 1, 0, none⟩ (.bool i0)).setCell ⟨w.heap.size + 1 + 1, 1, none⟩ (.bool true)).setCell ⟨w.heap.size + 1 + 1, 2, none⟩ (.bool s0)).setCell ⟨w.heap.size + 1 + 1, 3, none⟩ (.bool r0)).drew = w7 at *
    go_wp2
    refine bodyPost_ret (by simp [results, Tryz.results127, go_sem, t0, t1, t2, t3]; try rfl) rfl ?_
    exact ⟨behE_of (Pl.beh_ask HK.out), HB7.out⟩
  by_cases q2 : kd = 2
  · subst q2
    have p1 : ((2 : Int) == 1) = false := by decide
    have p2 : ((2 : Int) == 2) = true := by decide
    clear q1
    go_wp2_with fail
    generalize ((((w4.setCell ⟨w.heap.size + 1 + 1, 0, none⟩ (.bool i0)).setCell ⟨w.heap.size + 1 + 1, 1, none⟩ (.bool k0)).setCell ⟨w.heap.size + 1 + 1, 2, none⟩ (.bool s0)).setCell ⟨w.heap.size + 1 + 1, 3, none⟩ (.bool r0)) = w5 at *
    clear F0 F1 F2 F3 h0 k1 G0 a0 a1 a2 a3 c0 c1 c2 c3 d0 d1 d2 d3 e0 e1 HB
    have m1 : (w5.setCell ⟨w.heap.size + 1 + 1, 0, none⟩ (.bool true)).cell? ⟨w.heap.size + 1 + 1, 0, none⟩ = some (.bool true) := World.cell?_setCell_same _ _ _ f0
    have m2 : (w5.setCell ⟨w.heap.size + 1 + 1, 0, none⟩ (.bool true)).cell? ⟨w.heap.size + 1 + 1, 1, none⟩ = some (.bool k0) := (set_off _ (by decide) _).trans f1
    have m3 : (w5.setCell ⟨w.heap.size + 1 + 1, 0, none⟩ (.bool true)).cell? ⟨w.heap.size + 1 + 1, 2, none⟩ = some (.bool s0) := (set_off _ (by decide) _).trans f2
    have m4 : (w5.setCell ⟨w.heap.size + 1 + 1, 0, none⟩ (.bool true)).cell? ⟨w.heap.size + 1 + 1, 3, none⟩ = some (.bool r0) := (set_off _ (by decide) _).trans f3
    have m5 : ((w5.setCell ⟨w.heap.size + 1 + 1, 0, none⟩ (.bool true)).setCell ⟨w.heap.size + 1 + 1, 1, none⟩ (.bool false)).cell? ⟨w.heap.size + 1 + 1, 0, none⟩ = some (.bool true) := (set_off _ (by decide) _).trans m1
    have m6 : ((w5.setCell ⟨w.heap.size + 1 + 1, 0, none⟩ (.bool true)).setCell ⟨w.heap.size + 1 + 1, 1, none⟩ (.bool false)).cell? ⟨w.heap.size + 1 + 1, 1, none⟩ = some (.bool false) := World.cell?_setCell_same _ _ _ m2
    have m7 : ((w5.setCell ⟨w.heap.size + 1 + 1, 0, none⟩ (.bool true)).setCell ⟨w.heap.size + 1 + 1, 1, none⟩ (.bool false)).cell? ⟨w.heap.size + 1 + 1, 2, none⟩ = some (.bool s0) := (set_off _ (by decide) _).trans m3
    have m8 : ((w5.setCell ⟨w.heap.size + 1 + 1, 0, none⟩ (.bool true)).setCell ⟨w.heap.size + 1 + 1, 1, none⟩ (.bool false)).cell? ⟨w.heap.size + 1 + 1, 3, none⟩ = some (.bool r0) := (set_off _ (by decide) _).trans m4
    go_region
    have hb1 : Below w.heap.size w (w5.setCell ⟨w.heap.size + 1 + 1, 0, none⟩ (.bool true)) := below_setCell HB5.out (w.heap.size + 1 + 1) 0 (.bool true) (by omega)
    have hb2 : Below w.heap.size w ((w5.setCell ⟨w.heap.size + 1 + 1, 0, none⟩ (.bool true)).setCell ⟨w.heap.size + 1 + 1, 1, none⟩ (.bool false)) := below_setCell hb1 (w.heap.size + 1 + 1) 1 (.bool false) (by omega)
    obtain ⟨t0, t1, t2, t3, hb7⟩ := four_drew ((w5.setCell ⟨w.heap.size + 1 + 1, 0, none⟩ (.bool true)).setCell ⟨w.heap.size + 1 + 1, 1, none⟩ (.bool false)) w w.heap.size (w.heap.size + 1 + 1) m5 m6 m7 m8 hb2 (by omega) (.bool true) (.bool false) (.bool s0) (.bool r0)
    have HB7 := Lib.hid hb7
    clear hb7 hb1 hb2
    generalize ((((((w5.setCell ⟨w.heap.size + 1 + 1, 0, none⟩ (.bool true)).setCell ⟨w.heap.size + 1 + 1, 1, none⟩ (.bool false)).setCell ⟨w.heap.size + 1 + 1, 0, none⟩ (.bool true)).setCell ⟨w.heap.size + 1 + 1, 1, none⟩ (.bool false)).setCell ⟨w.heap.size + 1 + 1, 2, none⟩ (.bool s0)).setCell ⟨w.heap.size + 1 + 1, 3, none⟩ (.bool r0)).drew = w7 at *
    go_wp2
    refine bodyPost_ret (by simp [results, Tryz.results127, go_sem, t0, t1, t2, t3]; try rfl) rfl ?_
    exact ⟨behE_of (Pl.beh_wait HK.out), HB7.out⟩
  by_cases q4 : kd = 4
  · subst q4
    have p1 : ((4 : Int) == 1) = false := by decide
    have p2 : ((4 : Int) == 2) = false := by decide
    have p3 : ((4 : Int) == 3) = false := by decide
    have p4 : ((4 : Int) == 4) = true := by decide
    clear q1 q2
    cases i0 with
    | true =>
      go_wp2_with fail
      generalize ((((w4.setCell ⟨w.heap.size + 1 + 1, 0, none⟩ (.bool true)).setCell ⟨w.heap.size + 1 + 1, 1, none⟩ (.bool k0)).setCell ⟨w.heap.size + 1 + 1, 2, none⟩ (.bool s0)).setCell ⟨w.heap.size + 1 + 1, 3, none⟩ (.bool r0)) = w5 at *
      clear F0 F1 F2 F3 h0 k1 G0 a0 a1 a2 a3 c0 c1 c2 c3 d0 d1 d2 d3 e0 e1 HB
      have m1 : (w5.setCell ⟨w.heap.size + 1 + 1, 2, none⟩ (.bool true)).cell? ⟨w.heap.size + 1 + 1, 0, none⟩ = some (.bool true) := (set_off _ (by decide) _).trans f0
      have m2 : (w5.setCell ⟨w.heap.size + 1 + 1, 2, none⟩ (.bool true)).cell? ⟨w.heap.size + 1 + 1, 1, none⟩ = some (.bool k0) := (set_off _ (by decide) _).trans f1
      have m3 : (w5.setCell ⟨w.heap.size + 1 + 1, 2, none⟩ (.bool true)).cell? ⟨w.heap.size + 1 + 1, 2, none⟩ = some (.bool true) := World.cell?_setCell_same _ _ _ f2
      have m4 : (w5.setCell ⟨w.heap.size + 1 + 1, 2, none⟩ (.bool true)).cell? ⟨w.heap.size + 1 + 1, 3, none⟩ = some (.bool r0) := (set_off _ (by decide) _).trans f3
      go_region
      have hb1 : Below w.heap.size w (w5.setCell ⟨w.heap.size + 1 + 1, 2, none⟩ (.bool true)) := below_setCell HB5.out (w.heap.size + 1 + 1) 2 (.bool true) (by omega)
      obtain ⟨t0, t1, t2, t3, hb7⟩ := four_drew (w5.setCell ⟨w.heap.size + 1 + 1, 2, none⟩ (.bool true)) w w.heap.size (w.heap.size + 1 + 1) m1 m2 m3 m4 hb1 (by omega) (.bool true) (.bool k0) (.bool true) (.bool r0)
      have HB7 := Lib.hid hb7
      clear hb7 hb1
      generalize (((((w5.setCell ⟨w.heap.size + 1 + 1, 2, none⟩ (.bool true)).setCell ⟨w.heap.size + 1 + 1, 0, none⟩ (.bool true)).setCell ⟨w.heap.size + 1 + 1, 1, none⟩ (.bool k0)).setCell ⟨w.heap.size + 1 + 1, 2, none⟩ (.bool true)).setCell ⟨w.heap.size + 1 + 1, 3, none⟩ (.bool r0)).drew = w7 at *
      go_wp2
      refine bodyPost_ret (by simp [results, Tryz.results127, go_sem, t0, t1, t2, t3]; try rfl) rfl ?_
      exact ⟨behE_of (Pl.beh_store HK.out), HB7.out⟩
    | false =>
      go_wp2_with fail
      generalize ((((w4.setCell ⟨w.heap.size + 1 + 1, 0, none⟩ (.bool false)).setCell ⟨w.heap.size + 1 + 1, 1, none⟩ (.bool k0)).setCell ⟨w.heap.size + 1 + 1, 2, none⟩ (.bool s0)).setCell ⟨w.heap.size + 1 + 1, 3, none⟩ (.bool r0)) = w5 at *
      clear F0 F1 F2 F3 h0 k1 G0 a0 a1 a2 a3 c0 c1 c2 c3 d0 d1 d2 d3 e0 e1 HB
      have m1 : (w5.setCell ⟨w.heap.size + 1 + 1, 2, none⟩ (.bool true)).cell? ⟨w.heap.size + 1 + 1, 0, none⟩ = some (.bool false) := (set_off _ (by decide) _).trans f0
      have m2 : (w5.setCell ⟨w.heap.size + 1 + 1, 2, none⟩ (.bool true)).cell? ⟨w.heap.size + 1 + 1, 1, none⟩ = some (.bool k0) := (set_off _ (by decide) _).trans f1
      have m3 : (w5.setCell ⟨w.heap.size + 1 + 1, 2, none⟩ (.bool true)).cell? ⟨w.heap.size + 1 + 1, 2, none⟩ = some (.bool true) := World.cell?_setCell_same _ _ _ f2
      have m4 : (w5.setCell ⟨w.heap.size + 1 + 1, 2, none⟩ (.bool true)).cell? ⟨w.heap.size + 1 + 1, 3, none⟩ = some (.bool r0) := (set_off _ (by decide) _).trans f3
      go_region
      have hb1 : Below w.heap.size w (w5.setCell ⟨w.heap.size + 1 + 1, 2, none⟩ (.bool true)) := below_setCell HB5.out (w.heap.size + 1 + 1) 2 (.bool true) (by omega)
      obtain ⟨t0, t1, t2, t3, hb7⟩ := four_drew (w5.setCell ⟨w.heap.size + 1 + 1, 2, none⟩ (.bool true)) w w.heap.size (w.heap.size + 1 + 1) m1 m2 m3 m4 hb1 (by omega) (.bool false) (.bool k0) (.bool true) (.bool r0)
      have HB7 := Lib.hid hb7
      clear hb7 hb1
      generalize (((((w5.setCell ⟨w.heap.size + 1 + 1, 2, none⟩ (.bool true)).setCell ⟨w.heap.size + 1 + 1, 0, none⟩ (.bool false)).setCell ⟨w.heap.size + 1 + 1, 1, none⟩ (.bool k0)).setCell ⟨w.heap.size + 1 + 1, 2, none⟩ (.bool true)).setCell ⟨w.heap.size + 1 + 1, 3, none⟩ (.bool r0)).drew = w7 at *
      go_wp2
      refine bodyPost_ret (by simp [results, Tryz.results127, go_sem, t0, t1, t2, t3]; try rfl) rfl ?_
      exact ⟨behE_of (Pl.beh_store HK.out), HB7.out⟩
  by_cases q5 : kd = 5
  · subst q5
    have p1 : ((5 : Int) == 1) = false := by decide
    have p2 : ((5 : Int) == 2) = false := by decide
    have p3 : ((5 : Int) == 3) = false := by decide
    have p4 : ((5 : Int) == 4) = false := by decide
    have p5 : ((5 : Int) == 5) = true := by decide
    clear q1 q2 q4
    go_wp2_with fail
    generalize ((((w4.setCell ⟨w.heap.size + 1 + 1, 0, none⟩ (.bool i0)).setCell ⟨w.heap.size + 1 + 1, 1, none⟩ (.bool k0)).setCell ⟨w.heap.size + 1 + 1, 2, none⟩ (.bool s0)).setCell ⟨w.heap.size + 1 + 1, 3, none⟩ (.bool r0)) = w5 at *
    clear F0 F1 F2 F3 h0 k1 G0 a0 a1 a2 a3 c0 c1 c2 c3 d0 d1 d2 d3 e0 e1 HB
    have m1 : (w5.setCell ⟨w.heap.size + 1 + 1, 0, none⟩ (.bool false)).cell? ⟨w.heap.size + 1 + 1, 0, none⟩ = some (.bool false) := World.cell?_setCell_same _ _ _ f0
    have m2 : (w5.setCell ⟨w.heap.size + 1 + 1, 0, none⟩ (.bool false)).cell? ⟨w.heap.size + 1 + 1, 1, none⟩ = some (.bool k0) := (set_off _ (by decide) _).trans f1
    have m3 : (w5.setCell ⟨w.heap.size + 1 + 1, 0, none⟩ (.bool false)).cell? ⟨w.heap.size + 1 + 1, 2, none⟩ = some (.bool s0) := (set_off _ (by decide) _).trans f2
    have m4 : (w5.setCell ⟨w.heap.size + 1 + 1, 0, none⟩ (.bool false)).cell? ⟨w.heap.size + 1 + 1, 3, none⟩ = some (.bool r0) := (set_off _ (by decide) _).trans f3
    go_region
    have hb1 : Below w.heap.size w (w5.setCell ⟨w.heap.size + 1 + 1, 0, none⟩ (.bool false)) := below_setCell HB5.out (w.heap.size + 1 + 1) 0 (.bool false) (by omega)
    obtain ⟨t0, t1, t2, t3, hb7⟩ := four_drew (w5.setCell ⟨w.heap.size + 1 + 1, 0, none⟩ (.bool false)) w w.heap.size (w.heap.size + 1 + 1) m1 m2 m3 m4 hb1 (by omega) (.bool false) (.bool k0) (.bool s0) (.bool r0)
    have HB7 := Lib.hid hb7
    clear hb7 hb1
    generalize (((((w5.setCell ⟨w.heap.size + 1 + 1, 0, none⟩ (.bool false)).setCell ⟨w.heap.size + 1 + 1, 0, none⟩ (.bool false)).setCell ⟨w.heap.size + 1 + 1, 1, none⟩ (.bool k0)).setCell ⟨w.heap.size + 1 + 1, 2, none⟩ (.bool s0)).setCell ⟨w.heap.size + 1 + 1, 3, none⟩ (.bool r0)).drew = w7 at *
    go_wp2
    refine bodyPost_ret (by simp [results, Tryz.results127, go_sem, t0, t1, t2, t3]; try rfl) rfl ?_
    exact ⟨behE_of (Pl.beh_drop HK.out), HB7.out⟩
  by_cases q3 : kd = 3
  · subst q3
    have p1 : ((3 : Int) == 1) = false := by decide
    have p2 : ((3 : Int) == 2) = false := by decide
    have p3 : ((3 : Int) == 3) = true := by decide
    clear q1 q2 q4 q5
    have hq := eql_do i0 k0 s0 r0
    obtain ⟨bN, oN, ai, li, ci, sa, ls, cs, eN, _, n0, n1, n2, n3, n4, hV⟩ := KN.out.get (Below.refl _ w) hv
    cases eN
    have HVI := Lib.hid (hV.i.below HB5.out)
    have HVL := Lib.hid hV.i.length
    have hil := hV.i.le
    have hic := hV.i.cap_le
    have KB5 := Lib.hid (KB.out.below HB5.out)
    have gg := G5.out
    have nn1 := (HB5.out.cell (p := ⟨bN, _, none⟩) (by assumption)).trans n1
    clear n0 n1 n2 n3 n4 hV
    go_wp2_with fail
    generalize ((((w4.setCell ⟨w.heap.size + 1 + 1, 0, none⟩ (.bool i0)).setCell ⟨w.heap.size + 1 + 1, 1, none⟩ (.bool k0)).setCell ⟨w.heap.size + 1 + 1, 2, none⟩ (.bool s0)).setCell ⟨w.heap.size + 1 + 1, 3, none⟩ (.bool r0)) = w5 at *
    clear F0 F1 F2 F3 h0 k1 G0 a0 a1 a2 a3 c0 c1 c2 c3 d0 d1 d2 d3 e0 e1 HB
    go_loop [46] (fun i => ∃ k : Nat, k ≤ li ∧ i = .int .i64 k ∧ Hid (∀ j, j < k → (K (nth (nodeN g v).inn j).toNat).inn = true)) (fun i => li - (intOf i).toNat)
    case atStart => exact ⟨0, Nat.zero_le _, rfl, fun j hj => absurd hj (Nat.not_lt_zero _)⟩
    case round =>
      obtain ⟨k, hk, rfl, HT⟩ := hrel
      by_cases hlt : k < li
      · have dkl : decide ((k : Int) < (li : Int)) = true := decide_eq_true (by omega)
        obtain ⟨b, off, rfl, _, hc⟩ := HVI.out.at_ (by omega)
        have hck := hc k hlt
        obtain ⟨u0, u1⟩ := HI.out _ (nth_mem (nodeN g v).inn k (by rw [HVL.out]; exact hlt))
        obtain ⟨n, hn⟩ : ∃ n : Nat, nth (nodeN g v).inn k = (n : Int) := ⟨(nth (nodeN g v).inn k).toNat, by omega⟩
        rw [hn] at hck u1
        have kz := (KB5.out.at_ n (by omega)).1
        have hn32 : (n : Int) < 32 := u1
        cases hi : (K n).inn with
        | true =>
          rw [hi] at kz
          have HN : Hid (∀ j, j < k + 1 → (K (nth (nodeN g v).inn j).toNat).inn = true) := fun j hj => by
            by_cases e : j = k
            · subst e; rw [hn, Int.toNat_natCast]; exact hi
            · exact HT.out j (by omega)
          clear hc hn hi
          go_wp2
          go_round
          case rel => exact ⟨k + 1, by omega, by go_num, HN⟩
          case measure => simp [intOf]; omega
        | false =>
          rw [hi] at kz
          have HM : Hid (Pl.inAll g K v = false) := Pl.inAll_miss (by rw [HVL.out]; exact hlt) (by rw [hn, Int.toNat_natCast]; exact hi)
          clear hc hn hi
          go_wp2
          obtain ⟨t0, t1, t2, t3, hb7⟩ := four_lit w5 w w.heap.size (w.heap.size + 1 + 1) f0 f1 f2 f3 HB5.out (by omega) (.bool i0) (.bool k0) (.bool s0) (.bool r0)
          have HB7 := Lib.hid hb7
          clear hb7
          go_wp2
          refine bodyPost_ret (by simp [results, Tryz.results127, go_sem, t0, t1, t2, t3]; try rfl) rfl ?_
          exact ⟨behE_none (Pl.beh_do_miss HK.out HM.out) _ _ _ _, HB7.out⟩
      · have dkl : decide ((k : Int) < (li : Int)) = false := decide_eq_false (by omega)
        have HA : Hid (Pl.inAll g K v = true) := Pl.inAll_all (fun j hj => HT.out j (by rw [HVL.out] at hj; omega))
        go_wp2_with fail
        have m1 : (w5.setCell ⟨w.heap.size + 1 + 1, 0, none⟩ (.bool true)).cell? ⟨w.heap.size + 1 + 1, 0, none⟩ = some (.bool true) := World.cell?_setCell_same _ _ _ f0
        have m2 : (w5.setCell ⟨w.heap.size + 1 + 1, 0, none⟩ (.bool true)).cell? ⟨w.heap.size + 1 + 1, 1, none⟩ = some (.bool k0) := (set_off _ (by decide) _).trans f1
        have m3 : (w5.setCell ⟨w.heap.size + 1 + 1, 0, none⟩ (.bool true)).cell? ⟨w.heap.size + 1 + 1, 2, none⟩ = some (.bool s0) := (set_off _ (by decide) _).trans f2
        have m4 : (w5.setCell ⟨w.heap.size + 1 + 1, 0, none⟩ (.bool true)).cell? ⟨w.heap.size + 1 + 1, 3, none⟩ = some (.bool r0) := (set_off _ (by decide) _).trans f3
        go_region
        have hb1 : Below w.heap.size w (w5.setCell ⟨w.heap.size + 1 + 1, 0, none⟩ (.bool true)) := below_setCell HB5.out (w.heap.size + 1 + 1) 0 (.bool true) (by omega)
        obtain ⟨t0, t1, t2, t3, hb7⟩ := four_drew (w5.setCell ⟨w.heap.size + 1 + 1, 0, none⟩ (.bool true)) w w.heap.size (w.heap.size + 1 + 1) m1 m2 m3 m4 hb1 (by omega) (.bool true) (.bool k0) (.bool s0) (.bool r0)
        have HB7 := Lib.hid hb7
        clear hb7 hb1
        generalize (((((w5.setCell ⟨w.heap.size + 1 + 1, 0, none⟩ (.bool true)).setCell ⟨w.heap.size + 1 + 1, 0, none⟩ (.bool true)).setCell ⟨w.heap.size + 1 + 1, 1, none⟩ (.bool k0)).setCell ⟨w.heap.size + 1 + 1, 2, none⟩ (.bool s0)).setCell ⟨w.heap.size + 1 + 1, 3, none⟩ (.bool r0)).drew = w7 at *
        go_wp2
        refine bodyPost_ret (by simp [results, Tryz.results127, go_sem, t0, t1, t2, t3]; try rfl) rfl ?_
        exact ⟨behE_of (Pl.beh_do HK.out HA.out), HB7.out⟩
  have p1 : (kd == 1) = false := by simpa using q1
  have p2 : (kd == 2) = false := by simpa using q2
  have p3 : (kd == 3) = false := by simpa using q3
  have p4 : (kd == 4) = false := by simpa using q4
  have p5 : (kd == 5) = false := by simpa using q5
  have HX : Hid (Pl.beh g K kd v = none) := Pl.beh_else q1 q2 q3 q4 q5
  clear q1 q2 q3 q4 q5
  go_wp2
  generalize ((((w4.setCell ⟨w.heap.size + 1 + 1, 0, none⟩ (.bool i0)).setCell ⟨w.heap.size + 1 + 1, 1, none⟩ (.bool k0)).setCell ⟨w.heap.size + 1 + 1, 2, none⟩ (.bool s0)).setCell ⟨w.heap.size + 1 + 1, 3, none⟩ (.bool r0)) = w5 at *
  clear F0 F1 F2 F3 h0 k1 G0 a0 a1 a2 a3 c0 c1 c2 c3 d0 d1 d2 d3 e0 e1 HB
  obtain ⟨t0, t1, t2, t3, hb7⟩ := four_lit w5 w w.heap.size (w.heap.size + 1 + 1) f0 f1 f2 f3 HB5.out (by omega) (.bool i0) (.bool k0) (.bool s0) (.bool r0)
  have HB7 := Lib.hid hb7
  clear hb7
  refine bodyPost_ret (by simp [results, Tryz.results127, go_sem, t0, t1, t2, t3]; try rfl) rfl ?_
  exact ⟨behE_none HX.out _ _ _ _, HB7.out⟩
end Go.Proofs.YtekejcnphmnidaaGreatDoor

namespace Go.Proofs.YtekejcnphmnidaaGreatDoor
open Go.RowKit
namespace Pl
theorem runC_drop {g : List Gr.Node} {b : Nat → Int} {room : Int} {K : Nat → Kn} {l : List (Int × Int)} {k : Nat} (hk : k < l.length) :
    runC g b room k K (l.drop k) = match stepK g K (stepN l k) with
    | none => ((k : Int), false)
    | some K' => if room < usedK b K' g.length ∨ 4 < askedK K' g.length then ((k : Int), false) else runC g b room (k + 1) K' (l.drop (k + 1)) := by
  have h : l.drop k = stepN l k :: l.drop (k + 1) := by
    rw [List.drop_eq_getElem_cons hk]
    congr 1
    unfold stepN; rw [List.getD_eq_getElem?_getD, List.getElem?_eq_getElem hk]; rfl
  rw [h]
  rfl
def kfill (g : List Gr.Node) (k : Nat) : Nat → Kn := fun v => if v < k then kn0 g v else ⟨false, false, false, false⟩
theorem kfill_zero (g : List Gr.Node) (v : Nat) : (⟨false, false, false, false⟩ : Kn) = kfill g 0 v := by unfold kfill; rw [if_neg (Nat.not_lt_zero _)]
theorem kfill_next (g : List Gr.Node) (k v : Nat) : upd (kfill g k) k ⟨false, false, srcB (nodeN g k), srcB (nodeN g k)⟩ v = kfill g (k + 1) v := by
  unfold upd kfill
  by_cases c : v = k
  · subst c; rw [if_pos rfl, if_pos (Nat.lt_succ_self _)]; rfl
  · rw [if_neg c]
    by_cases d : v < k
    · rw [if_pos d, if_pos (by omega)]
    · rw [if_neg d, if_neg (by omega)]
theorem nodeN_out (g : List Gr.Node) (v : Nat) (h : g.length ≤ v) : nodeN g v = ⟨0, [], [], 0, 0⟩ := by
  unfold nodeN; rw [List.getD_eq_getElem?_getD, List.getElem?_eq_none h]; rfl
theorem kfill_all (g : List Gr.Node) (v : Nat) : kfill g g.length v = kn0 g v := by
  unfold kfill
  by_cases c : v < g.length
  · rw [if_pos c]
  · rw [if_neg c]
    unfold kn0
    rw [nodeN_out g v (by omega)]
    rfl
end Pl
theorem zero128 : Tryz.zeroCells132 = Array.replicate 128 (.bool false) := by kernel_rfl
theorem knbox_new (w : World) (g : List Gr.Node) : KnBox (w.alloc (.cells Tryz.zeroCells132 132)) w.heap.size (Pl.kfill g 0) := by
  have h : ∀ o, o < 128 → (w.alloc (.cells Tryz.zeroCells132 132)).cell? ⟨w.heap.size, o, none⟩ = some (.bool false) := fun o ho => by
    rw [World.cell?_alloc_at _ _ _ _ rfl, zero128]
    simp [ho]
  refine ⟨by simp, fun o _ => World.frozen?_alloc_at _ _ _ _ rfl, fun v hv => ?_⟩
  rw [← Pl.kfill_zero g v]
  exact ⟨h _ (by omega), h _ (by omega), h _ (by omega), h _ (by omega)⟩
set_option maxHeartbeats 4000000 in
set_option maxRecDepth 100000 in
theorem chk_any (a : Option Addr) (len cap : Nat) (g : List Gr.Node) (room : Int) (aL : Option Addr) (lL cL : Nat) (l : List (Int × Int)) (w : World) (HN : Nodes w a len cap g) (HL : StepsIn w aL lL cL l) :
    Calls Tryz.prog 40 #[.agg #[.slice a len cap], .int .i64 room, .slice aL lL cL] w fun e w' => e = .returned (.tuple #[.int .i64 (Pl.chkF g room l).1, .bool (Pl.chkF g room l).2]) ∧ Below w.heap.size w w' := by
  have LN := Lib.hid HN.length
  have KL := Lib.hid HL
  have LL := Lib.hid HL.length
  have hLle := HL.le
  have hLcl := HL.cap_le
  have hle := HN.le
  have hcl := HN.cap_le
  have K0 := Lib.hid (GSt.start HN)
  clear HN HL
  go_enter Tryz.func40, Tryz.ntmps40
  go_wp2_with fail
  refine (gcheck_any _ _ _ g _ K0.out.n).mono ?_
  rintro e w1 ⟨rfl, hb⟩
  have K1 := Lib.hid (K0.out.on hb)
  have c1 := K1.out.cell
  clear hb K0
  cases hsm : (Gr.shapes g).isSome with
  | false =>
    have HR : Hid (Pl.chkF g room l = (0, false)) := by
      show _ = _
      unfold Pl.chkF
      rw [show Gr.shapes g = none by cases h : Gr.shapes g with
        | none => rfl
        | some s => rw [h] at hsm; cases hsm]
    clear hsm
    go_wp2
    go_ret2
    exact ⟨by rw [HR.out]; rfl, K1.out.bel⟩
  | true =>
    obtain ⟨s, hs⟩ := Option.isSome_iff_exists.1 hsm
    have HS := Lib.hid hs
    obtain ⟨⟨hl1, hl2⟩, _, _⟩ := Gr.shapes_iff.1 hs
    rw [LN.out] at hl1 hl2
    clear hsm hs
    by_cases r0 : room < 0
    · have d0 : decide (room < 0) = true := decide_eq_true r0
      have HR : Hid (Pl.chkF g room l = (0, false)) := by
        show _ = _
        unfold Pl.chkF
        rw [HS.out]
        exact if_pos (.inl r0)
      go_wp2
      go_ret2
      exact ⟨by rw [HR.out]; rfl, K1.out.bel⟩
    have d0 : decide (room < 0) = false := decide_eq_false r0
    by_cases r1 : 1048576 < room
    · have d1 : decide (room > 1048576) = true := decide_eq_true r1
      have HR : Hid (Pl.chkF g room l = (0, false)) := by
        show _ = _
        unfold Pl.chkF
        rw [HS.out]
        exact if_pos (.inr r1)
      go_wp2
      go_ret2
      exact ⟨by rw [HR.out]; rfl, K1.out.bel⟩
    have d1 : decide (room > 1048576) = false := decide_eq_false r1
    have HC0 : Hid (Pl.chkF g room l = Pl.runC g (fun u => nth (Pl.bytesOf g s) u) room 0 (Pl.kn0 g) l) := Pl.chk_some HS.out ⟨by omega, by omega⟩ l
    go_wp2_with fail
    refine (cof_any _ _ _ g _ K1.out.n).mono ?_
    rintro e w2 ⟨hb, ⟨hs, _⟩ | ⟨s', aC, lC, hs, rfl, hC⟩⟩
    · rw [HS.out] at hs; cases hs
    obtain rfl : s' = s := by rw [HS.out] at hs; exact (Option.some.inj hs).symm
    have hlC : lC = g.length := by rw [← hC.length]; exact Co.costsK_length _ _ _
    obtain rfl : lC = len := by rw [hlC]; exact LN.out
    have hCle := hC.le
    have hCcl := hC.cap_le
    have K2 := Lib.hid (K1.out.on hb)
    have c2 := K2.out.cell
    have HC2 := Lib.hid hC
    have HKB := Lib.hid (knbox_new w2 g)
    have K3 := Lib.hid (K2.out.alloc (.cells Tryz.zeroCells132 132))
    have c3 := K3.out.cell
    have HBW : Hid (Below w2.heap.size w2 (w2.alloc (.cells Tryz.zeroCells132 132))) := (Below.refl _ _).alloc (Nat.le_refl _) _
    have HWW := Lib.hid K2.out.bel.size
    have HZW := Lib.hid K2.out.lt
    clear hb hs hC hlC c1 K1 c2
    go_wp2
    go_loopg [43] lC (fun gg i wr => ∃ k : Nat, k ≤ lC ∧ lC - k ≤ gg ∧ i = .int .i64 k ∧ Hid (KnBox wr w2.heap.size (Pl.kfill g k)) ∧ Hid (Below w2.heap.size w2 wr))
    case atStart => exact ⟨0, Nat.zero_le _, by omega, rfl, HKB, HBW⟩
    case round =>
      obtain ⟨k, hk, hg, rfl, HKr, HWr⟩ := hrel
      by_cases hlt : k < lC
      · have Kr := Lib.hid (K2.out.on HWr.out)
        obtain ⟨b, off, ai, li, ci, sa, ls, cs, rfl, _, n0, n1, n2, n3, n4, hV⟩ := Kr.out.n.get (Below.refl _ wr) hlt
        have hb4 : Below wr.heap.size wr (wr.alloc (.cells #[.int .u8 (nodeN g k).kind, .slice ai li ci, .slice sa ls cs, .int .i64 (nodeN g k).n, .int .i64 (nodeN g k).pad] 103)) := (Below.refl _ _).alloc (Nat.le_refl _) _
        have KB4 := HKr.out.below hb4
        obtain ⟨z0, z1, z2, z3⟩ := KB4.at_ k (by omega)
        have hfr := KB4.fr
        have f0 := hfr (k * 4) (by omega)
        have f1 := hfr (k * 4 + 1) (by omega)
        have f2 := hfr (k * 4 + 2) (by omega)
        have f3 := hfr (k * 4 + 3) (by omega)
        have x0 : (wr.alloc (.cells #[.int .u8 (nodeN g k).kind, .slice ai li ci, .slice sa ls cs, .int .i64 (nodeN g k).n, .int .i64 (nodeN g k).pad] 103)).cell? ⟨wr.heap.size, 0, none⟩ = some (.int .u8 (nodeN g k).kind) := by rw [World.cell?_alloc_at _ _ _ _ rfl]; rfl
        have hk32 : (k : Int) < 32 := by omega
        have HS4 := Lib.hid ((KB4.set (v := k) (by omega) ⟨false, false, Pl.srcB (nodeN g k), Pl.srcB (nodeN g k)⟩).congr (fun v _ => Pl.kfill_next g k v))
        have HB4 := Lib.hid (four_below ((HWr.out.alloc HWr.out.size (.cells #[.int .u8 (nodeN g k).kind, .slice ai li ci, .slice sa ls cs, .int .i64 (nodeN g k).n, .int .i64 (nodeN g k).pad] 103))) (B := w2.heap.size) (Nat.le_refl _) (k * 4) (.bool false) (.bool false) (.bool (Pl.srcB (nodeN g k))) (.bool (Pl.srcB (nodeN g k))))
        have HSR : Hid (Pl.srcB (nodeN g k) = (decide ((nodeN g k).kind = 1) || decide ((nodeN g k).kind = 2))) := rfl
        have hbl : w2.heap.size ≠ wr.heap.size := by have := HKr.out.lt; omega
        clear hV hb4 KB4 hfr
        generalize (nodeN g k).kind = kd at *
        generalize (nodeN g k).n = nn at *
        generalize (nodeN g k).pad = pad at *
        have dkl : decide ((k : Int) < (lC : Int)) = true := decide_eq_true (by omega)
        by_cases e1 : kd = 1
        · have q1 : (kd == 1) = true := by simp [e1]
          have hsr : Pl.srcB (nodeN g k) = true := by rw [HSR.out]; simp [e1]
          clear e1
          rw [hsr] at HS4 HB4
          clear hsr
          go_wp2
          go_roundg (lC - (k + 1))
          case measure => exact Nat.lt_of_lt_of_le (Nat.sub_lt_sub_left hlt (Nat.lt_succ_self k)) hg
          case rel => exact ⟨k + 1, Nat.succ_le_of_lt hlt, Nat.le_refl _, by go_num, HS4.out, HB4.out⟩
        have q1 : (kd == 1) = false := by simp [e1]
        by_cases e2 : kd = 2
        · have q2 : (kd == 2) = true := by simp [e2]
          have hsr : Pl.srcB (nodeN g k) = true := by rw [HSR.out]; simp [e2]
          clear e1 e2
          rw [hsr] at HS4 HB4
          clear hsr
          go_wp2
          go_roundg (lC - (k + 1))
          case measure => exact Nat.lt_of_lt_of_le (Nat.sub_lt_sub_left hlt (Nat.lt_succ_self k)) hg
          case rel => exact ⟨k + 1, Nat.succ_le_of_lt hlt, Nat.le_refl _, by go_num, HS4.out, HB4.out⟩
        have q2 : (kd == 2) = false := by simp [e2]
        have hsr : Pl.srcB (nodeN g k) = false := by rw [HSR.out]; simp [e1, e2]
        clear e1 e2
        rw [hsr] at HS4 HB4
        clear hsr
        go_wp2
        go_roundg (lC - (k + 1))
        case measure => exact Nat.lt_of_lt_of_le (Nat.sub_lt_sub_left hlt (Nat.lt_succ_self k)) hg
        case rel => exact ⟨k + 1, Nat.succ_le_of_lt hlt, Nat.le_refl _, by go_num, HS4.out, HB4.out⟩
      · have dkl : decide ((k : Int) < (lC : Int)) = false := decide_eq_false (by omega)
        obtain rfl : k = lC := by omega
        have HK4 : Hid (KnBox wr w2.heap.size (Pl.kn0 g)) := (HKr.out.congr (fun v _ => by
          have := Pl.kfill_all g v
          rw [LN.out] at this
          exact this))
        have HC4 : Hid (Pl.chkF g room l = Pl.runC g (fun u => nth (Pl.bytesOf g s') u) room 0 (Pl.kn0 g) (l.drop 0)) := by show _ = _; rw [HC0.out]; rfl
        have HBY : Hid (∀ i, i < k → 0 ≤ nth (Pl.bytesOf g s') i ∧ nth (Pl.bytesOf g s') i ≤ 20000) := fun i hi => by
          rw [Pl.bytes_at (by rw [LN.out]; exact hi)]
          have := Co.size_bounds HS.out (i := i) (by rw [LN.out]; exact hi)
          omega
        have HIN : Hid (∀ i, i < k → ∀ u ∈ (nodeN g i).inn, 0 ≤ u ∧ u < 32) := fun i hi u hu => by
          have := (Co.inn_of HS.out (i := i) (by rw [LN.out]; exact hi)).2 u hu
          omega
        clear HKr HKB HBW HC0 dkl hlt
        go_wp2
        go_loopg [64] lL (fun gg i wx => ∃ (j : Nat) (K : Nat → Pl.Kn), j ≤ lL ∧ lL - j ≤ gg ∧ i = .int .i64 j ∧ Hid (KnBox wx w2.heap.size K) ∧ Hid (Below w2.heap.size w2 wx) ∧ Hid (Pl.chkF g room l = Pl.runC g (fun u => nth (Pl.bytesOf g s') u) room j K (l.drop j)))
        case atStart => exact ⟨0, _, Nat.zero_le _, by omega, rfl, HK4, HWr, HC4⟩
        case round =>
          rename World => wx
          obtain ⟨j, K, hj, hgj, rfl, HKx, HWx, HCx⟩ := hrel
          have Kx := Lib.hid (K2.out.on HWx.out)
          by_cases hlt : j < lL
          · have djl : decide ((j : Int) < (lL : Int)) = true := decide_eq_true (by omega)
            have hjl : j < l.length := by rw [LL.out]; exact hlt
            obtain ⟨b, off, rfl, _, hc⟩ := (KL.out.below Kx.out.bel).at_ (by omega)
            obtain ⟨c0, c1⟩ := hc j hlt
            have hCR := HCx.out
            rw [Pl.runC_drop hjl] at hCR
            have HCR := Lib.hid hCR
            clear hc hCR hjl
            generalize stepN l j = st at *
            obtain ⟨kd, v⟩ := st
            simp only at c0 c1
            have hb5 : Below wx.heap.size wx (wx.alloc (.cells #[.int .u8 kd, .int .i64 v] 128)) := (Below.refl _ _).alloc (Nat.le_refl _) _
            have x0 : (wx.alloc (.cells #[.int .u8 kd, .int .i64 v] 128)).cell? ⟨wx.heap.size, 0, none⟩ = some (.int .u8 kd) := by rw [World.cell?_alloc_at _ _ _ _ rfl]; rfl
            have x1 : (wx.alloc (.cells #[.int .u8 kd, .int .i64 v] 128)).cell? ⟨wx.heap.size, 1, none⟩ = some (.int .i64 v) := by rw [World.cell?_alloc_at _ _ _ _ rfl]; rfl
            have K5 := Lib.hid (Kx.out.on hb5)
            have c5 := K5.out.cell
            have HK5 := Lib.hid (HKx.out.below hb5)
            have HW5 : Hid (Below w2.heap.size w2 (wx.alloc (.cells #[.int .u8 kd, .int .i64 v] 128))) := HWx.out.trans (hb5.mono HWx.out.size)
            have hz5 : wx.heap.size < (wx.alloc (.cells #[.int .u8 kd, .int .i64 v] 128)).heap.size := by simp
            have HZ5 := Lib.hid hz5
            have hbl : w2.heap.size ≠ wx.heap.size := by have := HKx.out.lt; omega
            have HX0 := Lib.hid x0
            have HX1 := Lib.hid x1
            clear hb5 hz5
            by_cases e1 : v < 0
            · have d1 : decide (v < 0) = true := decide_eq_true e1
              have HR : Hid (Pl.chkF g room l = ((j : Int), false)) := by
                show _ = _
                rw [HCR.out, show Pl.stepK g K (kd, v) = none from if_pos (.inl e1)]
              clear e1
              go_wp2
              go_ret2
              exact ⟨by rw [HR.out]; rfl, K5.out.bel⟩
            have d1 : decide (v < 0) = false := decide_eq_false e1
            by_cases e2 : (k : Int) ≤ v
            · have d2 : decide (v ≥ (k : Int)) = true := decide_eq_true e2
              have HR : Hid (Pl.chkF g room l = ((j : Int), false)) := by
                show _ = _
                rw [HCR.out, show Pl.stepK g K (kd, v) = none from if_pos (.inr (by rw [LN.out]; exact e2))]
              clear e1 e2
              go_wp2
              go_ret2
              exact ⟨by rw [HR.out]; rfl, K5.out.bel⟩
            have d2 : decide (v ≥ (k : Int)) = false := decide_eq_false e2
            obtain ⟨n, rfl⟩ : ∃ n : Nat, v = (n : Int) := ⟨v.toNat, by omega⟩
            have hn : n < k := by omega
            have HBE := Lib.hid (behind_any _ _ _ g w2.heap.size K kd n _ K5.out.n HK5.out hl2 hn (HIN.out n hn))
            clear e1 e2
            go_wp2_with fail
            refine HBE.out.mono ?_
            rintro e w6 ⟨⟨nk, rfl, hnk⟩, hb⟩
            have K6 := Lib.hid (K5.out.on hb)
            have HK6 := Lib.hid (HK5.out.below hb)
            have HW6 : Hid (Below w2.heap.size w2 w6) := HW5.out.trans (hb.mono HW5.out.size)
            have HBZ := Lib.hid hb.size
            have y0 := (hb.cell (p := ⟨wx.heap.size, 0, none⟩) HZ5.out).trans HX0.out
            have y1 := (hb.cell (p := ⟨wx.heap.size, 1, none⟩) HZ5.out).trans HX1.out
            have HNK := Lib.hid hnk
            clear hb hnk HBE x0 x1 c0 c1 c5
            cases hbe : Pl.beh g K kd n with
            | none =>
              have HR : Hid (Pl.chkF g room l = ((j : Int), false)) := by
                show _ = _
                rw [HCR.out, show Pl.stepK g K (kd, (n : Int)) = none by
                  unfold Pl.stepK
                  rw [if_neg (by simp only [LN.out]; omega)]
                  simp only [Int.toNat_natCast, hbe]]
              clear hbe
              go_wp2
              go_ret2
              exact ⟨by rw [HR.out]; rfl, (K6.out.alloc _).bel⟩
            | some kk =>
              obtain rfl := HNK.out kk hbe
              have HST : Hid (Pl.stepK g K (kd, (n : Int)) = some (Pl.upd K n kk)) := Pl.stepK_of (by rw [LN.out]; exact hn) hbe
              clear hbe
              have hb7 : Below w6.heap.size w6 (w6.alloc (.cells #[.bool kk.inn, .bool kk.asked, .bool kk.disk, .bool kk.src] 130)) := (Below.refl _ _).alloc (Nat.le_refl _) _
              have K7 := Lib.hid (K6.out.on hb7)
              have HW7 : Below w2.heap.size w2 (w6.alloc (.cells #[.bool kk.inn, .bool kk.asked, .bool kk.disk, .bool kk.src] 130)) := HW6.out.trans (hb7.mono HW6.out.size)
              have hz6 : wx.heap.size < w6.heap.size := Nat.lt_of_lt_of_le HZ5.out (HBZ.out)
              have v1 := (hb7.cell (p := ⟨wx.heap.size, 1, none⟩) hz6).trans y1
              have u0 : (w6.alloc (.cells #[.bool kk.inn, .bool kk.asked, .bool kk.disk, .bool kk.src] 130)).cell? ⟨w6.heap.size, 0, none⟩ = some (.bool kk.inn) := by rw [World.cell?_alloc_at _ _ _ _ rfl]; rfl
              have u1 : (w6.alloc (.cells #[.bool kk.inn, .bool kk.asked, .bool kk.disk, .bool kk.src] 130)).cell? ⟨w6.heap.size, 1, none⟩ = some (.bool kk.asked) := by rw [World.cell?_alloc_at _ _ _ _ rfl]; rfl
              have u2 : (w6.alloc (.cells #[.bool kk.inn, .bool kk.asked, .bool kk.disk, .bool kk.src] 130)).cell? ⟨w6.heap.size, 2, none⟩ = some (.bool kk.disk) := by rw [World.cell?_alloc_at _ _ _ _ rfl]; rfl
              have u3 : (w6.alloc (.cells #[.bool kk.inn, .bool kk.asked, .bool kk.disk, .bool kk.src] 130)).cell? ⟨w6.heap.size, 3, none⟩ = some (.bool kk.src) := by rw [World.cell?_alloc_at _ _ _ _ rfl]; rfl
              have KB7 := HK6.out.below hb7
              obtain ⟨z0, z1, z2, z3⟩ := KB7.at_ n (by omega)
              have hfr := KB7.fr
              have f0 := hfr (n * 4) (by omega)
              have f1 := hfr (n * 4 + 1) (by omega)
              have f2 := hfr (n * 4 + 2) (by omega)
              have f3 := hfr (n * 4 + 3) (by omega)
              have hn32 : (n : Int) < 32 := by omega
              have HKS := Lib.hid (KB7.set (v := n) (by omega) kk)
              have HBS := Lib.hid (four_below HW7 (B := w2.heap.size) (Nat.le_refl _) (n * 4) (.bool kk.inn) (.bool kk.asked) (.bool kk.disk) (.bool kk.src))
              have c8 : (((((w6.alloc (.cells #[.bool kk.inn, .bool kk.asked, .bool kk.disk, .bool kk.src] 130)).setCell ⟨w2.heap.size, n * 4, none⟩ (.bool kk.inn)).setCell ⟨w2.heap.size, n * 4 + 1, none⟩ (.bool kk.asked)).setCell ⟨w2.heap.size, n * 4 + 2, none⟩ (.bool kk.disk)).setCell ⟨w2.heap.size, n * 4 + 3, none⟩ (.bool kk.src)).cell? ⟨w.heap.size, 0, none⟩ = some (.slice a k cap) := (K2.out.on HBS.out).cell
              have hk32 : (k : Int) ≤ 32 := by omega
              clear hb7 HW7 KB7 hfr
              go_wp2
              go_loopg [18, 19, 99] k (fun gg u q i wv => ∃ (m : Nat) (us ak : Int), m ≤ k ∧ k - m ≤ gg ∧ i = .int .i64 m ∧ u = .int .i64 us ∧ q = .int .i64 ak ∧ (0 ≤ us ∧ us ≤ 20000 * (m : Int)) ∧ (0 ≤ ak ∧ ak ≤ (m : Int)) ∧ Hid (us = Pl.usedK (fun u => nth (Pl.bytesOf g s') u) (Pl.upd K n kk) m) ∧ Hid (ak = Pl.askedK (Pl.upd K n kk) m) ∧
                Hid (KnBox wv w2.heap.size (Pl.upd K n kk)) ∧ Hid (Below w2.heap.size w2 wv))
              case atStart => exact ⟨0, 0, 0, Nat.zero_le _, by omega, rfl, rfl, rfl, by omega, by omega, rfl, rfl, HKS, HBS⟩
              case round =>
                rename World => wv
                obtain ⟨m, us, ak, hm, hgm, rfl, rfl, rfl, hus, hak, HUS, HAK, HKv, HWv⟩ := hrel
                by_cases hltm : m < k
                · have dmk : decide ((m : Int) < (k : Int)) = true := decide_eq_true (by omega)
                  obtain ⟨z0, z1, z2, z3⟩ := HKv.out.at_ m (by omega)
                  obtain ⟨hy0, hy1⟩ := HBY.out m hltm
                  obtain ⟨bC, oC, eC, hbC, hcC⟩ := (HC2.out.below HWv.out).at_ (by omega)
                  cases eC
                  have kC := (hcC m hltm).1
                  rw [← Pl.bytes_nth (by rw [LN.out]; exact hltm)] at kC
                  have kC' : ∀ o, (wv.alloc o).cell? ⟨bC, oC + m * 3, none⟩ = some (.int .i64 (nth (Pl.bytesOf g s') m)) := fun o => Lib.cell?_alloc_some _ kC
                  have HU : Hid (Pl.usedK (fun u => nth (Pl.bytesOf g s') u) (Pl.upd K n kk) (m + 1) = Pl.usedK (fun u => nth (Pl.bytesOf g s') u) (Pl.upd K n kk) m + (if ((Pl.upd K n kk m).inn || (Pl.upd K n kk m).asked) = true then nth (Pl.bytesOf g s') m else 0)) := rfl
                  have HA : Hid (Pl.askedK (Pl.upd K n kk) (m + 1) = Pl.askedK (Pl.upd K n kk) m + (if (Pl.upd K n kk m).asked = true then 1 else 0)) := rfl
                  have hBn : Hid (∀ o, Below w2.heap.size w2 (wv.alloc o)) := fun o => HWv.out.alloc HWv.out.size o
                  have HKn : Hid (∀ o, KnBox (wv.alloc o) w2.heap.size (Pl.upd K n kk)) := fun o => HKv.out.below ((Below.refl _ _).alloc (Nat.le_refl _) o)
                  clear hcC
                  generalize (Pl.upd K n kk m).inn = i0 at *
                  generalize (Pl.upd K n kk m).asked = k0 at *
                  generalize (Pl.upd K n kk m).disk = s0 at *
                  generalize (Pl.upd K n kk m).src = r0 at *
                  generalize nth (Pl.bytesOf g s') m = bm at *
                  have hb8 : ∀ v : Value, (wv.alloc (.cells #[.bool i0, .bool k0, .bool s0, .bool r0] 130)).cell? ⟨wv.heap.size, 0, none⟩ = some (.bool i0) ∧ (wv.alloc (.cells #[.bool i0, .bool k0, .bool s0, .bool r0] 130)).cell? ⟨wv.heap.size, 1, none⟩ = some (.bool k0) := fun _ => ⟨by rw [World.cell?_alloc_at _ _ _ _ rfl]; rfl, by rw [World.cell?_alloc_at _ _ _ _ rfl]; rfl⟩
                  obtain ⟨t0, t1⟩ := hb8 undef
                  clear hb8
                  cases k0 with
                  | true =>
                    have HU2 := Lib.hid (show us + bm = Pl.usedK (fun u => nth (Pl.bytesOf g s') u) (Pl.upd K n kk) (m + 1) by rw [HU.out, HUS.out]; simp)
                    have HA2 := Lib.hid (show ak + 1 = Pl.askedK (Pl.upd K n kk) (m + 1) by rw [HA.out, HAK.out]; simp)
                    cases i0 with
                    | true =>
                      clear HU HA
                      go_wp2
                      go_roundg (k - (m + 1))
                      case measure => exact Nat.lt_of_lt_of_le (Nat.sub_lt_sub_left hltm (Nat.lt_succ_self m)) hgm
                      case rel => exact ⟨m + 1, _, _, Nat.succ_le_of_lt hltm, Nat.le_refl _, by go_num, rfl, rfl, by omega, by omega, HU2, HA2, HKn.out _, hBn.out _⟩
                    | false =>
                      clear HU HA
                      go_wp2
                      go_roundg (k - (m + 1))
                      case measure => exact Nat.lt_of_lt_of_le (Nat.sub_lt_sub_left hltm (Nat.lt_succ_self m)) hgm
                      case rel => exact ⟨m + 1, _, _, Nat.succ_le_of_lt hltm, Nat.le_refl _, by go_num, rfl, rfl, by omega, by omega, HU2, HA2, HKn.out _, hBn.out _⟩
                  | false =>
                    have HA2 := Lib.hid (show ak = Pl.askedK (Pl.upd K n kk) (m + 1) by rw [HA.out, HAK.out]; simp)
                    cases i0 with
                    | true =>
                      have HU2 := Lib.hid (show us + bm = Pl.usedK (fun u => nth (Pl.bytesOf g s') u) (Pl.upd K n kk) (m + 1) by rw [HU.out, HUS.out]; simp)
                      clear HU HA
                      go_wp2
                      go_roundg (k - (m + 1))
                      case measure => exact Nat.lt_of_lt_of_le (Nat.sub_lt_sub_left hltm (Nat.lt_succ_self m)) hgm
                      case rel => exact ⟨m + 1, _, _, Nat.succ_le_of_lt hltm, Nat.le_refl _, by go_num, rfl, rfl, by omega, by omega, HU2, HA2, HKn.out _, hBn.out _⟩
                    | false =>
                      have HU2 := Lib.hid (show us = Pl.usedK (fun u => nth (Pl.bytesOf g s') u) (Pl.upd K n kk) (m + 1) by rw [HU.out, HUS.out]; simp)
                      clear HU HA
                      go_wp2
                      go_roundg (k - (m + 1))
                      case measure => exact Nat.lt_of_lt_of_le (Nat.sub_lt_sub_left hltm (Nat.lt_succ_self m)) hgm
                      case rel => exact ⟨m + 1, _, _, Nat.succ_le_of_lt hltm, Nat.le_refl _, by go_num, rfl, rfl, by omega, by omega, HU2, HA2, HKn.out _, hBn.out _⟩
                · have dmk : decide ((m : Int) < (k : Int)) = false := decide_eq_false (by omega)
                  have hmk : m = k := by omega
                  have HE : Hid (us = Pl.usedK (fun u => nth (Pl.bytesOf g s') u) (Pl.upd K n kk) g.length ∧ ak = Pl.askedK (Pl.upd K n kk) g.length) := by
                    refine ⟨?_, ?_⟩
                    · rw [LN.out, ← hmk]; exact HUS.out
                    · rw [LN.out, ← hmk]; exact HAK.out
                  have Kv := Lib.hid (K2.out.on HWv.out)
                  by_cases g1 : room < us
                  · have d3 : decide (us > room) = true := decide_eq_true g1
                    have HR : Hid (Pl.chkF g room l = ((j : Int), false)) := by
                      show _ = _
                      rw [HCR.out, HST.out]
                      simp only
                      rw [if_pos (.inl (by rw [← HE.out.1]; exact g1))]
                    clear hmk g1
                    go_wp2
                    go_ret2
                    exact ⟨by rw [HR.out]; rfl, Kv.out.bel⟩
                  have d3 : decide (us > room) = false := decide_eq_false g1
                  by_cases g2 : 4 < ak
                  · have d4 : decide (ak > 4) = true := decide_eq_true g2
                    have HR : Hid (Pl.chkF g room l = ((j : Int), false)) := by
                      show _ = _
                      rw [HCR.out, HST.out]
                      simp only
                      rw [if_pos (.inr (by rw [← HE.out.2]; exact g2))]
                    clear hmk g1 g2
                    go_wp2
                    go_ret2
                    exact ⟨by rw [HR.out]; rfl, Kv.out.bel⟩
                  have d4 : decide (ak > 4) = false := decide_eq_false g2
                  have HCn : Hid (Pl.chkF g room l = Pl.runC g (fun u => nth (Pl.bytesOf g s') u) room (j + 1) (Pl.upd K n kk) (l.drop (j + 1))) := by
                    show _ = _
                    rw [HCR.out, HST.out]
                    simp only
                    rw [if_neg (by rw [← HE.out.1, ← HE.out.2]; omega)]
                  clear hmk g1 g2
                  go_wp2
                  go_roundg (lL - (j + 1))
                  case measure => exact Nat.lt_of_lt_of_le (Nat.sub_lt_sub_left hlt (Nat.lt_succ_self j)) hgj
                  case rel => exact ⟨j + 1, _, Nat.succ_le_of_lt hlt, Nat.le_refl _, by go_num, HKv, HWv, HCn⟩
          · have djl : decide ((j : Int) < (lL : Int)) = false := decide_eq_false (by omega)
            have c9 := Kx.out.cell
            have hk32 : (k : Int) ≤ 32 := by omega
            have HCE : Hid (Pl.chkF g room l = if Pl.endK k K k = true then (0, true) else ((lL : Int), false)) := by
              show _ = _
              rw [HCx.out, List.drop_of_length_le (by rw [LL.out]; omega), Pl.runC, LN.out]
              rw [show (j : Int) = (lL : Int) by omega]
            go_wp2
            go_loopg [136] k (fun gg i wv => ∃ m : Nat, m ≤ k ∧ k - m ≤ gg ∧ i = .int .i64 m ∧ Hid (Pl.endK k K m = true) ∧ Hid (KnBox wv w2.heap.size K) ∧ Hid (Below w2.heap.size w2 wv))
            case atStart => exact ⟨0, Nat.zero_le _, by omega, rfl, rfl, HKx, HWx⟩
            case round =>
              rename World => wv
              obtain ⟨m, hm, hgm, rfl, HE, HKv, HWv⟩ := hrel
              have Kv := Lib.hid (K2.out.on HWv.out)
              by_cases hltm : m < k
              · have dmk : decide ((m : Int) < (k : Int)) = true := decide_eq_true (by omega)
                obtain ⟨z0, z1, z2, z3⟩ := HKv.out.at_ m (by omega)
                have HN : Hid (Pl.endK k K (m + 1) = (Pl.endK k K m && !((K m).asked || (decide (m + 1 = k) && !(K m).inn)))) := rfl
                have HKn : Hid (∀ o, KnBox (wv.alloc o) w2.heap.size K) := fun o => HKv.out.below ((Below.refl _ _).alloc (Nat.le_refl _) o)
                have hBn : Hid (∀ o, Below w2.heap.size w2 (wv.alloc o)) := fun o => HWv.out.alloc HWv.out.size o
                have hcv : ∀ o, (wv.alloc o).cell? ⟨w.heap.size, 0, none⟩ = some (.slice a k cap) := fun o => Lib.cell?_alloc_some _ Kv.out.cell
                have HKO : Hid (∀ o, Below w.heap.size w (wv.alloc o)) := fun o => (K2.out.on (hBn.out o)).bel
                have HFAIL : Hid (Pl.endK k K (m + 1) = false → Pl.chkF g room l = ((lL : Int), false)) := fun h => by
                  rw [HCE.out, if_neg (fun he => ?_)]
                  have h1 := (Pl.endK_parts _).1 he
                  have h2 := (Pl.endK_parts (n := k) (K := K) (m + 1)).2 (fun v hv => h1 v (by omega))
                  rw [h] at h2; cases h2
                generalize (K m).inn = i0 at *
                generalize (K m).asked = k0 at *
                generalize (K m).disk = s0 at *
                generalize (K m).src = r0 at *
                have hb8 : ∀ v : Value, (wv.alloc (.cells #[.bool i0, .bool k0, .bool s0, .bool r0] 130)).cell? ⟨wv.heap.size, 0, none⟩ = some (.bool i0) ∧ (wv.alloc (.cells #[.bool i0, .bool k0, .bool s0, .bool r0] 130)).cell? ⟨wv.heap.size, 1, none⟩ = some (.bool k0) := fun _ => ⟨by rw [World.cell?_alloc_at _ _ _ _ rfl]; rfl, by rw [World.cell?_alloc_at _ _ _ _ rfl]; rfl⟩
                obtain ⟨t0, t1⟩ := hb8 undef
                clear hb8
                cases k0 with
                | true =>
                  have HR := Lib.hid (HFAIL.out (by rw [HN.out]; simp))
                  clear HN HFAIL
                  go_wp2
                  go_ret2
                  exact ⟨by rw [HR.out]; rfl, HKO.out _⟩
                | false =>
                  by_cases hlast : m + 1 = k
                  · have dl : ((m : Int) == (k : Int) - 1) = true := by simp; omega
                    cases i0 with
                    | false =>
                      have HR := Lib.hid (HFAIL.out (by rw [HN.out]; simp [hlast]))
                      clear HN HFAIL hlast
                      go_wp2
                      go_ret2
                      exact ⟨by rw [HR.out]; rfl, HKO.out _⟩
                    | true =>
                      have HN2 := Lib.hid (show Pl.endK k K (m + 1) = true by rw [HN.out, HE.out]; simp)
                      clear HN HFAIL hlast
                      go_wp2
                      go_roundg (k - (m + 1))
                      case measure => exact Nat.lt_of_lt_of_le (Nat.sub_lt_sub_left hltm (Nat.lt_succ_self m)) hgm
                      case rel => exact ⟨m + 1, Nat.succ_le_of_lt hltm, Nat.le_refl _, by go_num, HN2, HKn.out _, hBn.out _⟩
                  · have dl : ((m : Int) == (k : Int) - 1) = false := by simp; omega
                    have HN2 := Lib.hid (show Pl.endK k K (m + 1) = true by rw [HN.out, HE.out]; simp [hlast])
                    clear HN HFAIL hlast
                    go_wp2
                    go_roundg (k - (m + 1))
                    case measure => exact Nat.lt_of_lt_of_le (Nat.sub_lt_sub_left hltm (Nat.lt_succ_self m)) hgm
                    case rel => exact ⟨m + 1, Nat.succ_le_of_lt hltm, Nat.le_refl _, by go_num, HN2, HKn.out _, hBn.out _⟩
              · have dmk : decide ((m : Int) < (k : Int)) = false := decide_eq_false (by omega)
                have HR : Hid (Pl.chkF g room l = (0, true)) := by
                  show _ = _
                  have h : m = k := by omega
                  have he := HE.out
                  rw [h] at he
                  rw [HCE.out, if_pos he]
                go_wp2
                go_ret2
                exact ⟨by rw [HR.out]; rfl, Kv.out.bel⟩
end Go.Proofs.YtekejcnphmnidaaGreatDoor

