/-
  graphs.kinds: the table of kinds, a map that is laid in an open order. kinds1_any: the function literal in it; kinds_any: the map.
-/
import Derived.Test.YtgmagldbfajedaaGrOf
import Derived.Test.YtgmagldbfajedaaRegInv
import Derived.Handy
namespace Go.Proofs.Ytgmagldbfajedaa
open Go.RowKit

set_option maxHeartbeats 1000000 in
theorem kinds1_any (least most low high around shaped a b : Int) (w : World) :
    Calls Try.prog 106 #[.agg #[.int .i64 least, .int .i64 most, .int .i64 low, .int .i64 high, .int .i64 around, .int .i64 shaped], .int .i64 a, .int .i64 b] w
      fun e w' => e = .returned (.agg #[.int .i64 least, .int .i64 most, .int .i64 a, .int .i64 b, .int .i64 around, .int .i64 shaped]) ∧ Below w.heap.size w w' := by
  go_enter Try.func106, Try.ntmps106
  go_wp2
  go_returns
  exact ⟨rfl, ((Below.refl _ _).alloc (Nat.le_refl _) _).alloc (by simp) _⟩

/-- Which operations of the region yield what, and where. -/
def dstL : List (Nat × Nat) := [(1, 17), (3, 18), (5, 19), (7, 20), (9, 21), (11, 22), (13, 23), (14, 24), (15, 25), (17, 26), (19, 27), (20, 28), (21, 29), (23, 30), (25, 31), (27, 32), (29, 33), (30, 34), (31, 35)]
def valOf : Nat → Value
  | 1 => kindV ⟨0, 0, 0, 0, 0, 1⟩
  | 3 => kindV ⟨0, 0, 0, 0, 0, 1⟩
  | 5 => kindV ⟨2, 2, 0, 0, 0, 0⟩
  | 7 => kindV ⟨2, 2, 0, 0, 0, 0⟩
  | 9 => kindV ⟨2, 2, 0, 0, 0, 0⟩
  | 11 => kindV ⟨1, 1, 0, 0, 0, 0⟩
  | 13 => .func (.func 106) #[] #[]
  | 14 => kindV ⟨1, 1, 0, 0, 0, 0⟩
  | 15 => kindV ⟨1, 1, 0, 31, 0, 0⟩
  | 17 => kindV ⟨2, 2, 1, 8, 8, 0⟩
  | 19 => .func (.func 106) #[] #[]
  | 20 => kindV ⟨1, 1, 0, 0, 0, 0⟩
  | 21 => kindV ⟨1, 1, 1, 64, 0, 0⟩
  | 23 => kindV ⟨1, 1, 0, 0, 0, 1⟩
  | 25 => kindV ⟨1, 1, 0, 0, 0, 2⟩
  | 27 => kindV ⟨1, 4, 0, 3, 0, 0⟩
  | 29 => .func (.func 106) #[] #[]
  | 30 => kindV ⟨1, 1, 0, 0, 0, 0⟩
  | 31 => kindV ⟨1, 1, 0, 3, 0, 0⟩
  | _ => undef
/-- Which operations lay an entry. -/
def insL : List (Nat × Int × Gr.Kind) := [(2, 1, ⟨0, 0, 0, 0, 0, 1⟩), (4, 2, ⟨0, 0, 0, 0, 0, 1⟩), (6, 3, ⟨2, 2, 0, 0, 0, 0⟩), (8, 4, ⟨2, 2, 0, 0, 0, 0⟩), (10, 7, ⟨2, 2, 0, 0, 0, 0⟩), (12, 5, ⟨1, 1, 0, 0, 0, 0⟩), (16, 6, ⟨1, 1, 0, 31, 0, 0⟩), (18, 8, ⟨2, 2, 1, 8, 8, 0⟩), (22, 9, ⟨1, 1, 1, 64, 0, 0⟩), (24, 10, ⟨1, 1, 0, 0, 0, 1⟩), (26, 11, ⟨1, 1, 0, 0, 0, 2⟩), (28, 12, ⟨1, 4, 0, 3, 0, 0⟩), (32, 13, ⟨1, 1, 0, 3, 0, 0⟩)]

theorem dst_inj : ∀ p ∈ dstL, ∀ q ∈ dstL, p.2 = q.2 → p.1 = q.1 := by decide
theorem dst_fun : ∀ p ∈ dstL, ∀ q ∈ dstL, p.1 = q.1 → p = q := by decide
theorem dst_far : ∀ p ∈ dstL, 16 < p.2 ∧ p.2 < 36 := by decide
theorem ins_inj : ∀ p ∈ insL, ∀ q ∈ insL, p.2.1 = q.2.1 → p.1 = q.1 := by decide
theorem ins_fun : ∀ p ∈ insL, ∀ q ∈ insL, p.1 = q.1 → p = q := by decide
theorem ins_not_dst : ∀ p ∈ insL, ∀ q ∈ dstL, p.1 ≠ q.1 := by decide
theorem ins_range : ∀ p ∈ insL, 0 < p.1 ∧ p.1 < 33 := by decide
theorem dst_range : ∀ p ∈ dstL, 0 < p.1 ∧ p.1 < 33 := by decide
theorem ins_kind : ∀ p ∈ insL, Gr.kindOf p.2.1 = some p.2.2 := by decide

theorem kind_ins {k : Int} {kd : Gr.Kind} (h : Gr.kindOf k = some kd) : ∃ i, (i, k, kd) ∈ insL := by
  by_cases h1 : k = 1
  · subst h1; simp [Gr.kindOf] at h; subst h; simp [insL]
  by_cases h2 : k = 2
  · subst h2; simp [Gr.kindOf] at h; subst h; simp [insL]
  by_cases h3 : k = 3
  · subst h3; simp [Gr.kindOf] at h; subst h; simp [insL]
  by_cases h4 : k = 4
  · subst h4; simp [Gr.kindOf] at h; subst h; simp [insL]
  by_cases h5 : k = 5
  · subst h5; simp [Gr.kindOf] at h; subst h; simp [insL]
  by_cases h6 : k = 6
  · subst h6; simp [Gr.kindOf] at h; subst h; simp [insL]
  by_cases h7 : k = 7
  · subst h7; simp [Gr.kindOf] at h; subst h; simp [insL]
  by_cases h8 : k = 8
  · subst h8; simp [Gr.kindOf] at h; subst h; simp [insL]
  by_cases h9 : k = 9
  · subst h9; simp [Gr.kindOf] at h; subst h; simp [insL]
  by_cases h10 : k = 10
  · subst h10; simp [Gr.kindOf] at h; subst h; simp [insL]
  by_cases h11 : k = 11
  · subst h11; simp [Gr.kindOf] at h; subst h; simp [insL]
  by_cases h12 : k = 12
  · subst h12; simp [Gr.kindOf] at h; subst h; simp [insL]
  by_cases h13 : k = 13
  · subst h13; simp [Gr.kindOf] at h; subst h; simp [insL]
  simp [Gr.kindOf, h1, h2, h3, h4, h5, h6, h7, h8, h9, h10, h11, h12, h13] at h

/-- The state of the region's walk. -/
structure InvK (w0 : World) (p1 p2 p4 p5 : Nat) (listed : Array Bool) (a : Act) (w : World) : Prop where
  size : a.tmps.size = 37
  defers : a.defers = []
  t1 : a.tmps.getD 1 undef = .pointer (some ⟨p1, 0, none⟩)
  t2 : a.tmps.getD 2 undef = .pointer (some ⟨p2, 0, none⟩)
  t3 : a.tmps.getD 3 undef = .func (.func 106) #[] #[]
  t4 : a.tmps.getD 4 undef = .pointer (some ⟨p4, 0, none⟩)
  t5 : a.tmps.getD 5 undef = .pointer (some ⟨p5, 0, none⟩)
  bel : Below w0.heap.size w0 w
  vals : ∀ p ∈ dstL, listed.getD p.1 false = true → a.tmps.getD p.2 undef = valOf p.1
  first : ∀ p ∈ insL, listed.getD p.1 false = true → listed.getD 0 false = true
  map : listed.getD 0 false = true → ∃ r es clock, w0.heap.size ≤ r ∧ r < w.heap.size ∧ a.tmps.getD 16 undef = .map (some r) ∧ w.heap[r]? = some (.map es clock) ∧
    (∀ e ∈ es.toList, ∃ x ∈ insL, listed.getD x.1 false = true ∧ e.key = .int .u8 x.2.1 ∧ e.val = kindV x.2.2) ∧ (∀ x ∈ insL, listed.getD x.1 false = true → ∃ e ∈ es.toList, e.key = .int .u8 x.2.1)
  late : ∀ j, j = 33 ∨ j = 34 → listed.getD j false = true → listed.getD 0 false = true
  m33 : listed.getD 33 false = true → a.tmps.getD 36 undef = a.tmps.getD 16 undef
  m34 : listed.getD 34 false = true → a.tmps.getD 0 undef = a.tmps.getD 16 undef

theorem getD_set_self {l : Array Bool} {i : Nat} (h : i < l.size) : (l.setIfInBounds i true).getD i false = true := by
  simp [Array.getD_eq_getD_getElem?, Array.getElem?_setIfInBounds_self, h]
theorem getD_set_other {l : Array Bool} {i j : Nat} (h : i ≠ j) (b : Bool) : (l.setIfInBounds i true).getD j b = l.getD j b := by
  simp [Array.getD_eq_getD_getElem?, Array.getElem?_setIfInBounds_ne h]

theorem put_self {a : Act} {d : Nat} (v : Value) (h : d < a.tmps.size) : (a.put (some d) v).tmps.getD d undef = v := by
  simp [Act.put, Array.getD_eq_getD_getElem?, h]
theorem put_other {a : Act} {d j : Nat} (v : Value) (h : d ≠ j) : (a.put (some d) v).tmps.getD j undef = a.tmps.getD j undef := by
  simp [Act.put, Array.getD_eq_getD_getElem?, Array.getElem?_setIfInBounds_ne h]
theorem put_size {a : Act} (d : Nat) (v : Value) : (a.put (some d) v).tmps.size = a.tmps.size := by simp [Act.put]
theorem put_defers {a : Act} (d : Nat) (v : Value) : (a.put (some d) v).defers = a.defers := rfl

/-- Behind an operation that yields its value (a build, a load, a move, a call). -/
theorem InvK.yield {w0 : World} {p1 p2 p4 p5 : Nat} {listed : Array Bool} {a : Act} {w w' : World} (I : InvK w0 p1 p2 p4 p5 listed a w) (hz : listed.size = 35) (p : Nat × Nat) (hp : p ∈ dstL)
    (hb : Below w.heap.size w w') : InvK w0 p1 p2 p4 p5 (listed.setIfInBounds p.1 true) (a.put (some p.2) (valOf p.1)) w' := by
  obtain ⟨i, d⟩ := p
  have hd := dst_far _ hp
  have hr := dst_range _ hp
  simp only at hd hr ⊢
  have hI : ∀ q ∈ insL, (listed.setIfInBounds i true).getD q.1 false = listed.getD q.1 false := fun q hq => getD_set_other (fun h => ins_not_dst _ hq _ hp h.symm) _
  refine ⟨by rw [put_size]; exact I.size, by rw [put_defers]; exact I.defers, by rw [put_other _ (by omega)]; exact I.t1, by rw [put_other _ (by omega)]; exact I.t2, by rw [put_other _ (by omega)]; exact I.t3,
    by rw [put_other _ (by omega)]; exact I.t4, by rw [put_other _ (by omega)]; exact I.t5, I.bel.trans (hb.mono I.bel.size), ?_, ?_, ?_, ?_, ?_, ?_⟩
  · intro q hq hl
    by_cases hiq : i = q.1
    · have := dst_fun _ hp _ hq hiq
      subst this
      exact put_self _ (by rw [I.size]; omega)
    · rw [getD_set_other hiq] at hl
      rw [put_other _ (fun h => hiq (dst_inj _ hp _ hq h))]
      exact I.vals q hq hl
  · intro q hq hl
    rw [hI q hq] at hl
    rw [getD_set_other (by omega)]
    exact I.first q hq hl
  · intro h0
    rw [getD_set_other (by omega)] at h0
    obtain ⟨r, es, clock, h1, h2, h3, h4, h5, h6⟩ := I.map h0
    refine ⟨r, es, clock, h1, Nat.lt_of_lt_of_le h2 hb.size, by rw [put_other _ (by omega)]; exact h3, by rw [hb.block r h2]; exact h4, fun e he => ?_, fun x hx hl => ?_⟩
    · obtain ⟨x, hx, hl, hk⟩ := h5 e he
      exact ⟨x, hx, by rw [hI x hx]; exact hl, hk⟩
    · rw [hI x hx] at hl
      exact h6 x hx hl
  · intro j hj h
    rw [getD_set_other (by omega)] at h
    rw [getD_set_other (by omega)]
    exact I.late j hj h
  · intro h
    rw [getD_set_other (by omega)] at h
    rw [put_other _ (by omega), put_other _ (by omega)]; exact I.m33 h
  · intro h
    rw [getD_set_other (by omega)] at h
    rw [put_other _ (by omega), put_other _ (by omega)]; exact I.m34 h

/-- Behind 'make'. -/
theorem InvK.make {w0 : World} {p1 p2 p4 p5 : Nat} {listed : Array Bool} {a : Act} {w : World} (I : InvK w0 p1 p2 p4 p5 listed a w) (hz : listed.size = 35) (h0 : listed.getD 0 false = false) :
    InvK w0 p1 p2 p4 p5 (listed.setIfInBounds 0 true) (a.put (some 16) (.map (some w.heap.size))) (w.alloc (.map #[] 0)) := by
  have h33 : listed.getD 33 false = false := by cases h : listed.getD 33 false with | false => rfl | true => rw [I.late 33 (.inl rfl) h] at h0; cases h0
  have h34 : listed.getD 34 false = false := by cases h : listed.getD 34 false with | false => rfl | true => rw [I.late 34 (.inr rfl) h] at h0; cases h0
  have hn : ∀ q ∈ insL, listed.getD q.1 false = true → False := fun q hq hl => by rw [I.first q hq hl] at h0; cases h0
  have hI : ∀ q ∈ insL, (listed.setIfInBounds 0 true).getD q.1 false = listed.getD q.1 false := fun q hq => getD_set_other (by have := ins_range _ hq; omega) _
  refine ⟨by rw [put_size]; exact I.size, by rw [put_defers]; exact I.defers, by rw [put_other _ (by omega)]; exact I.t1, by rw [put_other _ (by omega)]; exact I.t2, by rw [put_other _ (by omega)]; exact I.t3,
    by rw [put_other _ (by omega)]; exact I.t4, by rw [put_other _ (by omega)]; exact I.t5, I.bel.alloc I.bel.size _, ?_, ?_, ?_, ?_, ?_, ?_⟩
  · intro q hq hl
    have h1 := dst_far _ hq
    have h2 := dst_range _ hq
    rw [getD_set_other (by omega)] at hl
    rw [put_other _ (by omega)]
    exact I.vals q hq hl
  · intro q hq hl
    exact getD_set_self (by omega)
  · intro _
    refine ⟨w.heap.size, #[], 0, I.bel.size, by simp, put_self _ (by rw [I.size]; omega), (by show (w.heap.push _)[w.heap.size]? = _; simp), fun e he => (by simp at he), fun x hx hl => ?_⟩
    rw [hI x hx] at hl
    exact (hn x hx hl).elim
  · intro _ _ _
    exact getD_set_self (by omega)
  · intro h
    rw [getD_set_other (by omega), h33] at h
    cases h
  · intro h
    rw [getD_set_other (by omega), h34] at h
    cases h
end Go.Proofs.Ytgmagldbfajedaa
