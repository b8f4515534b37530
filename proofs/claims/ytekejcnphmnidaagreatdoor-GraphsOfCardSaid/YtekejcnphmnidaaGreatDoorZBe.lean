import Derived.Handy
import Derived.MapKept
import Derived.Laws.EntriesVeiled
import Derived.Test.YtekejcnphmnidaaGreatDoorZBc
import Derived.Test.YtekejcnphmnidaaGreatDoorZBd
namespace Go.Proofs.YtekejcnphmnidaaGreatDoor
open Go.RowKit
set_option maxHeartbeats 1000000 in
theorem kinds1_any (least most low high around shaped a b : Int) (w : World) :
    Calls Tryz.prog 174 #[.agg #[.int .i64 least, .int .i64 most, .int .i64 low, .int .i64 high, .int .i64 around, .int .i64 shaped], .int .i64 a, .int .i64 b] w
      fun e w' => e = .returned (.agg #[.int .i64 least, .int .i64 most, .int .i64 a, .int .i64 b, .int .i64 around, .int .i64 shaped]) ∧ Below w.heap.size w w' := by
  go_enter Tryz.func174, Tryz.ntmps174
  go_wp2
  go_returns
  exact ⟨rfl, ((Below.refl _ _).alloc (Nat.le_refl _) _).alloc (by simp) _⟩
def dstL : List (Nat × Nat) := [(1, 17), (3, 18), (5, 19), (7, 20), (9, 21), (11, 22), (13, 23), (14, 24), (15, 25), (17, 26), (19, 27), (20, 28), (21, 29), (23, 30), (25, 31), (27, 32), (29, 33), (30, 34), (31, 35)]
def valOf : Nat → Value
  | 1 => kindV ⟨0, 0, 0, 0, 0, 1⟩
  | 3 => kindV ⟨0, 0, 0, 0, 0, 1⟩
  | 5 => kindV ⟨2, 2, 0, 0, 0, 0⟩
  | 7 => kindV ⟨2, 2, 0, 0, 0, 0⟩
  | 9 => kindV ⟨2, 2, 0, 0, 0, 0⟩
  | 11 => kindV ⟨1, 1, 0, 0, 0, 0⟩
  | 13 => .func (.func 174) #[] #[]
  | 14 => kindV ⟨1, 1, 0, 0, 0, 0⟩
  | 15 => kindV ⟨1, 1, 0, 31, 0, 0⟩
  | 17 => kindV ⟨2, 2, 1, 8, 8, 0⟩
  | 19 => .func (.func 174) #[] #[]
  | 20 => kindV ⟨1, 1, 0, 0, 0, 0⟩
  | 21 => kindV ⟨1, 1, 1, 64, 0, 0⟩
  | 23 => kindV ⟨1, 1, 0, 0, 0, 1⟩
  | 25 => kindV ⟨1, 1, 0, 0, 0, 2⟩
  | 27 => kindV ⟨1, 4, 0, 3, 0, 0⟩
  | 29 => .func (.func 174) #[] #[]
  | 30 => kindV ⟨1, 1, 0, 0, 0, 0⟩
  | 31 => kindV ⟨1, 1, 0, 3, 0, 0⟩
  | _ => undef
def insL : List (Nat × Int × Gr.Kind) := [(2, 1, ⟨0, 0, 0, 0, 0, 1⟩), (4, 2, ⟨0, 0, 0, 0, 0, 1⟩), (6, 3, ⟨2, 2, 0, 0, 0, 0⟩), (8, 4, ⟨2, 2, 0, 0, 0, 0⟩), (10, 7, ⟨2, 2, 0, 0, 0, 0⟩), (12, 5, ⟨1, 1, 0, 0, 0, 0⟩), (16, 6, ⟨1, 1, 0, 31, 0, 0⟩), (18, 8, ⟨2, 2, 1, 8, 8, 0⟩), (22, 9, ⟨1, 1, 1, 64, 0, 0⟩), (24, 10, ⟨1, 1, 0, 0, 0, 1⟩), (26, 11, ⟨1, 1, 0, 0, 0, 2⟩), (28, 12, ⟨1, 4, 0, 3, 0, 0⟩), (32, 13, ⟨1, 1, 0, 3, 0, 0⟩)]
theorem dst_inj : ∀ p ∈ dstL, ∀ q ∈ dstL, p.2 = q.2 → p.1 = q.1 := by decide
theorem dst_fun : ∀ p ∈ dstL, ∀ q ∈ dstL, p.1 = q.1 → p = q := by decide
theorem dst_far : ∀ p ∈ dstL, 16 < p.2 ∧ p.2 < 36 := by decide
theorem ins_inj : ∀ p ∈ insL, ∀ q ∈ insL, p.2.1 = q.2.1 → p.1 = q.1 := by decide
theorem ins_fun : ∀ p ∈ insL, ∀ q ∈ insL, p.1 = q.1 → p = q := by decide
theorem ins_not_dst : ∀ p ∈ insL, ∀ q ∈ dstL, p.1 ≠ q.1 := by decide
theorem ins_range : ∀ p ∈ insL, 0 < p.1 ∧ p.1 < 33 := by decide
theorem dst_range : ∀ p ∈ dstL, 0 < p.1 ∧ p.1 < 33 := by decide
theorem ins_kind : ∀ p ∈ insL, Gr.kindOf p.2.1 = some p.2.2 := by decide
theorem kind_ins {k : Int} {kd : Gr.Kind} (h : Gr.kindOf k = some kd) : ∃ i, (i, k, kd) ∈ insL := by
  by_cases h1 : k = 1
  · subst h1; simp [Gr.kindOf] at h; subst h; simp [insL]
  by_cases h2 : k = 2
  · subst h2; simp [Gr.kindOf] at h; subst h; simp [insL]
  by_cases h3 : k = 3
  · subst h3; simp [Gr.kindOf] at h; subst h; simp [insL]
  by_cases h4 : k = 4
  · subst h4; simp [Gr.kindOf] at h; subst h; simp [insL]
  by_cases h5 : k = 5
  · subst h5; simp [Gr.kindOf] at h; subst h; simp [insL]
  by_cases h6 : k = 6
  · subst h6; simp [Gr.kindOf] at h; subst h; simp [insL]
  by_cases h7 : k = 7
  · subst h7; simp [Gr.kindOf] at h; subst h; simp [insL]
  by_cases h8 : k = 8
  · subst h8; simp [Gr.kindOf] at h; subst h; simp [insL]
  by_cases h9 : k = 9
  · subst h9; simp [Gr.kindOf] at h; subst h; simp [insL]
  by_cases h10 : k = 10
  · subst h10; simp [Gr.kindOf] at h; subst h; simp [insL]
  by_cases h11 : k = 11
  · subst h11; simp [Gr.kindOf] at h; subst h; simp [insL]
  by_cases h12 : k = 12
  · subst h12; simp [Gr.kindOf] at h; subst h; simp [insL]
  by_cases h13 : k = 13
  · subst h13; simp [Gr.kindOf] at h; subst h; simp [insL]
  simp [Gr.kindOf, h1, h2, h3, h4, h5, h6, h7, h8, h9, h10, h11, h12, h13] at h
structure InvK (w0 : World) (p1 p2 p4 p5 : Nat) (listed : Array Bool) (a : Act) (w : World) : Prop where
  size : a.tmps.size = 37
  defers : a.defers = []
  t1 : a.tmps.getD 1 undef = .pointer (some ⟨p1, 0, none⟩)
  t2 : a.tmps.getD 2 undef = .pointer (some ⟨p2, 0, none⟩)
  t3 : a.tmps.getD 3 undef = .func (.func 174) #[] #[]
  t4 : a.tmps.getD 4 undef = .pointer (some ⟨p4, 0, none⟩)
  t5 : a.tmps.getD 5 undef = .pointer (some ⟨p5, 0, none⟩)
  bel : Below w0.heap.size w0 w
  vals : ∀ p ∈ dstL, listed.getD p.1 false = true → a.tmps.getD p.2 undef = valOf p.1
  first : ∀ p ∈ insL, listed.getD p.1 false = true → listed.getD 0 false = true
  map : listed.getD 0 false = true → ∃ r es clock, w0.heap.size ≤ r ∧ r < w.heap.size ∧ a.tmps.getD 16 undef = .map (some r) ∧ w.heap[r]? = some (.map es clock) ∧
    (∀ e ∈ es.toList, ∃ x ∈ insL, listed.getD x.1 false = true ∧ e.key = .int .u8 x.2.1 ∧ e.val = kindV x.2.2) ∧ (∀ x ∈ insL, listed.getD x.1 false = true → ∃ e ∈ es.toList, e.key = .int .u8 x.2.1)
  late : ∀ j, j = 33 ∨ j = 34 → listed.getD j false = true → listed.getD 0 false = true
  m33 : listed.getD 33 false = true → a.tmps.getD 36 undef = a.tmps.getD 16 undef
  m34 : listed.getD 34 false = true → a.tmps.getD 0 undef = a.tmps.getD 16 undef
theorem getD_set_self {l : Array Bool} {i : Nat} (h : i < l.size) : (l.setIfInBounds i true).getD i false = true := by
  simp [Array.getD_eq_getD_getElem?, h]
theorem getD_set_other {l : Array Bool} {i j : Nat} (h : i ≠ j) (b : Bool) : (l.setIfInBounds i true).getD j b = l.getD j b := by
  simp [Array.getD_eq_getD_getElem?, Array.getElem?_setIfInBounds_ne h]
theorem put_self {a : Act} {d : Nat} (v : Value) (h : d < a.tmps.size) : (a.put (some d) v).tmps.getD d undef = v := by
  simp [Act.put, Array.getD_eq_getD_getElem?, h]
theorem put_other {a : Act} {d j : Nat} (v : Value) (h : d ≠ j) : (a.put (some d) v).tmps.getD j undef = a.tmps.getD j undef := by
  simp [Act.put, Array.getD_eq_getD_getElem?, Array.getElem?_setIfInBounds_ne h]
theorem put_size {a : Act} (d : Nat) (v : Value) : (a.put (some d) v).tmps.size = a.tmps.size := by simp [Act.put]
theorem put_defers {a : Act} (d : Nat) (v : Value) : (a.put (some d) v).defers = a.defers := rfl
theorem InvK.yield {w0 : World} {p1 p2 p4 p5 : Nat} {listed : Array Bool} {a : Act} {w w' : World} (I : InvK w0 p1 p2 p4 p5 listed a w) (_ : listed.size = 35) (p : Nat × Nat) (hp : p ∈ dstL)
    (hb : Below w.heap.size w w') : InvK w0 p1 p2 p4 p5 (listed.setIfInBounds p.1 true) (a.put (some p.2) (valOf p.1)) w' := by
  obtain ⟨i, d⟩ := p
  have hd := dst_far _ hp
  have hr := dst_range _ hp
  simp only at hd hr ⊢
  have hI : ∀ q ∈ insL, (listed.setIfInBounds i true).getD q.1 false = listed.getD q.1 false := fun q hq => getD_set_other (fun h => ins_not_dst _ hq _ hp h.symm) _
  refine ⟨by rw [put_size]; exact I.size, by rw [put_defers]; exact I.defers, by rw [put_other _ (by omega)]; exact I.t1, by rw [put_other _ (by omega)]; exact I.t2, by rw [put_other _ (by omega)]; exact I.t3,
    by rw [put_other _ (by omega)]; exact I.t4, by rw [put_other _ (by omega)]; exact I.t5, I.bel.trans (hb.mono I.bel.size), ?_, ?_, ?_, ?_, ?_, ?_⟩
  · intro q hq hl
    by_cases hiq : i = q.1
    · have := dst_fun _ hp _ hq hiq
      subst this
      exact put_self _ (by rw [I.size]; omega)
    · rw [getD_set_other hiq] at hl
      rw [put_other _ (fun h => hiq (dst_inj _ hp _ hq h))]
      exact I.vals q hq hl
  · intro q hq hl
    rw [hI q hq] at hl
    rw [getD_set_other (by omega)]
    exact I.first q hq hl
  · intro h0
    rw [getD_set_other (by omega)] at h0
    obtain ⟨r, es, clock, h1, h2, h3, h4, h5, h6⟩ := I.map h0
    refine ⟨r, es, clock, h1, Nat.lt_of_lt_of_le h2 hb.size, by rw [put_other _ (by omega)]; exact h3, by rw [hb.block r h2]; exact h4, fun e he => ?_, fun x hx hl => ?_⟩
    · obtain ⟨x, hx, hl, hk⟩ := h5 e he
      exact ⟨x, hx, by rw [hI x hx]; exact hl, hk⟩
    · rw [hI x hx] at hl
      exact h6 x hx hl
  · intro j hj h
    rw [getD_set_other (by omega)] at h
    rw [getD_set_other (by omega)]
    exact I.late j hj h
  · intro h
    rw [getD_set_other (by omega)] at h
    rw [put_other _ (by omega), put_other _ (by omega)]; exact I.m33 h
  · intro h
    rw [getD_set_other (by omega)] at h
    rw [put_other _ (by omega), put_other _ (by omega)]; exact I.m34 h
theorem InvK.make {w0 : World} {p1 p2 p4 p5 : Nat} {listed : Array Bool} {a : Act} {w : World} (I : InvK w0 p1 p2 p4 p5 listed a w) (hz : listed.size = 35) (h0 : listed.getD 0 false = false) :
    InvK w0 p1 p2 p4 p5 (listed.setIfInBounds 0 true) (a.put (some 16) (.map (some w.heap.size))) (w.alloc (.map #[] 0)) := by
  have h33 : listed.getD 33 false = false := by cases h : listed.getD 33 false with | false => rfl | true => rw [I.late 33 (.inl rfl) h] at h0; cases h0
  have h34 : listed.getD 34 false = false := by cases h : listed.getD 34 false with | false => rfl | true => rw [I.late 34 (.inr rfl) h] at h0; cases h0
  have hn : ∀ q ∈ insL, listed.getD q.1 false = true → False := fun q hq hl => by rw [I.first q hq hl] at h0; cases h0
  have hI : ∀ q ∈ insL, (listed.setIfInBounds 0 true).getD q.1 false = listed.getD q.1 false := fun q hq => getD_set_other (by have := ins_range _ hq; omega) _
  refine ⟨by rw [put_size]; exact I.size, by rw [put_defers]; exact I.defers, by rw [put_other _ (by omega)]; exact I.t1, by rw [put_other _ (by omega)]; exact I.t2, by rw [put_other _ (by omega)]; exact I.t3,
    by rw [put_other _ (by omega)]; exact I.t4, by rw [put_other _ (by omega)]; exact I.t5, I.bel.alloc I.bel.size _, ?_, ?_, ?_, ?_, ?_, ?_⟩
  · intro q hq hl
    have h1 := dst_far _ hq
    have h2 := dst_range _ hq
    rw [getD_set_other (by omega)] at hl
    rw [put_other _ (by omega)]
    exact I.vals q hq hl
  · intro q hq hl
    exact getD_set_self (by omega)
  · intro _
    refine ⟨w.heap.size, #[], 0, I.bel.size, by simp, put_self _ (by rw [I.size]; omega), (by show (w.heap.push _)[w.heap.size]? = _; simp), fun e he => (by simp at he), fun x hx hl => ?_⟩
    rw [hI x hx] at hl
    exact (hn x hx hl).elim
  · intro _ _ _
    exact getD_set_self (by omega)
  · intro h
    rw [getD_set_other (by omega), h33] at h
    cases h
  · intro h
    rw [getD_set_other (by omega), h34] at h
    cases h
end Go.Proofs.YtekejcnphmnidaaGreatDoor
namespace Go.Proofs.YtekejcnphmnidaaGreatDoor
open Go.RowKit Go.MapKept
theorem Tryz.under97 : Tryz.prog.underlying 97 = some (.map 101 105) := by kernel_rfl
theorem Tryz.under101 : Tryz.prog.underlying 101 = some (.int .u8) := by kernel_rfl
theorem isKey_u8 (k : Int) : IsKey (.int .u8) (.int .u8 k) := by simp [IsKey]
theorem insert_run {w : World} {r clock : Nat} {es : Array MapEntry} {k : Int} {v : Value} (hb : w.heap[r]? = some (.map es clock)) (hks : ∀ e ∈ es.toList, ∃ j, e.key = .int .u8 j ∧ j ≠ k) :
    (Instr.mapUpdate 97 (.map (some r)) (.int .u8 k) v).run Tryz.prog w = .ok () { w with heap := w.heap.setIfInBounds r (.map (es.push { key := .int .u8 k, val := v, born := clock }) (clock + 1)) } := by
  have hk := isKey_u8 k
  rcases findNow_spec hk es.toList 0 (fun e he => by obtain ⟨j, h, _⟩ := hks e he; rw [h]; exact isKey_u8 j) with ⟨h1, _⟩ | ⟨j, e, _, h2, h3⟩
  · simp [Instr.mapUpdate, run_underlying Tryz.under97, Go.MapKept.run_getObj_map hb, run_checkKey Tryz.under101 hk, run_findKey Tryz.under101 h1, run_setObj_map _ hb, Result.andThen]
  · exfalso
    obtain ⟨j', h4, h5⟩ := hks e (List.mem_of_getElem? h2)
    rw [h3] at h4
    simp only [Value.int.injEq, true_and] at h4
    exact h5 h4.symm
theorem InvK.insert {w0 : World} {p1 p2 p4 p5 : Nat} {listed : Array Bool} {a : Act} {w : World} (I : InvK w0 p1 p2 p4 p5 listed a w) (hz : listed.size = 35) (i : Nat) (k : Int) (kd : Gr.Kind) (hx : (i, k, kd) ∈ insL)
    (h0 : listed.getD 0 false = true) (hi : listed.getD i false = false) :
    ∃ r es clock, a.tmps.getD 16 undef = .map (some r) ∧ w.heap[r]? = some (.map es clock) ∧ (∀ e ∈ es.toList, ∃ j, e.key = .int .u8 j ∧ j ≠ k) ∧
      InvK w0 p1 p2 p4 p5 (listed.setIfInBounds i true) a { w with heap := w.heap.setIfInBounds r (.map (es.push { key := .int .u8 k, val := kindV kd, born := clock }) (clock + 1)) } := by
  obtain ⟨r, es, clock, h1, h2, h3, h4, h5, h6⟩ := I.map h0
  have hr := ins_range _ hx
  simp only at hr
  refine ⟨r, es, clock, h3, h4, fun e he => ?_, I.size, I.defers, I.t1, I.t2, I.t3, I.t4, I.t5, ?_, ?_, ?_, ?_, ?_, ?_, ?_⟩
  · obtain ⟨x, hxi, hl, hk, _⟩ := h5 e he
    refine ⟨x.2.1, hk, fun hkk => ?_⟩
    have := ins_inj _ hxi _ hx hkk
    simp only at this
    rw [this, hi] at hl
    cases hl
  · refine ⟨I.bel.os, I.bel.tape, I.bel.output, by simpa using I.bel.size, fun j hj => ?_⟩
    have := I.bel.block j hj
    rw [← this]
    simp [show r ≠ j by omega]
  · intro q hq hl
    rw [getD_set_other (fun h => ins_not_dst _ hx _ hq h)] at hl
    exact I.vals q hq hl
  · intro q hq hl
    rw [getD_set_other (by omega)]
    exact h0
  · intro _
    refine ⟨r, _, _, h1, by simpa using h2, h3, (heap_set h4).1, fun e he => ?_, fun x hxi hl => ?_⟩
    · simp only [Array.toList_push, List.mem_append, List.mem_singleton] at he
      rcases he with he | rfl
      · obtain ⟨x, hxi, hl, hk⟩ := h5 e he
        refine ⟨x, hxi, ?_, hk⟩
        by_cases hix : i = x.1
        · rw [← hix]; exact getD_set_self (by omega)
        · rw [getD_set_other hix]; exact hl
      · exact ⟨_, hx, getD_set_self (by omega), rfl, rfl⟩
    · by_cases hix : i = x.1
      · have := ins_fun _ hx _ hxi hix
        subst this
        exact ⟨_, by simp only [Array.toList_push, List.mem_append, List.mem_singleton]; exact .inr rfl, rfl⟩
      · rw [getD_set_other hix] at hl
        obtain ⟨e, he, hk⟩ := h6 x hxi hl
        exact ⟨e, by simp only [Array.toList_push, List.mem_append]; exact .inl he, hk⟩
  · intro j hj h
    rw [getD_set_other (by omega)] at h
    rw [getD_set_other (by omega)]
    exact I.late j hj h
  · intro h
    rw [getD_set_other (by omega)] at h
    exact I.m33 h
  · intro h
    rw [getD_set_other (by omega)] at h
    exact I.m34 h
theorem InvK.last {w0 : World} {p1 p2 p4 p5 : Nat} {listed : Array Bool} {a : Act} {w : World} (I : InvK w0 p1 p2 p4 p5 listed a w) (_ : listed.size = 35) (h0 : listed.getD 0 false = true) :
    InvK w0 p1 p2 p4 p5 (listed.setIfInBounds 33 true) (a.put (some 36) (a.tmps.getD 16 undef)) w := by
  have hI : ∀ q ∈ insL, (listed.setIfInBounds 33 true).getD q.1 false = listed.getD q.1 false := fun q hq => getD_set_other (by have := ins_range _ hq; omega) _
  refine ⟨by rw [put_size]; exact I.size, by rw [put_defers]; exact I.defers, by rw [put_other _ (by omega)]; exact I.t1, by rw [put_other _ (by omega)]; exact I.t2, by rw [put_other _ (by omega)]; exact I.t3,
    by rw [put_other _ (by omega)]; exact I.t4, by rw [put_other _ (by omega)]; exact I.t5, I.bel, ?_, ?_, ?_, ?_, ?_, ?_⟩
  · intro q hq hl
    have h1 := dst_far _ hq
    have h2 := dst_range _ hq
    rw [getD_set_other (by omega)] at hl
    rw [put_other _ (by omega)]
    exact I.vals q hq hl
  · intro q hq hl
    rw [hI q hq] at hl
    rw [getD_set_other (by omega)]
    exact I.first q hq hl
  · intro h
    rw [getD_set_other (by omega)] at h
    obtain ⟨r, es, clock, h1, h2, h3, h4, h5, h6⟩ := I.map h
    exact ⟨r, es, clock, h1, h2, by rw [put_other _ (by omega)]; exact h3, h4, fun e he => by obtain ⟨x, hx, hl, hk⟩ := h5 e he; exact ⟨x, hx, by rw [hI x hx]; exact hl, hk⟩, fun x hx hl => h6 x hx (by rw [hI x hx] at hl; exact hl)⟩
  · intro _ _ _
    rw [getD_set_other (by omega)]
    exact h0
  · intro _
    rw [put_self _ (by rw [I.size]; omega), put_other _ (by omega)]
  · intro h
    rw [getD_set_other (by omega)] at h
    rw [put_other _ (by omega), put_other _ (by omega)]
    exact I.m34 h
theorem InvK.over {w0 : World} {p1 p2 p4 p5 : Nat} {listed : Array Bool} {a : Act} {w : World} (I : InvK w0 p1 p2 p4 p5 listed a w) (_ : listed.size = 35) (h33 : listed.getD 33 false = true) :
    InvK w0 p1 p2 p4 p5 (listed.setIfInBounds 34 true) (a.put (some 0) (a.tmps.getD 36 undef)) w := by
  have hI : ∀ q ∈ insL, (listed.setIfInBounds 34 true).getD q.1 false = listed.getD q.1 false := fun q hq => getD_set_other (by have := ins_range _ hq; omega) _
  refine ⟨by rw [put_size]; exact I.size, by rw [put_defers]; exact I.defers, by rw [put_other _ (by omega)]; exact I.t1, by rw [put_other _ (by omega)]; exact I.t2, by rw [put_other _ (by omega)]; exact I.t3,
    by rw [put_other _ (by omega)]; exact I.t4, by rw [put_other _ (by omega)]; exact I.t5, I.bel, ?_, ?_, ?_, ?_, ?_, ?_⟩
  · intro q hq hl
    have h1 := dst_far _ hq
    have h2 := dst_range _ hq
    rw [getD_set_other (by omega)] at hl
    rw [put_other _ (by omega)]
    exact I.vals q hq hl
  · intro q hq hl
    rw [hI q hq] at hl
    rw [getD_set_other (by omega)]
    exact I.first q hq hl
  · intro h
    rw [getD_set_other (by omega)] at h
    obtain ⟨r, es, clock, h1, h2, h3, h4, h5, h6⟩ := I.map h
    exact ⟨r, es, clock, h1, h2, by rw [put_other _ (by omega)]; exact h3, h4, fun e he => by obtain ⟨x, hx, hl, hk⟩ := h5 e he; exact ⟨x, hx, by rw [hI x hx]; exact hl, hk⟩, fun x hx hl => h6 x hx (by rw [hI x hx] at hl; exact hl)⟩
  · intro _ _ _
    rw [getD_set_other (by omega)]
    exact I.late 33 (.inl rfl) h33
  · intro h
    rw [put_other _ (by omega), put_other _ (by omega)]
    exact I.m33 h33
  · intro _
    rw [put_self _ (by rw [I.size]; omega), put_other _ (by omega)]
    exact I.m33 h33
def KindsMap (w : World) (r : Nat) : Prop := ∃ es clock, w.heap[r]? = some (.map es clock) ∧ (∀ e ∈ es.toList, ∃ k kd, e.key = .int .u8 k ∧ Gr.kindOf k = some kd ∧ e.val = kindV kd) ∧ ∀ k kd, Gr.kindOf k = some kd → ∃ e ∈ es.toList, e.key = .int .u8 k
theorem KindsMap.below {w w' : World} {r : Nat} (h : KindsMap w r) (hb : Below w.heap.size w w') : KindsMap w' r := by
  obtain ⟨es, clock, h1, h2⟩ := h
  exact ⟨es, clock, by rw [hb.block r (Array.getElem?_eq_some_iff.1 h1).1]; exact h1, h2⟩
theorem KindsMap.there {w : World} {r : Nat} (h : KindsMap w r) {k : Int} {kd : Gr.Kind} (hk : Gr.kindOf k = some kd) :
    (Instr.lookup 97 (.map (some r)) (.int .u8 k) true).run Tryz.prog w = .ok (.tuple #[kindV kd, .bool true]) w ∧ (Instr.lookup 97 (.map (some r)) (.int .u8 k) false).run Tryz.prog w = .ok (kindV kd) w := by
  obtain ⟨es, clock, h1, h2, h3⟩ := h
  have hkey := isKey_u8 k
  rcases findNow_spec hkey es.toList 0 (fun e he => by obtain ⟨j, _, hj, _⟩ := h2 e he; rw [hj]; exact isKey_u8 j) with ⟨_, hn⟩ | ⟨j, e, hf, hj, he⟩
  · obtain ⟨e, he, hke⟩ := h3 k kd hk
    exact (hn e he hke).elim
  · obtain ⟨k', kd', hk1, hk2, hv⟩ := h2 e (List.mem_of_getElem? hj)
    rw [he] at hk1
    simp only [Value.int.injEq, true_and] at hk1
    subst hk1
    rw [hk] at hk2
    cases hk2
    constructor
    · simp [Instr.lookup, run_underlying Tryz.under97, Go.MapKept.run_getObj_map h1, run_checkKey Tryz.under101 hkey, run_findKey Tryz.under101 hf, Result.andThen, hv]
    · simp [Instr.lookup, run_underlying Tryz.under97, Go.MapKept.run_getObj_map h1, run_checkKey Tryz.under101 hkey, run_findKey Tryz.under101 hf, Result.andThen, hv]
end Go.Proofs.YtekejcnphmnidaaGreatDoor
namespace Go.Proofs.YtekejcnphmnidaaGreatDoor
open Go.RowKit
theorem build_run1 (w : World) : (Instr.build 105 #[(5, .int .i64 1)]).run Tryz.prog w = .ok (kindV ⟨0, 0, 0, 0, 0, 1⟩) w := by
  kernel_rfl
theorem build_run2 (w : World) : (Instr.build 105 #[(0, .int .i64 1), (1, .int .i64 1), (5, .int .i64 1)]).run Tryz.prog w = .ok (kindV ⟨1, 1, 0, 0, 0, 1⟩) w := by
  kernel_rfl
theorem build_run3 (w : World) : (Instr.build 105 #[(0, .int .i64 1), (1, .int .i64 1), (5, .int .i64 2)]).run Tryz.prog w = .ok (kindV ⟨1, 1, 0, 0, 0, 2⟩) w := by
  kernel_rfl
structure KindAt (w : World) (p : Nat) (k : Gr.Kind) : Prop where
  lt : p < w.heap.size
  c0 : w.cell? ⟨p, 0, none⟩ = some (.int .i64 k.least)
  c1 : w.cell? ⟨p, 1, none⟩ = some (.int .i64 k.most)
  c2 : w.cell? ⟨p, 2, none⟩ = some (.int .i64 k.low)
  c3 : w.cell? ⟨p, 3, none⟩ = some (.int .i64 k.high)
  c4 : w.cell? ⟨p, 4, none⟩ = some (.int .i64 k.around)
  c5 : w.cell? ⟨p, 5, none⟩ = some (.int .i64 k.shaped)
theorem KindAt.below {w w' : World} {p : Nat} {k : Gr.Kind} (h : KindAt w p k) (hb : Below w.heap.size w w') : KindAt w' p k :=
  ⟨Nat.lt_of_lt_of_le h.lt hb.size, (hb.cell (p := ⟨p, 0, none⟩) h.lt).trans h.c0, (hb.cell (p := ⟨p, 1, none⟩) h.lt).trans h.c1, (hb.cell (p := ⟨p, 2, none⟩) h.lt).trans h.c2,
    (hb.cell (p := ⟨p, 3, none⟩) h.lt).trans h.c3, (hb.cell (p := ⟨p, 4, none⟩) h.lt).trans h.c4, (hb.cell (p := ⟨p, 5, none⟩) h.lt).trans h.c5⟩
theorem KindAt.load {w : World} {p : Nat} {k : Gr.Kind} (h : KindAt w p k) : (Instr.loadAt 105 (.pointer (some ⟨p, 0, none⟩))).run Tryz.prog w = .ok (kindV k) w := by
  obtain ⟨_, h0, h1, h2, h3, h4, h5⟩ := h
  unfold kindV
  go_simp
theorem wpOp_of {P : Program} {ops : Array Oper} {Q : Exit → Act → World → Prop} {i : Nat} {o : Oper} {K : Act → World → Prop} {a : Act} {w : World} (ho : ops[i]? = some o) (hg : o.guard = none) (h : o.wp P a w K Q) : wpOp P ops Q i K a w := by
  unfold wpOp
  rw [ho]
  simp only [Region.wanted, hg, if_true]
  exact .inl h
theorem wp_value {P : Program} {o : Oper} {a : Act} {w : World} {K : Act → World → Prop} {Q : Exit → Act → World → Prop} {v : Value} (h : (execOp a.eval o).run P w = .ok (.value v) w) (hK : K (a.put o.dst v) w) : o.wp P a w K Q := by
  unfold Oper.wp; rw [h]; exact hK
theorem eval_tmp (a : Act) (d : Nat) : a.eval (.tmp d) = a.tmps.getD d undef := rfl
theorem wp_move {P : Program} {o : Oper} {a : Act} {w : World} {K : Act → World → Prop} {Q : Exit → Act → World → Prop} {s : Nat} {v : Value} (ho : o.op = .move (.tmp s) ∨ o.op = .assign (.tmp s)) (hv : a.tmps.getD s undef = v) (hK : K (a.put o.dst v) w) : o.wp P a w K Q := by
  refine wp_value (v := v) ?_ hK
  unfold execOp
  rcases ho with ho | ho <;> (rw [ho]; simp [eval_tmp, hv])
theorem wp_load {o : Oper} {a : Act} {w : World} {K : Act → World → Prop} {Q : Exit → Act → World → Prop} {s p : Nat} {k : Gr.Kind} (ho : o.op = .load 105 (.tmp s)) (hp : a.tmps.getD s undef = .pointer (some ⟨p, 0, none⟩)) (hk : KindAt w p k) (hK : K (a.put o.dst (kindV k)) w) : o.wp Tryz.prog a w K Q := by
  refine wp_value (v := kindV k) ?_ hK
  have := hk.load
  unfold execOp
  rw [ho]
  simp [eval_tmp, hp, this, Result.andThen]
theorem wp_build {o : Oper} {a : Act} {w : World} {K : Act → World → Prop} {Q : Exit → Act → World → Prop} {parts : Array (Nat × Operand)} {v : Value} (ho : o.op = .build 105 parts) (hr : (Instr.build 105 (parts.map fun (i, x) => (i, a.eval x))).run Tryz.prog w = .ok v w) (hK : K (a.put o.dst v) w) : o.wp Tryz.prog a w K Q := by
  refine wp_value (v := v) ?_ hK
  unfold execOp
  rw [ho]
  simp only [Sem.run_bind, hr, Result.andThen]
  rfl
theorem wp_make {o : Oper} {a : Act} {w : World} {K : Act → World → Prop} {Q : Exit → Act → World → Prop} (ho : o.op = .makeMap 97 none) (hK : K (a.put o.dst (.map (some w.heap.size))) (w.alloc (.map #[] 0))) : o.wp Tryz.prog a w K Q := by
  have hm := @run_makeMap Tryz.prog 97 w
  unfold Oper.wp execOp
  rw [ho]
  simp only [Option.map_none, Sem.run_bind, hm, Result.andThen]
  exact hK
theorem wp_insert {o : Oper} {a : Act} {w : World} {K : Act → World → Prop} {Q : Exit → Act → World → Prop} {s : Nat} {k : Int} {kd : Gr.Kind} {r clock : Nat} {es : Array MapEntry} (ho : o.op = .insert 97 (.tmp 16) (.const (.int .u8 k)) (.tmp s)) (hd : o.dst = none)
    (h16 : a.tmps.getD 16 undef = .map (some r)) (hv : a.tmps.getD s undef = kindV kd) (hb : w.heap[r]? = some (.map es clock)) (hks : ∀ e ∈ es.toList, ∃ j, e.key = .int .u8 j ∧ j ≠ k)
    (hK : K a { w with heap := w.heap.setIfInBounds r (.map (es.push { key := .int .u8 k, val := kindV kd, born := clock }) (clock + 1)) }) : o.wp Tryz.prog a w K Q := by
  have hm := insert_run (v := kindV kd) hb hks
  have hc : a.eval (.const (.int .u8 k)) = .int .u8 k := rfl
  unfold Oper.wp execOp
  rw [ho]
  simp only [eval_tmp, h16, hv, hc, Sem.run_bind, hm, Result.andThen]
  show K (a.put o.dst undef) _
  rw [hd]
  exact hK
theorem wp_callK {o : Oper} {a : Act} {w : World} {K : Act → World → Prop} {Q : Exit → Act → World → Prop} {f s : Nat} {x y : Int} {least most low high around shaped : Int} (ho : o.op = .call { callee := .value (.tmp f), args := #[.tmp s, .const (.int .i64 x), .const (.int .i64 y)], argTypes := #[105, 3, 3] })
    (hf : a.tmps.getD f undef = .func (.func 174) #[] #[]) (hs : a.tmps.getD s undef = kindV ⟨least, most, low, high, around, shaped⟩) (hK : ∀ w', Below w.heap.size w w' → K (a.put o.dst (kindV ⟨least, most, x, y, around, shaped⟩)) w') : o.wp Tryz.prog a w K Q := by
  have hm : (execOp a.eval o).run Tryz.prog w = .ok (.enter 174 #[kindV ⟨least, most, low, high, around, shaped⟩, .int .i64 x, .int .i64 y]) w := by
    unfold execOp
    rw [ho]
    simp [hf, hs, go_sem]
  unfold Oper.wp
  rw [hm, Oper.upon_enter]
  refine (kinds1_any least most low high around shaped x y w).mono ?_
  rintro e w' ⟨rfl, hb⟩
  exact hK w' hb
def opsK : Array Oper := #[{ dst := some 16, op := Op.makeMap 97 none, type := 97, pos := "graphs.go:33", after := #[], guard := none }, { dst := some 17, op := Op.build 105 #[(5, Operand.const (Value.int IntKind.i64 1))], type := 105, pos := "graphs.go:33", after := #[], guard := none }, { dst := none, op := Op.insert 97 (Operand.tmp 16) (Operand.const (Value.int IntKind.u8 1)) (Operand.tmp 17), type := 0, pos := "graphs.go:33", after := #[{ on := 0, ground := Ground.data }, { on := 1, ground := Ground.data }], guard := none }, { dst := some 18, op := Op.build 105 #[(5, Operand.const (Value.int IntKind.i64 1))], type := 105, pos := "graphs.go:33", after := #[], guard := none }, { dst := none, op := Op.insert 97 (Operand.tmp 16) (Operand.const (Value.int IntKind.u8 2)) (Operand.tmp 18), type := 0, pos := "graphs.go:33", after := #[{ on := 0, ground := Ground.data }, { on := 3, ground := Ground.data }], guard := none }, { dst := some 19, op := Op.load 105 (Operand.tmp 2), type := 105, pos := "graphs.go:33", after := #[], guard := none }, { dst := none, op := Op.insert 97 (Operand.tmp 16) (Operand.const (Value.int IntKind.u8 3)) (Operand.tmp 19), type := 0, pos := "graphs.go:33", after := #[{ on := 0, ground := Ground.data }, { on := 5, ground := Ground.data }], guard := none }, { dst := some 20, op := Op.load 105 (Operand.tmp 2), type := 105, pos := "graphs.go:33", after := #[], guard := none }, { dst := none, op := Op.insert 97 (Operand.tmp 16) (Operand.const (Value.int IntKind.u8 4)) (Operand.tmp 20), type := 0, pos := "graphs.go:33", after := #[{ on := 0, ground := Ground.data }, { on := 7, ground := Ground.data }], guard := none }, { dst := some 21, op := Op.load 105 (Operand.tmp 2), type := 105, pos := "graphs.go:33", after := #[], guard := none }, { dst := none, op := Op.insert 97 (Operand.tmp 16) (Operand.const (Value.int IntKind.u8 7)) (Operand.tmp 21), type := 0, pos := "graphs.go:33", after := #[{ on := 0, ground := Ground.data }, { on := 9, ground := Ground.data }], guard := none }, { dst := some 22, op := Op.load 105 (Operand.tmp 1), type := 105, pos := "graphs.go:33", after := #[], guard := none }, { dst := none, op := Op.insert 97 (Operand.tmp 16) (Operand.const (Value.int IntKind.u8 5)) (Operand.tmp 22), type := 0, pos := "graphs.go:33", after := #[{ on := 0, ground := Ground.data }, { on := 11, ground := Ground.data }], guard := none }, { dst := some 23, op := Op.move (Operand.tmp 3), type := 228, pos := "graphs.go:33", after := #[], guard := none }, { dst := some 24, op := Op.load 105 (Operand.tmp 1), type := 105, pos := "graphs.go:33", after := #[], guard := none }, { dst := some 25, op := Op.call { callee := Callee.value (Operand.tmp 23), args := #[Operand.tmp 24, Operand.const (Value.int IntKind.i64 0), Operand.const (Value.int IntKind.i64 31)], argTypes := #[105, 3, 3] }, type := 105, pos := "graphs.go:33", after := #[{ on := 13, ground := Ground.data }, { on := 14, ground := Ground.data }], guard := none }, { dst := none, op := Op.insert 97 (Operand.tmp 16) (Operand.const (Value.int IntKind.u8 6)) (Operand.tmp 25), type := 0, pos := "graphs.go:33", after := #[{ on := 0, ground := Ground.data }, { on := 15, ground := Ground.data }], guard := none }, { dst := some 26, op := Op.load 105 (Operand.tmp 4), type := 105, pos := "graphs.go:33", after := #[], guard := none }, { dst := none, op := Op.insert 97 (Operand.tmp 16) (Operand.const (Value.int IntKind.u8 8)) (Operand.tmp 26), type := 0, pos := "graphs.go:33", after := #[{ on := 0, ground := Ground.data }, { on := 17, ground := Ground.data }], guard := none }, { dst := some 27, op := Op.move (Operand.tmp 3), type := 228, pos := "graphs.go:33", after := #[], guard := none }, { dst := some 28, op := Op.load 105 (Operand.tmp 1), type := 105, pos := "graphs.go:33", after := #[], guard := none }, { dst := some 29, op := Op.call { callee := Callee.value (Operand.tmp 27), args := #[Operand.tmp 28, Operand.const (Value.int IntKind.i64 1), Operand.const (Value.int IntKind.i64 64)], argTypes := #[105, 3, 3] }, type := 105, pos := "graphs.go:33", after := #[{ on := 19, ground := Ground.data }, { on := 20, ground := Ground.data }, { on := 15, ground := Ground.chain }], guard := none }, { dst := none, op := Op.insert 97 (Operand.tmp 16) (Operand.const (Value.int IntKind.u8 9)) (Operand.tmp 29), type := 0, pos := "graphs.go:33", after := #[{ on := 0, ground := Ground.data }, { on := 21, ground := Ground.data }], guard := none }, { dst := some 30, op := Op.build 105 #[(0, Operand.const (Value.int IntKind.i64 1)), (1, Operand.const (Value.int IntKind.i64 1)), (5, Operand.const (Value.int IntKind.i64 1))], type := 105, pos := "graphs.go:33", after := #[], guard := none }, { dst := none, op := Op.insert 97 (Operand.tmp 16) (Operand.const (Value.int IntKind.u8 10)) (Operand.tmp 30), type := 0, pos := "graphs.go:33", after := #[{ on := 0, ground := Ground.data }, { on := 23, ground := Ground.data }], guard := none }, { dst := some 31, op := Op.build 105 #[(0, Operand.const (Value.int IntKind.i64 1)), (1, Operand.const (Value.int IntKind.i64 1)), (5, Operand.const (Value.int IntKind.i64 2))], type := 105, pos := "graphs.go:33", after := #[], guard := none }, { dst := none, op := Op.insert 97 (Operand.tmp 16) (Operand.const (Value.int IntKind.u8 11)) (Operand.tmp 31), type := 0, pos := "graphs.go:33", after := #[{ on := 0, ground := Ground.data }, { on := 25, ground := Ground.data }], guard := none }, { dst := some 32, op := Op.load 105 (Operand.tmp 5), type := 105, pos := "graphs.go:33", after := #[], guard := none }, { dst := none, op := Op.insert 97 (Operand.tmp 16) (Operand.const (Value.int IntKind.u8 12)) (Operand.tmp 32), type := 0, pos := "graphs.go:33", after := #[{ on := 0, ground := Ground.data }, { on := 27, ground := Ground.data }], guard := none }, { dst := some 33, op := Op.move (Operand.tmp 3), type := 228, pos := "graphs.go:33", after := #[], guard := none }, { dst := some 34, op := Op.load 105 (Operand.tmp 1), type := 105, pos := "graphs.go:33", after := #[], guard := none }, { dst := some 35, op := Op.call { callee := Callee.value (Operand.tmp 33), args := #[Operand.tmp 34, Operand.const (Value.int IntKind.i64 0), Operand.const (Value.int IntKind.i64 3)], argTypes := #[105, 3, 3] }, type := 105, pos := "graphs.go:33", after := #[{ on := 29, ground := Ground.data }, { on := 30, ground := Ground.data }, { on := 21, ground := Ground.chain }], guard := none }, { dst := none, op := Op.insert 97 (Operand.tmp 16) (Operand.const (Value.int IntKind.u8 13)) (Operand.tmp 35), type := 0, pos := "graphs.go:33", after := #[{ on := 0, ground := Ground.data }, { on := 31, ground := Ground.data }], guard := none }, { dst := some 36, op := Op.move (Operand.tmp 16), type := 97, pos := "graphs.go:33", after := #[{ on := 0, ground := Ground.data }, { on := 1, ground := Ground.data }, { on := 2, ground := Ground.data }, { on := 3, ground := Ground.data }, { on := 4, ground := Ground.data }, { on := 5, ground := Ground.data }, { on := 6, ground := Ground.data }, { on := 7, ground := Ground.data }, { on := 8, ground := Ground.data }, { on := 9, ground := Ground.data }, { on := 10, ground := Ground.data }, { on := 11, ground := Ground.data }, { on := 12, ground := Ground.data }, { on := 13, ground := Ground.data }, { on := 14, ground := Ground.data }, { on := 15, ground := Ground.data }, { on := 16, ground := Ground.data }, { on := 17, ground := Ground.data }, { on := 18, ground := Ground.data }, { on := 19, ground := Ground.data }, { on := 20, ground := Ground.data }, { on := 21, ground := Ground.data }, { on := 22, ground := Ground.data }, { on := 23, ground := Ground.data }, { on := 24, ground := Ground.data }, { on := 25, ground := Ground.data }, { on := 26, ground := Ground.data }, { on := 27, ground := Ground.data }, { on := 28, ground := Ground.data }, { on := 29, ground := Ground.data }, { on := 30, ground := Ground.data }, { on := 31, ground := Ground.data }, { on := 32, ground := Ground.data }], guard := none }, { dst := some 0, op := Op.assign (Operand.tmp 36), type := 97, pos := "graphs.go:33", after := #[{ on := 33, ground := Ground.data }, { on := 31, ground := Ground.chain }, { on := 0, ground := Ground.phase }, { on := 1, ground := Ground.phase }, { on := 2, ground := Ground.phase }, { on := 3, ground := Ground.phase }, { on := 4, ground := Ground.phase }, { on := 5, ground := Ground.phase }, { on := 6, ground := Ground.phase }, { on := 7, ground := Ground.phase }, { on := 8, ground := Ground.phase }, { on := 9, ground := Ground.phase }, { on := 10, ground := Ground.phase }, { on := 11, ground := Ground.phase }, { on := 12, ground := Ground.phase }, { on := 13, ground := Ground.phase }, { on := 14, ground := Ground.phase }, { on := 15, ground := Ground.phase }, { on := 16, ground := Ground.phase }, { on := 17, ground := Ground.phase }, { on := 18, ground := Ground.phase }, { on := 19, ground := Ground.phase }, { on := 20, ground := Ground.phase }, { on := 21, ground := Ground.phase }, { on := 22, ground := Ground.phase }, { on := 23, ground := Ground.phase }, { on := 24, ground := Ground.phase }, { on := 25, ground := Ground.phase }, { on := 26, ground := Ground.phase }, { on := 27, ground := Ground.phase }, { on := 28, ground := Ground.phase }, { on := 29, ground := Ground.phase }, { on := 30, ground := Ground.phase }, { on := 31, ground := Ground.phase }, { on := 32, ground := Ground.phase }, { on := 33, ground := Ground.phase }], guard := none }]
set_option maxRecDepth 100000 in
set_option maxHeartbeats 2000000 in
theorem stepK {w0 : World} {p1 p2 p4 p5 : Nat} (h1 : KindAt w0 p1 ⟨1, 1, 0, 0, 0, 0⟩) (h2 : KindAt w0 p2 ⟨2, 2, 0, 0, 0, 0⟩) (h4 : KindAt w0 p4 ⟨2, 2, 1, 8, 8, 0⟩) (h5 : KindAt w0 p5 ⟨1, 4, 0, 3, 0, 0⟩)
    {Q : Exit → Act → World → Prop} (listed : Array Bool) (a : Act) (w : World) (hz : listed.size = 35) (I : InvK w0 p1 p2 p4 p5 listed a w) (i : Nat) (hi : i ∈ Region.ready .any opsK listed) :
    wpOp Tryz.prog opsK Q i (InvK w0 p1 p2 p4 p5 (listed.setIfInBounds i true)) a w := by
  obtain ⟨hlt, hnot, hdep⟩ := mem_ready2 hi
  have hlt' : i < 35 := hlt
  have hnot' : listed.getD i false = false := by
    have hil : i < listed.size := by omega
    simp only [Array.getD_eq_getD_getElem?, Array.getElem?_eq_getElem hil, Option.getD_some] at hnot ⊢
    exact hnot
  clear hi hlt hnot
  have hcases : i = 0 ∨ i = 1 ∨ i = 2 ∨ i = 3 ∨ i = 4 ∨ i = 5 ∨ i = 6 ∨ i = 7 ∨ i = 8 ∨ i = 9 ∨ i = 10 ∨ i = 11 ∨ i = 12 ∨ i = 13 ∨ i = 14 ∨ i = 15 ∨ i = 16 ∨ i = 17 ∨ i = 18 ∨ i = 19 ∨ i = 20 ∨ i = 21 ∨ i = 22 ∨ i = 23 ∨ i = 24 ∨ i = 25 ∨ i = 26 ∨ i = 27 ∨ i = 28 ∨ i = 29 ∨ i = 30 ∨ i = 31 ∨ i = 32 ∨ i = 33 ∨ i = 34 := by omega
  rcases hcases with rfl | rfl | rfl | rfl | rfl | rfl | rfl | rfl | rfl | rfl | rfl | rfl | rfl | rfl | rfl | rfl | rfl | rfl | rfl | rfl | rfl | rfl | rfl | rfl | rfl | rfl | rfl | rfl | rfl | rfl | rfl | rfl | rfl | rfl | rfl
  · refine wpOp_of rfl rfl (wp_make rfl ?_)
    exact I.make hz hnot'
  · refine wpOp_of rfl rfl (wp_build rfl (by simp only [List.map_toArray, List.map_cons, List.map_nil]; exact build_run1 w) ?_)
    exact I.yield hz (1, 17) (by decide) (Below.refl _ _)
  · have hd := hdep _ rfl
    have d0 : listed.getD 0 false = true := hd ⟨0, .data⟩ (Array.mem_of_getElem? (i := 0) rfl) rfl
    have d1 : listed.getD 1 false = true := hd ⟨1, .data⟩ (Array.mem_of_getElem? (i := 1) rfl) rfl
    obtain ⟨r, es, clock, g1, g2, g3, g4⟩ := I.insert hz 2 1 _ (by simp only [insL, List.mem_cons, Prod.mk.injEq, true_and]; simp; rfl) d0 hnot'
    exact wpOp_of rfl rfl (wp_insert rfl rfl g1 (I.vals (1, 17) (by decide) d1) g2 g3 g4)
  · refine wpOp_of rfl rfl (wp_build rfl (by simp only [List.map_toArray, List.map_cons, List.map_nil]; exact build_run1 w) ?_)
    exact I.yield hz (3, 18) (by decide) (Below.refl _ _)
  · have hd := hdep _ rfl
    have d0 : listed.getD 0 false = true := hd ⟨0, .data⟩ (Array.mem_of_getElem? (i := 0) rfl) rfl
    have d1 : listed.getD 3 false = true := hd ⟨3, .data⟩ (Array.mem_of_getElem? (i := 1) rfl) rfl
    obtain ⟨r, es, clock, g1, g2, g3, g4⟩ := I.insert hz 4 2 _ (by simp only [insL, List.mem_cons, Prod.mk.injEq, true_and]; simp; rfl) d0 hnot'
    exact wpOp_of rfl rfl (wp_insert rfl rfl g1 (I.vals (3, 18) (by decide) d1) g2 g3 g4)
  · refine wpOp_of rfl rfl (wp_load rfl I.t2 (h2.below I.bel) ?_)
    exact I.yield hz (5, 19) (by decide) (Below.refl _ _)
  · have hd := hdep _ rfl
    have d0 : listed.getD 0 false = true := hd ⟨0, .data⟩ (Array.mem_of_getElem? (i := 0) rfl) rfl
    have d1 : listed.getD 5 false = true := hd ⟨5, .data⟩ (Array.mem_of_getElem? (i := 1) rfl) rfl
    obtain ⟨r, es, clock, g1, g2, g3, g4⟩ := I.insert hz 6 3 _ (by simp only [insL, List.mem_cons, Prod.mk.injEq, true_and]; simp; rfl) d0 hnot'
    exact wpOp_of rfl rfl (wp_insert rfl rfl g1 (I.vals (5, 19) (by decide) d1) g2 g3 g4)
  · refine wpOp_of rfl rfl (wp_load rfl I.t2 (h2.below I.bel) ?_)
    exact I.yield hz (7, 20) (by decide) (Below.refl _ _)
  · have hd := hdep _ rfl
    have d0 : listed.getD 0 false = true := hd ⟨0, .data⟩ (Array.mem_of_getElem? (i := 0) rfl) rfl
    have d1 : listed.getD 7 false = true := hd ⟨7, .data⟩ (Array.mem_of_getElem? (i := 1) rfl) rfl
    obtain ⟨r, es, clock, g1, g2, g3, g4⟩ := I.insert hz 8 4 _ (by simp only [insL, List.mem_cons, Prod.mk.injEq, true_and]; simp; rfl) d0 hnot'
    exact wpOp_of rfl rfl (wp_insert rfl rfl g1 (I.vals (7, 20) (by decide) d1) g2 g3 g4)
  · refine wpOp_of rfl rfl (wp_load rfl I.t2 (h2.below I.bel) ?_)
    exact I.yield hz (9, 21) (by decide) (Below.refl _ _)
  · have hd := hdep _ rfl
    have d0 : listed.getD 0 false = true := hd ⟨0, .data⟩ (Array.mem_of_getElem? (i := 0) rfl) rfl
    have d1 : listed.getD 9 false = true := hd ⟨9, .data⟩ (Array.mem_of_getElem? (i := 1) rfl) rfl
    obtain ⟨r, es, clock, g1, g2, g3, g4⟩ := I.insert hz 10 7 _ (by simp only [insL, List.mem_cons, Prod.mk.injEq, true_and]; simp; rfl) d0 hnot'
    exact wpOp_of rfl rfl (wp_insert rfl rfl g1 (I.vals (9, 21) (by decide) d1) g2 g3 g4)
  · refine wpOp_of rfl rfl (wp_load rfl I.t1 (h1.below I.bel) ?_)
    exact I.yield hz (11, 22) (by decide) (Below.refl _ _)
  · have hd := hdep _ rfl
    have d0 : listed.getD 0 false = true := hd ⟨0, .data⟩ (Array.mem_of_getElem? (i := 0) rfl) rfl
    have d1 : listed.getD 11 false = true := hd ⟨11, .data⟩ (Array.mem_of_getElem? (i := 1) rfl) rfl
    obtain ⟨r, es, clock, g1, g2, g3, g4⟩ := I.insert hz 12 5 _ (by simp only [insL, List.mem_cons, Prod.mk.injEq, true_and]; simp; rfl) d0 hnot'
    exact wpOp_of rfl rfl (wp_insert rfl rfl g1 (I.vals (11, 22) (by decide) d1) g2 g3 g4)
  · refine wpOp_of rfl rfl (wp_move (.inl rfl) I.t3 ?_)
    exact I.yield hz (13, 23) (by decide) (Below.refl _ _)
  · refine wpOp_of rfl rfl (wp_load rfl I.t1 (h1.below I.bel) ?_)
    exact I.yield hz (14, 24) (by decide) (Below.refl _ _)
  · have hd := hdep _ rfl
    have d0 : listed.getD 13 false = true := hd ⟨13, .data⟩ (Array.mem_of_getElem? (i := 0) rfl) rfl
    have d1 : listed.getD 14 false = true := hd ⟨14, .data⟩ (Array.mem_of_getElem? (i := 1) rfl) rfl
    refine wpOp_of rfl rfl (wp_callK rfl (I.vals (13, 23) (by decide) d0) (I.vals (14, 24) (by decide) d1) fun w' hb => ?_)
    exact I.yield hz (15, 25) (by decide) hb
  · have hd := hdep _ rfl
    have d0 : listed.getD 0 false = true := hd ⟨0, .data⟩ (Array.mem_of_getElem? (i := 0) rfl) rfl
    have d1 : listed.getD 15 false = true := hd ⟨15, .data⟩ (Array.mem_of_getElem? (i := 1) rfl) rfl
    obtain ⟨r, es, clock, g1, g2, g3, g4⟩ := I.insert hz 16 6 _ (by simp only [insL, List.mem_cons, Prod.mk.injEq, true_and]; simp; rfl) d0 hnot'
    exact wpOp_of rfl rfl (wp_insert rfl rfl g1 (I.vals (15, 25) (by decide) d1) g2 g3 g4)
  · refine wpOp_of rfl rfl (wp_load rfl I.t4 (h4.below I.bel) ?_)
    exact I.yield hz (17, 26) (by decide) (Below.refl _ _)
  · have hd := hdep _ rfl
    have d0 : listed.getD 0 false = true := hd ⟨0, .data⟩ (Array.mem_of_getElem? (i := 0) rfl) rfl
    have d1 : listed.getD 17 false = true := hd ⟨17, .data⟩ (Array.mem_of_getElem? (i := 1) rfl) rfl
    obtain ⟨r, es, clock, g1, g2, g3, g4⟩ := I.insert hz 18 8 _ (by simp only [insL, List.mem_cons, Prod.mk.injEq, true_and]; simp; rfl) d0 hnot'
    exact wpOp_of rfl rfl (wp_insert rfl rfl g1 (I.vals (17, 26) (by decide) d1) g2 g3 g4)
  · refine wpOp_of rfl rfl (wp_move (.inl rfl) I.t3 ?_)
    exact I.yield hz (19, 27) (by decide) (Below.refl _ _)
  · refine wpOp_of rfl rfl (wp_load rfl I.t1 (h1.below I.bel) ?_)
    exact I.yield hz (20, 28) (by decide) (Below.refl _ _)
  · have hd := hdep _ rfl
    have d0 : listed.getD 19 false = true := hd ⟨19, .data⟩ (Array.mem_of_getElem? (i := 0) rfl) rfl
    have d1 : listed.getD 20 false = true := hd ⟨20, .data⟩ (Array.mem_of_getElem? (i := 1) rfl) rfl
    refine wpOp_of rfl rfl (wp_callK rfl (I.vals (19, 27) (by decide) d0) (I.vals (20, 28) (by decide) d1) fun w' hb => ?_)
    exact I.yield hz (21, 29) (by decide) hb
  · have hd := hdep _ rfl
    have d0 : listed.getD 0 false = true := hd ⟨0, .data⟩ (Array.mem_of_getElem? (i := 0) rfl) rfl
    have d1 : listed.getD 21 false = true := hd ⟨21, .data⟩ (Array.mem_of_getElem? (i := 1) rfl) rfl
    obtain ⟨r, es, clock, g1, g2, g3, g4⟩ := I.insert hz 22 9 _ (by simp only [insL, List.mem_cons, Prod.mk.injEq, true_and]; simp; rfl) d0 hnot'
    exact wpOp_of rfl rfl (wp_insert rfl rfl g1 (I.vals (21, 29) (by decide) d1) g2 g3 g4)
  · refine wpOp_of rfl rfl (wp_build rfl (by simp only [List.map_toArray, List.map_cons, List.map_nil]; exact build_run2 w) ?_)
    exact I.yield hz (23, 30) (by decide) (Below.refl _ _)
  · have hd := hdep _ rfl
    have d0 : listed.getD 0 false = true := hd ⟨0, .data⟩ (Array.mem_of_getElem? (i := 0) rfl) rfl
    have d1 : listed.getD 23 false = true := hd ⟨23, .data⟩ (Array.mem_of_getElem? (i := 1) rfl) rfl
    obtain ⟨r, es, clock, g1, g2, g3, g4⟩ := I.insert hz 24 10 _ (by simp only [insL, List.mem_cons, Prod.mk.injEq, true_and]; simp; rfl) d0 hnot'
    exact wpOp_of rfl rfl (wp_insert rfl rfl g1 (I.vals (23, 30) (by decide) d1) g2 g3 g4)
  · refine wpOp_of rfl rfl (wp_build rfl (by simp only [List.map_toArray, List.map_cons, List.map_nil]; exact build_run3 w) ?_)
    exact I.yield hz (25, 31) (by decide) (Below.refl _ _)
  · have hd := hdep _ rfl
    have d0 : listed.getD 0 false = true := hd ⟨0, .data⟩ (Array.mem_of_getElem? (i := 0) rfl) rfl
    have d1 : listed.getD 25 false = true := hd ⟨25, .data⟩ (Array.mem_of_getElem? (i := 1) rfl) rfl
    obtain ⟨r, es, clock, g1, g2, g3, g4⟩ := I.insert hz 26 11 _ (by simp only [insL, List.mem_cons, Prod.mk.injEq, true_and]; simp; rfl) d0 hnot'
    exact wpOp_of rfl rfl (wp_insert rfl rfl g1 (I.vals (25, 31) (by decide) d1) g2 g3 g4)
  · refine wpOp_of rfl rfl (wp_load rfl I.t5 (h5.below I.bel) ?_)
    exact I.yield hz (27, 32) (by decide) (Below.refl _ _)
  · have hd := hdep _ rfl
    have d0 : listed.getD 0 false = true := hd ⟨0, .data⟩ (Array.mem_of_getElem? (i := 0) rfl) rfl
    have d1 : listed.getD 27 false = true := hd ⟨27, .data⟩ (Array.mem_of_getElem? (i := 1) rfl) rfl
    obtain ⟨r, es, clock, g1, g2, g3, g4⟩ := I.insert hz 28 12 _ (by simp only [insL, List.mem_cons, Prod.mk.injEq, true_and]; simp; rfl) d0 hnot'
    exact wpOp_of rfl rfl (wp_insert rfl rfl g1 (I.vals (27, 32) (by decide) d1) g2 g3 g4)
  · refine wpOp_of rfl rfl (wp_move (.inl rfl) I.t3 ?_)
    exact I.yield hz (29, 33) (by decide) (Below.refl _ _)
  · refine wpOp_of rfl rfl (wp_load rfl I.t1 (h1.below I.bel) ?_)
    exact I.yield hz (30, 34) (by decide) (Below.refl _ _)
  · have hd := hdep _ rfl
    have d0 : listed.getD 29 false = true := hd ⟨29, .data⟩ (Array.mem_of_getElem? (i := 0) rfl) rfl
    have d1 : listed.getD 30 false = true := hd ⟨30, .data⟩ (Array.mem_of_getElem? (i := 1) rfl) rfl
    refine wpOp_of rfl rfl (wp_callK rfl (I.vals (29, 33) (by decide) d0) (I.vals (30, 34) (by decide) d1) fun w' hb => ?_)
    exact I.yield hz (31, 35) (by decide) hb
  · have hd := hdep _ rfl
    have d0 : listed.getD 0 false = true := hd ⟨0, .data⟩ (Array.mem_of_getElem? (i := 0) rfl) rfl
    have d1 : listed.getD 31 false = true := hd ⟨31, .data⟩ (Array.mem_of_getElem? (i := 1) rfl) rfl
    obtain ⟨r, es, clock, g1, g2, g3, g4⟩ := I.insert hz 32 13 _ (by simp only [insL, List.mem_cons, Prod.mk.injEq, true_and]; simp; rfl) d0 hnot'
    exact wpOp_of rfl rfl (wp_insert rfl rfl g1 (I.vals (31, 35) (by decide) d1) g2 g3 g4)
  · have hd := hdep _ rfl
    have d0 : listed.getD 0 false = true := hd ⟨0, .data⟩ (Array.mem_of_getElem? (i := 0) rfl) rfl
    refine wpOp_of rfl rfl (wp_move (.inl rfl) rfl ?_)
    exact I.last hz d0
  · have hd := hdep _ rfl
    have d0 : listed.getD 33 false = true := hd ⟨33, .data⟩ (Array.mem_of_getElem? (i := 0) rfl) rfl
    refine wpOp_of rfl rfl (wp_move (.inr rfl) rfl ?_)
    exact I.over hz d0
end Go.Proofs.YtekejcnphmnidaaGreatDoor
namespace Go.Proofs.YtekejcnphmnidaaGreatDoor
open Go.RowKit
theorem opsK_order : ∀ i, i < opsK.size → ((opsK[i]?).map (·.after.all fun e => decide (e.on < i))).getD false = true := by decide +kernel
theorem KindAt.made (w : World) (a b c d e f : Int) : KindAt (w.alloc (.cells #[.int .i64 a, .int .i64 b, .int .i64 c, .int .i64 d, .int .i64 e, .int .i64 f] 105)) w.heap.size ⟨a, b, c, d, e, f⟩ := by
  refine ⟨by simp, ?_, ?_, ?_, ?_, ?_, ?_⟩ <;> (rw [World.cell?_alloc_at _ _ _ _ rfl]; rfl)
theorem KindAt.alloc {w : World} {p : Nat} {k : Gr.Kind} (h : KindAt w p k) (o : Obj) : KindAt (w.alloc o) p k := h.below ((Below.refl _ _).alloc (Nat.le_refl _) o)
theorem KindAt.drew {w : World} {p : Nat} {k : Gr.Kind} (h : KindAt w p k) : KindAt w.drew p k := ⟨h.lt, h.c0, h.c1, h.c2, h.c3, h.c4, h.c5⟩
set_option maxHeartbeats 2000000 in
set_option maxRecDepth 100000 in
theorem kinds_any (w : World) : Calls Tryz.prog 108 #[] w fun e w' => ∃ r, e = .returned (.map (some r)) ∧ w.heap.size ≤ r ∧ KindsMap w' r ∧ Below w.heap.size w w' := by
  go_enter Tryz.func108, Tryz.ntmps108
  go_wp2_with fail
  refine (kinds1_any _ _ _ _ _ _ _ _ _).mono ?_
  rintro e w1 ⟨rfl, hb⟩
  have hb1 : Below w.heap.size w w1 := (((Below.refl _ _).alloc (Nat.le_refl _) _).alloc (by simp) _).trans (hb.mono (by simp; omega))
  have hz1 : w.heap.size + 2 ≤ w1.heap.size := by have := hb.size; simp at this; omega
  have hA : KindAt w1 w.heap.size ⟨1, 1, 0, 0, 0, 0⟩ := ((KindAt.made w 1 1 0 0 0 0).alloc _).below hb
  have hB : KindAt w1 (w.heap.size + 1) ⟨2, 2, 0, 0, 0, 0⟩ := by
    have h := KindAt.made (w.alloc (.cells #[.int .i64 1, .int .i64 1, .int .i64 0, .int .i64 0, .int .i64 0, .int .i64 0] 105)) 2 2 0 0 0 0
    rw [show (w.alloc (.cells #[.int .i64 1, .int .i64 1, .int .i64 0, .int .i64 0, .int .i64 0, .int .i64 0] 105)).heap.size = w.heap.size + 1 by simp] at h
    exact h.below hb
  have HA := Lib.hid hA
  have HB := Lib.hid hB
  have HB1 := Lib.hid hb1
  obtain ⟨_, a0, a1, a2, a3, a4, a5⟩ := hA
  clear hb hB hb1
  go_wp2_with fail
  refine (kinds1_any _ _ _ _ _ _ _ _ _).mono ?_
  rintro e w2 ⟨rfl, hb⟩
  have hC : Hid (KindAt w2 w1.heap.size ⟨2, 2, 1, 8, 8, 0⟩) := (KindAt.made w1 2 2 1 8 8 0).below hb
  have HA2 := Lib.hid ((HA.out.alloc _).below hb)
  have HB2 := Lib.hid ((HB.out.alloc _).below hb)
  have hz2 : w1.heap.size + 1 ≤ w2.heap.size := by have := hb.size; simp at this; omega
  have HBel := Lib.hid ((HB1.out.alloc (by omega) _).trans (hb.mono (by simp; omega)))
  clear hb HA HB HB1 a0 a1 a2 a3 a4 a5
  go_wp2_with fail
  refine wp_region_inv (ops := opsK) (InvK (w2.alloc (.cells #[.int .i64 1, .int .i64 4, .int .i64 0, .int .i64 3, .int .i64 0, .int .i64 0] 105)).drew w.heap.size (w.heap.size + 1) w1.heap.size w2.heap.size) mixed ?start
    (fun listed a w hz I i hi => stepK (HA2.out.alloc _).drew (HB2.out.alloc _).drew (hC.out.alloc _).drew (KindAt.made w2 1 4 0 3 0 0).drew listed a w hz I i hi) ?fin
  case start =>
    have hf : ∀ j, (Array.replicate opsK.size false).getD j false = true → False := fun j h => by
      simp [Array.getD_eq_getD_getElem?, Array.getElem?_replicate] at h
      split at h <;> simp at h
    exact ⟨rfl, rfl, rfl, rfl, rfl, rfl, rfl, Below.refl _ _, fun p _ h => (hf _ h).elim, fun p _ h => (hf _ h).elim, fun h => (hf _ h).elim, fun _ _ h => (hf _ h).elim, fun h => (hf _ h).elim, fun h => (hf _ h).elim⟩
  case fin =>
    intro listed a w' hz I hr
    have hall := all_up hr hz opsK_order
    obtain ⟨r, es, clock, h1, h2, h3, h4, h5, h6⟩ := I.map (hall 0 (by decide))
    have h0 := I.m34 (hall 34 (by decide))
    have hK : Hid (KindsMap w' r) := by
      refine ⟨es, clock, h4, fun e he => ?_, fun k kd hk => ?_⟩
      · obtain ⟨x, hx, _, hk, hv⟩ := h5 e he
        exact ⟨_, _, hk, ins_kind _ hx, hv⟩
      · obtain ⟨i, hi⟩ := kind_ins hk
        have hri := ins_range _ hi
        exact h6 _ hi (hall i (by have : opsK.size = 35 := rfl; simp only at hri; omega))
    have hbel : Hid (Below w.heap.size w w') := ((HBel.out.alloc (by omega) _).drew).trans (I.bel.mono (by simp [World.drew]; omega))
    have hd := I.defers
    have hbr : w.heap.size ≤ r := by have : w2.heap.size + 1 ≤ r := by simpa [World.drew] using h1
                                     omega
    rename_i KK hKK
    refine hKK a w' ?_
    apply wp_ret
    refine bodyPost_ret (results_tmp rfl _ _ _) hd ?_
    rw [h0, h3]
    exact ⟨r, rfl, hbr, hK.out, hbel.out⟩
end Go.Proofs.YtekejcnphmnidaaGreatDoor
