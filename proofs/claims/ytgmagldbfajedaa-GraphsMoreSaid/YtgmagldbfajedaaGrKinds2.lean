/-
  graphs.kinds: an entry is laid; what is looked up.
-/
import Derived.Test.YtgmagldbfajedaaGrKinds
import Derived.MapKept
namespace Go.Proofs.Ytgmagldbfajedaa
open Go.RowKit Go.MapKept

theorem Try.under95 : Try.prog.underlying 95 = some (.map 44 100) := by kernel_rfl
theorem Try.under44 : Try.prog.underlying 44 = some (.int .u8) := by kernel_rfl

theorem isKey_u8 (k : Int) : IsKey (.int .u8) (.int .u8 k) := by simp [IsKey]

theorem insert_run {w : World} {r clock : Nat} {es : Array MapEntry} {k : Int} {v : Value} (hb : w.heap[r]? = some (.map es clock)) (hks : ∀ e ∈ es.toList, ∃ j, e.key = .int .u8 j ∧ j ≠ k) :
    (Instr.mapUpdate 95 (.map (some r)) (.int .u8 k) v).run Try.prog w = .ok () { w with heap := w.heap.setIfInBounds r (.map (es.push { key := .int .u8 k, val := v, born := clock }) (clock + 1)) } := by
  have hk := isKey_u8 k
  rcases findNow_spec hk es.toList 0 (fun e he => by obtain ⟨j, h, _⟩ := hks e he; rw [h]; exact isKey_u8 j) with ⟨h1, _⟩ | ⟨j, e, _, h2, h3⟩
  · simp [Instr.mapUpdate, run_underlying Try.under95, Go.MapKept.run_getObj_map hb, run_checkKey Try.under44 hk, run_findKey Try.under44 h1, run_setObj_map _ hb, Result.andThen]
  · exfalso
    obtain ⟨j', h4, h5⟩ := hks e (List.mem_of_getElem? h2)
    rw [h3] at h4
    simp only [Value.int.injEq, true_and] at h4
    exact h5 h4.symm

theorem put_none (a : Act) (v : Value) : a.put none v = a := rfl

/-- Behind an entry. -/
theorem InvK.insert {w0 : World} {p1 p2 p4 p5 : Nat} {listed : Array Bool} {a : Act} {w : World} (I : InvK w0 p1 p2 p4 p5 listed a w) (hz : listed.size = 35) (i : Nat) (k : Int) (kd : Gr.Kind) (hx : (i, k, kd) ∈ insL)
    (h0 : listed.getD 0 false = true) (hi : listed.getD i false = false) :
    ∃ r es clock, a.tmps.getD 16 undef = .map (some r) ∧ w.heap[r]? = some (.map es clock) ∧ (∀ e ∈ es.toList, ∃ j, e.key = .int .u8 j ∧ j ≠ k) ∧
      InvK w0 p1 p2 p4 p5 (listed.setIfInBounds i true) a { w with heap := w.heap.setIfInBounds r (.map (es.push { key := .int .u8 k, val := kindV kd, born := clock }) (clock + 1)) } := by
  obtain ⟨r, es, clock, h1, h2, h3, h4, h5, h6⟩ := I.map h0
  have hr := ins_range _ hx
  simp only at hr
  refine ⟨r, es, clock, h3, h4, fun e he => ?_, I.size, I.defers, I.t1, I.t2, I.t3, I.t4, I.t5, ?_, ?_, ?_, ?_, ?_, ?_, ?_⟩
  · obtain ⟨x, hxi, hl, hk, _⟩ := h5 e he
    refine ⟨x.2.1, hk, fun hkk => ?_⟩
    have := ins_inj _ hxi _ hx hkk
    simp only at this
    rw [this, hi] at hl
    cases hl
  · refine ⟨I.bel.os, I.bel.tape, I.bel.output, by simpa using I.bel.size, fun j hj => ?_⟩
    have := I.bel.block j hj
    rw [← this]
    simp [show r ≠ j by omega]
  · intro q hq hl
    rw [getD_set_other (fun h => ins_not_dst _ hx _ hq h)] at hl
    exact I.vals q hq hl
  · intro q hq hl
    rw [getD_set_other (by omega)]
    exact h0
  · intro _
    refine ⟨r, _, _, h1, by simpa using h2, h3, (heap_set h4).1, fun e he => ?_, fun x hxi hl => ?_⟩
    · simp only [Array.toList_push, List.mem_append, List.mem_singleton] at he
      rcases he with he | rfl
      · obtain ⟨x, hxi, hl, hk⟩ := h5 e he
        refine ⟨x, hxi, ?_, hk⟩
        by_cases hix : i = x.1
        · rw [← hix]; exact getD_set_self (by omega)
        · rw [getD_set_other hix]; exact hl
      · exact ⟨_, hx, getD_set_self (by omega), rfl, rfl⟩
    · by_cases hix : i = x.1
      · have := ins_fun _ hx _ hxi hix
        subst this
        exact ⟨_, by simp only [Array.toList_push, List.mem_append, List.mem_singleton]; exact .inr rfl, rfl⟩
      · rw [getD_set_other hix] at hl
        obtain ⟨e, he, hk⟩ := h6 x hxi hl
        exact ⟨e, by simp only [Array.toList_push, List.mem_append]; exact .inl he, hk⟩
  · intro j hj h
    rw [getD_set_other (by omega)] at h
    rw [getD_set_other (by omega)]
    exact I.late j hj h
  · intro h
    rw [getD_set_other (by omega)] at h
    exact I.m33 h
  · intro h
    rw [getD_set_other (by omega)] at h
    exact I.m34 h

/-- Behind the last two. -/
theorem InvK.last {w0 : World} {p1 p2 p4 p5 : Nat} {listed : Array Bool} {a : Act} {w : World} (I : InvK w0 p1 p2 p4 p5 listed a w) (hz : listed.size = 35) (h0 : listed.getD 0 false = true) :
    InvK w0 p1 p2 p4 p5 (listed.setIfInBounds 33 true) (a.put (some 36) (a.tmps.getD 16 undef)) w := by
  have hI : ∀ q ∈ insL, (listed.setIfInBounds 33 true).getD q.1 false = listed.getD q.1 false := fun q hq => getD_set_other (by have := ins_range _ hq; omega) _
  refine ⟨by rw [put_size]; exact I.size, by rw [put_defers]; exact I.defers, by rw [put_other _ (by omega)]; exact I.t1, by rw [put_other _ (by omega)]; exact I.t2, by rw [put_other _ (by omega)]; exact I.t3,
    by rw [put_other _ (by omega)]; exact I.t4, by rw [put_other _ (by omega)]; exact I.t5, I.bel, ?_, ?_, ?_, ?_, ?_, ?_⟩
  · intro q hq hl
    have h1 := dst_far _ hq
    have h2 := dst_range _ hq
    rw [getD_set_other (by omega)] at hl
    rw [put_other _ (by omega)]
    exact I.vals q hq hl
  · intro q hq hl
    rw [hI q hq] at hl
    rw [getD_set_other (by omega)]
    exact I.first q hq hl
  · intro h
    rw [getD_set_other (by omega)] at h
    obtain ⟨r, es, clock, h1, h2, h3, h4, h5, h6⟩ := I.map h
    exact ⟨r, es, clock, h1, h2, by rw [put_other _ (by omega)]; exact h3, h4, fun e he => by obtain ⟨x, hx, hl, hk⟩ := h5 e he; exact ⟨x, hx, by rw [hI x hx]; exact hl, hk⟩, fun x hx hl => h6 x hx (by rw [hI x hx] at hl; exact hl)⟩
  · intro _ _ _
    rw [getD_set_other (by omega)]
    exact h0
  · intro _
    rw [put_self _ (by rw [I.size]; omega), put_other _ (by omega)]
  · intro h
    rw [getD_set_other (by omega)] at h
    rw [put_other _ (by omega), put_other _ (by omega)]
    exact I.m34 h

theorem InvK.over {w0 : World} {p1 p2 p4 p5 : Nat} {listed : Array Bool} {a : Act} {w : World} (I : InvK w0 p1 p2 p4 p5 listed a w) (hz : listed.size = 35) (h33 : listed.getD 33 false = true) :
    InvK w0 p1 p2 p4 p5 (listed.setIfInBounds 34 true) (a.put (some 0) (a.tmps.getD 36 undef)) w := by
  have hI : ∀ q ∈ insL, (listed.setIfInBounds 34 true).getD q.1 false = listed.getD q.1 false := fun q hq => getD_set_other (by have := ins_range _ hq; omega) _
  refine ⟨by rw [put_size]; exact I.size, by rw [put_defers]; exact I.defers, by rw [put_other _ (by omega)]; exact I.t1, by rw [put_other _ (by omega)]; exact I.t2, by rw [put_other _ (by omega)]; exact I.t3,
    by rw [put_other _ (by omega)]; exact I.t4, by rw [put_other _ (by omega)]; exact I.t5, I.bel, ?_, ?_, ?_, ?_, ?_, ?_⟩
  · intro q hq hl
    have h1 := dst_far _ hq
    have h2 := dst_range _ hq
    rw [getD_set_other (by omega)] at hl
    rw [put_other _ (by omega)]
    exact I.vals q hq hl
  · intro q hq hl
    rw [hI q hq] at hl
    rw [getD_set_other (by omega)]
    exact I.first q hq hl
  · intro h
    rw [getD_set_other (by omega)] at h
    obtain ⟨r, es, clock, h1, h2, h3, h4, h5, h6⟩ := I.map h
    exact ⟨r, es, clock, h1, h2, by rw [put_other _ (by omega)]; exact h3, h4, fun e he => by obtain ⟨x, hx, hl, hk⟩ := h5 e he; exact ⟨x, hx, by rw [hI x hx]; exact hl, hk⟩, fun x hx hl => h6 x hx (by rw [hI x hx] at hl; exact hl)⟩
  · intro _ _ _
    rw [getD_set_other (by omega)]
    exact I.late 33 (.inl rfl) h33
  · intro h
    rw [put_other _ (by omega), put_other _ (by omega)]
    exact I.m33 h33
  · intro _
    rw [put_self _ (by rw [I.size]; omega), put_other _ (by omega)]
    exact I.m33 h33

/-- The block is the table of kinds. -/
def KindsMap (w : World) (r : Nat) : Prop := ∃ es clock, w.heap[r]? = some (.map es clock) ∧ (∀ e ∈ es.toList, ∃ k kd, e.key = .int .u8 k ∧ Gr.kindOf k = some kd ∧ e.val = kindV kd) ∧ ∀ k kd, Gr.kindOf k = some kd → ∃ e ∈ es.toList, e.key = .int .u8 k

theorem KindsMap.below {w w' : World} {r : Nat} (h : KindsMap w r) (hb : Below w.heap.size w w') : KindsMap w' r := by
  obtain ⟨es, clock, h1, h2⟩ := h
  exact ⟨es, clock, by rw [hb.block r (Array.getElem?_eq_some_iff.1 h1).1]; exact h1, h2⟩

/-- What is looked up. -/
theorem KindsMap.there {w : World} {r : Nat} (h : KindsMap w r) {k : Int} {kd : Gr.Kind} (hk : Gr.kindOf k = some kd) :
    (Instr.lookup 95 (.map (some r)) (.int .u8 k) true).run Try.prog w = .ok (.tuple #[kindV kd, .bool true]) w ∧ (Instr.lookup 95 (.map (some r)) (.int .u8 k) false).run Try.prog w = .ok (kindV kd) w := by
  obtain ⟨es, clock, h1, h2, h3⟩ := h
  have hkey := isKey_u8 k
  rcases findNow_spec hkey es.toList 0 (fun e he => by obtain ⟨j, _, hj, _⟩ := h2 e he; rw [hj]; exact isKey_u8 j) with ⟨_, hn⟩ | ⟨j, e, hf, hj, he⟩
  · obtain ⟨e, he, hke⟩ := h3 k kd hk
    exact (hn e he hke).elim
  · obtain ⟨k', kd', hk1, hk2, hv⟩ := h2 e (List.mem_of_getElem? hj)
    rw [he] at hk1
    simp only [Value.int.injEq, true_and] at hk1
    subst hk1
    rw [hk] at hk2
    cases hk2
    constructor
    · simp [Instr.lookup, run_underlying Try.under95, Go.MapKept.run_getObj_map h1, run_checkKey Try.under44 hkey, run_findKey Try.under44 hf, Result.andThen, hv]
    · simp [Instr.lookup, run_underlying Try.under95, Go.MapKept.run_getObj_map h1, run_checkKey Try.under44 hkey, run_findKey Try.under44 hf, Result.andThen, hv]
end Go.Proofs.Ytgmagldbfajedaa
