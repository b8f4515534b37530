/-
  costs.works: the table of what reckoning costs, a map of functions (WorksMap, works_any), and those functions (work_any).
-/
import Derived.Test.YtgmagldbfajedaaCoPlain
import Derived.Test.YtgmagldbfajedaaBg
namespace Go.Proofs.Ytgmagldbfajedaa
open Go.RowKit Go.MapKept

theorem Try.under111 : Try.prog.underlying 111 = some (.map 44 113) := by kernel_rfl

/-- Which function reckons a kind's work. -/
def workFn (k : Int) : Option Nat := if k = 1 ∨ k = 2 then some 118 else if k = 7 then some 119 else if k = 8 then some 120 else if k = 9 then some 121 else if k = 13 then some 122 else none
def fnV (f : Nat) : Value := .func (.func f) #[] #[]

/-- The block is that table. -/
def WorksMap (w : World) (r : Nat) : Prop := ∃ es clock, w.heap[r]? = some (.map es clock) ∧ (∀ e ∈ es.toList, ∃ k f, e.key = .int .u8 k ∧ workFn k = some f ∧ e.val = fnV f) ∧ ∀ k f, workFn k = some f → ∃ e ∈ es.toList, e.key = .int .u8 k

theorem WorksMap.below {w w' : World} {r : Nat} (h : WorksMap w r) (hb : Below w.heap.size w w') : WorksMap w' r := by
  obtain ⟨es, clock, h1, h2⟩ := h
  exact ⟨es, clock, by rw [hb.block r (Array.getElem?_eq_some_iff.1 h1).1]; exact h1, h2⟩

theorem run_zero113 (w : World) : (zeroValue 113).run Try.prog w = .ok .nilFunc w := by kernel_rfl

theorem WorksMap.there {w : World} {r : Nat} (h : WorksMap w r) {k : Int} {f : Nat} (hk : workFn k = some f) : (Instr.lookup 111 (.map (some r)) (.int .u8 k) false).run Try.prog w = .ok (fnV f) w := by
  obtain ⟨es, clock, h1, h2, h3⟩ := h
  have hkey := isKey_u8 k
  rcases findNow_spec hkey es.toList 0 (fun e he => by obtain ⟨j, _, hj, _⟩ := h2 e he; rw [hj]; exact isKey_u8 j) with ⟨_, hn⟩ | ⟨j, e, hf, hj, he⟩
  · obtain ⟨e, he, hke⟩ := h3 k f hk
    exact (hn e he hke).elim
  · obtain ⟨k', f', hk1, hk2, hv⟩ := h2 e (List.mem_of_getElem? hj)
    rw [he] at hk1
    simp only [Value.int.injEq, true_and] at hk1
    subst hk1
    rw [hk] at hk2
    cases hk2
    simp [Instr.lookup, run_underlying Try.under111, Go.MapKept.run_getObj_map h1, run_checkKey Try.under44 hkey, run_findKey Try.under44 hf, Result.andThen, hv]
theorem WorksMap.absent {w : World} {r : Nat} (h : WorksMap w r) {k : Int} (hk : workFn k = none) : (Instr.lookup 111 (.map (some r)) (.int .u8 k) false).run Try.prog w = .ok .nilFunc w := by
  obtain ⟨es, clock, h1, h2, h3⟩ := h
  have hkey := isKey_u8 k
  rcases findNow_spec hkey es.toList 0 (fun e he => by obtain ⟨j, _, hj, _⟩ := h2 e he; rw [hj]; exact isKey_u8 j) with ⟨hf, _⟩ | ⟨j, e, _, hj, he⟩
  · simp [Instr.lookup, run_underlying Try.under111, Go.MapKept.run_getObj_map h1, run_checkKey Try.under44 hkey, run_findKey Try.under44 hf, Result.andThen]
  · obtain ⟨k', f', hk1, hk2, _⟩ := h2 e (List.mem_of_getElem? hj)
    rw [he] at hk1
    simp only [Value.int.injEq, true_and] at hk1
    subst hk1
    rw [hk] at hk2
    cases hk2

theorem ins_step {w : World} {base r clock : Nat} {es : Array MapEntry} {k : Int} {v : Value} (hb : w.heap[r]? = some (.map es clock)) (hks : ∀ e ∈ es.toList, ∃ j, e.key = .int .u8 j ∧ j ≠ k) (hr : base ≤ r) :
    ∃ w', (Instr.mapUpdate 111 (.map (some r)) (.int .u8 k) v).run Try.prog w = .ok () w' ∧ w'.heap[r]? = some (.map (es.push { key := .int .u8 k, val := v, born := clock }) (clock + 1)) ∧ Below base w w' := by
  have hk := isKey_u8 k
  rcases findNow_spec hk es.toList 0 (fun e he => by obtain ⟨j, h, _⟩ := hks e he; rw [h]; exact isKey_u8 j) with ⟨h1, _⟩ | ⟨j, e, _, h2, h3⟩
  · refine ⟨{ w with heap := w.heap.setIfInBounds r (.map (es.push { key := .int .u8 k, val := v, born := clock }) (clock + 1)) }, ?_, (heap_set hb).1, rfl, rfl, rfl, by simp, fun j hj => ?_⟩
    · simp [Instr.mapUpdate, run_underlying Try.under111, Go.MapKept.run_getObj_map hb, run_checkKey Try.under44 hk, run_findKey Try.under44 h1, run_setObj_map _ hb, Result.andThen]
    · simp [show r ≠ j by omega]
  · exfalso
    obtain ⟨j', h4, h5⟩ := hks e (List.mem_of_getElem? h2)
    rw [h3] at h4
    simp only [Value.int.injEq, true_and] at h4
    exact h5 h4.symm

set_option maxHeartbeats 2000000 in
set_option maxRecDepth 100000 in
theorem works_any (w : World) : Calls Try.prog 79 #[] w fun e w' => ∃ r, e = .returned (.map (some r)) ∧ WorksMap w' r ∧ Below w.heap.size w w' := by
  have hmm := @run_makeMap Try.prog
  have m1 : (w.alloc (.map #[] 0)).heap[w.heap.size]? = some (.map #[] 0) := by show (w.heap.push _)[w.heap.size]? = _; simp
  obtain ⟨w1, r1, m2, b1⟩ := ins_step (base := w.heap.size) (k := 1) (v := fnV 118) m1 (fun e he => by simp at he) (Nat.le_refl _)
  obtain ⟨w2, r2, m3, b2⟩ := ins_step (base := w.heap.size) (k := 2) (v := fnV 118) m2 (fun e he => by simp at he; subst he; exact ⟨1, rfl, by decide⟩) (Nat.le_refl _)
  obtain ⟨w3, r3, m4, b3⟩ := ins_step (base := w.heap.size) (k := 7) (v := fnV 119) m3 (fun e he => by simp at he; rcases he with rfl | rfl <;> exact ⟨_, rfl, by decide⟩) (Nat.le_refl _)
  obtain ⟨w4, r4, m5, b4⟩ := ins_step (base := w.heap.size) (k := 8) (v := fnV 120) m4 (fun e he => by simp at he; rcases he with rfl | rfl | rfl <;> exact ⟨_, rfl, by decide⟩) (Nat.le_refl _)
  obtain ⟨w5, r5, m6, b5⟩ := ins_step (base := w.heap.size) (k := 9) (v := fnV 121) m5 (fun e he => by simp at he; rcases he with rfl | rfl | rfl | rfl <;> exact ⟨_, rfl, by decide⟩) (Nat.le_refl _)
  obtain ⟨w6, r6, m7, b6⟩ := ins_step (base := w.heap.size) (k := 13) (v := fnV 122) m6 (fun e he => by simp at he; rcases he with rfl | rfl | rfl | rfl | rfl <;> exact ⟨_, rfl, by decide⟩) (Nat.le_refl _)
  unfold fnV at r1 r2 r3 r4 r5 r6
  have HB : Hid (Below w.heap.size w w6) := (((((((Below.refl _ _).alloc (Nat.le_refl _) _).trans b1).trans b2).trans b3).trans b4).trans b5).trans b6
  have HM : Hid (WorksMap w6 w.heap.size) := by
    refine ⟨_, _, m7, fun e he => ?_, fun k f hk => ?_⟩
    · simp at he
      rcases he with rfl | rfl | rfl | rfl | rfl | rfl
      · exact ⟨1, 118, rfl, by decide, rfl⟩
      · exact ⟨2, 118, rfl, by decide, rfl⟩
      · exact ⟨7, 119, rfl, by decide, rfl⟩
      · exact ⟨8, 120, rfl, by decide, rfl⟩
      · exact ⟨9, 121, rfl, by decide, rfl⟩
      · exact ⟨13, 122, rfl, by decide, rfl⟩
    · unfold workFn at hk
      by_cases h1 : k = 1
      · subst h1; exact ⟨_, by simp; exact .inl rfl, rfl⟩
      by_cases h2 : k = 2
      · subst h2; exact ⟨_, by simp; exact .inr (.inl rfl), rfl⟩
      by_cases h7 : k = 7
      · subst h7; exact ⟨_, by simp; exact .inr (.inr (.inl rfl)), rfl⟩
      by_cases h8 : k = 8
      · subst h8; exact ⟨_, by simp; exact .inr (.inr (.inr (.inl rfl))), rfl⟩
      by_cases h9 : k = 9
      · subst h9; exact ⟨_, by simp; exact .inr (.inr (.inr (.inr (.inl rfl)))), rfl⟩
      by_cases h13 : k = 13
      · subst h13; exact ⟨_, by simp; exact .inr (.inr (.inr (.inr (.inr rfl)))), rfl⟩
      simp [h1, h2, h7, h8, h9, h13] at hk
  clear m1 m2 m3 m4 m5 m6 m7 b1 b2 b3 b4 b5 b6
  go_enter Try.func79, Try.ntmps79
  go_wp2
  go_ret
  exact ⟨_, rfl, HM.out, HB.out⟩

theorem neq_fn (f : Nat) (w : World) : (binOp BinOp.neq 113 (.func (.func f) #[] #[]) .nilFunc).run Try.prog w = .ok (.bool true) w := by kernel_rfl
theorem neq_none (w : World) : (binOp BinOp.neq 113 .nilFunc .nilFunc).run Try.prog w = .ok (.bool false) w := by kernel_rfl

/-- What a node of a graph that may be offers to those functions. -/
structure WorkOk (x : Gr.Node) (sz : Int) (L : List (List Int)) : Prop where
  sz0 : 0 ≤ sz
  sz1 : sz ≤ 4096
  prod : x.kind = 7 → 1 ≤ L.length ∧ 2 ≤ (rowL L 0).length ∧ 0 ≤ nth (rowL L 0) 1 ∧ nth (rowL L 0) 1 ≤ 64
  win : x.kind = 8 → 2 ≤ L.length ∧ 1 ≤ (rowL L 1).length ∧ 1 ≤ nth (rowL L 1) 0 ∧ nth (rowL L 1) 0 ≤ 64
  pool : x.kind = 9 → 0 ≤ x.n ∧ x.n ≤ 64
  sum : x.kind = 13 → 1 ≤ L.length

set_option maxHeartbeats 1000000 in
theorem work1_any (kd n pad sz : Int) (ai sa : Option Addr) (li ci ls cs : Nat) (a : Option Addr) (len cap : Nat) (w : World) :
    Calls Try.prog 118 #[.agg #[.int .u8 kd, .slice ai li ci, .slice sa ls cs, .int .i64 n, .int .i64 pad], .int .i64 sz, .slice a len cap] w fun e w' => e = .returned (.int .i64 0) ∧ Below w.heap.size w w' := by
  go_enter Try.func118, Try.ntmps118
  go_wp2
  go_ret
  exact ⟨rfl, (Below.refl _ _).alloc (Nat.le_refl _) _⟩

set_option maxHeartbeats 1000000 in
theorem work2_any (kd n pad sz : Int) (ai sa : Option Addr) (li ci ls cs : Nat) (a : Option Addr) (len cap : Nat) (L : List (List Int)) (w : World) (HG : Grid w a len cap L) (h0 : 0 ≤ sz) (h1 : sz ≤ 4096) (hl : 1 ≤ L.length) (hr : 2 ≤ (rowL L 0).length)
    (hx0 : 0 ≤ nth (rowL L 0) 1) (hx1 : nth (rowL L 0) 1 ≤ 64) :
    Calls Try.prog 119 #[.agg #[.int .u8 kd, .slice ai li ci, .slice sa ls cs, .int .i64 n, .int .i64 pad], .int .i64 sz, .slice a len cap] w fun e w' => e = .returned (.int .i64 (sz * nth (rowL L 0) 1)) ∧ Below w.heap.size w w' := by
  have HG1 := HG.below ((Below.refl _ _).alloc (Nat.le_refl _) (.cells #[.int .u8 kd, .slice ai li ci, .slice sa ls cs, .int .i64 n, .int .i64 pad] 46))
  have hll := HG.length
  obtain ⟨b, off, rfl, _, hc⟩ := HG1.at_ (by omega)
  obtain ⟨a0, l0, c0, k0, hI⟩ := hc 0 (by omega)
  have hl0 := hI.length
  obtain ⟨b0, o0, rfl, _, hc0⟩ := hI.at_ (by omega)
  have k1 := hc0 1 (by omega)
  rw [Nat.add_zero] at k0
  have hlen : 0 < len := by omega
  have hl0' : 1 < l0 := by omega
  clear hc hc0 hI HG1 HG
  generalize nth (rowL L 0) 1 = x at *
  have hm0 : 0 ≤ sz * x := Int.mul_nonneg h0 hx0
  have hm1 : sz * x ≤ 4096 * 64 := Int.mul_le_mul h1 hx1 hx0 (by omega)
  go_enter Try.func119, Try.ntmps119
  go_wp2
  go_ret
  exact ⟨by go_num, (Below.refl _ _).alloc (Nat.le_refl _) _⟩

set_option maxHeartbeats 1000000 in
theorem work3_any (kd n pad sz : Int) (ai sa : Option Addr) (li ci ls cs : Nat) (a : Option Addr) (len cap : Nat) (L : List (List Int)) (w : World) (HG : Grid w a len cap L) (h0 : 0 ≤ sz) (h1 : sz ≤ 4096) (hl : 2 ≤ L.length) (hr : 1 ≤ (rowL L 1).length)
    (hx0 : 1 ≤ nth (rowL L 1) 0) (hx1 : nth (rowL L 1) 0 ≤ 64) :
    Calls Try.prog 120 #[.agg #[.int .u8 kd, .slice ai li ci, .slice sa ls cs, .int .i64 n, .int .i64 pad], .int .i64 sz, .slice a len cap] w fun e w' => e = .returned (.int .i64 (sz * Int.tdiv (Gr.size (rowL L 1)) (nth (rowL L 1) 0))) ∧ Below w.heap.size w w' := by
  have HG1 := HG.below ((Below.refl _ _).alloc (Nat.le_refl _) (.cells #[.int .u8 kd, .slice ai li ci, .slice sa ls cs, .int .i64 n, .int .i64 pad] 46))
  have hll := HG.length
  obtain ⟨b, off, rfl, _, hc⟩ := HG1.at_ (by omega)
  obtain ⟨a0, l0, c0, k0, hI⟩ := hc 1 (by omega)
  have hl0 := hI.length
  obtain ⟨b0, o0, rfl, _, hc0⟩ := hI.at_ (by omega)
  have k1 := hc0 0 (by omega)
  rw [Nat.add_zero] at k1
  have hlen : 1 < len := by omega
  have hl0' : 0 < l0 := by omega
  have hsz := Gr.size_range (rowL L 1)
  have HI := Lib.hid hI
  have hq : ∀ q, ((w.alloc (.cells #[.int .u8 kd, .slice ai li ci, .slice sa ls cs, .int .i64 n, .int .i64 pad] 46)).drewN q).heap.size = (w.alloc (.cells #[.int .u8 kd, .slice ai li ci, .slice sa ls cs, .int .i64 n, .int .i64 pad] 46)).heap.size := fun q => rfl
  have HC : Hid (∀ q, Calls Try.prog 77 #[.slice (some ⟨b0, o0, none⟩) l0 c0] ((w.alloc (.cells #[.int .u8 kd, .slice ai li ci, .slice sa ls cs, .int .i64 n, .int .i64 pad] 46)).drewN q) fun e w' => e = .returned (.int .i64 (Gr.size (rowL L 1))) ∧ w' = ((w.alloc (.cells #[.int .u8 kd, .slice ai li ci, .slice sa ls cs, .int .i64 n, .int .i64 pad] 46)).drewN q)) := fun q => (size_any _ _ _ _ _ (HI.out.drewN q)).mono fun _ _ ⟨h1, h2⟩ => ⟨h1, h2.symm⟩
  clear hc hc0 hI HG1 HG hq HI
  generalize nth (rowL L 1) 0 = x at *
  generalize Gr.size (rowL L 1) = y at *
  have hd0 : 0 ≤ Int.tdiv y x := Int.tdiv_nonneg hsz.1 (by omega)
  have hd1 : Int.tdiv y x ≤ 4096 := Int.le_trans (by rw [Int.tdiv_eq_ediv_of_nonneg hsz.1]; exact Int.ediv_le_self _ hsz.1) hsz.2
  have hm0 : 0 ≤ sz * Int.tdiv y x := Int.mul_nonneg h0 hd0
  have hm1 : sz * Int.tdiv y x ≤ 4096 * 4096 := Int.mul_le_mul h1 hd1 hd0 (by omega)
  have hz : (x == 0) = false := by simp; omega
  go_enter Try.func120, Try.ntmps120
  go_wp2_with fail
  go_quiet ((go_at_call 77; with_reducible exact Calls.quiet_of_same (HC.out _)))
  go_wp2
  go_ret
  exact ⟨by go_num, ((Below.refl _ _).alloc (Nat.le_refl _) _).trans (below_drewN _ _ _)⟩

set_option maxHeartbeats 1000000 in
theorem work4_any (kd n pad sz : Int) (ai sa : Option Addr) (li ci ls cs : Nat) (a : Option Addr) (len cap : Nat) (w : World) (h0 : 0 ≤ sz) (h1 : sz ≤ 4096) (hn0 : 0 ≤ n) (hn1 : n ≤ 64) :
    Calls Try.prog 121 #[.agg #[.int .u8 kd, .slice ai li ci, .slice sa ls cs, .int .i64 n, .int .i64 pad], .int .i64 sz, .slice a len cap] w fun e w' => e = .returned (.int .i64 (sz * n * n)) ∧ Below w.heap.size w w' := by
  have hm0 : 0 ≤ sz * n := Int.mul_nonneg h0 hn0
  have hm1 : sz * n ≤ 4096 * 64 := Int.mul_le_mul h1 hn1 hn0 (by omega)
  have hm2 : 0 ≤ sz * n * n := Int.mul_nonneg hm0 hn0
  have hm3 : sz * n * n ≤ 4096 * 64 * 64 := Int.mul_le_mul hm1 hn1 hn0 (by omega)
  have x3 : (w.alloc (.cells #[.int .u8 kd, .slice ai li ci, .slice sa ls cs, .int .i64 n, .int .i64 pad] 46)).cell? ⟨w.heap.size, 3, none⟩ = some (.int .i64 n) := by rw [World.cell?_alloc_at _ _ _ _ rfl]; rfl
  go_enter Try.func121, Try.ntmps121
  go_wp2
  go_ret
  exact ⟨by go_num, (Below.refl _ _).alloc (Nat.le_refl _) _⟩

set_option maxHeartbeats 1000000 in
theorem work5_any (kd n pad sz : Int) (ai sa : Option Addr) (li ci ls cs : Nat) (a : Option Addr) (len cap : Nat) (L : List (List Int)) (w : World) (HG : Grid w a len cap L) (hl : 1 ≤ L.length) :
    Calls Try.prog 122 #[.agg #[.int .u8 kd, .slice ai li ci, .slice sa ls cs, .int .i64 n, .int .i64 pad], .int .i64 sz, .slice a len cap] w fun e w' => e = .returned (.int .i64 (Gr.size (rowL L 0))) ∧ Below w.heap.size w w' := by
  have HG1 := HG.below ((Below.refl _ _).alloc (Nat.le_refl _) (.cells #[.int .u8 kd, .slice ai li ci, .slice sa ls cs, .int .i64 n, .int .i64 pad] 46))
  have hll := HG.length
  obtain ⟨b, off, rfl, _, hc⟩ := HG1.at_ (by omega)
  obtain ⟨a0, l0, c0, k0, hI⟩ := hc 0 (by omega)
  rw [Nat.add_zero] at k0
  have hlen : 0 < len := by omega
  have HI := Lib.hid hI
  clear hc hI HG1 HG
  go_enter Try.func122, Try.ntmps122
  go_wp2_with fail
  refine (size_any _ _ _ _ _ HI.out).mono ?_
  rintro e w1 ⟨rfl, rfl⟩
  go_wp2
  go_ret
  exact ⟨rfl, (Below.refl _ _).alloc (Nat.le_refl _) _⟩

/-- The function of a kind, at a node of it: what reckoning costs. -/
theorem work_any (x : Gr.Node) (sz : Int) (ai sa : Option Addr) (li ci ls cs : Nat) (a : Option Addr) (len cap : Nat) (L : List (List Int)) (w : World) (HG : Grid w a len cap L) (hO : WorkOk x sz L) {f : Nat} (hf : workFn x.kind = some f) :
    Calls Try.prog f #[.agg #[.int .u8 x.kind, .slice ai li ci, .slice sa ls cs, .int .i64 x.n, .int .i64 x.pad], .int .i64 sz, .slice a len cap] w fun e w' => e = .returned (.int .i64 (Co.workF x sz L)) ∧ Below w.heap.size w w' := by
  unfold workFn at hf
  unfold Co.workF
  by_cases h1 : x.kind = 1 ∨ x.kind = 2
  · rw [if_pos h1] at hf ⊢; cases hf
    exact work1_any _ _ _ _ _ _ _ _ _ _ _ _ _ _
  rw [if_neg h1] at hf ⊢
  by_cases h7 : x.kind = 7
  · rw [if_pos h7] at hf ⊢; cases hf
    obtain ⟨p1, p2, p3, p4⟩ := hO.prod h7
    exact work2_any _ _ _ _ _ _ _ _ _ _ _ _ _ _ _ HG hO.sz0 hO.sz1 p1 p2 p3 p4
  rw [if_neg h7] at hf ⊢
  by_cases h8 : x.kind = 8
  · rw [if_pos h8] at hf ⊢; cases hf
    obtain ⟨p1, p2, p3, p4⟩ := hO.win h8
    exact work3_any _ _ _ _ _ _ _ _ _ _ _ _ _ _ _ HG hO.sz0 hO.sz1 p1 p2 p3 p4
  rw [if_neg h8] at hf ⊢
  by_cases h9 : x.kind = 9
  · rw [if_pos h9] at hf ⊢; cases hf
    exact work4_any _ _ _ _ _ _ _ _ _ _ _ _ _ _ hO.sz0 hO.sz1 (hO.pool h9).1 (hO.pool h9).2
  rw [if_neg h9] at hf ⊢
  by_cases h13 : x.kind = 13
  · rw [if_pos h13] at hf ⊢; cases hf
    exact work5_any _ _ _ _ _ _ _ _ _ _ _ _ _ _ _ HG (hO.sum h13)
  rw [if_neg h13] at hf; cases hf
theorem work_enters {k : Int} {f : Nat} (hf : workFn k = some f) (args : Array Value) (w : World) : (callFunc f args).run Try.prog w = .ok (.enter f args) w := by
  unfold workFn at hf
  split at hf
  · cases hf; exact enters_of Try.func118 (by kernel_rfl) rfl args w
  split at hf
  · cases hf; exact enters_of Try.func119 (by kernel_rfl) rfl args w
  split at hf
  · cases hf; exact enters_of Try.func120 (by kernel_rfl) rfl args w
  split at hf
  · cases hf; exact enters_of Try.func121 (by kernel_rfl) rfl args w
  split at hf
  · cases hf; exact enters_of Try.func122 (by kernel_rfl) rfl args w
  cases hf
theorem work_none {x : Gr.Node} (sz : Int) (L : List (List Int)) (hf : workFn x.kind = none) : Co.workF x sz L = sz := by
  unfold workFn at hf
  unfold Co.workF
  by_cases h1 : x.kind = 1 ∨ x.kind = 2
  · rw [if_pos h1] at hf; cases hf
  rw [if_neg h1] at hf ⊢
  by_cases h7 : x.kind = 7
  · rw [if_pos h7] at hf; cases hf
  rw [if_neg h7] at hf ⊢
  by_cases h8 : x.kind = 8
  · rw [if_pos h8] at hf; cases hf
  rw [if_neg h8] at hf ⊢
  by_cases h9 : x.kind = 9
  · rw [if_pos h9] at hf; cases hf
  rw [if_neg h9] at hf ⊢
  by_cases h13 : x.kind = 13
  · rw [if_pos h13] at hf; cases hf
  rw [if_neg h13]
end Go.Proofs.Ytgmagldbfajedaa
