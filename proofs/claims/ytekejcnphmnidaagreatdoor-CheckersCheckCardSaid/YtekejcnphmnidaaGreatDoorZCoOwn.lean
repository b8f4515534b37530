import Derived.Test.YtekejcnphmnidaaGreatDoorZOrNeedLaw
import Derived.Test.YtekejcnphmnidaaGreatDoorZBg
import Derived.Test.YtekejcnphmnidaaGreatDoorZBh
import Derived.OwnWalk
import Derived.Maps.AppendAt
namespace Go.Proofs.YtekejcnphmnidaaGreatDoor
namespace Co
open Gr Od
structure Cost where
  bytes : Int
  need : Int
  work : Int
def sizeAt (s : List (List Int)) (v : Int) : Int := size (Gr.rowAt s v)
theorem sizeAt_range (s : List (List Int)) (v : Int) : 0 ≤ sizeAt s v ∧ sizeAt s v ≤ 4096 := size_range _
def insK (s : List (List Int)) (inn : List Int) : Nat → Int
  | 0 => 0
  | k + 1 => insK s inn k + (if hasB (inn.take k) (nth inn k) = true then 0 else 4 * sizeAt s (nth inn k))
def allK (s : List (List Int)) (inn : List Int) : Nat → Int
  | 0 => 0
  | k + 1 => allK s inn k + 4 * sizeAt s (nth inn k)
theorem insK_range (s : List (List Int)) (inn : List Int) : ∀ k : Nat, 0 ≤ insK s inn k ∧ insK s inn k ≤ allK s inn k ∧ allK s inn k ≤ 16384 * (k : Int)
  | 0 => by unfold insK allK; omega
  | k + 1 => by
    have h := insK_range s inn k
    have h1 := sizeAt_range s (nth inn k)
    unfold insK allK
    split <;> omega
def workF (x : Gr.Node) (sz : Int) (ins : List (List Int)) : Int :=
  if x.kind = 1 ∨ x.kind = 2 then 0
  else if x.kind = 7 then sz * nth (rowL ins 0) 1
  else if x.kind = 8 then sz * Int.tdiv (size (rowL ins 1)) (nth (rowL ins 1) 0)
  else if x.kind = 9 then sz * x.n * x.n
  else if x.kind = 13 then size (rowL ins 0)
  else sz
def cost (s : List (List Int)) (x : Gr.Node) (i : Nat) : Cost :=
  ⟨4 * size (rowL s i), 4 * size (rowL s i) + insK s x.inn x.inn.length, workF x (size (rowL s i)) (x.inn.map (Gr.rowAt s))⟩
def costsK (g : List Gr.Node) (s : List (List Int)) (k : Nat) : List Cost := (List.range k).map fun i => cost s (nodeN g i) i
def costs (g : List Gr.Node) (s : List (List Int)) : List Cost := costsK g s g.length
def costN (c : List Cost) (i : Nat) : Cost := c.getD i ⟨0, 0, 0⟩
theorem costsK_length (g : List Gr.Node) (s : List (List Int)) (k : Nat) : (costsK g s k).length = k := by unfold costsK; simp
theorem costsK_snoc (g : List Gr.Node) (s : List (List Int)) (k : Nat) : costsK g s (k + 1) = costsK g s k ++ [cost s (nodeN g k) k] := by
  unfold costsK; rw [List.range_succ, List.map_append]; rfl
theorem costsK_at (g : List Gr.Node) (s : List (List Int)) (k i : Nat) (h : i < k) : costN (costsK g s k) i = cost s (nodeN g i) i := by
  unfold costN costsK
  rw [List.getD_eq_getElem?_getD, List.getElem?_map, List.getElem?_range h]; rfl
theorem size_bounds {g : List Gr.Node} {s : List (List Int)} (h : shapes g = some s) {i : Nat} (hi : i < g.length) : 1 ≤ size (rowL s i) ∧ size (rowL s i) ≤ 4096 := by
  have h1 := chk_size (shapes_chk h i (by rw [shapes_len h]; exact hi))
  have h2 := size_range (rowL s i)
  omega
def mx (x y : Int) : Int := if x < y then y else x
def leastF (c : List Cost) (ord : List Int) : Int := ord.foldl (fun n v => mx n (costN c v.toNat).need) 0
theorem inn_of {g : List Gr.Node} {s : List (List Int)} (h : shapes g = some s) {i : Nat} (hi : i < g.length) : (nodeN g i).inn.length ≤ 4 ∧ ∀ v ∈ (nodeN g i).inn, 0 ≤ v ∧ v < i := by
  obtain ⟨k, h1, h2, h3, _⟩ := run_node (shapes_iff.1 h).2.1 i hi
  have h4 := (ofB_parts h2).2.1
  have h5 := kindOf_bounds h1
  refine ⟨by omega, fun v hv => ?_⟩
  unfold okIn at h3
  have := List.all_eq_true.1 h3 v hv
  simpa using this
theorem need_bounds {g : List Gr.Node} {s : List (List Int)} (h : shapes g = some s) {i : Nat} (hi : i < g.length) :
    (cost s (nodeN g i) i).bytes = 4 * size (rowL s i) ∧ (cost s (nodeN g i) i).need = 4 * size (rowL s i) + insK s (nodeN g i).inn (nodeN g i).inn.length ∧
    4 ≤ 4 * size (rowL s i) ∧ 4 * size (rowL s i) ≤ 16384 ∧ (cost s (nodeN g i) i).need ≤ 81920 := by
  have h1 := size_bounds h hi
  have h2 := insK_range s (nodeN g i).inn (nodeN g i).inn.length
  have h3 := (inn_of h hi).1
  refine ⟨rfl, rfl, by omega, by omega, ?_⟩
  show 4 * size (rowL s i) + insK s (nodeN g i).inn (nodeN g i).inn.length ≤ 81920
  omega
end Co
end Go.Proofs.YtekejcnphmnidaaGreatDoor

namespace Go.Proofs.YtekejcnphmnidaaGreatDoor
open Go.RowKit Go.MapKept
theorem Tryz.under121 : Tryz.prog.underlying 121 = some (.map 101 124) := by kernel_rfl
def workFn (k : Int) : Option Nat := if k = 1 ∨ k = 2 then some 190 else if k = 7 then some 191 else if k = 8 then some 192 else if k = 9 then some 193 else if k = 13 then some 194 else none
def fnV (f : Nat) : Value := .func (.func f) #[] #[]
def WorksMap (w : World) (r : Nat) : Prop := ∃ es clock, w.heap[r]? = some (.map es clock) ∧ (∀ e ∈ es.toList, ∃ k f, e.key = .int .u8 k ∧ workFn k = some f ∧ e.val = fnV f) ∧ ∀ k f, workFn k = some f → ∃ e ∈ es.toList, e.key = .int .u8 k
theorem WorksMap.below {w w' : World} {r : Nat} (h : WorksMap w r) (hb : Below w.heap.size w w') : WorksMap w' r := by
  obtain ⟨es, clock, h1, h2⟩ := h
  exact ⟨es, clock, by rw [hb.block r (Array.getElem?_eq_some_iff.1 h1).1]; exact h1, h2⟩
theorem WorksMap.there {w : World} {r : Nat} (h : WorksMap w r) {k : Int} {f : Nat} (hk : workFn k = some f) : (Instr.lookup 121 (.map (some r)) (.int .u8 k) false).run Tryz.prog w = .ok (fnV f) w := by
  obtain ⟨es, clock, h1, h2, h3⟩ := h
  have hkey := isKey_u8 k
  rcases findNow_spec hkey es.toList 0 (fun e he => by obtain ⟨j, _, hj, _⟩ := h2 e he; rw [hj]; exact isKey_u8 j) with ⟨_, hn⟩ | ⟨j, e, hf, hj, he⟩
  · obtain ⟨e, he, hke⟩ := h3 k f hk
    exact (hn e he hke).elim
  · obtain ⟨k', f', hk1, hk2, hv⟩ := h2 e (List.mem_of_getElem? hj)
    rw [he] at hk1
    simp only [Value.int.injEq, true_and] at hk1
    subst hk1
    rw [hk] at hk2
    cases hk2
    simp [Instr.lookup, run_underlying Tryz.under121, Go.MapKept.run_getObj_map h1, run_checkKey Tryz.under101 hkey, run_findKey Tryz.under101 hf, Result.andThen, hv]
theorem WorksMap.absent {w : World} {r : Nat} (h : WorksMap w r) {k : Int} (hk : workFn k = none) : (Instr.lookup 121 (.map (some r)) (.int .u8 k) false).run Tryz.prog w = .ok .nilFunc w := by
  obtain ⟨es, clock, h1, h2, h3⟩ := h
  have hkey := isKey_u8 k
  rcases findNow_spec hkey es.toList 0 (fun e he => by obtain ⟨j, _, hj, _⟩ := h2 e he; rw [hj]; exact isKey_u8 j) with ⟨hf, _⟩ | ⟨j, e, _, hj, he⟩
  · simp [Instr.lookup, run_underlying Tryz.under121, Go.MapKept.run_getObj_map h1, run_checkKey Tryz.under101 hkey, run_findKey Tryz.under101 hf, Result.andThen]
  · obtain ⟨k', f', hk1, hk2, _⟩ := h2 e (List.mem_of_getElem? hj)
    rw [he] at hk1
    simp only [Value.int.injEq, true_and] at hk1
    subst hk1
    rw [hk] at hk2
    cases hk2
theorem ins_step {w : World} {base r clock : Nat} {es : Array MapEntry} {k : Int} {v : Value} (hb : w.heap[r]? = some (.map es clock)) (hks : ∀ e ∈ es.toList, ∃ j, e.key = .int .u8 j ∧ j ≠ k) (hr : base ≤ r) :
    ∃ w', (Instr.mapUpdate 121 (.map (some r)) (.int .u8 k) v).run Tryz.prog w = .ok () w' ∧ w'.heap[r]? = some (.map (es.push { key := .int .u8 k, val := v, born := clock }) (clock + 1)) ∧ Below base w w' := by
  have hk := isKey_u8 k
  rcases findNow_spec hk es.toList 0 (fun e he => by obtain ⟨j, h, _⟩ := hks e he; rw [h]; exact isKey_u8 j) with ⟨h1, _⟩ | ⟨j, e, _, h2, h3⟩
  · refine ⟨{ w with heap := w.heap.setIfInBounds r (.map (es.push { key := .int .u8 k, val := v, born := clock }) (clock + 1)) }, ?_, (heap_set hb).1, rfl, rfl, rfl, by simp, fun j hj => ?_⟩
    · simp [Instr.mapUpdate, run_underlying Tryz.under121, Go.MapKept.run_getObj_map hb, run_checkKey Tryz.under101 hk, run_findKey Tryz.under101 h1, run_setObj_map _ hb, Result.andThen]
    · simp [show r ≠ j by omega]
  · exfalso
    obtain ⟨j', h4, h5⟩ := hks e (List.mem_of_getElem? h2)
    rw [h3] at h4
    simp only [Value.int.injEq, true_and] at h4
    exact h5 h4.symm
set_option maxHeartbeats 2000000 in
set_option maxRecDepth 100000 in
theorem works_any (w : World) : Calls Tryz.prog 122 #[] w fun e w' => ∃ r, e = .returned (.map (some r)) ∧ WorksMap w' r ∧ Below w.heap.size w w' := by
  have hmm := @run_makeMap Tryz.prog
  have m1 : (w.alloc (.map #[] 0)).heap[w.heap.size]? = some (.map #[] 0) := by show (w.heap.push _)[w.heap.size]? = _; simp
  obtain ⟨w1, r1, m2, b1⟩ := ins_step (base := w.heap.size) (k := 1) (v := fnV 190) m1 (fun e he => by simp at he) (Nat.le_refl _)
  obtain ⟨w2, r2, m3, b2⟩ := ins_step (base := w.heap.size) (k := 2) (v := fnV 190) m2 (fun e he => by simp at he; subst he; exact ⟨1, rfl, by decide⟩) (Nat.le_refl _)
  obtain ⟨w3, r3, m4, b3⟩ := ins_step (base := w.heap.size) (k := 7) (v := fnV 191) m3 (fun e he => by simp at he; rcases he with rfl | rfl <;> exact ⟨_, rfl, by decide⟩) (Nat.le_refl _)
  obtain ⟨w4, r4, m5, b4⟩ := ins_step (base := w.heap.size) (k := 8) (v := fnV 192) m4 (fun e he => by simp at he; rcases he with rfl | rfl | rfl <;> exact ⟨_, rfl, by decide⟩) (Nat.le_refl _)
  obtain ⟨w5, r5, m6, b5⟩ := ins_step (base := w.heap.size) (k := 9) (v := fnV 193) m5 (fun e he => by simp at he; rcases he with rfl | rfl | rfl | rfl <;> exact ⟨_, rfl, by decide⟩) (Nat.le_refl _)
  obtain ⟨w6, r6, m7, b6⟩ := ins_step (base := w.heap.size) (k := 13) (v := fnV 194) m6 (fun e he => by simp at he; rcases he with rfl | rfl | rfl | rfl | rfl <;> exact ⟨_, rfl, by decide⟩) (Nat.le_refl _)
  unfold fnV at r1 r2 r3 r4 r5 r6
  have HB : Hid (Below w.heap.size w w6) := (((((((Below.refl _ _).alloc (Nat.le_refl _) _).trans b1).trans b2).trans b3).trans b4).trans b5).trans b6
  have HM : Hid (WorksMap w6 w.heap.size) := by
    refine ⟨_, _, m7, fun e he => ?_, fun k f hk => ?_⟩
    · simp at he
      rcases he with rfl | rfl | rfl | rfl | rfl | rfl
      · exact ⟨1, 190, rfl, by decide, rfl⟩
      · exact ⟨2, 190, rfl, by decide, rfl⟩
      · exact ⟨7, 191, rfl, by decide, rfl⟩
      · exact ⟨8, 192, rfl, by decide, rfl⟩
      · exact ⟨9, 193, rfl, by decide, rfl⟩
      · exact ⟨13, 194, rfl, by decide, rfl⟩
    · unfold workFn at hk
      by_cases h1 : k = 1
      · subst h1; exact ⟨_, by simp; exact .inl rfl, rfl⟩
      by_cases h2 : k = 2
      · subst h2; exact ⟨_, by simp; exact .inr (.inl rfl), rfl⟩
      by_cases h7 : k = 7
      · subst h7; exact ⟨_, by simp; exact .inr (.inr (.inl rfl)), rfl⟩
      by_cases h8 : k = 8
      · subst h8; exact ⟨_, by simp; exact .inr (.inr (.inr (.inl rfl))), rfl⟩
      by_cases h9 : k = 9
      · subst h9; exact ⟨_, by simp; exact .inr (.inr (.inr (.inr (.inl rfl)))), rfl⟩
      by_cases h13 : k = 13
      · subst h13; exact ⟨_, by simp; exact .inr (.inr (.inr (.inr (.inr rfl)))), rfl⟩
      simp [h1, h2, h7, h8, h9, h13] at hk
  clear m1 m2 m3 m4 m5 m6 m7 b1 b2 b3 b4 b5 b6
  go_enter Tryz.func122, Tryz.ntmps122
  go_wp2
  go_ret
  exact ⟨_, rfl, HM.out, HB.out⟩
theorem neq_fn (f : Nat) (w : World) : (binOp BinOp.neq 124 (.func (.func f) #[] #[]) .nilFunc).run Tryz.prog w = .ok (.bool true) w := by kernel_rfl
theorem neq_none (w : World) : (binOp BinOp.neq 124 .nilFunc .nilFunc).run Tryz.prog w = .ok (.bool false) w := by kernel_rfl
structure WorkOk (x : Gr.Node) (sz : Int) (L : List (List Int)) : Prop where
  sz0 : 0 ≤ sz
  sz1 : sz ≤ 4096
  prod : x.kind = 7 → 1 ≤ L.length ∧ 2 ≤ (rowL L 0).length ∧ 0 ≤ nth (rowL L 0) 1 ∧ nth (rowL L 0) 1 ≤ 64
  win : x.kind = 8 → 2 ≤ L.length ∧ 1 ≤ (rowL L 1).length ∧ 1 ≤ nth (rowL L 1) 0 ∧ nth (rowL L 1) 0 ≤ 64
  pool : x.kind = 9 → 0 ≤ x.n ∧ x.n ≤ 64
  sum : x.kind = 13 → 1 ≤ L.length
set_option maxHeartbeats 1000000 in
theorem work1_any (kd n pad sz : Int) (ai sa : Option Addr) (li ci ls cs : Nat) (a : Option Addr) (len cap : Nat) (w : World) :
    Calls Tryz.prog 190 #[.agg #[.int .u8 kd, .slice ai li ci, .slice sa ls cs, .int .i64 n, .int .i64 pad], .int .i64 sz, .slice a len cap] w fun e w' => e = .returned (.int .i64 0) ∧ Below w.heap.size w w' := by
  go_enter Tryz.func190, Tryz.ntmps190
  go_wp2
  go_ret
  exact ⟨rfl, (Below.refl _ _).alloc (Nat.le_refl _) _⟩
set_option maxHeartbeats 1000000 in
theorem work2_any (kd n pad sz : Int) (ai sa : Option Addr) (li ci ls cs : Nat) (a : Option Addr) (len cap : Nat) (L : List (List Int)) (w : World) (HG : Grid w a len cap L) (h0 : 0 ≤ sz) (h1 : sz ≤ 4096) (hl : 1 ≤ L.length) (hr : 2 ≤ (rowL L 0).length)
    (hx0 : 0 ≤ nth (rowL L 0) 1) (hx1 : nth (rowL L 0) 1 ≤ 64) :
    Calls Tryz.prog 191 #[.agg #[.int .u8 kd, .slice ai li ci, .slice sa ls cs, .int .i64 n, .int .i64 pad], .int .i64 sz, .slice a len cap] w fun e w' => e = .returned (.int .i64 (sz * nth (rowL L 0) 1)) ∧ Below w.heap.size w w' := by
  have HG1 := HG.below ((Below.refl _ _).alloc (Nat.le_refl _) (.cells #[.int .u8 kd, .slice ai li ci, .slice sa ls cs, .int .i64 n, .int .i64 pad] 103))
  have hll := HG.length
  obtain ⟨b, off, rfl, _, hc⟩ := HG1.at_ (by omega)
  obtain ⟨a0, l0, c0, k0, hI⟩ := hc 0 (by omega)
  have hl0 := hI.length
  obtain ⟨b0, o0, rfl, _, hc0⟩ := hI.at_ (by omega)
  have k1 := hc0 1 (by omega)
  rw [Nat.add_zero] at k0
  have hlen : 0 < len := by omega
  have hl0' : 1 < l0 := by omega
  clear hc hc0 hI HG1 HG
  generalize nth (rowL L 0) 1 = x at *
  have hm0 : 0 ≤ sz * x := Int.mul_nonneg h0 hx0
  have hm1 : sz * x ≤ 4096 * 64 := Int.mul_le_mul h1 hx1 hx0 (by omega)
  go_enter Tryz.func191, Tryz.ntmps191
  go_wp2
  go_ret
  exact ⟨by go_num, (Below.refl _ _).alloc (Nat.le_refl _) _⟩
set_option maxHeartbeats 1000000 in
theorem work3_any (kd n pad sz : Int) (ai sa : Option Addr) (li ci ls cs : Nat) (a : Option Addr) (len cap : Nat) (L : List (List Int)) (w : World) (HG : Grid w a len cap L) (h0 : 0 ≤ sz) (h1 : sz ≤ 4096) (hl : 2 ≤ L.length) (hr : 1 ≤ (rowL L 1).length)
    (hx0 : 1 ≤ nth (rowL L 1) 0) (hx1 : nth (rowL L 1) 0 ≤ 64) :
    Calls Tryz.prog 192 #[.agg #[.int .u8 kd, .slice ai li ci, .slice sa ls cs, .int .i64 n, .int .i64 pad], .int .i64 sz, .slice a len cap] w fun e w' => e = .returned (.int .i64 (sz * Int.tdiv (Gr.size (rowL L 1)) (nth (rowL L 1) 0))) ∧ Below w.heap.size w w' := by
  have HG1 := HG.below ((Below.refl _ _).alloc (Nat.le_refl _) (.cells #[.int .u8 kd, .slice ai li ci, .slice sa ls cs, .int .i64 n, .int .i64 pad] 103))
  have hll := HG.length
  obtain ⟨b, off, rfl, _, hc⟩ := HG1.at_ (by omega)
  obtain ⟨a0, l0, c0, k0, hI⟩ := hc 1 (by omega)
  have hl0 := hI.length
  obtain ⟨b0, o0, rfl, _, hc0⟩ := hI.at_ (by omega)
  have k1 := hc0 0 (by omega)
  rw [Nat.add_zero] at k1
  have hlen : 1 < len := by omega
  have hl0' : 0 < l0 := by omega
  have hsz := Gr.size_range (rowL L 1)
  have HI := Lib.hid hI
  have hq : ∀ q, ((w.alloc (.cells #[.int .u8 kd, .slice ai li ci, .slice sa ls cs, .int .i64 n, .int .i64 pad] 103)).drewN q).heap.size = (w.alloc (.cells #[.int .u8 kd, .slice ai li ci, .slice sa ls cs, .int .i64 n, .int .i64 pad] 103)).heap.size := fun q => rfl
  have HC : Hid (∀ q, Calls Tryz.prog 123 #[.slice (some ⟨b0, o0, none⟩) l0 c0] ((w.alloc (.cells #[.int .u8 kd, .slice ai li ci, .slice sa ls cs, .int .i64 n, .int .i64 pad] 103)).drewN q) fun e w' => e = .returned (.int .i64 (Gr.size (rowL L 1))) ∧ w' = ((w.alloc (.cells #[.int .u8 kd, .slice ai li ci, .slice sa ls cs, .int .i64 n, .int .i64 pad] 103)).drewN q)) := fun q => (size_any _ _ _ _ _ (HI.out.drewN q)).mono fun _ _ ⟨h1, h2⟩ => ⟨h1, h2.symm⟩
  clear hc hc0 hI HG1 HG hq HI
  generalize nth (rowL L 1) 0 = x at *
  generalize Gr.size (rowL L 1) = y at *
  have hd0 : 0 ≤ Int.tdiv y x := Int.tdiv_nonneg hsz.1 (by omega)
  have hd1 : Int.tdiv y x ≤ 4096 := Int.le_trans (by rw [Int.tdiv_eq_ediv_of_nonneg hsz.1]; exact Int.ediv_le_self _ hsz.1) hsz.2
  have hm0 : 0 ≤ sz * Int.tdiv y x := Int.mul_nonneg h0 hd0
  have hm1 : sz * Int.tdiv y x ≤ 4096 * 4096 := Int.mul_le_mul h1 hd1 hd0 (by omega)
  have hz : (x == 0) = false := by simp; omega
  go_enter Tryz.func192, Tryz.ntmps192
  go_wp2_with fail
  go_quiet ((go_at_call 123; with_reducible exact Calls.quiet_of_same (HC.out _)))
  go_wp2
  go_ret
  exact ⟨by go_num, ((Below.refl _ _).alloc (Nat.le_refl _) _).trans (below_drewN _ _ _)⟩
set_option maxHeartbeats 1000000 in
theorem work4_any (kd n pad sz : Int) (ai sa : Option Addr) (li ci ls cs : Nat) (a : Option Addr) (len cap : Nat) (w : World) (h0 : 0 ≤ sz) (h1 : sz ≤ 4096) (hn0 : 0 ≤ n) (hn1 : n ≤ 64) :
    Calls Tryz.prog 193 #[.agg #[.int .u8 kd, .slice ai li ci, .slice sa ls cs, .int .i64 n, .int .i64 pad], .int .i64 sz, .slice a len cap] w fun e w' => e = .returned (.int .i64 (sz * n * n)) ∧ Below w.heap.size w w' := by
  have hm0 : 0 ≤ sz * n := Int.mul_nonneg h0 hn0
  have hm1 : sz * n ≤ 4096 * 64 := Int.mul_le_mul h1 hn1 hn0 (by omega)
  have hm2 : 0 ≤ sz * n * n := Int.mul_nonneg hm0 hn0
  have hm3 : sz * n * n ≤ 4096 * 64 * 64 := Int.mul_le_mul hm1 hn1 hn0 (by omega)
  have x3 : (w.alloc (.cells #[.int .u8 kd, .slice ai li ci, .slice sa ls cs, .int .i64 n, .int .i64 pad] 103)).cell? ⟨w.heap.size, 3, none⟩ = some (.int .i64 n) := by rw [World.cell?_alloc_at _ _ _ _ rfl]; rfl
  go_enter Tryz.func193, Tryz.ntmps193
  go_wp2
  go_ret
  exact ⟨by go_num, (Below.refl _ _).alloc (Nat.le_refl _) _⟩
set_option maxHeartbeats 1000000 in
theorem work5_any (kd n pad sz : Int) (ai sa : Option Addr) (li ci ls cs : Nat) (a : Option Addr) (len cap : Nat) (L : List (List Int)) (w : World) (HG : Grid w a len cap L) (hl : 1 ≤ L.length) :
    Calls Tryz.prog 194 #[.agg #[.int .u8 kd, .slice ai li ci, .slice sa ls cs, .int .i64 n, .int .i64 pad], .int .i64 sz, .slice a len cap] w fun e w' => e = .returned (.int .i64 (Gr.size (rowL L 0))) ∧ Below w.heap.size w w' := by
  have HG1 := HG.below ((Below.refl _ _).alloc (Nat.le_refl _) (.cells #[.int .u8 kd, .slice ai li ci, .slice sa ls cs, .int .i64 n, .int .i64 pad] 103))
  have hll := HG.length
  obtain ⟨b, off, rfl, _, hc⟩ := HG1.at_ (by omega)
  obtain ⟨a0, l0, c0, k0, hI⟩ := hc 0 (by omega)
  rw [Nat.add_zero] at k0
  have hlen : 0 < len := by omega
  have HI := Lib.hid hI
  clear hc hI HG1 HG
  go_enter Tryz.func194, Tryz.ntmps194
  go_wp2_with fail
  refine (size_any _ _ _ _ _ HI.out).mono ?_
  rintro e w1 ⟨rfl, rfl⟩
  go_wp2
  go_ret
  exact ⟨rfl, (Below.refl _ _).alloc (Nat.le_refl _) _⟩
theorem work_any (x : Gr.Node) (sz : Int) (ai sa : Option Addr) (li ci ls cs : Nat) (a : Option Addr) (len cap : Nat) (L : List (List Int)) (w : World) (HG : Grid w a len cap L) (hO : WorkOk x sz L) {f : Nat} (hf : workFn x.kind = some f) :
    Calls Tryz.prog f #[.agg #[.int .u8 x.kind, .slice ai li ci, .slice sa ls cs, .int .i64 x.n, .int .i64 x.pad], .int .i64 sz, .slice a len cap] w fun e w' => e = .returned (.int .i64 (Co.workF x sz L)) ∧ Below w.heap.size w w' := by
  unfold workFn at hf
  unfold Co.workF
  by_cases h1 : x.kind = 1 ∨ x.kind = 2
  · rw [if_pos h1] at hf ⊢; cases hf
    exact work1_any _ _ _ _ _ _ _ _ _ _ _ _ _ _
  rw [if_neg h1] at hf ⊢
  by_cases h7 : x.kind = 7
  · rw [if_pos h7] at hf ⊢; cases hf
    obtain ⟨p1, p2, p3, p4⟩ := hO.prod h7
    exact work2_any _ _ _ _ _ _ _ _ _ _ _ _ _ _ _ HG hO.sz0 hO.sz1 p1 p2 p3 p4
  rw [if_neg h7] at hf ⊢
  by_cases h8 : x.kind = 8
  · rw [if_pos h8] at hf ⊢; cases hf
    obtain ⟨p1, p2, p3, p4⟩ := hO.win h8
    exact work3_any _ _ _ _ _ _ _ _ _ _ _ _ _ _ _ HG hO.sz0 hO.sz1 p1 p2 p3 p4
  rw [if_neg h8] at hf ⊢
  by_cases h9 : x.kind = 9
  · rw [if_pos h9] at hf ⊢; cases hf
    exact work4_any _ _ _ _ _ _ _ _ _ _ _ _ _ _ hO.sz0 hO.sz1 (hO.pool h9).1 (hO.pool h9).2
  rw [if_neg h9] at hf ⊢
  by_cases h13 : x.kind = 13
  · rw [if_pos h13] at hf ⊢; cases hf
    exact work5_any _ _ _ _ _ _ _ _ _ _ _ _ _ _ _ HG (hO.sum h13)
  rw [if_neg h13] at hf; cases hf
theorem work_enters {k : Int} {f : Nat} (hf : workFn k = some f) (args : Array Value) (w : World) : (callFunc f args).run Tryz.prog w = .ok (.enter f args) w := by
  unfold workFn at hf
  split at hf
  · cases hf; exact enters_of Tryz.func190 (by kernel_rfl) rfl args w
  split at hf
  · cases hf; exact enters_of Tryz.func191 (by kernel_rfl) rfl args w
  split at hf
  · cases hf; exact enters_of Tryz.func192 (by kernel_rfl) rfl args w
  split at hf
  · cases hf; exact enters_of Tryz.func193 (by kernel_rfl) rfl args w
  split at hf
  · cases hf; exact enters_of Tryz.func194 (by kernel_rfl) rfl args w
  cases hf
theorem work_none {x : Gr.Node} (sz : Int) (L : List (List Int)) (hf : workFn x.kind = none) : Co.workF x sz L = sz := by
  unfold workFn at hf
  unfold Co.workF
  by_cases h1 : x.kind = 1 ∨ x.kind = 2
  · rw [if_pos h1] at hf; cases hf
  rw [if_neg h1] at hf ⊢
  by_cases h7 : x.kind = 7
  · rw [if_pos h7] at hf; cases hf
  rw [if_neg h7] at hf ⊢
  by_cases h8 : x.kind = 8
  · rw [if_pos h8] at hf; cases hf
  rw [if_neg h8] at hf ⊢
  by_cases h9 : x.kind = 9
  · rw [if_pos h9] at hf; cases hf
  rw [if_neg h9] at hf ⊢
  by_cases h13 : x.kind = 13
  · rw [if_pos h13] at hf; cases hf
  rw [if_neg h13]
end Go.Proofs.YtekejcnphmnidaaGreatDoor

namespace Go.Proofs.YtekejcnphmnidaaGreatDoor
open Go.RowKit
theorem Tryz.info120 : (Tryz.prog.info? 120).map (fun i => (i.zero, i.size, i.bytes)) = some (some (.agg #[.int .i64 0, .int .i64 0, .int .i64 0]), 3, 24) := by kernel_rfl
structure CostsIn (w : World) (a : Option Addr) (len cap : Nat) (C : List Co.Cost) : Prop where
  le : len ≤ cap
  cap_le : cap ≤ 9223372036854775807
  length : C.length = len
  at_ : 0 < len → ∃ b off, a = some ⟨b, off, none⟩ ∧ b < w.heap.size ∧ ∀ i, i < len → w.cell? ⟨b, off + i * 3, none⟩ = some (.int .i64 (Co.costN C i).bytes) ∧
    w.cell? ⟨b, off + i * 3 + 1, none⟩ = some (.int .i64 (Co.costN C i).need) ∧ w.cell? ⟨b, off + i * 3 + 2, none⟩ = some (.int .i64 (Co.costN C i).work)
theorem CostsIn.nil {w : World} : CostsIn w none 0 0 [] := ⟨Nat.le_refl _, by omega, rfl, (fun h => absurd h (Nat.lt_irrefl 0))⟩
theorem CostsIn.below {w w' : World} {a : Option Addr} {len cap : Nat} {C : List Co.Cost} (h : CostsIn w a len cap C) (hb : Below w.heap.size w w') : CostsIn w' a len cap C :=
  ⟨h.le, h.cap_le, h.length, fun h0 => by
    obtain ⟨b, off, rfl, hlt, hc⟩ := h.at_ h0
    refine ⟨b, off, rfl, Nat.lt_of_lt_of_le hlt hb.size, fun i hi => ?_⟩
    obtain ⟨h1, h2, h3⟩ := hc i hi
    exact ⟨(hb.cell (p := ⟨b, _, none⟩) hlt).trans h1, (hb.cell (p := ⟨b, _, none⟩) hlt).trans h2, (hb.cell (p := ⟨b, _, none⟩) hlt).trans h3⟩⟩
def OwnC (base : Nat) (w : World) (v : Value) (C : List Co.Cost) : Prop :=
  ∃ vs : List Value, w.ownsRow base 120 3 v C.length vs ∧ ∀ i, i < C.length → vs[i * 3]? = some (.int .i64 (Co.costN C i).bytes) ∧ vs[i * 3 + 1]? = some (.int .i64 (Co.costN C i).need) ∧ vs[i * 3 + 2]? = some (.int .i64 (Co.costN C i).work)
theorem OwnC.nil (base : Nat) (w : World) : OwnC base w (.slice none 0 0) [] := ⟨[], World.ownsRow_nil w base 120 3, fun _ hi => absurd hi (Nat.not_lt_zero _)⟩
theorem OwnC.below {base : Nat} {w w' : World} {v : Value} {C : List Co.Cost} (h : OwnC base w v C) (hb : Below w.heap.size w w') : OwnC base w' v C := by
  obtain ⟨vs, ⟨h1, h2⟩, h4⟩ := h
  refine ⟨vs, ⟨h1, ?_⟩, h4⟩
  rcases h2 with h2 | ⟨g, cap, cur, hv, hg, hh, r⟩
  · exact .inl h2
  · exact .inr ⟨g, cap, cur, hv, hg, by rw [hb.block g (Array.getElem?_eq_some_iff.1 hh).1]; exact hh, r⟩
theorem OwnC.lt {base : Nat} {w : World} {v : Value} {C : List Co.Cost} (h : OwnC base w v C) : ∀ k, v.ownBlock = some k → base ≤ k ∧ k < w.heap.size := by
  obtain ⟨vs, h1, _⟩ := h
  exact World.ownsRow.lt h1
theorem OwnC.store {base : Nat} {w : World} {v : Value} {C : List Co.Cost} (h : OwnC base w v C) (g o : Nat) (u : Value) (hg : v.ownBlock ≠ some g) : OwnC base (w.setCell ⟨g, o, none⟩ u) v C := by
  obtain ⟨vs, ⟨h1, h2⟩, h4⟩ := h
  refine ⟨vs, ⟨h1, ?_⟩, h4⟩
  rcases h2 with h2 | ⟨g', cap, cur, hv, hg', hh, r⟩
  · exact .inl h2
  · exact .inr ⟨g', cap, cur, hv, hg', by rw [Below.heap_setCell _ _ _ _ (by intro e; simp only at e; subst e; exact hg (by rw [hv]; rfl))]; exact hh, r⟩
theorem OwnC.costs {base : Nat} {w : World} {v : Value} {C : List Co.Cost} (h : OwnC base w v C) : ∃ a len cap, v = .slice a len cap ∧ CostsIn w a len cap C ∧ (a = none → len = 0 ∧ cap = 0) := by
  obtain ⟨vs, ⟨h1, h2⟩, h4⟩ := h
  rcases h2 with ⟨rfl, h0⟩ | ⟨b, cap, cur, rfl, hg, hh, hn, hm, hc, ht⟩
  · have : C = [] := List.eq_nil_of_length_eq_zero h0
    subst this
    exact ⟨none, 0, 0, rfl, CostsIn.nil, fun _ => ⟨rfl, rfl⟩⟩
  · have hlt := (Array.getElem?_eq_some_iff.1 hh).1
    have hcell : ∀ i u, vs[i]? = some u → w.cell? ⟨b, 0 + i, none⟩ = some u := fun i u hu => by
      rw [Nat.zero_add, show w.cell? ⟨b, i, none⟩ = cur[i]? by simp [World.cell?, hh]]
      rw [← ht, List.getElem?_take] at hu
      split at hu
      · simpa using hu
      · cases hu
    refine ⟨_, _, _, rfl, ⟨hn, by unfold maxLen at hm; omega, rfl, fun _ => ⟨b, 0, rfl, hlt, fun i hi => ?_⟩⟩, fun h => by cases h⟩
    obtain ⟨e0, e1, e2⟩ := h4 i hi
    exact ⟨hcell _ _ e0, hcell _ _ e1, hcell _ _ e2⟩
theorem costN_left (C : List Co.Cost) (c : Co.Cost) (i : Nat) (h : i < C.length) : Co.costN (C ++ [c]) i = Co.costN C i := by
  unfold Co.costN; rw [List.getD_eq_getElem?_getD, List.getD_eq_getElem?_getD, List.getElem?_append_left h]
theorem costN_last (C : List Co.Cost) (c : Co.Cost) : Co.costN (C ++ [c]) C.length = c := by
  unfold Co.costN; rw [List.getD_eq_getElem?_getD, List.getElem?_append_right (Nat.le_refl _)]; simp
theorem wpList_appC {ops : Array Oper} {rest : List Oper} {o : Oper} {a : Act} {Q : Exit → Act → World → Prop} (w : World) (hgd : o.guard = none) (s t : Operand)
    (ho : o.op = .call { callee := .builtin .append, args := #[s, t], argTypes := #[68, 68] }) (base : Nat) (v : Value) (C : List Co.Cost) (c : Co.Cost) (hown : OwnC base w v C)
    (hs : a.eval s = v) (ht : a.eval t = .slice (some ⟨w.heap.size, 0, none⟩) 1 1) (hbase : base ≤ w.heap.size) (hlen : C.length ≤ 10000000)
    (hK : ∀ v' w', OwnC base w' v' (C ++ [c]) → Below base w w' → w.grownBy w' v.ownBlock → wpList Tryz.prog ops Q rest (a.put o.dst v') w') :
    wpList Tryz.prog ops Q (o :: rest) a (w.alloc (.cells #[.int .i64 c.bytes, .int .i64 c.need, .int .i64 c.work] 120)) := by
  obtain ⟨i0, hi, hz0, hz1, hz2⟩ := info_parts Tryz.info120
  have hl2 := hown.lt
  obtain ⟨vs, hrow, hvs⟩ := hown
  refine wpList_append_own_at _ hgd s t 68 ho base 120 i0 _ 3 24 Tryz.underlying68 hi hz0 hz1 hz2 rfl (by decide) v C.length vs hs (hrow.alloc _) ⟨w.heap.size, 0, none⟩ 1 1 [.int .i64 c.bytes, .int .i64 c.need, .int .i64 c.work] ht rfl
    (fun j u hu => ?_) (fun u hu => ?_) ?_ ?_ (by simp; omega) ?_
  · rw [Addr.add_lit, World.cell?_alloc_at _ _ _ _ rfl]
    rw [← hu]; simp
  · simp only [List.mem_cons, List.not_mem_nil, or_false] at hu
    rcases hu with rfl | rfl | rfl <;> rfl
  · unfold maxLen; omega
  · omega
  · intro v' w' hown' hgrow _ hob
    have hga : w.grownBy w' v.ownBlock := ⟨hgrow.os, hgrow.tape, hgrow.output, Nat.le_trans (by simp) hgrow.size, fun k hk hn => (hgrow.block k (by simp; omega) hn).trans (Below.heap_alloc _ _ _ hk)⟩
    refine hK v' w' ⟨vs ++ [.int .i64 c.bytes, .int .i64 c.need, .int .i64 c.work], by rw [List.length_append]; exact hown', fun i hil => ?_⟩ ?_ hga
    · have hvl : vs.length = C.length * 3 := hrow.1
      by_cases hlt : i < C.length
      · rw [costN_left _ _ _ hlt]
        obtain ⟨e0, e1, e2⟩ := hvs i hlt
        refine ⟨?_, ?_, ?_⟩ <;> (rw [List.getElem?_append_left (by omega)]; assumption)
      · have he : i = C.length := by rw [List.length_append] at hil; simp at hil; omega
        subst he
        rw [costN_last]
        refine ⟨?_, ?_, ?_⟩ <;> (rw [List.getElem?_append_right (by omega), hvl]; simp [Nat.add_sub_cancel_left])
    · exact (Below.refl base w).grown hga hbase fun k hk => (hl2 k hk).1
set_option maxHeartbeats 1000000 in
theorem clipC_any (a : Option Addr) (len cap : Nat) (w : World) (h1 : len ≤ cap) (h2 : cap ≤ 9223372036854775807) (h3 : a = none → len = 0 ∧ cap = 0) :
    Calls Tryz.prog 124 #[.slice a len cap] w fun e w' => e = .returned (.slice a len len) ∧ w = w' := by
  cases a with
  | none =>
    obtain ⟨rfl, rfl⟩ := h3 rfl
    go_enter Tryz.func124, Tryz.ntmps124
    go_wp2
    go_ret
    exact ⟨rfl, rfl⟩
  | some x =>
    clear h3
    go_enter Tryz.func124, Tryz.ntmps124
    go_wp2
    go_ret
    exact ⟨rfl, rfl⟩
theorem rowL_map (f : Int → List Int) (l : List Int) (i : Nat) (h : i < l.length) : rowL (l.map f) i = f (nth l i) := by
  rw [rowL_eq _ _ (by simpa using h), List.getElem_map, nth_eq l i h]
theorem work_ok {g : List Gr.Node} {s : List (List Int)} (h : Gr.shapes g = some s) {i : Nat} (hi : i < g.length) : WorkOk (nodeN g i) (Gr.size (rowL s i)) ((nodeN g i).inn.map (Gr.rowAt s)) := by
  have hsz := Co.size_bounds h hi
  have hsl := Gr.shapes_len h
  obtain ⟨k, h1, h2, h3, h4⟩ := Gr.run_node (Gr.shapes_iff.1 h).2.1 i hi
  obtain ⟨p1, p2, p3, p4, _⟩ := Gr.ofB_parts h2
  have hch := Gr.shapes_chk h i (by omega)
  have hin := (Co.inn_of h hi).2
  have hrow : ∀ v ∈ (nodeN g i).inn, Gr.rowAt (s.take i) v = Gr.rowAt s v := fun v hv => by
    obtain ⟨a0, a1⟩ := hin v hv
    obtain ⟨n, rfl⟩ : ∃ n : Nat, v = (n : Int) := ⟨v.toNat, by omega⟩
    rw [Gr.rowAt_nat, Gr.rowAt_nat]
    unfold rowL
    simp only [List.getD_eq_getElem?_getD, List.getElem?_take]
    rw [if_pos (by omega)]
  rw [h4] at hch
  unfold Gr.shapeOf at hch
  have h64 : ∀ (l : List Int) (j : Nat), Gr.chk l = true → j < l.length → 1 ≤ nth l j ∧ nth l j ≤ 64 := fun l j hc hj => (Gr.chk_parts hc).2.2 _ (nth_mem l j hj)
  have hnil : Gr.chk [] = false := by decide
  refine ⟨by omega, by omega, fun hk => ?_, fun hk => ?_, fun hk => ?_, fun hk => ?_⟩
  · rw [hk] at h1
    have hkk : k = ⟨2, 2, 0, 0, 0, 0⟩ := by simpa [Gr.kindOf] using h1.symm
    subst hkk
    simp only at p1 p2
    simp [hk] at hch
    have n0 := nth_mem (nodeN g i).inn 0 (by omega)
    rw [hrow _ n0, hrow _ (nth_mem (nodeN g i).inn 1 (by omega))] at hch
    rw [rowL_map _ _ _ (by omega)]
    generalize Gr.rowAt s (nth (nodeN g i).inn 0) = a at *
    generalize Gr.rowAt s (nth (nodeN g i).inn 1) = b at *
    unfold Gr.product at hch
    by_cases c1 : Gr.chk a = false ∨ Gr.chk b = false
    · rw [if_pos c1, hnil] at hch; cases hch
    rw [if_neg c1] at hch
    by_cases c2 : a.length ≠ 2 ∨ b.length ≠ 2 ∨ nth a 1 ≠ nth b 0
    · rw [if_pos c2, hnil] at hch; cases hch
    have ha : Gr.chk a = true := by
      cases hc : Gr.chk a with
      | true => rfl
      | false => exact absurd (.inl hc) c1
    have hal : a.length = 2 := by omega
    have := h64 a 1 ha (by omega)
    exact ⟨by simp; omega, by omega, by omega, by omega⟩
  · rw [hk] at h1
    have hkk : k = ⟨2, 2, 1, 8, 8, 0⟩ := by simpa [Gr.kindOf] using h1.symm
    subst hkk
    simp only at p1 p2
    simp [hk] at hch
    rw [hrow _ (nth_mem (nodeN g i).inn 0 (by omega)), hrow _ (nth_mem (nodeN g i).inn 1 (by omega))] at hch
    rw [rowL_map _ _ _ (by omega)]
    generalize Gr.rowAt s (nth (nodeN g i).inn 0) = a at *
    generalize Gr.rowAt s (nth (nodeN g i).inn 1) = b at *
    unfold Gr.window at hch
    by_cases c1 : Gr.chk a = false ∨ Gr.chk b = false ∨ (nodeN g i).n < 1 ∨ 8 < (nodeN g i).n ∨ (nodeN g i).pad < 0 ∨ 8 < (nodeN g i).pad
    · rw [if_pos c1, hnil] at hch; cases hch
    have hb : Gr.chk b = true := by
      cases hc : Gr.chk b with
      | true => rfl
      | false => exact absurd (.inr (.inl hc)) c1
    have hbl := (Gr.chk_parts hb).1
    have := h64 b 0 hb (by omega)
    exact ⟨by simp; omega, by omega, by omega, by omega⟩
  · rw [hk] at h1
    have hkk : k = ⟨1, 1, 1, 64, 0, 0⟩ := by simpa [Gr.kindOf] using h1.symm
    subst hkk
    simp only at p3 p4
    omega
  · rw [hk] at h1
    have hkk : k = ⟨1, 1, 0, 3, 0, 0⟩ := by simpa [Gr.kindOf] using h1.symm
    subst hkk
    simp only at p1
    simp
    omega
end Go.Proofs.YtekejcnphmnidaaGreatDoor

