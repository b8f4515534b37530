import Derived.Test.YtekejcnphmnidaaGreatDoorZGrShape
import Derived.Test.YtekejcnphmnidaaGreatDoorZBe
import Derived.Test.YtekejcnphmnidaaGreatDoorZBa
import Derived.Test.YtekejcnphmnidaaGreatDoorZBf
namespace Go.Proofs.YtekejcnphmnidaaGreatDoor
open Go.RowKit Go.MapKept
theorem clipG_any (a : Option Addr) (len cap : Nat) (w : World) (h1 : len ≤ cap) (h2 : cap ≤ 9223372036854775807) (h3 : a = none → len = 0 ∧ cap = 0) :
    Calls Tryz.prog 115 #[.slice a len cap] w fun e w' => e = .returned (.slice a len len) ∧ w = w' := by
  cases a with
  | none =>
    obtain ⟨rfl, rfl⟩ := h3 rfl
    go_enter Tryz.func115, Tryz.ntmps115
    go_wp2
    go_ret
    exact ⟨rfl, rfl⟩
  | some x =>
    clear h3
    go_enter Tryz.func115, Tryz.ntmps115
    go_wp2
    go_ret
    exact ⟨rfl, rfl⟩
def outK (k : Nat) (n : Int) : Bool := decide (n < 0) || decide ((k : Int) ≤ n)
theorem shapes1_any (g k : Nat) (n : Int) (w : World) (hc : w.cell? ⟨g, 0, none⟩ = some (.int .i64 k)) : Calls Tryz.prog 111 #[.int .i64 n, .pointer (some ⟨g, 0, none⟩)] w fun e w' => e = .returned (.bool (outK k n)) ∧ w' = w := by
  by_cases c : n < 0
  · have d1 : decide (n < 0) = true := decide_eq_true c
    have HR := Lib.hid (show outK k n = true by unfold outK; rw [d1]; rfl)
    go_enter Tryz.func111, Tryz.ntmps111
    go_wp2
    go_ret
    exact ⟨by rw [HR.out]; rfl, rfl⟩
  · have d1 : decide (n < 0) = false := decide_eq_false c
    have HR := Lib.hid (show outK k n = decide ((k : Int) ≤ n) by unfold outK; rw [d1]; rfl)
    go_enter Tryz.func111, Tryz.ntmps111
    go_wp2
    go_ret
    exact ⟨by rw [HR.out]; rfl, rfl⟩
theorem okIn_any (x : Gr.Node) (k : Nat) : Gr.okIn x k = !anyB (outK k) x.inn := by
  unfold Gr.okIn anyB
  rw [Bool.eq_iff_iff]
  simp only [List.all_eq_true, Bool.and_eq_true, decide_eq_true_eq, Bool.not_eq_true', List.any_eq_false, outK, Bool.or_eq_true]
  constructor
  · intro h v hv hn
    have := h v hv
    omega
  · intro h v hv
    have := h v hv
    omega
theorem predAt_out (g k : Nat) (B : World) (hg : g < B.heap.size) (hc : B.cell? ⟨g, 0, none⟩ = some (.int .i64 k)) : PredAt 111 #[.pointer (some ⟨g, 0, none⟩)] (outK k) B := fun w hw x _ _ =>
  (shapes1_any g k x w ((hw.cell (p := ⟨g, 0, none⟩) hg).trans hc)).mono fun e w' ⟨he, hw'⟩ => ⟨he, by rw [hw']; exact Below.refl _ _⟩
theorem KindsMap.absent {w : World} {r : Nat} (h : KindsMap w r) {k : Int} (hk : Gr.kindOf k = none) :
    (Instr.lookup 97 (.map (some r)) (.int .u8 k) true).run Tryz.prog w = .ok (.tuple #[.agg #[.int .i64 0, .int .i64 0, .int .i64 0, .int .i64 0, .int .i64 0, .int .i64 0], .bool false]) w := by
  obtain ⟨es, clock, h1, h2, h3⟩ := h
  have hkey := isKey_u8 k
  rcases findNow_spec hkey es.toList 0 (fun e he => by obtain ⟨j, _, hj, _⟩ := h2 e he; rw [hj]; exact isKey_u8 j) with ⟨hf, _⟩ | ⟨j, e, hf, hj, he⟩
  · simp [Instr.lookup, run_underlying Tryz.under97, Go.MapKept.run_getObj_map h1, run_checkKey Tryz.under101 hkey, run_findKey Tryz.under101 hf, Result.andThen]
  · obtain ⟨k', kd', hk1, hk2, hv⟩ := h2 e (List.mem_of_getElem? hj)
    rw [he] at hk1
    simp only [Value.int.injEq, true_and] at hk1
    subst hk1
    rw [hk] at hk2
    cases hk2
namespace Gr
theorem inputs_snoc (g : List Node) (k : Nat) (hk : k < g.length) : inputs (g.take (k + 1)) = inputs (g.take k) + if (nodeN g k).kind = 1 then 1 else 0 := by
  rw [List.take_succ_eq_append_getElem hk, inputs_append, nodeN_eq g k hk]; rfl
theorem shapes_fail {g : List Node} {k : Nat} (hk : k < g.length) {M : List (List Int)} (h : run [] (g.take k) = some M) (hs : step M (nodeN g k) = none) : shapes g = none := by
  have := run_fail hk h (by rw [← nodeN_eq g k hk]; exact hs)
  unfold shapes
  split
  · rfl
  · rw [this]
theorem run_more' {g : List Node} {k : Nat} (hk : k < g.length) {M : List (List Int)} {s : List Int} (h : run [] (g.take k) = some M) (hs : step M (nodeN g k) = some s) : run [] (g.take (k + 1)) = some (M ++ [s]) :=
  run_more hk h (by rw [← nodeN_eq g k hk]; exact hs)
end Gr
end Go.Proofs.YtekejcnphmnidaaGreatDoor
namespace Go.Proofs.YtekejcnphmnidaaGreatDoor
namespace Gr
theorem shapes_iff {g : List Node} {s : List (List Int)} : shapes g = some s ↔ (1 ≤ g.length ∧ g.length ≤ 32) ∧ run [] g = some s ∧ inputs g = 1 ∧ endB g = true := by
  unfold shapes
  constructor
  · intro h
    split at h
    · cases h
    · rename_i hl
      split at h
      · cases h
      · rename_i L hr
        split at h
        · rename_i hc
          cases h
          exact ⟨by omega, hr, hc.1, hc.2⟩
        · cases h
  · rintro ⟨hl, hr, h1, h2⟩
    rw [if_neg (by omega), hr]
    simp only
    rw [if_pos ⟨h1, h2⟩]
theorem endB_take {g : List Node} {n : Nat} (h1 : 1 ≤ n) (hn : n ≤ g.length) : endB (g.take n) = decide ((nodeN g (n - 1)).kind ≠ 1 ∧ (nodeN g (n - 1)).kind ≠ 2) := by
  obtain ⟨m, rfl⟩ : ∃ m, n = m + 1 := ⟨n - 1, by omega⟩
  unfold endB
  rw [List.take_succ_eq_append_getElem (by omega), List.getLast?_append, nodeN_eq g _ (by omega)]
  simp
theorem shapes_len {g : List Node} {s : List (List Int)} (h : shapes g = some s) : s.length = g.length := by
  have := run_length _ _ _ (shapes_iff.1 h).2.1
  simpa using this
theorem shapes_chk {g : List Node} {s : List (List Int)} (h : shapes g = some s) (i : Nat) (hi : i < s.length) : chk (rowL s i) = true :=
  run_chk _ _ _ (shapes_iff.1 h).2.1 (fun _ h => by cases h) _ (rowL_mem s i hi)
theorem rowAt_nat (L : List (List Int)) (k : Nat) : rowAt L (k : Int) = rowL L k := by unfold rowAt rowL; rfl
theorem run_node {g : List Node} {s : List (List Int)} (h : run [] g = some s) (i : Nat) (hi : i < g.length) :
    ∃ k, kindOf (nodeN g i).kind = some k ∧ ofB k (nodeN g i) = true ∧ okIn (nodeN g i) i = true ∧ rowL s i = shapeOf (nodeN g i) (s.take i) := by
  have hp := run_prefix h i (by omega)
  have hp1 := run_prefix h (i + 1) (by omega)
  have hl := run_length _ _ _ h
  simp only [List.length_nil, Nat.zero_add] at hl
  rw [List.take_succ_eq_append_getElem hi, run_snoc, hp] at hp1
  simp only at hp1
  cases hs : step (s.take i) g[i] with
  | none => rw [hs] at hp1; cases hp1
  | some t =>
    rw [hs] at hp1
    simp only [Option.some.injEq] at hp1
    obtain ⟨k, h1, h2, h3, h4, h5⟩ := step_some hs
    rw [nodeN_eq g i hi]
    refine ⟨k, h1, h2, by simpa [List.length_take, Nat.min_eq_left (show i ≤ s.length by omega)] using h3, ?_⟩
    rw [← h5]
    have h6 : rowL (s.take (i + 1)) i = t := by
      rw [← hp1]
      have := rowL_snoc_last (s.take i) t
      rwa [List.length_take, Nat.min_eq_left (by omega)] at this
    rw [← h6]
    unfold rowL
    simp only [List.getD_eq_getElem?_getD, List.getElem?_take, Nat.lt_succ_self, if_true]
end Gr
end Go.Proofs.YtekejcnphmnidaaGreatDoor
namespace Go.Proofs.YtekejcnphmnidaaGreatDoor
open Go.RowKit
def OwnS (D : Nat → Prop) (base z : Nat) (w : World) (v : Value) (L : List (List Int)) : Prop :=
  ∃ vs : List Value, w.ownsRow base 22 1 v vs.length vs ∧ vs.length = L.length ∧ (vs.filterMap Value.ownBlock).Nodup ∧
    ∀ i, i < L.length → ∃ a len, vs[i]? = some (.slice a len len) ∧ Ints w a len len (rowL L i) ∧ RowV 1 w (.slice a len len) len ((rowL L i).map (Value.int .i64)) ∧ ∀ p, a = some p → some p.block ≠ v.ownBlock ∧ D p.block ∧ p.block < z
theorem OwnS.toD {D : Nat → Prop} {base z : Nat} {w : World} {v : Value} {L : List (List Int)} (h : OwnS D base z w v L) : OwnD D base w v L := by
  obtain ⟨vs, h1, h2, _, h4⟩ := h
  refine ⟨vs, h1, h2, fun i hi => ?_⟩
  obtain ⟨a, len, e, hI, _, hn⟩ := h4 i hi
  exact ⟨a, len, len, e, hI, fun p hp _ => ⟨(hn p hp).1, (hn p hp).2.1⟩⟩
theorem OwnS.nil (D : Nat → Prop) (base z : Nat) (w : World) : OwnS D base z w (.slice none 0 0) [] := ⟨[], World.ownsRow_nil w base 22 1, rfl, List.nodup_nil, fun _ hi => absurd hi (Nat.not_lt_zero _)⟩
theorem OwnS.below {D : Nat → Prop} {base z : Nat} {w w' : World} {v : Value} {L : List (List Int)} (h : OwnS D base z w v L) (hb : Below w.heap.size w w') : OwnS D base z w' v L := by
  obtain ⟨vs, ⟨h1, h2⟩, h3, hnd, h4⟩ := h
  refine ⟨vs, ⟨h1, ?_⟩, h3, hnd, fun i hi => ?_⟩
  · rcases h2 with h2 | ⟨g, cap, cur, hv, hg, hh, r⟩
    · exact .inl h2
    · exact .inr ⟨g, cap, cur, hv, hg, by rw [hb.block g (Array.getElem?_eq_some_iff.1 hh).1]; exact hh, r⟩
  · obtain ⟨a, len, e, hI, hR, hn⟩ := h4 i hi
    exact ⟨a, len, e, hI.below hb, hR.keep hb.size (fun k hk => hb.block k (hR.lt k hk)), hn⟩
theorem OwnS.store {D : Nat → Prop} {base z : Nat} {w : World} {v : Value} {L : List (List Int)} (h : OwnS D base z w v L) (g o : Nat) (u : Value) (hg : g < base) (hD : ∀ b, D b → b ≠ g) : OwnS D base z (w.setCell ⟨g, o, none⟩ u) v L := by
  obtain ⟨vs, ⟨h1, h2⟩, h3, hnd, h4⟩ := h
  refine ⟨vs, ⟨h1, ?_⟩, h3, hnd, fun i hi => ?_⟩
  · rcases h2 with h2 | ⟨g', cap, cur, hv, hg', hh, r⟩
    · exact .inl h2
    · exact .inr ⟨g', cap, cur, hv, hg', by rw [Below.heap_setCell _ _ _ _ (by intro e; simp only at e; omega)]; exact hh, r⟩
  · obtain ⟨a, len, e, hI, hR, hn⟩ := h4 i hi
    refine ⟨a, len, e, ⟨hI.le, hI.cap_le, hI.length, hI.wf, fun h0 => ?_⟩, hR.keep (by simp [World.setCell]) (fun k hk => ?_), hn⟩
    · obtain ⟨b, off, rfl, hlt, hc⟩ := hI.at_ h0
      have hne := hD _ (hn _ rfl).2.1
      refine ⟨b, off, rfl, by simp [World.setCell]; exact hlt, fun j hj => ?_⟩
      rw [World.cell?_setCell_other _ _ _ _ (by intro e'; simp only [Addr.mk.injEq] at e'; exact hne e'.1.symm)]
      exact hc j hj
    · cases a with
      | none => cases hk
      | some p =>
        cases hk
        have hne := hD _ (hn _ rfl).2.1
        exact Below.heap_setCell _ _ _ _ (by intro e'; simp only at e'; exact hne e')
theorem OwnS.up {D : Nat → Prop} {base z z' : Nat} {w : World} {v : Value} {L : List (List Int)} (h : OwnS D base z w v L) (hz : z ≤ z') : OwnS D base z' w v L := by
  obtain ⟨vs, h1, h2, h3, h4⟩ := h
  refine ⟨vs, h1, h2, h3, fun i hi => ?_⟩
  obtain ⟨a, len, e, hI, hR, hn⟩ := h4 i hi
  exact ⟨a, len, e, hI, hR, fun p hp => ⟨(hn p hp).1, (hn p hp).2.1, Nat.lt_of_lt_of_le (hn p hp).2.2 hz⟩⟩
theorem OwnS.lt {D : Nat → Prop} {base z : Nat} {w : World} {v : Value} {L : List (List Int)} (h : OwnS D base z w v L) : ∀ k, v.ownBlock = some k → base ≤ k ∧ k < w.heap.size := h.toD.lt
theorem OwnS.grid {D : Nat → Prop} {base z : Nat} {w : World} {v : Value} {L : List (List Int)} (h : OwnS D base z w v L) : ∃ a len cap, v = .slice a len cap ∧ Grid w a len cap L ∧ ((a = none ∧ len = 0 ∧ cap = 0) ∨ ∃ g, a = some ⟨g, 0, none⟩ ∧ base ≤ g) := h.toD.grid
theorem wpList_appS {D : Nat → Prop} {ops : Array Oper} {rest : List Oper} {o : Oper} {a : Act} {Q : Exit → Act → World → Prop} (w : World) (hgd : o.guard = none) (s t : Operand)
    (ho : o.op = .call { callee := .builtin .append, args := #[s, t], argTypes := #[59, 59] }) (base z : Nat) (v : Value) (L : List (List Int)) (ax : Option Addr) (lx : Nat) (x : List Int)
    (hown : OwnS D base z w v L) (hx : Ints w ax lx lx x) (hr : RowV 1 w (.slice ax lx lx) lx (x.map (Value.int .i64))) (hxn : ∀ p, ax = some p → some p.block ≠ v.ownBlock ∧ D p.block ∧ z ≤ p.block) (_ : z ≤ w.heap.size)
    (hs : a.eval s = v) (ht : a.eval t = .slice (some ⟨w.heap.size, 0, none⟩) 1 1) (hb : base ≤ w.heap.size) (hlen : L.length < 1099511627776)
    (h : ∀ v' w', OwnS D base w.heap.size w' v' (L ++ [x]) → Below base w w' → w.grownBy w' v.ownBlock → wpList Tryz.prog ops Q rest (a.put o.dst v') w') :
    wpList Tryz.prog ops Q (o :: rest) a (w.alloc (.cells #[.slice ax lx lx] 22)) := by
  obtain ⟨i0, hi, hz0, hz1, hz2⟩ := info_parts Tryz.info22
  obtain ⟨vs, hrow, hvl, hnd, hrows⟩ := hown
  have hrow1 : (w.alloc (.cells #[.slice ax lx lx] 22)).ownsRow base 22 1 v vs.length vs := hrow.alloc _
  refine wpList_append_own_at _ hgd s t 59 ho base 22 i0 (.slice none 0 0) 1 24 Tryz.underlying59 hi hz0 hz1 hz2 rfl (by decide) v vs.length vs hs hrow1 ⟨w.heap.size, 0, none⟩ 1 1 [.slice ax lx lx] ht rfl (cell_one_new _ _ _) ?_ ?_ ?_ ?_ ?_
  · intro u hu; simp at hu; subst hu; rfl
  · unfold maxLen; omega
  · omega
  · simp; omega
  · intro v' w' hown' hgrow _ hblk
    have hgw : w.grownBy w' v.ownBlock := ⟨hgrow.os, hgrow.tape, hgrow.output, Nat.le_trans (by simp) hgrow.size, fun k hk hn => (hgrow.block k (by simp; omega) hn).trans (Below.heap_alloc _ _ _ hk)⟩
    have hltb : ∀ p : Addr, p.block < w.heap.size → some p.block ≠ v.ownBlock → some p.block ≠ v'.ownBlock := fun p hp hn e => by
      rcases hblk with hb1 | hb1
      · exact hn (e.trans hb1)
      · rw [hb1] at e; simp at e; omega
    refine h v' w' ⟨vs ++ [.slice ax lx lx], by simpa using hown', by simp [hvl], ?_, fun i hi => ?_⟩ ?_ hgw
    · rw [List.filterMap_append, List.nodup_append]
      refine ⟨hnd, ?_, fun u hu y hy e => ?_⟩
      · cases ax with
        | none => exact List.nodup_nil
        | some p => exact List.nodup_cons.2 ⟨List.not_mem_nil, List.nodup_nil⟩
      · cases ax with
        | none => cases hy
        | some p =>
          have hy2 : y = p.block := by simpa [List.filterMap, Value.ownBlock] using hy
          obtain ⟨q, hq1, hq2⟩ := List.mem_filterMap.1 hu
          obtain ⟨i, hi, hqi⟩ := List.getElem_of_mem hq1
          obtain ⟨ai, li, e1, _, _, hn⟩ := hrows i (by omega)
          rw [List.getElem?_eq_getElem hi, Option.some.injEq, hqi] at e1
          rw [e1] at hq2
          cases ai with
          | none => cases hq2
          | some pi =>
            have h1 := (hn pi rfl).2.2
            have h2 := (hxn p rfl).2.2
            have h3 : pi.block = u := Option.some.inj hq2
            omega
    · by_cases hlt : i < L.length
      · obtain ⟨ai, li, e, hI, hR, hn⟩ := hrows i hlt
        refine ⟨ai, li, by rw [List.getElem?_append_left (by omega)]; exact e, ?_, ?_, fun p hp => ?_⟩
        · rw [rowL_snoc_lt _ _ _ hlt]; exact hI.grown hgw (fun p hp _ => (hn p hp).1)
        · rw [rowL_snoc_lt _ _ _ hlt]
          refine hR.keep hgw.size (fun k hk => hgw.block k (hR.lt k hk) ?_)
          cases ai with
          | none => cases hk
          | some p => cases hk; exact (hn p rfl).1
        · subst hp
          obtain ⟨hn1, hn2, hn3⟩ := hn p rfl
          have hlt' := hR.lt p.block rfl
          exact ⟨hltb _ hlt' hn1, hn2, hlt'⟩
      · have : i = L.length := by simp at hi; omega
        subst this
        refine ⟨ax, lx, by rw [← hvl]; simp, ?_, ?_, fun p hp => ?_⟩
        · rw [rowL_snoc_last]; exact hx.grown hgw (fun p hp _ => (hxn p hp).1)
        · rw [rowL_snoc_last]
          refine hr.keep hgw.size (fun k hk => hgw.block k (hr.lt k hk) ?_)
          cases ax with
          | none => cases hk
          | some p => cases hk; exact (hxn p rfl).1
        · subst hp
          obtain ⟨hn1, hn2, _⟩ := hxn p rfl
          have hlt' := hr.lt p.block rfl
          exact ⟨hltb _ hlt' hn1, hn2, hlt'⟩
    · refine ((Below.refl base w).alloc hb _).grown hgrow (by simp; omega) ?_
      intro k hk
      exact (World.ownsRow.lt hrow k hk).1
def GridS (base : Nat) (w : World) (v : Value) (L : List (List Int)) : Prop :=
  ∃ vs : List Value, RowV 1 w v L.length vs ∧ vs.length = L.length ∧ (vs.filterMap Value.ownBlock).Nodup ∧ (∀ k, v.ownBlock = some k → base ≤ k) ∧
    ∀ i, i < L.length → ∃ a len, vs[i]? = some (.slice a len len) ∧ Ints w a len len (rowL L i) ∧ RowV 1 w (.slice a len len) len ((rowL L i).map (Value.int .i64)) ∧ ∀ p, a = some p → some p.block ≠ v.ownBlock ∧ base ≤ p.block
theorem OwnS.gridS {base b0 z : Nat} {w : World} {a : Option Addr} {len cap : Nat} {L : List (List Int)} (h : OwnS (fun b => b0 < b) base z w (.slice a len cap) L) (hb : b0 ≤ base) : len = L.length ∧ GridS b0 w (.slice a len len) L := by
  obtain ⟨vs, h1, h2, h3, h4⟩ := h
  have hr := RowV.of_owns h1
  obtain ⟨e, hr2⟩ := hr.clip
  have ob : Value.ownBlock (.slice a len len) = Value.ownBlock (.slice a len cap) := by cases a <;> rfl
  refine ⟨by omega, vs, by rw [← h2, e]; exact hr2, h2, h3, fun k hk => Nat.le_trans hb ((World.ownsRow.lt h1) k (ob ▸ hk)).1, fun i hi => ?_⟩
  obtain ⟨ai, li, e1, hI, hR, hn⟩ := h4 i hi
  exact ⟨ai, li, e1, hI, hR, fun p hp => ⟨by rw [ob]; exact (hn p hp).1, Nat.le_of_lt (hn p hp).2.1⟩⟩
theorem GridS.low {b0 base : Nat} {w : World} {v : Value} {L : List (List Int)} (h : GridS base w v L) (hb : b0 ≤ base) : GridS b0 w v L := by
  obtain ⟨vs, h1, h2, h3, h4, h5⟩ := h
  refine ⟨vs, h1, h2, h3, fun k hk => Nat.le_trans hb (h4 k hk), fun i hi => ?_⟩
  obtain ⟨a, len, e, hI, hR, hn⟩ := h5 i hi
  exact ⟨a, len, e, hI, hR, fun p hp => ⟨(hn p hp).1, Nat.le_trans hb (hn p hp).2⟩⟩
def ShapesE (w : World) (g : List Gr.Node) (e : Ending) (w' : World) : Prop :=
  Below w.heap.size w w' ∧ ((Gr.shapes g = none ∧ e = .returned (.tuple #[.slice none 0 0, .int .i64 1])) ∨ ∃ s a len, Gr.shapes g = some s ∧ e = .returned (.tuple #[.slice a len len, .int .i64 0]) ∧ Grid w' a len len s)
def ShapesS (w : World) (g : List Gr.Node) (e : Ending) (w' : World) : Prop :=
  Below w.heap.size w w' ∧ ((Gr.shapes g = none ∧ e = .returned (.tuple #[.slice none 0 0, .int .i64 1])) ∨ ∃ s a len, Gr.shapes g = some s ∧ e = .returned (.tuple #[.slice a len len, .int .i64 0]) ∧ Grid w' a len len s ∧ GridS w.heap.size w' (.slice a len len) s)
set_option maxHeartbeats 4000000 in
set_option maxRecDepth 100000 in
theorem gshapesS_any (a : Option Addr) (len cap : Nat) (g : List Gr.Node) (w : World) (HN : Nodes w a len cap g) :
    Calls Tryz.prog 19 #[.agg #[.slice a len cap]] w fun e w' => ShapesS w g e w' := by
  have KN := Lib.hid HN
  have LN := Lib.hid HN.length
  have hle := HN.le
  have hcl := HN.cap_le
  clear HN
  by_cases c1 : len < 1
  · have d1 : decide ((len : Int) < 1) = true := decide_eq_true (by omega)
    have HR := Lib.hid (show Gr.shapes g = none by unfold Gr.shapes; rw [if_pos (.inl (by rw [LN.out]; exact c1))])
    clear c1
    go_enter Tryz.func19, Tryz.ntmps19
    go_wp2
    go_ret2
    exact ⟨(Below.refl _ _).alloc (Nat.le_refl _) _, .inl ⟨HR.out, rfl⟩⟩
  · have d1 : decide ((len : Int) < 1) = false := decide_eq_false (by omega)
    by_cases c2 : 32 < len
    · have d2 : decide ((len : Int) > 32) = true := decide_eq_true (by omega)
      have HR := Lib.hid (show Gr.shapes g = none by unfold Gr.shapes; rw [if_pos (.inr (by rw [LN.out]; exact c2))])
      clear c1 c2
      go_enter Tryz.func19, Tryz.ntmps19
      go_wp2
      go_ret2
      exact ⟨(Below.refl _ _).alloc (Nat.le_refl _) _, .inl ⟨HR.out, rfl⟩⟩
    · have d2 : decide ((len : Int) > 32) = false := decide_eq_false (by omega)
      go_enter Tryz.func19, Tryz.ntmps19
      go_wp2_with fail
      refine (kinds_any _).mono ?_
      rintro e w2 ⟨r, rfl, hr, hK, hb⟩
      have HK := Lib.hid hK
      have HB2 : Hid (Below w.heap.size w w2) := ((Below.refl _ _).alloc (Nat.le_refl _) _).trans (hb.mono (by simp))
      have hz2 : w.heap.size < w2.heap.size := by have := hb.size; simp at this; omega
      have hrz : r < w2.heap.size := by obtain ⟨es, clock, h1, _⟩ := hK; exact (Array.getElem?_eq_some_iff.1 h1).1
      have b0 : w2.cell? ⟨w.heap.size, 0, none⟩ = some (.slice a len cap) := by rw [hb.cell (p := ⟨w.heap.size, 0, none⟩) (by simp), World.cell?_alloc_at _ _ _ _ rfl]; rfl
      clear hK hb hr
      go_wp2
      go_loopg [7, 28] len (fun gg u i wr => ∃ (k : Nat) (L : List (List Int)) (v : Value), k ≤ len ∧ len - k ≤ gg ∧ i = .int .i64 k ∧ u = .int .i64 (Gr.inputs (g.take k) : Nat) ∧ Hid (Gr.run [] (g.take k) = some L) ∧
        Hid (wr.cell? ⟨w2.heap.size, 0, none⟩ = some v) ∧ Hid (wr.frozen? ⟨w2.heap.size, 0, none⟩ = false) ∧ Hid (OwnS (fun b => w2.heap.size < b) (w2.heap.size + 1) wr.heap.size wr v L) ∧ Hid (Below w2.heap.size w2 wr) ∧ Hid (w2.heap.size < wr.heap.size))
      case atStart =>
        exact ⟨0, [], .slice none 0 0, Nat.zero_le _, by omega, rfl, rfl, rfl, by show _ = _; rw [World.cell?_alloc_at _ _ _ _ rfl]; rfl, World.frozen?_alloc_at _ _ _ _ rfl, OwnS.nil _ _ _ _, (Below.refl _ _).alloc (Nat.le_refl _) _, by show _ < _; simp⟩
      case round =>
        obtain ⟨k, L, v, hk, hg, rfl, rfl, HR, HC, HF, HO, HWr, HZ⟩ := hrel
        have HW : Hid (Below w.heap.size w wr) := HB2.out.trans (HWr.out.mono (by omega))
        by_cases hlt : k < len
        · obtain ⟨b, off, rfl, hbl, hcs⟩ := KN.out.at_ (by omega)
          obtain ⟨ai, li, ci, sa, ls, cs, h0, h1, h2, h3, h4, hV⟩ := hcs k hlt
          have HV : Hid (NodeV wr ai li ci sa ls cs ⟨(nodeN g k).kind, (nodeN g k).inn, (nodeN g k).shape, (nodeN g k).n, (nodeN g k).pad⟩) := hV.below HW.out
          have n0 := (HW.out.cell (p := ⟨b, off + k * 5, none⟩) hbl).trans h0
          have n1 := (HW.out.cell (p := ⟨b, off + k * 5 + 1, none⟩) hbl).trans h1
          have n2 := (HW.out.cell (p := ⟨b, off + k * 5 + 2, none⟩) hbl).trans h2
          have n3 := (HW.out.cell (p := ⟨b, off + k * 5 + 3, none⟩) hbl).trans h3
          have n4 := (HW.out.cell (p := ⟨b, off + k * 5 + 4, none⟩) hbl).trans h4
          have hkd := hV.kind
          clear hcs h0 h1 h2 h3 h4 hV
          have HX : Hid (nodeN g k = ⟨(nodeN g k).kind, (nodeN g k).inn, (nodeN g k).shape, (nodeN g k).n, (nodeN g k).pad⟩) := rfl
          generalize (nodeN g k).kind = kd at *
          generalize (nodeN g k).n = nn at *
          generalize (nodeN g k).pad = pad at *
          have HB3 : Hid (Below wr.heap.size wr ((wr.alloc (.cells #[.int .i64 k] 3)).alloc (.cells #[.int .u8 kd, .slice ai li ci, .slice sa ls cs, .int .i64 nn, .int .i64 pad] 103))) := ((Below.refl _ _).alloc (Nat.le_refl _) _).alloc (by simp) _
          have hz3 : ((wr.alloc (.cells #[.int .i64 k] 3)).alloc (.cells #[.int .u8 kd, .slice ai li ci, .slice sa ls cs, .int .i64 nn, .int .i64 pad] 103)).heap.size = wr.heap.size + 2 := by simp
          have i0 : ((wr.alloc (.cells #[.int .i64 k] 3)).alloc (.cells #[.int .u8 kd, .slice ai li ci, .slice sa ls cs, .int .i64 nn, .int .i64 pad] 103)).cell? ⟨wr.heap.size, 0, none⟩ = some (.int .i64 k) := Lib.cell?_alloc_some _ (by rw [World.cell?_alloc_at _ _ _ _ rfl]; rfl)
          have x0 : ((wr.alloc (.cells #[.int .i64 k] 3)).alloc (.cells #[.int .u8 kd, .slice ai li ci, .slice sa ls cs, .int .i64 nn, .int .i64 pad] 103)).cell? ⟨wr.heap.size + 1, 0, none⟩ = some (.int .u8 kd) := by rw [World.cell?_alloc_at _ _ _ _ (by simp)]; rfl
          have x1 : ((wr.alloc (.cells #[.int .i64 k] 3)).alloc (.cells #[.int .u8 kd, .slice ai li ci, .slice sa ls cs, .int .i64 nn, .int .i64 pad] 103)).cell? ⟨wr.heap.size + 1, 1, none⟩ = some (.slice ai li ci) := by rw [World.cell?_alloc_at _ _ _ _ (by simp)]; rfl
          have x2 : ((wr.alloc (.cells #[.int .i64 k] 3)).alloc (.cells #[.int .u8 kd, .slice ai li ci, .slice sa ls cs, .int .i64 nn, .int .i64 pad] 103)).cell? ⟨wr.heap.size + 1, 2, none⟩ = some (.slice sa ls cs) := by rw [World.cell?_alloc_at _ _ _ _ (by simp)]; rfl
          have x3 : ((wr.alloc (.cells #[.int .i64 k] 3)).alloc (.cells #[.int .u8 kd, .slice ai li ci, .slice sa ls cs, .int .i64 nn, .int .i64 pad] 103)).cell? ⟨wr.heap.size + 1, 3, none⟩ = some (.int .i64 nn) := by rw [World.cell?_alloc_at _ _ _ _ (by simp)]; rfl
          have x4 : ((wr.alloc (.cells #[.int .i64 k] 3)).alloc (.cells #[.int .u8 kd, .slice ai li ci, .slice sa ls cs, .int .i64 nn, .int .i64 pad] 103)).cell? ⟨wr.heap.size + 1, 4, none⟩ = some (.int .i64 pad) := by rw [World.cell?_alloc_at _ _ _ _ (by simp)]; rfl
          have I0 := Lib.hid i0
          have X0 := Lib.hid x0
          have X1 := Lib.hid x1
          have X2 := Lib.hid x2
          have X3 := Lib.hid x3
          have X4 := Lib.hid x4
          have Z3 := Lib.hid hz3
          clear i0 x0 x1 x2 x3 x4 hz3
          generalize (nodeN g k).inn = inn at *
          generalize (nodeN g k).shape = shp at *
          go_wp2_with fail
          generalize ((wr.alloc (.cells #[.int .i64 k] 3)).alloc (.cells #[.int .u8 kd, .slice ai li ci, .slice sa ls cs, .int .i64 nn, .int .i64 pad] 103)) = w3 at *
          have i0 := I0.out
          have x0 := X0.out
          have x1 := X1.out
          have x2 := X2.out
          have x3 := X3.out
          have x4 := X4.out
          have hz3 := Z3.out
          clear n0 n1 n2 n3 n4 I0 X0 X1 X2 X3 X4 Z3
          have HK3 := Lib.hid ((HK.out.below HWr.out).below HB3.out)
          cases hkk : Gr.kindOf kd with
          | none =>
            have hlk := HK3.out.absent hkk
            have HST : Hid (Gr.shapes g = none) := Gr.shapes_fail (by rw [LN.out]; exact hlt) HR.out (by rw [HX.out]; unfold Gr.step; simp only [hkk])
            clear hkk
            rw [hlk]
            go_wp2
            go_ret2
            exact ⟨HW.out.trans ((HB3.out.mono HW.out.size).alloc (by have := HW.out.size; omega) _), .inl ⟨HST.out, rfl⟩⟩
          | some kk =>
            have hlk := (HK3.out.there hkk).1
            simp only [kindV] at hlk
            have HKK := Lib.hid hkk
            rw [hlk]
            go_wp2_with fail
            refine (kindof_any kk.least kk.most kk.low kk.high kk.around kk.shaped kd nn pad ai sa li ci ls cs inn shp _ ((HV.out.i.below HB3.out).alloc _) ((HV.out.s.below HB3.out).alloc _)).mono ?_
            rintro e w4 ⟨rfl, hb4⟩
            have HB4 : Hid (Below w3.heap.size w3 w4) := ((Below.refl _ _).alloc (Nat.le_refl _) _).trans (hb4.mono (by simp))
            clear hb4
            cases ho : Gr.ofB ⟨kk.least, kk.most, kk.low, kk.high, kk.around, kk.shaped⟩ ⟨kd, inn, shp, nn, pad⟩ with
            | false =>
              have HST : Hid (Gr.shapes g = none) := Gr.shapes_fail (by rw [LN.out]; exact hlt) HR.out (by rw [HX.out, Gr.step_eq hkk, if_neg (fun h => by rw [show Gr.ofB kk ⟨kd, inn, shp, nn, pad⟩ = false from ho] at h; cases h.1)])
              clear ho hkk
              go_wp2
              go_ret2
              exact ⟨HW.out.trans ((HB3.out.trans (HB4.out.mono (by omega))).mono HW.out.size), .inl ⟨HST.out, rfl⟩⟩
            | true =>
              have ho : Gr.ofB kk ⟨kd, inn, shp, nn, pad⟩ = true := ho
              have y1 := (HB4.out.cell (p := ⟨wr.heap.size + 1, 1, none⟩) (show wr.heap.size + 1 < w3.heap.size by omega)).trans x1
              have HPr := Lib.hid (predAt_out wr.heap.size k w4 (by have := HB4.out.size; omega) ((HB4.out.cell (p := ⟨wr.heap.size, 0, none⟩) (show wr.heap.size < w3.heap.size by omega)).trans i0))
              have HI4 := Lib.hid ((HV.out.i.below HB3.out).below HB4.out)
              have hlen4 : L.length = k := by have := Gr.run_length _ _ _ HR.out; rw [List.length_take, LN.out] at this; simp at this; omega
              have HOK := Lib.hid (okIn_any ⟨kd, inn, shp, nn, pad⟩ k)
              go_wp2_with fail
              refine (containsFunc_any 111 _ (outK k) (enters_of Tryz.func111 (by kernel_rfl) rfl) _ _ _ inn _ HI4.out HPr.out).mono ?_
              rintro e w5 ⟨rfl, hb5⟩
              have HB45 : Hid (Below w3.heap.size w3 w5) := HB4.out.trans (hb5.mono HB4.out.size)
              clear hb5
              cases hany : anyB (outK k) inn with
              | true =>
                have HST : Hid (Gr.shapes g = none) := Gr.shapes_fail (by rw [LN.out]; exact hlt) HR.out (by
                  have h9 : Gr.okIn ⟨kd, inn, shp, nn, pad⟩ L.length = false := by rw [hlen4, HOK.out]; simp [hany]
                  rw [HX.out, Gr.step_eq hkk, if_neg (fun h => by rw [h9] at h; cases h.2.1)])
                clear ho hkk hany
                go_wp2
                go_ret2
                exact ⟨HW.out.trans ((HB3.out.trans (HB45.out.mono (by omega))).mono HW.out.size), .inl ⟨HST.out, rfl⟩⟩
              | false =>
                have hok : Gr.okIn ⟨kd, inn, shp, nn, pad⟩ L.length = true := by rw [hlen4, HOK.out]; simp [hany]
                have y0 := (HB45.out.cell (p := ⟨wr.heap.size + 1, 0, none⟩) (show wr.heap.size + 1 < w3.heap.size by omega)).trans x0
                have y2 := (HB45.out.cell (p := ⟨wr.heap.size + 1, 2, none⟩) (show wr.heap.size + 1 < w3.heap.size by omega)).trans x2
                have y3 := (HB45.out.cell (p := ⟨wr.heap.size + 1, 3, none⟩) (show wr.heap.size + 1 < w3.heap.size by omega)).trans x3
                have y4 := (HB45.out.cell (p := ⟨wr.heap.size + 1, 4, none⟩) (show wr.heap.size + 1 < w3.heap.size by omega)).trans x4
                clear y1
                have y1 := (HB45.out.cell (p := ⟨wr.heap.size + 1, 1, none⟩) (show wr.heap.size + 1 < w3.heap.size by omega)).trans x1
                have HB5 : Hid (Below wr.heap.size wr w5) := HB3.out.trans (HB45.out.mono (by omega))
                have hz5 : wr.heap.size + 2 ≤ w5.heap.size := by have := HB45.out.size; omega
                obtain ⟨aL, lL, cL, rfl, hG, _⟩ := (HO.out.below HB5.out).grid
                have HG5 := Lib.hid hG
                have HCK : Hid (∀ s ∈ L, Gr.chk s = true) := Gr.run_chk _ _ _ HR.out (fun _ h => by cases h)
                have t5 := (HB5.out.cell (p := ⟨w2.heap.size, 0, none⟩) HZ.out).trans HC.out
                clear hG hany x0 x1 x2 x3 x4 i0 hlk HK3
                have HIS := Lib.hid (Gr.inputs_snoc g k (by rw [LN.out]; exact hlt))
                have hinb : Gr.inputs (g.take k) ≤ k := Nat.le_trans (Gr.inputs_le_length (g.take k)) (List.length_take_le _ _)
                rw [HX.out] at HIS
                by_cases hI : kd = 1
                · have dI : (kd == 1) = true := by simp [hI]
                  have HINS : Hid (Value.int IntKind.i64 (((Gr.inputs (g.take k) : Nat) : Int) + 1) = Value.int IntKind.i64 ((Gr.inputs (g.take (k + 1)) : Nat) : Int)) := by
                    show _ = _
                    rw [HIS.out, if_pos hI]; rfl
                  clear hI
                  go_wp2_with fail
                  refine (shape_any ai sa aL li ci ls cs lL cL kd nn pad inn shp kk L _ (HV.out.below HB5.out) (HG5.out) hkk ho hok HCK.out).mono ?_
                  rintro e w6 ⟨a6, n6, rfl, hI6, hfr6, hb6⟩
                  have HI6 := Lib.hid hI6
                  have HB6 : Hid (Below wr.heap.size wr w6) := HB5.out.trans (hb6.mono HB5.out.size)
                  have HFR6 : Hid (∀ p, a6 = some p → wr.heap.size ≤ p.block) := fun p hp => Nat.le_trans HB5.out.size (hfr6.1 p hp)
                  have HRV6 := Lib.hid hfr6.2
                  have hz6 : wr.heap.size ≤ w6.heap.size := HB6.out.size
                  have t6 := (HB6.out.cell (p := ⟨w2.heap.size, 0, none⟩) HZ.out).trans HC.out
                  have q6 := (HB6.out.frozen (p := ⟨w2.heap.size, 0, none⟩) HZ.out).trans HF.out
                  have x0 := (hb6.cell (p := ⟨wr.heap.size + 1, 0, none⟩) (show wr.heap.size + 1 < w5.heap.size by omega)).trans y0
                  clear hI6 hb6 hfr6 y0 y1 y2 y3 y4 t5
                  cases hch : Gr.chk (Gr.shapeOf ⟨kd, inn, shp, nn, pad⟩ L) with
                  | false =>
                    have HST : Hid (Gr.shapes g = none) := Gr.shapes_fail (by rw [LN.out]; exact hlt) HR.out (by rw [HX.out, Gr.step_eq hkk, if_neg (fun h => by rw [h.2.2] at hch; cases hch)])
                    have HCH := Lib.hid hch
                    clear hch ho hok
                    go_wp2_with fail
                    refine (check_any _ _ _ _ _ HI6.out).mono ?_
                    rintro e w7 ⟨rfl, rfl⟩
                    rw [HCH.out]
                    go_wp2
                    go_ret2
                    exact ⟨HW.out.trans (HB6.out.mono HW.out.size), .inl ⟨HST.out, rfl⟩⟩
                  | true =>
                    have HR2 : Hid (Gr.run [] (g.take (k + 1)) = some (L ++ [Gr.shapeOf ⟨kd, inn, shp, nn, pad⟩ L])) := Gr.run_more' (by rw [LN.out]; exact hlt) HR.out (by rw [HX.out, Gr.step_eq hkk, if_pos ⟨ho, hok, hch⟩])
                    have HCH := Lib.hid hch
                    have hLl : L.length = k := by have := Gr.run_length _ _ _ HR.out; rw [List.length_take, LN.out] at this; simp at this; omega
                    have HO6 := Lib.hid (HO.out.below HB6.out)
                    clear hch ho hok
                    generalize Gr.shapeOf ⟨kd, inn, shp, nn, pad⟩ L = S at *
                    go_wp2_with fail
                    refine (check_any _ _ _ S _ HI6.out).mono ?_
                    rintro e w7 ⟨rfl, rfl⟩
                    rw [HCH.out]
                    go_wp2_with (at_builtin; go_must (refine wpList_appS _ rfl _ _ rfl (w2.heap.size + 1) wr.heap.size _ L a6 n6 S HO6.out HI6.out HRV6.out ?q1 hz6 rfl rfl ?q2 ?q3 ?_))
                    case q1 =>
                      intro p hp
                      have h1 := HFR6.out p hp
                      refine ⟨fun e => ?_, by have := HZ.out; omega, h1⟩
                      have h2 := (HO.out.lt _ e.symm).2
                      omega
                    case q2 => have := HZ.out; omega
                    case q3 => omega
                    intro v' w8 hown' hbel hgrow
                    obtain ⟨av, lv, cv, rfl, _, _⟩ := hown'.grid
                    have HZ8 : Hid (w2.heap.size < w8.heap.size) := Nat.lt_of_lt_of_le (Nat.lt_of_lt_of_le HZ.out hz6) hbel.size
                    have t8 := (hbel.cell (p := ⟨w2.heap.size, 0, none⟩) (by simp)).trans t6
                    have q8 := (hbel.frozen (p := ⟨w2.heap.size, 0, none⟩) (by simp)).trans q6
                    have HO8 := Lib.hid (((hown'.store w2.heap.size 0 (.slice av lv cv) (by omega) (fun b hb => by omega))).up (show _ ≤ (w8.setCell ⟨w2.heap.size, 0, none⟩ (.slice av lv cv)).heap.size by simp only [World.setCell]; first | exact hbel.size | simpa [World.setCell] using hbel.size))
                    have HW8 : Hid (Below w2.heap.size w2 (w8.setCell ⟨w2.heap.size, 0, none⟩ (.slice av lv cv))) := below_setCell ((HWr.out.trans (HB6.out.mono (by have := HZ.out; omega))).trans (hbel.mono (by omega))) _ _ _ (Nat.le_refl _)
                    have HC8 : Hid ((w8.setCell ⟨w2.heap.size, 0, none⟩ (.slice av lv cv)).cell? ⟨w2.heap.size, 0, none⟩ = some (.slice av lv cv)) := World.cell?_setCell_same _ _ _ t8
                    have HF8 : Hid ((w8.setCell ⟨w2.heap.size, 0, none⟩ (.slice av lv cv)).frozen? ⟨w2.heap.size, 0, none⟩ = false) := by show _ = _; rw [World.frozen?_setCell]; exact q8
                    have HZ9 : Hid (w2.heap.size < (w8.setCell ⟨w2.heap.size, 0, none⟩ (.slice av lv cv)).heap.size) := by show _ < _; simp [World.setCell]; exact HZ8.out
                    clear hown' hbel hgrow t6 q6
                    go_wp2
                    go_roundg (len - (k + 1))
                    case measure => exact Nat.lt_of_lt_of_le (Nat.sub_lt_sub_left hlt (Nat.lt_succ_self k)) hg
                    case rel => exact ⟨k + 1, L ++ [S], .slice av lv cv, Nat.succ_le_of_lt hlt, Nat.le_refl _, by go_num, by first | exact HINS.out | (rw [← HINS.out]; go_num), HR2, HC8, HF8, HO8, HW8, HZ9⟩
                · have dI : (kd == 1) = false := by simp [hI]
                  have HINS : Hid (Gr.inputs (g.take k) = Gr.inputs (g.take (k + 1))) := by
                    show _ = _
                    rw [HIS.out, if_neg hI]; rfl
                  clear hI
                  go_wp2_with fail
                  refine (shape_any ai sa aL li ci ls cs lL cL kd nn pad inn shp kk L _ (HV.out.below HB5.out) (HG5.out) hkk ho hok HCK.out).mono ?_
                  rintro e w6 ⟨a6, n6, rfl, hI6, hfr6, hb6⟩
                  have HI6 := Lib.hid hI6
                  have HB6 : Hid (Below wr.heap.size wr w6) := HB5.out.trans (hb6.mono HB5.out.size)
                  have HFR6 : Hid (∀ p, a6 = some p → wr.heap.size ≤ p.block) := fun p hp => Nat.le_trans HB5.out.size (hfr6.1 p hp)
                  have HRV6 := Lib.hid hfr6.2
                  have hz6 : wr.heap.size ≤ w6.heap.size := HB6.out.size
                  have t6 := (HB6.out.cell (p := ⟨w2.heap.size, 0, none⟩) HZ.out).trans HC.out
                  have q6 := (HB6.out.frozen (p := ⟨w2.heap.size, 0, none⟩) HZ.out).trans HF.out
                  have x0 := (hb6.cell (p := ⟨wr.heap.size + 1, 0, none⟩) (show wr.heap.size + 1 < w5.heap.size by omega)).trans y0
                  clear hI6 hb6 hfr6 y0 y1 y2 y3 y4 t5
                  cases hch : Gr.chk (Gr.shapeOf ⟨kd, inn, shp, nn, pad⟩ L) with
                  | false =>
                    have HST : Hid (Gr.shapes g = none) := Gr.shapes_fail (by rw [LN.out]; exact hlt) HR.out (by rw [HX.out, Gr.step_eq hkk, if_neg (fun h => by rw [h.2.2] at hch; cases hch)])
                    have HCH := Lib.hid hch
                    clear hch ho hok
                    go_wp2_with fail
                    refine (check_any _ _ _ _ _ HI6.out).mono ?_
                    rintro e w7 ⟨rfl, rfl⟩
                    rw [HCH.out]
                    go_wp2
                    go_ret2
                    exact ⟨HW.out.trans (HB6.out.mono HW.out.size), .inl ⟨HST.out, rfl⟩⟩
                  | true =>
                    have HR2 : Hid (Gr.run [] (g.take (k + 1)) = some (L ++ [Gr.shapeOf ⟨kd, inn, shp, nn, pad⟩ L])) := Gr.run_more' (by rw [LN.out]; exact hlt) HR.out (by rw [HX.out, Gr.step_eq hkk, if_pos ⟨ho, hok, hch⟩])
                    have HCH := Lib.hid hch
                    have hLl : L.length = k := by have := Gr.run_length _ _ _ HR.out; rw [List.length_take, LN.out] at this; simp at this; omega
                    have HO6 := Lib.hid (HO.out.below HB6.out)
                    clear hch ho hok
                    generalize Gr.shapeOf ⟨kd, inn, shp, nn, pad⟩ L = S at *
                    go_wp2_with fail
                    refine (check_any _ _ _ S _ HI6.out).mono ?_
                    rintro e w7 ⟨rfl, rfl⟩
                    rw [HCH.out]
                    go_wp2_with (at_builtin; go_must (refine wpList_appS _ rfl _ _ rfl (w2.heap.size + 1) wr.heap.size _ L a6 n6 S HO6.out HI6.out HRV6.out ?q1 hz6 rfl rfl ?q2 ?q3 ?_))
                    case q1 =>
                      intro p hp
                      have h1 := HFR6.out p hp
                      refine ⟨fun e => ?_, by have := HZ.out; omega, h1⟩
                      have h2 := (HO.out.lt _ e.symm).2
                      omega
                    case q2 => have := HZ.out; omega
                    case q3 => omega
                    intro v' w8 hown' hbel hgrow
                    obtain ⟨av, lv, cv, rfl, _, _⟩ := hown'.grid
                    have HZ8 : Hid (w2.heap.size < w8.heap.size) := Nat.lt_of_lt_of_le (Nat.lt_of_lt_of_le HZ.out hz6) hbel.size
                    have t8 := (hbel.cell (p := ⟨w2.heap.size, 0, none⟩) (by simp)).trans t6
                    have q8 := (hbel.frozen (p := ⟨w2.heap.size, 0, none⟩) (by simp)).trans q6
                    have HO8 := Lib.hid (((hown'.store w2.heap.size 0 (.slice av lv cv) (by omega) (fun b hb => by omega))).up (show _ ≤ (w8.setCell ⟨w2.heap.size, 0, none⟩ (.slice av lv cv)).heap.size by simp only [World.setCell]; first | exact hbel.size | simpa [World.setCell] using hbel.size))
                    have HW8 : Hid (Below w2.heap.size w2 (w8.setCell ⟨w2.heap.size, 0, none⟩ (.slice av lv cv))) := below_setCell ((HWr.out.trans (HB6.out.mono (by have := HZ.out; omega))).trans (hbel.mono (by omega))) _ _ _ (Nat.le_refl _)
                    have HC8 : Hid ((w8.setCell ⟨w2.heap.size, 0, none⟩ (.slice av lv cv)).cell? ⟨w2.heap.size, 0, none⟩ = some (.slice av lv cv)) := World.cell?_setCell_same _ _ _ t8
                    have HF8 : Hid ((w8.setCell ⟨w2.heap.size, 0, none⟩ (.slice av lv cv)).frozen? ⟨w2.heap.size, 0, none⟩ = false) := by show _ = _; rw [World.frozen?_setCell]; exact q8
                    have HZ9 : Hid (w2.heap.size < (w8.setCell ⟨w2.heap.size, 0, none⟩ (.slice av lv cv)).heap.size) := by show _ < _; simp [World.setCell]; exact HZ8.out
                    clear hown' hbel hgrow t6 q6
                    go_wp2
                    go_roundg (len - (k + 1))
                    case measure => exact Nat.lt_of_lt_of_le (Nat.sub_lt_sub_left hlt (Nat.lt_succ_self k)) hg
                    case rel => exact ⟨k + 1, L ++ [S], .slice av lv cv, Nat.succ_le_of_lt hlt, Nat.le_refl _, by go_num, by rw [← HINS.out], HR2, HC8, HF8, HO8, HW8, HZ9⟩
        · obtain rfl : k = len := by omega
          rw [List.take_of_length_le (by rw [LN.out]; omega)] at HR
          have hts : g.take k = g := List.take_of_length_le (by rw [LN.out]; omega)
          rw [hts]
          obtain ⟨aL, lL, cL, rfl, hG, hor⟩ := HO.out.grid
          have HG := Lib.hid hG
          have hgl := hG.le
          have hgc := hG.cap_le
          have hgn : aL = none → lL = 0 ∧ cL = 0 := fun e => by
            rcases hor with ⟨_, h1, h2⟩ | ⟨g', h1, _⟩
            · exact ⟨h1, h2⟩
            · rw [e] at h1; cases h1
          obtain ⟨m, rfl⟩ : ∃ m, k = m + 1 := ⟨k - 1, by omega⟩
          obtain ⟨b, off, rfl, hbl, hcs⟩ := KN.out.at_ (by omega)
          obtain ⟨ai, li, ci, sa, ls, cs, h0, _⟩ := hcs m (by omega)
          have n0 := (HW.out.cell (p := ⟨b, off + m * 5, none⟩) hbl).trans h0
          have r0 := (HWr.out.cell (p := ⟨w.heap.size, 0, none⟩) hz2).trans b0
          have t6 : ∀ o, (wr.alloc o).cell? ⟨w2.heap.size, 0, none⟩ = some (.slice aL lL cL) := fun o => Lib.cell?_alloc_some _ HC.out
          obtain ⟨kk, hkk, _⟩ := Gr.run_node HR.out m (by rw [LN.out]; omega)
          have hlk := ((HK.out.below HWr.out).there hkk).2
          have HM := Lib.hid (Gr.kindOf_most hkk)
          have HS : Hid (Gr.shapes g = if Gr.inputs g = 1 ∧ Gr.endB g = true then some L else none) := by
            show _ = _
            unfold Gr.shapes
            rw [if_neg (by rw [LN.out]; omega), HR.out]
          have HE : Hid (Gr.endB g = decide ((nodeN g m).kind ≠ 1 ∧ (nodeN g m).kind ≠ 2)) := by
            show _ = _
            have := Gr.endB_take (g := g) (n := m + 1) (by omega) (by rw [LN.out]; omega)
            rw [List.take_of_length_le (by rw [LN.out]; omega)] at this
            exact this
          have hI := Gr.inputs_le_length g
          rw [LN.out] at hI
          simp only [kindV] at hlk
          have e1 : (((m + 1 : Nat) : Int) - 1).toNat = m := by omega
          have p1 : (0 : Int) ≤ ((m + 1 : Nat) : Int) - 1 := by omega
          have q1 : ((m + 1 : Nat) : Int) - 1 < ((m + 1 : Nat) : Int) := by omega
          have w1 : IntKind.i64.wrap (((m + 1 : Nat) : Int) - 1) = ((m + 1 : Nat) : Int) - 1 := by rw [IntKind.wrap_i64]; omega
          clear hG hor hcs h0 hkk
          generalize (nodeN g m).kind = kd at *
          generalize Gr.inputs g = ni at *
          by_cases cI : ni = 1
          · have dI : (((ni : Nat) : Int) != 1) = false := by simp; omega
            by_cases cM : kk.most = 0
            · have dM : (kk.most == 0) = true := by simp [cM]
              have HST : Hid (Gr.shapes g = none) := by
                show _ = _
                rw [HS.out, if_neg]
                rintro ⟨_, h⟩
                rw [HE.out] at h
                have h1 := of_decide_eq_true h
                have h2 := HM.out.1 cM
                omega
              clear cM
              go_wp2
              go_ret2
              exact ⟨HW.out.alloc HW.out.size _, .inl ⟨HST.out, rfl⟩⟩
            · have dM : (kk.most == 0) = false := by simp [cM]
              have HST : Hid (Gr.shapes g = some L) := by
                show _ = _
                rw [HS.out, if_pos]
                refine ⟨cI, ?_⟩
                rw [HE.out]
                refine decide_eq_true ⟨fun h => cM (HM.out.2 (.inl h)), fun h => cM (HM.out.2 (.inr h))⟩
              clear cM
              go_wp2_with fail
              refine (clipG_any _ _ _ _ hgl hgc hgn).mono ?_
              rintro e w6 ⟨rfl, rfl⟩
              have HGS := Lib.hid ((HO.out.below ((Below.refl _ wr).alloc (Nat.le_refl _) (.cells #[.int .i64 kk.least, .int .i64 kk.most, .int .i64 kk.low, .int .i64 kk.high, .int .i64 kk.around, .int .i64 kk.shaped] 105))).gridS (Nat.le_succ _))
              have HGf := Lib.hid (HG.out.below ((Below.refl _ wr).alloc (Nat.le_refl _) (.cells #[.int .i64 kk.least, .int .i64 kk.most, .int .i64 kk.low, .int .i64 kk.high, .int .i64 kk.around, .int .i64 kk.shaped] 105)))
              go_wp2
              go_ret2
              exact ⟨HW.out.alloc HW.out.size _, .inr ⟨L, _, _, HST.out, rfl, ⟨Nat.le_refl _, by omega, HGf.out.length, HGf.out.at_⟩, HGS.out.2.low (Nat.le_of_lt hz2)⟩⟩
          · have dI : (((ni : Nat) : Int) != 1) = true := by simp; omega
            have HST : Hid (Gr.shapes g = none) := by
              show _ = _
              rw [HS.out, if_neg (fun h => cI h.1)]
            go_wp2
            go_ret2
            exact ⟨HW.out.alloc HW.out.size _, .inl ⟨HST.out, rfl⟩⟩
theorem gshapes_any (a : Option Addr) (len cap : Nat) (g : List Gr.Node) (w : World) (HN : Nodes w a len cap g) :
    Calls Tryz.prog 19 #[.agg #[.slice a len cap]] w fun e w' => ShapesE w g e w' := by
  refine (gshapesS_any a len cap g w HN).mono ?_
  rintro e w' ⟨hb, h | ⟨s, a, len, h1, h2, h3, _⟩⟩
  · exact ⟨hb, .inl h⟩
  · exact ⟨hb, .inr ⟨s, a, len, h1, h2, h3⟩⟩
end Go.Proofs.YtekejcnphmnidaaGreatDoor
namespace Go.Proofs.YtekejcnphmnidaaGreatDoor
open Go.RowKit
theorem NodesIn.on {w w' : World} {a : Option Addr} {len cap : Nat} {g : List Gr.Node} (h : Nodes w a len cap g) (hb : Below w.heap.size w w') : Nodes w' a len cap g := NodesIn.below h hb hb
theorem gcheck_any (a : Option Addr) (len cap : Nat) (g : List Gr.Node) (w : World) (HN : Nodes w a len cap g) :
    Calls Tryz.prog 23 #[.agg #[.slice a len cap]] w fun e w' => e = .returned (.bool (Gr.shapes g).isSome) ∧ Below w.heap.size w w' := by
  go_enter Tryz.func23, Tryz.ntmps23
  go_wp2_with fail
  refine (gshapes_any _ _ _ g _ (HN.on ((Below.refl _ _).alloc (Nat.le_refl _) _))).mono ?_
  rintro e w1 ⟨hb, ⟨hs, rfl⟩ | ⟨s, a1, l1, hs, rfl, hG⟩⟩
  · have HS := Lib.hid hs
    have HB : Hid (Below w.heap.size w w1) := ((Below.refl _ _).alloc (Nat.le_refl _) _).trans (hb.mono (by simp))
    clear hs hb
    go_wp2
    go_ret
    exact ⟨by rw [HS.out]; rfl, HB.out⟩
  · have HS := Lib.hid hs
    have HB : Hid (Below w.heap.size w w1) := ((Below.refl _ _).alloc (Nat.le_refl _) _).trans (hb.mono (by simp))
    clear hs hb hG
    go_wp2
    go_ret
    exact ⟨by rw [HS.out]; rfl, HB.out⟩
theorem input1_any (kd n pad : Int) (ai sa : Option Addr) (li ci ls cs : Nat) (w : World) :
    Calls Tryz.prog 118 #[.agg #[.int .u8 kd, .slice ai li ci, .slice sa ls cs, .int .i64 n, .int .i64 pad]] w fun e w' => e = .returned (.bool (kd == 1)) ∧ Below w.heap.size w w' := by
  go_enter Tryz.func118, Tryz.ntmps118
  go_wp2
  go_ret
  exact ⟨rfl, (Below.refl _ _).alloc (Nat.le_refl _) _⟩
theorem NodesIn.get {w w' : World} {a : Option Addr} {len cap : Nat} {g : List Gr.Node} (h : Nodes w a len cap g) (hb : Below w.heap.size w w') {k : Nat} (hk : k < len) :
    ∃ b off ai li ci sa ls cs, a = some ⟨b, off, none⟩ ∧ b < w.heap.size ∧ w'.cell? ⟨b, off + k * 5, none⟩ = some (.int .u8 (nodeN g k).kind) ∧ w'.cell? ⟨b, off + k * 5 + 1, none⟩ = some (.slice ai li ci) ∧
      w'.cell? ⟨b, off + k * 5 + 2, none⟩ = some (.slice sa ls cs) ∧ w'.cell? ⟨b, off + k * 5 + 3, none⟩ = some (.int .i64 (nodeN g k).n) ∧ w'.cell? ⟨b, off + k * 5 + 4, none⟩ = some (.int .i64 (nodeN g k).pad) ∧ NodeV w' ai li ci sa ls cs (nodeN g k) := by
  obtain ⟨b, off, rfl, hlt, hc⟩ := h.at_ (by omega)
  obtain ⟨ai, li, ci, sa, ls, cs, h0, h1, h2, h3, h4, hV⟩ := hc k hk
  exact ⟨b, off, ai, li, ci, sa, ls, cs, rfl, hlt, (hb.cell (p := ⟨b, _, none⟩) hlt).trans h0, (hb.cell (p := ⟨b, _, none⟩) hlt).trans h1, (hb.cell (p := ⟨b, _, none⟩) hlt).trans h2,
    (hb.cell (p := ⟨b, _, none⟩) hlt).trans h3, (hb.cell (p := ⟨b, _, none⟩) hlt).trans h4, hV.below hb⟩
set_option maxHeartbeats 1000000 in
theorem indexNode_any (a : Option Addr) (len cap : Nat) (g : List Gr.Node) (w : World) (HN : Nodes w a len cap g) :
    Calls Tryz.prog 117 #[.slice a len cap, .func (.func 118) #[] #[]] w fun e w' => e = .returned (.int .i64 (Gr.inputIx g)) ∧ Below w.heap.size w w' := by
  have KN := Lib.hid HN
  have LN := Lib.hid HN.length
  have hle := HN.le
  have hcl := HN.cap_le
  clear HN
  go_enter Tryz.func117, Tryz.ntmps117
  go_wp2
  go_loopg [8] len (fun gg i wr => ∃ k : Nat, k ≤ len ∧ len - k ≤ gg ∧ i = .int .i64 k ∧ Hid (∀ j (hj : j < g.length), j < k → g[j].kind ≠ 1) ∧ Hid (Below w.heap.size w wr))
  case atStart => exact ⟨0, Nat.zero_le _, by omega, rfl, fun j _ hj => absurd hj (Nat.not_lt_zero _), Below.refl _ _⟩
  case round =>
    obtain ⟨k, hk, hg, rfl, HT, HW⟩ := hrel
    by_cases hlt : k < len
    · obtain ⟨b, off, ai, li, ci, sa, ls, cs, rfl, _, n0, n1, n2, n3, n4, _⟩ := KN.out.get HW.out hlt
      have HK : Hid (g[k]'(by rw [LN.out]; exact hlt) = nodeN g k) := (nodeN_eq g k (by rw [LN.out]; exact hlt)).symm
      generalize (nodeN g k).n = nn at *
      generalize (nodeN g k).pad = pp at *
      by_cases c : (nodeN g k).kind = 1
      · have HR : Hid (Gr.inputIx g = (k : Int)) := by
          have h1 := Gr.inputN_eq (g := g) (k := k) (by rw [LN.out]; exact hlt) HT.out (by rw [HK.out]; exact c)
          show _ = _
          unfold Gr.inputIx
          rw [h1, if_pos (by rw [LN.out]; exact hlt)]
        have dc : ((nodeN g k).kind == 1) = true := by simp [c]
        clear c HK HT
        generalize (nodeN g k).kind = kd at *
        go_wp2_with fail
        refine (input1_any _ _ _ _ _ _ _ _ _ _).mono ?_
        rintro e w1 ⟨rfl, hb1⟩
        have HB1 := Lib.hid (HW.out.trans (hb1.mono HW.out.size))
        clear hb1 n0 n1 n2 n3 n4
        go_wp2
        go_ret
        exact ⟨by rw [HR.out]; rfl, HB1.out⟩
      · have HT2 : Hid (∀ j (hj : j < g.length), j < k + 1 → g[j].kind ≠ 1) := fun j hj hjk => by
          rcases Nat.lt_succ_iff_lt_or_eq.1 hjk with h | h
          · exact HT.out j hj h
          · subst h; rw [HK.out]; exact c
        have dc : ((nodeN g k).kind == 1) = false := by simp [c]
        clear c HK HT
        generalize (nodeN g k).kind = kd at *
        go_wp2_with fail
        refine (input1_any _ _ _ _ _ _ _ _ _ _).mono ?_
        rintro e w1 ⟨rfl, hb1⟩
        have HB1 := Lib.hid (HW.out.trans (hb1.mono HW.out.size))
        clear hb1 n0 n1 n2 n3 n4
        go_wp2
        go_roundg (len - (k + 1))
        case measure => omega
        case rel => exact ⟨k + 1, by omega, by omega, by go_num, HT2, HB1⟩
    · have HR : Hid (Gr.inputIx g = -1) := by
        have h1 := Gr.inputN_none (g := g) (fun j hj => HT.out j hj (by have := LN.out; omega))
        show _ = _
        unfold Gr.inputIx
        rw [h1, if_neg (by omega)]
      go_wp2
      go_ret
      exact ⟨by rw [HR.out]; rfl, HW.out⟩
theorem input_any (a : Option Addr) (len cap : Nat) (g : List Gr.Node) (w : World) (HN : Nodes w a len cap g) :
    Calls Tryz.prog 26 #[.agg #[.slice a len cap]] w fun e w' => e = .returned (.int .i64 (Gr.inputIx g)) ∧ Below w.heap.size w w' := by
  go_enter Tryz.func26, Tryz.ntmps26
  go_wp2_with fail
  refine (indexNode_any _ _ _ g _ (HN.on ((Below.refl _ _).alloc (Nat.le_refl _) _))).mono ?_
  rintro e w1 ⟨rfl, hb⟩
  have HB : Hid (Below w.heap.size w w1) := ((Below.refl _ _).alloc (Nat.le_refl _) _).trans (hb.mono (by simp))
  clear hb
  go_wp2
  go_ret
  exact ⟨rfl, HB.out⟩
theorem wpList_app1w {ops : Array Oper} {rest : List Oper} {o : Oper} {a : Act} {Q : Exit → Act → World → Prop} (w : World) (hgd : o.guard = none) (s t : Operand)
    (ho : o.op = .call { callee := .builtin .append, args := #[s, t], argTypes := #[22, 22] }) (base : Nat) (v : Value) (l : List Int) (x : Int)
    (hown : Own base w v l) (hs : a.eval s = v) (ht : a.eval t = .slice (some ⟨w.heap.size, 0, none⟩) 1 1) (hb : base ≤ w.heap.size) (hlen : l.length < 17592186044416)
    (h : ∀ v' w', Own base w' v' (l ++ [x]) → Below base w w' → w.grownBy w' v.ownBlock → wpList Tryz.prog ops Q rest (a.put o.dst v') w') :
    wpList Tryz.prog ops Q (o :: rest) a (w.alloc (.cells #[.int .i64 x] 3)) := by
  obtain ⟨i0, hi, hz0, hz1, hz2⟩ := info_parts Tryz.info3
  refine wpList_append_own _ hgd s t 22 ho base 3 i0 (.int .i64 0) 1 8 Tryz.underlying22 hi hz0 hz1 hz2 rfl (by decide) v l.length (l.map (Value.int .i64)) hs (hown.alloc _) ⟨w.heap.size, 0, none⟩ 1 1 [.int .i64 x] ht rfl ?_ ?_ ?_ ?_ ?_ ?_
  · intro j u hj
    match j, hj with
    | 0, hj => simp at hj; subst hj; simp [Addr.add]
  · intro u hu; simp at hu; subst hu; rfl
  · unfold maxLen; omega
  · omega
  · simp; omega
  · intro v' w' hown' hgrow _
    refine h v' w' ?_ ?_ ?_
    · unfold Own; simpa using hown'
    · refine ((Below.refl base w).alloc hb _).grown hgrow (by simp; omega) ?_
      intro k hk
      exact (World.ownsRow.lt hown k hk).1
    · exact ⟨hgrow.os, hgrow.tape, hgrow.output, Nat.le_trans (by simp) hgrow.size, fun k hk hn => (hgrow.block k (by simp; omega) hn).trans (Below.heap_alloc _ _ _ hk)⟩
set_option maxHeartbeats 2000000 in
theorem weights_any (a : Option Addr) (len cap : Nat) (g : List Gr.Node) (w : World) (HN : Nodes w a len cap g) :
    Calls Tryz.prog 21 #[.agg #[.slice a len cap]] w fun e w' => ∃ a1 l1, e = .returned (.slice a1 l1 l1) ∧ Ints w' a1 l1 l1 (Gr.weights g) ∧ ((∀ p, a1 = some p → w.heap.size ≤ p.block) ∧ RowV 1 w' (.slice a1 l1 l1) l1 ((Gr.weights g).map (Value.int .i64))) ∧ Below w.heap.size w w' := by
  have KN := Lib.hid HN
  have LN := Lib.hid HN.length
  have hle := HN.le
  have hcl := HN.cap_le
  have hll := HN.len_le
  clear HN
  go_enter Tryz.func21, Tryz.ntmps21
  go_wp2
  go_loopg [2, 8] len (fun gg v i wr => ∃ k : Nat, k ≤ len ∧ len - k ≤ gg ∧ i = .int .i64 k ∧ Hid (Own w.heap.size wr v (Gr.weights (g.take k))) ∧ Hid (Below w.heap.size w wr))
  case atStart => exact ⟨0, Nat.zero_le _, by omega, rfl, Own.nil _ _, (Below.refl _ _).alloc (Nat.le_refl _) _⟩
  case round =>
    obtain ⟨k, hk, hg, rfl, HO, HW⟩ := hrel
    by_cases hlt : k < len
    · obtain ⟨b, off, ai, li, ci, sa, ls, cs, rfl, _, n0, n1, n2, n3, n4, _⟩ := KN.out.get HW.out hlt
      have HS := Lib.hid (Gr.weights_snoc (g := g) (k := k) (by rw [LN.out]; exact hlt))
      rw [← nodeN_eq g k (by rw [LN.out]; exact hlt)] at HS
      generalize (nodeN g k).n = nn at *
      generalize (nodeN g k).pad = pp at *
      generalize (nodeN g k).kind = kd at *
      have hln : (Gr.weights (g.take k)).length ≤ k := Nat.le_trans (Gr.weightsF_length _ _) (List.length_take_le _ _)
      by_cases c : kd = 2
      · have dc : (kd == 2) = true := by simp [c]
        rw [if_pos c] at HS
        clear c
        go_wp2_with (at_builtin; go_must (refine wpList_app1w _ rfl _ _ rfl w.heap.size _ _ _ (HO.out.below ((Below.refl _ _).alloc (Nat.le_refl _) _)) rfl (by simp [Act.eval]) ?c0 ?c1 ?_))
        case c0 => have := HW.out.size; simp; omega
        case c1 => omega
        intro v' w3 hown' hbel hgrow
        rw [← HS.out] at hown'
        have HO' := Lib.hid hown'
        have HW3 : Hid (Below w.heap.size w w3) := (HW.out.alloc HW.out.size _).trans hbel
        clear hown' hbel hgrow n0 n1 n2 n3 n4
        go_wp2
        go_roundg (len - (k + 1))
        case measure => exact Nat.lt_of_lt_of_le (Nat.sub_lt_sub_left hlt (Nat.lt_succ_self k)) hg
        case rel => exact ⟨k + 1, Nat.succ_le_of_lt hlt, Nat.le_refl _, by go_num, HO', HW3⟩
      · have dc : (kd == 2) = false := by simp [c]
        rw [if_neg c, List.append_nil] at HS
        clear c
        go_wp2
        go_roundg (len - (k + 1))
        case measure => exact Nat.lt_of_lt_of_le (Nat.sub_lt_sub_left hlt (Nat.lt_succ_self k)) hg
        case rel => exact ⟨k + 1, Nat.succ_le_of_lt hlt, Nat.le_refl _, by go_num, by rw [HS.out]; exact HO.out.below ((Below.refl _ _).alloc (Nat.le_refl _) _), HW.out.alloc HW.out.size _⟩
    · rw [List.take_of_length_le (by rw [LN.out]; omega)] at HO
      obtain ⟨a1, l1, c1, rfl, hq1, hq2, hq3, hI, hfr⟩ := HO.out.clipped (fun v hv => by have := Gr.weightsF_mem g 0 v hv; have := LN.out; omega)
      have HI := Lib.hid hI
      have HFR := Lib.hid hfr
      clear hI hfr
      go_wp2_with fail
      refine (clip_any _ _ _ _ hq1 hq2 hq3).mono ?_
      rintro e w6 ⟨rfl, rfl⟩
      go_wp2
      go_ret
      exact ⟨_, _, rfl, HI.out, HFR.out, HW.out⟩
end Go.Proofs.YtekejcnphmnidaaGreatDoor
namespace Go.Proofs.YtekejcnphmnidaaGreatDoor
namespace Gr
def bumpI (k : Nat) (v : Int) : Int := if (k : Int) ≤ v then v + 1 else v
def bump (k : Nat) (x : Node) : Node := ⟨x.kind, x.inn.map (bumpI k), x.shape, x.n, x.pad⟩
def insert (k : Nat) (s : List Int) (g : List Node) : List Node := g.take k ++ (⟨2, [], s, 0, 0⟩ : Node) :: (g.drop k).map (bump k)
end Gr
end Go.Proofs.YtekejcnphmnidaaGreatDoor
namespace Go.Proofs.YtekejcnphmnidaaGreatDoor
open Go.RowKit
theorem isize_any (a : Option Addr) (len cap : Nat) (w : World) : Calls Tryz.prog 202 #[.slice a len cap] w fun e w' => e = .returned (.int .i64 len) ∧ w = w' := by
  go_enter Tryz.func202, Tryz.ntmps202
  go_wp2
  go_ret
  exact ⟨rfl, rfl⟩
def gridsB (L M : List (List Int)) : Bool := decide (L.length = M.length) && (List.range L.length).all fun i => sameB (rowL L i) (rowL M i)
theorem gridsB_len {L M : List (List Int)} (h : L.length ≠ M.length) : gridsB L M = false := by unfold gridsB; rw [decide_eq_false h]; rfl
theorem gridsB_hit {L M : List (List Int)} {k : Nat} (hk : k < L.length) (h : sameB (rowL L k) (rowL M k) = false) : gridsB L M = false := by
  unfold gridsB
  have : ((List.range L.length).all fun i => sameB (rowL L i) (rowL M i)) = false := by
    rw [List.all_eq_false]
    exact ⟨k, List.mem_range.2 hk, by simp [h]⟩
  rw [this, Bool.and_false]
theorem gridsB_all {L M : List (List Int)} (hl : L.length = M.length) (h : ∀ i, i < L.length → sameB (rowL L i) (rowL M i) = true) : gridsB L M = true := by
  unfold gridsB
  rw [decide_eq_true hl, Bool.true_and, List.all_eq_true]
  exact fun i hi => h i (List.mem_range.1 hi)
set_option maxHeartbeats 2000000 in
set_option maxRecDepth 100000 in
theorem grids_any (a b : Option Addr) (la ca lb cb : Nat) (L M : List (List Int)) (w : World) (HA : Grid w a la ca L) (HB : Grid w b lb cb M) :
    Calls Tryz.prog 22 #[.slice a la ca, .slice b lb cb] w fun e w' => e = .returned (.bool (gridsB L M)) ∧ Below w.heap.size w w' := by
  have KA := Lib.hid HA
  have KB := Lib.hid HB
  have LA := Lib.hid HA.length
  have LB := Lib.hid HB.length
  have ha1 := HA.le
  have ha2 := HA.cap_le
  have hb1 := HB.le
  have hb2 := HB.cap_le
  clear HA HB
  by_cases hl : la = lb
  · subst hl
    have hne : ((la : Int) != (la : Int)) = false := by simp
    go_enter Tryz.func22, Tryz.ntmps22
    go_wp2
    go_loopg [5] la (fun gg i wr => ∃ k : Nat, k ≤ la ∧ la - k ≤ gg ∧ i = .int .i64 k ∧ Hid (∀ i, i < k → sameB (rowL L i) (rowL M i) = true) ∧ Hid (Below w.heap.size w wr))
    case atStart => exact ⟨0, Nat.zero_le _, by omega, rfl, fun i hi => absurd hi (Nat.not_lt_zero _), Below.refl _ _⟩
    case round =>
      obtain ⟨k, hk, hg, rfl, HT, HW⟩ := hrel
      by_cases hlt : k < la
      · obtain ⟨bA, oA, rfl, hbA, hcA⟩ := KA.out.at_ (by omega)
        obtain ⟨bB, oB, rfl, hbB, hcB⟩ := KB.out.at_ (by omega)
        obtain ⟨ax, lx, cx, hx, hIx⟩ := hcA k hlt
        obtain ⟨ay, ly, cy, hy, hIy⟩ := hcB k hlt
        have hx2 := (HW.out.cell (p := ⟨bA, oA + k, none⟩) hbA).trans hx
        have hy2 := (HW.out.cell (p := ⟨bB, oB + k, none⟩) hbB).trans hy
        have HX := Lib.hid ((hIx.below HW.out).below (Below.refl _ wr).drew)
        have HY := Lib.hid ((hIy.below HW.out).below (Below.refl _ wr).drew)
        have HWd : Hid (Below w.heap.size w wr.drew) := HW.out.drew
        clear hcA hcB hx hy hIx hIy
        cases hs : sameB (rowL L k) (rowL M k) with
        | true =>
          have HT2 : Hid (∀ i, i < k + 1 → sameB (rowL L i) (rowL M i) = true) := fun i hi => by
            rcases Nat.lt_succ_iff_lt_or_eq.1 hi with h | h
            · exact HT.out i h
            · subst h; exact hs
          have HS := Lib.hid hs
          clear hs
          go_wp2_with fail
          refine wp_region_still_call 8 mixed (by kernel_rfl) ?_
          simp only [List.take_succ_cons, List.take_zero, List.getElem?_cons_succ, List.getElem?_cons_zero]
          repeat still_step
          refine wpStill_nil ?_
          intro KC hKC
          simp only [List.drop_succ_cons, List.drop_zero] at hKC
          go_simp
          refine (same_any _ _ _ _ _ _ _ _ _ HX.out HY.out).mono ?_
          rintro e w7 ⟨rfl, hb7⟩
          rw [HS.out]
          have HW7 := Lib.hid (HWd.out.trans (hb7.mono HWd.out.size))
          clear hb7
          refine hKC _ _ ?_
          clear hKC KC
          repeat still_step
          refine wpStill_nil ?_
          go_wp2
          go_roundg (la - (k + 1))
          case measure => exact Nat.lt_of_lt_of_le (Nat.sub_lt_sub_left hlt (Nat.lt_succ_self k)) hg
          case rel => exact ⟨k + 1, Nat.succ_le_of_lt hlt, Nat.le_refl _, by go_num, HT2, HW7⟩
        | false =>
          have HR := Lib.hid (gridsB_hit (L := L) (M := M) (k := k) (by rw [LA.out]; exact hlt) hs)
          have HS := Lib.hid hs
          clear hs
          go_wp2_with fail
          refine wp_region_still_call 8 mixed (by kernel_rfl) ?_
          simp only [List.take_succ_cons, List.take_zero, List.getElem?_cons_succ, List.getElem?_cons_zero]
          repeat still_step
          refine wpStill_nil ?_
          intro KC hKC
          simp only [List.drop_succ_cons, List.drop_zero] at hKC
          go_simp
          refine (same_any _ _ _ _ _ _ _ _ _ HX.out HY.out).mono ?_
          rintro e w7 ⟨rfl, hb7⟩
          rw [HS.out]
          have HW7 := Lib.hid (HWd.out.trans (hb7.mono HWd.out.size))
          clear hb7
          refine hKC _ _ ?_
          clear hKC KC
          repeat still_step
          refine wpStill_nil ?_
          go_wp2
          go_ret
          exact ⟨by rw [HR.out]; rfl, HW7.out⟩
      · have HR := Lib.hid (gridsB_all (L := L) (M := M) (by rw [LA.out, LB.out]) (fun i hi => HT.out i (by rw [LA.out] at hi; omega)))
        go_wp2
        go_ret
        exact ⟨by rw [HR.out]; rfl, HW.out⟩
  · have hne : ((la : Int) != (lb : Int)) = true := by simp; omega
    have HR := Lib.hid (gridsB_len (L := L) (M := M) (by rw [LA.out, LB.out]; exact hl))
    clear hl
    go_enter Tryz.func22, Tryz.ntmps22
    go_wp2
    go_ret
    exact ⟨by rw [HR.out]; rfl, Below.refl _ _⟩
end Go.Proofs.YtekejcnphmnidaaGreatDoor
