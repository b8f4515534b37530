import Derived.WalkKit
import Derived.Lib.Hide
import Derived.Deep.LoopGhost
import Derived.Outline
import Derived.Deep.QuietTactic
import Derived.BigQuiet
import Derived.IntWalk
import Derived.Deep.RegionWith
import Derived.WalkSpells
import Derived.Shelf.Abstract
import Derived.Shelf.SlSortCmp.QuietGrown
import Derived.Deep.RegionHeld3
import Derived.Deep.AppendLies
import Derived.StillTailTactics
import Derived.Test.YtekejcnphmnidaaGreatDoorRows
namespace Go.Proofs.YtekejcnphmnidaaGreatDoor
def nth (l : List Int) (i : Nat) : Int := l.getD i 0
def hasB (l : List Int) (v : Int) : Bool := l.contains v
theorem nth_eq (l : List Int) (i : Nat) (h : i < l.length) : nth l i = l[i] := by
  unfold nth; rw [List.getD_eq_getElem?_getD, List.getElem?_eq_getElem h]; rfl
theorem nth_mem (l : List Int) (i : Nat) (h : i < l.length) : nth l i ∈ l := by rw [nth_eq l i h]; exact List.getElem_mem h
theorem take_snoc (l : List Int) (k : Nat) (hk : k < l.length) : l.take (k + 1) = l.take k ++ [nth l k] := by
  rw [List.take_succ_eq_append_getElem hk, nth_eq l k hk]
theorem hasB_iff (l : List Int) (v : Int) : hasB l v = true ↔ v ∈ l := by unfold hasB; simp
theorem hasB_false (l : List Int) (v : Int) : hasB l v = false ↔ ¬ v ∈ l := by unfold hasB; simp
theorem hasB_nil (v : Int) : hasB [] v = false := rfl
theorem hasB_snoc (l : List Int) (v : Int) (k : Nat) (hk : k < l.length) (h : hasB (l.take k) v = false) (hv : nth l k ≠ v) : hasB (l.take (k + 1)) v = false := by
  rw [hasB_false] at h ⊢
  rw [take_snoc l k hk]
  simp only [List.mem_append, List.mem_singleton]
  rintro (h1 | h1)
  · exact h h1
  · exact hv h1.symm
theorem hasB_hit (l : List Int) (v : Int) (k : Nat) (hk : k < l.length) (hv : nth l k = v) : hasB l v = true := by
  rw [hasB_iff, ← hv]; exact nth_mem l k hk
theorem hasB_all (l : List Int) (v : Int) (k : Nat) (hk : l.length ≤ k) (h : hasB (l.take k) v = false) : hasB l v = false := by
  rwa [List.take_of_length_le hk] at h
def anyB (p : Int → Bool) (l : List Int) : Bool := l.any p
theorem anyB_nil (p : Int → Bool) : anyB p [] = false := rfl
theorem anyB_hit (p : Int → Bool) (l : List Int) (k : Nat) (hk : k < l.length) (h : p (nth l k) = true) : anyB p l = true := by
  unfold anyB; rw [List.any_eq_true]; exact ⟨_, nth_mem l k hk, h⟩
theorem anyB_snoc (p : Int → Bool) (l : List Int) (k : Nat) (hk : k < l.length) (h : anyB p (l.take k) = false) (h1 : p (nth l k) = false) : anyB p (l.take (k + 1)) = false := by
  unfold anyB at *; rw [take_snoc l k hk, List.any_append, h]; simp [h1]
theorem anyB_all (p : Int → Bool) (l : List Int) (k : Nat) (hk : l.length ≤ k) (h : anyB p (l.take k) = false) : anyB p l = false := by
  rwa [List.take_of_length_le hk] at h
end Go.Proofs.YtekejcnphmnidaaGreatDoor
namespace Go.Proofs.YtekejcnphmnidaaGreatDoor
open Go.RowKit
theorem mixed : Tryz.prog.follows .mixedOrders = true := by kernel_rfl
structure Ints (w : World) (a : Option Addr) (len cap : Nat) (l : List Int) : Prop where
  le : len ≤ cap
  cap_le : cap ≤ 9223372036854775807
  length : l.length = len
  wf : ∀ n ∈ l, -9223372036854775808 ≤ n ∧ n ≤ 9223372036854775807
  at_ : 0 < len → ∃ b off, a = some ⟨b, off, none⟩ ∧ b < w.heap.size ∧ ∀ i, i < len → w.cell? ⟨b, off + i, none⟩ = some (.int .i64 (nth l i))
theorem Ints.below {w w' : World} {a : Option Addr} {len cap : Nat} {l : List Int} (h : Ints w a len cap l) (hb : Below w.heap.size w w') : Ints w' a len cap l :=
  ⟨h.le, h.cap_le, h.length, h.wf, fun h0 => by
    obtain ⟨b, off, rfl, hlt, hc⟩ := h.at_ h0
    exact ⟨b, off, rfl, Nat.lt_of_lt_of_le hlt hb.size, fun i hi => (hb.cell (p := ⟨b, off + i, none⟩) hlt).trans (hc i hi)⟩⟩
theorem Ints.take {w : World} {a : Option Addr} {len cap : Nat} {l : List Int} (h : Ints w a len cap l) (k : Nat) (hk : k ≤ len) : Ints w a k cap (l.take k) :=
  ⟨Nat.le_trans hk h.le, h.cap_le, by rw [List.length_take, h.length]; omega, fun n hn => h.wf n (List.mem_of_mem_take hn), fun h0 => by
    obtain ⟨b, off, e, hlt, hc⟩ := h.at_ (by omega)
    refine ⟨b, off, e, hlt, fun i hi => ?_⟩
    rw [hc i (by omega)]
    unfold nth
    simp only [List.getD_eq_getElem?_getD, List.getElem?_take, hi, if_true]⟩
theorem Ints.drewN {w : World} {a : Option Addr} {len cap : Nat} {l : List Int} (h : Ints w a len cap l) (n : Nat) : Ints (w.drewN n) a len cap l :=
  ⟨h.le, h.cap_le, h.length, h.wf, h.at_⟩
theorem Ints.nil {w : World} : Ints w none 0 0 [] := ⟨Nat.le_refl _, by omega, rfl, (fun _ h => nomatch h), (fun h => absurd h (Nat.lt_irrefl 0))⟩
theorem below_drewN (w : World) (n : Nat) (B : Nat) : Below B w (w.drewN n) := ⟨rfl, rfl, rfl, Nat.le_refl _, fun _ _ => rfl⟩
def PredAt (g : Nat) (cb : Array Value) (p : Int → Bool) (B : World) : Prop :=
  ∀ (w : World), Below B.heap.size B w → ∀ x : Int, -9223372036854775808 ≤ x → x ≤ 9223372036854775807 →
    Calls Tryz.prog g (#[.int .i64 x] ++ cb) w fun e w' => e = .returned (.bool (p x)) ∧ Below w.heap.size w w'
theorem PredAt.on {g : Nat} {cb : Array Value} {p : Int → Bool} {B B' : World} (h : PredAt g cb p B) (hb : Below B.heap.size B B') : PredAt g cb p B' :=
  fun w hw x h0 h1 => h w (hb.trans (hw.mono hb.size)) x h0 h1
theorem Ints.nth_wf {w : World} {a : Option Addr} {len cap : Nat} {l : List Int} (h : Ints w a len cap l) {k : Nat} (hk : k < len) : -9223372036854775808 ≤ nth l k ∧ nth l k ≤ 9223372036854775807 :=
  h.wf _ (nth_mem l k (by rw [h.length]; exact hk))
theorem below_step {B : Nat} {w w1 w2 : World} (h : Below B w w1) (k : Below w1.heap.size w1 w2) (hB : B ≤ w1.heap.size) : Below B w w2 := h.trans (k.mono hB)
end Go.Proofs.YtekejcnphmnidaaGreatDoor
namespace Go.Proofs.YtekejcnphmnidaaGreatDoor
namespace Ev
def at_ (l : List Int) (i : Int) : Int := nth l i.toNat
end Ev
end Go.Proofs.YtekejcnphmnidaaGreatDoor
namespace Go.Proofs.YtekejcnphmnidaaGreatDoor
open Go.RowKit Go.Sort
def More (w w' : World) : Prop := ∃ q os, w' = grow (w.drewN q) os
theorem More.refl (w : World) : More w w := ⟨0, #[], by rw [grow_empty]; rfl⟩
theorem More.trans {a b c : World} (h : More a b) (k : More b c) : More a c := by
  obtain ⟨q, os, rfl⟩ := h
  obtain ⟨q', os', rfl⟩ := k
  exact ⟨q + q', os ++ os', by show grow (grow ((a.drewN q).drewN q') os) os' = _; rw [grow_grow, World.drewN_drewN]⟩
theorem More.alloc {a b : World} (h : More a b) (o : Obj) : More a (b.alloc o) := h.trans ⟨0, #[o], by rw [alloc_eq_grow]; rfl⟩
theorem More.drew {a b : World} (h : More a b) : More a b.drew := h.trans ⟨1, #[], by rw [grow_empty]; rfl⟩
theorem More.drewN {a b : World} (h : More a b) (n : Nat) : More a (b.drewN n) := h.trans ⟨n, #[], by rw [grow_empty]⟩
theorem More.below {a b : World} (h : More a b) : Below a.heap.size a b := by
  obtain ⟨q, os, rfl⟩ := h
  exact ⟨rfl, rfl, rfl, by simp [grow], fun k hk => heap_grow_old (a.drewN q) os hk⟩
end Go.Proofs.YtekejcnphmnidaaGreatDoor
namespace Go.Proofs.YtekejcnphmnidaaGreatDoor
open Go.RowKit Go.Sort
theorem Tryz.info3 : (Tryz.prog.info? 3).map (fun i => (i.zero, i.size, i.bytes)) = some (some (.int .i64 0), 1, 8) := by kernel_rfl
def Own (base : Nat) (w : World) (v : Value) (l : List Int) : Prop := w.ownsRow base 3 1 v l.length (l.map (Value.int .i64))
theorem Own.nil (base : Nat) (w : World) : Own base w (.slice none 0 0) [] := World.ownsRow_nil w base 3 1
theorem Own.below {base : Nat} {w w' : World} {v : Value} {l : List Int} (h : Own base w v l) (hb : Below w.heap.size w w') : Own base w' v l := by
  obtain ⟨h1, h2⟩ := h
  refine ⟨h1, ?_⟩
  rcases h2 with h2 | ⟨g, cap, cur, hv, hg, hh, r⟩
  · exact .inl h2
  · exact .inr ⟨g, cap, cur, hv, hg, by rw [hb.block g (Array.getElem?_eq_some_iff.1 hh).1]; exact hh, r⟩
theorem Own.mono {base base' : Nat} {w : World} {v : Value} {l : List Int} (h : Own base w v l) (hb : base' ≤ base) : Own base' w v l := by
  obtain ⟨h1, h2⟩ := h
  refine ⟨h1, ?_⟩
  rcases h2 with h2 | ⟨g, cap, cur, hv, hg, r⟩
  · exact .inl h2
  · exact .inr ⟨g, cap, cur, hv, Nat.le_trans hb hg, r⟩
theorem Own.ints {base : Nat} {w : World} {v : Value} {l : List Int} (h : Own base w v l) (hwf : ∀ n ∈ l, -9223372036854775808 ≤ n ∧ n ≤ 9223372036854775807) :
    ∃ a len cap, v = .slice a len cap ∧ Ints w a len cap l ∧
      ((a = none ∧ len = 0 ∧ cap = 0) ∨ ∃ g, a = some ⟨g, 0, none⟩ ∧ base ≤ g ∧ g < w.heap.size ∧ ∀ i, i < cap → w.frozen? ⟨g, i, none⟩ = false ∧ ∃ u, w.cell? ⟨g, i, none⟩ = some u) := by
  obtain ⟨h1, h2⟩ := h
  rcases h2 with ⟨rfl, h0⟩ | ⟨g, cap, cur, rfl, hg, hh, hn, hm, hc, ht⟩
  · have : l = [] := List.eq_nil_of_length_eq_zero h0
    subst this
    exact ⟨none, 0, 0, rfl, Ints.nil, .inl ⟨rfl, rfl, rfl⟩⟩
  · have hlt := (Array.getElem?_eq_some_iff.1 hh).1
    have hcell : ∀ i, w.cell? ⟨g, i, none⟩ = cur[i]? := fun i => by simp [World.cell?, hh]
    refine ⟨_, _, _, rfl, ⟨hn, by unfold maxLen at hm; omega, rfl, hwf, fun _ => ⟨g, 0, rfl, hlt, fun i hi => ?_⟩⟩, .inr ⟨g, rfl, hg, hlt, fun i hi => ⟨by simp [World.frozen?, hh], ?_⟩⟩⟩
    · rw [Nat.zero_add, hcell]
      have h3 : (cur.toList.take (l.length * 1))[i]? = (l.map (Value.int .i64))[i]? := by rw [ht]
      rw [List.getElem?_take, if_pos (by omega), List.getElem?_map, List.getElem?_eq_getElem hi] at h3
      rw [nth_eq l i hi]
      simpa using h3
    · rw [hcell]
      exact ⟨_, Array.getElem?_eq_getElem (by omega)⟩
theorem wpList_app1 {ops : Array Oper} {rest : List Oper} {o : Oper} {a : Act} {Q : Exit → Act → World → Prop} (w : World) (hgd : o.guard = none) (s t : Operand)
    (ho : o.op = .call { callee := .builtin .append, args := #[s, t], argTypes := #[22, 22] }) (base : Nat) (v : Value) (l : List Int) (x : Int)
    (hown : Own base w v l) (hs : a.eval s = v) (ht : a.eval t = .slice (some ⟨w.heap.size, 0, none⟩) 1 1) (hb : base ≤ w.heap.size) (hlen : l.length < 1099511627776)
    (h : ∀ v' w', Own base w' v' (l ++ [x]) → Below base w w' → w.grownBy w' v.ownBlock → wpList Tryz.prog ops Q rest (a.put o.dst v') w') :
    wpList Tryz.prog ops Q (o :: rest) a (w.alloc (.cells #[.int .i64 x] 3)) := by
  obtain ⟨i0, hi, hz0, hz1, hz2⟩ := info_parts Tryz.info3
  refine wpList_append_own _ hgd s t 22 ho base 3 i0 (.int .i64 0) 1 8 Tryz.underlying22 hi hz0 hz1 hz2 rfl (by decide) v l.length (l.map (Value.int .i64)) hs (hown.alloc _) ⟨w.heap.size, 0, none⟩ 1 1 [.int .i64 x] ht rfl ?_ ?_ ?_ ?_ ?_ ?_
  · intro j u hj
    match j, hj with
    | 0, hj => simp at hj; subst hj; simp [Addr.add]
  · intro u hu; simp at hu; subst hu; rfl
  · unfold maxLen; omega
  · omega
  · simp; omega
  · intro v' w' hown' hgrow _
    refine h v' w' ?_ ?_ ?_
    · unfold Own; simpa using hown'
    · refine ((Below.refl base w).alloc hb _).grown hgrow (by simp; omega) ?_
      intro k hk
      exact (World.ownsRow.lt hown k hk).1
    · exact ⟨hgrow.os, hgrow.tape, hgrow.output, Nat.le_trans (by simp) hgrow.size, fun k hk hn => (hgrow.block k (by simp; omega) hn).trans (Below.heap_alloc _ _ _ hk)⟩
theorem Own.lt {base : Nat} {w : World} {v : Value} {l : List Int} (h : Own base w v l) : ∀ k, v.ownBlock = some k → base ≤ k ∧ k < w.heap.size := World.ownsRow.lt h
theorem Ints.alloc {w : World} {a : Option Addr} {len cap : Nat} {l : List Int} (h : Ints w a len cap l) (o : Obj) : Ints (w.alloc o) a len cap l := h.below ((Below.refl _ _).alloc (Nat.le_refl _) o)
end Go.Proofs.YtekejcnphmnidaaGreatDoor
namespace Go.Proofs.YtekejcnphmnidaaGreatDoor
open Go.RowKit
def IsIdx (l : List Int) (v : Int) (e : Ending) : Prop := ∃ i : Int, e = .returned (.int .i64 i) ∧ decide (0 ≤ i) = hasB l v
set_option maxHeartbeats 400000 in
theorem index_any (a : Option Addr) (len cap : Nat) (l : List Int) (v : Int) (w : World) (H : Ints w a len cap l) :
    Calls Tryz.prog 138 #[.slice a len cap, .int .i64 v] w fun e w' => IsIdx l v e ∧ w = w' := by
  obtain ⟨hle, hcap, hlen, _, hat⟩ := H
  have HL := Lib.hid hlen; clear hlen
  go_enter Tryz.func138, Tryz.ntmps138
  go_wp2
  go_loop [8] (fun i => ∃ k : Nat, k ≤ len ∧ i = .int .i64 k ∧ Hid (hasB (l.take k) v = false)) (fun i => len - (intOf i).toNat)
  case atStart => exact ⟨0, Nat.zero_le _, rfl, hasB_nil v⟩
  case round =>
    obtain ⟨k, hk, rfl, HN⟩ := hrel
    by_cases hlt : k < len
    · obtain ⟨b, off, rfl, _, hc⟩ := hat (by omega)
      have hck := hc k hlt
      clear hc hat
      by_cases hv : nth l k = v
      · have HC := Lib.hid (hasB_hit l v k (by have := HL.out; omega) hv)
        have hvb : (v == nth l k) = true := by simp [hv]
        clear hv
        go_wp2
        go_ret
        exact ⟨⟨k, rfl, by rw [HC.out]; simp⟩, rfl⟩
      · have HC := Lib.hid (hasB_snoc l v k (by have := HL.out; omega) HN.out hv)
        have hvb : (v == nth l k) = false := by simpa using fun h => hv h.symm
        clear hv
        go_wp2
        go_round
        case rel => exact ⟨k + 1, by omega, by go_num, HC.out⟩
        case measure => simp [intOf]; omega
    · go_wp2
      go_ret
      exact ⟨⟨-1, rfl, by rw [hasB_all l v k (by have := HL.out; omega) HN.out]; rfl⟩, rfl⟩
theorem contains_any (a : Option Addr) (len cap : Nat) (l : List Int) (v : Int) (w : World) (H : Ints w a len cap l) :
    Calls Tryz.prog 52 #[.slice a len cap, .int .i64 v] w fun e w' => e = .returned (.bool (hasB l v)) ∧ w = w' := by
  go_enter Tryz.func52, Tryz.ntmps52
  go_wp2_with fail
  refine (index_any _ _ _ l _ _ H).mono ?_
  rintro e w1 ⟨⟨i, rfl, hi⟩, rfl⟩
  have HI := Lib.hid hi; clear hi
  go_wp2
  go_ret
  exact ⟨by rw [← HI.out]; rfl, rfl⟩
end Go.Proofs.YtekejcnphmnidaaGreatDoor
namespace Go.Proofs.YtekejcnphmnidaaGreatDoor
open Go.RowKit
def sameB (l m : List Int) : Bool := decide (l = m)
theorem sameB_self (l : List Int) : sameB l l = true := by simp [sameB]
theorem sameB_len {l m : List Int} (h : l.length ≠ m.length) : sameB l m = false := by
  unfold sameB; exact decide_eq_false fun e => h (by rw [e])
theorem sameB_miss {l m : List Int} {k : Nat} (h : nth l k ≠ nth m k) : sameB l m = false := by
  unfold sameB; exact decide_eq_false fun e => h (by rw [e])
theorem sameB_end {l m : List Int} {k : Nat} (h : l.length = m.length) (hk : l.length ≤ k) (ht : l.take k = m.take k) : sameB l m = true := by
  rw [List.take_of_length_le hk, List.take_of_length_le (by omega)] at ht
  rw [ht]; exact sameB_self m
theorem take_more {l m : List Int} {k : Nat} (h1 : k < l.length) (h2 : k < m.length) (ht : l.take k = m.take k) (hn : nth l k = nth m k) : l.take (k + 1) = m.take (k + 1) := by
  rw [nth_eq l k h1, nth_eq m k h2] at hn
  rw [List.take_succ_eq_append_getElem h1, List.take_succ_eq_append_getElem h2, ht, hn]
set_option maxHeartbeats 1000000 in
theorem same_any (a b : Option Addr) (la ca lb cb : Nat) (l m : List Int) (w : World) (HA : Ints w a la ca l) (HB : Ints w b lb cb m) :
    Calls Tryz.prog 13 #[.slice a la ca, .slice b lb cb] w fun e w' => e = .returned (.bool (sameB l m)) ∧ Below w.heap.size w w' := by
  have KA := Lib.hid HA
  have KB := Lib.hid HB
  have ha1 := HA.le
  have ha2 := HA.cap_le
  have hb1 := HB.le
  have hb2 := HB.cap_le
  have LA := Lib.hid HA.length
  have LB := Lib.hid HB.length
  clear HA HB
  by_cases hl : la = lb
  · subst hl
    have hne : ((la : Int) != (la : Int)) = false := by simp
    go_enter Tryz.func13, Tryz.ntmps13
    go_wp2
    go_loopg [5] la (fun gg i wr => ∃ k : Nat, k ≤ la ∧ la - k ≤ gg ∧ i = .int .i64 k ∧ Hid (l.take k = m.take k) ∧ Hid (Below w.heap.size w wr))
    case atStart => exact ⟨0, Nat.zero_le _, by omega, rfl, rfl, Below.refl _ _⟩
    case round =>
      obtain ⟨k, hk, hg, rfl, HT, HWr⟩ := hrel
      by_cases hlt : k < la
      · obtain ⟨ba, oa, rfl, _, hca⟩ := (KA.out.below HWr.out).at_ (by omega)
        obtain ⟨bb, ob, rfl, _, hcb⟩ := (KB.out.below HWr.out).at_ (by omega)
        have hak := hca k hlt
        have hbk := hcb k hlt
        clear hca hcb
        by_cases hv : nth l k = nth m k
        · have HN := Lib.hid (take_more (by rw [LA.out]; exact hlt) (by rw [LB.out]; exact hlt) HT.out hv)
          have hvb : (nth l k != nth m k) = false := by simp [hv]
          clear hv
          go_wp2_with fail
          go_quiet (fail)
          go_wp2
          go_roundg (la - (k + 1))
          case measure => omega
          case rel => exact ⟨k + 1, by omega, by omega, by go_num, HN.out, HWr.out.trans (below_drewN _ _ _)⟩
        · have HN := Lib.hid (sameB_miss hv)
          have hvb : (nth l k != nth m k) = true := by simp [hv]
          clear hv
          go_wp2_with fail
          go_quiet (fail)
          go_wp2
          go_ret
          exact ⟨by rw [HN.out]; rfl, HWr.out.trans (below_drewN _ _ _)⟩
      · have HN := Lib.hid (sameB_end (l := l) (m := m) (k := k) (by rw [LA.out, LB.out]) (by rw [LA.out]; omega) HT.out)
        go_wp2
        go_ret
        exact ⟨by rw [HN.out]; rfl, HWr.out⟩
  · have hne : ((la : Int) != (lb : Int)) = true := by simp; omega
    have HN := Lib.hid (sameB_len (l := l) (m := m) (by rw [LA.out, LB.out]; exact hl))
    clear hl
    go_enter Tryz.func13, Tryz.ntmps13
    go_wp2
    go_ret
    exact ⟨by rw [HN.out]; rfl, Below.refl _ _⟩
end Go.Proofs.YtekejcnphmnidaaGreatDoor
namespace Go.Proofs.YtekejcnphmnidaaGreatDoor
open Go.RowKit Go.Sort
theorem Ints.get {w : World} {a : Option Addr} {len cap : Nat} {l : List Int} (h : Ints w a len cap l) {x : Int} (h0 : 0 ≤ x) (h1 : x < len) :
    ∃ b off, a = some ⟨b, off, none⟩ ∧ b < w.heap.size ∧ w.cell? ⟨b, off + x.toNat, none⟩ = some (.int .i64 (Ev.at_ l x)) := by
  obtain ⟨b, off, e, hb, hc⟩ := h.at_ (by omega)
  exact ⟨b, off, e, hb, hc x.toNat (by omega)⟩
theorem ints_two (w : World) (u v : Int) (hu : -9223372036854775808 ≤ u ∧ u ≤ 9223372036854775807) (hv : -9223372036854775808 ≤ v ∧ v ≤ 9223372036854775807) :
    Ints (w.alloc (.cells #[.int .i64 u, .int .i64 v] 3)) (some ⟨w.heap.size, 0, none⟩) 2 2 [u, v] := by
  refine ⟨Nat.le_refl _, by omega, rfl, ?_, fun _ => ⟨w.heap.size, 0, rfl, by simp, ?_⟩⟩
  · intro n hn
    simp only [List.mem_cons, List.not_mem_nil, or_false] at hn
    rcases hn with rfl | rfl
    · exact hu
    · exact hv
  · intro i hi
    rw [World.cell?_alloc_at _ _ _ _ rfl]
    match i, hi with
    | 0, _ => rfl
    | 1, _ => rfl
theorem Ints.drew {w : World} {a : Option Addr} {len cap : Nat} {l : List Int} (h : Ints w a len cap l) : Ints w.drew a len cap l := h.drewN 1
end Go.Proofs.YtekejcnphmnidaaGreatDoor
namespace Go.Proofs.YtekejcnphmnidaaGreatDoor
open Go.RowKit
def IsIdxF (p : Int → Bool) (l : List Int) (e : Ending) : Prop := ∃ i : Int, e = .returned (.int .i64 i) ∧ decide (0 ≤ i) = anyB p l
set_option maxHeartbeats 400000 in
theorem indexFunc_any (g : Nat) (cb : Array Value) (p : Int → Bool) (eg : ∀ args w, (callFunc g args).run Tryz.prog w = .ok (.enter g args) w) (a : Option Addr) (len cap : Nat) (l : List Int) (w : World) (H : Ints w a len cap l) (hp : PredAt g cb p w) :
    Calls Tryz.prog 176 #[.slice a len cap, .func (.func g) #[] cb] w fun e w' => IsIdxF p l e ∧ Below w.heap.size w w' := by
  have HI := Lib.hid H
  have HP := Lib.hid hp; clear hp
  obtain ⟨hle, hcap, hlen, _, _⟩ := H
  have HL := Lib.hid hlen; clear hlen
  go_enter Tryz.func176, Tryz.ntmps176
  go_wp2
  go_loopg [5, 8] len (fun gg _ i wr => ∃ k : Nat, k ≤ len ∧ len - k ≤ gg ∧ i = .int .i64 k ∧ Hid (anyB p (l.take k) = false) ∧ Hid (Below w.heap.size w wr))
  case atStart => exact ⟨0, Nat.zero_le _, by omega, rfl, anyB_nil p, Below.refl _ _⟩
  case round =>
    obtain ⟨k, hk, hg, rfl, HN, HB⟩ := hrel
    by_cases hlt : k < len
    · obtain ⟨b, off, rfl, _, hc⟩ := (HI.out.below HB.out).at_ (by omega)
      have hck := hc k hlt
      clear hc
      have hwf := HI.out.nth_wf hlt
      have hcall := HP.out wr HB.out (nth l k) hwf.1 hwf.2
      cases hv : p (nth l k) with
      | true =>
        rw [hv] at hcall
        have HC := Lib.hid (anyB_hit p l k (by have := HL.out; omega) hv); clear hv
        have HCall := Lib.hid hcall; clear hcall
        go_wp2_with (go_at_fn g; refine HCall.out.mono ?_; rintro e w1 ⟨rfl, hb1⟩)
        go_ret
        exact ⟨⟨k, rfl, by rw [HC.out]; simp⟩, below_step HB.out hb1 HB.out.size⟩
      | false =>
        rw [hv] at hcall
        have HC := Lib.hid (anyB_snoc p l k (by have := HL.out; omega) HN.out hv); clear hv
        have HCall := Lib.hid hcall; clear hcall
        go_wp2_with (go_at_fn g; refine HCall.out.mono ?_; rintro e w1 ⟨rfl, hb1⟩)
        go_roundg (len - (k + 1))
        case measure => omega
        case rel => exact ⟨k + 1, by omega, by omega, by go_num, HC.out, below_step HB.out hb1 HB.out.size⟩
    · go_wp2
      go_ret
      exact ⟨⟨-1, rfl, by rw [anyB_all p l k (by have := HL.out; omega) HN.out]; rfl⟩, HB.out⟩
theorem containsFunc_any (g : Nat) (cb : Array Value) (p : Int → Bool) (eg : ∀ args w, (callFunc g args).run Tryz.prog w = .ok (.enter g args) w) (a : Option Addr) (len cap : Nat) (l : List Int) (w : World) (H : Ints w a len cap l) (hp : PredAt g cb p w) :
    Calls Tryz.prog 110 #[.slice a len cap, .func (.func g) #[] cb] w fun e w' => e = .returned (.bool (anyB p l)) ∧ Below w.heap.size w w' := by
  have HP := Lib.hid hp; clear hp
  have HG := Lib.hid eg; clear eg
  have HI := Lib.hid H; clear H
  go_enter Tryz.func110, Tryz.ntmps110
  go_wp2_with fail
  refine (indexFunc_any g cb p HG.out _ _ _ l _ HI.out HP.out).mono ?_
  rintro e w1 ⟨⟨i, rfl, hi⟩, hb⟩
  have HJ := Lib.hid hi; clear hi
  have HB := Lib.hid hb; clear hb
  go_wp2
  go_ret
  exact ⟨by rw [← HJ.out]; rfl, HB.out⟩
end Go.Proofs.YtekejcnphmnidaaGreatDoor
