import Derived.Sort.LotA
import Derived.Shelf.SlSortCmp.QuietGrown
import Derived.BigRegion
import Derived.Test.YtekejcnphmnidaaGreatDoorZBa
namespace Go.Proofs.YtekejcnphmnidaaGreatDoor
namespace St
open Go.Sort
variable {α : Type} [Inhabited α]
section
variable (lt : α → α → Bool)
def p1 (d : Array α) (a : Nat) (h : Nat) : Bool := lt d[h]! d[a]!
def p2 (d : Array α) (m : Nat) (h : Nat) : Bool := !lt d[m]! d[h]!
def p3 (d : Array α) (p : Nat) (c : Nat) : Bool := !lt d[p - c]! d[c]!
end
section
variable {lt : α → α → Bool}
theorem SortedIn.le (hS : SWO lt) {a b : Nat} {d : Array α} (h : SortedIn lt a b d) {i j : Nat} (h1 : a ≤ i) (h2 : i ≤ j) (h3 : j < b) : lt d[j]! d[i]! = false := by
  rcases Nat.lt_or_eq_of_le h2 with h4 | rfl
  · exact h i j h1 h4 h3
  · exact hS.irrefl _
end
end St
end Go.Proofs.YtekejcnphmnidaaGreatDoor
namespace Go.Proofs.YtekejcnphmnidaaGreatDoor
open Go.RowKit Go.Sort
abbrev ei (x : Int) : Value := .int .i64 x
structure But (blk : Nat) (w w' : World) : Prop where
  os : w'.os = w.os
  tape : w'.tape = w.tape
  output : w'.output = w.output
  size : w.heap.size ≤ w'.heap.size
  block : ∀ k, k < w.heap.size → k ≠ blk → w'.heap[k]? = w.heap[k]?
theorem But.refl (blk : Nat) (w : World) : But blk w w := ⟨rfl, rfl, rfl, Nat.le_refl _, fun _ _ _ => rfl⟩
theorem But.trans {blk : Nat} {a b c : World} (h : But blk a b) (k : But blk b c) : But blk a c :=
  ⟨k.os.trans h.os, k.tape.trans h.tape, k.output.trans h.output, Nat.le_trans h.size k.size, fun i hi hn => (k.block i (Nat.lt_of_lt_of_le hi h.size) hn).trans (h.block i hi hn)⟩
theorem But.of_below {blk : Nat} {a b : World} (h : Below a.heap.size a b) : But blk a b := ⟨h.os, h.tape, h.output, h.size, fun k hk _ => h.block k hk⟩
theorem But.setCell {blk : Nat} {a b : World} (h : But blk a b) (o : Nat) (v : Value) : But blk a (b.setCell ⟨blk, o, none⟩ v) :=
  h.trans ⟨rfl, rfl, rfl, by simp [World.setCell], fun k hk hn => Below.heap_setCell _ _ _ _ hn⟩
theorem But.drew {blk : Nat} {a b : World} (h : But blk a b) : But blk a b.drew := h.trans ⟨rfl, rfl, rfl, Nat.le_refl _, fun _ _ _ => rfl⟩
theorem But.cell {blk : Nat} {w w' : World} (h : But blk w w') {p : Addr} (hp : p.block < w.heap.size) (hn : p.block ≠ blk) : w'.cell? p = w.cell? p := World.cell?_of_block (w := w) (h.block p.block hp hn)
theorem But.ints {blk : Nat} {w w' : World} (h : But blk w w') {b off len cap : Nat} {l : List Int} (hI : Ints w (some ⟨b, off, none⟩) len cap l) (hn : b ≠ blk) : Ints w' (some ⟨b, off, none⟩) len cap l :=
  ⟨hI.le, hI.cap_le, hI.length, hI.wf, fun h0 => by
    obtain ⟨b', off', e, hlt, hc⟩ := hI.at_ h0
    simp only [Option.some.injEq, Addr.mk.injEq] at e
    obtain ⟨rfl, rfl, _⟩ := e
    exact ⟨b, off, rfl, Nat.lt_of_lt_of_le hlt h.size, fun i hi => (h.cell (p := ⟨b, off + i, none⟩) hlt hn).trans (hc i hi)⟩⟩
structure SV (blk off n : Nat) (dom : Int → Prop) (w0 : World) (d : Array Int) (w : World) : Prop where
  size : d.size = n
  dom : ∀ i, i < n → dom d[i]!
  holds : Holds ei w blk off d
  but : But blk w0 w
  lt : blk < w.heap.size
section
variable {blk off n : Nat} {dom : Int → Prop} {w0 w : World} {d : Array Int}
theorem SV.below (h : SV blk off n dom w0 d w) {w' : World} (hb : Below w.heap.size w w') : SV blk off n dom w0 d w' :=
  ⟨h.size, h.dom, fun j hj => ⟨(hb.cell (p := ⟨blk, off + j, none⟩) h.lt).trans (h.holds j hj).1, (hb.frozen (p := ⟨blk, off + j, none⟩) h.lt).trans (h.holds j hj).2⟩,
    h.but.trans (But.of_below hb), Nat.lt_of_lt_of_le h.lt hb.size⟩
theorem SV.more (h : SV blk off n dom w0 d w) {w' : World} (hm : More w w') : SV blk off n dom w0 d w' := h.below hm.below
theorem SV.drew (h : SV blk off n dom w0 d w) : SV blk off n dom w0 d w.drew := h.more (More.refl _).drew
theorem SV.c1 (h : SV blk off n dom w0 d w) (i : Nat) (hi : i < n) : w.cell? ⟨blk, off + i, none⟩ = some (.int .i64 d[i]!) := (h.holds i (by rw [h.size]; exact hi)).1
theorem SV.f1 (h : SV blk off n dom w0 d w) (i : Nat) (hi : i < n) : w.frozen? ⟨blk, off + i, none⟩ = false := (h.holds i (by rw [h.size]; exact hi)).2
theorem SV.cl (h : SV blk off n dom w0 d w) (i : Nat) (hi : i < n) (q : Nat) (os : Array Obj) : (grow (w.drewN q) os).cell? ⟨blk, off + i, none⟩ = some (.int .i64 d[i]!) := (h.more ⟨q, os, rfl⟩).c1 i hi
theorem SV.c2 (h : SV blk off n dom w0 d w) (i j : Nat) (hi : i < n) (hj : j < n) (v : Value) : ∃ u, (w.setCell ⟨blk, off + i, none⟩ v).cell? ⟨blk, off + j, none⟩ = some u := by
  by_cases e : i = j
  · subst e; exact ⟨v, World.cell?_setCell_same _ _ _ (h.c1 i hi)⟩
  · exact ⟨_, (World.cell?_setCell_other _ _ _ _ (by intro e'; simp only [Addr.mk.injEq] at e'; omega)).trans (h.c1 j hj)⟩
theorem SV.swap (h : SV blk off n dom w0 d w) (i j : Nat) (hi : i < n) (hj : j < n) :
    SV blk off n dom w0 (swp d i j) ((w.setCell ⟨blk, off + i, none⟩ (.int .i64 d[j]!)).setCell ⟨blk, off + j, none⟩ (.int .i64 d[i]!)) := by
  have hz := h.size
  have g : ∀ k, (swp d i j)[k]! = if k = j then d[i]! else if k = i then d[j]! else d[k]! := fun k => swp_get d (by omega) (by omega) k
  refine ⟨by rw [swp_size]; exact hz, fun k hk => ?_, fun k hk => ?_, (h.but.setCell _ _).setCell _ _, by simp [World.setCell]; exact h.lt⟩
  · rw [g]; split
    · exact h.dom i hi
    · split
      · exact h.dom j hj
      · exact h.dom k hk
  · rw [swp_size, hz] at hk
    refine ⟨?_, by rw [World.frozen?_setCell, World.frozen?_setCell]; exact h.f1 k hk⟩
    rw [g]
    by_cases e : k = j
    · subst e
      obtain ⟨u, hu⟩ := h.c2 i k hi hk (.int .i64 d[k]!)
      rw [World.cell?_setCell_same _ _ _ hu, if_pos rfl]
    · rw [World.cell?_setCell_other _ _ _ _ (by intro e'; simp only [Addr.mk.injEq] at e'; omega), if_neg e]
      by_cases e2 : k = i
      · subst e2
        rw [World.cell?_setCell_same _ _ _ (h.c1 k hk), if_pos rfl]
      · rw [World.cell?_setCell_other _ _ _ _ (by intro e'; simp only [Addr.mk.injEq] at e'; omega), if_neg e2]
        exact h.c1 k hk
end
end Go.Proofs.YtekejcnphmnidaaGreatDoor
namespace Go.Proofs.YtekejcnphmnidaaGreatDoor
open Go.RowKit
theorem clip_any (a : Option Addr) (len cap : Nat) (w : World) (h1 : len ≤ cap) (h2 : cap ≤ 9223372036854775807) (h3 : a = none → len = 0 ∧ cap = 0) :
    Calls Tryz.prog 56 #[.slice a len cap] w fun e w' => e = .returned (.slice a len len) ∧ w = w' := by
  cases a with
  | none =>
    obtain ⟨rfl, rfl⟩ := h3 rfl
    go_enter Tryz.func56, Tryz.ntmps56
    go_wp2
    go_ret
    exact ⟨rfl, rfl⟩
  | some x =>
    clear h3
    go_enter Tryz.func56, Tryz.ntmps56
    go_wp2
    go_ret
    exact ⟨rfl, rfl⟩
theorem But.below {blk B : Nat} {w w' : World} (h : But blk w w') (hB : B ≤ blk) (hs : B ≤ w.heap.size) : Below B w w' := ⟨h.os, h.tape, h.output, h.size, fun k hk => h.block k (by omega) (by omega)⟩
end Go.Proofs.YtekejcnphmnidaaGreatDoor
