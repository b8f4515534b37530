/-
  One text out of: Lists, Base, EvPlain, EvCmp, Own, EvNodes, Same, EvFar, EvWithin.
-/
import Derived.WalkKit
import Derived.Lib.Hide
import Derived.Deep.LoopGhost
import Derived.Outline
import Derived.Deep.QuietTactic
import Derived.BigQuiet
import Derived.IntWalk
import Derived.Deep.RegionWith
import Derived.WalkSpells
import Derived.Shelf.Abstract
import Derived.Shelf.SlSortCmp.QuietGrown
import Derived.Deep.RegionHeld3
import Derived.Deep.AppendLies
import Derived.StillTailTactics
import Derived.Test.YtekejcnphmnidaaGreatDoorRows
/- Lists: Plain Lean, no program: lists of integers by their places, behind names of their own.
-/
namespace Go.Proofs.YtekejcnphmnidaaGreatDoor

/-- The element at a place. -/
def nth (l : List Int) (i : Nat) : Int := l.getD i 0
/-- Does a list hold a number? -/
def hasB (l : List Int) (v : Int) : Bool := l.contains v

theorem nth_eq (l : List Int) (i : Nat) (h : i < l.length) : nth l i = l[i] := by
  unfold nth; rw [List.getD_eq_getElem?_getD, List.getElem?_eq_getElem h]; rfl
theorem nth_mem (l : List Int) (i : Nat) (h : i < l.length) : nth l i ∈ l := by rw [nth_eq l i h]; exact List.getElem_mem h
theorem take_snoc (l : List Int) (k : Nat) (hk : k < l.length) : l.take (k + 1) = l.take k ++ [nth l k] := by
  rw [List.take_succ_eq_append_getElem hk, nth_eq l k hk]
theorem hasB_iff (l : List Int) (v : Int) : hasB l v = true ↔ v ∈ l := by unfold hasB; simp
theorem hasB_false (l : List Int) (v : Int) : hasB l v = false ↔ ¬ v ∈ l := by unfold hasB; simp
theorem hasB_nil (v : Int) : hasB [] v = false := rfl
theorem hasB_snoc (l : List Int) (v : Int) (k : Nat) (hk : k < l.length) (h : hasB (l.take k) v = false) (hv : nth l k ≠ v) : hasB (l.take (k + 1)) v = false := by
  rw [hasB_false] at h ⊢
  rw [take_snoc l k hk]
  simp only [List.mem_append, List.mem_singleton]
  rintro (h1 | h1)
  · exact h h1
  · exact hv h1.symm
theorem hasB_hit (l : List Int) (v : Int) (k : Nat) (hk : k < l.length) (hv : nth l k = v) : hasB l v = true := by
  rw [hasB_iff, ← hv]; exact nth_mem l k hk
theorem hasB_all (l : List Int) (v : Int) (k : Nat) (hk : l.length ≤ k) (h : hasB (l.take k) v = false) : hasB l v = false := by
  rwa [List.take_of_length_le hk] at h

/-- Is a test met somewhere? -/
def anyB (p : Int → Bool) (l : List Int) : Bool := l.any p
theorem anyB_nil (p : Int → Bool) : anyB p [] = false := rfl
theorem anyB_hit (p : Int → Bool) (l : List Int) (k : Nat) (hk : k < l.length) (h : p (nth l k) = true) : anyB p l = true := by
  unfold anyB; rw [List.any_eq_true]; exact ⟨_, nth_mem l k hk, h⟩
theorem anyB_snoc (p : Int → Bool) (l : List Int) (k : Nat) (hk : k < l.length) (h : anyB p (l.take k) = false) (h1 : p (nth l k) = false) : anyB p (l.take (k + 1)) = false := by
  unfold anyB at *; rw [take_snoc l k hk, List.any_append, h]; simp [h1]
theorem anyB_all (p : Int → Bool) (l : List Int) (k : Nat) (hk : l.length ≤ k) (h : anyB p (l.take k) = false) : anyB p l = false := by
  rwa [List.take_of_length_le hk] at h

end Go.Proofs.YtekejcnphmnidaaGreatDoor

/- Base: What a slice of integers reads as, and how it stays.
-/
namespace Go.Proofs.YtekejcnphmnidaaGreatDoor
open Go.RowKit

theorem mixed : Tryz.prog.follows .mixedOrders = true := by kernel_rfl

/-- A slice of integers of 64 bits: its elements. -/
structure Ints (w : World) (a : Option Addr) (len cap : Nat) (l : List Int) : Prop where
  le : len ≤ cap
  cap_le : cap ≤ 9223372036854775807
  length : l.length = len
  wf : ∀ n ∈ l, -9223372036854775808 ≤ n ∧ n ≤ 9223372036854775807
  at_ : 0 < len → ∃ b off, a = some ⟨b, off, none⟩ ∧ b < w.heap.size ∧ ∀ i, i < len → w.cell? ⟨b, off + i, none⟩ = some (.int .i64 (nth l i))

theorem Ints.below {w w' : World} {a : Option Addr} {len cap : Nat} {l : List Int} (h : Ints w a len cap l) (hb : Below w.heap.size w w') : Ints w' a len cap l :=
  ⟨h.le, h.cap_le, h.length, h.wf, fun h0 => by
    obtain ⟨b, off, rfl, hlt, hc⟩ := h.at_ h0
    exact ⟨b, off, rfl, Nat.lt_of_lt_of_le hlt hb.size, fun i hi => (hb.cell (p := ⟨b, off + i, none⟩) hlt).trans (hc i hi)⟩⟩

/-- A beginning of the slice. -/
theorem Ints.take {w : World} {a : Option Addr} {len cap : Nat} {l : List Int} (h : Ints w a len cap l) (k : Nat) (hk : k ≤ len) : Ints w a k cap (l.take k) :=
  ⟨Nat.le_trans hk h.le, h.cap_le, by rw [List.length_take, h.length]; omega, fun n hn => h.wf n (List.mem_of_mem_take hn), fun h0 => by
    obtain ⟨b, off, e, hlt, hc⟩ := h.at_ (by omega)
    refine ⟨b, off, e, hlt, fun i hi => ?_⟩
    rw [hc i (by omega)]
    unfold nth
    simp only [List.getD_eq_getElem?_getD, List.getElem?_take, hi, if_true]⟩

theorem Ints.drewN {w : World} {a : Option Addr} {len cap : Nat} {l : List Int} (h : Ints w a len cap l) (n : Nat) : Ints (w.drewN n) a len cap l :=
  ⟨h.le, h.cap_le, h.length, h.wf, h.at_⟩

theorem Ints.nil {w : World} : Ints w none 0 0 [] := ⟨Nat.le_refl _, by omega, rfl, (fun _ h => nomatch h), (fun h => absurd h (Nat.lt_irrefl 0))⟩

theorem below_drewN (w : World) (n : Nat) (B : Nat) : Below B w (w.drewN n) := ⟨rfl, rfl, rfl, Nat.le_refl _, fun _ _ => rfl⟩


/-- A function value of integers that answers a test, in every world in which all of B lies unturned, and turns nothing. -/
def PredAt (g : Nat) (cb : Array Value) (p : Int → Bool) (B : World) : Prop :=
  ∀ (w : World), Below B.heap.size B w → ∀ x : Int, -9223372036854775808 ≤ x → x ≤ 9223372036854775807 →
    Calls Tryz.prog g (#[.int .i64 x] ++ cb) w fun e w' => e = .returned (.bool (p x)) ∧ Below w.heap.size w w'

theorem PredAt.on {g : Nat} {cb : Array Value} {p : Int → Bool} {B B' : World} (h : PredAt g cb p B) (hb : Below B.heap.size B B') : PredAt g cb p B' :=
  fun w hw x h0 h1 => h w (hb.trans (hw.mono hb.size)) x h0 h1

theorem Ints.nth_wf {w : World} {a : Option Addr} {len cap : Nat} {l : List Int} (h : Ints w a len cap l) {k : Nat} (hk : k < len) : -9223372036854775808 ≤ nth l k ∧ nth l k ≤ 9223372036854775807 :=
  h.wf _ (nth_mem l k (by rw [h.length]; exact hk))

theorem below_step {B : Nat} {w w1 w2 : World} (h : Below B w w1) (k : Below w1.heap.size w1 w2) (hB : B ≤ w1.heap.size) : Below B w w2 := h.trans (k.mono hB)

end Go.Proofs.YtekejcnphmnidaaGreatDoor

/- EvPlain: Plain Lean, no program: what evicts.Pick computes (lists of integers), and the laws about it that the statements of chapter 21 ask.
-/
namespace Go.Proofs.YtekejcnphmnidaaGreatDoor
namespace Ev

/-- The element at an index. -/
def at_ (l : List Int) (i : Int) : Int := nth l i.toNat

/-- Of so many, each once. -/
def nodesB (many : Int) : List Int → List Int → Bool
  | _, [] => true
  | seen, v :: r => decide (0 ≤ v) && decide (v < many) && !hasB seen v && nodesB many (seen ++ [v]) r

def within (l : List Int) : Bool := l.all fun n => decide (0 ≤ n) && decide (n ≤ 1048576)

def sumB (bytes : List Int) : List Int → Int
  | [] => 0
  | v :: r => at_ bytes v + sumB bytes r

def frees (pin inn : List Int) : List Int := inn.filter fun v => !hasB pin v
def pins (pin inn : List Int) : List Int := inn.filter fun v => hasB pin v

def cmpI (x y : Int) : Int := if x < y then -1 else if y < x then 1 else 0
def orI (x y : Int) : Int := if x = 0 then y else x

/-- How nodes are held against one another. -/
def far (bytes next : List Int) (a b : Int) : Int :=
  if at_ next a < 0 ∧ 0 ≤ at_ next b then -1
  else if 0 ≤ at_ next a ∧ at_ next b < 0 then 1
  else if 0 ≤ at_ next a ∧ at_ next a ≠ at_ next b then cmpI (at_ next b) (at_ next a)
  else orI (cmpI (at_ bytes b) (at_ bytes a)) (cmpI a b)

def farLe (bytes next : List Int) (a b : Int) : Bool := decide (far bytes next a b ≤ 0)

def sorted (bytes next : List Int) (l : List Int) : List Int := l.mergeSort (farLe bytes next)

def greedy (bytes : List Int) (room : Int) : Int → List Int → List Int
  | _, [] => []
  | used, v :: r => if used ≤ room then [] else v :: greedy bytes room (used - at_ bytes v) r

/-- The arguments are in form. -/
def argsB (inn pin bytes next : List Int) (room need : Int) : Bool :=
  nodesB bytes.length [] inn && nodesB bytes.length [] pin && decide (next.length = bytes.length) && within bytes && within [room, need]

def pickE (inn pin bytes next : List Int) (room need : Int) : Int :=
  if argsB inn pin bytes next room need then (if room < need + sumB bytes (pins pin inn) then 13 else 0) else 1

def pickL (inn pin bytes next : List Int) (room need : Int) : List Int :=
  if pickE inn pin bytes next room need = 0 then greedy bytes room (need + sumB bytes inn) (sorted bytes next (frees pin inn)) else []

/-! ### The order is strict and total -/

theorem far_anti (bytes next : List Int) (a b : Int) (h : far bytes next a b ≤ 0) (k : far bytes next b a ≤ 0) : a = b := by
  simp only [far, cmpI, orI] at h k
  repeat' split at h
  all_goals (first | omega | skip)
  all_goals (repeat' split at k)
  all_goals omega

theorem far_total (bytes next : List Int) (a b : Int) : far bytes next a b ≤ 0 ∨ far bytes next b a ≤ 0 := by
  simp only [far, cmpI, orI]
  repeat' split
  all_goals omega

theorem far_trans (bytes next : List Int) (a b c : Int) (h : far bytes next a b ≤ 0) (k : far bytes next b c ≤ 0) : far bytes next a c ≤ 0 := by
  simp only [far, cmpI, orI] at h k ⊢
  generalize at_ next a = x at *
  generalize at_ next b = y at *
  generalize at_ next c = z at *
  generalize at_ bytes a = p at *
  generalize at_ bytes b = q at *
  generalize at_ bytes c = r at *
  split at h <;> split at k <;> (try omega) <;> (repeat' split) <;> (try omega) <;> (repeat' split at h) <;> (try omega) <;> (repeat' split at k) <;> omega

theorem far_neg (bytes next : List Int) (a b : Int) : far bytes next a b < 0 ↔ ¬ far bytes next b a ≤ 0 := by
  constructor
  · intro h k
    have := far_anti bytes next a b (by omega) k
    subst this
    simp only [far, cmpI, orI] at h
    repeat' split at h
    all_goals omega
  · intro h
    rcases far_total bytes next a b with h1 | h1
    · rcases Int.lt_or_eq_of_le h1 with h2 | h2
      · exact h2
      · exfalso
        apply h
        simp only [far, cmpI, orI] at h2 ⊢
        repeat' split at h2
        all_goals (first | omega | skip)
        all_goals (repeat' split)
        all_goals omega
    · exact absurd h1 h

theorem sorted_perm (bytes next l : List Int) : (sorted bytes next l).Perm l := List.mergeSort_perm _ _

theorem sorted_pairwise (bytes next l : List Int) : (sorted bytes next l).Pairwise fun a b => far bytes next a b ≤ 0 := by
  have := List.pairwise_mergeSort (le := farLe bytes next) (fun a b c h k => by
    simp only [farLe, decide_eq_true_eq] at *; exact far_trans bytes next a b c h k) (fun a b => by
    simp only [farLe, Bool.or_eq_true, decide_eq_true_eq]; exact far_total bytes next a b) l
  exact this.imp (by intro a b h; simpa [farLe] using h)

/-- Whatever is a permutation, and stands in order, is the sorted list. -/
theorem sorted_unique (bytes next l m : List Int) (hp : m.Perm l) (hs : m.Pairwise fun a b => far bytes next a b ≤ 0) : m = sorted bytes next l :=
  List.Perm.eq_of_pairwise (fun a b _ _ h k => far_anti bytes next a b h k) hs (sorted_pairwise bytes next l) (hp.trans (sorted_perm bytes next l).symm)

theorem sorted_of_perm (bytes next l m : List Int) (hp : l.Perm m) : sorted bytes next l = sorted bytes next m :=
  sorted_unique bytes next m _ ((sorted_perm bytes next l).trans hp) (sorted_pairwise bytes next l)

/-! ### Sums -/

theorem sumB_append (bytes l m : List Int) : sumB bytes (l ++ m) = sumB bytes l + sumB bytes m := by
  induction l with
  | nil => simp [sumB]
  | cons v r ih => simp only [List.cons_append, sumB, ih]; omega

theorem sumB_perm (bytes : List Int) {l m : List Int} (h : l.Perm m) : sumB bytes l = sumB bytes m := by
  induction h with
  | nil => rfl
  | cons x _ ih => simp only [sumB, ih]
  | swap x y l => simp only [sumB]; omega
  | trans _ _ h1 h2 => exact h1.trans h2

theorem sumB_split (bytes pin inn : List Int) : sumB bytes inn = sumB bytes (pins pin inn) + sumB bytes (frees pin inn) := by
  induction inn with
  | nil => rfl
  | cons v r ih =>
    unfold pins frees at *
    cases h : hasB pin v <;> simp only [List.filter_cons, h, sumB, Bool.not_true, Bool.not_false, Bool.false_eq_true, ↓reduceIte] <;> omega

theorem at_of_lt (bytes : List Int) (v : Int) (h0 : 0 ≤ v) (h : v < bytes.length) : at_ bytes v ∈ bytes := by
  exact nth_mem bytes v.toNat (by omega)

theorem at_within (bytes : List Int) (hw : within bytes = true) (v : Int) (h0 : 0 ≤ v) (h : v < bytes.length) : 0 ≤ at_ bytes v ∧ at_ bytes v ≤ 1048576 := by
  have := List.all_eq_true.1 hw _ (at_of_lt bytes v h0 h)
  simpa using this

theorem nodesB_iff (many : Int) (l : List Int) : ∀ seen, nodesB many seen l = true ↔ (∀ v ∈ l, 0 ≤ v ∧ v < many ∧ ¬ v ∈ seen) ∧ l.Nodup := by
  induction l with
  | nil => intro seen; simp [nodesB]
  | cons v r ih =>
    intro seen
    simp only [nodesB, Bool.and_eq_true, decide_eq_true_eq, Bool.not_eq_true', ih, List.mem_cons, List.nodup_cons, hasB_false, List.mem_append, List.not_mem_nil, or_false]
    constructor
    · rintro ⟨⟨⟨h1, h2⟩, h3⟩, h4, h5⟩
      refine ⟨?_, ?_, h5⟩
      · rintro u (rfl | hu)
        · exact ⟨h1, h2, h3⟩
        · exact ⟨(h4 u hu).1, (h4 u hu).2.1, fun h => (h4 u hu).2.2 (.inl h)⟩
      · intro hv
        exact (h4 v hv).2.2 (.inr rfl)
    · rintro ⟨h1, h2, h3⟩
      refine ⟨⟨⟨(h1 v (.inl rfl)).1, (h1 v (.inl rfl)).2.1⟩, (h1 v (.inl rfl)).2.2⟩, fun u hu => ⟨(h1 u (.inr hu)).1, (h1 u (.inr hu)).2.1, ?_⟩, h3⟩
      rintro (h | rfl)
      · exact (h1 u (.inr hu)).2.2 h
      · exact h2 hu

theorem nodesB_mem {many : Int} {l : List Int} (h : nodesB many [] l = true) (v : Int) (hv : v ∈ l) : 0 ≤ v ∧ v < many :=
  let ⟨a, _⟩ := (nodesB_iff many l []).1 h; ⟨(a v hv).1, (a v hv).2.1⟩

theorem nodesB_perm {many : Int} {l m : List Int} (hp : l.Perm m) : nodesB many [] l = nodesB many [] m := by
  rw [Bool.eq_iff_iff, nodesB_iff, nodesB_iff]
  constructor
  · rintro ⟨a, b⟩; exact ⟨fun v hv => a v (hp.mem_iff.2 hv), hp.nodup_iff.1 b⟩
  · rintro ⟨a, b⟩; exact ⟨fun v hv => a v (hp.mem_iff.1 hv), hp.nodup_iff.2 b⟩

theorem sumB_bounds (bytes l : List Int) (hw : within bytes = true) (hl : ∀ v ∈ l, 0 ≤ v ∧ v < bytes.length) : 0 ≤ sumB bytes l ∧ sumB bytes l ≤ 1048576 * l.length := by
  induction l with
  | nil => simp [sumB]
  | cons v r ih =>
    have h1 := at_within bytes hw v (hl v (.head _)).1 (hl v (.head _)).2
    have h2 := ih fun u hu => hl u (.tail _ hu)
    simp only [sumB, List.length_cons]
    omega

/-! ### Step by step -/

theorem sumB_snoc (bytes l : List Int) (k : Nat) (hk : k < l.length) : sumB bytes (l.take (k + 1)) = sumB bytes (l.take k) + at_ bytes (nth l k) := by
  rw [take_snoc l k hk, sumB_append]; simp [sumB]
theorem frees_hit (pin l : List Int) (k : Nat) (hk : k < l.length) (h : hasB pin (nth l k) = true) : frees pin (l.take (k + 1)) = frees pin (l.take k) ∧ pins pin (l.take (k + 1)) = pins pin (l.take k) ++ [nth l k] := by
  unfold frees pins; rw [take_snoc l k hk]; simp [List.filter_append, h]
theorem frees_miss (pin l : List Int) (k : Nat) (hk : k < l.length) (h : hasB pin (nth l k) = false) : frees pin (l.take (k + 1)) = frees pin (l.take k) ++ [nth l k] ∧ pins pin (l.take (k + 1)) = pins pin (l.take k) := by
  unfold frees pins; rw [take_snoc l k hk]; simp [List.filter_append, h]
theorem frees_le (pin l : List Int) (k : Nat) : (frees pin (l.take k)).length ≤ k := Nat.le_trans (List.length_filter_le _ _) (List.length_take_le _ _)
theorem pins_le (pin l : List Int) (k : Nat) : (pins pin (l.take k)).length ≤ k := Nat.le_trans (List.length_filter_le _ _) (List.length_take_le _ _)

/-! ### The greedy beginning -/

theorem greedy_prefix (bytes : List Int) (room : Int) (s : List Int) : ∀ u, ∃ t, s = greedy bytes room u s ++ t := by
  induction s with
  | nil => intro u; exact ⟨[], rfl⟩
  | cons v r ih =>
    intro u
    unfold greedy
    split
    · exact ⟨v :: r, rfl⟩
    · obtain ⟨t, ht⟩ := ih (u - at_ bytes v)
      exact ⟨t, by rw [List.cons_append, ← ht]⟩

theorem greedy_step (bytes : List Int) (room : Int) (s : List Int) : ∀ u i, i < (greedy bytes room u s).length → room < u - sumB bytes ((greedy bytes room u s).take i) := by
  induction s with
  | nil => intro u i h; simp [greedy] at h
  | cons v r ih =>
    intro u i h
    unfold greedy at h ⊢
    split at h
    · simp at h
    · rename_i hu
      rw [if_neg hu]
      cases i with
      | zero => simp [sumB]; omega
      | succ i =>
        have := ih (u - at_ bytes v) i (by simpa using h)
        simp only [List.take_succ_cons, sumB]
        omega

theorem greedy_end (bytes : List Int) (room : Int) (s : List Int) : ∀ u, u - sumB bytes s ≤ room → u - sumB bytes (greedy bytes room u s) ≤ room := by
  induction s with
  | nil => intro u h; simpa [greedy] using h
  | cons v r ih =>
    intro u h
    unfold greedy
    split
    · simp [sumB]; omega
    · have := ih (u - at_ bytes v) (by simp only [sumB] at h; omega)
      simp only [sumB]; omega

/-- With more room less goes: the beginning of that. -/
theorem greedy_more (bytes : List Int) (room room' : Int) (hr : room ≤ room') (s : List Int) : ∀ u, ∃ t, greedy bytes room u s = greedy bytes room' u s ++ t := by
  induction s with
  | nil => intro u; exact ⟨[], rfl⟩
  | cons v r ih =>
    intro u
    by_cases h : u ≤ room
    · have h' : u ≤ room' := by omega
      exact ⟨[], by simp [greedy, h, h']⟩
    · by_cases h' : u ≤ room'
      · exact ⟨_, by simp [greedy, h']; rfl⟩
      · obtain ⟨t, ht⟩ := ih (u - at_ bytes v)
        exact ⟨t, by simp [greedy, h, h', ht]⟩

theorem greedy_none (bytes : List Int) (room u : Int) (s : List Int) (h : u ≤ room) : greedy bytes room u s = [] := by
  cases s <;> simp [greedy, h]

theorem greedy_nil (bytes next : List Int) (room u : Int) : greedy bytes room u (sorted bytes next []) = [] := by simp [sorted, greedy]

theorem greedy_at (bytes : List Int) (room u : Int) (s : List Int) (k : Nat) (hk : k < s.length) (hr : ¬ u - sumB bytes (s.take k) ≤ room)
    (h : greedy bytes room u s = s.take k ++ greedy bytes room (u - sumB bytes (s.take k)) (s.drop k)) :
    greedy bytes room u s = s.take (k + 1) ++ greedy bytes room (u - sumB bytes (s.take (k + 1))) (s.drop (k + 1)) := by
  rw [h, List.drop_eq_getElem_cons hk]
  conv => lhs; rw [greedy, if_neg hr]
  rw [sumB_snoc bytes s k hk, take_snoc s k hk, nth_eq s k hk, List.append_assoc]
  congr 2
  congr 1
  omega

/-! ### What is in form -/

theorem args_of_ok {inn pin bytes next : List Int} {room need : Int} (h : pickE inn pin bytes next room need = 0) : argsB inn pin bytes next room need = true ∧ need + sumB bytes (pins pin inn) ≤ room := by
  unfold pickE at h
  split at h
  · split at h
    · cases h
    · exact ⟨by assumption, by omega⟩
  · cases h

theorem args_parts {inn pin bytes next : List Int} {room need : Int} (h : argsB inn pin bytes next room need = true) :
    nodesB bytes.length [] inn = true ∧ nodesB bytes.length [] pin = true ∧ next.length = bytes.length ∧ within bytes = true ∧ (0 ≤ room ∧ room ≤ 1048576) ∧ (0 ≤ need ∧ need ≤ 1048576) := by
  unfold argsB at h
  simp only [Bool.and_eq_true, decide_eq_true_eq] at h
  obtain ⟨⟨⟨⟨h1, h2⟩, h3⟩, h4⟩, h5⟩ := h
  simp [within] at h5
  exact ⟨h1, h2, h3, h4, ⟨h5.1.1, h5.1.2⟩, ⟨h5.2.1, h5.2.2⟩⟩

/-! ### EvictsRoom -/

theorem room_end {inn pin bytes next : List Int} {room need : Int} (h : pickE inn pin bytes next room need = 0) :
    need + sumB bytes inn - sumB bytes (pickL inn pin bytes next room need) ≤ room := by
  obtain ⟨_, hp⟩ := args_of_ok h
  unfold pickL
  rw [if_pos h]
  refine greedy_end _ _ _ _ ?_
  rw [sumB_perm bytes (sorted_perm bytes next _)]
  have := sumB_split bytes pin inn
  omega

theorem room_step {inn pin bytes next : List Int} {room need : Int} (h : pickE inn pin bytes next room need = 0) (i : Nat) (hi : i < (pickL inn pin bytes next room need).length) :
    room < need + sumB bytes inn - sumB bytes ((pickL inn pin bytes next room need).take i) := by
  unfold pickL at hi ⊢
  rw [if_pos h] at hi ⊢
  exact greedy_step _ _ _ _ _ hi

theorem pickL_mem {inn pin bytes next : List Int} {room need : Int} {v : Int} (hv : v ∈ pickL inn pin bytes next room need) : v ∈ inn ∧ ¬ v ∈ pin := by
  unfold pickL at hv
  split at hv
  · obtain ⟨t, ht⟩ := greedy_prefix bytes room (sorted bytes next (frees pin inn)) (need + sumB bytes inn)
    have : v ∈ sorted bytes next (frees pin inn) := by rw [ht]; exact List.mem_append_left _ hv
    have := (sorted_perm bytes next _).mem_iff.1 this
    simpa [frees, hasB] using this
  · cases hv

theorem pickL_nodup {inn pin bytes next : List Int} {room need : Int} : (pickL inn pin bytes next room need).Nodup := by
  unfold pickL
  split
  · rename_i h
    obtain ⟨hk, _⟩ := args_of_ok h
    obtain ⟨h1, _⟩ := args_parts hk
    obtain ⟨_, hn⟩ := (nodesB_iff _ _ _).1 h1
    obtain ⟨t, ht⟩ := greedy_prefix bytes room (sorted bytes next (frees pin inn)) (need + sumB bytes inn)
    have : (sorted bytes next (frees pin inn)).Nodup := (sorted_perm bytes next _).nodup_iff.2 (hn.filter _)
    rw [ht] at this
    exact (List.nodup_append.1 this).1
  · exact List.nodup_nil

theorem not_mem_take {l : List Int} (h : l.Nodup) (i : Nat) (hi : i < l.length) : ¬ l[i] ∈ l.take i := by
  intro hm
  obtain ⟨j, hj, e⟩ := List.getElem_of_mem hm
  simp only [List.length_take] at hj
  rw [List.getElem_take] at e
  have hd := List.pairwise_iff_getElem.1 h j i (by omega) hi (by omega)
  exact hd e

theorem pickL_err {inn pin bytes next : List Int} {room need : Int} (h : pickE inn pin bytes next room need ≠ 0) : pickL inn pin bytes next room need = [] := by
  unfold pickL; rw [if_neg h]

/-! ### EvictsFar -/

theorem far_of {inn pin bytes next : List Int} {room need : Int} {u v : Int} (hu : u ∈ pickL inn pin bytes next room need) (hv : v ∈ inn) (hp : ¬ v ∈ pin) (hn : ¬ v ∈ pickL inn pin bytes next room need) :
    ¬ (at_ next v < 0 ∧ 0 ≤ at_ next u) ∧ ¬ (0 ≤ at_ next v ∧ 0 ≤ at_ next u ∧ at_ next u < at_ next v) := by
  unfold pickL at hu hn
  split at hu
  · rename_i he
    rw [if_pos he] at hn
    obtain ⟨t, ht⟩ := greedy_prefix bytes room (sorted bytes next (frees pin inn)) (need + sumB bytes inn)
    have hs := sorted_pairwise bytes next (frees pin inn)
    have hvs : v ∈ sorted bytes next (frees pin inn) := (sorted_perm bytes next _).mem_iff.2 (by simp [frees, hv, hasB, hp])
    rw [ht] at hs hvs
    have hvt : v ∈ t := (List.mem_append.1 hvs).resolve_left hn
    have hf := (List.pairwise_append.1 hs).2.2 u hu v hvt
    simp only [far, cmpI, orI] at hf
    constructor
    · rintro ⟨h1, h2⟩
      repeat' split at hf
      all_goals omega
    · rintro ⟨h1, h2, h3⟩
      repeat' split at hf
      all_goals omega
  · cases hu

/-! ### EvictsTurned -/

theorem args_turned (inn pin bytes next : List Int) (room need : Int) : argsB inn.reverse pin bytes next room need = argsB inn pin bytes next room need := by
  unfold argsB; rw [nodesB_perm (List.reverse_perm inn)]

theorem pickE_turned (inn pin bytes next : List Int) (room need : Int) : pickE inn.reverse pin bytes next room need = pickE inn pin bytes next room need := by
  unfold pickE
  rw [args_turned, sumB_perm bytes (l := pins pin inn.reverse) (m := pins pin inn) (by unfold pins; exact (List.reverse_perm inn).filter _)]

theorem pickL_turned (inn pin bytes next : List Int) (room need : Int) : pickL inn.reverse pin bytes next room need = pickL inn pin bytes next room need := by
  unfold pickL
  rw [pickE_turned, sumB_perm bytes (List.reverse_perm inn), sorted_of_perm bytes next (frees pin inn.reverse) (frees pin inn) (by unfold frees; exact (List.reverse_perm inn).filter _)]

theorem pickL_more {inn pin bytes next : List Int} {room room' need : Int} (hr : room ≤ room') (h : pickE inn pin bytes next room need = 0) (h' : pickE inn pin bytes next room' need = 0) :
    ∃ t, pickL inn pin bytes next room need = pickL inn pin bytes next room' need ++ t := by
  unfold pickL; rw [if_pos h, if_pos h']; exact greedy_more _ _ _ hr _ _

/-! ### EvictsNone -/

theorem none_args {inn pin bytes next : List Int} {room need room' need' : Int} (h : pickE inn pin bytes next room need ≠ 1) (hr : 0 ≤ room' ∧ room' ≤ 1048576) (hn : 0 ≤ need' ∧ need' ≤ 1048576) :
    argsB inn pin bytes next room' need' = true := by
  have h0 : argsB inn pin bytes next room need = true := by
    unfold pickE at h
    split at h
    · assumption
    · exact absurd rfl h
  unfold argsB at h0 ⊢
  simp only [Bool.and_eq_true, decide_eq_true_eq] at h0 ⊢
  refine ⟨h0.1, ?_⟩
  simp [within, hr, hn]

theorem none_ok {inn pin bytes next : List Int} {room' need' : Int} (h : argsB inn pin bytes next room' need' = true) (hp : need' + sumB bytes (pins pin inn) ≤ room') : pickE inn pin bytes next room' need' = 0 := by
  unfold pickE; rw [if_pos h, if_neg (by omega)]

theorem sumB_sub_pos (bytes : List Int) (hw : within bytes = true) (t : List Int) (ht : ∀ v ∈ t, 0 ≤ v ∧ v < bytes.length) (v : Int) (hv : v ∈ t) : at_ bytes v ≤ sumB bytes t := by
  induction t with
  | nil => cases hv
  | cons u r ih =>
    have h1 := at_within bytes hw u (ht u (.head _)).1 (ht u (.head _)).2
    have h2 := sumB_bounds bytes r hw fun x hx => ht x (.tail _ hx)
    simp only [sumB]
    cases hv with
    | head => omega
    | tail _ hv => have := ih (fun x hx => ht x (.tail _ hx)) hv; omega

/-- Where all that is not pinned must go all of it does. -/
theorem none_all {inn pin bytes next : List Int} {used : Int} (h : pickE inn pin bytes next used (used - sumB bytes (pins pin inn)) = 0) (v : Int) (hv : v ∈ inn) (hp : ¬ v ∈ pin) (hb : 0 < at_ bytes v) :
    v ∈ pickL inn pin bytes next used (used - sumB bytes (pins pin inn)) := by
  have he := room_end h
  obtain ⟨hk, _⟩ := args_of_ok h
  obtain ⟨h1, _, _, hw, _, _⟩ := args_parts hk
  unfold pickL at he ⊢
  rw [if_pos h] at he ⊢
  obtain ⟨t, ht⟩ := greedy_prefix bytes used (sorted bytes next (frees pin inn)) ((used - sumB bytes (pins pin inn)) + sumB bytes inn)
  have hvs : v ∈ sorted bytes next (frees pin inn) := (sorted_perm bytes next _).mem_iff.2 (by simp [frees, hv, hasB, hp])
  have hsum := sumB_perm bytes (sorted_perm bytes next (frees pin inn))
  have hspl := sumB_split bytes pin inn
  rw [ht] at hvs hsum
  rw [sumB_append] at hsum
  rcases List.mem_append.1 hvs with hm | hm
  · exact hm
  · exfalso
    have htm : ∀ x ∈ t, 0 ≤ x ∧ x < bytes.length := fun x hx => by
      have hxs : x ∈ sorted bytes next (frees pin inn) := by rw [ht]; exact List.mem_append_right _ hx
      have hx' := (sorted_perm bytes next _).mem_iff.1 hxs
      have : x ∈ inn := by simp [frees] at hx'; exact hx'.1
      exact nodesB_mem h1 x this
    have := sumB_sub_pos bytes hw t htm v hm
    omega

theorem none_first {inn pin bytes next : List Int} {used : Int} (hu : used = sumB bytes inn) : pickL inn pin bytes next used 0 = [] := by
  unfold pickL
  split
  · exact greedy_none _ _ _ _ (by omega)
  · rfl

end Ev
end Go.Proofs.YtekejcnphmnidaaGreatDoor

/- EvCmp: cmp.Compare and cmp.Or of ints: contracts compare_any, or_any.
-/
namespace Go.Proofs.YtekejcnphmnidaaGreatDoor
open Go.RowKit Go.Sort

/-- New blocks and draws alone. -/
def More (w w' : World) : Prop := ∃ q os, w' = grow (w.drewN q) os
theorem More.refl (w : World) : More w w := ⟨0, #[], by rw [grow_empty]; rfl⟩
theorem More.trans {a b c : World} (h : More a b) (k : More b c) : More a c := by
  obtain ⟨q, os, rfl⟩ := h
  obtain ⟨q', os', rfl⟩ := k
  exact ⟨q + q', os ++ os', by show grow (grow ((a.drewN q).drewN q') os) os' = _; rw [grow_grow, World.drewN_drewN]⟩
theorem More.alloc {a b : World} (h : More a b) (o : Obj) : More a (b.alloc o) := h.trans ⟨0, #[o], by rw [alloc_eq_grow]; rfl⟩
theorem More.drew {a b : World} (h : More a b) : More a b.drew := h.trans ⟨1, #[], by rw [grow_empty]; rfl⟩
theorem More.drewN {a b : World} (h : More a b) (n : Nat) : More a (b.drewN n) := h.trans ⟨n, #[], by rw [grow_empty]⟩
theorem More.below {a b : World} (h : More a b) : Below a.heap.size a b := by
  obtain ⟨q, os, rfl⟩ := h
  exact ⟨rfl, rfl, rfl, by simp [grow], fun k hk => heap_grow_old (a.drewN q) os hk⟩
theorem below_more {a b : World} (h : Below a.heap.size a b) (hd : a.drawn ≤ b.drawn) : More a b := by
  refine ⟨b.drawn - a.drawn, b.heap.extract a.heap.size b.heap.size, ?_⟩
  obtain ⟨h1, h2, h3, h4, h5⟩ := h
  cases a; cases b
  simp only [grow, World.drewN] at *
  subst h1; subst h2; subst h3
  congr 1
  · apply Array.ext_getElem?
    intro i
    rw [Array.getElem?_append]
    split
    · exact h5 i (by assumption)
    · rw [Array.getElem?_extract]
      split
      · congr 1; omega
      · rename_i hlt hlt2
        apply Array.getElem?_eq_none
        omega
  · omega

theorem compare_any (x y : Int) (w : World) : Calls Tryz.prog 139 #[.int .i64 x, .int .i64 y] w fun e w' => e = .returned (.int .i64 (Ev.cmpI x y)) ∧ w = w' := by
  have hx : (x != x) = false := by simp
  have hy : (y != y) = false := by simp
  by_cases h : x < y
  · have hd : decide (x < y) = true := decide_eq_true h
    have HR := Lib.hid (show Ev.cmpI x y = -1 by unfold Ev.cmpI; rw [if_pos h])
    go_enter Tryz.func139, Tryz.ntmps139
    go_wp2
    go_ret
    exact ⟨by rw [HR.out]; rfl, rfl⟩
  · have hd : decide (x < y) = false := decide_eq_false h
    by_cases h2 : y < x
    · have hd2 : decide (x > y) = true := decide_eq_true h2
      have HR := Lib.hid (show Ev.cmpI x y = 1 by unfold Ev.cmpI; rw [if_neg h, if_pos h2])
      go_enter Tryz.func139, Tryz.ntmps139
      go_wp2
      go_ret
      exact ⟨by rw [HR.out]; rfl, rfl⟩
    · have hd2 : decide (x > y) = false := decide_eq_false h2
      have HR := Lib.hid (show Ev.cmpI x y = 0 by unfold Ev.cmpI; rw [if_neg h, if_neg h2])
      go_enter Tryz.func139, Tryz.ntmps139
      go_wp2
      go_ret
      exact ⟨by rw [HR.out]; rfl, rfl⟩

/-- The first one that is not 0. -/
def orL : List Int → Int
  | [] => 0
  | v :: r => if v = 0 then orL r else v

theorem orL_two (u v : Int) : orL [u, v] = Ev.orI u v := by
  unfold Ev.orI; simp only [orL]; split <;> (try split) <;> simp_all

set_option maxHeartbeats 400000 in
theorem or_any (a : Option Addr) (len cap : Nat) (l : List Int) (w : World) (H : Ints w a len cap l) :
    Calls Tryz.prog 140 #[.slice a len cap] w fun e w' => e = .returned (.int .i64 (orL l)) ∧ w = w' := by
  obtain ⟨hle, hcap, hlen, _, hat⟩ := H
  have HL := Lib.hid hlen; clear hlen
  go_enter Tryz.func140, Tryz.ntmps140
  go_wp2
  go_loop [8] (fun i => ∃ k : Nat, k ≤ len ∧ i = .int .i64 k ∧ Hid (orL l = orL (l.drop k))) (fun i => len - (intOf i).toNat)
  case atStart => exact ⟨0, Nat.zero_le _, rfl, rfl⟩
  case round =>
    obtain ⟨k, hk, rfl, HN⟩ := hrel
    by_cases hlt : k < len
    · obtain ⟨b, off, rfl, _, hc⟩ := hat (by omega)
      have hck := hc k hlt
      clear hc hat
      have HS : Hid (orL l = if nth l k = 0 then orL (l.drop (k + 1)) else nth l k) := by
        have hk' : k < l.length := by have := HL.out; omega
        show _ = _
        rw [HN.out, List.drop_eq_getElem_cons hk', nth_eq l k hk']; rfl
      by_cases hv : nth l k = 0
      · have HR := Lib.hid (show orL l = orL (l.drop (k + 1)) by rw [HS.out, if_pos hv])
        have hvb : (nth l k != 0) = false := by simp [hv]
        clear hv
        go_wp2
        go_round
        case rel => exact ⟨k + 1, by omega, by go_num, HR⟩
        case measure => simp [intOf]; omega
      · have HR := Lib.hid (show orL l = nth l k by rw [HS.out, if_neg hv])
        have hvb : (nth l k != 0) = true := by simp [hv]
        clear hv
        go_wp2
        go_ret
        exact ⟨by rw [HR.out]; rfl, rfl⟩
    · have HR := Lib.hid (show orL l = 0 by rw [HN.out, List.drop_eq_nil_of_le (by have := HL.out; omega)]; rfl)
      go_wp2
      go_ret
      exact ⟨by rw [HR.out]; rfl, rfl⟩
end Go.Proofs.YtekejcnphmnidaaGreatDoor

/- Own: appending to a slice in a region of its own: Own, wpList_app1, step_app1.
-/
namespace Go.Proofs.YtekejcnphmnidaaGreatDoor
open Go.RowKit Go.Sort

theorem Tryz.info3 : (Tryz.prog.info? 3).map (fun i => (i.zero, i.size, i.bytes)) = some (some (.int .i64 0), 1, 8) := by kernel_rfl

/-- A slice of integers that the call itself made (from block base on; nil at first): it may be appended to. -/
def Own (base : Nat) (w : World) (v : Value) (l : List Int) : Prop := w.ownsRow base 3 1 v l.length (l.map (Value.int .i64))

theorem Own.nil (base : Nat) (w : World) : Own base w (.slice none 0 0) [] := World.ownsRow_nil w base 3 1

theorem Own.below {base : Nat} {w w' : World} {v : Value} {l : List Int} (h : Own base w v l) (hb : Below w.heap.size w w') : Own base w' v l := by
  obtain ⟨h1, h2⟩ := h
  refine ⟨h1, ?_⟩
  rcases h2 with h2 | ⟨g, cap, cur, hv, hg, hh, r⟩
  · exact .inl h2
  · exact .inr ⟨g, cap, cur, hv, hg, by rw [hb.block g (Array.getElem?_eq_some_iff.1 hh).1]; exact hh, r⟩

theorem Own.mono {base base' : Nat} {w : World} {v : Value} {l : List Int} (h : Own base w v l) (hb : base' ≤ base) : Own base' w v l := by
  obtain ⟨h1, h2⟩ := h
  refine ⟨h1, ?_⟩
  rcases h2 with h2 | ⟨g, cap, cur, hv, hg, r⟩
  · exact .inl h2
  · exact .inr ⟨g, cap, cur, hv, Nat.le_trans hb hg, r⟩

/-- What an owned slice reads as. -/
theorem Own.ints {base : Nat} {w : World} {v : Value} {l : List Int} (h : Own base w v l) (hwf : ∀ n ∈ l, -9223372036854775808 ≤ n ∧ n ≤ 9223372036854775807) :
    ∃ a len cap, v = .slice a len cap ∧ Ints w a len cap l ∧
      ((a = none ∧ len = 0 ∧ cap = 0) ∨ ∃ g, a = some ⟨g, 0, none⟩ ∧ base ≤ g ∧ g < w.heap.size ∧ ∀ i, i < cap → w.frozen? ⟨g, i, none⟩ = false ∧ ∃ u, w.cell? ⟨g, i, none⟩ = some u) := by
  obtain ⟨h1, h2⟩ := h
  rcases h2 with ⟨rfl, h0⟩ | ⟨g, cap, cur, rfl, hg, hh, hn, hm, hc, ht⟩
  · have : l = [] := List.eq_nil_of_length_eq_zero h0
    subst this
    exact ⟨none, 0, 0, rfl, Ints.nil, .inl ⟨rfl, rfl, rfl⟩⟩
  · have hlt := (Array.getElem?_eq_some_iff.1 hh).1
    have hcell : ∀ i, w.cell? ⟨g, i, none⟩ = cur[i]? := fun i => by simp [World.cell?, hh]
    refine ⟨_, _, _, rfl, ⟨hn, by unfold maxLen at hm; omega, rfl, hwf, fun _ => ⟨g, 0, rfl, hlt, fun i hi => ?_⟩⟩, .inr ⟨g, rfl, hg, hlt, fun i hi => ⟨by simp [World.frozen?, hh], ?_⟩⟩⟩
    · rw [Nat.zero_add, hcell]
      have h3 : (cur.toList.take (l.length * 1))[i]? = (l.map (Value.int .i64))[i]? := by rw [ht]
      rw [List.getElem?_take, if_pos (by omega), List.getElem?_map, List.getElem?_eq_getElem hi] at h3
      rw [nth_eq l i hi]
      simpa using h3
    · rw [hcell]
      exact ⟨_, Array.getElem?_eq_getElem (by omega)⟩

/-- 'l = append(l, x)' on a slice of the call's own: behind the block of one cell that the operand lays. -/
theorem wpList_app1 {ops : Array Oper} {rest : List Oper} {o : Oper} {a : Act} {Q : Exit → Act → World → Prop} (w : World) (hgd : o.guard = none) (s t : Operand)
    (ho : o.op = .call { callee := .builtin .append, args := #[s, t], argTypes := #[22, 22] }) (base : Nat) (v : Value) (l : List Int) (x : Int)
    (hown : Own base w v l) (hs : a.eval s = v) (ht : a.eval t = .slice (some ⟨w.heap.size, 0, none⟩) 1 1) (hb : base ≤ w.heap.size) (hlen : l.length < 1099511627776)
    (h : ∀ v' w', Own base w' v' (l ++ [x]) → Below base w w' → w.grownBy w' v.ownBlock → wpList Tryz.prog ops Q rest (a.put o.dst v') w') :
    wpList Tryz.prog ops Q (o :: rest) a (w.alloc (.cells #[.int .i64 x] 3)) := by
  obtain ⟨i0, hi, hz0, hz1, hz2⟩ := info_parts Tryz.info3
  refine wpList_append_own _ hgd s t 22 ho base 3 i0 (.int .i64 0) 1 8 Tryz.underlying22 hi hz0 hz1 hz2 rfl (by decide) v l.length (l.map (Value.int .i64)) hs (hown.alloc _) ⟨w.heap.size, 0, none⟩ 1 1 [.int .i64 x] ht rfl ?_ ?_ ?_ ?_ ?_ ?_
  · intro j u hj
    match j, hj with
    | 0, hj => simp at hj; subst hj; simp [Addr.add]
  · intro u hu; simp at hu; subst hu; rfl
  · unfold maxLen; omega
  · omega
  · simp; omega
  · intro v' w' hown' hgrow _
    refine h v' w' ?_ ?_ ?_
    · unfold Own; simpa using hown'
    · refine ((Below.refl base w).alloc hb _).grown hgrow (by simp; omega) ?_
      intro k hk
      exact (World.ownsRow.lt hown k hk).1
    · exact ⟨hgrow.os, hgrow.tape, hgrow.output, Nat.le_trans (by simp) hgrow.size, fun k hk hn => (hgrow.block k (by simp; omega) hn).trans (Below.heap_alloc _ _ _ hk)⟩

/-- The same inside a region that draws its order. -/
theorem step_app1 {ops : Array Oper} {o : Oper} {a : Act} {K : Act → World → Prop} {Q : Exit → Act → World → Prop} {E : Prop} (W : World) (hgd : o.guard = none) (s t : Operand)
    (ho : o.op = .call { callee := .builtin .append, args := #[s, t], argTypes := #[22, 22] }) (base : Nat) (v : Value) (l : List Int) (x : Int) (b : Nat)
    (hown : Own base W v l) (hs : a.eval s = v) (ht : a.eval t = .slice (some ⟨b, 0, none⟩) 1 1) (hnew : W.heap[b]? = some (.cells #[.int .i64 x] 3 (0, 0))) (hb : base ≤ W.heap.size) (hlen : l.length < 1099511627776)
    (h : ∀ v' w', Own base w' v' (l ++ [x]) → W.grownBy w' v.ownBlock → K (a.put o.dst v') w') :
    if Region.wanted o (yielded ops a.tmps) = true then Oper.wp Tryz.prog o a W K Q else E := by
  obtain ⟨i0, hi, hz0, hz1, hz2⟩ := info_parts Tryz.info3
  have hw : Region.wanted o (yielded ops a.tmps) = true := by simp [Region.wanted, hgd]
  rw [if_pos hw]
  refine wp_append_own W s t 22 ho base 3 i0 (.int .i64 0) 1 8 Tryz.underlying22 hi hz0 hz1 hz2 rfl (by decide) v l.length (l.map (Value.int .i64)) hs hown ⟨b, 0, none⟩ 1 1 [.int .i64 x] ht rfl ?_ ?_ ?_ ?_ hb ?_
  · intro j u hj
    match j, hj with
    | 0, hj => simp at hj; subst hj; simp [Addr.add, World.cell?, hnew]
  · intro u hu; simp at hu; subst hu; rfl
  · unfold maxLen; omega
  · omega
  · intro v' w' hown' hgrow _
    exact h v' w' (by unfold Own; simpa using hown') hgrow

theorem Own.lt {base : Nat} {w : World} {v : Value} {l : List Int} (h : Own base w v l) : ∀ k, v.ownBlock = some k → base ≤ k ∧ k < w.heap.size := World.ownsRow.lt h

theorem cell_keep {W w' : World} {row : Option Nat} {b i : Nat} {u : Value} (hg : W.grownBy w' row) (h : W.cell? ⟨b, i, none⟩ = some u) (_ : b < W.heap.size) (hn : some b ≠ row) : w'.cell? ⟨b, i, none⟩ = some u :=
  hg.cell h hn

theorem Ints.alloc {w : World} {a : Option Addr} {len cap : Nat} {l : List Int} (h : Ints w a len cap l) (o : Obj) : Ints (w.alloc o) a len cap l := h.below ((Below.refl _ _).alloc (Nat.le_refl _) o)

end Go.Proofs.YtekejcnphmnidaaGreatDoor

/- EvNodes: the node check of the evicts document: contract nodes_any.
-/
namespace Go.Proofs.YtekejcnphmnidaaGreatDoor
open Go.RowKit

/-- What slices.Index answers, as far as slices.Contains asks. -/
def IsIdx (l : List Int) (v : Int) (e : Ending) : Prop := ∃ i : Int, e = .returned (.int .i64 i) ∧ decide (0 ≤ i) = hasB l v

set_option maxHeartbeats 400000 in
theorem index_any (a : Option Addr) (len cap : Nat) (l : List Int) (v : Int) (w : World) (H : Ints w a len cap l) :
    Calls Tryz.prog 138 #[.slice a len cap, .int .i64 v] w fun e w' => IsIdx l v e ∧ w = w' := by
  obtain ⟨hle, hcap, hlen, _, hat⟩ := H
  have HL := Lib.hid hlen; clear hlen
  go_enter Tryz.func138, Tryz.ntmps138
  go_wp2
  go_loop [8] (fun i => ∃ k : Nat, k ≤ len ∧ i = .int .i64 k ∧ Hid (hasB (l.take k) v = false)) (fun i => len - (intOf i).toNat)
  case atStart => exact ⟨0, Nat.zero_le _, rfl, hasB_nil v⟩
  case round =>
    obtain ⟨k, hk, rfl, HN⟩ := hrel
    by_cases hlt : k < len
    · obtain ⟨b, off, rfl, _, hc⟩ := hat (by omega)
      have hck := hc k hlt
      clear hc hat
      by_cases hv : nth l k = v
      · have HC := Lib.hid (hasB_hit l v k (by have := HL.out; omega) hv)
        have hvb : (v == nth l k) = true := by simp [hv]
        clear hv
        go_wp2
        go_ret
        exact ⟨⟨k, rfl, by rw [HC.out]; simp⟩, rfl⟩
      · have HC := Lib.hid (hasB_snoc l v k (by have := HL.out; omega) HN.out hv)
        have hvb : (v == nth l k) = false := by simpa using fun h => hv h.symm
        clear hv
        go_wp2
        go_round
        case rel => exact ⟨k + 1, by omega, by go_num, HC.out⟩
        case measure => simp [intOf]; omega
    · go_wp2
      go_ret
      exact ⟨⟨-1, rfl, by rw [hasB_all l v k (by have := HL.out; omega) HN.out]; rfl⟩, rfl⟩

theorem contains_any (a : Option Addr) (len cap : Nat) (l : List Int) (v : Int) (w : World) (H : Ints w a len cap l) :
    Calls Tryz.prog 52 #[.slice a len cap, .int .i64 v] w fun e w' => e = .returned (.bool (hasB l v)) ∧ w = w' := by
  go_enter Tryz.func52, Tryz.ntmps52
  go_wp2_with fail
  refine (index_any _ _ _ l _ _ H).mono ?_
  rintro e w1 ⟨⟨i, rfl, hi⟩, rfl⟩
  have HI := Lib.hid hi; clear hi
  go_wp2
  go_ret
  exact ⟨by rw [← HI.out]; rfl, rfl⟩

set_option maxHeartbeats 400000 in
theorem nodes_any (a : Option Addr) (len cap : Nat) (l : List Int) (many : Int) (w : World) (H : Ints w a len cap l) :
    Calls Tryz.prog 50 #[.slice a len cap, .int .i64 many] w fun e w' => e = .returned (.bool (Ev.nodesB many [] l)) ∧ w = w' := by
  have HI := Lib.hid H
  obtain ⟨hle, hcap, hlen, _, hat⟩ := H
  have HL := Lib.hid hlen; clear hlen
  go_enter Tryz.func50, Tryz.ntmps50
  go_wp2
  go_loop [9] (fun i => ∃ k : Nat, k ≤ len ∧ i = .int .i64 k ∧ Hid (Ev.nodesB many [] l = Ev.nodesB many (l.take k) (l.drop k))) (fun i => len - (intOf i).toNat)
  case atStart => exact ⟨0, Nat.zero_le _, rfl, rfl⟩
  case round =>
    obtain ⟨k, hk, rfl, HN⟩ := hrel
    by_cases hlt : k < len
    · obtain ⟨b, off, rfl, _, hc⟩ := hat (by omega)
      have hck := hc k hlt
      clear hc hat
      have HS : Hid (Ev.nodesB many [] l = (decide (0 ≤ nth l k) && decide (nth l k < many) && !hasB (l.take k) (nth l k) && Ev.nodesB many (l.take (k + 1)) (l.drop (k + 1)))) := by
        have hk' : k < l.length := by have := HL.out; omega
        show _ = _
        rw [HN.out, List.drop_eq_getElem_cons hk', take_snoc l k hk', nth_eq l k hk']
        rfl
      by_cases h0 : 0 ≤ nth l k
      · by_cases hm : nth l k < many
        · have hp0 : decide (nth l k < 0) = false := decide_eq_false (by omega)
          have hp1 : decide (nth l k ≥ many) = false := decide_eq_false (by omega)
          cases hh : hasB (l.take k) (nth l k) with
          | true =>
            have HR := Lib.hid (show Ev.nodesB many [] l = false by rw [HS.out, hh]; simp)
            have HH := Lib.hid hh; clear hh
            go_wp2_with (go_at_call 52; refine (contains_any _ _ _ (l.take k) _ _ (HI.out.take k (by omega))).mono ?_; rintro e w1 ⟨rfl, rfl⟩; rw [HH.out])
            go_ret
            exact ⟨by rw [HR.out]; rfl, rfl⟩
          | false =>
            have HH := Lib.hid hh; clear hh
            go_wp2_with (go_at_call 52; refine (contains_any _ _ _ (l.take k) _ _ (HI.out.take k (by omega))).mono ?_; rintro e w1 ⟨rfl, rfl⟩; rw [HH.out])
            go_round
            case rel => exact ⟨k + 1, by omega, by go_num, by show _ = _; rw [HS.out, HH.out]; simp [h0, hm]⟩
            case measure => simp [intOf]; omega
        · have hp0 : decide (nth l k < 0) = false := decide_eq_false (by omega)
          have hp1 : decide (nth l k ≥ many) = true := decide_eq_true (by omega)
          have HR := Lib.hid (show Ev.nodesB many [] l = false by rw [HS.out]; simp [hm])
          go_wp2
          go_ret
          exact ⟨by rw [HR.out]; rfl, rfl⟩
      · have hp0 : decide (nth l k < 0) = true := decide_eq_true (by omega)
        have HR := Lib.hid (show Ev.nodesB many [] l = false by rw [HS.out]; simp [h0])
        go_wp2
        go_ret
        exact ⟨by rw [HR.out]; rfl, rfl⟩
    · go_wp2
      go_ret
      have hk' : l.length ≤ k := by have := HL.out; omega
      exact ⟨by rw [HN.out, List.drop_eq_nil_of_le hk']; rfl, rfl⟩
end Go.Proofs.YtekejcnphmnidaaGreatDoor

/- Same: drydocklaw01.SameInts: contract same_any (whether two slices of ints are the same).
-/
namespace Go.Proofs.YtekejcnphmnidaaGreatDoor
open Go.RowKit

def sameB (l m : List Int) : Bool := decide (l = m)

theorem sameB_self (l : List Int) : sameB l l = true := by simp [sameB]
theorem sameB_iff (l m : List Int) : sameB l m = true ↔ l = m := by simp [sameB]
theorem sameB_len {l m : List Int} (h : l.length ≠ m.length) : sameB l m = false := by
  unfold sameB; exact decide_eq_false fun e => h (by rw [e])
theorem sameB_miss {l m : List Int} {k : Nat} (h : nth l k ≠ nth m k) : sameB l m = false := by
  unfold sameB; exact decide_eq_false fun e => h (by rw [e])
theorem sameB_end {l m : List Int} {k : Nat} (h : l.length = m.length) (hk : l.length ≤ k) (ht : l.take k = m.take k) : sameB l m = true := by
  rw [List.take_of_length_le hk, List.take_of_length_le (by omega)] at ht
  rw [ht]; exact sameB_self m
theorem take_more {l m : List Int} {k : Nat} (h1 : k < l.length) (h2 : k < m.length) (ht : l.take k = m.take k) (hn : nth l k = nth m k) : l.take (k + 1) = m.take (k + 1) := by
  rw [nth_eq l k h1, nth_eq m k h2] at hn
  rw [List.take_succ_eq_append_getElem h1, List.take_succ_eq_append_getElem h2, ht, hn]

set_option maxHeartbeats 1000000 in
theorem same_any (a b : Option Addr) (la ca lb cb : Nat) (l m : List Int) (w : World) (HA : Ints w a la ca l) (HB : Ints w b lb cb m) :
    Calls Tryz.prog 13 #[.slice a la ca, .slice b lb cb] w fun e w' => e = .returned (.bool (sameB l m)) ∧ Below w.heap.size w w' := by
  have KA := Lib.hid HA
  have KB := Lib.hid HB
  have ha1 := HA.le
  have ha2 := HA.cap_le
  have hb1 := HB.le
  have hb2 := HB.cap_le
  have LA := Lib.hid HA.length
  have LB := Lib.hid HB.length
  clear HA HB
  by_cases hl : la = lb
  · subst hl
    have hne : ((la : Int) != (la : Int)) = false := by simp
    go_enter Tryz.func13, Tryz.ntmps13
    go_wp2
    go_loopg [5] la (fun gg i wr => ∃ k : Nat, k ≤ la ∧ la - k ≤ gg ∧ i = .int .i64 k ∧ Hid (l.take k = m.take k) ∧ Hid (Below w.heap.size w wr))
    case atStart => exact ⟨0, Nat.zero_le _, by omega, rfl, rfl, Below.refl _ _⟩
    case round =>
      obtain ⟨k, hk, hg, rfl, HT, HWr⟩ := hrel
      by_cases hlt : k < la
      · obtain ⟨ba, oa, rfl, _, hca⟩ := (KA.out.below HWr.out).at_ (by omega)
        obtain ⟨bb, ob, rfl, _, hcb⟩ := (KB.out.below HWr.out).at_ (by omega)
        have hak := hca k hlt
        have hbk := hcb k hlt
        clear hca hcb
        by_cases hv : nth l k = nth m k
        · have HN := Lib.hid (take_more (by rw [LA.out]; exact hlt) (by rw [LB.out]; exact hlt) HT.out hv)
          have hvb : (nth l k != nth m k) = false := by simp [hv]
          clear hv
          go_wp2_with fail
          go_quiet (fail)
          go_wp2
          go_roundg (la - (k + 1))
          case measure => omega
          case rel => exact ⟨k + 1, by omega, by omega, by go_num, HN.out, HWr.out.trans (below_drewN _ _ _)⟩
        · have HN := Lib.hid (sameB_miss hv)
          have hvb : (nth l k != nth m k) = true := by simp [hv]
          clear hv
          go_wp2_with fail
          go_quiet (fail)
          go_wp2
          go_ret
          exact ⟨by rw [HN.out]; rfl, HWr.out.trans (below_drewN _ _ _)⟩
      · have HN := Lib.hid (sameB_end (l := l) (m := m) (k := k) (by rw [LA.out, LB.out]) (by rw [LA.out]; omega) HT.out)
        go_wp2
        go_ret
        exact ⟨by rw [HN.out]; rfl, HWr.out⟩
  · have hne : ((la : Int) != (lb : Int)) = true := by simp; omega
    have HN := Lib.hid (sameB_len (l := l) (m := m) (by rw [LA.out, LB.out]; exact hl))
    clear hl
    go_enter Tryz.func13, Tryz.ntmps13
    go_wp2
    go_ret
    exact ⟨by rw [HN.out]; rfl, Below.refl _ _⟩
end Go.Proofs.YtekejcnphmnidaaGreatDoor

/- EvFar: drydockref21 far: contract far_any (the next use of a node, or one past the last).
-/
namespace Go.Proofs.YtekejcnphmnidaaGreatDoor
open Go.RowKit Go.Sort

theorem Ints.get {w : World} {a : Option Addr} {len cap : Nat} {l : List Int} (h : Ints w a len cap l) {x : Int} (h0 : 0 ≤ x) (h1 : x < len) :
    ∃ b off, a = some ⟨b, off, none⟩ ∧ b < w.heap.size ∧ w.cell? ⟨b, off + x.toNat, none⟩ = some (.int .i64 (Ev.at_ l x)) := by
  obtain ⟨b, off, e, hb, hc⟩ := h.at_ (by omega)
  exact ⟨b, off, e, hb, hc x.toNat (by omega)⟩

theorem at_wf {w : World} {a : Option Addr} {len cap : Nat} {l : List Int} (h : Ints w a len cap l) {x : Int} (h0 : 0 ≤ x) (h1 : x < len) : -9223372036854775808 ≤ Ev.at_ l x ∧ Ev.at_ l x ≤ 9223372036854775807 :=
  h.nth_wf (k := x.toNat) (by omega)

theorem ints_two (w : World) (u v : Int) (hu : -9223372036854775808 ≤ u ∧ u ≤ 9223372036854775807) (hv : -9223372036854775808 ≤ v ∧ v ≤ 9223372036854775807) :
    Ints (w.alloc (.cells #[.int .i64 u, .int .i64 v] 3)) (some ⟨w.heap.size, 0, none⟩) 2 2 [u, v] := by
  refine ⟨Nat.le_refl _, by omega, rfl, ?_, fun _ => ⟨w.heap.size, 0, rfl, by simp, ?_⟩⟩
  · intro n hn
    simp only [List.mem_cons, List.not_mem_nil, or_false] at hn
    rcases hn with rfl | rfl
    · exact hu
    · exact hv
  · intro i hi
    rw [World.cell?_alloc_at _ _ _ _ rfl]
    match i, hi with
    | 0, _ => rfl
    | 1, _ => rfl

theorem Ints.drew {w : World} {a : Option Addr} {len cap : Nat} {l : List Int} (h : Ints w a len cap l) : Ints w.drew a len cap l := h.drewN 1

theorem cmpI_wf (x y : Int) : -9223372036854775808 ≤ Ev.cmpI x y ∧ Ev.cmpI x y ≤ 9223372036854775807 := by
  unfold Ev.cmpI; split <;> (try split) <;> omega

theorem far_lt (bytes next : List Int) (x y : Int) (h : Ev.at_ next x < 0) (k : 0 ≤ Ev.at_ next y) : Ev.far bytes next x y = -1 := by unfold Ev.far; rw [if_pos ⟨h, k⟩]
theorem far_gt (bytes next : List Int) (x y : Int) (h : 0 ≤ Ev.at_ next x) (k : Ev.at_ next y < 0) : Ev.far bytes next x y = 1 := by unfold Ev.far; rw [if_neg (by omega), if_pos ⟨h, k⟩]
theorem far_cmp (bytes next : List Int) (x y : Int) (h : 0 ≤ Ev.at_ next x) (k : 0 ≤ Ev.at_ next y) (hn : Ev.at_ next x ≠ Ev.at_ next y) : Ev.far bytes next x y = Ev.cmpI (Ev.at_ next y) (Ev.at_ next x) := by
  unfold Ev.far; rw [if_neg (by omega), if_neg (by omega), if_pos ⟨h, hn⟩]
theorem far_or (bytes next : List Int) (x y : Int) (h : (0 ≤ Ev.at_ next x ∧ Ev.at_ next x = Ev.at_ next y) ∨ (Ev.at_ next x < 0 ∧ Ev.at_ next y < 0)) :
    Ev.far bytes next x y = Ev.orI (Ev.cmpI (Ev.at_ bytes y) (Ev.at_ bytes x)) (Ev.cmpI x y) := by
  unfold Ev.far; rw [if_neg (by omega), if_neg (by omega), if_neg (by omega)]

set_option maxHeartbeats 2000000 in
set_option maxRecDepth 100000 in
theorem far_any (ab an : Option Addr) (lb cb ln cn : Nat) (bytes next : List Int) (x y : Int) (w : World) (HB : Ints w ab lb cb bytes) (HN : Ints w an ln cn next) (hl : ln = lb)
    (hx0 : 0 ≤ x) (hx1 : x < lb) (hy0 : 0 ≤ y) (hy1 : y < lb) :
    Calls Tryz.prog 53 #[.agg #[.slice ab lb cb, .slice an ln cn, .func (.func 53) #[] #[]], .int .i64 x, .int .i64 y] w fun e w' => e = .returned (.int .i64 (Ev.far bytes next x y)) ∧ More w w' := by
  subst hl
  obtain ⟨bb, ob, rfl, hbb, cbx⟩ := HB.get hx0 hx1
  obtain ⟨_, _, e1, _, cby⟩ := HB.get hy0 hy1
  simp only [Option.some.injEq, Addr.mk.injEq] at e1
  obtain ⟨rfl, rfl, _⟩ := e1
  obtain ⟨bn, on, rfl, hbn, cnx⟩ := HN.get hx0 hx1
  obtain ⟨_, _, e2, _, cny⟩ := HN.get hy0 hy1
  simp only [Option.some.injEq, Addr.mk.injEq] at e2
  obtain ⟨rfl, rfl, _⟩ := e2
  clear HB HN
  by_cases h1 : Ev.at_ next x < 0
  · have d1 : decide (Ev.at_ next x < 0) = true := decide_eq_true h1
    have d2 : decide (Ev.at_ next x ≥ 0) = false := decide_eq_false (by omega)
    by_cases h2 : 0 ≤ Ev.at_ next y
    · have d3 : decide (Ev.at_ next y ≥ 0) = true := decide_eq_true h2
      have HR := Lib.hid (far_lt bytes next x y h1 h2)
      clear h1 h2
      go_enter Tryz.func53, Tryz.ntmps53
      go_wp2
      go_quiet (fail)
      go_wp2
      go_ret
      exact ⟨by rw [HR.out]; rfl, ((More.refl w).alloc _).drewN _⟩
    · have d3 : decide (Ev.at_ next y ≥ 0) = false := decide_eq_false h2
      have HR := Lib.hid (far_or bytes next x y (.inr ⟨h1, by omega⟩))
      clear h1 h2
      go_enter Tryz.func53, Tryz.ntmps53
      go_wp2
      go_quiet (fail)
      go_wp2
      have hM : More w ((w.alloc (.cells #[.slice (some ⟨bb, ob, none⟩) ln cb, .slice (some ⟨bn, on, none⟩) ln cn, .func (.func 53) #[] #[]] 90)).drewN nq) := ((More.refl w).alloc _).drewN nq
      have c0 : ((w.alloc (.cells #[.slice (some ⟨bb, ob, none⟩) ln cb, .slice (some ⟨bn, on, none⟩) ln cn, .func (.func 53) #[] #[]] 90)).drewN nq).cell? ⟨w.heap.size, 0, none⟩ = some (.slice (some ⟨bb, ob, none⟩) ln cb) := by
        rw [World.cell?_drewN, World.cell?_alloc_at _ _ _ _ rfl]; rfl
      have cbx2 := (hM.below.cell (p := ⟨bb, ob + x.toNat, none⟩) hbb).trans cbx
      have cby2 := (hM.below.cell (p := ⟨bb, ob + y.toNat, none⟩) hbb).trans cby
      clear cbx cby cnx cny
      generalize (w.alloc (.cells #[.slice (some ⟨bb, ob, none⟩) ln cb, .slice (some ⟨bn, on, none⟩) ln cn, .func (.func 53) #[] #[]] 90)).drewN nq = w2 at *
      have HM := Lib.hid hM; clear hM
      refine wp_region_still_tail 14 mixed (by kernel_rfl) ?_
      simp only [List.take_succ_cons, List.take_zero, List.drop_succ_cons, List.drop_zero]
      change wpStill _ _ w2.drew _ _ _
      repeat still_step
      still_call ((compare_any _ _ _).mono fun _ _ ⟨he, hw⟩ => ⟨he, hw.symm⟩)
      repeat still_step
      still_call ((compare_any _ _ _).mono fun _ _ ⟨he, hw⟩ => ⟨he, hw.symm⟩)
      repeat still_step
      refine wpStill_nil ?_
      change wpList _ _ _ _ _ w2.drew
      go_wp2_with (go_at_call 140; refine (or_any _ _ _ _ _ (ints_two w2 _ _ (cmpI_wf _ _) (cmpI_wf _ _)).drew).mono ?_; rintro e w1 ⟨rfl, rfl⟩; rw [orL_two])
      go_ret
      exact ⟨by rw [HR.out]; rfl, (HM.out.alloc _).drew⟩
  · have d1 : decide (Ev.at_ next x < 0) = false := decide_eq_false h1
    have d2 : decide (Ev.at_ next x ≥ 0) = true := decide_eq_true (by omega)
    by_cases h2 : 0 ≤ Ev.at_ next y
    · have d3 : decide (Ev.at_ next y ≥ 0) = true := decide_eq_true h2
      have d4 : decide (Ev.at_ next y < 0) = false := decide_eq_false (by omega)
      by_cases h3 : Ev.at_ next x = Ev.at_ next y
      · have d5 : (Ev.at_ next x != Ev.at_ next y) = false := by simp [h3]
        have HR := Lib.hid (far_or bytes next x y (.inl ⟨by omega, h3⟩))
        clear h1 h2 h3
        go_enter Tryz.func53, Tryz.ntmps53
        go_wp2
        go_quiet (fail)
        go_wp2
        have hM : More w ((w.alloc (.cells #[.slice (some ⟨bb, ob, none⟩) ln cb, .slice (some ⟨bn, on, none⟩) ln cn, .func (.func 53) #[] #[]] 90)).drewN nq) := ((More.refl w).alloc _).drewN nq
        have c0 : ((w.alloc (.cells #[.slice (some ⟨bb, ob, none⟩) ln cb, .slice (some ⟨bn, on, none⟩) ln cn, .func (.func 53) #[] #[]] 90)).drewN nq).cell? ⟨w.heap.size, 0, none⟩ = some (.slice (some ⟨bb, ob, none⟩) ln cb) := by
          rw [World.cell?_drewN, World.cell?_alloc_at _ _ _ _ rfl]; rfl
        have cbx2 := (hM.below.cell (p := ⟨bb, ob + x.toNat, none⟩) hbb).trans cbx
        have cby2 := (hM.below.cell (p := ⟨bb, ob + y.toNat, none⟩) hbb).trans cby
        clear cbx cby cnx cny
        generalize (w.alloc (.cells #[.slice (some ⟨bb, ob, none⟩) ln cb, .slice (some ⟨bn, on, none⟩) ln cn, .func (.func 53) #[] #[]] 90)).drewN nq = w2 at *
        have HM := Lib.hid hM; clear hM
        refine wp_region_still_tail 14 mixed (by kernel_rfl) ?_
        simp only [List.take_succ_cons, List.take_zero, List.drop_succ_cons, List.drop_zero]
        change wpStill _ _ w2.drew _ _ _
        repeat still_step
        still_call ((compare_any _ _ _).mono fun _ _ ⟨he, hw⟩ => ⟨he, hw.symm⟩)
        repeat still_step
        still_call ((compare_any _ _ _).mono fun _ _ ⟨he, hw⟩ => ⟨he, hw.symm⟩)
        repeat still_step
        refine wpStill_nil ?_
        change wpList _ _ _ _ _ w2.drew
        go_wp2_with (go_at_call 140; refine (or_any _ _ _ _ _ (ints_two w2 _ _ (cmpI_wf _ _) (cmpI_wf _ _)).drew).mono ?_; rintro e w1 ⟨rfl, rfl⟩; rw [orL_two])
        go_ret
        exact ⟨by rw [HR.out]; rfl, (HM.out.alloc _).drew⟩
      · have d5 : (Ev.at_ next x != Ev.at_ next y) = true := by simp [h3]
        have HR := Lib.hid (far_cmp bytes next x y (by omega) h2 h3)
        clear h1 h2 h3
        go_enter Tryz.func53, Tryz.ntmps53
        go_wp2
        go_quiet (fail)
        go_wp2_with (go_at_call 139; refine (compare_any _ _ _).mono ?_; rintro e w1 ⟨rfl, rfl⟩)
        go_ret
        exact ⟨by rw [HR.out]; rfl, ((More.refl w).alloc _).drewN _⟩
    · have d3 : decide (Ev.at_ next y < 0) = true := decide_eq_true (by omega)
      have HR := Lib.hid (far_gt bytes next x y (by omega) (by omega))
      clear h1 h2
      go_enter Tryz.func53, Tryz.ntmps53
      go_wp2
      go_quiet (fail)
      go_wp2
      go_ret
      exact ⟨by rw [HR.out]; rfl, ((More.refl w).alloc _).drewN _⟩
end Go.Proofs.YtekejcnphmnidaaGreatDoor

/- EvWithin: within of the evicts document: contracts within1_any, within_any.
-/
namespace Go.Proofs.YtekejcnphmnidaaGreatDoor
open Go.RowKit

/-- What slices.IndexFunc answers, as far as slices.ContainsFunc asks. -/
def IsIdxF (p : Int → Bool) (l : List Int) (e : Ending) : Prop := ∃ i : Int, e = .returned (.int .i64 i) ∧ decide (0 ≤ i) = anyB p l

set_option maxHeartbeats 400000 in
theorem indexFunc_any (g : Nat) (cb : Array Value) (p : Int → Bool) (eg : ∀ args w, (callFunc g args).run Tryz.prog w = .ok (.enter g args) w) (a : Option Addr) (len cap : Nat) (l : List Int) (w : World) (H : Ints w a len cap l) (hp : PredAt g cb p w) :
    Calls Tryz.prog 176 #[.slice a len cap, .func (.func g) #[] cb] w fun e w' => IsIdxF p l e ∧ Below w.heap.size w w' := by
  have HI := Lib.hid H
  have HP := Lib.hid hp; clear hp
  obtain ⟨hle, hcap, hlen, _, _⟩ := H
  have HL := Lib.hid hlen; clear hlen
  go_enter Tryz.func176, Tryz.ntmps176
  go_wp2
  go_loopg [5, 8] len (fun gg _ i wr => ∃ k : Nat, k ≤ len ∧ len - k ≤ gg ∧ i = .int .i64 k ∧ Hid (anyB p (l.take k) = false) ∧ Hid (Below w.heap.size w wr))
  case atStart => exact ⟨0, Nat.zero_le _, by omega, rfl, anyB_nil p, Below.refl _ _⟩
  case round =>
    obtain ⟨k, hk, hg, rfl, HN, HB⟩ := hrel
    by_cases hlt : k < len
    · obtain ⟨b, off, rfl, _, hc⟩ := (HI.out.below HB.out).at_ (by omega)
      have hck := hc k hlt
      clear hc
      have hwf := HI.out.nth_wf hlt
      have hcall := HP.out wr HB.out (nth l k) hwf.1 hwf.2
      cases hv : p (nth l k) with
      | true =>
        rw [hv] at hcall
        have HC := Lib.hid (anyB_hit p l k (by have := HL.out; omega) hv); clear hv
        have HCall := Lib.hid hcall; clear hcall
        go_wp2_with (go_at_fn g; refine HCall.out.mono ?_; rintro e w1 ⟨rfl, hb1⟩)
        go_ret
        exact ⟨⟨k, rfl, by rw [HC.out]; simp⟩, below_step HB.out hb1 HB.out.size⟩
      | false =>
        rw [hv] at hcall
        have HC := Lib.hid (anyB_snoc p l k (by have := HL.out; omega) HN.out hv); clear hv
        have HCall := Lib.hid hcall; clear hcall
        go_wp2_with (go_at_fn g; refine HCall.out.mono ?_; rintro e w1 ⟨rfl, hb1⟩)
        go_roundg (len - (k + 1))
        case measure => omega
        case rel => exact ⟨k + 1, by omega, by omega, by go_num, HC.out, below_step HB.out hb1 HB.out.size⟩
    · go_wp2
      go_ret
      exact ⟨⟨-1, rfl, by rw [anyB_all p l k (by have := HL.out; omega) HN.out]; rfl⟩, HB.out⟩

theorem containsFunc_any (g : Nat) (cb : Array Value) (p : Int → Bool) (eg : ∀ args w, (callFunc g args).run Tryz.prog w = .ok (.enter g args) w) (a : Option Addr) (len cap : Nat) (l : List Int) (w : World) (H : Ints w a len cap l) (hp : PredAt g cb p w) :
    Calls Tryz.prog 110 #[.slice a len cap, .func (.func g) #[] cb] w fun e w' => e = .returned (.bool (anyB p l)) ∧ Below w.heap.size w w' := by
  have HP := Lib.hid hp; clear hp
  have HG := Lib.hid eg; clear eg
  have HI := Lib.hid H; clear H
  go_enter Tryz.func110, Tryz.ntmps110
  go_wp2_with fail
  refine (indexFunc_any g cb p HG.out _ _ _ l _ HI.out HP.out).mono ?_
  rintro e w1 ⟨⟨i, rfl, hi⟩, hb⟩
  have HJ := Lib.hid hi; clear hi
  have HB := Lib.hid hb; clear hb
  go_wp2
  go_ret
  exact ⟨by rw [← HJ.out]; rfl, HB.out⟩

def outB (x : Int) : Bool := decide (x < 0) || decide (1048576 < x)

theorem within1_any (x : Int) (w : World) (_ : -9223372036854775808 ≤ x) (_ : x ≤ 9223372036854775807) :
    Calls Tryz.prog 137 #[.int .i64 x] w fun e w' => e = .returned (.bool (outB x)) ∧ w = w' := by
  by_cases h : x < 0
  · have hd : decide (x < 0) = true := decide_eq_true h
    have HR := Lib.hid (show outB x = true by simp [outB, h])
    clear h
    go_enter Tryz.func137, Tryz.ntmps137
    go_wp2
    go_ret
    exact ⟨by rw [HR.out]; rfl, rfl⟩
  · have hd : decide (x < 0) = false := decide_eq_false h
    by_cases h2 : 1048576 < x
    · have HR := Lib.hid (show outB x = true by simp [outB, h2])
      go_enter Tryz.func137, Tryz.ntmps137
      go_wp2
      go_ret
      exact ⟨by rw [HR.out]; rfl, rfl⟩
    · have HR := Lib.hid (show outB x = false by simp [outB, h, h2])
      go_enter Tryz.func137, Tryz.ntmps137
      go_wp2
      go_ret
      exact ⟨by rw [HR.out]; rfl, rfl⟩

theorem within1_pred (B : World) : PredAt 137 #[] outB B := fun w _ x h0 h1 => (within1_any x w h0 h1).mono fun _ _ ⟨he, hw⟩ => ⟨he, hw ▸ Below.refl _ _⟩

theorem within_anyB (l : List Int) : Ev.within l = !anyB outB l := by
  unfold Ev.within anyB
  induction l with
  | nil => rfl
  | cons v r ih =>
    simp only [List.all_cons, List.any_cons, ih, Bool.not_or]
    congr 1
    unfold outB
    by_cases h : v < 0 <;> by_cases h2 : 1048576 < v <;> simp [h, h2] <;> omega

theorem within_any (a : Option Addr) (len cap : Nat) (l : List Int) (w : World) (H : Ints w a len cap l) :
    Calls Tryz.prog 51 #[.slice a len cap] w fun e w' => e = .returned (.bool (Ev.within l)) ∧ Below w.heap.size w w' := by
  have HI := Lib.hid H; clear H
  have HR := Lib.hid (within_anyB l)
  go_enter Tryz.func51, Tryz.ntmps51
  go_wp2_with fail
  refine (containsFunc_any 137 #[] outB (enters_of Tryz.func137 (by kernel_rfl) rfl) _ _ _ l _ HI.out (within1_pred _)).mono ?_
  rintro e w1 ⟨rfl, hb⟩
  have HB := Lib.hid hb; clear hb
  go_wp2
  go_ret
  exact ⟨by rw [HR.out]; rfl, HB.out⟩
end Go.Proofs.YtekejcnphmnidaaGreatDoor
