/-
  Plain Lean, no program: what evicts.Pick computes (lists of integers), and the laws about it that the statements of chapter 21 ask.
-/
import Derived.Test.YtgmagldbfajedaaLists
namespace Go.Proofs.Ytgmagldbfajedaa
namespace Ev

/-- The element at an index. -/
def at_ (l : List Int) (i : Int) : Int := nth l i.toNat

/-- Of so many, each once. -/
def nodesB (many : Int) : List Int → List Int → Bool
  | _, [] => true
  | seen, v :: r => decide (0 ≤ v) && decide (v < many) && !hasB seen v && nodesB many (seen ++ [v]) r

def within (l : List Int) : Bool := l.all fun n => decide (0 ≤ n) && decide (n ≤ 1048576)

def sumB (bytes : List Int) : List Int → Int
  | [] => 0
  | v :: r => at_ bytes v + sumB bytes r

def frees (pin inn : List Int) : List Int := inn.filter fun v => !hasB pin v
def pins (pin inn : List Int) : List Int := inn.filter fun v => hasB pin v

def cmpI (x y : Int) : Int := if x < y then -1 else if y < x then 1 else 0
def orI (x y : Int) : Int := if x = 0 then y else x

/-- How nodes are held against one another. -/
def far (bytes next : List Int) (a b : Int) : Int :=
  if at_ next a < 0 ∧ 0 ≤ at_ next b then -1
  else if 0 ≤ at_ next a ∧ at_ next b < 0 then 1
  else if 0 ≤ at_ next a ∧ at_ next a ≠ at_ next b then cmpI (at_ next b) (at_ next a)
  else orI (cmpI (at_ bytes b) (at_ bytes a)) (cmpI a b)

def farLe (bytes next : List Int) (a b : Int) : Bool := decide (far bytes next a b ≤ 0)

def sorted (bytes next : List Int) (l : List Int) : List Int := l.mergeSort (farLe bytes next)

def greedy (bytes : List Int) (room : Int) : Int → List Int → List Int
  | _, [] => []
  | used, v :: r => if used ≤ room then [] else v :: greedy bytes room (used - at_ bytes v) r

/-- The arguments are in form. -/
def argsB (inn pin bytes next : List Int) (room need : Int) : Bool :=
  nodesB bytes.length [] inn && nodesB bytes.length [] pin && decide (next.length = bytes.length) && within bytes && within [room, need]

def pickE (inn pin bytes next : List Int) (room need : Int) : Int :=
  if argsB inn pin bytes next room need then (if room < need + sumB bytes (pins pin inn) then 13 else 0) else 1

def pickL (inn pin bytes next : List Int) (room need : Int) : List Int :=
  if pickE inn pin bytes next room need = 0 then greedy bytes room (need + sumB bytes inn) (sorted bytes next (frees pin inn)) else []

/-! ### The order is strict and total -/

theorem far_anti (bytes next : List Int) (a b : Int) (h : far bytes next a b ≤ 0) (k : far bytes next b a ≤ 0) : a = b := by
  simp only [far, cmpI, orI] at h k
  repeat' split at h
  all_goals (first | omega | skip)
  all_goals (repeat' split at k)
  all_goals omega

theorem far_total (bytes next : List Int) (a b : Int) : far bytes next a b ≤ 0 ∨ far bytes next b a ≤ 0 := by
  simp only [far, cmpI, orI]
  repeat' split
  all_goals omega

theorem far_trans (bytes next : List Int) (a b c : Int) (h : far bytes next a b ≤ 0) (k : far bytes next b c ≤ 0) : far bytes next a c ≤ 0 := by
  simp only [far, cmpI, orI] at h k ⊢
  generalize at_ next a = x at *
  generalize at_ next b = y at *
  generalize at_ next c = z at *
  generalize at_ bytes a = p at *
  generalize at_ bytes b = q at *
  generalize at_ bytes c = r at *
  split at h <;> split at k <;> (try omega) <;> (repeat' split) <;> (try omega) <;> (repeat' split at h) <;> (try omega) <;> (repeat' split at k) <;> omega

theorem far_neg (bytes next : List Int) (a b : Int) : far bytes next a b < 0 ↔ ¬ far bytes next b a ≤ 0 := by
  constructor
  · intro h k
    have := far_anti bytes next a b (by omega) k
    subst this
    simp only [far, cmpI, orI] at h
    repeat' split at h
    all_goals omega
  · intro h
    rcases far_total bytes next a b with h1 | h1
    · rcases Int.lt_or_eq_of_le h1 with h2 | h2
      · exact h2
      · exfalso
        apply h
        simp only [far, cmpI, orI] at h2 ⊢
        repeat' split at h2
        all_goals (first | omega | skip)
        all_goals (repeat' split)
        all_goals omega
    · exact absurd h1 h

theorem sorted_perm (bytes next l : List Int) : (sorted bytes next l).Perm l := List.mergeSort_perm _ _

theorem sorted_pairwise (bytes next l : List Int) : (sorted bytes next l).Pairwise fun a b => far bytes next a b ≤ 0 := by
  have := List.pairwise_mergeSort (le := farLe bytes next) (fun a b c h k => by
    simp only [farLe, decide_eq_true_eq] at *; exact far_trans bytes next a b c h k) (fun a b => by
    simp only [farLe, Bool.or_eq_true, decide_eq_true_eq]; exact far_total bytes next a b) l
  exact this.imp (by intro a b h; simpa [farLe] using h)

/-- Whatever is a permutation, and stands in order, is the sorted list. -/
theorem sorted_unique (bytes next l m : List Int) (hp : m.Perm l) (hs : m.Pairwise fun a b => far bytes next a b ≤ 0) : m = sorted bytes next l :=
  List.Perm.eq_of_pairwise (fun a b _ _ h k => far_anti bytes next a b h k) hs (sorted_pairwise bytes next l) (hp.trans (sorted_perm bytes next l).symm)

theorem sorted_of_perm (bytes next l m : List Int) (hp : l.Perm m) : sorted bytes next l = sorted bytes next m :=
  sorted_unique bytes next m _ ((sorted_perm bytes next l).trans hp) (sorted_pairwise bytes next l)

/-! ### Sums -/

theorem sumB_append (bytes l m : List Int) : sumB bytes (l ++ m) = sumB bytes l + sumB bytes m := by
  induction l with
  | nil => simp [sumB]
  | cons v r ih => simp only [List.cons_append, sumB, ih]; omega

theorem sumB_perm (bytes : List Int) {l m : List Int} (h : l.Perm m) : sumB bytes l = sumB bytes m := by
  induction h with
  | nil => rfl
  | cons x _ ih => simp only [sumB, ih]
  | swap x y l => simp only [sumB]; omega
  | trans _ _ h1 h2 => exact h1.trans h2

theorem sumB_split (bytes pin inn : List Int) : sumB bytes inn = sumB bytes (pins pin inn) + sumB bytes (frees pin inn) := by
  induction inn with
  | nil => rfl
  | cons v r ih =>
    unfold pins frees at *
    cases h : hasB pin v <;> simp only [List.filter_cons, h, sumB, Bool.not_true, Bool.not_false, Bool.false_eq_true, ↓reduceIte] <;> omega

theorem at_of_lt (bytes : List Int) (v : Int) (h0 : 0 ≤ v) (h : v < bytes.length) : at_ bytes v ∈ bytes := by
  exact nth_mem bytes v.toNat (by omega)

theorem at_within (bytes : List Int) (hw : within bytes = true) (v : Int) (h0 : 0 ≤ v) (h : v < bytes.length) : 0 ≤ at_ bytes v ∧ at_ bytes v ≤ 1048576 := by
  have := List.all_eq_true.1 hw _ (at_of_lt bytes v h0 h)
  simpa using this

theorem nodesB_iff (many : Int) (l : List Int) : ∀ seen, nodesB many seen l = true ↔ (∀ v ∈ l, 0 ≤ v ∧ v < many ∧ ¬ v ∈ seen) ∧ l.Nodup := by
  induction l with
  | nil => intro seen; simp [nodesB]
  | cons v r ih =>
    intro seen
    simp only [nodesB, Bool.and_eq_true, decide_eq_true_eq, Bool.not_eq_true', ih, List.mem_cons, List.nodup_cons, hasB_false, List.mem_append, List.not_mem_nil, or_false]
    constructor
    · rintro ⟨⟨⟨h1, h2⟩, h3⟩, h4, h5⟩
      refine ⟨?_, ?_, h5⟩
      · rintro u (rfl | hu)
        · exact ⟨h1, h2, h3⟩
        · exact ⟨(h4 u hu).1, (h4 u hu).2.1, fun h => (h4 u hu).2.2 (.inl h)⟩
      · intro hv
        exact (h4 v hv).2.2 (.inr rfl)
    · rintro ⟨h1, h2, h3⟩
      refine ⟨⟨⟨(h1 v (.inl rfl)).1, (h1 v (.inl rfl)).2.1⟩, (h1 v (.inl rfl)).2.2⟩, fun u hu => ⟨(h1 u (.inr hu)).1, (h1 u (.inr hu)).2.1, ?_⟩, h3⟩
      rintro (h | rfl)
      · exact (h1 u (.inr hu)).2.2 h
      · exact h2 hu

theorem nodesB_mem {many : Int} {l : List Int} (h : nodesB many [] l = true) (v : Int) (hv : v ∈ l) : 0 ≤ v ∧ v < many :=
  let ⟨a, _⟩ := (nodesB_iff many l []).1 h; ⟨(a v hv).1, (a v hv).2.1⟩

theorem nodesB_perm {many : Int} {l m : List Int} (hp : l.Perm m) : nodesB many [] l = nodesB many [] m := by
  rw [Bool.eq_iff_iff, nodesB_iff, nodesB_iff]
  constructor
  · rintro ⟨a, b⟩; exact ⟨fun v hv => a v (hp.mem_iff.2 hv), hp.nodup_iff.1 b⟩
  · rintro ⟨a, b⟩; exact ⟨fun v hv => a v (hp.mem_iff.1 hv), hp.nodup_iff.2 b⟩

theorem sumB_bounds (bytes l : List Int) (hw : within bytes = true) (hl : ∀ v ∈ l, 0 ≤ v ∧ v < bytes.length) : 0 ≤ sumB bytes l ∧ sumB bytes l ≤ 1048576 * l.length := by
  induction l with
  | nil => simp [sumB]
  | cons v r ih =>
    have h1 := at_within bytes hw v (hl v (.head _)).1 (hl v (.head _)).2
    have h2 := ih fun u hu => hl u (.tail _ hu)
    simp only [sumB, List.length_cons]
    omega

/-! ### Step by step -/

theorem sumB_snoc (bytes l : List Int) (k : Nat) (hk : k < l.length) : sumB bytes (l.take (k + 1)) = sumB bytes (l.take k) + at_ bytes (nth l k) := by
  rw [take_snoc l k hk, sumB_append]; simp [sumB]
theorem frees_hit (pin l : List Int) (k : Nat) (hk : k < l.length) (h : hasB pin (nth l k) = true) : frees pin (l.take (k + 1)) = frees pin (l.take k) ∧ pins pin (l.take (k + 1)) = pins pin (l.take k) ++ [nth l k] := by
  unfold frees pins; rw [take_snoc l k hk]; simp [List.filter_append, h]
theorem frees_miss (pin l : List Int) (k : Nat) (hk : k < l.length) (h : hasB pin (nth l k) = false) : frees pin (l.take (k + 1)) = frees pin (l.take k) ++ [nth l k] ∧ pins pin (l.take (k + 1)) = pins pin (l.take k) := by
  unfold frees pins; rw [take_snoc l k hk]; simp [List.filter_append, h]
theorem frees_le (pin l : List Int) (k : Nat) : (frees pin (l.take k)).length ≤ k := Nat.le_trans (List.length_filter_le _ _) (List.length_take_le _ _)
theorem pins_le (pin l : List Int) (k : Nat) : (pins pin (l.take k)).length ≤ k := Nat.le_trans (List.length_filter_le _ _) (List.length_take_le _ _)

/-! ### The greedy beginning -/

theorem greedy_prefix (bytes : List Int) (room : Int) (s : List Int) : ∀ u, ∃ t, s = greedy bytes room u s ++ t := by
  induction s with
  | nil => intro u; exact ⟨[], rfl⟩
  | cons v r ih =>
    intro u
    unfold greedy
    split
    · exact ⟨v :: r, rfl⟩
    · obtain ⟨t, ht⟩ := ih (u - at_ bytes v)
      exact ⟨t, by rw [List.cons_append, ← ht]⟩

theorem greedy_step (bytes : List Int) (room : Int) (s : List Int) : ∀ u i, i < (greedy bytes room u s).length → room < u - sumB bytes ((greedy bytes room u s).take i) := by
  induction s with
  | nil => intro u i h; simp [greedy] at h
  | cons v r ih =>
    intro u i h
    unfold greedy at h ⊢
    split at h
    · simp at h
    · rename_i hu
      rw [if_neg hu]
      cases i with
      | zero => simp [sumB]; omega
      | succ i =>
        have := ih (u - at_ bytes v) i (by simpa using h)
        simp only [List.take_succ_cons, sumB]
        omega

theorem greedy_end (bytes : List Int) (room : Int) (s : List Int) : ∀ u, u - sumB bytes s ≤ room → u - sumB bytes (greedy bytes room u s) ≤ room := by
  induction s with
  | nil => intro u h; simpa [greedy] using h
  | cons v r ih =>
    intro u h
    unfold greedy
    split
    · simp [sumB]; omega
    · have := ih (u - at_ bytes v) (by simp only [sumB] at h; omega)
      simp only [sumB]; omega

/-- With more room less goes: the beginning of that. -/
theorem greedy_more (bytes : List Int) (room room' : Int) (hr : room ≤ room') (s : List Int) : ∀ u, ∃ t, greedy bytes room u s = greedy bytes room' u s ++ t := by
  induction s with
  | nil => intro u; exact ⟨[], rfl⟩
  | cons v r ih =>
    intro u
    by_cases h : u ≤ room
    · have h' : u ≤ room' := by omega
      exact ⟨[], by simp [greedy, h, h']⟩
    · by_cases h' : u ≤ room'
      · exact ⟨_, by simp [greedy, h']; rfl⟩
      · obtain ⟨t, ht⟩ := ih (u - at_ bytes v)
        exact ⟨t, by simp [greedy, h, h', ht]⟩

theorem greedy_none (bytes : List Int) (room u : Int) (s : List Int) (h : u ≤ room) : greedy bytes room u s = [] := by
  cases s <;> simp [greedy, h]

theorem greedy_nil (bytes next : List Int) (room u : Int) : greedy bytes room u (sorted bytes next []) = [] := by simp [sorted, greedy]

theorem greedy_at (bytes : List Int) (room u : Int) (s : List Int) (k : Nat) (hk : k < s.length) (hr : ¬ u - sumB bytes (s.take k) ≤ room)
    (h : greedy bytes room u s = s.take k ++ greedy bytes room (u - sumB bytes (s.take k)) (s.drop k)) :
    greedy bytes room u s = s.take (k + 1) ++ greedy bytes room (u - sumB bytes (s.take (k + 1))) (s.drop (k + 1)) := by
  rw [h, List.drop_eq_getElem_cons hk]
  conv => lhs; rw [greedy, if_neg hr]
  rw [sumB_snoc bytes s k hk, take_snoc s k hk, nth_eq s k hk, List.append_assoc]
  congr 2
  congr 1
  omega

/-! ### What is in form -/

theorem args_of_ok {inn pin bytes next : List Int} {room need : Int} (h : pickE inn pin bytes next room need = 0) : argsB inn pin bytes next room need = true ∧ need + sumB bytes (pins pin inn) ≤ room := by
  unfold pickE at h
  split at h
  · split at h
    · cases h
    · exact ⟨by assumption, by omega⟩
  · cases h

theorem args_parts {inn pin bytes next : List Int} {room need : Int} (h : argsB inn pin bytes next room need = true) :
    nodesB bytes.length [] inn = true ∧ nodesB bytes.length [] pin = true ∧ next.length = bytes.length ∧ within bytes = true ∧ (0 ≤ room ∧ room ≤ 1048576) ∧ (0 ≤ need ∧ need ≤ 1048576) := by
  unfold argsB at h
  simp only [Bool.and_eq_true, decide_eq_true_eq] at h
  obtain ⟨⟨⟨⟨h1, h2⟩, h3⟩, h4⟩, h5⟩ := h
  simp [within] at h5
  exact ⟨h1, h2, h3, h4, ⟨h5.1.1, h5.1.2⟩, ⟨h5.2.1, h5.2.2⟩⟩

/-! ### EvictsRoom -/

theorem room_end {inn pin bytes next : List Int} {room need : Int} (h : pickE inn pin bytes next room need = 0) :
    need + sumB bytes inn - sumB bytes (pickL inn pin bytes next room need) ≤ room := by
  obtain ⟨_, hp⟩ := args_of_ok h
  unfold pickL
  rw [if_pos h]
  refine greedy_end _ _ _ _ ?_
  rw [sumB_perm bytes (sorted_perm bytes next _)]
  have := sumB_split bytes pin inn
  omega

theorem room_step {inn pin bytes next : List Int} {room need : Int} (h : pickE inn pin bytes next room need = 0) (i : Nat) (hi : i < (pickL inn pin bytes next room need).length) :
    room < need + sumB bytes inn - sumB bytes ((pickL inn pin bytes next room need).take i) := by
  unfold pickL at hi ⊢
  rw [if_pos h] at hi ⊢
  exact greedy_step _ _ _ _ _ hi

theorem pickL_mem {inn pin bytes next : List Int} {room need : Int} {v : Int} (hv : v ∈ pickL inn pin bytes next room need) : v ∈ inn ∧ ¬ v ∈ pin := by
  unfold pickL at hv
  split at hv
  · obtain ⟨t, ht⟩ := greedy_prefix bytes room (sorted bytes next (frees pin inn)) (need + sumB bytes inn)
    have : v ∈ sorted bytes next (frees pin inn) := by rw [ht]; exact List.mem_append_left _ hv
    have := (sorted_perm bytes next _).mem_iff.1 this
    simpa [frees, hasB] using this
  · cases hv

theorem pickL_nodup {inn pin bytes next : List Int} {room need : Int} : (pickL inn pin bytes next room need).Nodup := by
  unfold pickL
  split
  · rename_i h
    obtain ⟨hk, _⟩ := args_of_ok h
    obtain ⟨h1, _⟩ := args_parts hk
    obtain ⟨_, hn⟩ := (nodesB_iff _ _ _).1 h1
    obtain ⟨t, ht⟩ := greedy_prefix bytes room (sorted bytes next (frees pin inn)) (need + sumB bytes inn)
    have : (sorted bytes next (frees pin inn)).Nodup := (sorted_perm bytes next _).nodup_iff.2 (hn.filter _)
    rw [ht] at this
    exact (List.nodup_append.1 this).1
  · exact List.nodup_nil

theorem not_mem_take {l : List Int} (h : l.Nodup) (i : Nat) (hi : i < l.length) : ¬ l[i] ∈ l.take i := by
  intro hm
  obtain ⟨j, hj, e⟩ := List.getElem_of_mem hm
  simp only [List.length_take] at hj
  rw [List.getElem_take] at e
  have hd := List.pairwise_iff_getElem.1 h j i (by omega) hi (by omega)
  exact hd e

theorem pickL_err {inn pin bytes next : List Int} {room need : Int} (h : pickE inn pin bytes next room need ≠ 0) : pickL inn pin bytes next room need = [] := by
  unfold pickL; rw [if_neg h]

/-! ### EvictsFar -/

theorem far_of {inn pin bytes next : List Int} {room need : Int} {u v : Int} (hu : u ∈ pickL inn pin bytes next room need) (hv : v ∈ inn) (hp : ¬ v ∈ pin) (hn : ¬ v ∈ pickL inn pin bytes next room need) :
    ¬ (at_ next v < 0 ∧ 0 ≤ at_ next u) ∧ ¬ (0 ≤ at_ next v ∧ 0 ≤ at_ next u ∧ at_ next u < at_ next v) := by
  unfold pickL at hu hn
  split at hu
  · rename_i he
    rw [if_pos he] at hn
    obtain ⟨t, ht⟩ := greedy_prefix bytes room (sorted bytes next (frees pin inn)) (need + sumB bytes inn)
    have hs := sorted_pairwise bytes next (frees pin inn)
    have hvs : v ∈ sorted bytes next (frees pin inn) := (sorted_perm bytes next _).mem_iff.2 (by simp [frees, hv, hasB, hp])
    rw [ht] at hs hvs
    have hvt : v ∈ t := (List.mem_append.1 hvs).resolve_left hn
    have hf := (List.pairwise_append.1 hs).2.2 u hu v hvt
    simp only [far, cmpI, orI] at hf
    constructor
    · rintro ⟨h1, h2⟩
      repeat' split at hf
      all_goals omega
    · rintro ⟨h1, h2, h3⟩
      repeat' split at hf
      all_goals omega
  · cases hu

/-! ### EvictsTurned -/

theorem args_turned (inn pin bytes next : List Int) (room need : Int) : argsB inn.reverse pin bytes next room need = argsB inn pin bytes next room need := by
  unfold argsB; rw [nodesB_perm (List.reverse_perm inn)]

theorem pickE_turned (inn pin bytes next : List Int) (room need : Int) : pickE inn.reverse pin bytes next room need = pickE inn pin bytes next room need := by
  unfold pickE
  rw [args_turned, sumB_perm bytes (l := pins pin inn.reverse) (m := pins pin inn) (by unfold pins; exact (List.reverse_perm inn).filter _)]

theorem pickL_turned (inn pin bytes next : List Int) (room need : Int) : pickL inn.reverse pin bytes next room need = pickL inn pin bytes next room need := by
  unfold pickL
  rw [pickE_turned, sumB_perm bytes (List.reverse_perm inn), sorted_of_perm bytes next (frees pin inn.reverse) (frees pin inn) (by unfold frees; exact (List.reverse_perm inn).filter _)]

theorem pickL_more {inn pin bytes next : List Int} {room room' need : Int} (hr : room ≤ room') (h : pickE inn pin bytes next room need = 0) (h' : pickE inn pin bytes next room' need = 0) :
    ∃ t, pickL inn pin bytes next room need = pickL inn pin bytes next room' need ++ t := by
  unfold pickL; rw [if_pos h, if_pos h']; exact greedy_more _ _ _ hr _ _

/-! ### EvictsNone -/

theorem none_args {inn pin bytes next : List Int} {room need room' need' : Int} (h : pickE inn pin bytes next room need ≠ 1) (hr : 0 ≤ room' ∧ room' ≤ 1048576) (hn : 0 ≤ need' ∧ need' ≤ 1048576) :
    argsB inn pin bytes next room' need' = true := by
  have h0 : argsB inn pin bytes next room need = true := by
    unfold pickE at h
    split at h
    · assumption
    · exact absurd rfl h
  unfold argsB at h0 ⊢
  simp only [Bool.and_eq_true, decide_eq_true_eq] at h0 ⊢
  refine ⟨h0.1, ?_⟩
  simp [within, hr, hn]

theorem none_ok {inn pin bytes next : List Int} {room' need' : Int} (h : argsB inn pin bytes next room' need' = true) (hp : need' + sumB bytes (pins pin inn) ≤ room') : pickE inn pin bytes next room' need' = 0 := by
  unfold pickE; rw [if_pos h, if_neg (by omega)]

theorem sumB_sub_pos (bytes : List Int) (hw : within bytes = true) (t : List Int) (ht : ∀ v ∈ t, 0 ≤ v ∧ v < bytes.length) (v : Int) (hv : v ∈ t) : at_ bytes v ≤ sumB bytes t := by
  induction t with
  | nil => cases hv
  | cons u r ih =>
    have h1 := at_within bytes hw u (ht u (.head _)).1 (ht u (.head _)).2
    have h2 := sumB_bounds bytes r hw fun x hx => ht x (.tail _ hx)
    simp only [sumB]
    cases hv with
    | head => omega
    | tail _ hv => have := ih (fun x hx => ht x (.tail _ hx)) hv; omega

/-- Where all that is not pinned must go all of it does. -/
theorem none_all {inn pin bytes next : List Int} {used : Int} (h : pickE inn pin bytes next used (used - sumB bytes (pins pin inn)) = 0) (v : Int) (hv : v ∈ inn) (hp : ¬ v ∈ pin) (hb : 0 < at_ bytes v) :
    v ∈ pickL inn pin bytes next used (used - sumB bytes (pins pin inn)) := by
  have he := room_end h
  obtain ⟨hk, _⟩ := args_of_ok h
  obtain ⟨h1, _, _, hw, _, _⟩ := args_parts hk
  unfold pickL at he ⊢
  rw [if_pos h] at he ⊢
  obtain ⟨t, ht⟩ := greedy_prefix bytes used (sorted bytes next (frees pin inn)) ((used - sumB bytes (pins pin inn)) + sumB bytes inn)
  have hvs : v ∈ sorted bytes next (frees pin inn) := (sorted_perm bytes next _).mem_iff.2 (by simp [frees, hv, hasB, hp])
  have hsum := sumB_perm bytes (sorted_perm bytes next (frees pin inn))
  have hspl := sumB_split bytes pin inn
  rw [ht] at hvs hsum
  rw [sumB_append] at hsum
  rcases List.mem_append.1 hvs with hm | hm
  · exact hm
  · exfalso
    have htm : ∀ x ∈ t, 0 ≤ x ∧ x < bytes.length := fun x hx => by
      have hxs : x ∈ sorted bytes next (frees pin inn) := by rw [ht]; exact List.mem_append_right _ hx
      have hx' := (sorted_perm bytes next _).mem_iff.1 hxs
      have : x ∈ inn := by simp [frees] at hx'; exact hx'.1
      exact nodesB_mem h1 x this
    have := sumB_sub_pos bytes hw t htm v hm
    omega

theorem none_first {inn pin bytes next : List Int} {used : Int} (hu : used = sumB bytes inn) : pickL inn pin bytes next used 0 = [] := by
  unfold pickL
  split
  · exact greedy_none _ _ _ _ (by omega)
  · rfl

end Ev
end Go.Proofs.Ytgmagldbfajedaa
