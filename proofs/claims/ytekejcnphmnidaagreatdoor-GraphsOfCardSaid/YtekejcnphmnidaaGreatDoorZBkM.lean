import Derived.Test.YtekejcnphmnidaaGreatDoorZBkS
import Derived.Test.YtekejcnphmnidaaGreatDoorZRpR
import Derived.Deep.MidRow
namespace Go.Proofs.YtekejcnphmnidaaGreatDoor
open Go.RowKit
theorem size_setCells (g : Nat) : ∀ (vs : List Value) (o : Nat) (w : World), (w.setCells g o vs).heap.size = w.heap.size
  | [], _, _ => rfl
  | v :: r, o, w => by rw [World.setCells, size_setCells g r (o + 1)]; simp [World.setCell]
theorem heap_setCells (g : Nat) {k : Nat} (h : k ≠ g) : ∀ (vs : List Value) (o : Nat) (w : World), (w.setCells g o vs).heap[k]? = w.heap[k]?
  | [], _, _ => rfl
  | v :: r, o, w => by rw [World.setCells, heap_setCells g h r (o + 1), Below.heap_setCell _ _ _ _ (by intro e; exact h (by first | exact e | exact e.symm))]
theorem world_setCells (g : Nat) : ∀ (vs : List Value) (o : Nat) (w : World), (w.setCells g o vs).os = w.os ∧ (w.setCells g o vs).tape = w.tape ∧ (w.setCells g o vs).output = w.output
  | [], _, _ => ⟨rfl, rfl, rfl⟩
  | v :: r, o, w => by rw [World.setCells]; exact world_setCells g r (o + 1) (w.setCell ⟨g, o, none⟩ v)
theorem Only.setFarE {S : Nat → Prop} {w w1 : World} (h : Only S w w1) (g o : Nat) (vs : List Value) (hg : S g ∨ w.heap.size ≤ g) : Only S w (w1.setCells g o vs) := by
  obtain ⟨h1, h2, h3⟩ := world_setCells g vs o w1
  refine ⟨h1.trans h.os, h2.trans h.tape, h3.trans h.output, by rw [size_setCells]; exact h.size, fun k hk hs => (heap_setCells g (fun e => ?_) vs o w1).trans (h.block k hk hs)⟩
  subst e
  rcases hg with h1 | h1
  · exact hs h1
  · omega
def putAt (xs : List Value) (i : Nat) (vs : List Value) : List Value := xs.take i ++ vs ++ xs.drop (i + vs.length)
theorem putAt_length {xs vs : List Value} {i : Nat} (h : i + vs.length ≤ xs.length) : (putAt xs i vs).length = xs.length := by
  unfold putAt; simp only [List.length_append, List.length_take, List.length_drop]; omega
theorem Row.setE {c : Nat} {w : World} {g off n cap : Nat} {xs : List Value} (h : Row c w g off n cap xs) (q : Nat) (hq : q < n) (vs : List Value) (hv : vs.length = c) : Row c (w.setCells g (off + q * c) vs) g off n cap (putAt xs (q * c) vs) := by
  have hnc : n * c ≤ cap * c := Nat.mul_le_mul_right c h.le
  have hqc : q * c + c ≤ n * c := by
    have := Nat.mul_le_mul_right c (show q + 1 ≤ n from hq)
    rw [Nat.succ_mul] at this; exact this
  have hl := h.len
  have hthere : ∀ j, j < vs.length → (w.cell? ⟨g, off + q * c + j, none⟩).isSome = true := fun j hj => by
    have := (h.all (q * c + j) (by omega)).1
    rwa [← Nat.add_assoc] at this
  refine ⟨by rw [size_setCells]; exact h.lt, h.le, h.cap_le, by rw [putAt_length (by omega)]; exact hl, fun j u hj => ?_, fun j hj => ⟨World.isSome_setCells g vs _ w _ (h.all j hj).1, by rw [World.frozen?_setCells]; exact (h.all j hj).2⟩⟩
  unfold putAt at hj
  by_cases h1 : j < q * c
  · rw [List.append_assoc, List.getElem?_append_left (by rw [List.length_take]; omega), List.getElem?_take_of_lt h1] at hj
    rw [World.cell?_setCells_out g vs _ w ⟨g, off + j, none⟩ (fun _ _ => .inl (show off + j < off + q * c by omega))]
    exact h.cell j u hj
  · by_cases h2 : j < q * c + c
    · rw [List.append_assoc, List.getElem?_append_right (by rw [List.length_take]; omega), List.length_take, List.getElem?_append_left (by omega), show j - min (q * c) xs.length = j - q * c by omega] at hj
      have hb : j - q * c < vs.length := by omega
      have := World.cell?_setCells_in g vs (off + q * c) w hthere (j - q * c) hb
      rw [show off + q * c + (j - q * c) = off + j by omega] at this
      rw [this, ← hj, List.getElem?_eq_getElem hb]
    · rw [List.getElem?_append_right (by rw [List.length_append, List.length_take]; omega), List.length_append, List.length_take, List.getElem?_drop, show q * c + vs.length + (j - (min (q * c) xs.length + vs.length)) = j by omega] at hj
      rw [World.cell?_setCells_out g vs _ w ⟨g, off + j, none⟩ (fun _ _ => .inr (show off + q * c + vs.length ≤ off + j by omega))]
      exact h.cell j u hj
theorem Row.spareE {c : Nat} {w : World} {g off n cap : Nat} {xs : List Value} (h : Row c w g off n cap xs) (j0 : Nat) (hj0 : n * c ≤ j0) (vs : List Value) : Row c (w.setCells g (off + j0) vs) g off n cap xs := by
  refine ⟨by rw [size_setCells]; exact h.lt, h.le, h.cap_le, h.len, fun j u hj => ?_, fun j hj => ⟨World.isSome_setCells g vs _ w _ (h.all j hj).1, by rw [World.frozen?_setCells]; exact (h.all j hj).2⟩⟩
  have hjl : j < xs.length := (List.getElem?_eq_some_iff.1 hj).1
  have hl := h.len
  rw [World.cell?_setCells_out g vs _ w ⟨g, off + j, none⟩ (fun _ _ => .inl (show off + j < off + j0 by omega))]
  exact h.cell j u hj
theorem Row.pushE {c : Nat} {w : World} {g off n cap : Nat} {xs : List Value} (h : Row c w g off n cap xs) (hn : n < cap) (vs : List Value) (hv : vs.length = c) : Row c (w.setCells g (off + n * c) vs) g off (n + 1) cap (xs ++ vs) := by
  have h2 := h.spareE (n * c) (Nat.le_refl _) vs
  have hl := h.len
  have hnc : n * c + c ≤ cap * c := by
    have := Nat.mul_le_mul_right c (show n + 1 ≤ cap from hn)
    rw [Nat.succ_mul] at this; exact this
  have hthere : ∀ j, j < vs.length → (w.cell? ⟨g, off + n * c + j, none⟩).isSome = true := fun j hj => by
    have := (h.all (n * c + j) (by omega)).1
    rwa [← Nat.add_assoc] at this
  refine ⟨h2.lt, by omega, h2.cap_le, by rw [List.length_append, Nat.succ_mul]; omega, fun j u hj => ?_, h2.all⟩
  by_cases e : j < xs.length
  · rw [List.getElem?_append_left e] at hj
    exact h2.cell j u hj
  · rw [List.getElem?_append_right (by omega)] at hj
    have hb : j - xs.length < vs.length := (List.getElem?_eq_some_iff.1 hj).1
    have := World.cell?_setCells_in g vs (off + n * c) w hthere (j - xs.length) hb
    rw [show off + n * c + (j - xs.length) = off + j by omega] at this
    rw [this, ← hj, List.getElem?_eq_getElem hb]
def repl (n : Nat) (vs : List Value) : List Value := (List.replicate n vs).flatten
theorem repl_length (n : Nat) (vs : List Value) : (repl n vs).length = n * vs.length := by
  unfold repl
  induction n with
  | zero => simp
  | succ n ih => rw [List.replicate_succ, List.flatten_cons, List.length_append, ih, Nat.succ_mul]; omega
theorem repl_succ (n : Nat) (vs : List Value) : repl n vs ++ vs = repl (n + 1) vs := by
  unfold repl; rw [List.replicate_succ', List.flatten_append]; simp
theorem repl_get {n : Nat} {vs : List Value} {q i : Nat} (hq : q < n) (hi : i < vs.length) : (repl n vs)[q * vs.length + i]? = vs[i]? := by
  induction n generalizing q with
  | zero => omega
  | succ n ih =>
    have e : repl (n + 1) vs = vs ++ repl n vs := by unfold repl; rw [List.replicate_succ, List.flatten_cons]
    rw [e]
    cases q with
    | zero => rw [Nat.zero_mul, Nat.zero_add, List.getElem?_append_left hi]
    | succ q =>
      rw [List.getElem?_append_right (by rw [Nat.succ_mul]; omega), Nat.succ_mul, show q * vs.length + vs.length + i - vs.length = q * vs.length + i by omega]
      exact ih (by omega)
def partK (xs : List Value) (mk : List Value) (k : Nat) : List Value := repl k mk ++ xs.drop (k * mk.length)
theorem partK_zero (xs mk : List Value) : partK xs mk 0 = xs := by simp [partK, repl]
theorem partK_all (xs mk : List Value) (n : Nat) (h : xs.length = n * mk.length) : partK xs mk n = repl n mk := by unfold partK; rw [List.drop_eq_nil_of_le (by omega), List.append_nil]
theorem partK_next (xs mk : List Value) (k n : Nat) (_ : k < n) (_ : xs.length = n * mk.length) : putAt (partK xs mk k) (k * mk.length) mk = partK xs mk (k + 1) := by
  have hl : (repl k mk).length = k * mk.length := repl_length k mk
  unfold putAt partK
  rw [List.take_left' hl, ← repl_succ, List.drop_append, List.drop_eq_nil_of_le (by omega), List.nil_append, hl, Nat.add_sub_cancel_left, List.drop_drop, Nat.succ_mul]
theorem rows_putE {c m : Nat} {w : World} {h : Nat → Held} {X : Nat → List Value} (hR : ∀ j, j < m → RowV c w (h j).v (h j).n (X j)) (hap : ApartV m (fun j => (h j).v)) {k : Nat} (hk : k < m) {g off cap : Nat} (hv : (h k).v = .slice (some ⟨g, off, none⟩) (h k).n cap)
    {q : Nat} (hq : q < (h k).n) (vs : List Value) (hvs : vs.length = c) : ∀ j, j < m → RowV c (w.setCells g (off + q * c) vs) (h j).v (h j).n (if j = k then putAt (X k) (q * c) vs else X j) := by
  intro j hj
  by_cases e : j = k
  · subst e
    rw [if_pos rfl]
    rcases hR j hj with ⟨h1, h2, _⟩ | ⟨g', off', cap', h1, h2⟩
    · omega
    · rw [hv] at h1
      cases h1
      exact .inr ⟨g, off, cap, hv, h2.setE q (by omega) vs hvs⟩
  · rw [if_neg e]
    refine (hR j hj).keep (by rw [size_setCells]; exact Nat.le_refl _) (fun b hb => heap_setCells g (fun e2 => ?_) vs _ w)
    exact hap j k hj hk e b hb (by show (h k).v.ownBlock = _; rw [hv, e2]; rfl)
theorem RowV.len {c : Nat} {w : World} {v : Value} {n : Nat} {xs : List Value} (h : RowV c w v n xs) : xs.length = n * c := by
  rcases h with ⟨_, rfl, rfl⟩ | ⟨_, _, _, _, h⟩
  · simp
  · exact h.len
theorem RowV.atE {w : World} {v : Value} {n : Nat} {mk : List Value} (h : RowV mk.length w v n (repl n mk)) {q : Nat} (hq : q < n) : ∃ g off cap, v = .slice (some ⟨g, off, none⟩) n cap ∧ g < w.heap.size ∧ ∀ i u, mk[i]? = some u → w.cell? ⟨g, off + q * mk.length + i, none⟩ = some u := by
  rcases h with ⟨_, h, _⟩ | ⟨g, off, cap, hv, h⟩
  · omega
  · refine ⟨g, off, cap, hv, h.lt, fun i u hu => ?_⟩
    have hi : i < mk.length := (List.getElem?_eq_some_iff.1 hu).1
    have := h.cell (q * mk.length + i) u (by rw [repl_get hq hi]; exact hu)
    rwa [← Nat.add_assoc] at this
structure InvFill (wq : World) (cst : Nat → Option Value) (G o : Nat) (mk : List Value) (B : Nat → Bool) (vals : Nat → Value) (w : World) : Prop where
  cs : ∀ i c, cst i = some c → B i = true → vals i = c
  d7 : B 7 = true → ∀ j, j < 7 → B j = true
  pre : B 7 = false → Below wq.heap.size wq w
  fin : B 7 = true → ∃ w', Below wq.heap.size wq w' ∧ w = w'.setCells G o mk
theorem InvFill.put {wq : World} {cst : Nat → Option Value} {G o : Nat} {mk : List Value} {B : Nat → Bool} {vals : Nat → Value} {w : World} (I : InvFill wq cst G o mk B vals w) {i : Nat} (hi : i < 7) (hn : B i = false) {v : Value} {w' : World} (hc : cst i = some v) (hw : Below wq.heap.size wq w → Below wq.heap.size wq w') :
    InvFill wq cst G o mk (setBZ B i) (updV vals i v) w' := by
  have h7 : B 7 = false := by
    cases h : B 7 with
    | false => rfl
    | true => have := I.d7 h i hi; rw [hn] at this; cases this
  have e7 : setBZ B i 7 = false := by rw [setBZ_ne B (by omega)]; exact h7
  refine ⟨fun j x hj hb => ?_, fun h => (by rw [e7] at h; cases h), fun _ => hw (I.pre h7), fun h => (by rw [e7] at h; cases h)⟩
  by_cases e : i = j
  · subst e; rw [updV_at]; exact Option.some.inj (hc.symm.trans hj)
  · rw [updV_ne _ _ _ (Ne.symm e)]; rw [setBZ_ne B e] at hb; exact I.cs j x hj hb
theorem InvFill.last {wq : World} {cst : Nat → Option Value} {G o : Nat} {mk : List Value} {B : Nat → Bool} {vals : Nat → Value} {w : World} (I : InvFill wq cst G o mk B vals w) (hn : B 7 = false) (hall : ∀ j, j < 7 → B j = true) (h7 : cst 7 = none) (v : Value) :
    InvFill wq cst G o mk (setBZ B 7) (updV vals 7 v) (w.setCells G o mk) := by
  refine ⟨fun j x hj hb => ?_, fun _ j hj => ?_, fun h => (by rw [setBZ_at] at h; cases h), fun _ => ⟨w, I.pre hn, rfl⟩⟩
  · have e : (7 : Nat) ≠ j := fun e => by subst e; rw [h7] at hj; cases hj
    rw [updV_ne _ _ _ (Ne.symm e)]; rw [setBZ_ne B e] at hb; exact I.cs j x hj hb
  · rw [setBZ_ne B (by omega)]; exact hall j hj
end Go.Proofs.YtekejcnphmnidaaGreatDoor
