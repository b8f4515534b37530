/-
  Plain Lean: how a plan is made (chapter 22), as the program makes it, and what stays on the way.
-/
import Derived.Test.YtgmagldbfajedaaPlCheck
namespace Go.Proofs.Ytgmagldbfajedaa
namespace Pl
open Gr Od Co

/-- What a plan is made for: the graph, the bytes of each, the order, the room, and which nodes are rather reckoned again. -/
structure Env where
  g : List Gr.Node
  b : List Int
  order : List Int
  room : Int
  ag : Int → Bool

/-- What is in (or asked for), what is on the disk, and the steps so far. -/
structure St where
  inn : List Int
  disk : List Int
  l : List (Int × Int)

def dropS (u : Int) (st : St) : St := ⟨st.inn.filter fun v => !decide (v = u), st.disk, st.l ++ [(5, u)]⟩
def takeS (k v : Int) (st : St) : St := ⟨st.inn ++ [v], st.disk, st.l ++ [(k, v)]⟩
def storeS (u : Int) (st : St) : St := ⟨st.inn, st.disk ++ [u], st.l ++ [(4, u)]⟩
def stepS (k v : Int) (st : St) : St := ⟨st.inn, st.disk, st.l ++ [(k, v)]⟩

/-- Of a list each once, in order. -/
def once1 (a : List Int) (v : Int) : List Int := if hasB a v = true then a else a ++ [v]
def once (l : List Int) : List Int := l.foldl once1 []
theorem once_snoc (l : List Int) (k : Nat) (hk : k < l.length) : once (l.take (k + 1)) = once1 (once (l.take k)) (nth l k) := by
  unfold once; rw [take_snoc l k hk, List.foldl_append]; rfl
theorem once_fold : ∀ (l a : List Int), a.Nodup → (l.foldl once1 a).Nodup ∧ (∀ v, v ∈ l.foldl once1 a ↔ v ∈ a ∨ v ∈ l) ∧ (l.foldl once1 a).length ≤ a.length + l.length
  | [], a, h => ⟨h, fun v => by simp, by simp⟩
  | x :: r, a, h => by
    have hn : (once1 a x).Nodup ∧ (∀ v, v ∈ once1 a x ↔ v ∈ a ∨ v = x) ∧ (once1 a x).length ≤ a.length + 1 := by
      unfold once1
      split
      · rename_i hc
        rw [hasB_iff] at hc
        exact ⟨h, fun v => ⟨.inl, fun hv => hv.elim id (fun e => e ▸ hc)⟩, by omega⟩
      · rename_i hc
        rw [hasB_iff] at hc
        refine ⟨List.nodup_append.2 ⟨h, by simp, fun a ha b hb => ?_⟩, fun v => by simp, by simp⟩
        simp at hb; subst hb; rintro rfl; exact hc ha
    obtain ⟨h1, h2, h3⟩ := once_fold r (once1 a x) hn.1
    refine ⟨h1, fun v => ?_, ?_⟩
    · rw [List.foldl_cons, h2, hn.2.1, List.mem_cons]
      constructor
      · rintro ((h | h) | h)
        · exact .inl h
        · exact .inr (.inl h)
        · exact .inr (.inr h)
      · rintro (h | h | h)
        · exact .inl (.inl h)
        · exact .inl (.inr h)
        · exact .inr h
    · rw [List.foldl_cons, List.length_cons]; omega
theorem once_nodup (l : List Int) : (once l).Nodup := (once_fold l [] List.nodup_nil).1
theorem once_mem (l : List Int) (v : Int) : v ∈ once l ↔ v ∈ l := by unfold once; rw [(once_fold l [] List.nodup_nil).2.1]; simp
theorem once_length (l : List Int) : (once l).length ≤ l.length := by have := (once_fold l [] List.nodup_nil).2.2; unfold once; simpa using this

/-- What goes: stored first, where it is used again, is not on the disk, and is not rather reckoned again. -/
def evict1 (E : Env) (nx : List Int) (st : St) (u : Int) : St :=
  dropS u (if 0 ≤ Ev.at_ nx u ∧ hasB st.disk u = false ∧ E.ag u = false then storeS u st else st)
def pickL' (E : Env) (nx : List Int) (st : St) (v : Int) (pinned : List Int) : List Int := Ev.pickL st.inn (once pinned) E.b nx E.room (Ev.at_ E.b v)
def pickE' (E : Env) (nx : List Int) (st : St) (v : Int) (pinned : List Int) : Int := Ev.pickE st.inn (once pinned) E.b nx E.room (Ev.at_ E.b v)
/-- Room for a node. -/
def makes (E : Env) (nx : List Int) (v : Int) (pinned : List Int) (st : St) : St × Bool :=
  ((pickL' E nx st v pinned).foldl (evict1 E nx) st, decide (pickE' E nx st v pinned = 0))

/-- What is reckoned anew of what a node takes in. -/
def first (E : Env) (nx : List Int) (br : Int → List Int → St → St × Bool) (pin : List Int) : List Int → St → St × Bool
  | [], st => (st, true)
  | u :: r, st => if hasB st.inn u = true ∨ hasB st.disk u = true then first E nx br pin r st else
    if (br u pin st).2 = false then ((br u pin st).1, false) else
    if (makes E nx u (pin ++ (nodeN E.g u.toNat).inn) (br u pin st).1).2 = false then ((makes E nx u (pin ++ (nodeN E.g u.toNat).inn) (br u pin st).1).1, false) else
    first E nx br pin r (takeS 3 u (makes E nx u (pin ++ (nodeN E.g u.toNat).inn) (br u pin st).1).1)
/-- What is asked for of what a node takes in. -/
def second (E : Env) (nx : List Int) (pin : List Int) : List Int → St → List Int → St × List Int × Bool
  | [], st, A => (st, A, true)
  | u :: r, st, A => if hasB st.inn u = true then second E nx pin r st A else
    if (makes E nx u pin st).2 = false then ((makes E nx u pin st).1, A, false) else
    second E nx pin r (takeS 1 u (makes E nx u pin st).1) (A ++ [u])
def waits (A : List Int) (st : St) : St := A.foldl (fun st u => stepS 2 u st) st
/-- What a node takes in comes. -/
def brings (E : Env) (nx : List Int) : Nat → Int → List Int → St → St × Bool
  | 0, _, _, st => (st, false)
  | f + 1, v, pinned, st =>
    let inn := once (nodeN E.g v.toNat).inn
    let pin := pinned ++ [v] ++ inn
    let p1 := first E nx (brings E nx f) pin inn st
    if p1.2 = false then (p1.1, false) else
    let p2 := second E nx pin inn p1.1 []
    if p2.2.2 = false then (p2.1, false) else
    (waits p2.2.1 p2.1, decide (p2.2.1.length ≤ 4))

/-- What is not used any more goes: of the first k nodes. -/
def dropsK (nx : List Int) (st : St) : Nat → St
  | 0 => st
  | k + 1 => if hasB (dropsK nx st k).inn (k : Int) = true ∧ nth nx k < 0 then dropS (k : Int) (dropsK nx st k) else dropsK nx st k
/-- The next node of the order. -/
def place (E : Env) (at_ : Nat) (st : St) : St × Bool :=
  let v := nth E.order at_
  if srcB (nodeN E.g v.toNat) = true then (st, true) else
  let nx := Od.next E.g E.order ((at_ : Int) - 1)
  let p1 := brings E nx (v.toNat + 1) v [] st
  if p1.2 = false then (p1.1, false) else
  let p2 := makes E nx v ([v] ++ (nodeN E.g v.toNat).inn) p1.1
  if p2.2 = false then (p2.1, false) else
  (dropsK (Od.next E.g E.order (at_ : Int)) (takeS 3 v p2.1) E.g.length, true)
/-- The nodes of the order, one after the other, from a place on. -/
def places (E : Env) : Nat → Nat → St → St × Bool
  | 0, _, st => (st, true)
  | m + 1, at_, st => if (place E at_ st).2 = false then ((place E at_ st).1, false) else places E m (at_ + 1) (place E at_ st).1
def start (E : Env) : St := ⟨[], ((List.range E.g.length).filter fun i => srcB (nodeN E.g i)).map (fun (i : Nat) => (i : Int)), []⟩
/-- One try. -/
def tryF (E : Env) : St × Bool := places E E.order.length 0 (start E)

/-! ### What stays -/

/-- A node is reckoned only where it is not on the disk. -/
def freshR (g : List Gr.Node) : (Nat → Kn) → List (Int × Int) → Prop
  | _, [] => True
  | K, s :: r => (s.1 = 3 → (K s.2.toNat).disk = false) ∧ ∀ K', stepK g K s = some K' → freshR g K' r
theorem freshR_snoc {g : List Gr.Node} {s : Int × Int} : ∀ (l : List (Int × Int)) (K K' : Nat → Kn), freshR g K l → okRun g K l = some K' → (s.1 = 3 → (K' s.2.toNat).disk = false) → freshR g K (l ++ [s])
  | [], K, K', _, h, hs => by simp [okRun] at h; subst h; exact ⟨hs, fun _ _ => trivial⟩
  | x :: r, K, K', hf, h, hs => by
    obtain ⟨K1, h1, h2, h3⟩ := okRun_cons h
    refine ⟨hf.1, fun K2 hK2 => ?_⟩
    rw [h1] at hK2; cases hK2
    exact freshR_snoc r K1 K' (hf.2 _ h1) h3 hs

/-- The bytes of nodes, by a test. -/
def sumP (f : Nat → Int) (p : Nat → Bool) : Nat → Int
  | 0 => 0
  | n + 1 => sumP f p n + (if p n = true then f n else 0)
theorem sumP_congr {f f' : Nat → Int} {p q : Nat → Bool} : ∀ (n : Nat), (∀ u, u < n → p u = q u ∧ f u = f' u) → sumP f p n = sumP f' q n
  | 0, _ => rfl
  | n + 1, h => by
    unfold sumP
    rw [sumP_congr n (fun u hu => h u (by omega)), (h n (by omega)).1, (h n (by omega)).2]
theorem sumP_add {f : Nat → Int} {p : Nat → Bool} {v : Nat} (hp : p v = false) : ∀ (n : Nat), sumP f (fun u => decide (u = v) || p u) n = sumP f p n + (if v < n then f v else 0)
  | 0 => by simp [sumP]
  | n + 1 => by
    have ih := sumP_add (f := f) hp n
    by_cases c : n = v
    · subst c
      simp [sumP, ih, hp]
    · by_cases d : v < n
      · have e2 : v < n + 1 := by omega
        simp only [sumP, ih, d, e2, if_true, c, decide_false, Bool.false_or]
        omega
      · have e2 : ¬ v < n + 1 := by omega
        simp only [sumP, ih, d, e2, if_false, c, decide_false, Bool.false_or]
        omega
theorem sumP_list {f : Nat → Int} {n : Nat} : ∀ (l : List Int), l.Nodup → (∀ v ∈ l, 0 ≤ v ∧ v < (n : Int)) → sumP f (fun u => hasB l (u : Int)) n = (l.map fun v => f v.toNat).sum
  | [], _, _ => by
    have : ∀ m, sumP f (fun u => hasB [] (u : Int)) m = 0 := fun m => by
      induction m with
      | zero => rfl
      | succ m ih => unfold sumP; rw [ih]; simp [hasB_nil]
    rw [this]; rfl
  | v :: r, hn, hr => by
    obtain ⟨hv0, hv1⟩ := hr v (by simp)
    obtain ⟨h1, h2⟩ := List.nodup_cons.1 hn
    have hc : sumP f (fun u => hasB (v :: r) (u : Int)) n = sumP f (fun u => decide (u = v.toNat) || hasB r (u : Int)) n := sumP_congr n fun u _ => ⟨by
      unfold hasB
      rw [List.contains_cons]
      congr 1
      rw [Bool.eq_iff_iff]
      simp
      omega, rfl⟩
    rw [hc, sumP_add (by rw [hasB_false]; rw [Int.toNat_of_nonneg hv0]; exact h1), if_pos (by omega), sumP_list r h2 (fun u hu => hr u (by simp [hu]))]
    simp
    omega
theorem sumB_map (b : List Int) : ∀ l : List Int, (l.map fun v => nth b v.toNat).sum = Ev.sumB b l
  | [] => rfl
  | v :: r => by
    simp only [List.map_cons, List.sum_cons, Ev.sumB, sumB_map b r]
    rfl
theorem usedK_sumP (b : Nat → Int) (K : Nat → Kn) : ∀ n, usedK b K n = sumP b (fun u => (K u).inn || (K u).asked) n
  | 0 => rfl
  | n + 1 => by unfold usedK sumP; rw [usedK_sumP b K n]
theorem askedK_sumP (K : Nat → Kn) : ∀ n, askedK K n = sumP (fun _ => 1) (fun u => (K u).asked) n
  | 0 => rfl
  | n + 1 => by unfold askedK sumP; rw [askedK_sumP K n]

/-- What stays: the steps may be, and what is known behind them is told by the lists. -/
structure Inv (E : Env) (st : St) (A : List Int) (K : Nat → Kn) : Prop where
  run : okRun E.g (kn0 E.g) st.l = some K
  kn : ∀ u : Nat, u < E.g.length → (K u).inn = (hasB st.inn (u : Int) && !hasB A (u : Int)) ∧ (K u).asked = hasB A (u : Int) ∧ (K u).disk = hasB st.disk (u : Int) ∧ (K u).src = srcB (nodeN E.g u)
  us : ∀ x ∈ useds E.g (fun u => nth E.b u) (kn0 E.g) st.l, x ≤ E.room
  nd : st.inn.Nodup
  rg : ∀ v ∈ st.inn, 0 ≤ v ∧ v < (E.g.length : Int)
  dnd : st.disk.Nodup
  drg : ∀ v ∈ st.disk, 0 ≤ v ∧ v < (E.g.length : Int)
  sub : ∀ v ∈ A, v ∈ st.inn
  and : A.Nodup
  al : A.length ≤ 4
  src : ∀ u : Nat, u < E.g.length → srcB (nodeN E.g u) = true → hasB st.disk (u : Int) = true
  sum : Ev.sumB E.b st.inn ≤ E.room
  fresh : freshR E.g (kn0 E.g) st.l

theorem Inv.used {E : Env} {st : St} {A : List Int} {K : Nat → Kn} (kn : ∀ u : Nat, u < E.g.length → (K u).inn = (hasB st.inn (u : Int) && !hasB A (u : Int)) ∧ (K u).asked = hasB A (u : Int)) (sub : ∀ v ∈ A, v ∈ st.inn) (nd : st.inn.Nodup)
    (rg : ∀ v ∈ st.inn, 0 ≤ v ∧ v < (E.g.length : Int)) : usedK (fun u => nth E.b u) K E.g.length = Ev.sumB E.b st.inn := by
  rw [usedK_sumP, ← sumB_map, ← sumP_list st.inn nd rg]
  refine sumP_congr _ fun u hu => ⟨?_, rfl⟩
  obtain ⟨h1, h2⟩ := kn u hu
  rw [h1, h2]
  cases hA : hasB A (u : Int) with
  | false => simp
  | true =>
    have := (hasB_iff _ _).2 (sub _ ((hasB_iff _ _).1 hA))
    simp [this]
theorem Inv.askd {E : Env} {A : List Int} {K : Nat → Kn} (kn : ∀ u : Nat, u < E.g.length → (K u).asked = hasB A (u : Int)) (nd : A.Nodup) (rg : ∀ v ∈ A, 0 ≤ v ∧ v < (E.g.length : Int)) : askedK K E.g.length = A.length := by
  rw [askedK_sumP, sumP_congr (f' := fun _ => 1) (q := fun u => hasB A (u : Int)) E.g.length (fun u hu => ⟨kn u hu, rfl⟩), sumP_list A nd rg]
  have : ∀ l : List Int, (l.map fun _ => (1 : Int)).sum = l.length := fun l => by
    induction l with
    | nil => rfl
    | cons v r ih => simp only [List.map_cons, List.sum_cons, ih, List.length_cons]; omega
  exact this A

/-- One step more. -/
theorem Inv.push {E : Env} {st : St} {A : List Int} {K : Nat → Kn} (H : Inv E st A K) {kind : Int} {v : Nat} {k : Kn} (hv : v < E.g.length) (hb : beh E.g K kind v = some k) {inn' disk' A' : List Int}
    (nd' : inn'.Nodup) (rg' : ∀ v ∈ inn', 0 ≤ v ∧ v < (E.g.length : Int)) (dnd' : disk'.Nodup) (drg' : ∀ v ∈ disk', 0 ≤ v ∧ v < (E.g.length : Int)) (sub' : ∀ v ∈ A', v ∈ inn') (and' : A'.Nodup) (al' : A'.length ≤ 4)
    (src' : ∀ v ∈ st.disk, v ∈ disk') (sum' : Ev.sumB E.b inn' ≤ E.room)
    (hk : k.inn = (hasB inn' (v : Int) && !hasB A' (v : Int)) ∧ k.asked = hasB A' (v : Int) ∧ k.disk = hasB disk' (v : Int) ∧ k.src = srcB (nodeN E.g v))
    (ho : ∀ u : Int, u ≠ (v : Int) → hasB inn' u = hasB st.inn u ∧ hasB A' u = hasB A u ∧ hasB disk' u = hasB st.disk u) (fr : kind = 3 → hasB st.disk (v : Int) = false) :
    Inv E ⟨inn', disk', st.l ++ [(kind, (v : Int))]⟩ A' (upd K v k) := by
  have hkn : ∀ u : Nat, u < E.g.length → (upd K v k u).inn = (hasB inn' (u : Int) && !hasB A' (u : Int)) ∧ (upd K v k u).asked = hasB A' (u : Int) ∧ (upd K v k u).disk = hasB disk' (u : Int) ∧ (upd K v k u).src = srcB (nodeN E.g u) := fun u hu => by
    by_cases c : u = v
    · subst c; rw [upd_at]; exact hk
    · rw [upd_ne _ _ _ c]
      obtain ⟨h1, h2, h3⟩ := ho u (by omega)
      rw [h1, h2, h3]
      exact H.kn u hu
  have hs := stepK_of (K := K) hv hb
  have hu := Inv.used (E := E) (st := ⟨inn', disk', st.l⟩) (A := A') (fun u h => ⟨(hkn u h).1, (hkn u h).2.1⟩) sub' nd' rg'
  have ha := Inv.askd (E := E) (A := A') (fun u h => (hkn u h).2.1) and' (fun u h => rg' u (sub' u h))
  refine ⟨(okRun_append _ _ _ _).2 ⟨K, H.run, by rw [okRun_of [] hs (by rw [ha]; omega)]; rfl⟩, hkn, fun x hx => ?_, nd', rg', dnd', drg', sub', and', al', fun u h1 h2 => ?_, sum', ?_⟩
  · rw [useds_append _ _ _ _ H.run] at hx
    rcases List.mem_append.1 hx with hx | hx
    · exact H.us x hx
    · rw [useds, hs] at hx
      simp only [useds, List.mem_cons, List.not_mem_nil, or_false] at hx
      rw [hx, hu]; exact sum'
  · rw [hasB_iff]; exact src' _ ((hasB_iff _ _).1 (H.src u h1 h2))
  · refine freshR_snoc st.l _ K H.fresh H.run fun h => ?_
    simp only [Int.toNat_natCast]
    rw [(H.kn v hv).2.2.1]
    exact fr h
end Pl
end Go.Proofs.Ytgmagldbfajedaa
