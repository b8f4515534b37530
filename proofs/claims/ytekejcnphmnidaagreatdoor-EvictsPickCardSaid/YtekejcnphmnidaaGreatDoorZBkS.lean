/-
  The Book as it is told of lists: BkS (its box, its own five lists, what was told), BkS.start (a new one), told_ints (Book.Ints), apartI (Apart, where only lists of ints were told).
-/
import Derived.Test.YtekejcnphmnidaaGreatDoorZBkP
namespace Go.Proofs.YtekejcnphmnidaaGreatDoor
open Go.RowKit

/-- The j-th of what was told. -/
def heldAt (L : List Held) : Nat → Held := fun j => L.getD j ⟨.slice none 0 0, 0, [], .slice none 0 0, 0⟩
theorem heldAt_left (L : List Held) (x : Held) {j : Nat} (h : j < L.length) : heldAt (L ++ [x]) j = heldAt L j := by
  simp [heldAt, List.getElem?_append_left h]
theorem heldAt_last (L : List Held) (x : Held) : heldAt (L ++ [x]) L.length = x := by simp [heldAt]
theorem heldAt_mem (L : List Held) {j : Nat} (h : j < L.length) : heldAt L j ∈ L := by
  have : heldAt L j = L[j] := by simp [heldAt, List.getElem?_eq_getElem h]
  rw [this]; exact List.getElem_mem h
theorem Arr.congr {e : TypeId} {base : Nat} {w : World} {vA : Value} {m : Nat} {h h' : Nat → Held} (A : Arr e base w vA m h) (he : ∀ i, i < m → h i = h' i) : Arr e base w vA m h' := by
  obtain ⟨xs, h1, h2⟩ := A
  exact ⟨xs, h1, fun i hi => by rw [← he i hi]; exact h2 i hi⟩
theorem Arr.push {e : TypeId} {base : Nat} {w : World} {vA : Value} {L : List Held} {x : Held} (A : Arr e base w vA (L.length + 1) (fun j => if j = L.length then x else heldAt L j)) : Arr e base w vA (L ++ [x]).length (heldAt (L ++ [x])) := by
  rw [List.length_append]
  refine A.congr fun i hi => ?_
  by_cases e : i = L.length
  · subst e; rw [if_pos rfl, heldAt_last]
  · rw [if_neg e, heldAt_left]; omega
theorem Arr.nil (e : TypeId) (base : Nat) (w : World) (h : Nat → Held) : Arr e base w (.slice none 0 0) 0 h := ⟨[], ⟨rfl, .inl ⟨rfl, rfl⟩⟩, fun _ hi => absurd hi (Nat.not_lt_zero _)⟩
/-- Two lists of other types lie apart. -/
theorem Arr.ne {e e' : TypeId} {base : Nat} {w : World} {v v' : Value} {m m' : Nat} {h h' : Nat → Held} (A : Arr e base w v m h) (A' : Arr e' base w v' m' h') (he : e ≠ e') : ∀ k, v.ownBlock = some k → v'.ownBlock ≠ some k := fun k hk hk' => by
  obtain ⟨xs, ⟨_, h2⟩, _⟩ := A
  obtain ⟨ys, ⟨_, g2⟩, _⟩ := A'
  rcases h2 with ⟨rfl, _⟩ | ⟨g, cap, cur, rfl, _, hh, _⟩
  · cases hk
  rcases g2 with ⟨rfl, _⟩ | ⟨g', cap', cur', rfl, _, hh', _⟩
  · cases hk'
  cases hk
  cases hk'
  rw [hh] at hh'
  cases hh'
  exact he rfl

structure BkF (w : World) (B base : Nat) (n : Int) (f : Nat → Value) (LI LN LS LC LG : List Held) : Prop where
  box : Bk w B f
  num : f 0 = .int .i64 n
  rest : ∀ j, 0 < j → j < 16 → j ≠ 2 → j ≠ 7 → j ≠ 8 → j ≠ 9 → j ≠ 14 → f j = .slice none 0 0
  ai : Arr 148 base w (f 2) LI.length (heldAt LI)
  an : Arr 174 base w (f 7) LN.length (heldAt LN)
  as_ : Arr 177 base w (f 8) LS.length (heldAt LS)
  ac : Arr 180 base w (f 9) LC.length (heldAt LC)
  ag : Arr 207 base w (f 14) LG.length (heldAt LG)
  en : LN = [] → f 7 = .slice none 0 0
  es : LS = [] → f 8 = .slice none 0 0
  ec : LC = [] → f 9 = .slice none 0 0
  eg : LG = [] → f 14 = .slice none 0 0
  lo : B < base
  bz : base ≤ w.heap.size
  n0 : 0 ≤ n
  nums : ∀ h, h ∈ LI ++ LN ++ LS ++ LC ++ LG → (0 ≤ h.num ∧ h.num ≤ n) ∧ h.lg = .slice none 0 0
/-- The Book and what it was told: lists of ints, of nodes, of steps, of costs, of lists. -/
def BkS (w : World) (B base : Nat) (n : Int) (LI LN LS LC LG : List Held) : Prop := ∃ f, BkF w B base n f LI LN LS LC LG

theorem BkS.below {w w' : World} {B base : Nat} {n : Int} {LI LN LS LC LG : List Held} (h : BkS w B base n LI LN LS LC LG) (hb : Below w.heap.size w w') : BkS w' B base n LI LN LS LC LG := by
  obtain ⟨f, h⟩ := h
  have hz := hb.size
  exact ⟨f, h.box.below hb, h.num, h.rest, h.ai.keep (fun k hk => hb.block k (h.ai.lt k hk).2), h.an.keep (fun k hk => hb.block k (h.an.lt k hk).2), h.as_.keep (fun k hk => hb.block k (h.as_.lt k hk).2), h.ac.keep (fun k hk => hb.block k (h.ac.lt k hk).2), h.ag.keep (fun k hk => hb.block k (h.ag.lt k hk).2),
    h.en, h.es, h.ec, h.eg, h.lo, by have := h.bz; omega, h.n0, h.nums⟩

theorem BkS.start (w : World) : BkS (w.alloc (.cells #[.int .i64 0, .slice none 0 0, .slice none 0 0, .slice none 0 0, .slice none 0 0, .slice none 0 0, .slice none 0 0, .slice none 0 0, .slice none 0 0, .slice none 0 0, .slice none 0 0, .slice none 0 0, .slice none 0 0, .slice none 0 0, .slice none 0 0, .slice none 0 0] 52)) w.heap.size (w.heap.size + 1) 0 [] [] [] [] [] := by
  refine ⟨fun j => if j = 0 then .int .i64 0 else .slice none 0 0, ⟨by simp, fun i hi => ?_, fun i hi => World.frozen?_alloc_at _ _ _ _ rfl⟩, rfl, fun j h0 _ _ _ _ _ _ => if_neg (by omega), Arr.nil _ _ _ _, Arr.nil _ _ _ _, Arr.nil _ _ _ _, Arr.nil _ _ _ _, Arr.nil _ _ _ _, fun _ => rfl, fun _ => rfl, fun _ => rfl, fun _ => rfl, Nat.lt_succ_self _, by simp, Int.le_refl _, fun h hm => by cases hm⟩
  rw [World.cell?_alloc_at _ _ _ _ rfl]
  obtain rfl | rfl | rfl | rfl | rfl | rfl | rfl | rfl | rfl | rfl | rfl | rfl | rfl | rfl | rfl | rfl : i = 0 ∨ i = 1 ∨ i = 2 ∨ i = 3 ∨ i = 4 ∨ i = 5 ∨ i = 6 ∨ i = 7 ∨ i = 8 ∨ i = 9 ∨ i = 10 ∨ i = 11 ∨ i = 12 ∨ i = 13 ∨ i = 14 ∨ i = 15 := by omega
  all_goals rfl

/-- A list of ints is told. -/
theorem told_ints (w : World) (B base : Nat) (n : Int) (LI LN LS LC LG : List Held) (ax : Option Addr) (lx cx : Nat) (xs : List Value) (S : BkS w B base n LI LN LS LC LG) (hm : LI.length ≤ 1000000) (h1 : n ≤ 1000000) :
    Calls Tryz.prog 15 #[.pointer (some ⟨B, 0, none⟩), .slice ax lx cx] w fun e w' => e = .returned (.tuple #[]) ∧ BkS w' B base (n + 1) (LI ++ [⟨.slice ax lx cx, lx, xs, .slice none 0 0, n + 1⟩]) LN LS LC LG ∧ Below B w w' := by
  obtain ⟨f, S⟩ := S
  refine (bookInts_any w B f n base LI.length (heldAt LI) ⟨.slice ax lx cx, lx, xs, .slice none 0 0, n + 1⟩ ax lx cx S.box S.num S.ai rfl rfl rfl S.lo S.bz hm S.n0 h1).mono ?_
  rintro e w' ⟨he, vA, hbx, har, ho, _⟩
  have hB : ∀ k, base ≤ k → k ≠ B := fun k hk e => by have := S.lo; omega
  have hS : ∀ {e'} {v'} {m'} {h'}, Arr e' base w v' m' h' → 148 ≠ e' → ∀ k, v'.ownBlock = some k → ¬ (k = B ∨ (f 2).ownBlock = some k) := fun A hne k hk e => by
    rcases e with e | e
    · exact hB k (A.lt k hk).1 e
    · exact S.ai.ne A hne k e hk
  have hz := ho.size
  refine ⟨he, ⟨_, hbx, by simp, fun j h0 h16 h2 h7 h8 h9 h14 => ?_, har.push, S.an.only ho (hS S.an (by decide)), S.as_.only ho (hS S.as_ (by decide)), S.ac.only ho (hS S.ac (by decide)), S.ag.only ho (hS S.ag (by decide)), S.en, S.es, S.ec, S.eg, S.lo, by have := S.bz; omega, by have := S.n0; omega, fun h hm => ?_⟩, ?_⟩
  · show (if j = 2 then vA else if j = 0 then .int .i64 (n + 1) else f j) = _
    rw [if_neg h2, if_neg (by omega)]
    exact S.rest j h0 h16 h2 h7 h8 h9 h14
  · have hn := S.n0
    have up : h ∈ LI ++ LN ++ LS ++ LC ++ LG → (0 ≤ h.num ∧ h.num ≤ n + 1) ∧ h.lg = .slice none 0 0 := fun hm => by
      obtain ⟨⟨a, b⟩, c⟩ := S.nums h hm
      exact ⟨⟨a, by omega⟩, c⟩
    simp only [List.mem_append, List.mem_singleton] at hm up
    rcases hm with (((hm | hm) | hm) | hm) | hm
    · rcases hm with hm | hm
      · exact up (.inl (.inl (.inl (.inl hm))))
      · subst hm
        exact ⟨⟨by show 0 ≤ n + 1; omega, by show n + 1 ≤ n + 1; omega⟩, rfl⟩
    · exact up (.inl (.inl (.inl (.inr hm))))
    · exact up (.inl (.inl (.inr hm)))
    · exact up (.inl (.inr hm))
    · exact up (.inr hm)
  · refine ho.below (fun k hk => ?_) (by have := S.box.lt; omega)
    rcases hk with rfl | hk
    · exact Nat.le_refl _
    · have := (S.ai.lt k hk).1; have := S.lo; omega

/-- The blocks of what was told. -/
def blocksOf (L : List Held) : List Nat := L.filterMap fun h => h.v.ownBlock
theorem apartV_of {L : List Held} (h : (blocksOf L).Nodup) : ApartV L.length (fun j => (heldAt L j).v) := by
  induction L with
  | nil => intro i j hi; exact absurd hi (Nat.not_lt_zero _)
  | cons x L ih =>
    have hx : ∀ b, x.v.ownBlock = some b → b ∉ blocksOf L := fun b hb => by
      unfold blocksOf at h
      simp only [List.filterMap_cons, hb] at h
      exact (List.nodup_cons.1 h).1
    have hL : (blocksOf L).Nodup := by
      unfold blocksOf at h ⊢
      cases hc : x.v.ownBlock with
      | none => simp only [List.filterMap_cons, hc] at h; exact h
      | some b => simp only [List.filterMap_cons, hc] at h; exact (List.nodup_cons.1 h).2
    have hm : ∀ j b, j < L.length → (heldAt L j).v.ownBlock = some b → b ∈ blocksOf L := fun j b hj hb => List.mem_filterMap.2 ⟨_, heldAt_mem L hj, hb⟩
    intro i j hi hj hij b hbi hbj
    cases i with
    | zero =>
      cases j with
      | zero => exact hij rfl
      | succ j => exact hx b hbi (hm j b (by simpa using hj) hbj)
    | succ i =>
      cases j with
      | zero => exact hx b hbj (hm i b (by simpa using hi) hbi)
      | succ j => exact ih hL i j (by simpa using hi) (by simpa using hj) (by omega) b hbi hbj

theorem mem_blocks {L : List Held} {j b : Nat} (hj : j < L.length) (hb : (heldAt L j).v.ownBlock = some b) : b ∈ blocksOf L := List.mem_filterMap.2 ⟨_, heldAt_mem L hj, hb⟩

/-- Apart, where only lists of ints were told. -/
theorem apartI (w : World) (B base lo : Nat) (n : Int) (LI : List Held) (S : BkS w B base n LI [] [] [] []) (hm : LI.length ≤ 1000000) (h1 : n ≤ 1000000) (hR : ∀ h ∈ LI, RowV 1 w h.v h.n h.xs ∧ h.n ≤ 1000000) (hb : ∀ b ∈ blocksOf LI, lo ≤ b ∧ b < B) (hn : (blocksOf LI).Nodup) (hlo : lo ≤ B) :
    Calls Tryz.prog 16 #[.pointer (some ⟨B, 0, none⟩)] w fun e w' => e = .returned (.bool true) ∧ Below lo w w' := by
  obtain ⟨f, S⟩ := S
  refine (apartInts_any w B f base LI.length (heldAt LI) S.box (fun j h0 h16 h2 => ?_) S.ai (fun j hj => (hR _ (heldAt_mem LI hj)).1) hm (fun j hj => (hR _ (heldAt_mem LI hj)).2) (fun j hj => (S.nums _ (by simp only [List.mem_append]; simp [heldAt_mem LI hj])).2)
    (fun j hj => ?_) (apartV_of hn) (fun j hj e => ?_) (fun j hj k hk e => ?_) (fun e => ?_)).mono ?_
  · by_cases h7 : j = 7
    · subst h7; exact S.en rfl
    by_cases h8 : j = 8
    · subst h8; exact S.es rfl
    by_cases h9 : j = 9
    · subst h9; exact S.ec rfl
    by_cases h14 : j = 14
    · subst h14; exact S.eg rfl
    exact S.rest j h0 h16 h2 h7 h8 h9 h14
  · have := (S.nums _ (show heldAt LI j ∈ _ by simp only [List.mem_append]; simp [heldAt_mem LI hj])).1
    omega
  · have := (hb B (mem_blocks hj e)).2; omega
  · have h3 := (hb k (mem_blocks hj e)).2
    have h4 := (S.ai.lt k hk).1
    have := S.lo
    omega
  · have h4 := (S.ai.lt B e).1
    have := S.lo
    omega
  · rintro e w' ⟨he, ho⟩
    refine ⟨he, ho.below (fun k hk => ?_) (by have := S.box.lt; omega)⟩
    rcases hk with ⟨j, hj, e⟩ | e
    · exact (hb k (mem_blocks hj e)).1
    · have := (S.ai.lt k e).1; have := S.lo; omega
end Go.Proofs.YtekejcnphmnidaaGreatDoor
