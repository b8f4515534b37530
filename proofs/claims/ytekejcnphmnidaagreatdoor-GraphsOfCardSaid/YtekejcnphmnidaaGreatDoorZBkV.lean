import Derived.Test.YtekejcnphmnidaaGreatDoorZBkM
import Derived.Test.YtekejcnphmnidaaGreatDoorZBf
import Derived.ArgAppend
import Derived.Deep.AppendLies
namespace Go.Proofs.YtekejcnphmnidaaGreatDoor
open Go.RowKit
def RowP (lo : Nat) (w : World) (v : Value) (n : Nat) (num : Int) (k : Nat) : Prop :=
  ∃ xs, RowV 1 w v n xs ∧ ∀ q, q < k → ∃ b, xs[q]? = some (.slice (some ⟨b, 0, none⟩) 1 1) ∧ lo ≤ b ∧ b < w.heap.size ∧ some b ≠ v.ownBlock ∧ w.cell? ⟨b, 0, none⟩ = some (.int .i64 (-num))
theorem RowP.of {lo : Nat} {w : World} {v : Value} {n : Nat} {xs : List Value} (h : RowV 1 w v n xs) (num : Int) : RowP lo w v n num 0 := ⟨xs, h, fun _ hq => absurd hq (Nat.not_lt_zero _)⟩
theorem RowP.lt {lo : Nat} {w : World} {v : Value} {n : Nat} {num : Int} {k : Nat} (h : RowP lo w v n num k) : ∀ b, v.ownBlock = some b → b < w.heap.size := by
  obtain ⟨xs, h1, _⟩ := h; exact h1.lt
theorem RowP.keep {lo : Nat} {w w' : World} {v : Value} {n : Nat} {num : Int} {k : Nat} (h : RowP lo w v n num k) (hz : w.heap.size ≤ w'.heap.size) (hb : ∀ b, v.ownBlock = some b → w'.heap[b]? = w.heap[b]?) (hm : ∀ b, lo ≤ b → b < w.heap.size → w'.heap[b]? = w.heap[b]?) : RowP lo w' v n num k := by
  obtain ⟨xs, h1, h2⟩ := h
  refine ⟨xs, h1.keep hz hb, fun q hq => ?_⟩
  obtain ⟨b, e, hl, hlt, ho, hc⟩ := h2 q hq
  exact ⟨b, e, hl, Nat.lt_of_lt_of_le hlt hz, ho, by simp only [World.cell?, hm b hl hlt] at hc ⊢; exact hc⟩
theorem RowP.below {lo : Nat} {w w' : World} {v : Value} {n : Nat} {num : Int} {k : Nat} (h : RowP lo w v n num k) (hb : Below w.heap.size w w') : RowP lo w' v n num k :=
  h.keep hb.size (fun b e => hb.block b (h.lt b e)) (fun b _ hl => hb.block b hl)
theorem RowP.only {lo : Nat} {S : Nat → Prop} {w w' : World} {v : Value} {n : Nat} {num : Int} {k : Nat} (h : RowP lo w v n num k) (ho : Only S w w') (hS : ∀ b, v.ownBlock = some b → ¬ S b) (hlo : ∀ b, S b → b < lo) : RowP lo w' v n num k :=
  h.keep ho.size (fun b e => ho.block b (h.lt b e) (hS b e)) (fun b hl hlt => ho.block b hlt (fun hs => by have := hlo b hs; omega))
theorem RowP.slice {lo : Nat} {w : World} {v : Value} {n : Nat} {num : Int} {k : Nat} (h : RowP lo w v n num k) : ∃ a cap, v = .slice a n cap ∧ n ≤ cap ∧ cap ≤ 9223372036854775807 ∧ (a = none → n = 0 ∧ cap = 0) := by
  obtain ⟨xs, h1, _⟩ := h
  exact h1.slice
theorem RowP.get {lo : Nat} {w : World} {v : Value} {n : Nat} {num : Int} {k : Nat} (h : RowP lo w v n num k) {q : Nat} (hq : q < k) (hn : k ≤ n) :
    ∃ g off cap b, v = .slice (some ⟨g, off, none⟩) n cap ∧ g < w.heap.size ∧ w.cell? ⟨g, off + q, none⟩ = some (.slice (some ⟨b, 0, none⟩) 1 1) ∧ b < w.heap.size ∧ w.cell? ⟨b, 0, none⟩ = some (.int .i64 (-num)) := by
  obtain ⟨xs, ⟨_, h0, _⟩ | ⟨g, off, cap, hv, h1⟩, h2⟩ := h
  · omega
  · obtain ⟨b, e, _, hlt, _, hc⟩ := h2 q hq
    exact ⟨g, off, cap, b, hv, h1.lt, h1.cell q _ e, hlt, hc⟩
theorem RowP.other {lo : Nat} {w : World} {v : Value} {n : Nat} {num : Int} {k : Nat} (h : RowP lo w v n num k) (g o : Nat) (u : Value) (hg : g < lo) (hv : ∀ b, v.ownBlock = some b → b ≠ g) : RowP lo (w.setCell ⟨g, o, none⟩ u) v n num k :=
  h.keep (by simp [World.setCell]) (fun b e => Below.heap_setCell _ _ _ _ (by intro e'; exact hv b e (by first | exact e' | exact e'.symm))) (fun b hl _ => Below.heap_setCell _ _ _ _ (by intro e'; simp only at e'; omega))
theorem RowP.put {lo : Nat} {w : World} {n : Nat} {num : Int} {k g off cap : Nat} (h : RowP lo w (.slice (some ⟨g, off, none⟩) n cap) n num k) (hk : k < n) {b : Nat} (hb : lo ≤ b) (hlt : b < w.heap.size) (hbg : b ≠ g) (hc : w.cell? ⟨b, 0, none⟩ = some (.int .i64 (-num))) :
    RowP lo (w.setCell ⟨g, off + k, none⟩ (.slice (some ⟨b, 0, none⟩) 1 1)) (.slice (some ⟨g, off, none⟩) n cap) n num (k + 1) := by
  obtain ⟨xs, hr, h2⟩ := h
  rcases hr with ⟨h1, _⟩ | ⟨g', off', cap', h1, hr⟩
  · cases h1
  cases h1
  have hcm : ∀ b', b' ≠ g → (w.setCell ⟨g, off + k, none⟩ (.slice (some ⟨b, 0, none⟩) 1 1)).cell? ⟨b', 0, none⟩ = w.cell? ⟨b', 0, none⟩ := fun b' hl => World.cell?_setCell_other _ _ _ _ (by intro e; simp only [Addr.mk.injEq] at e; omega)
  refine ⟨xs.set k (.slice (some ⟨b, 0, none⟩) 1 1), .inr ⟨g, off, cap, rfl, hr.set k (by omega) _⟩, fun q hq => ?_⟩
  have hl : k < xs.length := by have := hr.len; omega
  by_cases e : q = k
  · subst e
    exact ⟨b, by simp [hl], hb, by simp [World.setCell]; exact hlt, fun e => hbg (Option.some.inj e), (hcm b hbg).trans hc⟩
  · obtain ⟨b', e', h3, h4, h6, h5⟩ := h2 q (by omega)
    exact ⟨b', by rw [List.getElem?_set_ne (Ne.symm e)]; exact e', h3, by simp [World.setCell]; exact h4, h6, (hcm b' (fun e => h6 (congrArg some e))).trans h5⟩
theorem wpList_pushP {lo : Nat} {ops : Array Oper} {rest : List Oper} {o : Oper} {a : Act} {Q : Exit → Act → World → Prop} (w : World) (hgd : o.guard = none) (s t : Operand)
    (ho : o.op = .call { callee := .builtin .append, args := #[s, t], argTypes := #[59, 59] }) (v : Value) (n : Nat) (num : Int) (b bb : Nat)
    (hrow : RowP lo w v n num n) (hs : a.eval s = v) (ht : a.eval t = .slice (some ⟨bb, 0, none⟩) 1 1) (hbb : w.cell? ⟨bb, 0, none⟩ = some (.slice (some ⟨b, 0, none⟩) 1 1)) (hb : lo ≤ b) (hlt : b < w.heap.size) (hbv : some b ≠ v.ownBlock) (hc : w.cell? ⟨b, 0, none⟩ = some (.int .i64 (-num))) (hlen : n ≤ 10000000)
    (hK : ∀ v' w', RowP lo w' v' (n + 1) num (n + 1) →
      ((∃ g off cap, v = .slice (some ⟨g, off, none⟩) n cap ∧ v' = .slice (some ⟨g, off, none⟩) (n + 1) cap ∧ n < cap ∧ w' = w.setCells g (off + n * 1) [.slice (some ⟨b, 0, none⟩) 1 1]) ∨ (Only (fun _ => False) w w' ∧ ∃ k, v'.ownBlock = some k ∧ w.heap.size ≤ k)) →
      wpList Tryz.prog ops Q rest (a.put o.dst v') w') :
    wpList Tryz.prog ops Q (o :: rest) a w := by
  obtain ⟨i0, hi, hz0, hz1, hz2⟩ := info_parts Tryz.info22
  obtain ⟨xs, hrow, hmk⟩ := hrow
  have hnews : ∀ j u, ([.slice (some ⟨b, 0, none⟩) 1 1] : List Value)[j]? = some u → w.cell? ((⟨bb, 0, none⟩ : Addr).add j) = some u := fun j u hj => by
    match j, hj with
    | 0, hj => rw [Addr.add_lit, Nat.zero_add, hbb]; exact hj
  have hone : ∀ u ∈ ([.slice (some ⟨b, 0, none⟩) 1 1] : List Value), u.oneCell' = true := fun u hu => by
    simp only [List.mem_cons, List.not_mem_nil, or_false] at hu
    subst hu; rfl
  have hmarks : ∀ (w' : World) (v' : Value) (ys : List Value), (∀ b', lo ≤ b' → b' < w.heap.size → some b' ≠ v.ownBlock → w'.cell? ⟨b', 0, none⟩ = w.cell? ⟨b', 0, none⟩ ∧ some b' ≠ v'.ownBlock) → w.heap.size ≤ w'.heap.size → ys.length = n → ys = xs →
      ∀ q, q < n + 1 → ∃ b', (ys ++ [Value.slice (some ⟨b, 0, none⟩) 1 1])[q]? = some (.slice (some ⟨b', 0, none⟩) 1 1) ∧ lo ≤ b' ∧ b' < w'.heap.size ∧ some b' ≠ v'.ownBlock ∧ w'.cell? ⟨b', 0, none⟩ = some (.int .i64 (-num)) := fun w' v' ys hcell hz hl e q hq => by
    subst e
    by_cases c : q < n
    · obtain ⟨b', e', h3, h4, h6, h5⟩ := hmk q c
      obtain ⟨h7, h8⟩ := hcell b' h3 h4 h6
      exact ⟨b', by rw [List.getElem?_append_left (by omega)]; exact e', h3, by omega, h8, h7.trans h5⟩
    · obtain rfl : q = n := by omega
      obtain ⟨h7, h8⟩ := hcell b hb hlt hbv
      exact ⟨b, by rw [List.getElem?_append_right (by omega), hl]; simp, hb, by omega, h8, h7.trans hc⟩
  have hxl : xs.length = n := by rw [hrow.len]; omega
  have hgrown : ∀ (v' : Value) (w' : World), w.grownBy w' none → (∃ k, v'.ownBlock = some k ∧ w.heap.size ≤ k) → ∀ b', lo ≤ b' → b' < w.heap.size → some b' ≠ v.ownBlock → w'.cell? ⟨b', 0, none⟩ = w.cell? ⟨b', 0, none⟩ ∧ some b' ≠ v'.ownBlock := fun v' w' hg ⟨k, hk, hz⟩ b' _ h2 _ => by
    refine ⟨by simp only [World.cell?, hg.block b' h2 (by simp)], fun e => ?_⟩
    rw [hk] at e
    have : b' = k := Option.some.inj e
    omega
  rcases hrow with ⟨rfl, rfl, rfl⟩ | ⟨g, off, cap, rfl, hr⟩
  · refine wpList_append_grows w hgd s t 59 ho 22 i0 _ 1 24 Tryz.underlying59 hi hz0 hz1 hz2 rfl (by decide) none 0 0 [] hs (fun _ => ⟨rfl, rfl⟩) rfl (fun b hb => by cases hb) ⟨bb, 0, none⟩ 1 1 [.slice (some ⟨b, 0, none⟩) 1 1] ht rfl hnews hone (by omega) (by unfold maxLen; omega) (by omega) ?_
    intro v' w' hown hg
    have hf : ∃ k, v'.ownBlock = some k ∧ w.heap.size ≤ k := by
      obtain ⟨g', cap', rfl, h1, _⟩ := hown.form (by omega)
      exact ⟨g', rfl, h1⟩
    exact hK v' w' ⟨_, RowV.of_owns hown, hmarks w' v' [] (hgrown v' w' hg hf) hg.size rfl rfl⟩ (.inr ⟨Only.grown hg (fun k hk => by cases hk), hf⟩)
  · refine wpList_append_arg w hgd s t 59 ho 22 i0 _ 1 24 Tryz.underlying59 hi hz0 hz1 hz2 rfl (by decide) g off n cap xs hs hr.len hr.cell ⟨bb, 0, none⟩ 1 1 [.slice (some ⟨b, 0, none⟩) 1 1] ht rfl hnews hone ?_ (by unfold maxLen; omega) (by omega) ?_ ?_
    · intro hc' j hj
      have hj0 : j < 1 := by simpa using hj
      have := hr.all (n * 1 + j) (by omega)
      rwa [← Nat.add_assoc] at this
    · intro hc'
      refine hK _ _ ⟨_, .inr ⟨g, off, cap, rfl, hr.pushE (by omega) _ rfl⟩, hmarks _ _ xs (fun b' _ h2 h3 => ⟨?_, h3⟩) (by rw [size_setCells]; exact Nat.le_refl _) hxl rfl⟩ (.inl ⟨g, off, cap, rfl, rfl, by omega, rfl⟩)
      have hne : b' ≠ g := fun e => h3 (congrArg some e)
      simp only [World.cell?, heap_setCells g hne]
    · intro _ v' w' hown hg
      have hf : ∃ k, v'.ownBlock = some k ∧ w.heap.size ≤ k := by
        obtain ⟨g', cap', rfl, h1, _⟩ := hown.form (by omega)
        exact ⟨g', rfl, h1⟩
      exact hK v' w' ⟨_, RowV.of_owns hown, hmarks w' v' xs (hgrown v' w' hg hf) hg.size hxl rfl⟩ (.inr ⟨Only.grown hg (fun k hk => by cases hk), hf⟩)
end Go.Proofs.YtekejcnphmnidaaGreatDoor
