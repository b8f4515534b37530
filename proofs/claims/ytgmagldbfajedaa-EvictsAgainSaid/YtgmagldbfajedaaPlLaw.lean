/-
  Plain Lean: the plan of a graph (chapter 22), and what the statements of the chapters 22 and 23 ask of it.
-/
import Derived.Test.YtgmagldbfajedaaPlWhole
namespace Go.Proofs.Ytgmagldbfajedaa
namespace Pl
open Gr Od Co

def bytesOf (g : List Gr.Node) (s : List (List Int)) : List Int := (costs g s).map fun c => c.bytes
/-- Is a node rather reckoned again? -/
def againB (g : List Gr.Node) (C : List Cost) (v : Int) : Bool :=
  !srcB (nodeN g v.toNat) && (nodeN g v.toNat).inn.all (fun u => srcB (nodeN g u.toNat)) && decide ((costN C v.toNat).work ≤ (costN C v.toNat).bytes)
def planEnv (g : List Gr.Node) (s : List (List Int)) (room : Int) (again : Bool) : Env := ⟨g, bytesOf g s, ordOf g, room, fun u => again && againB g (costs g s) u⟩
/-- The plan: of the first try, or of the second one. -/
def planSt (g : List Gr.Node) (s : List (List Int)) (room : Int) : St := if (tryF (planEnv g s room true)).2 = true then (tryF (planEnv g s room true)).1 else (tryF (planEnv g s room false)).1

theorem bytes_at {g : List Gr.Node} {s : List (List Int)} {i : Nat} (hi : i < g.length) : nth (bytesOf g s) i = 4 * size (rowL s i) := by
  unfold bytesOf costs costsK
  rw [nth_eq _ i (by simpa using hi)]
  simp [cost]
theorem env_ok {g : List Gr.Node} {s : List (List Int)} (h : shapes g = some s) {room : Int} (hr : 0 ≤ room ∧ room ≤ 1048576) (again : Bool) : EnvOk (planEnv g s room again) := by
  have hl : (bytesOf g s).length = g.length := by unfold bytesOf costs; rw [List.length_map, costsK_length]
  refine ⟨by show (shapes g).isSome = true; rw [h]; rfl, hl, ?_, hr, rfl, fun u hu => ?_⟩
  · show Ev.within (bytesOf g s) = true
    unfold Ev.within
    rw [List.all_eq_true]
    intro x hx
    obtain ⟨i, hi, rfl⟩ := mem_nth hx
    rw [hl] at hi
    rw [bytes_at hi]
    have := size_bounds h hi
    simp
    omega
  · have hu' : (again && againB g (costs g s) u) = true := hu
    simp only [Bool.and_eq_true] at hu'
    have h2 := hu'.2
    unfold againB at h2
    simp only [Bool.and_eq_true, Bool.not_eq_true', List.all_eq_true] at h2
    exact ⟨h2.1.1, h2.1.2⟩

theorem once_take (b : List Int) (s : List (List Int)) (inn : List Int) (hb : ∀ v ∈ inn, Ev.at_ b v = 4 * sizeAt s v) : ∀ k, k ≤ inn.length → Ev.sumB b (once (inn.take k)) = insK s inn k
  | 0, _ => by simp [once, Ev.sumB, insK]
  | k + 1, hk => by
    have ih := once_take b s inn hb k (by omega)
    rw [once_snoc inn k (by omega)]
    unfold once1 insK
    have e : hasB (once (inn.take k)) (nth inn k) = hasB (inn.take k) (nth inn k) := by rw [Bool.eq_iff_iff, hasB_iff, hasB_iff, once_mem]
    rw [e]
    split
    · rw [ih]; omega
    · rw [Ev.sumB_append, ih]
      simp only [Ev.sumB]
      rw [hb _ (nth_mem inn k (by omega))]
      omega
theorem need_eq {g : List Gr.Node} {s : List (List Int)} (h : shapes g = some s) {i : Nat} (hi : i < g.length) : Ev.at_ (bytesOf g s) (i : Int) + Ev.sumB (bytesOf g s) (once (nodeN g i).inn) = (costN (costs g s) i).need := by
  have h1 := once_take (bytesOf g s) s (nodeN g i).inn (fun v hv => by
    obtain ⟨h0, h1⟩ := (inn_of h hi).2 v hv
    obtain ⟨n, rfl⟩ : ∃ n : Nat, v = (n : Int) := ⟨v.toNat, by omega⟩
    unfold Ev.at_ sizeAt
    rw [Int.toNat_natCast, bytes_at (by omega), rowAt_nat]) _ (Nat.le_refl _)
  rw [List.take_length] at h1
  rw [h1]
  unfold Ev.at_ costs
  rw [Int.toNat_natCast, bytes_at hi, costsK_at _ _ _ _ hi]
  rfl

/-- One of the tries does it. -/
theorem plan_try {g : List Gr.Node} {s : List (List Int)} (h : shapes g = some s) {room : Int} (h0 : leastF (costs g s) (ordOf g) ≤ room) (hr : 0 ≤ room ∧ room ≤ 1048576) :
    ∃ again, (tryF (planEnv g s room again)).2 = true ∧ planSt g s room = (tryF (planEnv g s room again)).1 := by
  unfold planSt
  by_cases c : (tryF (planEnv g s room true)).2 = true
  · exact ⟨true, c, if_pos c⟩
  · refine ⟨false, ?_, if_neg c⟩
    have hE := env_ok h hr false
    have hO := ordOk hE
    refine try_ok hE hO (fun u => rfl) fun i hi _ => ?_
    obtain ⟨hv0, hv1⟩ := hO.at_ i hi
    obtain ⟨n, hn⟩ : ∃ n : Nat, nth (planEnv g s room false).order i = (n : Int) := ⟨(nth (planEnv g s room false).order i).toNat, by omega⟩
    rw [hn, Int.toNat_natCast]
    have h1 := need_eq h (i := n) (by rw [hn] at hv1; exact Int.ofNat_lt.1 hv1)
    have h2 := least_ge (costs g s) (ordOf g) (v := (n : Int)) (by rw [← hn]; exact nth_mem _ i hi)
    rw [Int.toNat_natCast] at h2
    show Ev.at_ (bytesOf g s) (n : Int) + Ev.sumB (bytesOf g s) (once (nodeN g n).inn) ≤ room
    omega

/-- What is known of a plan. -/
structure Plan (g : List Gr.Node) (s : List (List Int)) (room : Int) (l : List (Int × Int)) : Prop where
  run : ∃ K, okRun g (kn0 g) l = some K ∧ endK g.length K g.length = true
  us : ∀ x ∈ useds g (fun u => nth (bytesOf g s) u) (kn0 g) l, x ≤ room
  len : l.length ≤ 2300
  peak : ∃ x ∈ useds g (fun u => nth (bytesOf g s) u) (kn0 g) l, leastF (costs g s) (ordOf g) ≤ x
  fresh : freshR g (kn0 g) l
  sd : sdB l
  fut : ∀ p u q, l = p ++ (4, u) :: q → ∃ w, (3, w) ∈ q ∧ u ∈ (nodeN g w.toNat).inn

theorem plan_good {g : List Gr.Node} {s : List (List Int)} (h : shapes g = some s) {room : Int} (h0 : leastF (costs g s) (ordOf g) ≤ room) (hr : 0 ≤ room ∧ room ≤ 1048576) : Plan g s room (planSt g s room).l := by
  obtain ⟨again, h1, h2⟩ := plan_try h h0 hr
  have hE := env_ok h hr again
  have hO := ordOk hE
  have hP := try_good hE hO h1
  have hL := try_len hE hO
  rw [h2]
  obtain ⟨K, hK⟩ := hP.j.inv
  have hroot := hP.root rfl
  refine ⟨⟨K, hK.run, (endK_parts _).2 fun v hv => ?_⟩, hK.us, hL.1, ?_, hK.fresh, hP.j.sd, fun p u q e => ?_⟩
  · obtain ⟨k1, k2, _, _⟩ := hK.kn v hv
    refine ⟨by rw [k2]; rfl, fun hn => ?_⟩
    rw [k1]
    have : (v : Int) = (g.length : Int) - 1 := by omega
    have h3 : hasB (tryF (planEnv g s room again)).1.inn (v : Int) = true := (hasB_iff _ _).2 (by rw [this]; exact hroot)
    rw [h3]; rfl
  · -- a node with the greatest need that is reckoned
    have hnb : ∀ i, i < g.length → 4 ≤ (costN (costs g s) i).need := fun i hi => by
      have h3 := need_bounds h hi
      have h4 := insK_range s (nodeN g i).inn (nodeN g i).inn.length
      unfold costs
      rw [costsK_at _ _ _ _ hi]
      omega
    have hpos : ∀ v ∈ ordOf g, ∃ i, i < (planEnv g s room again).order.length ∧ nth (planEnv g s room again).order i = v := fun v hv => mem_nth hv
    obtain ⟨v, hv, hle⟩ := least_at (costs g s) (ordOf g) (fun v hv => by
      obtain ⟨i, hi, he⟩ := hpos v hv
      obtain ⟨a0, a1⟩ := hO.at_ i hi
      rw [he] at a0 a1
      have := hnb v.toNat (by have : v < (g.length : Int) := a1; omega)
      omega) hO.pos
    obtain ⟨i, hi, he⟩ := hpos v hv
    obtain ⟨a0, a1⟩ := hO.at_ i hi
    rw [he] at a0 a1
    have a1' : v < (g.length : Int) := a1
    have key : ∀ u : Int, 0 ≤ u → u < (g.length : Int) → (∃ j, j < (planEnv g s room again).order.length ∧ nth (planEnv g s room again).order j = u) → srcB (nodeN g u.toNat) = false →
        ∃ x ∈ useds g (fun u => nth (bytesOf g s) u) (kn0 g) (tryF (planEnv g s room again)).1.l, (costN (costs g s) u.toNat).need ≤ x := fun u u0 u1 ⟨j, hj, hje⟩ hs => by
      rcases hP.did j hj with h3 | ⟨_, x, hx, h4⟩
      · rw [hje] at h3
        have h3' : srcB (nodeN g u.toNat) = true := h3
        rw [h3'] at hs; cases hs
      · rw [hje] at h4
        refine ⟨x, hx, ?_⟩
        have h5 := need_eq h (i := u.toNat) (by omega)
        rw [Int.toNat_of_nonneg u0] at h5
        rw [← h5]
        exact h4
    by_cases c : srcB (nodeN g v.toNat) = true
    · -- a source is taken in by one that needs more
      exfalso
      have hi2 : i < (planEnv g s room again).order.length - 1 := by
        rcases Nat.lt_or_ge i ((planEnv g s room again).order.length - 1) with h3 | h3
        · exact h3
        · exfalso
          have h4 := hO.last
          rw [show (planEnv g s room again).order.length - 1 = i by omega, he] at h4
          have h5 := hO.lastSrc
          have h6 : v.toNat = g.length - 1 := by have : v = (g.length : Int) - 1 := h4; have := hO.l1; omega
          rw [h6] at c
          have h5' : srcB (nodeN g (g.length - 1)) = false := h5
          rw [c] at h5'; cases h5'
      obtain ⟨j, h3, h4, h5⟩ := hO.taken i hi2
      rw [he] at h5
      obtain ⟨b0, b1⟩ := hO.at_ j h4
      have b1' : nth (planEnv g s room again).order j < (g.length : Int) := b1
      have h6 := least_ge (costs g s) (ordOf g) (nth_mem _ j h4)
      have h7 := need_eq h (i := (nth (planEnv g s room again).order j).toNat) (by omega)
      have h8 := need_eq h (i := v.toNat) (by omega)
      have hnil : (nodeN g v.toNat).inn = [] := hO.srcInn _ c (show v.toNat < g.length by omega)
      rw [hnil] at h8
      have hsub := sub_sum (bytesOf g s) [v] (once (nodeN g (nth (planEnv g s room again).order j).toNat).inn) (fun y hy => by
        have := (inn_of h (i := (nth (planEnv g s room again).order j).toNat) (by omega)).2 y ((once_mem _ _).1 hy)
        exact (at_nonneg hE this.1 (show y < (g.length : Int) by omega)).1) (by simp) (fun y hy => by
        simp at hy; subst hy; exact (once_mem _ _).2 h5)
      have hsz := size_bounds h (i := (nth (planEnv g s room again).order j).toNat) (by omega)
      have hb : Ev.at_ (bytesOf g s) (((nth (planEnv g s room again).order j).toNat : Nat) : Int) = 4 * size (rowL s (nth (planEnv g s room again).order j).toNat) := by
        unfold Ev.at_; rw [Int.toNat_natCast, bytes_at (by omega)]
      have h6' : (costN (costs g s) (nth (planEnv g s room again).order j).toNat).need ≤ leastF (costs g s) (ordOf g) := h6
      rw [Int.toNat_of_nonneg a0] at h8
      simp only [once, List.foldl_nil, Ev.sumB] at h8
      simp only [Ev.sumB] at hsub
      rw [hb] at h7
      omega
    · obtain ⟨x, hx, h3⟩ := key v a0 a1' ⟨i, hi, he⟩ (by simpa using c)
      exact ⟨x, hx, by rw [hle]; exact h3⟩
  · rcases hP.j.fut p u q e with h3 | ⟨j, h3, h4, _⟩
    · exact h3
    · exact absurd h4 (by omega)

/-! ### What the statements ask -/

/-- A node that was not in, and is in, came. -/
theorem came {g : List Gr.Node} : ∀ (p : List (Int × Int)) (K K' : Nat → Kn) (u : Nat), okRun g K p = some K' → (K u).inn = false → (K' u).inn = true → (2, (u : Int)) ∈ p ∨ (3, (u : Int)) ∈ p
  | [], K, K', u, h, h1, h2 => by simp [okRun] at h; subst h; rw [h1] at h2; cases h2
  | s :: r, K, K', u, h, h1, h2 => by
    obtain ⟨K1, h3, _, h5⟩ := okRun_cons h
    by_cases c : (K1 u).inn = true
    · obtain ⟨h0, _, k, hk, rfl⟩ := stepK_some h3
      have hu : s.2.toNat = u := by
        apply Classical.byContradiction
        intro hne
        rw [upd_ne _ _ _ (fun e => hne e.symm), h1] at c
        cases c
      have hs : s = (s.1, (u : Int)) := by rw [← hu, Int.toNat_of_nonneg h0]
      subst hu
      rw [upd_at] at c
      have hk12 : s.1 = 2 ∨ s.1 = 3 := by
        unfold beh at hk
        by_cases c1 : s.1 = 1
        · rw [if_pos c1] at hk
          split at hk
          · cases hk; simp only at c; rw [h1] at c; cases c
          · cases hk
        rw [if_neg c1] at hk
        by_cases c2 : s.1 = 2
        · exact .inl c2
        rw [if_neg c2] at hk
        by_cases c3 : s.1 = 3
        · exact .inr c3
        rw [if_neg c3] at hk
        split at hk
        · split at hk
          · cases hk; simp only at c; rw [h1] at c; cases c
          · cases hk
        split at hk
        · split at hk
          · cases hk; cases c
          · cases hk
        cases hk
      rcases hk12 with e | e
      · left; rw [hs, e]; simp
      · right; rw [hs, e]; simp
    · rcases came r K1 K' u h5 (by simpa using c) h2 with h | h
      · exact .inl (by simp [h])
      · exact .inr (by simp [h])

/-- What is on the disk stays there. -/
theorem disk_stays {g : List Gr.Node} : ∀ (p : List (Int × Int)) (K K' : Nat → Kn) (u : Nat), okRun g K p = some K' → (K u).disk = true → (K' u).disk = true
  | [], K, K', u, h, h1 => by simp [okRun] at h; subst h; exact h1
  | s :: r, K, K', u, h, h1 => by
    obtain ⟨K1, h3, _, h5⟩ := okRun_cons h
    refine disk_stays r K1 K' u h5 ?_
    obtain ⟨_, _, k, hk, rfl⟩ := stepK_some h3
    by_cases c : u = s.2.toNat
    · subst c
      rw [upd_at]
      unfold beh at hk
      split at hk
      · split at hk
        · cases hk; exact h1
        · cases hk
      split at hk
      · split at hk
        · cases hk; exact h1
        · cases hk
      split at hk
      · split at hk
        · cases hk; exact h1
        · cases hk
      split at hk
      · split at hk
        · cases hk; rfl
        · cases hk
      split at hk
      · split at hk
        · cases hk; exact h1
        · cases hk
      cases hk
    · rw [upd_ne _ _ _ c]; exact h1

/-- What is on the disk, and not in, is asked for ahead of being in. -/
theorem asked_for {g : List Gr.Node} : ∀ (p : List (Int × Int)) (K K' : Nat → Kn) (u : Nat), okRun g K p = some K' → freshR g K p → (K u).inn = false → (K u).asked = false → (K u).disk = true → (K' u).inn = true → (1, (u : Int)) ∈ p
  | [], K, K', u, h, _, h1, _, _, h2 => by simp [okRun] at h; subst h; rw [h1] at h2; cases h2
  | s :: r, K, K', u, h, hf, h1, ha, hd, h2 => by
    obtain ⟨K1, h3, _, h5⟩ := okRun_cons h
    have hf1 := hf.2 K1 h3
    have hf0 := hf.1
    obtain ⟨h0, _, k, hk, rfl⟩ := stepK_some h3
    by_cases c : s.2.toNat = u
    · have hs : s = (s.1, (u : Int)) := by rw [← c, Int.toNat_of_nonneg h0]
      subst c
      unfold beh at hk
      rw [h1, ha, hd] at hk
      by_cases c1 : s.1 = 1
      · rw [hs, c1]; simp
      by_cases c2 : s.1 = 2
      · simp [c2] at hk
      by_cases c3 : s.1 = 3
      · have := hf0 c3; rw [hd] at this; cases this
      by_cases c4 : s.1 = 4
      · simp [c4] at hk
      by_cases c5 : s.1 = 5
      · simp [c5] at hk
      simp [c1, c2, c3, c4, c5] at hk
    · have hne : u ≠ s.2.toNat := fun e => c e.symm
      have := asked_for r _ K' u h5 hf1 (by rw [upd_ne _ _ _ hne]; exact h1) (by rw [upd_ne _ _ _ hne]; exact ha) (by rw [upd_ne _ _ _ hne]; exact hd) h2
      simp [this]

theorem freshR_append {g : List Gr.Node} : ∀ (p q : List (Int × Int)) (K K' : Nat → Kn), freshR g K (p ++ q) → okRun g K p = some K' → freshR g K' q
  | [], q, K, K', h, hr => by simp [okRun] at hr; subst hr; exact h
  | s :: p, q, K, K', h, hr => by
    obtain ⟨K1, h3, _, h5⟩ := okRun_cons hr
    exact freshR_append p q K1 K' (h.2 K1 h3) h5

/-- What is stored goes right behind that, is no source, is asked for later, and is not stored again. -/
theorem plan_store {g : List Gr.Node} {s : List (List Int)} {room : Int} {l : List (Int × Int)} (H : Plan g s room l) {p q : List (Int × Int)} {u : Int} (e : l = p ++ (4, u) :: q) :
    (0 ≤ u ∧ u < g.length) ∧ srcB (nodeN g u.toNat) = false ∧ (∃ q', q = (5, u) :: q') ∧ (1, u) ∈ q ∧ ¬ (4, u) ∈ q := by
  obtain ⟨K, hK, _⟩ := H.run
  have hK' := hK
  rw [e] at hK'
  obtain ⟨K1, r1, r2⟩ := (okRun_append p _ _ _).1 hK'
  obtain ⟨K2, s1, _, r3⟩ := okRun_cons r2
  obtain ⟨u0, u1, k, hk, hK2⟩ := stepK_some s1
  simp only at u0 u1 hk hK2
  obtain ⟨n, rfl⟩ : ∃ n : Nat, u = (n : Int) := ⟨u.toNat, by omega⟩
  rw [Int.toNat_natCast] at hk hK2 ⊢
  unfold beh at hk
  rw [if_neg (by decide), if_neg (by decide), if_neg (by decide), if_pos rfl] at hk
  split at hk
  case isFalse => cases hk
  rename_i hc
  cases hk
  have hd2 : (K2 n).disk = true := by rw [hK2, upd_at]
  have ha1 : (K1 n).asked = false := by
    cases ha : (K1 n).asked with
    | false => rfl
    | true => have := (askInv_run p _ K1 (askInv_kn0 g) r1 n ha).2; rw [hc.1] at this; cases this
  have hq : ∃ q', q = (5, (n : Int)) :: q' := by
    have hi : p.length < l.length := by rw [e]; simp
    have h4 : (l[p.length]).1 = 4 := by simp [e]
    obtain ⟨h5, h6⟩ := sdB_at l p.length hi H.sd h4
    cases q with
    | nil => rw [e] at h5; simp at h5
    | cons y q' =>
      refine ⟨q', ?_⟩
      have : l[p.length + 1] = y := by simp [e]
      rw [this] at h6
      rw [h6]
      have : (l[p.length]).2 = (n : Int) := by simp [e]
      rw [this]
  refine ⟨⟨u0, u1⟩, ?_, hq, ?_, fun hm => ?_⟩
  · cases hs : srcB (nodeN g n) with
    | false => rfl
    | true =>
      have := disk_stays p _ K1 n r1 (by show srcB (nodeN g n) = true; exact hs)
      rw [this] at hc; exact absurd hc.2 (by decide)
  · obtain ⟨w, hw1, hw2⟩ := H.fut p (n : Int) q e
    obtain ⟨q1, q2, rfl⟩ := List.append_of_mem hw1
    obtain ⟨q', hq'⟩ := hq
    obtain ⟨K3, r4, r5⟩ := (okRun_append q1 _ _ _).1 r3
    obtain ⟨K4, s4, _, _⟩ := okRun_cons r5
    obtain ⟨_, _, k4, hk4, _⟩ := stepK_some s4
    have hk4 : beh g K3 3 w.toNat = some k4 := hk4
    unfold beh at hk4
    rw [if_neg (by decide), if_neg (by decide), if_pos rfl] at hk4
    split at hk4
    case isFalse => cases hk4
    rename_i hc4
    have hin := List.all_eq_true.1 hc4.1 (n : Int) hw2
    rw [Int.toNat_natCast] at hin
    -- behind the step that takes it away
    cases q1 with
    | nil => simp at hq'
    | cons y q1 =>
      have hy : y = (5, (n : Int)) := by simp at hq'; exact hq'.1
      subst hy
      obtain ⟨K5, s5, _, r6⟩ := okRun_cons r4
      obtain ⟨_, _, k5, hk5, rfl⟩ := stepK_some s5
      have hk5 : beh g K2 5 n = some k5 := hk5
      unfold beh at hk5
      rw [if_neg (by decide), if_neg (by decide), if_neg (by decide), if_neg (by decide), if_pos rfl] at hk5
      split at hk5
      case isFalse => cases hk5
      cases hk5
      have hf := H.fresh
      rw [e] at hf
      have hf2 : freshR g K2 ((5, (n : Int)) :: q1 ++ (3, w) :: q2) := (freshR_append p _ _ K1 hf r1).2 K2 s1
      have hf3 := hf2.2 _ s5
      have hf4 : freshR g (upd K2 (n : Int).toNat ⟨false, (K2 n).asked, (K2 n).disk, (K2 n).src⟩) q1 := by
        have hpre : ∀ (a b : List (Int × Int)) (K : Nat → Kn), freshR g K (a ++ b) → freshR g K a := fun a => by
          induction a with
          | nil => intro b K _; trivial
          | cons x r ih => intro b K h; exact ⟨h.1, fun K' hK' => ih b K' (h.2 K' hK')⟩
        exact hpre q1 _ _ hf3
      have ha2 : (K2 n).asked = false := by rw [hK2, upd_at]; exact ha1
      have := asked_for q1 _ K3 n r6 hf4 (by simp only [Int.toNat_natCast]; rw [upd_at]) (by simp only [Int.toNat_natCast]; rw [upd_at]; exact ha2) (by simp only [Int.toNat_natCast]; rw [upd_at]; exact hd2) hin
      simp [this]
  · obtain ⟨q1, q2, rfl⟩ := List.append_of_mem hm
    obtain ⟨K3, r4, r5⟩ := (okRun_append q1 _ _ _).1 r3
    obtain ⟨K4, s4, _, _⟩ := okRun_cons r5
    obtain ⟨_, _, k4, hk4, _⟩ := stepK_some s4
    have hd3 := disk_stays q1 K2 K3 n r4 hd2
    have hk4 : beh g K3 4 n = some k4 := hk4
    unfold beh at hk4
    rw [if_neg (by decide), if_neg (by decide), if_neg (by decide), if_pos rfl, hd3] at hk4
    simp at hk4

/-- A node is reckoned behind what it takes in. -/
theorem plan_order {g : List Gr.Node} {s : List (List Int)} {room : Int} {l : List (Int × Int)} (H : Plan g s room l) {p q : List (Int × Int)} {v : Int} (e : l = p ++ (3, v) :: q) : ∀ u ∈ (nodeN g v.toNat).inn, (2, ((u.toNat : Nat) : Int)) ∈ p ∨ (3, ((u.toNat : Nat) : Int)) ∈ p := by
  intro u hu
  obtain ⟨K, hK, _⟩ := H.run
  rw [e] at hK
  obtain ⟨K1, r1, r2⟩ := (okRun_append p _ _ _).1 hK
  obtain ⟨K2, s1, _, r3⟩ := okRun_cons r2
  obtain ⟨_, _, k, hk, _⟩ := stepK_some s1
  have hk : beh g K1 3 v.toNat = some k := hk
  unfold beh at hk
  rw [if_neg (by decide), if_neg (by decide), if_pos rfl] at hk
  split at hk
  case isFalse => cases hk
  rename_i hc
  exact came p _ K1 u.toNat r1 rfl (List.all_eq_true.1 hc.1 u hu)

/-- The last one came; the last step puts no question. -/
theorem plan_end {g : List Gr.Node} {s : List (List Int)} {room : Int} {l : List (Int × Int)} (H : Plan g s room l) (h1 : 1 ≤ g.length) : ((2, ((g.length - 1 : Nat) : Int)) ∈ l ∨ (3, ((g.length - 1 : Nat) : Int)) ∈ l) ∧ ∀ p x, l = p ++ [x] → x.1 ≠ 1 := by
  obtain ⟨K, hK, he⟩ := H.run
  have hp := (endK_parts _).1 he
  refine ⟨came l _ K (g.length - 1) hK rfl ((hp (g.length - 1) (by omega)).2 (by omega)), fun p x e c => ?_⟩
  rw [e] at hK
  obtain ⟨K1, r1, r2⟩ := (okRun_append p _ _ _).1 hK
  obtain ⟨K2, s1, _, r3⟩ := okRun_cons r2
  simp [okRun] at r3
  subst r3
  obtain ⟨x0, x1, k, hk, rfl⟩ := stepK_some s1
  unfold beh at hk
  rw [if_pos c] at hk
  split at hk
  · cases hk
    have := (hp x.2.toNat (by omega)).1
    rw [upd_at] at this
    cases this
  · cases hk
end Pl
end Go.Proofs.Ytgmagldbfajedaa
