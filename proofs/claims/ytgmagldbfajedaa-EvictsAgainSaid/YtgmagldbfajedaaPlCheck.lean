/-
  Plain Lean: what is known of nodes behind steps (chapter 23), and how much room steps take (chapter 22), as the program reckons them.
-/
import Derived.Test.YtgmagldbfajedaaCoPlain
namespace Go.Proofs.Ytgmagldbfajedaa
namespace Pl
open Gr Od Co

/-- What is known of a node. -/
structure Kn where
  inn : Bool
  asked : Bool
  disk : Bool
  src : Bool

/-- The input, or a weight? -/
def srcB (x : Gr.Node) : Bool := decide (x.kind = 1) || decide (x.kind = 2)
def upd (K : Nat → Kn) (v : Nat) (k : Kn) : Nat → Kn := fun u => if u = v then k else K u
theorem upd_at (K : Nat → Kn) (v : Nat) (k : Kn) : upd K v k v = k := if_pos rfl
theorem upd_ne (K : Nat → Kn) (v : Nat) (k : Kn) {u : Nat} (h : u ≠ v) : upd K v k u = K u := if_neg h

/-- Is all in that a node takes in? -/
def inAll (g : List Gr.Node) (K : Nat → Kn) (v : Nat) : Bool := (nodeN g v).inn.all fun u => (K u.toNat).inn

/-- What is known of a node behind a step of its own; none: that may not be. -/
def beh (g : List Gr.Node) (K : Nat → Kn) (kind : Int) (v : Nat) : Option Kn :=
  if kind = 1 then (if (K v).inn = false ∧ (K v).asked = false ∧ (K v).disk = true then some ⟨(K v).inn, true, (K v).disk, (K v).src⟩ else none)
  else if kind = 2 then (if (K v).asked = true then some ⟨true, false, (K v).disk, (K v).src⟩ else none)
  else if kind = 3 then (if inAll g K v = true ∧ (K v).inn = false ∧ (K v).asked = false ∧ (K v).src = false then some ⟨true, (K v).asked, (K v).disk, (K v).src⟩ else none)
  else if kind = 4 then (if (K v).inn = true ∧ (K v).disk = false then some ⟨(K v).inn, (K v).asked, true, (K v).src⟩ else none)
  else if kind = 5 then (if (K v).inn = true then some ⟨false, (K v).asked, (K v).disk, (K v).src⟩ else none)
  else none

/-- The step's node is one, and the step may be: what is known behind it. -/
def stepK (g : List Gr.Node) (K : Nat → Kn) (s : Int × Int) : Option (Nat → Kn) :=
  if s.2 < 0 ∨ (g.length : Int) ≤ s.2 then none else match beh g K s.1 s.2.toNat with
    | none => none
    | some k => some (upd K s.2.toNat k)

theorem stepK_some {g : List Gr.Node} {K K' : Nat → Kn} {s : Int × Int} (h : stepK g K s = some K') : 0 ≤ s.2 ∧ s.2 < g.length ∧ ∃ k, beh g K s.1 s.2.toNat = some k ∧ K' = upd K s.2.toNat k := by
  unfold stepK at h
  split at h
  · cases h
  · split at h
    · cases h
    · rename_i k hk
      cases h
      exact ⟨by omega, by omega, k, hk, rfl⟩
theorem stepK_of {g : List Gr.Node} {K : Nat → Kn} {kind : Int} {v : Nat} {k : Kn} (hv : v < g.length) (h : beh g K kind v = some k) : stepK g K (kind, (v : Int)) = some (upd K v k) := by
  unfold stepK
  rw [if_neg (by simp only; omega)]
  simp only [Int.toNat_natCast, h]

/-- The bytes of those that are in, or asked for, of the first k. -/
def usedK (b : Nat → Int) (K : Nat → Kn) : Nat → Int
  | 0 => 0
  | k + 1 => usedK b K k + (if ((K k).inn || (K k).asked) = true then b k else 0)
/-- How many are asked for. -/
def askedK (K : Nat → Kn) : Nat → Int
  | 0 => 0
  | k + 1 => askedK K k + (if (K k).asked = true then 1 else 0)

/-- Is nothing asked for of the first k, and the last one of n in? -/
def endK (n : Nat) (K : Nat → Kn) : Nat → Bool
  | 0 => true
  | k + 1 => endK n K k && !((K k).asked || (decide (k + 1 = n) && !(K k).inn))

/-- Do steps what they should? From a step's number on. -/
def runC (g : List Gr.Node) (b : Nat → Int) (room : Int) : Nat → (Nat → Kn) → List (Int × Int) → Int × Bool
  | i, K, [] => if endK g.length K g.length = true then (0, true) else ((i : Int), false)
  | i, K, s :: r => match stepK g K s with
    | none => ((i : Int), false)
    | some K' => if room < usedK b K' g.length ∨ 4 < askedK K' g.length then ((i : Int), false) else runC g b room (i + 1) K' r

/-- What is known ahead of all steps. -/
def kn0 (g : List Gr.Node) : Nat → Kn := fun v => ⟨false, false, srcB (nodeN g v), srcB (nodeN g v)⟩

/-- The same, without the room: what is known at the end. -/
def okRun (g : List Gr.Node) : (Nat → Kn) → List (Int × Int) → Option (Nat → Kn)
  | K, [] => some K
  | K, s :: r => match stepK g K s with
    | none => none
    | some K' => if 4 < askedK K' g.length then none else okRun g K' r
/-- The room that is taken behind each step. -/
def useds (g : List Gr.Node) (b : Nat → Int) : (Nat → Kn) → List (Int × Int) → List Int
  | _, [] => []
  | K, s :: r => match stepK g K s with
    | none => []
    | some K' => usedK b K' g.length :: useds g b K' r

theorem okRun_cons {g : List Gr.Node} {K Kf : Nat → Kn} {s : Int × Int} {r : List (Int × Int)} (h : okRun g K (s :: r) = some Kf) : ∃ K', stepK g K s = some K' ∧ askedK K' g.length ≤ 4 ∧ okRun g K' r = some Kf := by
  unfold okRun at h
  split at h
  · cases h
  · rename_i K' hs
    split at h
    · cases h
    · exact ⟨K', hs, by omega, h⟩
theorem okRun_of {g : List Gr.Node} {K K' : Nat → Kn} {s : Int × Int} (r : List (Int × Int)) (hs : stepK g K s = some K') (ha : askedK K' g.length ≤ 4) : okRun g K (s :: r) = okRun g K' r := by
  rw [okRun, hs]
  simp only
  rw [if_neg (by omega)]
theorem okRun_append {g : List Gr.Node} : ∀ (p r : List (Int × Int)) (K Kf : Nat → Kn), okRun g K (p ++ r) = some Kf ↔ ∃ K', okRun g K p = some K' ∧ okRun g K' r = some Kf
  | [], r, K, Kf => by simp [okRun]
  | s :: p, r, K, Kf => by
    constructor
    · intro h
      obtain ⟨K1, h1, h2, h3⟩ := okRun_cons (r := p ++ r) h
      obtain ⟨K', h4, h5⟩ := (okRun_append p r K1 Kf).1 h3
      exact ⟨K', by rw [okRun_of p h1 h2]; exact h4, h5⟩
    · rintro ⟨K', h1, h2⟩
      obtain ⟨K1, h3, h4, h5⟩ := okRun_cons h1
      rw [List.cons_append, okRun_of _ h3 h4]
      exact (okRun_append p r K1 Kf).2 ⟨K', h5, h2⟩
theorem useds_append {g : List Gr.Node} {b : Nat → Int} : ∀ (p r : List (Int × Int)) (K K' : Nat → Kn), okRun g K p = some K' → useds g b K (p ++ r) = useds g b K p ++ useds g b K' r
  | [], r, K, K', h => by simp [okRun] at h; subst h; rfl
  | s :: p, r, K, K', h => by
    obtain ⟨K1, h3, h4, h5⟩ := okRun_cons h
    rw [List.cons_append, useds, useds, h3]
    simp only
    rw [useds_append p r K1 K' h5, List.cons_append]

theorem runC_ok {g : List Gr.Node} {b : Nat → Int} {room : Int} : ∀ (l : List (Int × Int)) (i : Nat) (K Kf : Nat → Kn), okRun g K l = some Kf → (∀ x ∈ useds g b K l, x ≤ room) →
    runC g b room i K l = if endK g.length Kf g.length = true then (0, true) else (((i + l.length : Nat) : Int), false)
  | [], i, K, Kf, h, _ => by simp [okRun] at h; subst h; rfl
  | s :: r, i, K, Kf, h, hu => by
    obtain ⟨K1, h3, h4, h5⟩ := okRun_cons h
    have hu' : useds g b K (s :: r) = usedK b K1 g.length :: useds g b K1 r := by rw [useds, h3]
    rw [hu'] at hu
    have h6 := hu (usedK b K1 g.length) (by simp)
    rw [runC, h3]
    simp only
    rw [if_neg (by omega), runC_ok r (i + 1) K1 Kf h5 (fun x hx => hu x (by simp [hx]))]
    rw [List.length_cons, show i + 1 + r.length = i + (r.length + 1) by omega]

/-- What comes behind a beginning that may be. -/
theorem runC_behind {g : List Gr.Node} {b : Nat → Int} {room : Int} : ∀ (p r : List (Int × Int)) (i : Nat) (K K' : Nat → Kn), okRun g K p = some K' → (∀ x ∈ useds g b K p, x ≤ room) →
    runC g b room i K (p ++ r) = runC g b room (i + p.length) K' r
  | [], r, i, K, K', h, _ => by simp [okRun] at h; subst h; rfl
  | s :: p, r, i, K, K', h, hu => by
    obtain ⟨K1, h3, h4, h5⟩ := okRun_cons h
    have hu' : useds g b K (s :: p) = usedK b K1 g.length :: useds g b K1 p := by rw [useds, h3]
    rw [hu'] at hu
    have h6 := hu (usedK b K1 g.length) (by simp)
    rw [List.cons_append, runC, h3]
    simp only
    rw [if_neg (by omega), runC_behind p r (i + 1) K1 K' h5 (fun x hx => hu x (by simp [hx])), List.length_cons, show i + 1 + p.length = i + (p.length + 1) by omega]

theorem runC_over {g : List Gr.Node} {b : Nat → Int} {room : Int} : ∀ (l : List (Int × Int)) (i : Nat) (K : Nat → Kn), (∃ x ∈ useds g b K l, room < x) → (runC g b room i K l).2 = false
  | [], i, K, ⟨x, hx, _⟩ => by simp [useds] at hx
  | s :: r, i, K, ⟨x, hx, hr⟩ => by
    rw [useds] at hx
    rw [runC]
    cases hs : stepK g K s with
    | none => rfl
    | some K1 =>
      rw [hs] at hx
      simp only at hx ⊢
      split
      · rfl
      · rename_i hc
        rcases List.mem_cons.1 hx with rfl | hx
        · omega
        · exact runC_over r (i + 1) K1 ⟨x, hx, hr⟩

/-- A step twice, right behind itself, may not be. -/
theorem step_twice {g : List Gr.Node} {K K' : Nat → Kn} {s : Int × Int} (h : stepK g K s = some K') : stepK g K' s = none := by
  obtain ⟨h0, h1, k, hk, rfl⟩ := stepK_some h
  unfold stepK
  rw [if_neg (by omega)]
  have hn : beh g (upd K s.2.toNat k) s.1 s.2.toNat = none := by
    unfold beh at hk ⊢
    rw [upd_at]
    by_cases c1 : s.1 = 1
    · rw [if_pos c1] at hk ⊢
      split at hk
      · cases hk; rw [if_neg (by simp)]
      · cases hk
    rw [if_neg c1] at hk ⊢
    by_cases c2 : s.1 = 2
    · rw [if_pos c2] at hk ⊢
      split at hk
      · cases hk; rw [if_neg (by simp)]
      · cases hk
    rw [if_neg c2] at hk ⊢
    by_cases c3 : s.1 = 3
    · rw [if_pos c3] at hk ⊢
      split at hk
      · cases hk; rw [if_neg (by simp)]
      · cases hk
    rw [if_neg c3] at hk ⊢
    by_cases c4 : s.1 = 4
    · rw [if_pos c4] at hk ⊢
      split at hk
      · cases hk; rw [if_neg (by simp)]
      · cases hk
    rw [if_neg c4] at hk ⊢
    by_cases c5 : s.1 = 5
    · rw [if_pos c5] at hk ⊢
      split at hk
      · cases hk; rw [if_neg (by simp)]
      · cases hk
    rw [if_neg c5] at hk ⊢
  rw [hn]

theorem runC_none {g : List Gr.Node} {b : Nat → Int} {room : Int} {i : Nat} {K : Nat → Kn} {s : Int × Int} {r : List (Int × Int)} (h : stepK g K s = none) : runC g b room i K (s :: r) = ((i : Int), false) := by
  rw [runC, h]

theorem check_twice {g : List Gr.Node} {b : Nat → Int} {room : Int} {p r : List (Int × Int)} {s : Int × Int} {K Kf : Nat → Kn} (h : okRun g K (p ++ s :: r) = some Kf) (hu : ∀ x ∈ useds g b K (p ++ s :: r), x ≤ room) :
    runC g b room 0 K (p ++ [s] ++ s :: r) = (((p.length + 1 : Nat) : Int), false) := by
  obtain ⟨K1, h1, h2⟩ := (okRun_append p (s :: r) K Kf).1 h
  obtain ⟨K2, h3, h4, h5⟩ := okRun_cons h2
  have h6 : okRun g K (p ++ [s]) = some K2 := (okRun_append p [s] K K2).2 ⟨K1, h1, by rw [okRun_of [] h3 h4]; rfl⟩
  have h7 : useds g b K (p ++ s :: r) = useds g b K (p ++ [s]) ++ useds g b K2 r := by
    rw [show p ++ s :: r = p ++ [s] ++ r by simp]
    exact useds_append _ _ _ _ h6
  rw [runC_behind (p ++ [s]) (s :: r) 0 K K2 h6 (fun x hx => hu x (by rw [h7]; simp only [List.mem_append]; exact .inl hx)), runC_none (step_twice h3)]
  simp

/-- A step of another node changes nothing of a node. -/
theorem step_other {g : List Gr.Node} {K K' : Nat → Kn} {s : Int × Int} (h : stepK g K s = some K') {v : Nat} (hv : s.2.toNat ≠ v) : K' v = K v := by
  obtain ⟨_, _, k, _, rfl⟩ := stepK_some h
  exact upd_ne _ _ _ (Ne.symm hv)

theorem endK_parts {n : Nat} {K : Nat → Kn} : ∀ m, endK n K m = true ↔ ∀ v, v < m → (K v).asked = false ∧ (v + 1 = n → (K v).inn = true)
  | 0 => by simp [endK]
  | m + 1 => by
    unfold endK
    rw [Bool.and_eq_true, endK_parts m]
    constructor
    · rintro ⟨h1, h2⟩ v hv
      by_cases c : v < m
      · exact h1 v c
      · obtain rfl : v = m := by omega
        cases ha : (K v).asked <;> cases hi : (K v).inn <;> simp [ha, hi] at h2 ⊢
        exact h2
    · intro h
      refine ⟨fun v hv => h v (by omega), ?_⟩
      obtain ⟨h1, h2⟩ := h m (by omega)
      rw [h1]
      by_cases c : m + 1 = n
      · simp [c, h2 c]
      · simp [c]

/-- Without a question that was put: it fails at the latest at the end. -/
theorem less_ask {g : List Gr.Node} {b : Nat → Int} {room : Int} {v : Nat} (hv : v < g.length) : ∀ (r : List (Int × Int)) (i : Nat) (Ka Kb Kf : Nat → Kn), okRun g Ka r = some Kf → endK g.length Kf g.length = true →
    (Ka v).asked = true → (Ka v).inn = false → (Kb v).asked = false → (runC g b room i Kb r).2 = false
  | [], i, Ka, Kb, Kf, h, he, h1, _, _ => by
    simp [okRun] at h
    subst h
    have := ((endK_parts _).1 he v hv).1
    rw [h1] at this
    cases this
  | s :: r, i, Ka, Kb, Kf, h, he, h1, h2, h3 => by
    obtain ⟨K1, h4, h5, h6⟩ := okRun_cons h
    rw [runC]
    cases hs : stepK g Kb s with
    | none => rfl
    | some Kc =>
      simp only
      split
      · rfl
      · by_cases c : s.2.toNat = v
        · exfalso
          obtain ⟨_, _, k, hk, rfl⟩ := stepK_some h4
          obtain ⟨_, _, k', hk', rfl⟩ := stepK_some hs
          rw [c] at hk hk'
          unfold beh at hk hk'
          rw [h1, h2] at hk
          rw [h3] at hk'
          by_cases c1 : s.1 = 1
          · simp [c1] at hk
          by_cases c2 : s.1 = 2
          · simp [c2] at hk'
          by_cases c3 : s.1 = 3
          · simp [c3] at hk
          by_cases c4 : s.1 = 4
          · simp [c4] at hk
          by_cases c5 : s.1 = 5
          · simp [c5] at hk
          simp [c1, c2, c3, c4, c5] at hk
        · exact less_ask hv r (i + 1) K1 Kc Kf h6 he (by rw [step_other h4 c]; exact h1) (by rw [step_other h4 c]; exact h2) (by rw [step_other hs c]; exact h3)

/-- Without a wait: likewise. -/
theorem less_wait {g : List Gr.Node} {b : Nat → Int} {room : Int} {v : Nat} (hv : v < g.length) : ∀ (r : List (Int × Int)) (i : Nat) (Ka Kb Kf : Nat → Kn), okRun g Ka r = some Kf →
    (Ka v).inn = true → (Ka v).asked = false → (Ka v).disk = true → (Kb v).asked = true → (Kb v).inn = false → (runC g b room i Kb r).2 = false
  | [], i, Ka, Kb, Kf, _, _, _, _, h4, _ => by
    rw [runC]
    rw [if_neg (fun he => by have := ((endK_parts _).1 he v hv).1; rw [h4] at this; cases this)]
  | s :: r, i, Ka, Kb, Kf, h, h1, h2, h3, h4, h5 => by
    obtain ⟨K1, h6, h7, h8⟩ := okRun_cons h
    rw [runC]
    cases hs : stepK g Kb s with
    | none => rfl
    | some Kc =>
      simp only
      split
      · rfl
      · by_cases c : s.2.toNat = v
        · exfalso
          obtain ⟨_, _, k, hk, rfl⟩ := stepK_some h6
          obtain ⟨_, _, k', hk', rfl⟩ := stepK_some hs
          rw [c] at hk hk'
          unfold beh at hk hk'
          rw [h1, h2, h3] at hk
          rw [h4, h5] at hk'
          by_cases c1 : s.1 = 1
          · simp [c1] at hk
          by_cases c2 : s.1 = 2
          · simp [c2] at hk
          by_cases c3 : s.1 = 3
          · simp [c3] at hk
          by_cases c4 : s.1 = 4
          · simp [c4] at hk
          by_cases c5 : s.1 = 5
          · simp [c5] at hk'
          simp [c1, c2, c3, c4, c5] at hk
        · exact less_wait hv r (i + 1) K1 Kc Kf h8 (by rw [step_other h6 c]; exact h1) (by rw [step_other h6 c]; exact h2) (by rw [step_other h6 c]; exact h3) (by rw [step_other hs c]; exact h4) (by rw [step_other hs c]; exact h5)

/-- What is asked for is on the disk, and not in. -/
def AskInv (K : Nat → Kn) : Prop := ∀ u, (K u).asked = true → (K u).disk = true ∧ (K u).inn = false
theorem askInv_kn0 (g : List Gr.Node) : AskInv (kn0 g) := fun u h => by simp [kn0] at h
theorem askInv_step {g : List Gr.Node} {K K' : Nat → Kn} {s : Int × Int} (hI : AskInv K) (h : stepK g K s = some K') : AskInv K' := by
  obtain ⟨_, _, k, hk, rfl⟩ := stepK_some h
  intro u hu
  by_cases c : u = s.2.toNat
  · subst c
    rw [upd_at] at hu ⊢
    unfold beh at hk
    have hI' := hI s.2.toNat
    split at hk
    · split at hk
      · rename_i hc
        cases hk
        exact ⟨hc.2.2, hc.1⟩
      · cases hk
    split at hk
    · split at hk
      · cases hk; cases hu
      · cases hk
    split at hk
    · split at hk
      · rename_i hc
        cases hk
        simp only at hu
        rw [hc.2.2.1] at hu; cases hu
      · cases hk
    split at hk
    · split at hk
      · rename_i hc
        cases hk
        simp only at hu ⊢
        have := (hI' hu).2
        rw [hc.1] at this; cases this
      · cases hk
    split at hk
    · split at hk
      · rename_i hc
        cases hk
        simp only at hu ⊢
        exact ⟨(hI' hu).1, trivial⟩
      · cases hk
    cases hk
  · rw [upd_ne _ _ _ c] at hu ⊢
    exact hI u hu
theorem askInv_run {g : List Gr.Node} : ∀ (l : List (Int × Int)) (K K' : Nat → Kn), AskInv K → okRun g K l = some K' → AskInv K'
  | [], K, K', hI, h => by simp [okRun] at h; subst h; exact hI
  | s :: r, K, K', hI, h => by
    obtain ⟨K1, h1, _, h2⟩ := okRun_cons h
    exact askInv_run r K1 K' (askInv_step hI h1) h2

theorem check_less {g : List Gr.Node} {b : Nat → Int} {room : Int} {p r : List (Int × Int)} {s : Int × Int} {Kf : Nat → Kn} (h : okRun g (kn0 g) (p ++ s :: r) = some Kf) (he : endK g.length Kf g.length = true)
    (hu : ∀ x ∈ useds g b (kn0 g) (p ++ s :: r), x ≤ room) (hk : s.1 = 1 ∨ s.1 = 2) : (runC g b room 0 (kn0 g) (p ++ r)).2 = false := by
  obtain ⟨K1, h1, h2⟩ := (okRun_append p (s :: r) _ Kf).1 h
  obtain ⟨K2, h3, h4, h5⟩ := okRun_cons h2
  have hI := askInv_run p _ K1 (askInv_kn0 g) h1
  obtain ⟨hv0, hv1, k, hbh, rfl⟩ := stepK_some h3
  have hv : s.2.toNat < g.length := by omega
  rw [runC_behind p r 0 _ K1 h1 (fun x hx => hu x (by rw [useds_append p _ _ K1 h1]; simp only [List.mem_append]; exact .inl hx))]
  unfold beh at hbh
  rcases hk with hk | hk
  · rw [if_pos hk] at hbh
    split at hbh
    · rename_i hc
      cases hbh
      exact less_ask hv r _ _ _ Kf h5 he (by rw [upd_at]) (by rw [upd_at]; exact hc.1) hc.2.1
    · cases hbh
  · rw [if_neg (by omega), if_pos hk] at hbh
    split at hbh
    · rename_i hc
      cases hbh
      exact less_wait hv r _ _ _ Kf h5 (by rw [upd_at]) (by rw [upd_at]) (by rw [upd_at]; exact (hI _ hc).1) hc (hI _ hc).2
    · cases hbh

/-! ### How much room steps take -/

/-- The greatest room that is taken, by the bytes that each has. -/
def peakF (b : Nat → Int) : (Nat → Int) → Int → Int → List (Int × Int) → Int
  | _, _, pk, [] => pk
  | P, us, pk, s :: r =>
    let v := s.2.toNat
    let is := if s.1 = 1 ∨ s.1 = 3 then b v else if s.1 = 5 then 0 else P v
    peakF b (fun u => if u = v then is else P u) (us + (is - P v)) (mx pk (us + (is - P v))) r

def valK (b : Nat → Int) (K : Nat → Kn) (v : Nat) : Int := if ((K v).inn || (K v).asked) = true then b v else 0
theorem usedK_upd (b : Nat → Int) (K : Nat → Kn) (v : Nat) (k : Kn) : ∀ m : Nat, usedK b (upd K v k) m = usedK b K m + (if v < m then (if (k.inn || k.asked) = true then b v else 0) - valK b K v else 0)
  | 0 => by simp [usedK]
  | m + 1 => by
    have ih := usedK_upd b K v k m
    by_cases c : m = v
    · subst c
      have e1 : ¬ m < m := by omega
      have e2 : m < m + 1 := by omega
      simp only [usedK, upd_at, ih, e1, e2, if_true, if_false, valK]
      omega
    · have hne : upd K v k m = K m := upd_ne _ _ _ c
      by_cases d : v < m
      · have e2 : v < m + 1 := by omega
        simp only [usedK, hne, ih, d, e2, if_true]
        omega
      · have e2 : ¬ v < m + 1 := by omega
        simp only [usedK, hne, ih, d, e2, if_false]
        omega
theorem askedK_upd (K : Nat → Kn) (v : Nat) (k : Kn) : ∀ m : Nat, askedK (upd K v k) m = askedK K m + (if v < m then (if k.asked = true then 1 else 0) - (if (K v).asked = true then 1 else 0) else 0)
  | 0 => by simp [askedK]
  | m + 1 => by
    have ih := askedK_upd K v k m
    by_cases c : m = v
    · subst c
      have e1 : ¬ m < m := by omega
      have e2 : m < m + 1 := by omega
      simp only [askedK, upd_at, ih, e1, e2, if_true, if_false]
      omega
    · have hne : upd K v k m = K m := upd_ne _ _ _ c
      by_cases d : v < m
      · have e2 : v < m + 1 := by omega
        simp only [askedK, hne, ih, d, e2, if_true]
        omega
      · have e2 : ¬ v < m + 1 := by omega
        simp only [askedK, hne, ih, d, e2, if_false]
        omega

theorem peak_run {g : List Gr.Node} {b : Nat → Int} : ∀ (l : List (Int × Int)) (K Kf : Nat → Kn) (P : Nat → Int) (pk : Int), AskInv K → okRun g K l = some Kf → (∀ u, P u = valK b K u) →
    peakF b P (usedK b K g.length) pk l = (useds g b K l).foldl mx pk
  | [], K, Kf, P, pk, _, _, _ => rfl
  | s :: r, K, Kf, P, pk, hI, h, hP => by
    obtain ⟨K1, h3, h4, h5⟩ := okRun_cons h
    have hu' : useds g b K (s :: r) = usedK b K1 g.length :: useds g b K1 r := by rw [useds, h3]
    rw [hu', List.foldl_cons]
    obtain ⟨h0, h1, k, hk, rfl⟩ := stepK_some h3
    have hval : (if s.1 = 1 ∨ s.1 = 3 then b s.2.toNat else if s.1 = 5 then 0 else P s.2.toNat) = if (k.inn || k.asked) = true then b s.2.toNat else 0 := by
      rw [hP]
      unfold beh at hk
      unfold valK
      by_cases c1 : s.1 = 1
      · rw [if_pos c1] at hk
        split at hk
        · cases hk; simp [c1]
        · cases hk
      rw [if_neg c1] at hk
      by_cases c2 : s.1 = 2
      · rw [if_pos c2] at hk
        split at hk
        · rename_i hc; cases hk; simp [c2, hc]
        · cases hk
      rw [if_neg c2] at hk
      by_cases c3 : s.1 = 3
      · rw [if_pos c3] at hk
        split at hk
        · cases hk; simp [c3]
        · cases hk
      rw [if_neg c3] at hk
      by_cases c4 : s.1 = 4
      · rw [if_pos c4] at hk
        split at hk
        · rename_i hc; cases hk; simp [c4, hc]
        · cases hk
      rw [if_neg c4] at hk
      by_cases c5 : s.1 = 5
      · rw [if_pos c5] at hk
        split at hk
        · rename_i hc
          cases hk
          have ha : (K s.2.toNat).asked = false := by
            cases ha : (K s.2.toNat).asked with
            | false => rfl
            | true => have := (hI _ ha).2; rw [hc] at this; cases this
          simp [c5, ha]
        · cases hk
      rw [if_neg c5] at hk
      cases hk
    have hus : usedK b (upd K s.2.toNat k) g.length = usedK b K g.length + ((if (k.inn || k.asked) = true then b s.2.toNat else 0) - P s.2.toNat) := by
      rw [usedK_upd, if_pos (by omega), hP]
    rw [peakF]
    rw [hval, ← hus]
    refine peak_run r _ Kf _ _ (askInv_step hI h3) h5 (fun u => ?_)
    by_cases c : u = s.2.toNat
    · subst c
      rw [if_pos rfl]
      unfold valK
      rw [upd_at]
    · rw [if_neg c, hP]
      unfold valK
      rw [upd_ne _ _ _ c]
end Pl
end Go.Proofs.Ytgmagldbfajedaa
