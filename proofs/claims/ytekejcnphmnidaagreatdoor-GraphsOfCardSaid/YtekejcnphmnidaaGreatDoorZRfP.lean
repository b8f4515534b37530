import Derived.Test.YtekejcnphmnidaaGreatDoorZBf
namespace Go.Proofs.YtekejcnphmnidaaGreatDoor
namespace Gr
def prodF (n : Int) (l : List Int) : Int := l.foldl (fun a b => a * b) n
theorem prodF_cons (n x : Int) (l : List Int) : prodF n (x :: l) = prodF (n * x) l := rfl
theorem prodF_mul : ∀ (l : List Int) (n : Int), prodF n l = n * prodF 1 l
  | [], n => by simp [prodF]
  | x :: r, n => by rw [prodF_cons, prodF_cons, prodF_mul r (n * x), prodF_mul r (1 * x), Int.one_mul, Int.mul_assoc]
theorem prodF_append (a b : List Int) (n : Int) : prodF n (a ++ b) = prodF n a * prodF 1 b := by
  have : prodF n (a ++ b) = prodF (prodF n a) b := by unfold prodF; rw [List.foldl_append]
  rw [this, prodF_mul]
theorem prodF_pos : ∀ (l : List Int), (∀ x ∈ l, 1 ≤ x) → 1 ≤ prodF 1 l
  | [], _ => by decide
  | x :: r, h => by
    rw [prodF_cons, prodF_mul, Int.one_mul]
    have h1 := h x (by simp)
    have h2 := prodF_pos r (fun y hy => h y (by simp [hy]))
    have := Int.mul_pos (a := x) (b := prodF 1 r) (by omega) (by omega)
    omega
theorem le_mul {a b : Int} (ha : 0 ≤ a) (hb : 1 ≤ b) : a ≤ a * b := by
  have := Int.mul_le_mul_of_nonneg_left hb ha
  omega
theorem timesF_prod : ∀ (l : List Int) (n : Int), 1 ≤ n → n ≤ 4096 → (∀ x ∈ l, 1 ≤ x ∧ x ≤ 64) → timesF n l = if prodF n l ≤ 4096 then prodF n l else 0
  | [], n, _, h2, _ => by unfold timesF; exact (if_pos h2).symm
  | x :: r, n, h1, h2, h => by
    have hx := h x (by simp)
    have hr : ∀ y ∈ r, 1 ≤ y ∧ y ≤ 64 := fun y hy => h y (by simp [hy])
    have hp : 0 < n * x := Int.mul_pos (by omega) (by omega)
    unfold timesF
    rw [if_neg (by omega), prodF_cons]
    split
    · rename_i hgt
      have h3 : n * x ≤ prodF (n * x) r := by
        rw [prodF_mul]
        exact le_mul (by omega) (prodF_pos r (fun y hy => (hr y hy).1))
      rw [if_neg (by omega)]
    · exact timesF_prod r (n * x) (by omega) (by omega) hr
theorem chk_iff {s : List Int} : chk s = true ↔ 1 ≤ s.length ∧ s.length ≤ 4 ∧ (∀ x ∈ s, 1 ≤ x ∧ x ≤ 64) ∧ prodF 1 s ≤ 4096 := by
  constructor
  · intro h
    obtain ⟨h1, h2, h3⟩ := chk_parts h
    refine ⟨h1, h2, h3, ?_⟩
    have h0 := chk_size h
    unfold size at h0
    rw [if_neg (by omega), timesF_prod s 1 (by omega) (by omega) h3] at h0
    split at h0
    · assumption
    · omega
  · rintro ⟨h1, h2, h3, h4⟩
    unfold chk size
    rw [if_neg (by omega), timesF_prod s 1 (by omega) (by omega) h3, if_pos h4]
    have := prodF_pos s (fun x hx => (h3 x hx).1)
    exact decide_eq_true (by omega)
theorem size_prod {s : List Int} (h : chk s = true) : size s = prodF 1 s := by
  obtain ⟨h1, h2, h3, h4⟩ := chk_iff.1 h
  unfold size
  rw [if_neg (by omega), timesF_prod s 1 (by omega) (by omega) h3, if_pos h4]
theorem size_none {s : List Int} (h : chk s = false) : size s = 0 := by
  unfold chk at h
  have := (size_range s).1
  have h2 : ¬ 0 < size s := by simpa using h
  omega
def pw : Nat → Int
  | 0 => 1
  | k + 1 => 64 * pw k
theorem pw_pos : ∀ k, 1 ≤ pw k
  | 0 => by decide
  | k + 1 => by have := pw_pos k; unfold pw; omega
theorem pw_mono {j k : Nat} (h : j ≤ k) : pw j ≤ pw k := by
  induction k with
  | zero => obtain rfl : j = 0 := by omega
            exact Int.le_refl _
  | succ k ih =>
    by_cases c : j = k + 1
    · subst c; exact Int.le_refl _
    · have := ih (by omega)
      have h1 := pw_pos k
      have h2 : pw (k + 1) = 64 * pw k := rfl
      omega
theorem prod_step {k : Nat} {n x : Int} (h0 : 1 ≤ n) (h1 : n ≤ pw k) (hx : 1 ≤ x ∧ x ≤ 64) : 1 ≤ n * x ∧ n * x ≤ pw (k + 1) := by
  have hp : 0 < n * x := Int.mul_pos (by omega) (by omega)
  have h2 : n * x ≤ pw k * 64 := Int.mul_le_mul h1 hx.2 (by omega) (by have := pw_pos k; omega)
  have h3 : pw (k + 1) = 64 * pw k := rfl
  omega
theorem prod_at (l : List Int) (n : Int) (k : Nat) (hk : k < l.length) : prodF n (l.drop k) = prodF (n * nth l k) (l.drop (k + 1)) := by
  rw [List.drop_eq_getElem_cons hk, nth_eq l k hk, prodF_cons]
theorem chk_bad {s : List Int} {k : Nat} (hk : k < s.length) (h : nth s k < 1 ∨ 64 < nth s k) : chk s = false := by
  cases hc : chk s with
  | false => rfl
  | true =>
    have := (chk_iff.1 hc).2.2.1 _ (nth_mem s k hk)
    omega
theorem chk_len {s : List Int} (h : s.length < 1 ∨ 4 < s.length) : chk s = false := by
  cases hc : chk s with
  | false => rfl
  | true => have := chk_iff.1 hc; omega
theorem chk_prod {s : List Int} (h1 : 1 ≤ s.length) (h2 : s.length ≤ 4) (h3 : ∀ k, k < s.length → 1 ≤ nth s k ∧ nth s k ≤ 64) : chk s = decide (prodF 1 s ≤ 4096) := by
  have h4 : ∀ x ∈ s, 1 ≤ x ∧ x ≤ 64 := fun x hx => by
    obtain ⟨k, hk, rfl⟩ := List.getElem_of_mem hx
    rw [← nth_eq s k hk]
    exact h3 k hk
  by_cases c : prodF 1 s ≤ 4096
  · rw [decide_eq_true c]; exact chk_iff.2 ⟨h1, h2, h4, c⟩
  · rw [decide_eq_false c]
    cases hc : chk s with
    | false => rfl
    | true => exact absurd (chk_iff.1 hc).2.2.2 c
def cntS (l : List Int) : Nat → Nat
  | 0 => 0
  | n + 1 => cntS l n + l.count (n : Int)
theorem cntS_nil : ∀ n, cntS [] n = 0
  | 0 => rfl
  | n + 1 => by unfold cntS; rw [cntS_nil n]; rfl
theorem cntS_cons (x : Int) (l : List Int) : ∀ n : Nat, cntS (x :: l) n = cntS l n + (if 0 ≤ x ∧ x < n then 1 else 0)
  | 0 => by unfold cntS; rw [if_neg (by omega)]
  | n + 1 => by
    unfold cntS
    rw [cntS_cons x l n, List.count_cons]
    by_cases c : x = (n : Int)
    · subst c
      have h1 : ¬ (0 ≤ (n : Int) ∧ (n : Int) < (n : Int)) := by omega
      have h2 : 0 ≤ (n : Int) ∧ (n : Int) < ((n + 1 : Nat) : Int) := by omega
      simp only [beq_self_eq_true, if_true, if_neg h1, if_pos h2]
      omega
    · have hb : (x == (n : Int)) = false := by simpa using c
      by_cases d : 0 ≤ x ∧ x < (n : Int)
      · have h2 : 0 ≤ x ∧ x < ((n + 1 : Nat) : Int) := by omega
        simp only [hb, Bool.false_eq_true, if_false, if_pos d, if_pos h2]
        omega
      · have h2 : ¬ (0 ≤ x ∧ x < ((n + 1 : Nat) : Int)) := by omega
        simp only [hb, Bool.false_eq_true, if_false, if_neg d, if_neg h2]
        omega
theorem cntS_le : ∀ (l : List Int) (n : Nat), cntS l n ≤ l.length
  | [], n => by rw [cntS_nil]; exact Nat.le_refl _
  | x :: r, n => by
    have := cntS_le r n
    rw [cntS_cons, List.length_cons]
    split <;> omega
theorem cntS_ge (l : List Int) : ∀ n : Nat, (∀ i : Nat, i < n → (i : Int) ∈ l) → n ≤ cntS l n ∧ ∀ i : Nat, i < n → n + l.count (i : Int) ≤ cntS l n + 1
  | 0, _ => ⟨Nat.zero_le _, fun i hi => by omega⟩
  | n + 1, h => by
    obtain ⟨h1, h2⟩ := cntS_ge l n (fun i hi => h i (by omega))
    have h3 : 0 < l.count (n : Int) := List.count_pos_iff.2 (h n (by omega))
    unfold cntS
    refine ⟨by omega, fun i hi => ?_⟩
    by_cases c : i = n
    · subst c; omega
    · have := h2 i (by omega); omega
theorem count_one {l : List Int} {n : Nat} (hl : l.length = n) (h : ∀ i : Nat, i < n → (i : Int) ∈ l) (i : Nat) (hi : i < n) : l.count (i : Int) = 1 := by
  have h1 := (cntS_ge l n h).2 i hi
  have h2 := cntS_le l n
  have h3 : 0 < l.count (i : Int) := List.count_pos_iff.2 (h i hi)
  omega
def upR (n : Nat) : List Int := (List.range n).map fun i : Nat => (i : Int)
theorem upR_count (a : Int) : ∀ n : Nat, (upR n).count a = if 0 ≤ a ∧ a < n then 1 else 0
  | 0 => by
    have h : ¬ (0 ≤ a ∧ a < ((0 : Nat) : Int)) := by omega
    rw [if_neg h]
    exact List.count_nil
  | n + 1 => by
    have h1 : upR (n + 1) = upR n ++ [(n : Int)] := by unfold upR; rw [List.range_succ, List.map_append]; rfl
    rw [h1, List.count_append, upR_count a n]
    by_cases c : a = (n : Int)
    · subst c
      rw [if_neg (by omega), if_pos (by omega)]; simp
    · have hz : ([(n : Int)] : List Int).count a = 0 := List.count_eq_zero.2 (by simp; exact c)
      rw [hz]
      by_cases d : 0 ≤ a ∧ a < (n : Int)
      · rw [if_pos d, if_pos (by omega)]
      · rw [if_neg d, if_neg (by omega)]
theorem order_perm {o : List Int} {n : Nat} (hl : o.length = n) (h : ∀ i : Nat, i < n → (i : Int) ∈ o) : o.Perm (upR n) := by
  rw [List.perm_iff_count]
  intro a
  rw [upR_count]
  by_cases c : 0 ≤ a ∧ a < (n : Int)
  · obtain ⟨i, rfl⟩ : ∃ i : Nat, a = (i : Int) := ⟨a.toNat, by omega⟩
    rw [if_pos c, count_one hl h i (by omega)]
  · rw [if_neg c]
    refine List.count_eq_zero.2 (fun hm => c ?_)
    exact perm_range n o hl h a hm
theorem upR_looked (s : List Int) : (upR s.length).map (fun k => nth s k.toNat) = s := by
  unfold upR
  rw [List.map_map]
  refine List.ext_getElem (by simp) fun i h1 h2 => ?_
  simp [nth_eq s i h2]
theorem looked_perm {s o : List Int} (hl : o.length = s.length) (h : ∀ i : Nat, i < s.length → (i : Int) ∈ o) : (looked s o).Perm s := by
  have h1 := (order_perm hl h).map (fun k : Int => nth s k.toNat)
  rw [upR_looked] at h1
  exact h1
theorem prodF_perm {a b : List Int} (h : a.Perm b) : ∀ n, prodF n a = prodF n b := by
  induction h with
  | nil => intro n; rfl
  | cons x _ ih => intro n; rw [prodF_cons, prodF_cons, ih]
  | swap x y l => intro n; rw [prodF_cons, prodF_cons, prodF_cons, prodF_cons, Int.mul_assoc, Int.mul_comm y x, ← Int.mul_assoc]
  | trans _ _ ih1 ih2 => intro n; rw [ih1, ih2]
theorem chk_perm {a b : List Int} (h : a.Perm b) (hb : chk b = true) : chk a = true := by
  obtain ⟨h1, h2, h3, h4⟩ := chk_iff.1 hb
  have hl := h.length_eq
  exact chk_iff.2 ⟨by omega, by omega, fun x hx => h3 x (h.mem_iff.1 hx), by rw [prodF_perm h]; exact h4⟩
theorem order_iff {l : List Int} : order l = true ↔ l.length ≤ 4 ∧ ∀ i : Nat, i < l.length → (i : Int) ∈ l := by
  unfold order
  simp only [Bool.and_eq_true, List.all_eq_true, List.mem_range, decide_eq_true_eq, hasB_iff]
  exact ⟨fun h => ⟨h.2, h.1⟩, fun h => ⟨h.2, h.1⟩⟩
theorem chk_two {x y : Int} (hx : 1 ≤ x ∧ x ≤ 64) (hy : 1 ≤ y ∧ y ≤ 64) : chk [x, y] = true := by
  refine chk_iff.2 ⟨by simp, by simp, fun z hz => ?_, ?_⟩
  · simp at hz; rcases hz with rfl | rfl <;> assumption
  · show 1 * x * y ≤ 4096
    rw [Int.one_mul]
    have : x * y ≤ 64 * 64 := Int.mul_le_mul hx.2 hy.2 (by omega) (by omega)
    omega
theorem len_three {s : List Int} (h : s.length = 3) : s = [nth s 0, nth s 1, nth s 2] := by
  match s, h with
  | [a, b, c], _ => rfl
theorem chk_nil : chk [] = false := rfl
theorem slides_div {t w : Int} (hw : 1 ≤ w) (ht : w ≤ t) : slides t w w = t / w := by
  unfold slides
  rw [if_neg (by omega), Int.tdiv_eq_ediv_of_nonneg (by omega)]
  rw [Int.sub_ediv_of_dvd t (Int.dvd_refl w), Int.ediv_self (by omega)]
  omega
theorem slides_part {t w : Int} (hw : 1 ≤ w) (ht : w ≤ t) : 1 ≤ slides t w w ∧ slides t w w ≤ t := by
  rw [slides_div hw ht]
  have h1 : 1 * w ≤ t := by omega
  exact ⟨Int.le_ediv_of_mul_le (by omega) h1, Int.ediv_le_self _ (by omega)⟩
theorem chk_pool (t : List Int) (wide : Int) : chk (pool t wide) = decide (chk t = true ∧ 1 ≤ wide ∧ wide ≤ 64 ∧ t.length = 3 ∧ wide ≤ nth t 1 ∧ wide ≤ nth t 2) := by
  unfold pool
  by_cases c1 : chk t = false ∨ wide < 1 ∨ 64 < wide
  · rw [if_pos c1, chk_nil]
    refine (decide_eq_false fun h => ?_).symm
    obtain ⟨h1, h2, h3, _⟩ := h
    rcases c1 with c | c | c
    · rw [h1] at c; cases c
    · omega
    · omega
  · rw [if_neg c1]
    by_cases c2 : t.length ≠ 3 ∨ min (nth t 1) (nth t 2) < wide
    · rw [if_pos c2, chk_nil]
      refine (decide_eq_false fun h => ?_).symm
      obtain ⟨_, _, _, h1, h2, h3⟩ := h
      rcases c2 with c | c
      · exact c h1
      · omega
    · rw [if_neg c2]
      have ht : chk t = true := by cases h : chk t with
        | true => rfl
        | false => exact absurd (.inl h) c1
      have h3 : t.length = 3 := Classical.byContradiction fun h => c2 (.inl h)
      have hw1 : 1 ≤ wide ∧ wide ≤ 64 := by
        have a1 : ¬ wide < 1 := fun h => c1 (.inr (.inl h))
        have a2 : ¬ 64 < wide := fun h => c1 (.inr (.inr h))
        omega
      have hm : ¬ min (nth t 1) (nth t 2) < wide := fun h => c2 (.inr h)
      have hm1 : wide ≤ nth t 1 := by omega
      have hm2 : wide ≤ nth t 2 := by omega
      obtain ⟨_, _, hr, hp⟩ := chk_iff.1 ht
      have r0 := hr _ (nth_mem t 0 (by omega))
      have r1 := hr _ (nth_mem t 1 (by omega))
      have r2 := hr _ (nth_mem t 2 (by omega))
      have hp' : nth t 0 * nth t 1 * nth t 2 ≤ 4096 := by
        have h := hp
        rw [len_three h3] at h
        have h' : 1 * nth t 0 * nth t 1 * nth t 2 ≤ 4096 := h
        rw [Int.one_mul] at h'
        exact h'
      obtain ⟨p1, p2⟩ := slides_part hw1.1 hm1
      obtain ⟨q1, q2⟩ := slides_part hw1.1 hm2
      have hck : chk [nth t 0, slides (nth t 1) wide wide, slides (nth t 2) wide wide] = true := by
        refine chk_iff.2 ⟨by simp, by simp, fun z hz => ?_, ?_⟩
        · simp only [List.mem_cons, List.not_mem_nil, or_false] at hz
          rcases hz with rfl | rfl | rfl
          · exact r0
          · exact ⟨p1, by omega⟩
          · exact ⟨q1, by omega⟩
        · show 1 * nth t 0 * slides (nth t 1) wide wide * slides (nth t 2) wide wide ≤ 4096
          rw [Int.one_mul]
          have m1 : nth t 0 * slides (nth t 1) wide wide ≤ nth t 0 * nth t 1 := Int.mul_le_mul_of_nonneg_left p2 (by omega)
          have m0 : 0 ≤ nth t 0 * nth t 1 := Int.mul_nonneg (by omega) (by omega)
          have m2 := Int.mul_le_mul m1 q2 (by omega) m0
          omega
      rw [hck]
      exact (decide_eq_true ⟨ht, hw1.1, hw1.2, h3, hm1, hm2⟩).symm
theorem chk_without {s : List Int} (hs : chk s = true) {n : Int} (h0 : 0 ≤ n) : chk (without s n) = decide (n < (s.length : Int)) := by
  obtain ⟨h1, h2, h3, h4⟩ := chk_iff.1 hs
  unfold without
  by_cases c : (s.length : Int) ≤ n
  · rw [if_pos c, chk_nil]; exact (decide_eq_false (by omega)).symm
  · rw [if_neg c]
    rw [decide_eq_true (show n < (s.length : Int) by omega)]
    by_cases d : s.length = 1
    · rw [if_pos d]; decide
    · rw [if_neg d]
      obtain ⟨k, rfl⟩ : ∃ k : Nat, n = (k : Int) := ⟨n.toNat, by omega⟩
      rw [Int.toNat_natCast]
      have hk : k < s.length := by omega
      have hsp : s = s.take k ++ nth s k :: s.drop (k + 1) := by
        rw [nth_eq s k hk, ← List.drop_eq_getElem_cons hk, List.take_append_drop]
      have hmem : ∀ x ∈ s.eraseIdx k, x ∈ s := fun x hx => List.mem_of_mem_eraseIdx hx
      refine chk_iff.2 ⟨by rw [List.length_eraseIdx_of_lt hk]; omega, by rw [List.length_eraseIdx_of_lt hk]; omega, fun x hx => h3 x (hmem x hx), ?_⟩
      rw [List.eraseIdx_eq_take_drop_succ, prodF_append]
      have e : prodF 1 s = prodF 1 (s.take k) * (nth s k * prodF 1 (s.drop (k + 1))) := by
        have h := congrArg (prodF 1) hsp
        rw [prodF_append, prodF_cons, Int.one_mul, prodF_mul _ (nth s k)] at h
        exact h
      have hx := (h3 _ (nth_mem s k hk)).1
      have hA := prodF_pos (s.take k) (fun x hx => (h3 x (List.mem_of_mem_take hx)).1)
      have hB := prodF_pos (s.drop (k + 1)) (fun x hx => (h3 x (List.mem_of_mem_drop hx)).1)
      have hB2 : prodF 1 (s.drop (k + 1)) ≤ nth s k * prodF 1 (s.drop (k + 1)) := by
        rw [Int.mul_comm]; exact le_mul (by omega) hx
      have := Int.mul_le_mul_of_nonneg_left hB2 (show 0 ≤ prodF 1 (s.take k) by omega)
      omega
end Gr
end Go.Proofs.YtekejcnphmnidaaGreatDoor
