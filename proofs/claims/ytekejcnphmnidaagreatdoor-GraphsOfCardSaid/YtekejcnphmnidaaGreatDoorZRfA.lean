import Derived.Test.YtekejcnphmnidaaGreatDoorZRfP
namespace Go.Proofs.YtekejcnphmnidaaGreatDoor
open Go.RowKit
set_option maxHeartbeats 1000000 in
theorem rcheck_any (a : Option Addr) (len cap : Nat) (l : List Int) (w : World) (H : Ints w a len cap l) :
    Calls Tryz.prog 196 #[.slice a len cap] w fun e w' => e = .returned (.bool (Gr.chk l)) ∧ w = w' := by
  have hle := H.le
  have hcap := H.cap_le
  have HL := Lib.hid H.length
  have KH := Lib.hid H
  clear H
  by_cases h1 : len < 1
  · have HR := Lib.hid (Gr.chk_len (s := l) (.inl (by rw [HL.out]; exact h1)))
    have d1 : decide ((len : Int) < 1) = true := decide_eq_true (by omega)
    go_enter Tryz.func196, Tryz.ntmps196
    go_wp2
    go_ret
    exact ⟨by rw [HR.out]; rfl, rfl⟩
  have d1 : decide ((len : Int) < 1) = false := decide_eq_false (by omega)
  by_cases h2 : 4 < len
  · have HR := Lib.hid (Gr.chk_len (s := l) (.inr (by rw [HL.out]; exact h2)))
    have d2 : decide ((len : Int) > 4) = true := decide_eq_true (by omega)
    go_enter Tryz.func196, Tryz.ntmps196
    go_wp2
    go_ret
    exact ⟨by rw [HR.out]; rfl, rfl⟩
  have d2 : decide ((len : Int) > 4) = false := decide_eq_false (by omega)
  go_enter Tryz.func196, Tryz.ntmps196
  go_wp2
  go_loop [3, 4] (fun p i => ∃ (k : Nat) (n : Int), k ≤ len ∧ i = .int .i64 k ∧ p = .int .i64 n ∧ 1 ≤ n ∧ n ≤ 16777216 ∧ Hid (n ≤ Gr.pw k) ∧ Hid (Gr.prodF 1 l = Gr.prodF n (l.drop k)) ∧ Hid (∀ j, j < k → 1 ≤ nth l j ∧ nth l j ≤ 64)) (fun _ i => len - (intOf i).toNat)
  case atStart => exact ⟨0, 1, Nat.zero_le _, rfl, rfl, by omega, by omega, Int.le_refl _, rfl, fun j hj => absurd hj (Nat.not_lt_zero _)⟩
  case round =>
    obtain ⟨k, n, hk, rfl, rfl, hn0, hn1, HPW, HT, HA⟩ := hrel
    by_cases hlt : k < len
    · obtain ⟨b, off, rfl, _, hc⟩ := KH.out.at_ (by omega)
      have hck := hc k hlt
      have hkl : k < l.length := by rw [HL.out]; exact hlt
      have HD := Lib.hid (Gr.prod_at l n k hkl)
      have HBAD : Hid (nth l k < 1 ∨ 64 < nth l k → Gr.chk l = false) := fun h => Gr.chk_bad hkl h
      have HST : Hid (1 ≤ nth l k ∧ nth l k ≤ 64 → 1 ≤ n * nth l k ∧ n * nth l k ≤ Gr.pw (k + 1)) := fun h => Gr.prod_step hn0 HPW.out h
      have hp4 : Gr.pw (k + 1) ≤ 16777216 := by
        have h := Gr.pw_mono (show k + 1 ≤ 4 by omega)
        have h4 : Gr.pw 4 = 16777216 := by decide
        omega
      have HN : Hid (1 ≤ nth l k ∧ nth l k ≤ 64 → ∀ j, j < k + 1 → 1 ≤ nth l j ∧ nth l j ≤ 64) := fun h j hj => by
        by_cases e : j = k
        · subst e; exact h
        · exact HA.out j (by omega)
      clear hc hkl
      generalize nth l k = x at *
      by_cases g1 : x < 1
      · have HR := Lib.hid (HBAD.out (.inl g1))
        have e1 : decide (x < 1) = true := decide_eq_true g1
        go_wp2
        go_ret
        exact ⟨by rw [HR.out]; rfl, rfl⟩
      have e1 : decide (x < 1) = false := decide_eq_false g1
      by_cases g2 : 64 < x
      · have HR := Lib.hid (HBAD.out (.inr g2))
        have e2 : decide (x > 64) = true := decide_eq_true g2
        go_wp2
        go_ret
        exact ⟨by rw [HR.out]; rfl, rfl⟩
      have e2 : decide (x > 64) = false := decide_eq_false g2
      obtain ⟨m0, m1⟩ := HST.out ⟨by omega, by omega⟩
      have HN2 := Lib.hid (HN.out ⟨by omega, by omega⟩)
      have HP2 : Hid (n * x ≤ Gr.pw (k + 1)) := m1
      have HT2 : Hid (Gr.prodF 1 l = Gr.prodF (n * x) (l.drop (k + 1))) := HT.out.trans HD.out
      have m2 : n * x ≤ 16777216 := by omega
      clear m1 hp4 HST
      go_wp2
      go_round
      case rel => exact ⟨k + 1, n * x, by omega, by go_num, by go_num, m0, m2, HP2, HT2, HN2⟩
      case measure => simp [intOf]; omega
    · have HR : Hid (Gr.chk l = decide (n ≤ 4096)) := by
        show _ = _
        have h3 := HT.out
        rw [List.drop_eq_nil_of_le (by rw [HL.out]; omega)] at h3
        rw [Gr.chk_prod (by rw [HL.out]; omega) (by rw [HL.out]; omega) (fun j hj => HA.out j (by rw [HL.out] at hj; omega)), h3]
        rfl
      go_wp2
      go_ret
      exact ⟨by rw [HR.out]; rfl, rfl⟩
set_option maxHeartbeats 1000000 in
theorem rsize_any (a : Option Addr) (len cap : Nat) (l : List Int) (w : World) (H : Ints w a len cap l) :
    Calls Tryz.prog 125 #[.slice a len cap] w fun e w' => e = .returned (.int .i64 (Gr.size l)) ∧ w = w' := by
  have hle := H.le
  have hcap := H.cap_le
  have HL := Lib.hid H.length
  have KH := Lib.hid H
  clear H
  go_enter Tryz.func125, Tryz.ntmps125
  go_wp2_with fail
  refine (rcheck_any _ _ _ l _ KH.out).mono ?_
  rintro e w1 ⟨rfl, rfl⟩
  cases hc : Gr.chk l with
  | false =>
    have HR := Lib.hid (Gr.size_none hc)
    clear hc
    go_wp2
    go_ret
    exact ⟨by rw [HR.out]; rfl, rfl⟩
  | true =>
    obtain ⟨c1, c2, c3, c4⟩ := Gr.chk_iff.1 hc
    have HSZ := Lib.hid (Gr.size_prod hc)
    rw [HL.out] at c1 c2
    have H3 : Hid (∀ k, k < len → 1 ≤ nth l k ∧ nth l k ≤ 64) := fun k hk => c3 _ (nth_mem l k (by rw [HL.out]; exact hk))
    clear hc c3 c4
    go_wp2
    go_loop [3, 4] (fun p i => ∃ (k : Nat) (n : Int), k ≤ len ∧ i = .int .i64 k ∧ p = .int .i64 n ∧ 1 ≤ n ∧ n ≤ 16777216 ∧ Hid (n ≤ Gr.pw k) ∧ Hid (Gr.prodF 1 l = Gr.prodF n (l.drop k))) (fun _ i => len - (intOf i).toNat)
    case atStart => exact ⟨0, 1, Nat.zero_le _, rfl, rfl, by omega, by omega, Int.le_refl _, rfl⟩
    case round =>
      obtain ⟨k, n, hk, rfl, rfl, hn0, hn1, HPW, HT⟩ := hrel
      by_cases hlt : k < len
      · obtain ⟨b, off, rfl, _, hc⟩ := KH.out.at_ (by omega)
        have hck := hc k hlt
        have hx := H3.out k hlt
        have hp4 : Gr.pw (k + 1) ≤ 16777216 := by
          have h := Gr.pw_mono (show k + 1 ≤ 4 by omega)
          have h4 : Gr.pw 4 = 16777216 := by decide
          omega
        have HD := Lib.hid (Gr.prod_at l n k (by rw [HL.out]; exact hlt))
        obtain ⟨m0, m1⟩ := Gr.prod_step hn0 HPW.out hx
        clear hc
        generalize nth l k = x at *
        have HP2 : Hid (n * x ≤ Gr.pw (k + 1)) := m1
        have HT2 : Hid (Gr.prodF 1 l = Gr.prodF (n * x) (l.drop (k + 1))) := HT.out.trans HD.out
        have m2 : n * x ≤ 16777216 := by omega
        clear m1 hp4
        go_wp2
        go_round
        case rel => exact ⟨k + 1, n * x, by omega, by go_num, by go_num, m0, m2, HP2, HT2⟩
        case measure => simp [intOf]; omega
      · have HR : Hid (Gr.size l = n) := by
          show _ = _
          have h3 := HT.out
          rw [List.drop_eq_nil_of_le (by rw [HL.out]; omega)] at h3
          rw [HSZ.out, h3]; rfl
        go_wp2
        go_ret
        exact ⟨by rw [HR.out]; rfl, rfl⟩
set_option maxHeartbeats 1000000 in
theorem rsame_any (a b : Option Addr) (la ca lb cb : Nat) (l m : List Int) (w : World) (HA : Ints w a la ca l) (HB : Ints w b lb cb m) :
    Calls Tryz.prog 208 #[.slice a la ca, .slice b lb cb] w fun e w' => e = .returned (.bool (sameB l m)) ∧ ∃ n, w' = w.drewN n := by
  have KA := Lib.hid HA
  have KB := Lib.hid HB
  have ha1 := HA.le
  have ha2 := HA.cap_le
  have hb1 := HB.le
  have hb2 := HB.cap_le
  have LA := Lib.hid HA.length
  have LB := Lib.hid HB.length
  clear HA HB
  by_cases hl : la = lb
  · subst hl
    have hne : ((la : Int) != (la : Int)) = false := by simp
    go_enter Tryz.func208, Tryz.ntmps208
    go_wp2
    go_loopg [5] la (fun gg i wr => ∃ k : Nat, k ≤ la ∧ la - k ≤ gg ∧ i = .int .i64 k ∧ Hid (l.take k = m.take k) ∧ Hid (∃ n, wr = w.drewN n))
    case atStart => exact ⟨0, Nat.zero_le _, by omega, rfl, rfl, 0, rfl⟩
    case round =>
      obtain ⟨k, hk, hg, rfl, HT, HWr⟩ := hrel
      obtain ⟨nw, rfl⟩ := HWr.out
      by_cases hlt : k < la
      · obtain ⟨ba, oa, rfl, _, hca⟩ := KA.out.at_ (by omega)
        obtain ⟨bb, ob, rfl, _, hcb⟩ := KB.out.at_ (by omega)
        have hak := hca k hlt
        have hbk := hcb k hlt
        clear hca hcb
        by_cases hv : nth l k = nth m k
        · have HN := Lib.hid (take_more (by rw [LA.out]; exact hlt) (by rw [LB.out]; exact hlt) HT.out hv)
          have hvb : (nth l k != nth m k) = false := by simp [hv]
          clear hv
          go_wp2_with fail
          go_quiet (fail)
          go_wp2
          go_roundg (la - (k + 1))
          case measure => omega
          case rel => exact ⟨k + 1, by omega, by omega, by go_num, HN.out, ⟨_, rfl⟩⟩
        · have HN := Lib.hid (sameB_miss hv)
          have hvb : (nth l k != nth m k) = true := by simp [hv]
          clear hv
          go_wp2_with fail
          go_quiet (fail)
          go_wp2
          go_ret
          exact ⟨by rw [HN.out]; rfl, ⟨nw + nq, by simp⟩⟩
      · have HN := Lib.hid (sameB_end (l := l) (m := m) (k := k) (by rw [LA.out, LB.out]) (by rw [LA.out]; omega) HT.out)
        go_wp2
        go_ret
        exact ⟨by rw [HN.out]; rfl, ⟨_, rfl⟩⟩
  · have hne : ((la : Int) != (lb : Int)) = true := by simp; omega
    have HN := Lib.hid (sameB_len (l := l) (m := m) (by rw [LA.out, LB.out]; exact hl))
    clear hl
    go_enter Tryz.func208, Tryz.ntmps208
    go_wp2
    go_ret
    exact ⟨by rw [HN.out]; rfl, ⟨0, rfl⟩⟩
namespace Gr
def allIn (l : List Int) : Bool := (List.range l.length).all fun i => hasB l (i : Int)
theorem order_allIn (l : List Int) : order l = (allIn l && decide (l.length ≤ 4)) := rfl
theorem allIn_iff {l : List Int} : allIn l = true ↔ ∀ i : Nat, i < l.length → (i : Int) ∈ l := by
  unfold allIn
  simp only [List.all_eq_true, List.mem_range, hasB_iff]
theorem allIn_miss {l : List Int} {i : Nat} (hi : i < l.length) (h : l.count (i : Int) ≠ 1) : allIn l = false := by
  cases hc : allIn l with
  | false => rfl
  | true => exact absurd (count_one rfl (allIn_iff.1 hc) i hi) h
theorem allIn_all {l : List Int} (h : ∀ i : Nat, i < l.length → l.count (i : Int) = 1) : allIn l = true := by
  refine allIn_iff.2 fun i hi => ?_
  have := h i hi
  exact List.count_pos_iff.1 (by omega)
theorem count_next (l : List Int) (i : Int) (j : Nat) (hj : j < l.length) : (l.take (j + 1)).count i = (l.take j).count i + (if nth l j = i then 1 else 0) := by
  rw [take_snoc l j hj, List.count_append]
  congr 1
  rw [List.count_singleton]
  simp only [beq_iff_eq]
end Gr
set_option maxHeartbeats 2000000 in
theorem rorder_any (a : Option Addr) (len cap : Nat) (l : List Int) (w : World) (H : Ints w a len cap l) (hl : len ≤ 1000000) :
    Calls Tryz.prog 207 #[.slice a len cap, .int .i64 len] w fun e w' => e = .returned (.bool (Gr.allIn l)) ∧ w = w' := by
  have hle := H.le
  have hcap := H.cap_le
  have HL := Lib.hid H.length
  have KH := Lib.hid H
  have hne : ((len : Int) != (len : Int)) = false := by simp
  clear H
  go_enter Tryz.func207, Tryz.ntmps207
  go_wp2
  go_loop [5] (fun i => ∃ k : Nat, k ≤ len ∧ i = .int .i64 k ∧ Hid (∀ j : Nat, j < k → l.count (j : Int) = 1)) (fun i => len - (intOf i).toNat)
  case atStart => exact ⟨0, Nat.zero_le _, rfl, fun j hj => absurd hj (Nat.not_lt_zero _)⟩
  case round =>
    obtain ⟨k, hk, rfl, HT⟩ := hrel
    by_cases hlt : k < len
    · have dkl : decide ((k : Int) < (len : Int)) = true := decide_eq_true (by omega)
      go_wp2
      go_loop [6, 7] (fun u i => ∃ (j c : Nat), j ≤ len ∧ i = .int .i64 j ∧ u = .int .i64 c ∧ c ≤ j ∧ Hid (c = (l.take j).count (k : Int))) (fun _ i => len - (intOf i).toNat)
      case atStart => exact ⟨0, 0, Nat.zero_le _, rfl, rfl, Nat.le_refl _, rfl⟩
      case round =>
        obtain ⟨j, c, hj, rfl, rfl, hcj, HC⟩ := hrel
        by_cases hltj : j < len
        · have djl : decide ((j : Int) < (len : Int)) = true := decide_eq_true (by omega)
          obtain ⟨b, off, rfl, _, hcc⟩ := KH.out.at_ (by omega)
          have hck := hcc j hltj
          have HN := Lib.hid (Gr.count_next l (k : Int) j (by rw [HL.out]; exact hltj))
          clear hcc
          by_cases hv : nth l j = (k : Int)
          · have hvb : (nth l j == (k : Int)) = true := by simp [hv]
            have HC2 : Hid (c + 1 = (l.take (j + 1)).count (k : Int)) := by show _ = _; rw [HN.out, if_pos hv, HC.out]
            clear hv HN
            go_wp2
            go_round
            case rel => exact ⟨j + 1, c + 1, by omega, by go_num, by go_num, by omega, HC2⟩
            case measure => simp [intOf]; omega
          · have hvb : (nth l j == (k : Int)) = false := by simp [hv]
            have HC2 : Hid (c = (l.take (j + 1)).count (k : Int)) := by show _ = _; rw [HN.out, if_neg hv, HC.out]; rfl
            clear hv HN
            go_wp2
            go_round
            case rel => exact ⟨j + 1, c, by omega, by go_num, by go_num, by omega, HC2⟩
            case measure => simp [intOf]; omega
        · have djl : decide ((j : Int) < (len : Int)) = false := decide_eq_false (by omega)
          have HCE : Hid (c = l.count (k : Int)) := by
            show _ = _
            rw [HC.out, List.take_of_length_le (by rw [HL.out]; omega)]
          by_cases h1 : c = 1
          · subst h1
            have HN : Hid (∀ i : Nat, i < k + 1 → l.count (i : Int) = 1) := fun i hi => by
              by_cases e : i = k
              · subst e; exact HCE.out.symm
              · exact HT.out i (by omega)
            go_wp2
            go_round
            case rel => exact ⟨k + 1, by omega, by go_num, HN⟩
            case measure => simp [intOf]; omega
          · have d1 : ((c : Int) != 1) = true := by simp; omega
            have HR := Lib.hid (Gr.allIn_miss (l := l) (i := k) (by rw [HL.out]; exact hlt) (by rw [← HCE.out]; exact h1))
            clear h1
            go_wp2
            go_ret
            exact ⟨by rw [HR.out]; rfl, rfl⟩
    · have dkl : decide ((k : Int) < (len : Int)) = false := decide_eq_false (by omega)
      have HR := Lib.hid (Gr.allIn_all (l := l) (fun i hi => HT.out i (by rw [HL.out] at hi; omega)))
      go_wp2
      go_ret
      exact ⟨by rw [HR.out]; rfl, rfl⟩
theorem rwithin_any (n f t : Int) (w : World) : Calls Tryz.prog 206 #[.int .i64 n, .int .i64 f, .int .i64 t] w fun e w' => e = .returned (.bool (decide (f ≤ n) && decide (n ≤ t))) ∧ w = w' := by
  by_cases h1 : f ≤ n
  · have d1 : decide (n ≥ f) = true := decide_eq_true h1
    have HR : Hid ((decide (f ≤ n) && decide (n ≤ t)) = decide (n ≤ t)) := by show _ = _; rw [decide_eq_true h1, Bool.true_and]
    go_enter Tryz.func206, Tryz.ntmps206
    go_wp2
    go_ret
    exact ⟨by rw [HR.out]; rfl, rfl⟩
  · have d1 : decide (n ≥ f) = false := decide_eq_false h1
    have HR : Hid ((decide (f ≤ n) && decide (n ≤ t)) = false) := by show _ = _; rw [decide_eq_false h1, Bool.false_and]
    go_enter Tryz.func206, Tryz.ntmps206
    go_wp2
    go_ret
    exact ⟨by first | (rw [HR.out]; rfl) | rfl, rfl⟩
end Go.Proofs.YtekejcnphmnidaaGreatDoor
