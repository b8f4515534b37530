/-
  slices insertionSortCmpFunc: contract insertion_any.
-/
import Derived.Test.YtgmagldbfajedaaStSwap
import Derived.Test.YtgmagldbfajedaaEvSort
namespace Go.Proofs.Ytgmagldbfajedaa
open Go.RowKit Go.Sort


theorem ins_stop (lt : Int → Int → Bool) (a j : Nat) (d : Array Int) (h : j ≤ a ∨ lt d[j]! d[j - 1]! = false) : insInner lt a j d = d := by
  cases j with
  | zero => rfl
  | succ j =>
    unfold insInner
    rcases h with h | h
    · rw [if_neg (by simp; omega)]
    · rw [if_neg (by simp at h ⊢; intro _; exact h)]
theorem ins_go (lt : Int → Int → Bool) (a j : Nat) (d : Array Int) (h : a < j) (hl : lt d[j]! d[j - 1]! = true) : insInner lt a j d = insInner lt a (j - 1) (swp d j (j - 1)) := by
  cases j with
  | zero => omega
  | succ j =>
    conv => lhs; unfold insInner
    rw [if_pos (by simp at hl ⊢; exact ⟨by omega, hl⟩)]; rfl
theorem insO_go (lt : Int → Int → Bool) (a b i : Nat) (d : Array Int) (h : i < b) : insOuter lt a b i d = insOuter lt a b (i + 1) (insInner lt a i d) := by
  conv => lhs; rw [insOuter]
  rw [if_pos h]
theorem insO_stop (lt : Int → Int → Bool) (a b i : Nat) (d : Array Int) (h : ¬ i < b) : insOuter lt a b i d = d := by
  rw [insOuter, if_neg h]

set_option maxHeartbeats 8000000 in
set_option maxRecDepth 1000000 in
theorem insertion_any (blk off n cap : Nat) (dom : Int → Prop) (w0 : World) (d : Array Int) (g : Nat) (cb : Array Value) (cf : Int → Int → Int) (a b : Nat) (w : World)
    (eg : ∀ args w, (callFunc g args).run Try.prog w = .ok (.enter g args) w) (hc : CmpOk g cb cf dom blk w0) (S : SV blk off n dom w0 d w) (hn : n < 4611686018427387904) (hab : a ≤ b) (hb : b ≤ n) :
    Calls Try.prog 132 #[.slice (some ⟨blk, off, none⟩) n cap, .int .i64 a, .int .i64 b, .func (.func g) #[] cb] w fun e w' => e = .returned (.tuple #[]) ∧ SV blk off n dom w0 (insertionSort (ltc cf) d a b) w' := by
  have mixed := mixed
  have HC := Lib.hid hc; clear hc
  have S0 := Lib.hid S; clear S
  go_enter Try.func132, Try.ntmps132
  go_wp2
  go_loopg [8] (b - a) (fun g1 vi wr => ∃ (i : Nat) (dk : Array Int), vi = .int .i64 i ∧ a < i ∧ i ≤ b + 1 ∧ b + 1 - i ≤ g1 + 1 ∧ Hid (SV blk off n dom w0 dk wr) ∧ Hid (insOuter (ltc cf) a b i dk = insOuter (ltc cf) a b (a + 1) d))
  case atStart => exact ⟨a + 1, d, by go_num, by omega, by omega, by omega, S0, rfl⟩
  case round =>
    clear S0
    obtain ⟨i, dk, rfl, hai, hib, hg1, S1, HO⟩ := hrel
    by_cases hlt : i < b
    · have hltz : (i : Int) < (b : Int) := by omega
      go_wp2
      go_loopg [9] i (fun g2 vj wr2 => ∃ (j : Nat) (dj : Array Int), vj = .int .i64 j ∧ a ≤ j ∧ j ≤ i ∧ j ≤ g2 ∧ Hid (SV blk off n dom w0 dj wr2) ∧ Hid (insInner (ltc cf) a j dj = insInner (ltc cf) a i dk))
      case atStart => exact ⟨i, dk, rfl, by omega, Nat.le_refl _, Nat.le_refl _, S1, rfl⟩
      case round =>
        clear S1
        obtain ⟨j, dj, rfl, haj, hji, hg2, SJ, HI⟩ := hrel
        have OUT : Hid ((j ≤ a ∨ (ltc cf) dj[j]! dj[j - 1]! = false) → Hid (insOuter (ltc cf) a b (i + 1) dj = insOuter (ltc cf) a b (a + 1) d)) := fun hs => by
          show _ = _
          rw [← HO.out, insO_go _ _ _ _ _ hlt, ← HI.out, ins_stop _ _ _ _ hs]
        by_cases hja : a < j
        · have hjaz : (a : Int) < (j : Int) := by omega
          obtain ⟨jp, hjp⟩ : ∃ q, q + 1 = j := ⟨j - 1, by omega⟩
          have zjp : (j : Int) = (jp : Int) + 1 := by omega
          have hjad : decide ((jp : Int) + 1 > (a : Int)) = true := decide_eq_true (by omega)
          have hjaz' : (a : Int) < (jp : Int) + 1 := by omega
          cases hlv : (ltc cf) dj[j]! dj[j - 1]! with
          | true =>
            obtain ⟨iN, hiN⟩ : ∃ q, q = j := ⟨_, rfl⟩
            obtain ⟨jN, hjN⟩ : ∃ q, q = j - 1 := ⟨_, rfl⟩
            have ea : ((jp : Int) + 1).toNat = iN := by omega
            have pa : (0 : Int) ≤ (jp : Int) + 1 := by omega
            have ba : (jp : Int) + 1 < (n : Int) := by omega
            have ra : IntKind.i64.wrap ((jp : Int) + 1) = (jp : Int) + 1 := by rw [IntKind.wrap_i64]; omega
            have ec : ((jp : Int)).toNat = jN := by omega
            have pc : (0 : Int) ≤ (jp : Int) := by omega
            have bc : (jp : Int) < (n : Int) := by omega
            have rc : IntKind.i64.wrap ((jp : Int)) = (jp : Int) := by rw [IntKind.wrap_i64]; omega
            have dx := SJ.out.dom j (by omega)
            have dy := SJ.out.dom (j - 1) (by omega)
            obtain ⟨x, hx⟩ : ∃ x, x = dj[j]! := ⟨_, rfl⟩
            obtain ⟨y, hy⟩ : ∃ x, x = dj[j - 1]! := ⟨_, rfl⟩
            have la := SJ.out.cl j (by omega)
            have lb := SJ.out.cl (j - 1) (by omega)
            rw [← hx, ← hiN] at la
            rw [← hy, ← hjN] at lb
            have hcc := SJ.out.cmp HC.out x y (by rw [hx]; exact dx) (by rw [hy]; exact dy)
            have hv : cf x y < 0 := by rw [hx, hy]; exact of_decide_eq_true hlv
            have hd : decide (cf x y < 0) = true := decide_eq_true hv
            clear hx hy hiN hjN dx dy
            go_wp2_with fail
            go_quiet_grown (first | (go_at_fn g; refine Calls.grown_of (hcc _ _)))
            have S2 : Hid (SV blk off n dom w0 dj (grow (wr.drewN nq) osq)) := SJ.out.more ⟨nq, osq, rfl⟩
            clear la lb hcc SJ
            generalize grow (wr.drewN nq) osq = w2 at S2 ⊢
            clear nq osq
            clear ea ec
            go_wp2_with fail
            obtain ⟨iN, hiN⟩ : ∃ q, q = j := ⟨_, rfl⟩
            obtain ⟨jN, hjN⟩ : ∃ q, q = j - 1 := ⟨_, rfl⟩
            have ea : ((jp : Int) + 1).toNat = iN := by omega
            have ec : ((jp : Int)).toNat = jN := by omega
            obtain ⟨x, hx⟩ : ∃ x, x = dj[j]! := ⟨_, rfl⟩
            obtain ⟨y, hy⟩ : ∃ x, x = dj[j - 1]! := ⟨_, rfl⟩
            have S3 : Hid (SV blk off n dom w0 (swp dj (j) (j - 1)) ((w2.setCell ⟨blk, off + iN, none⟩ (.int .i64 y)).setCell ⟨blk, off + jN, none⟩ (.int .i64 x)).drew) := by rw [hiN, hjN, hx, hy]; exact (S2.out.swap (j) (j - 1) (by omega) (by omega)).drew
            have c1a := S2.out.c1 (j) (by omega)
            have c1b := S2.out.c1 (j - 1) (by omega)
            have f1a := S2.out.f1 (j) (by omega)
            have f1b := S2.out.f1 (j - 1) (by omega)
            obtain ⟨u, c1c⟩ := S2.out.c2 (j) (j - 1) (by omega) (by omega) (.int .i64 y)
            rw [← hjN, ← hiN] at c1c
            rw [← hx, ← hiN] at c1a
            rw [← hy, ← hjN] at c1b
            rw [← hiN] at f1a
            rw [← hjN] at f1b
            clear S2 hx hy hiN hjN
            go_wp2_with fail
            go_big_region
            clear c1a c1b c1c f1a f1b
            generalize ((w2.setCell ⟨blk, off + iN, none⟩ (.int .i64 y)).setCell ⟨blk, off + jN, none⟩ (.int .i64 x)).drew = w3 at S3 ⊢
            clear ea ec
            go_wp2
            go_roundg (j - 1)
            case measure => omega
            case rel => exact ⟨j - 1, swp dj j (j - 1), by first | rfl | go_num | (congr 1; omega), by omega, by omega, Nat.le_refl _, S3, (show Hid _ from by show _ = _; rw [← HI.out, ins_go (ltc cf) a j dj hja hlv])⟩
          | false =>
            obtain ⟨iN, hiN⟩ : ∃ q, q = j := ⟨_, rfl⟩
            obtain ⟨jN, hjN⟩ : ∃ q, q = j - 1 := ⟨_, rfl⟩
            have ea : ((jp : Int) + 1).toNat = iN := by omega
            have pa : (0 : Int) ≤ (jp : Int) + 1 := by omega
            have ba : (jp : Int) + 1 < (n : Int) := by omega
            have ra : IntKind.i64.wrap ((jp : Int) + 1) = (jp : Int) + 1 := by rw [IntKind.wrap_i64]; omega
            have ec : ((jp : Int)).toNat = jN := by omega
            have pc : (0 : Int) ≤ (jp : Int) := by omega
            have bc : (jp : Int) < (n : Int) := by omega
            have rc : IntKind.i64.wrap ((jp : Int)) = (jp : Int) := by rw [IntKind.wrap_i64]; omega
            have dx := SJ.out.dom j (by omega)
            have dy := SJ.out.dom (j - 1) (by omega)
            obtain ⟨x, hx⟩ : ∃ x, x = dj[j]! := ⟨_, rfl⟩
            obtain ⟨y, hy⟩ : ∃ x, x = dj[j - 1]! := ⟨_, rfl⟩
            have la := SJ.out.cl j (by omega)
            have lb := SJ.out.cl (j - 1) (by omega)
            rw [← hx, ← hiN] at la
            rw [← hy, ← hjN] at lb
            have hcc := SJ.out.cmp HC.out x y (by rw [hx]; exact dx) (by rw [hy]; exact dy)
            have hv : ¬ cf x y < 0 := by rw [hx, hy]; exact of_decide_eq_false hlv
            have hd : decide (cf x y < 0) = false := decide_eq_false hv
            clear hx hy hiN hjN dx dy
            go_wp2_with fail
            go_quiet_grown (first | (go_at_fn g; refine Calls.grown_of (hcc _ _)))
            have S2 : Hid (SV blk off n dom w0 dj (grow (wr.drewN nq) osq)) := SJ.out.more ⟨nq, osq, rfl⟩
            clear la lb hcc SJ
            generalize grow (wr.drewN nq) osq = w2 at S2 ⊢
            clear nq osq
            clear ea ec
            go_wp2
            go_roundg (b - (i + 1))
            case measure => omega
            case rel => exact ⟨i + 1, dj, by go_num, by omega, by omega, by omega, S2, OUT.out (Or.inr hlv)⟩
        · have hjaz : decide ((j : Int) > (a : Int)) = false := decide_eq_false (by omega)
          have hjaz' : ¬ (a : Int) < (j : Int) := by omega
          go_wp2_with fail
          go_big_region
          have S2 : Hid (SV blk off n dom w0 dj wr.drew) := SJ.out.drew
          clear SJ
          generalize wr.drew = w2 at S2 ⊢
          go_wp2
          go_roundg (b - (i + 1))
          case measure => omega
          case rel => exact ⟨i + 1, dj, by go_num, by omega, by omega, by omega, S2, OUT.out (Or.inl (by omega))⟩
    · have hltz : ¬ (i : Int) < (b : Int) := by omega
      go_wp2
      go_end0
      exact ⟨rfl, by unfold insertionSort; rw [← HO.out, insO_stop _ _ _ _ _ hlt]; exact S1.out⟩
end Go.Proofs.Ytgmagldbfajedaa
