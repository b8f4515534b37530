/-
  slices stableCmpFunc and SortStableFunc: contracts stable_any, sortStable_any.
-/
import Derived.Test.YtgmagldbfajedaaStSym3
namespace Go.Proofs.Ytgmagldbfajedaa
open Go.RowKit Go.Sort

theorem blocks_go (lt : Int → Int → Bool) (f a n : Nat) (d : Array Int) (hn : d.size = n) (h : a + 20 ≤ n) : St.blocks lt (f + 1) a d = St.blocks lt f (a + 20) (insertionSort lt d a (a + 20)) := by
  conv => lhs; unfold St.blocks
  rw [if_pos (by omega)]
theorem blocks_end (lt : Int → Int → Bool) (f a n : Nat) (d : Array Int) (hn : d.size = n) (h : ¬ a + 20 ≤ n) : St.blocks lt f a d = insertionSort lt d a n := by
  subst hn
  cases f with
  | zero => rfl
  | succ f => conv => lhs; unfold St.blocks
              rw [if_neg h]
theorem pairs_go (lt : Int → Int → Bool) (z f a n : Nat) (d : Array Int) (hn : d.size = n) (h : a + 2 * z ≤ n) : St.pairs lt z (f + 1) a d = St.pairs lt z f (a + 2 * z) (St.symF lt n d a (a + z) (a + 2 * z)) := by
  subst hn
  conv => lhs; unfold St.pairs
  rw [if_pos h]
theorem pairs_last (lt : Int → Int → Bool) (z f a n : Nat) (d : Array Int) (hn : d.size = n) (h : ¬ a + 2 * z ≤ n) (h2 : a + z < n) : St.pairs lt z (f + 1) a d = St.symF lt n d a (a + z) n := by
  subst hn
  conv => lhs; unfold St.pairs
  rw [if_neg h, if_pos h2]
theorem pairs_end (lt : Int → Int → Bool) (z f a n : Nat) (d : Array Int) (hn : d.size = n) (h : ¬ a + 2 * z ≤ n) (h2 : ¬ a + z < n) : St.pairs lt z (f + 1) a d = d := by
  subst hn
  conv => lhs; unfold St.pairs
  rw [if_neg h, if_neg h2]
theorem merges_go (lt : Int → Int → Bool) (f z n : Nat) (d : Array Int) (hn : d.size = n) (h : z < n) : St.merges lt (f + 1) z d = St.merges lt f (2 * z) (St.pairs lt z (n + 1) 0 d) := by
  subst hn
  conv => lhs; unfold St.merges
  rw [if_pos h]
theorem merges_end (lt : Int → Int → Bool) (f z n : Nat) (d : Array Int) (hn : d.size = n) (h : ¬ z < n) : St.merges lt f z d = d := by
  subst hn
  cases f with
  | zero => rfl
  | succ f => conv => lhs; unfold St.merges
              rw [if_neg h]

set_option maxHeartbeats 16000000 in
set_option maxRecDepth 1000000 in
theorem stable_any (g : Nat) (cb : Array Value) (cf : Int → Int → Int) (eg : ∀ args w, (callFunc g args).run Try.prog w = .ok (.enter g args) w) (blk off n cap : Nat) (dom : Int → Prop) (w0 : World) (hc : CmpOk g cb cf dom blk w0) (hn : n < 1152921504606846976)
    (d : Array Int) (w : World) (S : SV blk off n dom w0 d w) :
    Calls Try.prog 104 #[.slice (some ⟨blk, off, none⟩) n cap, .int .i64 n, .func (.func g) #[] cb] w fun e w' => e = .returned (.tuple #[]) ∧ SV blk off n dom w0 (St.stable (ltc cf) d) w' := by
  have hn2 : n < 4611686018427387904 := by omega
  have mixed := mixed
  have HC := Lib.hid hc; clear hc
  have S0 := Lib.hid S; clear S
  have HST : Hid (St.stable (ltc cf) d = St.merges (ltc cf) n 20 (St.blocks (ltc cf) n 0 d)) := by show _ = _; unfold St.stable; rw [S0.out.size]
  go_enter Try.func104, Try.ntmps104
  go_wp2
  go_loopg [7, 8] n (fun gg va vb wr => ∃ (a f : Nat) (dk : Array Int), va = .int .i64 a ∧ vb = .int .i64 (a + 20 : Int) ∧ a ≤ n ∧ n - a ≤ gg ∧ n ≤ a + f ∧ Hid (SV blk off n dom w0 dk wr) ∧ Hid (St.blocks (ltc cf) f a dk = St.blocks (ltc cf) n 0 d))
  case atStart => exact ⟨0, n, d, rfl, rfl, by omega, by omega, by omega, S0, rfl⟩
  case round =>
    clear S0
    obtain ⟨a, f, dk, rfl, rfl, han, hg, hf, S, HO⟩ := hrel
    by_cases hlt : a + 20 ≤ n
    · have hltz : (a : Int) + 20 ≤ (n : Int) := by omega
      obtain ⟨f, rfl⟩ : ∃ q, f = q + 1 := ⟨f - 1, by omega⟩
      go_wp2_with fail
      rw [show (a : Int) + 20 = ((a + 20 : Nat) : Int) from by omega]
      refine (insertion_any blk off n cap dom w0 dk g cb cf a (a + 20) _ eg HC.out S.out hn2 (by omega) hlt).mono ?_
      rintro e w1 ⟨rfl, hs⟩
      have S1 := Lib.hid hs; clear hs
      have HO1 := Lib.hid ((blocks_go (ltc cf) f a n dk S.out.size hlt).symm.trans HO.out)
      clear S HO
      go_wp2
      go_roundg (n - (a + 20))
      case measure => omega
      case rel => exact ⟨a + 20, f, _, by go_num, by go_num, by omega, by omega, by omega, S1, HO1⟩
    · have hltz : ¬ (a : Int) + 20 ≤ (n : Int) := by omega
      go_wp2_with fail
      refine (insertion_any blk off n cap dom w0 dk g cb cf a n _ eg HC.out S.out hn2 (by omega) (Nat.le_refl _)).mono ?_
      rintro e w1 ⟨rfl, hs⟩
      rw [← blocks_end (ltc cf) f a n dk S.out.size hlt, HO.out] at hs
      have S1 := Lib.hid hs; clear hs S HO
      go_wp2
      go_loopg [6, 7, 8, 9] n (fun gg vz va vb vm wr => ∃ (z f : Nat) (dk : Array Int), vz = .int .i64 z ∧ 20 ≤ z ∧ z ≤ 2 * n + 20 ∧ n - z ≤ gg ∧ n ≤ z + f ∧ Hid (SV blk off n dom w0 dk wr) ∧ Hid (St.merges (ltc cf) f z dk = St.stable (ltc cf) d))
      case atStart => exact ⟨20, n, _, rfl, by omega, by omega, by omega, by omega, S1, HST.out.symm⟩
      case round =>
        clear S1 HST
        obtain ⟨z, f, dk, rfl, hz, hz2, hg, hf, S, HO⟩ := hrel
        by_cases hlt : z < n
        · have hltz : (z : Int) < (n : Int) := by omega
          obtain ⟨f, rfl⟩ : ∃ q, f = q + 1 := ⟨f - 1, by omega⟩
          have HO1 := Lib.hid ((merges_go (ltc cf) f z n dk S.out.size hlt).symm.trans HO.out)
          clear HO
          go_wp2
          go_loopg [7, 8] n (fun gg va vb wr => ∃ (a f2 : Nat) (dj : Array Int), va = .int .i64 a ∧ vb = .int .i64 (a + 2 * z : Int) ∧ a ≤ n ∧ n - a ≤ gg ∧ n + 1 ≤ a + f2 ∧ Hid (SV blk off n dom w0 dj wr) ∧ Hid (St.pairs (ltc cf) z f2 a dj = St.pairs (ltc cf) z (n + 1) 0 dk))
          case atStart => exact ⟨0, n + 1, dk, rfl, by go_num, by omega, by omega, by omega, S, rfl⟩
          case round =>
            clear S
            obtain ⟨a, f2, dj, rfl, rfl, han, hg2, hf2, S, HP⟩ := hrel
            obtain ⟨f2, rfl⟩ : ∃ q, f2 = q + 1 := ⟨f2 - 1, by omega⟩
            by_cases hp : a + 2 * z ≤ n
            · have hpz : (a : Int) + 2 * (z : Int) ≤ (n : Int) := by omega
              have HP1 := Lib.hid ((pairs_go (ltc cf) z f2 a n dj S.out.size hp).symm.trans HP.out)
              go_wp2_with fail
              rw [show (a : Int) + (z : Int) = ((a + z : Nat) : Int) from by omega, show (a : Int) + 2 * (z : Int) = ((a + 2 * z : Nat) : Int) from by omega]
              refine (symMerge_any g cb cf eg blk off n cap dom w0 HC.out hn2 n dj a (a + z) (a + 2 * z) _ S.out (by omega) (by omega) (by omega) hp).mono ?_
              rintro e w2 ⟨rfl, hs⟩
              have S2 := Lib.hid hs; clear hs S HP
              go_wp2
              go_roundg (n - (a + 2 * z))
              case measure => omega
              case rel => exact ⟨a + 2 * z, f2, _, by go_num, by go_num, by omega, by omega, by omega, S2, HP1⟩
            · have hpz : ¬ (a : Int) + 2 * (z : Int) ≤ (n : Int) := by omega
              by_cases hl : a + z < n
              · have hlz : (a : Int) + (z : Int) < (n : Int) := by omega
                have HP1 := Lib.hid ((pairs_last (ltc cf) z f2 a n dj S.out.size hp hl).symm.trans HP.out)
                go_wp2_with fail
                rw [show (a : Int) + (z : Int) = ((a + z : Nat) : Int) from by omega]
                refine (symMerge_any g cb cf eg blk off n cap dom w0 HC.out hn2 n dj a (a + z) n _ S.out (by omega) (by omega) hl (Nat.le_refl _)).mono ?_
                rintro e w2 ⟨rfl, hs⟩
                rw [HP1.out] at hs
                have S2 := Lib.hid hs; clear hs S HP HP1
                go_wp2
                go_roundg (n - 2 * z)
                case measure => omega
                case rel => exact ⟨2 * z, f, _, by go_num, by omega, by omega, by omega, by omega, S2, HO1⟩
              · have hlz : ¬ (a : Int) + (z : Int) < (n : Int) := by omega
                have hs := S.out
                rw [← pairs_end (ltc cf) z f2 a n dj S.out.size hp hl, HP.out] at hs
                have S2 := Lib.hid hs; clear hs S HP
                go_wp2
                go_roundg (n - 2 * z)
                case measure => omega
                case rel => exact ⟨2 * z, f, _, by go_num, by omega, by omega, by omega, by omega, S2, HO1⟩
        · have hltz : ¬ (z : Int) < (n : Int) := by omega
          have hs := S.out
          rw [← merges_end (ltc cf) f z n dk S.out.size hlt, HO.out] at hs
          have S2 := Lib.hid hs; clear hs S HO
          go_wp2
          go_end0
          exact ⟨rfl, S2.out⟩

theorem sortStable_any (g : Nat) (cb : Array Value) (cf : Int → Int → Int) (eg : ∀ args w, (callFunc g args).run Try.prog w = .ok (.enter g args) w) (blk off n cap : Nat) (dom : Int → Prop) (w0 : World) (hc : CmpOk g cb cf dom blk w0) (hn : n < 1152921504606846976)
    (d : Array Int) (w : World) (S : SV blk off n dom w0 d w) :
    Calls Try.prog 63 #[.slice (some ⟨blk, off, none⟩) n cap, .func (.func g) #[] cb] w fun e w' => e = .returned (.tuple #[]) ∧ SV blk off n dom w0 (St.stable (ltc cf) d) w' := by
  have HC := Lib.hid hc; clear hc
  have S0 := Lib.hid S; clear S
  go_enter Try.func63, Try.ntmps63
  go_wp2_with fail
  refine (stable_any g cb cf eg blk off n cap dom w0 HC.out hn d _ S0.out).mono ?_
  rintro e w1 ⟨rfl, hs⟩
  have S1 := Lib.hid hs; clear hs
  go_wp2
  go_end0
  exact ⟨rfl, S1.out⟩
end Go.Proofs.Ytgmagldbfajedaa
