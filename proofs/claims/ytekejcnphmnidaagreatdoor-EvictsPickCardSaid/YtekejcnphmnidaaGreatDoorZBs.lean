/-
  One text out of: StSwap, EvSort, StIns, StSym1, StSym2, StRot, StSym3, StStable, StNil, EvPick1, EvPick, EvPick2.
-/
import Derived.Deep.RegionHeld3
import Derived.Deep.AppendLies
import Derived.Laws.EntriesVeiled
import Derived.Deep.DeepMust
import Derived.Test.YtekejcnphmnidaaGreatDoorZBb
import Derived.Test.YtekejcnphmnidaaGreatDoorZBa
/- StSwap: slices swapRangeCmpFunc: contract swapRange_any.
-/
namespace Go.Proofs.YtekejcnphmnidaaGreatDoor
open Go.RowKit Go.Sort

set_option maxHeartbeats 4000000 in
set_option maxRecDepth 100000 in
theorem swapRange_any (blk off n cap : Nat) (dom : Int → Prop) (w0 : World) (d : Array Int) (fv : Value) (a b m : Nat) (w : World) (S : SV blk off n dom w0 d w) (hn : n < 4611686018427387904) (ha : a + m ≤ n) (hb : b + m ≤ n) :
    Calls Tryz.prog 219 #[.slice (some ⟨blk, off, none⟩) n cap, .int .i64 a, .int .i64 b, .int .i64 m, fv] w fun e w' => e = .returned (.tuple #[]) ∧ SV blk off n dom w0 (St.swR a b 0 m d) w' := by
  have S0 := Lib.hid S; clear S
  go_enter Tryz.func219, Tryz.ntmps219
  go_wp2
  go_loopg [10] m (fun gg vi wr => ∃ (i : Nat) (dk : Array Int), vi = .int .i64 i ∧ i ≤ m ∧ m - i ≤ gg ∧ Hid (SV blk off n dom w0 dk wr) ∧ Hid (St.swR a b i (m - i) dk = St.swR a b 0 m d))
  case atStart => exact ⟨0, d, rfl, by omega, by omega, S0, rfl⟩
  case round =>
    clear S0
    obtain ⟨i, dk, rfl, hi, hg, S, HO⟩ := hrel
    by_cases hlt : i < m
    · have hltz : (i : Int) < (m : Int) := by omega
      obtain ⟨iN, hiN⟩ : ∃ q, q = a + i := ⟨_, rfl⟩
      obtain ⟨jN, hjN⟩ : ∃ q, q = b + i := ⟨_, rfl⟩
      have ea : ((a : Int) + (i : Int)).toNat = iN := by omega
      have pa : (0 : Int) ≤ (a : Int) + (i : Int) := by omega
      have ba : (a : Int) + (i : Int) < (n : Int) := by omega
      have ra : IntKind.i64.wrap ((a : Int) + (i : Int)) = (a : Int) + (i : Int) := by rw [IntKind.wrap_i64]; omega
      have ec : ((b : Int) + (i : Int)).toNat = jN := by omega
      have pc : (0 : Int) ≤ (b : Int) + (i : Int) := by omega
      have bc : (b : Int) + (i : Int) < (n : Int) := by omega
      have rc : IntKind.i64.wrap ((b : Int) + (i : Int)) = (b : Int) + (i : Int) := by rw [IntKind.wrap_i64]; omega
      obtain ⟨x, hx⟩ : ∃ x, x = dk[a + i]! := ⟨_, rfl⟩
      obtain ⟨y, hy⟩ : ∃ x, x = dk[b + i]! := ⟨_, rfl⟩
      have S3 : Hid (SV blk off n dom w0 (swp dk (a + i) (b + i)) ((wr.setCell ⟨blk, off + iN, none⟩ (.int .i64 y)).setCell ⟨blk, off + jN, none⟩ (.int .i64 x)).drew) := by
        rw [hiN, hjN, hx, hy]; exact (S.out.swap (a + i) (b + i) (by omega) (by omega)).drew
      have c1a := S.out.c1 (a + i) (by omega)
      have c1b := S.out.c1 (b + i) (by omega)
      have f1a := S.out.f1 (a + i) (by omega)
      have f1b := S.out.f1 (b + i) (by omega)
      obtain ⟨u, c1c⟩ := S.out.c2 (a + i) (b + i) (by omega) (by omega) (.int .i64 y)
      rw [← hjN, ← hiN] at c1c
      rw [← hx, ← hiN] at c1a
      rw [← hy, ← hjN] at c1b
      rw [← hiN] at f1a
      rw [← hjN] at f1b
      clear S hx hy hiN hjN
      go_wp2_with fail
      go_big_region
      clear c1a c1b c1c f1a f1b
      generalize ((wr.setCell ⟨blk, off + iN, none⟩ (.int .i64 y)).setCell ⟨blk, off + jN, none⟩ (.int .i64 x)).drew = w3 at S3 ⊢
      clear ea ec ra rc
      go_wp2
      go_roundg (m - (i + 1))
      case measure => omega
      case rel => exact ⟨i + 1, swp dk (a + i) (b + i), by go_num, by omega, by omega, S3, by
        show _ = _
        rw [← HO.out]
        obtain ⟨r, hr⟩ : ∃ r, m - i = r + 1 := ⟨m - i - 1, by omega⟩
        rw [hr, show m - (i + 1) = r by omega]; rfl⟩
    · have hltz : ¬ (i : Int) < (m : Int) := by omega
      go_wp2
      go_end0
      refine ⟨rfl, ?_⟩
      rw [← HO.out, show m - i = 0 by omega]
      exact S.out
end Go.Proofs.YtekejcnphmnidaaGreatDoor

/- EvSort: slices.SortStableFunc order facts that the pick needs.
-/
namespace Go.Proofs.YtekejcnphmnidaaGreatDoor
open Go.Sort

def ltc (cf : Int → Int → Int) (x y : Int) : Bool := decide (cf x y < 0)

theorem far_swo (bytes next : List Int) : SWO (ltc (Ev.far bytes next)) where
  irrefl x := by
    unfold ltc
    rw [decide_eq_false_iff_not, Ev.far_neg]
    intro h; apply h
    rcases Ev.far_total bytes next x x with h1 | h1 <;> exact h1
  trans x y z h1 h2 := by
    unfold ltc at *
    simp only [decide_eq_true_eq, Ev.far_neg] at *
    intro h3
    rcases Ev.far_total bytes next x y with k1 | k1
    · exact h2 (Ev.far_trans bytes next z x y h3 k1)
    · exact h1 k1
  ntrans x y z h1 h2 := by
    unfold ltc at *
    simp only [decide_eq_false_iff_not, Ev.far_neg, Classical.not_not] at *
    exact Ev.far_trans bytes next z y x h2 h1

theorem stable_sorted (bytes next l : List Int) : (St.stable (ltc (Ev.far bytes next)) l.toArray).toList = Ev.sorted bytes next l := by
  obtain ⟨hp, hs⟩ := St.stable_spec (far_swo bytes next) l.toArray
  have hz := hp.1
  refine Ev.sorted_unique bytes next l _ ?_ ?_
  · have h := hp.2.2
    have e1 : ∀ d : Array Int, d.size = l.toArray.size → d.extract 0 l.toArray.size = d := by
      intro d hd
      rw [← hd]; simp
    rw [e1 _ hz, e1 _ rfl] at h
    simpa using h
  · rw [List.pairwise_iff_getElem]
    intro i j hi hj hij
    have h := hs i j (Nat.zero_le _) hij (by simpa [hz] using hj)
    generalize St.stable (ltc (Ev.far bytes next)) l.toArray = d at *
    unfold ltc at h
    rw [decide_eq_false_iff_not, Ev.far_neg, Classical.not_not] at h
    simp only [Array.length_toList] at hi hj
    rw [getElem!_pos _ i hi, getElem!_pos _ j hj] at h
    simpa using h
end Go.Proofs.YtekejcnphmnidaaGreatDoor

/- StIns: slices insertionSortCmpFunc: contract insertion_any.
-/
namespace Go.Proofs.YtekejcnphmnidaaGreatDoor
open Go.RowKit Go.Sort


theorem ins_stop (lt : Int → Int → Bool) (a j : Nat) (d : Array Int) (h : j ≤ a ∨ lt d[j]! d[j - 1]! = false) : insInner lt a j d = d := by
  cases j with
  | zero => rfl
  | succ j =>
    unfold insInner
    rcases h with h | h
    · rw [if_neg (by simp; omega)]
    · rw [if_neg (by simp at h ⊢; intro _; exact h)]
theorem ins_go (lt : Int → Int → Bool) (a j : Nat) (d : Array Int) (h : a < j) (hl : lt d[j]! d[j - 1]! = true) : insInner lt a j d = insInner lt a (j - 1) (swp d j (j - 1)) := by
  cases j with
  | zero => omega
  | succ j =>
    conv => lhs; unfold insInner
    rw [if_pos (by simp at hl ⊢; exact ⟨by omega, hl⟩)]; rfl
theorem insO_go (lt : Int → Int → Bool) (a b i : Nat) (d : Array Int) (h : i < b) : insOuter lt a b i d = insOuter lt a b (i + 1) (insInner lt a i d) := by
  conv => lhs; rw [insOuter]
  rw [if_pos h]
theorem insO_stop (lt : Int → Int → Bool) (a b i : Nat) (d : Array Int) (h : ¬ i < b) : insOuter lt a b i d = d := by
  rw [insOuter, if_neg h]

set_option maxHeartbeats 8000000 in
set_option maxRecDepth 1000000 in
theorem insertion_any (blk off n cap : Nat) (dom : Int → Prop) (w0 : World) (d : Array Int) (g : Nat) (cb : Array Value) (cf : Int → Int → Int) (a b : Nat) (w : World)
    (eg : ∀ args w, (callFunc g args).run Tryz.prog w = .ok (.enter g args) w) (hc : CmpOk g cb cf dom blk w0) (S : SV blk off n dom w0 d w) (hn : n < 4611686018427387904) (hab : a ≤ b) (hb : b ≤ n) :
    Calls Tryz.prog 199 #[.slice (some ⟨blk, off, none⟩) n cap, .int .i64 a, .int .i64 b, .func (.func g) #[] cb] w fun e w' => e = .returned (.tuple #[]) ∧ SV blk off n dom w0 (insertionSort (ltc cf) d a b) w' := by
  have mixed := mixed
  have HC := Lib.hid hc; clear hc
  have S0 := Lib.hid S; clear S
  go_enter Tryz.func199, Tryz.ntmps199
  go_wp2
  go_loopg [8] (b - a) (fun g1 vi wr => ∃ (i : Nat) (dk : Array Int), vi = .int .i64 i ∧ a < i ∧ i ≤ b + 1 ∧ b + 1 - i ≤ g1 + 1 ∧ Hid (SV blk off n dom w0 dk wr) ∧ Hid (insOuter (ltc cf) a b i dk = insOuter (ltc cf) a b (a + 1) d))
  case atStart => exact ⟨a + 1, d, by go_num, by omega, by omega, by omega, S0, rfl⟩
  case round =>
    clear S0
    obtain ⟨i, dk, rfl, hai, hib, hg1, S1, HO⟩ := hrel
    by_cases hlt : i < b
    · have hltz : (i : Int) < (b : Int) := by omega
      go_wp2
      go_loopg [9] i (fun g2 vj wr2 => ∃ (j : Nat) (dj : Array Int), vj = .int .i64 j ∧ a ≤ j ∧ j ≤ i ∧ j ≤ g2 ∧ Hid (SV blk off n dom w0 dj wr2) ∧ Hid (insInner (ltc cf) a j dj = insInner (ltc cf) a i dk))
      case atStart => exact ⟨i, dk, rfl, by omega, Nat.le_refl _, Nat.le_refl _, S1, rfl⟩
      case round =>
        clear S1
        obtain ⟨j, dj, rfl, haj, hji, hg2, SJ, HI⟩ := hrel
        have OUT : Hid ((j ≤ a ∨ (ltc cf) dj[j]! dj[j - 1]! = false) → Hid (insOuter (ltc cf) a b (i + 1) dj = insOuter (ltc cf) a b (a + 1) d)) := fun hs => by
          show _ = _
          rw [← HO.out, insO_go _ _ _ _ _ hlt, ← HI.out, ins_stop _ _ _ _ hs]
        by_cases hja : a < j
        · have hjaz : (a : Int) < (j : Int) := by omega
          obtain ⟨jp, hjp⟩ : ∃ q, q + 1 = j := ⟨j - 1, by omega⟩
          have zjp : (j : Int) = (jp : Int) + 1 := by omega
          have hjad : decide ((jp : Int) + 1 > (a : Int)) = true := decide_eq_true (by omega)
          have hjaz' : (a : Int) < (jp : Int) + 1 := by omega
          cases hlv : (ltc cf) dj[j]! dj[j - 1]! with
          | true =>
            obtain ⟨iN, hiN⟩ : ∃ q, q = j := ⟨_, rfl⟩
            obtain ⟨jN, hjN⟩ : ∃ q, q = j - 1 := ⟨_, rfl⟩
            have ea : ((jp : Int) + 1).toNat = iN := by omega
            have pa : (0 : Int) ≤ (jp : Int) + 1 := by omega
            have ba : (jp : Int) + 1 < (n : Int) := by omega
            have ra : IntKind.i64.wrap ((jp : Int) + 1) = (jp : Int) + 1 := by rw [IntKind.wrap_i64]; omega
            have ec : ((jp : Int)).toNat = jN := by omega
            have pc : (0 : Int) ≤ (jp : Int) := by omega
            have bc : (jp : Int) < (n : Int) := by omega
            have rc : IntKind.i64.wrap ((jp : Int)) = (jp : Int) := by rw [IntKind.wrap_i64]; omega
            have dx := SJ.out.dom j (by omega)
            have dy := SJ.out.dom (j - 1) (by omega)
            obtain ⟨x, hx⟩ : ∃ x, x = dj[j]! := ⟨_, rfl⟩
            obtain ⟨y, hy⟩ : ∃ x, x = dj[j - 1]! := ⟨_, rfl⟩
            have la := SJ.out.cl j (by omega)
            have lb := SJ.out.cl (j - 1) (by omega)
            rw [← hx, ← hiN] at la
            rw [← hy, ← hjN] at lb
            have hcc := SJ.out.cmp HC.out x y (by rw [hx]; exact dx) (by rw [hy]; exact dy)
            have hv : cf x y < 0 := by rw [hx, hy]; exact of_decide_eq_true hlv
            have hd : decide (cf x y < 0) = true := decide_eq_true hv
            clear hx hy hiN hjN dx dy
            go_wp2_with fail
            go_quiet_grown (first | (go_at_fn g; refine Calls.grown_of (hcc _ _)))
            have S2 : Hid (SV blk off n dom w0 dj (grow (wr.drewN nq) osq)) := SJ.out.more ⟨nq, osq, rfl⟩
            clear la lb hcc SJ
            generalize grow (wr.drewN nq) osq = w2 at S2 ⊢
            clear nq osq
            clear ea ec
            go_wp2_with fail
            obtain ⟨iN, hiN⟩ : ∃ q, q = j := ⟨_, rfl⟩
            obtain ⟨jN, hjN⟩ : ∃ q, q = j - 1 := ⟨_, rfl⟩
            have ea : ((jp : Int) + 1).toNat = iN := by omega
            have ec : ((jp : Int)).toNat = jN := by omega
            obtain ⟨x, hx⟩ : ∃ x, x = dj[j]! := ⟨_, rfl⟩
            obtain ⟨y, hy⟩ : ∃ x, x = dj[j - 1]! := ⟨_, rfl⟩
            have S3 : Hid (SV blk off n dom w0 (swp dj (j) (j - 1)) ((w2.setCell ⟨blk, off + iN, none⟩ (.int .i64 y)).setCell ⟨blk, off + jN, none⟩ (.int .i64 x)).drew) := by rw [hiN, hjN, hx, hy]; exact (S2.out.swap (j) (j - 1) (by omega) (by omega)).drew
            have c1a := S2.out.c1 (j) (by omega)
            have c1b := S2.out.c1 (j - 1) (by omega)
            have f1a := S2.out.f1 (j) (by omega)
            have f1b := S2.out.f1 (j - 1) (by omega)
            obtain ⟨u, c1c⟩ := S2.out.c2 (j) (j - 1) (by omega) (by omega) (.int .i64 y)
            rw [← hjN, ← hiN] at c1c
            rw [← hx, ← hiN] at c1a
            rw [← hy, ← hjN] at c1b
            rw [← hiN] at f1a
            rw [← hjN] at f1b
            clear S2 hx hy hiN hjN
            go_wp2_with fail
            go_big_region
            clear c1a c1b c1c f1a f1b
            generalize ((w2.setCell ⟨blk, off + iN, none⟩ (.int .i64 y)).setCell ⟨blk, off + jN, none⟩ (.int .i64 x)).drew = w3 at S3 ⊢
            clear ea ec
            go_wp2
            go_roundg (j - 1)
            case measure => omega
            case rel => exact ⟨j - 1, swp dj j (j - 1), by first | rfl | go_num | (congr 1; omega), by omega, by omega, Nat.le_refl _, S3, (show Hid _ from by show _ = _; rw [← HI.out, ins_go (ltc cf) a j dj hja hlv])⟩
          | false =>
            obtain ⟨iN, hiN⟩ : ∃ q, q = j := ⟨_, rfl⟩
            obtain ⟨jN, hjN⟩ : ∃ q, q = j - 1 := ⟨_, rfl⟩
            have ea : ((jp : Int) + 1).toNat = iN := by omega
            have pa : (0 : Int) ≤ (jp : Int) + 1 := by omega
            have ba : (jp : Int) + 1 < (n : Int) := by omega
            have ra : IntKind.i64.wrap ((jp : Int) + 1) = (jp : Int) + 1 := by rw [IntKind.wrap_i64]; omega
            have ec : ((jp : Int)).toNat = jN := by omega
            have pc : (0 : Int) ≤ (jp : Int) := by omega
            have bc : (jp : Int) < (n : Int) := by omega
            have rc : IntKind.i64.wrap ((jp : Int)) = (jp : Int) := by rw [IntKind.wrap_i64]; omega
            have dx := SJ.out.dom j (by omega)
            have dy := SJ.out.dom (j - 1) (by omega)
            obtain ⟨x, hx⟩ : ∃ x, x = dj[j]! := ⟨_, rfl⟩
            obtain ⟨y, hy⟩ : ∃ x, x = dj[j - 1]! := ⟨_, rfl⟩
            have la := SJ.out.cl j (by omega)
            have lb := SJ.out.cl (j - 1) (by omega)
            rw [← hx, ← hiN] at la
            rw [← hy, ← hjN] at lb
            have hcc := SJ.out.cmp HC.out x y (by rw [hx]; exact dx) (by rw [hy]; exact dy)
            have hv : ¬ cf x y < 0 := by rw [hx, hy]; exact of_decide_eq_false hlv
            have hd : decide (cf x y < 0) = false := decide_eq_false hv
            clear hx hy hiN hjN dx dy
            go_wp2_with fail
            go_quiet_grown (first | (go_at_fn g; refine Calls.grown_of (hcc _ _)))
            have S2 : Hid (SV blk off n dom w0 dj (grow (wr.drewN nq) osq)) := SJ.out.more ⟨nq, osq, rfl⟩
            clear la lb hcc SJ
            generalize grow (wr.drewN nq) osq = w2 at S2 ⊢
            clear nq osq
            clear ea ec
            go_wp2
            go_roundg (b - (i + 1))
            case measure => omega
            case rel => exact ⟨i + 1, dj, by go_num, by omega, by omega, by omega, S2, OUT.out (Or.inr hlv)⟩
        · have hjaz : decide ((j : Int) > (a : Int)) = false := decide_eq_false (by omega)
          have hjaz' : ¬ (a : Int) < (j : Int) := by omega
          go_wp2_with fail
          go_big_region
          have S2 : Hid (SV blk off n dom w0 dj wr.drew) := SJ.out.drew
          clear SJ
          generalize wr.drew = w2 at S2 ⊢
          go_wp2
          go_roundg (b - (i + 1))
          case measure => omega
          case rel => exact ⟨i + 1, dj, by go_num, by omega, by omega, by omega, S2, OUT.out (Or.inl (by omega))⟩
    · have hltz : ¬ (i : Int) < (b : Int) := by omega
      go_wp2
      go_end0
      exact ⟨rfl, by unfold insertionSort; rw [← HO.out, insO_stop _ _ _ _ _ hlt]; exact S1.out⟩
end Go.Proofs.YtekejcnphmnidaaGreatDoor

/- StSym1: slices symMergeCmpFunc, part 1: the plain spec and the search.
-/
namespace Go.Proofs.YtekejcnphmnidaaGreatDoor
open Go.RowKit Go.Sort

theorem bs_yes (p : Nat → Bool) (i j h : Nat) (hh : h = (i + j) / 2) (hlt : i < j) (hp : p h = true) : St.bs p i j = St.bs p (h + 1) j := by
  subst hh; conv => lhs; rw [St.bs]
  rw [if_pos hlt, if_pos hp]
theorem bs_no (p : Nat → Bool) (i j h : Nat) (hh : h = (i + j) / 2) (hlt : i < j) (hp : p h = false) : St.bs p i j = St.bs p i h := by
  subst hh; conv => lhs; rw [St.bs]
  rw [if_pos hlt, hp]; rfl
theorem bs_end (p : Nat → Bool) (i j : Nat) (hlt : ¬ i < j) : St.bs p i j = i := by rw [St.bs, if_neg hlt]

set_option maxHeartbeats 8000000 in
set_option maxRecDepth 1000000 in
theorem sym1_any (blk off n cap : Nat) (dom : Int → Prop) (w0 : World) (d : Array Int) (g : Nat) (cb : Array Value) (cf : Int → Int → Int) (a m b : Nat) (w : World) (hm : m = a + 1)
    (eg : ∀ args w, (callFunc g args).run Tryz.prog w = .ok (.enter g args) w) (hc : CmpOk g cb cf dom blk w0) (S : SV blk off n dom w0 d w) (hn : n < 4611686018427387904) (hab : a + 1 < b) (hb : b ≤ n) :
    Calls Tryz.prog 200 #[.slice (some ⟨blk, off, none⟩) n cap, .int .i64 a, .int .i64 m, .int .i64 b, .func (.func g) #[] cb] w fun e w' => e = .returned (.tuple #[]) ∧ SV blk off n dom w0 (St.upSw a (St.bs (St.p1 (ltc cf) d a) m b - 1 - a) d) w' := by
  have mixed := mixed
  have HC := Lib.hid hc; clear hc
  have S0 := Lib.hid S; clear S
  have et : ((m : Int) - (a : Int) == 1) = true := by simp; omega
  have hm1 : a + 1 ≤ m := by omega
  have hm2 : m ≤ a + 1 := by omega
  have HM := Lib.hid hm; clear hm
  go_enter Tryz.func200, Tryz.ntmps200
  go_wp2
  go_loopg [10, 11, 12] b (fun gg vi vj vh wr => ∃ (i j : Nat), vi = .int .i64 i ∧ vj = .int .i64 j ∧ a + 1 ≤ i ∧ i ≤ j ∧ j ≤ b ∧ j - i ≤ gg ∧ Hid (SV blk off n dom w0 d wr) ∧ Hid (St.bs (St.p1 (ltc cf) d a) i j = St.bs (St.p1 (ltc cf) d a) m b))
  case atStart => exact ⟨m, b, rfl, rfl, by omega, by omega, by omega, by omega, S0, rfl⟩
  case round =>
    clear S0
    obtain ⟨i, j, rfl, rfl, hai, hij, hjb, hg, S, HO⟩ := hrel
    by_cases hlt : i < j
    · have hltz : (i : Int) < (j : Int) := by omega
      obtain ⟨h, hh⟩ : ∃ q, q = (i + j) / 2 := ⟨_, rfl⟩
      have eh : ((i : Int) + (j : Int)) / 2 = (h : Int) := by omega
      have h1 : i ≤ h := by omega
      have h2 : h < j := by omega
      have HH := Lib.hid hh; clear hh
      have pa : (0 : Int) ≤ (h : Int) := by omega
      have ba : (h : Int) < (n : Int) := by omega
      have bc : (a : Int) < (n : Int) := by omega
      have dx := S.out.dom h (by omega)
      have dy := S.out.dom a (by omega)
      obtain ⟨x, hx⟩ : ∃ x, x = d[h]! := ⟨_, rfl⟩
      obtain ⟨y, hy⟩ : ∃ x, x = d[a]! := ⟨_, rfl⟩
      have la := S.out.cl h (by omega)
      have lb := S.out.cl a (by omega)
      rw [← hx] at la
      rw [← hy] at lb
      have hcc := S.out.cmp HC.out x y (by rw [hx]; exact dx) (by rw [hy]; exact dy)
      have HP : Hid (St.p1 (ltc cf) d a h = decide (cf x y < 0)) := by show _ = _; rw [hx, hy]; rfl
      clear hx hy dx dy
      cases hd : decide (cf x y < 0) with
      | true =>
        have hv : cf x y < 0 := of_decide_eq_true hd
        have HB := Lib.hid (bs_yes (St.p1 (ltc cf) d a) i j h HH.out hlt (by rw [HP.out, hd]))
        go_wp2_with fail
        go_quiet_grown (first | (go_at_fn g; refine Calls.grown_of (hcc _ _)))
        have S2 : Hid (SV blk off n dom w0 d (grow (wr.drewN nq) osq)) := S.out.more ⟨nq, osq, rfl⟩
        clear la lb hcc S
        generalize grow (wr.drewN nq) osq = w2 at S2 ⊢
        clear nq osq
        go_wp2
        go_roundg (j - (h + 1))
        case measure => omega
        case rel => exact ⟨h + 1, j, by go_num, rfl, by omega, by omega, by omega, by omega, S2, by show _ = _; rw [← HB.out]; exact HO.out⟩
      | false =>
        have hv : ¬ cf x y < 0 := of_decide_eq_false hd
        have HB := Lib.hid (bs_no (St.p1 (ltc cf) d a) i j h HH.out hlt (by rw [HP.out, hd]))
        go_wp2_with fail
        go_quiet_grown (first | (go_at_fn g; refine Calls.grown_of (hcc _ _)))
        have S2 : Hid (SV blk off n dom w0 d (grow (wr.drewN nq) osq)) := S.out.more ⟨nq, osq, rfl⟩
        clear la lb hcc S
        generalize grow (wr.drewN nq) osq = w2 at S2 ⊢
        clear nq osq
        go_wp2
        go_roundg (h - i)
        case measure => omega
        case rel => exact ⟨i, h, rfl, by go_num, by omega, by omega, by omega, by omega, S2, by show _ = _; rw [← HB.out]; exact HO.out⟩
    · have hltz : ¬ (i : Int) < (j : Int) := by omega
      have HF : Hid (St.bs (St.p1 (ltc cf) d a) m b = i) := by show _ = _; rw [← HO.out, bs_end _ _ _ hlt]
      clear HO
      go_wp2
      go_loopg [13] (i - a) (fun gg vk wr => ∃ (k : Nat) (dk : Array Int), vk = .int .i64 k ∧ a ≤ k ∧ k + 1 ≤ i ∧ i - k ≤ gg ∧ Hid (SV blk off n dom w0 dk wr) ∧ Hid (St.upSw k (i - 1 - k) dk = St.upSw a (i - 1 - a) d))
      case atStart => exact ⟨a, d, rfl, by omega, by omega, by omega, S, rfl⟩
      case round =>
        clear S
        obtain ⟨k, dk, rfl, hak, hki, hg2, S, HO⟩ := hrel
        by_cases hlk : k + 1 < i
        · have hlz : (k : Int) < (i : Int) - 1 := by omega
          obtain ⟨jN, hjN⟩ : ∃ q, q = k + 1 := ⟨_, rfl⟩
          have ec : ((k : Int) + 1).toNat = jN := by omega
          have pc : (0 : Int) ≤ (k : Int) + 1 := by omega
          have bk : (k : Int) < (n : Int) := by omega
          have bc : (k : Int) + 1 < (n : Int) := by omega
          have rc : IntKind.i64.wrap ((k : Int) + 1) = (k : Int) + 1 := by rw [IntKind.wrap_i64]; omega
          obtain ⟨x, hx⟩ : ∃ x, x = dk[k]! := ⟨_, rfl⟩
          obtain ⟨y, hy⟩ : ∃ x, x = dk[k + 1]! := ⟨_, rfl⟩
          have S3 : Hid (SV blk off n dom w0 (swp dk k (k + 1)) ((wr.setCell ⟨blk, off + k, none⟩ (.int .i64 y)).setCell ⟨blk, off + jN, none⟩ (.int .i64 x)).drew) := by
            rw [hjN, hx, hy]; exact (S.out.swap k (k + 1) (by omega) (by omega)).drew
          have c1a := S.out.c1 k (by omega)
          have c1b := S.out.c1 (k + 1) (by omega)
          have f1a := S.out.f1 k (by omega)
          have f1b := S.out.f1 (k + 1) (by omega)
          obtain ⟨u, c1c⟩ := S.out.c2 k (k + 1) (by omega) (by omega) (.int .i64 y)
          rw [← hjN] at c1c
          rw [← hx] at c1a
          rw [← hy, ← hjN] at c1b
          rw [← hjN] at f1b
          clear S hx hy hjN
          go_wp2_with fail
          go_big_region
          clear c1a c1b c1c f1a f1b
          generalize ((wr.setCell ⟨blk, off + k, none⟩ (.int .i64 y)).setCell ⟨blk, off + jN, none⟩ (.int .i64 x)).drew = w3 at S3 ⊢
          clear ec rc
          go_wp2
          go_roundg (i - (k + 1))
          case measure => omega
          case rel => exact ⟨k + 1, swp dk k (k + 1), by go_num, by omega, by omega, by omega, S3, by
            show _ = _
            rw [← HO.out]
            obtain ⟨r, hr⟩ : ∃ r, i - 1 - k = r + 1 := ⟨i - 1 - k - 1, by omega⟩
            rw [hr, show i - 1 - (k + 1) = r by omega]; rfl⟩
        · have hlz : ¬ (k : Int) < (i : Int) - 1 := by omega
          go_wp2
          refine bodyPost_ret (results_none rfl _ _ _) rfl ?_
          refine ⟨rfl, ?_⟩
          rw [HF.out, ← HO.out, show i - 1 - k = 0 by omega]
          exact S.out
end Go.Proofs.YtekejcnphmnidaaGreatDoor

/- StSym2: slices symMergeCmpFunc, part 2: the walk of the two searches.
-/
namespace Go.Proofs.YtekejcnphmnidaaGreatDoor
open Go.RowKit Go.Sort

set_option maxHeartbeats 8000000 in
set_option maxRecDepth 1000000 in
theorem sym2_any (blk off n cap : Nat) (dom : Int → Prop) (w0 : World) (d : Array Int) (g : Nat) (cb : Array Value) (cf : Int → Int → Int) (a m b : Nat) (w : World) (hm : b = m + 1)
    (eg : ∀ args w, (callFunc g args).run Tryz.prog w = .ok (.enter g args) w) (hc : CmpOk g cb cf dom blk w0) (S : SV blk off n dom w0 d w) (hn : n < 4611686018427387904) (ham : a + 1 < m) (hb : b ≤ n) :
    Calls Tryz.prog 200 #[.slice (some ⟨blk, off, none⟩) n cap, .int .i64 a, .int .i64 m, .int .i64 b, .func (.func g) #[] cb] w fun e w' => e = .returned (.tuple #[]) ∧ SV blk off n dom w0 (St.dnSw m (m - St.bs (St.p2 (ltc cf) d m) a m) d) w' := by
  have mixed := mixed
  have HC := Lib.hid hc; clear hc
  have S0 := Lib.hid S; clear S
  have et : ((m : Int) - (a : Int) == 1) = false := by simp; omega
  have et2 : ((b : Int) - (m : Int) == 1) = true := by simp; omega
  have hm1 : m + 1 ≤ b := by omega
  have hm2 : b ≤ m + 1 := by omega
  have HM := Lib.hid hm; clear hm
  go_enter Tryz.func200, Tryz.ntmps200
  go_wp2
  go_loopg [14, 15, 16] m (fun gg vi vj vh wr => ∃ (i j : Nat), vi = .int .i64 i ∧ vj = .int .i64 j ∧ a ≤ i ∧ i ≤ j ∧ j ≤ m ∧ j - i ≤ gg ∧ Hid (SV blk off n dom w0 d wr) ∧ Hid (St.bs (St.p2 (ltc cf) d m) i j = St.bs (St.p2 (ltc cf) d m) a m))
  case atStart => exact ⟨a, m, rfl, rfl, by omega, by omega, by omega, by omega, S0, rfl⟩
  case round =>
    clear S0
    obtain ⟨i, j, rfl, rfl, hai, hij, hjb, hg, S, HO⟩ := hrel
    by_cases hlt : i < j
    · have hltz : (i : Int) < (j : Int) := by omega
      obtain ⟨h, hh⟩ : ∃ q, q = (i + j) / 2 := ⟨_, rfl⟩
      have eh : ((i : Int) + (j : Int)) / 2 = (h : Int) := by omega
      have h1 : i ≤ h := by omega
      have h2 : h < j := by omega
      have HH := Lib.hid hh; clear hh
      have pa : (0 : Int) ≤ (h : Int) := by omega
      have ba : (h : Int) < (n : Int) := by omega
      have bc : (m : Int) < (n : Int) := by omega
      have dx := S.out.dom m (by omega)
      have dy := S.out.dom h (by omega)
      obtain ⟨x, hx⟩ : ∃ x, x = d[m]! := ⟨_, rfl⟩
      obtain ⟨y, hy⟩ : ∃ x, x = d[h]! := ⟨_, rfl⟩
      have la := S.out.cl m (by omega)
      have lb := S.out.cl h (by omega)
      rw [← hx] at la
      rw [← hy] at lb
      have hcc := S.out.cmp HC.out x y (by rw [hx]; exact dx) (by rw [hy]; exact dy)
      have HP : Hid (St.p2 (ltc cf) d m h = !decide (cf x y < 0)) := by show _ = _; rw [hx, hy]; rfl
      clear hx hy dx dy
      cases hd : decide (cf x y < 0) with
      | false =>
        have hv : ¬ cf x y < 0 := of_decide_eq_false hd
        have HB := Lib.hid (bs_yes (St.p2 (ltc cf) d m) i j h HH.out hlt (by rw [HP.out, hd]; rfl))
        go_wp2_with fail
        go_quiet_grown (first | (go_at_fn g; refine Calls.grown_of (hcc _ _)))
        have S2 : Hid (SV blk off n dom w0 d (grow (wr.drewN nq) osq)) := S.out.more ⟨nq, osq, rfl⟩
        clear la lb hcc S
        generalize grow (wr.drewN nq) osq = w2 at S2 ⊢
        clear nq osq
        go_wp2
        go_roundg (j - (h + 1))
        case measure => omega
        case rel => exact ⟨h + 1, j, by go_num, rfl, by omega, by omega, by omega, by omega, S2, by show _ = _; rw [← HB.out]; exact HO.out⟩
      | true =>
        have hv : cf x y < 0 := of_decide_eq_true hd
        have HB := Lib.hid (bs_no (St.p2 (ltc cf) d m) i j h HH.out hlt (by rw [HP.out, hd]; rfl))
        go_wp2_with fail
        go_quiet_grown (first | (go_at_fn g; refine Calls.grown_of (hcc _ _)))
        have S2 : Hid (SV blk off n dom w0 d (grow (wr.drewN nq) osq)) := S.out.more ⟨nq, osq, rfl⟩
        clear la lb hcc S
        generalize grow (wr.drewN nq) osq = w2 at S2 ⊢
        clear nq osq
        go_wp2
        go_roundg (h - i)
        case measure => omega
        case rel => exact ⟨i, h, rfl, by go_num, by omega, by omega, by omega, by omega, S2, by show _ = _; rw [← HB.out]; exact HO.out⟩
    · have hltz : ¬ (i : Int) < (j : Int) := by omega
      have HF : Hid (St.bs (St.p2 (ltc cf) d m) a m = i) := by show _ = _; rw [← HO.out, bs_end _ _ _ hlt]
      clear HO
      go_wp2
      go_loopg [17] (m - i) (fun gg vk wr => ∃ (k : Nat) (dk : Array Int), vk = .int .i64 k ∧ k ≤ m ∧ i ≤ k ∧ k - i ≤ gg ∧ Hid (SV blk off n dom w0 dk wr) ∧ Hid (St.dnSw k (k - i) dk = St.dnSw m (m - i) d))
      case atStart => exact ⟨m, d, rfl, by omega, by omega, by omega, S, rfl⟩
      case round =>
        clear S
        obtain ⟨k, dk, rfl, hak, hki, hg2, S, HO⟩ := hrel
        by_cases hlk : i < k
        · obtain ⟨kp, hkp⟩ : ∃ q, q + 1 = k := ⟨k - 1, by omega⟩
          have zkp : (k : Int) = (kp : Int) + 1 := by omega
          have hlz : (i : Int) < (kp : Int) + 1 := by omega
          obtain ⟨iN, hiN⟩ : ∃ q, q = k := ⟨_, rfl⟩
          obtain ⟨jN, hjN⟩ : ∃ q, q = k - 1 := ⟨_, rfl⟩
          have ea : ((kp : Int) + 1).toNat = iN := by omega
          have pa : (0 : Int) ≤ (kp : Int) + 1 := by omega
          have ba : (kp : Int) + 1 < (n : Int) := by omega
          have ra : IntKind.i64.wrap ((kp : Int) + 1) = (kp : Int) + 1 := by rw [IntKind.wrap_i64]; omega
          have ec : ((kp : Int)).toNat = jN := by omega
          have pc : (0 : Int) ≤ (kp : Int) := by omega
          have bc : (kp : Int) < (n : Int) := by omega
          have rc : IntKind.i64.wrap ((kp : Int)) = (kp : Int) := by rw [IntKind.wrap_i64]; omega
          obtain ⟨x, hx⟩ : ∃ x, x = dk[k]! := ⟨_, rfl⟩
          obtain ⟨y, hy⟩ : ∃ x, x = dk[k - 1]! := ⟨_, rfl⟩
          have S3 : Hid (SV blk off n dom w0 (swp dk k (k - 1)) ((wr.setCell ⟨blk, off + iN, none⟩ (.int .i64 y)).setCell ⟨blk, off + jN, none⟩ (.int .i64 x)).drew) := by
            rw [hiN, hjN, hx, hy]; exact (S.out.swap k (k - 1) (by omega) (by omega)).drew
          have c1a := S.out.c1 k (by omega)
          have c1b := S.out.c1 (k - 1) (by omega)
          have f1a := S.out.f1 k (by omega)
          have f1b := S.out.f1 (k - 1) (by omega)
          obtain ⟨u, c1c⟩ := S.out.c2 k (k - 1) (by omega) (by omega) (.int .i64 y)
          rw [← hjN, ← hiN] at c1c
          rw [← hx, ← hiN] at c1a
          rw [← hy, ← hjN] at c1b
          rw [← hiN] at f1a
          rw [← hjN] at f1b
          clear S hx hy hjN hiN
          go_wp2_with fail
          go_big_region
          clear c1a c1b c1c f1a f1b
          generalize ((wr.setCell ⟨blk, off + iN, none⟩ (.int .i64 y)).setCell ⟨blk, off + jN, none⟩ (.int .i64 x)).drew = w3 at S3 ⊢
          clear ea ec
          go_wp2
          go_roundg (k - 1 - i)
          case measure => omega
          case rel => exact ⟨k - 1, swp dk k (k - 1), by first | rfl | go_num | (congr 1; omega), by omega, by omega, by omega, S3, by
            show _ = _
            rw [← HO.out]
            obtain ⟨r, hr⟩ : ∃ r, k - i = r + 1 := ⟨k - i - 1, by omega⟩
            rw [hr, show k - 1 - i = r by omega]; rfl⟩
        · have hlz : decide ((k : Int) > (i : Int)) = false := decide_eq_false (by omega)
          have hlz' : ¬ (i : Int) < (k : Int) := by omega
          go_wp2
          refine bodyPost_ret (results_none rfl _ _ _) rfl ?_
          refine ⟨rfl, ?_⟩
          rw [HF.out, ← HO.out, show k - i = 0 by omega]
          exact S.out
end Go.Proofs.YtekejcnphmnidaaGreatDoor

/- StRot: slices rotateCmpFunc: contract rotate_any.
-/
namespace Go.Proofs.YtekejcnphmnidaaGreatDoor
open Go.RowKit Go.Sort

theorem rotL_eq (m f i : Nat) (d : Array Int) (hf : 0 < f) : St.rotL m f i i d = St.swR (m - i) m 0 i d := by
  cases f with
  | zero => omega
  | succ f => unfold St.rotL; rw [if_pos rfl]
theorem rotL_gt (m f i j : Nat) (d : Array Int) (h : j < i) : St.rotL m (f + 1) i j d = St.rotL m f (i - j) j (St.swR (m - i) m 0 j d) := by
  conv => lhs; unfold St.rotL
  rw [if_neg (by omega), if_pos h]
theorem rotL_lt (m f i j : Nat) (d : Array Int) (h : i < j) : St.rotL m (f + 1) i j d = St.rotL m f i (j - i) (St.swR (m - i) (m + j - i) 0 i d) := by
  conv => lhs; unfold St.rotL
  rw [if_neg (by omega), if_neg (by omega)]

set_option maxHeartbeats 4000000 in
set_option maxRecDepth 100000 in
theorem rotate_any (blk off n cap : Nat) (dom : Int → Prop) (w0 : World) (d : Array Int) (fv : Value) (a m b : Nat) (w : World) (S : SV blk off n dom w0 d w) (hn : n < 4611686018427387904) (ham : a < m) (hmb : m < b) (hb : b ≤ n) :
    Calls Tryz.prog 217 #[.slice (some ⟨blk, off, none⟩) n cap, .int .i64 a, .int .i64 m, .int .i64 b, fv] w fun e w' => e = .returned (.tuple #[]) ∧ SV blk off n dom w0 (St.rotate d a m b) w' := by
  have S0 := Lib.hid S; clear S
  have es : IntKind.i64.wrap ((m : Int) - (a : Int)) = ((m - a : Nat) : Int) := by rw [IntKind.wrap_i64]; omega
  have et : IntKind.i64.wrap ((b : Int) - (m : Int)) = ((b - m : Nat) : Int) := by rw [IntKind.wrap_i64]; omega
  go_enter Tryz.func217, Tryz.ntmps217
  go_wp2
  go_loopg [10, 11] (b - a) (fun gg vi vj wr => ∃ (i j f : Nat) (dk : Array Int), vi = .int .i64 i ∧ vj = .int .i64 j ∧ 0 < i ∧ 0 < j ∧ a + i ≤ m ∧ m + j ≤ b ∧ i + j ≤ gg ∧ i + j ≤ f ∧ Hid (SV blk off n dom w0 dk wr) ∧ Hid (St.rotL m f i j dk = St.rotate d a m b))
  case atStart => exact ⟨m - a, b - m, b - a, d, by first | rfl | (congr 1; omega), by first | rfl | (congr 1; omega), by omega, by omega, by omega, by omega, by omega, by omega, S0, rfl⟩
  case round =>
    clear S0 es et
    obtain ⟨i, j, f, dk, rfl, rfl, hi, hj, hia, hjb, hg, hf, S, HO⟩ := hrel
    obtain ⟨f, rfl⟩ : ∃ q, f = q + 1 := ⟨f - 1, by omega⟩
    have e1 : (m : Int) - (i : Int) = ((m - i : Nat) : Int) := by omega
    rcases Nat.lt_trichotomy i j with hlt | heq | hgt
    · have e2 : (m : Int) + (j : Int) - (i : Int) = ((m + j - i : Nat) : Int) := by omega
      have hne : ((i : Int) != (j : Int)) = true := by simp; omega
      have hd : decide ((i : Int) > (j : Int)) = false := decide_eq_false (by omega)
      go_wp2_with fail
      refine (swapRange_any blk off n cap dom w0 dk fv (m - i) (m + j - i) i _ S.out hn (by omega) (by omega)).mono ?_
      rintro e w1 ⟨rfl, hs⟩
      have S1 := Lib.hid hs; clear hs S
      go_wp2
      go_roundg (i + (j - i))
      case measure => omega
      case rel => exact ⟨i, j - i, f, _, by go_num, by go_num, by omega, by omega, by omega, by omega, by omega, by omega, S1, by show _ = _; rw [← HO.out, rotL_lt _ _ _ _ _ hlt]⟩
    · subst heq
      have hne : ((i : Int) != (i : Int)) = false := by simp
      go_wp2_with fail
      refine (swapRange_any blk off n cap dom w0 dk fv (m - i) m i _ S.out hn (by omega) (by omega)).mono ?_
      rintro e w1 ⟨rfl, hs⟩
      have S1 := Lib.hid hs; clear hs S
      go_wp2
      go_end0
      refine ⟨rfl, ?_⟩
      rw [← HO.out, rotL_eq _ _ _ _ (by omega)]
      exact S1.out
    · have hne : ((i : Int) != (j : Int)) = true := by simp; omega
      have hd : decide ((i : Int) > (j : Int)) = true := decide_eq_true (by omega)
      go_wp2_with fail
      refine (swapRange_any blk off n cap dom w0 dk fv (m - i) m j _ S.out hn (by omega) (by omega)).mono ?_
      rintro e w1 ⟨rfl, hs⟩
      have S1 := Lib.hid hs; clear hs S
      go_wp2
      go_roundg (i - j + j)
      case measure => omega
      case rel => exact ⟨i - j, j, f, _, by go_num, by go_num, by omega, by omega, by omega, by omega, by omega, by omega, S1, by show _ = _; rw [← HO.out, rotL_gt _ _ _ _ _ hgt]⟩
end Go.Proofs.YtekejcnphmnidaaGreatDoor

/- StSym3: slices symMergeCmpFunc, part 3: contract symMerge_any (the text was printed by gen_sym3.py).
-/
namespace Go.Proofs.YtekejcnphmnidaaGreatDoor
open Go.RowKit Go.Sort

/-- symMerge's steps behind the search, s: what the search found. -/
def smTail (lt : Int → Int → Bool) (f : Nat) (d : Array Int) (a m b mid s e : Nat) : Array Int :=
  let d1 := if s < m ∧ s < mid then St.rotate d s m e else d
  let d2 := if a < s ∧ s < mid then St.symF lt f d1 a s mid else d1
  if s < m ∧ e < b then St.symF lt f d2 mid e b else d2

theorem symF_gen (lt : Int → Int → Bool) (f : Nat) (d : Array Int) (a m b mid s e : Nat) (h1 : a + 1 < m) (h2 : m + 1 < b) (hmid : mid = (a + b) / 2) (hs : s = St.smAt lt d a m b) (he : e = mid + m - s) :
    St.symF lt (f + 1) d a m b = smTail lt f d a m b mid s e := by
  have hst : St.smStart a m b ≤ St.smEnd a m b := by unfold St.smStart St.smEnd; split <;> omega
  have hle : St.smEnd a m b ≤ (a + b) / 2 ∧ St.smEnd a m b ≤ m := by unfold St.smEnd; split <;> omega
  obtain ⟨k1, k2, _, _⟩ := St.bs_all (St.p3 lt d ((a + b) / 2 + m - 1)) (St.smStart a m b) (St.smEnd a m b) hst
  change St.smStart a m b ≤ St.smAt lt d a m b at k1
  change St.smAt lt d a m b ≤ St.smEnd a m b at k2
  have hs2 : s ≤ mid ∧ s ≤ m := by omega
  subst he
  conv => lhs; unfold St.symF
  rw [if_neg (by omega), if_neg (by omega)]
  unfold St.smRot smTail
  rw [← hs, ← hmid]
  have e1 : (s < m ∧ m < mid + m - s) = (s < m ∧ s < mid) := by apply propext; omega
  have e2 : (mid < mid + m - s ∧ mid + m - s < b) = (s < m ∧ mid + m - s < b) := by apply propext; omega
  simp only [e1, e2]

set_option maxHeartbeats 16000000 in
set_option maxRecDepth 1000000 in
theorem symMerge_any (g : Nat) (cb : Array Value) (cf : Int → Int → Int) (eg : ∀ args w, (callFunc g args).run Tryz.prog w = .ok (.enter g args) w) (blk off n cap : Nat) (dom : Int → Prop) (w0 : World) (hc : CmpOk g cb cf dom blk w0) (hn : n < 4611686018427387904) :
    ∀ (f : Nat) (d : Array Int) (a m b : Nat) (w : World), SV blk off n dom w0 d w → b ≤ a + f → a < m → m < b → b ≤ n →
    Calls Tryz.prog 200 #[.slice (some ⟨blk, off, none⟩) n cap, .int .i64 a, .int .i64 m, .int .i64 b, .func (.func g) #[] cb] w fun e w' => e = .returned (.tuple #[]) ∧ SV blk off n dom w0 (St.symF (ltc cf) f d a m b) w' := by
  intro f
  induction f with
  | zero => intro d a m b w S h1 h2 h3; omega
  | succ f ih =>
    intro d a m b w S hf ham hmb hb
    by_cases hm1 : m = a + 1
    · refine (sym1_any blk off n cap dom w0 d g cb cf a m b w hm1 eg hc S hn (by omega) hb).mono fun e w' ⟨he, hS⟩ => ⟨he, ?_⟩
      unfold St.symF
      rw [if_pos hm1]; exact hS
    by_cases hm2 : b = m + 1
    · refine (sym2_any blk off n cap dom w0 d g cb cf a m b w hm2 eg hc S hn (by omega) hb).mono fun e w' ⟨he, hS⟩ => ⟨he, ?_⟩
      unfold St.symF
      rw [if_neg hm1, if_pos hm2]; exact hS
    have mixed := mixed
    have IH := Lib.hid ih; clear ih
    have HC := Lib.hid hc; clear hc
    have S0 := Lib.hid S; clear S
    have et : ((m : Int) - (a : Int) == 1) = false := by simp; omega
    have et2 : ((b : Int) - (m : Int) == 1) = false := by simp; omega
    have g1 : a + 1 < m := by omega
    have g2 : m + 1 < b := by omega
    clear hm1 hm2
    obtain ⟨mid, hmid⟩ : ∃ q, q = (a + b) / 2 := ⟨_, rfl⟩
    have emid : ((a : Int) + (b : Int)) / 2 = (mid : Int) := by omega
    have hmid1 : 2 * mid ≤ a + b := by omega
    have hmid2 : a + b ≤ 2 * mid + 1 := by omega
    have HMid := Lib.hid hmid; clear hmid
    by_cases hgt : mid < m
    · have hgd : decide ((m : Int) > (mid : Int)) = true := decide_eq_true (by omega)
      obtain ⟨st, hst⟩ : ∃ q, q = mid + m - b := ⟨_, rfl⟩
      have est : (mid : Int) + (m : Int) - (b : Int) = (st : Int) := by omega
      have HS : Hid (St.bs (St.p3 (ltc cf) d (mid + m - 1)) st mid = St.smAt (ltc cf) d a m b) := by
        show _ = _
        unfold St.smAt St.smStart St.smEnd
        rw [← HMid.out, if_pos hgt, if_pos hgt, hst]
      have b1 : a ≤ st := by omega
      have b2 : st ≤ mid := by omega
      have b4 : mid + m ≤ st + b := by omega
      clear hst
      go_enter Tryz.func200, Tryz.ntmps200
      go_wp2
      go_loopg [20, 21, 23] b (fun gg vi vr vc wr => ∃ (i r : Nat), vi = .int .i64 i ∧ vr = .int .i64 r ∧ a ≤ i ∧ i ≤ r ∧ r ≤ mid ∧ r ≤ m ∧ mid + m ≤ i + b ∧ r - i ≤ gg ∧ Hid (SV blk off n dom w0 d wr) ∧ Hid (St.bs (St.p3 (ltc cf) d (mid + m - 1)) i r = St.smAt (ltc cf) d a m b))
      case atStart => exact ⟨st, mid, rfl, rfl, by omega, by omega, by omega, by omega, by omega, by omega, S0, HS⟩
      case round =>
        clear S0 HS
        obtain ⟨i, r, rfl, rfl, hai, hir, hrm, hrm2, hib, hg, S, HO⟩ := hrel
        by_cases hlt : i < r
        · have hltz : (i : Int) < (r : Int) := by omega
          obtain ⟨h, hh⟩ : ∃ q, q = (i + r) / 2 := ⟨_, rfl⟩
          have eh : ((i : Int) + (r : Int)) / 2 = (h : Int) := by omega
          have h1 : i ≤ h := by omega
          have h2 : h < r := by omega
          have HH := Lib.hid hh; clear hh
          obtain ⟨pN, hpN⟩ : ∃ q, q = mid + m - 1 - h := ⟨_, rfl⟩
          have ep : (mid : Int) + (m : Int) - 1 - (h : Int) = (pN : Int) := by omega
          have rp : IntKind.i64.wrap ((mid : Int) + (m : Int) - 1 - (h : Int)) = (pN : Int) := by rw [IntKind.wrap_i64]; omega
          have rp2 : IntKind.i64.wrap (pN : Int) = (pN : Int) := by rw [IntKind.wrap_i64]; omega
          have hpn : pN < n := by omega
          have pa : (0 : Int) ≤ (h : Int) := by omega
          have ba : (h : Int) < (n : Int) := by omega
          have pc : (0 : Int) ≤ (pN : Int) := by omega
          have bc : (pN : Int) < (n : Int) := by omega
          have dx := S.out.dom pN hpn
          have dy := S.out.dom h (by omega)
          obtain ⟨x, hx⟩ : ∃ x, x = d[pN]! := ⟨_, rfl⟩
          obtain ⟨y, hy⟩ : ∃ x, x = d[h]! := ⟨_, rfl⟩
          have la := S.out.cl pN hpn
          have lb := S.out.cl h (by omega)
          rw [← hx] at la
          rw [← hy] at lb
          have hcc := S.out.cmp HC.out x y (by rw [hx]; exact dx) (by rw [hy]; exact dy)
          have HP : Hid (St.p3 (ltc cf) d (mid + m - 1) h = !decide (cf x y < 0)) := by show _ = _; rw [hx, hy, hpN]; rfl
          clear hx hy dx dy hpN
          cases hd : decide (cf x y < 0) with
          | false =>
            have hv : ¬ cf x y < 0 := of_decide_eq_false hd
            have HB := Lib.hid (bs_yes (St.p3 (ltc cf) d (mid + m - 1)) i r h HH.out hlt (by rw [HP.out, hd]; rfl))
            go_wp2_with fail
            go_quiet_grown (first | (go_at_fn g; refine Calls.grown_of (hcc _ _)))
            have S2 : Hid (SV blk off n dom w0 d (grow (wr.drewN nq) osq)) := S.out.more ⟨nq, osq, rfl⟩
            clear la lb hcc S
            generalize grow (wr.drewN nq) osq = w2 at S2 ⊢
            clear nq osq
            clear ep rp rp2
            go_wp2
            go_roundg (r - (h + 1))
            case measure => omega
            case rel => exact ⟨h + 1, r, by go_num, rfl, by omega, by omega, by omega, by omega, by omega, by omega, S2, by show _ = _; rw [← HB.out]; exact HO.out⟩
          | true =>
            have hv : cf x y < 0 := of_decide_eq_true hd
            have HB := Lib.hid (bs_no (St.p3 (ltc cf) d (mid + m - 1)) i r h HH.out hlt (by rw [HP.out, hd]; rfl))
            go_wp2_with fail
            go_quiet_grown (first | (go_at_fn g; refine Calls.grown_of (hcc _ _)))
            have S2 : Hid (SV blk off n dom w0 d (grow (wr.drewN nq) osq)) := S.out.more ⟨nq, osq, rfl⟩
            clear la lb hcc S
            generalize grow (wr.drewN nq) osq = w2 at S2 ⊢
            clear nq osq
            clear ep rp rp2
            go_wp2
            go_roundg (h - i)
            case measure => omega
            case rel => exact ⟨i, h, rfl, by go_num, by omega, by omega, by omega, by omega, by omega, by omega, S2, by show _ = _; rw [← HB.out]; exact HO.out⟩
        · have hltz : ¬ (i : Int) < (r : Int) := by omega
          obtain ⟨e, he⟩ : ∃ q, q = mid + m - i := ⟨_, rfl⟩
          have ee : (mid : Int) + (m : Int) - (i : Int) = (e : Int) := by omega
          have HF : Hid (St.symF (ltc cf) (f + 1) d a m b = smTail (ltc cf) f d a m b mid i e) :=
            symF_gen (ltc cf) f d a m b mid i e g1 g2 HMid.out (by rw [← HO.out, bs_end _ _ _ hlt]) he
          have he1 : e + i = mid + m := by omega
          have HE := Lib.hid he1
          have he2 : e + i ≤ mid + m := by omega
          have he3 : mid + m ≤ e + i := by omega
          clear he he1 HO hlt
          by_cases hA : i < m <;> by_cases hB : i < mid <;> by_cases hC : a < i <;> by_cases hD : e < b
          all_goals (have HQ := Lib.hid (And.intro hA (And.intro hB (And.intro hC hD))))
          all_goals
            (go_wp2_with (first
              | (go_at_call 217; refine (rotate_any blk off n cap dom w0 d _ i m e _ S.out hn (by omega) (by omega) (by omega)).mono ?_; rintro e1 w1 ⟨rfl, hs1⟩; have S := Lib.hid hs1; clear hs1)
              | (go_at_call_of 200 (Value.int IntKind.i64 (b : Int)); refine (IH.out _ mid e b _ S.out (by omega) (by omega) (by omega) (by omega)).mono ?_; rintro e1 w1 ⟨rfl, hs1⟩; have S := Lib.hid hs1; clear hs1)
              | (go_at_call_of 200 (Value.int IntKind.i64 (a : Int)); refine (IH.out _ a i mid _ S.out (by omega) (by omega) (by omega) (by omega)).mono ?_; rintro e1 w1 ⟨rfl, hs1⟩; have S := Lib.hid hs1; clear hs1)))
          all_goals go_end0
          all_goals
            (refine ⟨rfl, ?_⟩
             obtain ⟨kA, kB, kC, kD⟩ := HQ.out
             have S1 := S.out
             rw [HF.out]
             simp only [smTail, kA, kB, kC, kD, and_self, and_true, and_false, if_true, if_false]
             exact S1)
    · have hgd : decide ((m : Int) > (mid : Int)) = false := decide_eq_false (by omega)
      have HS : Hid (St.bs (St.p3 (ltc cf) d (mid + m - 1)) a m = St.smAt (ltc cf) d a m b) := by
        show _ = _
        unfold St.smAt St.smStart St.smEnd
        rw [← HMid.out, if_neg hgt, if_neg hgt]
      go_enter Tryz.func200, Tryz.ntmps200
      go_wp2
      go_loopg [20, 21, 23] b (fun gg vi vr vc wr => ∃ (i r : Nat), vi = .int .i64 i ∧ vr = .int .i64 r ∧ a ≤ i ∧ i ≤ r ∧ r ≤ mid ∧ r ≤ m ∧ mid + m ≤ i + b ∧ r - i ≤ gg ∧ Hid (SV blk off n dom w0 d wr) ∧ Hid (St.bs (St.p3 (ltc cf) d (mid + m - 1)) i r = St.smAt (ltc cf) d a m b))
      case atStart => exact ⟨a, m, rfl, rfl, by omega, by omega, by omega, by omega, by omega, by omega, S0, HS⟩
      case round =>
        clear S0 HS
        obtain ⟨i, r, rfl, rfl, hai, hir, hrm, hrm2, hib, hg, S, HO⟩ := hrel
        by_cases hlt : i < r
        · have hltz : (i : Int) < (r : Int) := by omega
          obtain ⟨h, hh⟩ : ∃ q, q = (i + r) / 2 := ⟨_, rfl⟩
          have eh : ((i : Int) + (r : Int)) / 2 = (h : Int) := by omega
          have h1 : i ≤ h := by omega
          have h2 : h < r := by omega
          have HH := Lib.hid hh; clear hh
          obtain ⟨pN, hpN⟩ : ∃ q, q = mid + m - 1 - h := ⟨_, rfl⟩
          have ep : (mid : Int) + (m : Int) - 1 - (h : Int) = (pN : Int) := by omega
          have rp : IntKind.i64.wrap ((mid : Int) + (m : Int) - 1 - (h : Int)) = (pN : Int) := by rw [IntKind.wrap_i64]; omega
          have rp2 : IntKind.i64.wrap (pN : Int) = (pN : Int) := by rw [IntKind.wrap_i64]; omega
          have hpn : pN < n := by omega
          have pa : (0 : Int) ≤ (h : Int) := by omega
          have ba : (h : Int) < (n : Int) := by omega
          have pc : (0 : Int) ≤ (pN : Int) := by omega
          have bc : (pN : Int) < (n : Int) := by omega
          have dx := S.out.dom pN hpn
          have dy := S.out.dom h (by omega)
          obtain ⟨x, hx⟩ : ∃ x, x = d[pN]! := ⟨_, rfl⟩
          obtain ⟨y, hy⟩ : ∃ x, x = d[h]! := ⟨_, rfl⟩
          have la := S.out.cl pN hpn
          have lb := S.out.cl h (by omega)
          rw [← hx] at la
          rw [← hy] at lb
          have hcc := S.out.cmp HC.out x y (by rw [hx]; exact dx) (by rw [hy]; exact dy)
          have HP : Hid (St.p3 (ltc cf) d (mid + m - 1) h = !decide (cf x y < 0)) := by show _ = _; rw [hx, hy, hpN]; rfl
          clear hx hy dx dy hpN
          cases hd : decide (cf x y < 0) with
          | false =>
            have hv : ¬ cf x y < 0 := of_decide_eq_false hd
            have HB := Lib.hid (bs_yes (St.p3 (ltc cf) d (mid + m - 1)) i r h HH.out hlt (by rw [HP.out, hd]; rfl))
            go_wp2_with fail
            go_quiet_grown (first | (go_at_fn g; refine Calls.grown_of (hcc _ _)))
            have S2 : Hid (SV blk off n dom w0 d (grow (wr.drewN nq) osq)) := S.out.more ⟨nq, osq, rfl⟩
            clear la lb hcc S
            generalize grow (wr.drewN nq) osq = w2 at S2 ⊢
            clear nq osq
            clear ep rp rp2
            go_wp2
            go_roundg (r - (h + 1))
            case measure => omega
            case rel => exact ⟨h + 1, r, by go_num, rfl, by omega, by omega, by omega, by omega, by omega, by omega, S2, by show _ = _; rw [← HB.out]; exact HO.out⟩
          | true =>
            have hv : cf x y < 0 := of_decide_eq_true hd
            have HB := Lib.hid (bs_no (St.p3 (ltc cf) d (mid + m - 1)) i r h HH.out hlt (by rw [HP.out, hd]; rfl))
            go_wp2_with fail
            go_quiet_grown (first | (go_at_fn g; refine Calls.grown_of (hcc _ _)))
            have S2 : Hid (SV blk off n dom w0 d (grow (wr.drewN nq) osq)) := S.out.more ⟨nq, osq, rfl⟩
            clear la lb hcc S
            generalize grow (wr.drewN nq) osq = w2 at S2 ⊢
            clear nq osq
            clear ep rp rp2
            go_wp2
            go_roundg (h - i)
            case measure => omega
            case rel => exact ⟨i, h, rfl, by go_num, by omega, by omega, by omega, by omega, by omega, by omega, S2, by show _ = _; rw [← HB.out]; exact HO.out⟩
        · have hltz : ¬ (i : Int) < (r : Int) := by omega
          obtain ⟨e, he⟩ : ∃ q, q = mid + m - i := ⟨_, rfl⟩
          have ee : (mid : Int) + (m : Int) - (i : Int) = (e : Int) := by omega
          have HF : Hid (St.symF (ltc cf) (f + 1) d a m b = smTail (ltc cf) f d a m b mid i e) :=
            symF_gen (ltc cf) f d a m b mid i e g1 g2 HMid.out (by rw [← HO.out, bs_end _ _ _ hlt]) he
          have he1 : e + i = mid + m := by omega
          have HE := Lib.hid he1
          have he2 : e + i ≤ mid + m := by omega
          have he3 : mid + m ≤ e + i := by omega
          clear he he1 HO hlt
          by_cases hA : i < m <;> by_cases hB : i < mid <;> by_cases hC : a < i <;> by_cases hD : e < b
          all_goals (have HQ := Lib.hid (And.intro hA (And.intro hB (And.intro hC hD))))
          all_goals
            (go_wp2_with (first
              | (go_at_call 217; refine (rotate_any blk off n cap dom w0 d _ i m e _ S.out hn (by omega) (by omega) (by omega)).mono ?_; rintro e1 w1 ⟨rfl, hs1⟩; have S := Lib.hid hs1; clear hs1)
              | (go_at_call_of 200 (Value.int IntKind.i64 (b : Int)); refine (IH.out _ mid e b _ S.out (by omega) (by omega) (by omega) (by omega)).mono ?_; rintro e1 w1 ⟨rfl, hs1⟩; have S := Lib.hid hs1; clear hs1)
              | (go_at_call_of 200 (Value.int IntKind.i64 (a : Int)); refine (IH.out _ a i mid _ S.out (by omega) (by omega) (by omega) (by omega)).mono ?_; rintro e1 w1 ⟨rfl, hs1⟩; have S := Lib.hid hs1; clear hs1)))
          all_goals go_end0
          all_goals
            (refine ⟨rfl, ?_⟩
             obtain ⟨kA, kB, kC, kD⟩ := HQ.out
             have S1 := S.out
             rw [HF.out]
             simp only [smTail, kA, kB, kC, kD, and_self, and_true, and_false, if_true, if_false]
             exact S1)
end Go.Proofs.YtekejcnphmnidaaGreatDoor

/- StStable: slices stableCmpFunc and SortStableFunc: contracts stable_any, sortStable_any.
-/
namespace Go.Proofs.YtekejcnphmnidaaGreatDoor
open Go.RowKit Go.Sort

theorem blocks_go (lt : Int → Int → Bool) (f a n : Nat) (d : Array Int) (hn : d.size = n) (h : a + 20 ≤ n) : St.blocks lt (f + 1) a d = St.blocks lt f (a + 20) (insertionSort lt d a (a + 20)) := by
  conv => lhs; unfold St.blocks
  rw [if_pos (by omega)]
theorem blocks_end (lt : Int → Int → Bool) (f a n : Nat) (d : Array Int) (hn : d.size = n) (h : ¬ a + 20 ≤ n) : St.blocks lt f a d = insertionSort lt d a n := by
  subst hn
  cases f with
  | zero => rfl
  | succ f => conv => lhs; unfold St.blocks
              rw [if_neg h]
theorem pairs_go (lt : Int → Int → Bool) (z f a n : Nat) (d : Array Int) (hn : d.size = n) (h : a + 2 * z ≤ n) : St.pairs lt z (f + 1) a d = St.pairs lt z f (a + 2 * z) (St.symF lt n d a (a + z) (a + 2 * z)) := by
  subst hn
  conv => lhs; unfold St.pairs
  rw [if_pos h]
theorem pairs_last (lt : Int → Int → Bool) (z f a n : Nat) (d : Array Int) (hn : d.size = n) (h : ¬ a + 2 * z ≤ n) (h2 : a + z < n) : St.pairs lt z (f + 1) a d = St.symF lt n d a (a + z) n := by
  subst hn
  conv => lhs; unfold St.pairs
  rw [if_neg h, if_pos h2]
theorem pairs_end (lt : Int → Int → Bool) (z f a n : Nat) (d : Array Int) (hn : d.size = n) (h : ¬ a + 2 * z ≤ n) (h2 : ¬ a + z < n) : St.pairs lt z (f + 1) a d = d := by
  subst hn
  conv => lhs; unfold St.pairs
  rw [if_neg h, if_neg h2]
theorem merges_go (lt : Int → Int → Bool) (f z n : Nat) (d : Array Int) (hn : d.size = n) (h : z < n) : St.merges lt (f + 1) z d = St.merges lt f (2 * z) (St.pairs lt z (n + 1) 0 d) := by
  subst hn
  conv => lhs; unfold St.merges
  rw [if_pos h]
theorem merges_end (lt : Int → Int → Bool) (f z n : Nat) (d : Array Int) (hn : d.size = n) (h : ¬ z < n) : St.merges lt f z d = d := by
  subst hn
  cases f with
  | zero => rfl
  | succ f => conv => lhs; unfold St.merges
              rw [if_neg h]

set_option maxHeartbeats 16000000 in
set_option maxRecDepth 1000000 in
theorem stable_any (g : Nat) (cb : Array Value) (cf : Int → Int → Int) (eg : ∀ args w, (callFunc g args).run Tryz.prog w = .ok (.enter g args) w) (blk off n cap : Nat) (dom : Int → Prop) (w0 : World) (hc : CmpOk g cb cf dom blk w0) (hn : n < 1152921504606846976)
    (d : Array Int) (w : World) (S : SV blk off n dom w0 d w) :
    Calls Tryz.prog 141 #[.slice (some ⟨blk, off, none⟩) n cap, .int .i64 n, .func (.func g) #[] cb] w fun e w' => e = .returned (.tuple #[]) ∧ SV blk off n dom w0 (St.stable (ltc cf) d) w' := by
  have hn2 : n < 4611686018427387904 := by omega
  have mixed := mixed
  have HC := Lib.hid hc; clear hc
  have S0 := Lib.hid S; clear S
  have HST : Hid (St.stable (ltc cf) d = St.merges (ltc cf) n 20 (St.blocks (ltc cf) n 0 d)) := by show _ = _; unfold St.stable; rw [S0.out.size]
  go_enter Tryz.func141, Tryz.ntmps141
  go_wp2
  go_loopg [7, 8] n (fun gg va vb wr => ∃ (a f : Nat) (dk : Array Int), va = .int .i64 a ∧ vb = .int .i64 (a + 20 : Int) ∧ a ≤ n ∧ n - a ≤ gg ∧ n ≤ a + f ∧ Hid (SV blk off n dom w0 dk wr) ∧ Hid (St.blocks (ltc cf) f a dk = St.blocks (ltc cf) n 0 d))
  case atStart => exact ⟨0, n, d, rfl, rfl, by omega, by omega, by omega, S0, rfl⟩
  case round =>
    clear S0
    obtain ⟨a, f, dk, rfl, rfl, han, hg, hf, S, HO⟩ := hrel
    by_cases hlt : a + 20 ≤ n
    · have hltz : (a : Int) + 20 ≤ (n : Int) := by omega
      obtain ⟨f, rfl⟩ : ∃ q, f = q + 1 := ⟨f - 1, by omega⟩
      go_wp2_with fail
      rw [show (a : Int) + 20 = ((a + 20 : Nat) : Int) from by omega]
      refine (insertion_any blk off n cap dom w0 dk g cb cf a (a + 20) _ eg HC.out S.out hn2 (by omega) hlt).mono ?_
      rintro e w1 ⟨rfl, hs⟩
      have S1 := Lib.hid hs; clear hs
      have HO1 := Lib.hid ((blocks_go (ltc cf) f a n dk S.out.size hlt).symm.trans HO.out)
      clear S HO
      go_wp2
      go_roundg (n - (a + 20))
      case measure => omega
      case rel => exact ⟨a + 20, f, _, by go_num, by go_num, by omega, by omega, by omega, S1, HO1⟩
    · have hltz : ¬ (a : Int) + 20 ≤ (n : Int) := by omega
      go_wp2_with fail
      refine (insertion_any blk off n cap dom w0 dk g cb cf a n _ eg HC.out S.out hn2 (by omega) (Nat.le_refl _)).mono ?_
      rintro e w1 ⟨rfl, hs⟩
      rw [← blocks_end (ltc cf) f a n dk S.out.size hlt, HO.out] at hs
      have S1 := Lib.hid hs; clear hs S HO
      go_wp2
      go_loopg [6, 7, 8, 9] n (fun gg vz va vb vm wr => ∃ (z f : Nat) (dk : Array Int), vz = .int .i64 z ∧ 20 ≤ z ∧ z ≤ 2 * n + 20 ∧ n - z ≤ gg ∧ n ≤ z + f ∧ Hid (SV blk off n dom w0 dk wr) ∧ Hid (St.merges (ltc cf) f z dk = St.stable (ltc cf) d))
      case atStart => exact ⟨20, n, _, rfl, by omega, by omega, by omega, by omega, S1, HST.out.symm⟩
      case round =>
        clear S1 HST
        obtain ⟨z, f, dk, rfl, hz, hz2, hg, hf, S, HO⟩ := hrel
        by_cases hlt : z < n
        · have hltz : (z : Int) < (n : Int) := by omega
          obtain ⟨f, rfl⟩ : ∃ q, f = q + 1 := ⟨f - 1, by omega⟩
          have HO1 := Lib.hid ((merges_go (ltc cf) f z n dk S.out.size hlt).symm.trans HO.out)
          clear HO
          go_wp2
          go_loopg [7, 8] n (fun gg va vb wr => ∃ (a f2 : Nat) (dj : Array Int), va = .int .i64 a ∧ vb = .int .i64 (a + 2 * z : Int) ∧ a ≤ n ∧ n - a ≤ gg ∧ n + 1 ≤ a + f2 ∧ Hid (SV blk off n dom w0 dj wr) ∧ Hid (St.pairs (ltc cf) z f2 a dj = St.pairs (ltc cf) z (n + 1) 0 dk))
          case atStart => exact ⟨0, n + 1, dk, rfl, by go_num, by omega, by omega, by omega, S, rfl⟩
          case round =>
            clear S
            obtain ⟨a, f2, dj, rfl, rfl, han, hg2, hf2, S, HP⟩ := hrel
            obtain ⟨f2, rfl⟩ : ∃ q, f2 = q + 1 := ⟨f2 - 1, by omega⟩
            by_cases hp : a + 2 * z ≤ n
            · have hpz : (a : Int) + 2 * (z : Int) ≤ (n : Int) := by omega
              have HP1 := Lib.hid ((pairs_go (ltc cf) z f2 a n dj S.out.size hp).symm.trans HP.out)
              go_wp2_with fail
              rw [show (a : Int) + (z : Int) = ((a + z : Nat) : Int) from by omega, show (a : Int) + 2 * (z : Int) = ((a + 2 * z : Nat) : Int) from by omega]
              refine (symMerge_any g cb cf eg blk off n cap dom w0 HC.out hn2 n dj a (a + z) (a + 2 * z) _ S.out (by omega) (by omega) (by omega) hp).mono ?_
              rintro e w2 ⟨rfl, hs⟩
              have S2 := Lib.hid hs; clear hs S HP
              go_wp2
              go_roundg (n - (a + 2 * z))
              case measure => omega
              case rel => exact ⟨a + 2 * z, f2, _, by go_num, by go_num, by omega, by omega, by omega, S2, HP1⟩
            · have hpz : ¬ (a : Int) + 2 * (z : Int) ≤ (n : Int) := by omega
              by_cases hl : a + z < n
              · have hlz : (a : Int) + (z : Int) < (n : Int) := by omega
                have HP1 := Lib.hid ((pairs_last (ltc cf) z f2 a n dj S.out.size hp hl).symm.trans HP.out)
                go_wp2_with fail
                rw [show (a : Int) + (z : Int) = ((a + z : Nat) : Int) from by omega]
                refine (symMerge_any g cb cf eg blk off n cap dom w0 HC.out hn2 n dj a (a + z) n _ S.out (by omega) (by omega) hl (Nat.le_refl _)).mono ?_
                rintro e w2 ⟨rfl, hs⟩
                rw [HP1.out] at hs
                have S2 := Lib.hid hs; clear hs S HP HP1
                go_wp2
                go_roundg (n - 2 * z)
                case measure => omega
                case rel => exact ⟨2 * z, f, _, by go_num, by omega, by omega, by omega, by omega, S2, HO1⟩
              · have hlz : ¬ (a : Int) + (z : Int) < (n : Int) := by omega
                have hs := S.out
                rw [← pairs_end (ltc cf) z f2 a n dj S.out.size hp hl, HP.out] at hs
                have S2 := Lib.hid hs; clear hs S HP
                go_wp2
                go_roundg (n - 2 * z)
                case measure => omega
                case rel => exact ⟨2 * z, f, _, by go_num, by omega, by omega, by omega, by omega, S2, HO1⟩
        · have hltz : ¬ (z : Int) < (n : Int) := by omega
          have hs := S.out
          rw [← merges_end (ltc cf) f z n dk S.out.size hlt, HO.out] at hs
          have S2 := Lib.hid hs; clear hs S HO
          go_wp2
          go_end0
          exact ⟨rfl, S2.out⟩

theorem sortStable_any (g : Nat) (cb : Array Value) (cf : Int → Int → Int) (eg : ∀ args w, (callFunc g args).run Tryz.prog w = .ok (.enter g args) w) (blk off n cap : Nat) (dom : Int → Prop) (w0 : World) (hc : CmpOk g cb cf dom blk w0) (hn : n < 1152921504606846976)
    (d : Array Int) (w : World) (S : SV blk off n dom w0 d w) :
    Calls Tryz.prog 54 #[.slice (some ⟨blk, off, none⟩) n cap, .func (.func g) #[] cb] w fun e w' => e = .returned (.tuple #[]) ∧ SV blk off n dom w0 (St.stable (ltc cf) d) w' := by
  have HC := Lib.hid hc; clear hc
  have S0 := Lib.hid S; clear S
  go_enter Tryz.func54, Tryz.ntmps54
  go_wp2_with fail
  refine (stable_any g cb cf eg blk off n cap dom w0 HC.out hn d _ S0.out).mono ?_
  rintro e w1 ⟨rfl, hs⟩
  have S1 := Lib.hid hs; clear hs
  go_wp2
  go_end0
  exact ⟨rfl, S1.out⟩
end Go.Proofs.YtekejcnphmnidaaGreatDoor

/- StNil: slices.SortStableFunc on slices without cells.
-/
namespace Go.Proofs.YtekejcnphmnidaaGreatDoor
open Go.RowKit Go.Sort

set_option maxHeartbeats 1000000 in
set_option maxRecDepth 100000 in
theorem insertion_nil (fv : Value) (w : World) : Calls Tryz.prog 199 #[.slice none 0 0, .int .i64 0, .int .i64 0, fv] w fun e w' => e = .returned (.tuple #[]) ∧ w = w' := by
  go_enter Tryz.func199, Tryz.ntmps199
  go_wp2
  refine wp_loop_rounds 1 ?_
  rw [rounds_succ]
  go_wp2
  go_end0
  exact ⟨rfl, rfl⟩

set_option maxHeartbeats 1000000 in
set_option maxRecDepth 100000 in
theorem stable_nil (fv : Value) (w : World) : Calls Tryz.prog 141 #[.slice none 0 0, .int .i64 0, fv] w fun e w' => e = .returned (.tuple #[]) ∧ w = w' := by
  go_enter Tryz.func141, Tryz.ntmps141
  go_wp2_with fail
  refine wp_loop_rounds 1 ?_
  rw [rounds_succ]
  go_wp2_with (go_at_call 199; refine (insertion_nil _ _).mono ?_; rintro e w1 ⟨rfl, rfl⟩)
  refine wp_loop_rounds 1 ?_
  rw [rounds_succ]
  go_wp2
  go_end0
  exact ⟨rfl, rfl⟩

theorem sortStable_nil (fv : Value) (w : World) : Calls Tryz.prog 54 #[.slice none 0 0, fv] w fun e w' => e = .returned (.tuple #[]) ∧ w = w' := by
  go_enter Tryz.func54, Tryz.ntmps54
  go_wp2_with fail
  refine (stable_nil _ _).mono ?_
  rintro e w1 ⟨rfl, rfl⟩
  go_wp2
  go_end0
  exact ⟨rfl, rfl⟩
end Go.Proofs.YtekejcnphmnidaaGreatDoor

/- EvPick1: the comparison function handed to the sort in Pick: contract pick1_any.
-/
namespace Go.Proofs.YtekejcnphmnidaaGreatDoor
open Go.RowKit Go.Sort

set_option maxHeartbeats 1000000 in
theorem pick1_any (bc : Nat) (ab an : Option Addr) (lb cb ln cn : Nat) (bytes next : List Int) (x y : Int) (w : World) (HB : Ints w ab lb cb bytes) (HN : Ints w an ln cn next) (hl : ln = lb)
    (c0 : w.cell? ⟨bc, 0, none⟩ = some (.slice ab lb cb)) (c1 : w.cell? ⟨bc, 1, none⟩ = some (.slice an ln cn)) (c2 : w.cell? ⟨bc, 2, none⟩ = some (.func (.func 53) #[] #[]))
    (hx0 : 0 ≤ x) (hx1 : x < lb) (hy0 : 0 ≤ y) (hy1 : y < lb) :
    Calls Tryz.prog 55 #[.int .i64 x, .int .i64 y, .pointer (some ⟨bc, 0, none⟩)] w fun e w' => e = .returned (.int .i64 (Ev.far bytes next x y)) ∧ More w w' := by
  have HH := Lib.hid (And.intro HB (And.intro HN hl)); clear HB HN hl
  go_enter Tryz.func55, Tryz.ntmps55
  go_wp2_with (go_at_call 53; refine (far_any _ _ _ _ _ _ bytes next _ _ _ HH.out.1 HH.out.2.1 HH.out.2.2 hx0 hx1 hy0 hy1).mono ?_; rintro e w1 ⟨rfl, hm⟩; have HM := Lib.hid hm; clear hm)
  go_ret
  exact ⟨rfl, HM.out⟩
end Go.Proofs.YtekejcnphmnidaaGreatDoor

/- EvPick: the pick of the chapter 21: its world facts, the vocabulary of its post (PickPost).
-/
namespace Go.Proofs.YtekejcnphmnidaaGreatDoor
open Go.RowKit Go.Sort

/-- A result: nil, or a row of its own, as long as it is. -/
def NewRow (B : Nat) (a : Option Addr) (len cap : Nat) (w : World) : Prop :=
  (a = none ∧ len = 0 ∧ cap = 0) ∨ ∃ g, a = some ⟨g, 0, none⟩ ∧ B ≤ g ∧ g < w.heap.size ∧ cap = len ∧ ∀ i, i < cap → w.frozen? ⟨g, i, none⟩ = false ∧ ∃ u, w.cell? ⟨g, i, none⟩ = some u

def PickPost (w : World) (L : List Int) (E : Int) (e : Ending) (w' : World) : Prop :=
  ∃ a len cap, e = .returned (.tuple #[.slice a len cap, .int .i64 E]) ∧ Ints w' a len cap L ∧ Below w.heap.size w w' ∧ NewRow w.heap.size a len cap w'

theorem pick_err {w w' : World} {L : List Int} {E E' : Int} (hb : Below w.heap.size w w') (hL : L = []) (hE : E = E') : PickPost w L E (.returned (.tuple #[.slice none 0 0, .int .i64 E'])) w' :=
  ⟨none, 0, 0, by rw [hE], by rw [hL]; exact Ints.nil, hb, .inl ⟨rfl, rfl, rfl⟩⟩

theorem pickL_of_err {inn pin bytes next : List Int} {room need E : Int} (h : Ev.pickE inn pin bytes next room need = E) (hE : E ≠ 0) : Ev.pickL inn pin bytes next room need = [] := Ev.pickL_err (by omega)

theorem pickE_args {inn pin bytes next : List Int} {room need : Int} (h : Ev.argsB inn pin bytes next room need = false) : Ev.pickE inn pin bytes next room need = 1 := by
  unfold Ev.pickE; rw [h]; rfl

set_option maxHeartbeats 4000000 in
set_option maxRecDepth 100000 in
/-- The arguments are out of form. -/
theorem pick_bad (ai ap ab an : Option Addr) (li ci lp cp lb cb ln cn : Nat) (inn pin bytes next : List Int) (room need : Int) (w : World)
    (HI : Ints w ai li ci inn) (HP : Ints w ap lp cp pin) (HB : Ints w ab lb cb bytes) (HN : Ints w an ln cn next)
    (hr : -9223372036854775808 ≤ room ∧ room ≤ 9223372036854775807) (hd : -9223372036854775808 ≤ need ∧ need ≤ 9223372036854775807)
    (hbad : Ev.argsB inn pin bytes next room need = false) :
    Calls Tryz.prog 11 #[.agg #[.slice ai li ci, .slice ap lp cp, .int .i64 room], .slice ab lb cb, .slice an ln cn, .int .i64 need]
      w (PickPost w (Ev.pickL inn pin bytes next room need) (Ev.pickE inn pin bytes next room need)) := by
  have hE := pickE_args hbad
  have HE := Lib.hid hE
  have HL := Lib.hid (pickL_of_err hE (by omega))
  have KI := Lib.hid HI
  have KP := Lib.hid HP
  have KB := Lib.hid HB
  have hbl : (bytes.length : Int) = lb := by rw [HB.length]
  have hnl : (next.length : Int) = ln := by rw [HN.length]
  have hW2 : Ints (w.alloc (.cells #[.slice ai li ci, .slice ap lp cp, .int .i64 room] 29)) ab lb cb bytes := HB.alloc _
  clear HI HP HB HN hE
  unfold Ev.argsB at hbad
  rw [hbl] at hbad
  have HBad := Lib.hid hbad
  cases h1 : Ev.nodesB (lb : Int) [] inn with
  | false =>
    have H1 := Lib.hid h1; clear h1 hbad hbl hnl hW2
    go_enter Tryz.func11, Tryz.ntmps11
    go_wp2_with fail
    refine (nodes_any _ _ _ inn _ _ (KI.out.alloc _)).mono ?_
    rintro e w1 ⟨rfl, rfl⟩
    rw [H1.out]
    go_wp2
    go_ret2
    exact pick_err ((Below.refl _ _).alloc (Nat.le_refl _) _) HL.out HE.out
  | true =>
    have H1 := Lib.hid h1
    cases h2 : Ev.nodesB (lb : Int) [] pin with
    | false =>
      have H2 := Lib.hid h2; clear h1 h2 hbad hbl hnl hW2
      go_enter Tryz.func11, Tryz.ntmps11
      go_wp2_with fail
      refine (nodes_any _ _ _ inn _ _ (KI.out.alloc _)).mono ?_
      rintro e w1 ⟨rfl, rfl⟩
      rw [H1.out]
      go_wp2_with fail
      refine (nodes_any _ _ _ pin _ _ (KP.out.alloc _)).mono ?_
      rintro e w1 ⟨rfl, rfl⟩
      rw [H2.out]
      go_wp2
      go_ret2
      exact pick_err ((Below.refl _ _).alloc (Nat.le_refl _) _) HL.out HE.out
    | true =>
      have H2 := Lib.hid h2
      by_cases h3 : ln = lb
      · have e3 : ((ln : Int) != (lb : Int)) = false := by simp [h3]
        cases h4 : Ev.within bytes with
        | false =>
          have H4 := Lib.hid h4; clear h1 h2 h3 h4 hbad hbl hnl
          have KB2 := Lib.hid hW2; clear hW2
          go_enter Tryz.func11, Tryz.ntmps11
          go_wp2_with fail
          refine (nodes_any _ _ _ inn _ _ (KI.out.alloc _)).mono ?_
          rintro e w1 ⟨rfl, rfl⟩
          rw [H1.out]
          go_wp2_with fail
          refine (nodes_any _ _ _ pin _ _ (KP.out.alloc _)).mono ?_
          rintro e w1 ⟨rfl, rfl⟩
          rw [H2.out]
          go_wp2_with fail
          refine (within_any _ _ _ bytes _ KB2.out).mono ?_
          rintro e w1 ⟨rfl, hb⟩
          have HBw := Lib.hid hb; clear hb
          rw [H4.out]
          go_wp2
          go_ret2
          exact pick_err (((Below.refl _ _).alloc (Nat.le_refl _) _).trans (HBw.out.mono (by simp))) HL.out HE.out
        | true =>
          have h5 : Ev.within [room, need] = false := by
            rw [h1, h2, h4] at hbad
            have hlen : next.length = bytes.length := by omega
            simpa [hlen] using hbad
          have H4 := Lib.hid h4
          have H5 := Lib.hid h5; clear h1 h2 h3 h4 h5 hbad hbl hnl
          have KB2 := Lib.hid hW2; clear hW2
          go_enter Tryz.func11, Tryz.ntmps11
          go_wp2_with fail
          refine (nodes_any _ _ _ inn _ _ (KI.out.alloc _)).mono ?_
          rintro e w1 ⟨rfl, rfl⟩
          rw [H1.out]
          go_wp2_with fail
          refine (nodes_any _ _ _ pin _ _ (KP.out.alloc _)).mono ?_
          rintro e w1 ⟨rfl, rfl⟩
          rw [H2.out]
          go_wp2_with fail
          refine (within_any _ _ _ bytes _ KB2.out).mono ?_
          rintro e w1 ⟨rfl, hb⟩
          have hc2 : w1.cell? ⟨w.heap.size, 2, none⟩ = some (.int .i64 room) := by
            rw [hb.cell (p := ⟨w.heap.size, 2, none⟩) (by simp), World.cell?_alloc_at _ _ _ _ rfl]; rfl
          have HBw := Lib.hid hb; clear hb
          rw [H4.out]
          go_wp2_with fail
          refine (within_any _ _ _ [room, need] _ (ints_two w1 room need hr hd)).mono ?_
          rintro e w2 ⟨rfl, hb2⟩
          have HBw2 := Lib.hid hb2; clear hb2
          rw [H5.out]
          go_wp2
          go_ret2
          exact pick_err (((Below.refl _ _).alloc (Nat.le_refl _) _).trans ((HBw.out.mono (by simp)).trans (((Below.refl _ _).alloc (by have := HBw.out.size; simp at this; omega) _).trans (HBw2.out.mono (by have := HBw.out.size; simp at this ⊢; omega))))) HL.out HE.out
      · have e3 : ((ln : Int) != (lb : Int)) = true := by simp; omega
        clear h1 h2 h3 hbad hbl hnl hW2
        go_enter Tryz.func11, Tryz.ntmps11
        go_wp2_with fail
        refine (nodes_any _ _ _ inn _ _ (KI.out.alloc _)).mono ?_
        rintro e w1 ⟨rfl, rfl⟩
        rw [H1.out]
        go_wp2_with fail
        refine (nodes_any _ _ _ pin _ _ (KP.out.alloc _)).mono ?_
        rintro e w1 ⟨rfl, rfl⟩
        rw [H2.out]
        go_wp2
        go_ret2
        exact pick_err ((Below.refl _ _).alloc (Nat.le_refl _) _) HL.out HE.out
end Go.Proofs.YtekejcnphmnidaaGreatDoor

/- EvPick2: drydockref21 Pick: contract pick_any.
-/
namespace Go.Proofs.YtekejcnphmnidaaGreatDoor
open Go.RowKit Go.Sort

set_option maxHeartbeats 8000000 in
set_option maxRecDepth 100000 in
/-- The arguments are in form. -/
theorem pick_good (ai ap ab an : Option Addr) (li ci lp cp lb cb ln cn : Nat) (inn pin bytes next : List Int) (room need : Int) (w : World)
    (HI : Ints w ai li ci inn) (HP : Ints w ap lp cp pin) (HB : Ints w ab lb cb bytes) (HN : Ints w an ln cn next) (hli : li ≤ 1000000)
    (hgood : Ev.argsB inn pin bytes next room need = true) :
    Calls Tryz.prog 11 #[.agg #[.slice ai li ci, .slice ap lp cp, .int .i64 room], .slice ab lb cb, .slice an ln cn, .int .i64 need]
      w (PickPost w (Ev.pickL inn pin bytes next room need) (Ev.pickE inn pin bytes next room need)) := by
  have HG := Lib.hid hgood
  obtain ⟨h1, h2, h3, h4, hrm, hnd⟩ := Ev.args_parts hgood
  have h5 : Ev.within [room, need] = true := by simp [Ev.within, hrm, hnd]
  rw [HB.length] at h1 h2
  have hnb : ln = lb := by rw [← HB.length, ← HN.length]; exact h3
  subst hnb
  have e3 : ((ln : Int) != (ln : Int)) = false := by simp
  have KI := Lib.hid HI
  have KP := Lib.hid HP
  have KB := Lib.hid HB
  have KN := Lib.hid HN
  have KW := Lib.hid h4
  have H1 := Lib.hid h1
  have H2 := Lib.hid h2
  have H5 := Lib.hid h5
  obtain ⟨hr0, hr1⟩ := hrm
  obtain ⟨hd0, hd1⟩ := hnd
  have KB2 := Lib.hid (HB.alloc (.cells #[.slice ai li ci, .slice ap lp cp, .int .i64 room] 29))
  clear HI HP HB HN h1 h2 h3 h4 h5 hgood
  go_enter Tryz.func11, Tryz.ntmps11
  go_wp2_with fail
  refine (nodes_any _ _ _ inn _ _ (KI.out.alloc _)).mono ?_
  rintro e w1 ⟨rfl, rfl⟩
  rw [H1.out]
  go_wp2_with fail
  refine (nodes_any _ _ _ pin _ _ (KP.out.alloc _)).mono ?_
  rintro e w1 ⟨rfl, rfl⟩
  rw [H2.out]
  go_wp2_with fail
  refine (within_any _ _ _ bytes _ KB2.out).mono ?_
  rintro e w1 ⟨rfl, hb⟩
  have c0 : w1.cell? ⟨w.heap.size, 0, none⟩ = some (.slice ai li ci) := by
    rw [hb.cell (p := ⟨w.heap.size, 0, none⟩) (by simp), World.cell?_alloc_at _ _ _ _ rfl]; rfl
  have c1 : w1.cell? ⟨w.heap.size, 1, none⟩ = some (.slice ap lp cp) := by
    rw [hb.cell (p := ⟨w.heap.size, 1, none⟩) (by simp), World.cell?_alloc_at _ _ _ _ rfl]; rfl
  have c2 : w1.cell? ⟨w.heap.size, 2, none⟩ = some (.int .i64 room) := by
    rw [hb.cell (p := ⟨w.heap.size, 2, none⟩) (by simp), World.cell?_alloc_at _ _ _ _ rfl]; rfl
  have hs1 : w.heap.size < w1.heap.size := by have := hb.size; simp at this; omega
  have HW1 : Hid (Below w.heap.size w w1) := ((Below.refl _ _).alloc (Nat.le_refl _) _).trans (hb.mono (by simp))
  clear hb
  rw [KW.out]
  go_wp2_with fail
  refine (within_any _ _ _ [room, need] _ (ints_two w1 room need ⟨by omega, by omega⟩ ⟨by omega, by omega⟩)).mono ?_
  rintro e w2 ⟨rfl, hb⟩
  rw [H5.out]
  have hb' : Below w1.heap.size w1 w2 := ((Below.refl _ _).alloc (Nat.le_refl _) _).trans (hb.mono (by simp))
  have d0 := (hb'.cell (p := ⟨w.heap.size, 0, none⟩) hs1).trans c0
  have d1 := (hb'.cell (p := ⟨w.heap.size, 1, none⟩) hs1).trans c1
  have d2 := (hb'.cell (p := ⟨w.heap.size, 2, none⟩) hs1).trans c2
  have hs2 : w.heap.size < w2.heap.size := Nat.lt_of_lt_of_le hs1 hb'.size
  have HW2 : Hid (Below w.heap.size w w2) := HW1.out.trans (hb'.mono (by omega))
  clear c0 c1 c2 hb hb' hs1 HW1 KB2
  go_wp2
  go_loopg [10, 11, 12, 14, 57] li (fun gg u p fr _ i wr => ∃ k : Nat, k ≤ li ∧ li - k ≤ gg ∧ i = .int .i64 k ∧ u = .int .i64 (need + Ev.sumB bytes (inn.take k)) ∧ p = .int .i64 (need + Ev.sumB bytes (Ev.pins pin (inn.take k))) ∧
      Hid (Own w2.heap.size wr fr (Ev.frees pin (inn.take k))) ∧ Hid (Below w2.heap.size w2 wr))
  case atStart => exact ⟨0, Nat.zero_le _, by omega, rfl, by simp [Ev.sumB], by simp [Ev.sumB, Ev.pins], Own.nil _ _, Below.refl _ _⟩
  case round =>
    obtain ⟨k, hk, hg, rfl, rfl, rfl, HO, HWr⟩ := hrel
    have r0 := (HWr.out.cell (p := ⟨w.heap.size, 0, none⟩) hs2).trans d0
    have r1 := (HWr.out.cell (p := ⟨w.heap.size, 1, none⟩) hs2).trans d1
    have r2 := (HWr.out.cell (p := ⟨w.heap.size, 2, none⟩) hs2).trans d2
    have KIr := Lib.hid ((KI.out.below (HW2.out)).below HWr.out)
    have KPr := Lib.hid ((KP.out.below (HW2.out)).below HWr.out)
    have KBr := Lib.hid ((KB.out.below (HW2.out)).below HWr.out)
    have hsum := Ev.sumB_bounds bytes (inn.take k) KW.out (fun v hv => by rw [KB.out.length]; exact Ev.nodesB_mem H1.out v (List.mem_of_mem_take hv))
    have hsum2 := Ev.sumB_bounds bytes (Ev.pins pin (inn.take k)) KW.out (fun v hv => by rw [KB.out.length]; exact Ev.nodesB_mem H1.out v (List.mem_of_mem_take (List.mem_filter.1 hv).1))
    have hlen1 : (inn.take k).length ≤ k := List.length_take_le _ _
    have hlen2 := Ev.pins_le pin inn k
    have hlen3 := Ev.frees_le pin inn k
    obtain ⟨hs0, hs1⟩ := hsum
    obtain ⟨hp0, hp1⟩ := hsum2
    by_cases hlt : k < li
    · have hkl : k < inn.length := by rw [KI.out.length]; exact hlt
      obtain ⟨hv0, hv1⟩ := Ev.nodesB_mem H1.out (nth inn k) (nth_mem inn k hkl)
      obtain ⟨bi, oi, rfl, _, hci⟩ := KIr.out.at_ (by omega)
      have hck := hci k hlt
      clear hci
      obtain ⟨bb, ob, rfl, _, hcb⟩ := KBr.out.get hv0 hv1
      obtain ⟨hw0, hw1⟩ := Ev.at_within bytes KW.out (nth inn k) hv0 (by rw [KB.out.length]; exact hv1)
      have HS := Lib.hid (Ev.sumB_snoc bytes inn k hkl)
      cases hh : hasB pin (nth inn k) with
      | true =>
        have HF := Lib.hid (Ev.frees_hit pin inn k hkl hh)
        have HH := Lib.hid hh; clear hh
        have HP2 : Hid (Ev.sumB bytes (Ev.pins pin (inn.take (k + 1))) = Ev.sumB bytes (Ev.pins pin (inn.take k)) + Ev.at_ bytes (nth inn k)) := by
          show _ = _; rw [HF.out.2, Ev.sumB_append]; simp [Ev.sumB]
        go_wp2_with (go_at_call 52; refine (contains_any _ _ _ pin _ _ KPr.out).mono ?_; rintro e w3 ⟨rfl, rfl⟩; rw [HH.out])
        go_roundg (li - (k + 1))
        case measure => omega
        case rel => exact ⟨k + 1, by omega, by omega, by go_num, by rw [HS.out, ← Int.add_assoc], by rw [HP2.out, ← Int.add_assoc], by rw [HF.out.1]; exact HO, HWr⟩
      | false =>
        have HF := Lib.hid (Ev.frees_miss pin inn k hkl hh)
        have HH := Lib.hid hh; clear hh
        go_wp2_with (first
          | (go_at_call 52; refine (contains_any _ _ _ pin _ _ KPr.out).mono ?_; rintro e w3 ⟨rfl, rfl⟩; rw [HH.out])
          | (at_builtin; go_must (refine wpList_app1 _ rfl _ _ rfl w2.heap.size _ _ _ HO.out rfl rfl HWr.out.size ?c1 ?_)))
        case c1 => omega
        intro v' w3 hown' hbel hgrow
        have HO' := Lib.hid hown'
        have HW3 := Lib.hid (HWr.out.trans hbel)
        clear hown' hbel hgrow
        go_wp2
        go_roundg (li - (k + 1))
        case measure => omega
        case rel => exact ⟨k + 1, by omega, by omega, by go_num, by rw [HS.out, ← Int.add_assoc], by rw [HF.out.2], by rw [HF.out.1]; exact HO', HW3⟩
    · have hkl : inn.length ≤ k := by rw [KI.out.length]; omega
      have HT := Lib.hid (List.take_of_length_le hkl)
      rw [HT.out] at HO hs0 hs1 hp0 hp1 hlen1 hlen2 hlen3
      rw [HT.out]
      have HE : Hid (Ev.pickE inn pin bytes next room need = if room < need + Ev.sumB bytes (Ev.pins pin inn) then 13 else 0) := by
        show _ = _; unfold Ev.pickE; rw [if_pos HG.out]
      clear hg
      by_cases hroom : room < need + Ev.sumB bytes (Ev.pins pin inn)
      · have hE : Ev.pickE inn pin bytes next room need = 13 := by rw [HE.out, if_pos hroom]
        have HL := Lib.hid (pickL_of_err hE (by omega))
        have HE2 := Lib.hid hE; clear hE
        have hrd : decide (need + Ev.sumB bytes (Ev.pins pin inn) > room) = true := decide_eq_true hroom
        go_wp2
        go_ret2
        exact pick_err (HW2.out.trans (HWr.out.mono (by omega))) HL.out HE2.out
      · have hE : Ev.pickE inn pin bytes next room need = 0 := by rw [HE.out, if_neg hroom]
        have HE2 := Lib.hid hE; clear hE
        have hrd : decide (need + Ev.sumB bytes (Ev.pins pin inn) > room) = false := decide_eq_false hroom
        have hwfF : ∀ n ∈ Ev.frees pin inn, -9223372036854775808 ≤ n ∧ n ≤ 9223372036854775807 := fun n hn => KI.out.wf n (List.mem_filter.1 hn).1
        obtain ⟨af, lf, cf, rfl, HFi, hcase⟩ := HO.out.ints hwfF
        have hlf : lf ≤ li := by
          rw [← HFi.length, ← KI.out.length]; exact List.length_filter_le _ _
        have HFI := Lib.hid HFi
        clear HFi hwfF
        rcases hcase with ⟨rfl, rfl, rfl⟩ | ⟨gf, rfl, hgf, hgl, hgc⟩
        · have HLn : Hid (Ev.pickL inn pin bytes next room need = []) := by
            show _ = _
            have : Ev.frees pin inn = [] := List.eq_nil_of_length_eq_zero HFI.out.length
            unfold Ev.pickL
            rw [if_pos HE2.out, this, Ev.greedy_nil]
          go_wp2_with (go_at_call 54; refine (sortStable_nil _ _).mono ?_; rintro e w3 ⟨rfl, rfl⟩)
          refine wp_loop_rounds 1 ?_
          rw [rounds_succ]
          go_wp2_with (go_at_call 56; refine (clip_any none 0 0 _ (by omega) (by omega) (fun _ => ⟨rfl, rfl⟩)).mono ?_; rintro e w3 ⟨rfl, rfl⟩)
          go_ret2
          exact ⟨none, 0, 0, by rw [HE2.out]; rfl, by rw [HLn.out]; exact Ints.nil, (HW2.out.trans (HWr.out.mono (by omega))).trans ((Below.refl _ _).alloc (by have := HWr.out.size; omega) _), .inl ⟨rfl, rfl, rfl⟩⟩
        · go_wp2_with fail
          have hwr := HWr.out.size
          have hbw : Below w.heap.size w wr := HW2.out.trans (HWr.out.mono (by omega))
          have hbw3 : Below w.heap.size w (wr.alloc (.cells #[.slice ab ln cb, .slice an ln cn, .func (.func 53) #[] #[]] 90)) := hbw.trans ((Below.refl _ _).alloc (by omega) _)
          have hal : Below wr.heap.size wr (wr.alloc (.cells #[.slice ab ln cb, .slice an ln cn, .func (.func 53) #[] #[]] 90)) := (Below.refl _ _).alloc (Nat.le_refl _) _
          have q0 : (wr.alloc (.cells #[.slice ab ln cb, .slice an ln cn, .func (.func 53) #[] #[]] 90)).cell? ⟨wr.heap.size, 0, none⟩ = some (.slice ab ln cb) := by rw [World.cell?_alloc_at _ _ _ _ rfl]; rfl
          have q1 : (wr.alloc (.cells #[.slice ab ln cb, .slice an ln cn, .func (.func 53) #[] #[]] 90)).cell? ⟨wr.heap.size, 1, none⟩ = some (.slice an ln cn) := by rw [World.cell?_alloc_at _ _ _ _ rfl]; rfl
          have q2 : (wr.alloc (.cells #[.slice ab ln cb, .slice an ln cn, .func (.func 53) #[] #[]] 90)).cell? ⟨wr.heap.size, 2, none⟩ = some (.func (.func 53) #[] #[]) := by rw [World.cell?_alloc_at _ _ _ _ rfl]; rfl
          have t2 := (hal.cell (p := ⟨w.heap.size, 2, none⟩) (by show w.heap.size < wr.heap.size; omega)).trans r2
          have hz3 : (wr.alloc (.cells #[.slice ab ln cb, .slice an ln cn, .func (.func 53) #[] #[]] 90)).heap.size = wr.heap.size + 1 := by simp
          have KB3 := Lib.hid (KB.out.below hbw3)
          have KN3 := Lib.hid (KN.out.below hbw3)
          have HF3 := Lib.hid (HFI.out.below hal)
          have hfz : ∀ i, i < cf → (wr.alloc (.cells #[.slice ab ln cb, .slice an ln cn, .func (.func 53) #[] #[]] 90)).frozen? ⟨gf, i, none⟩ = false := fun i hi => (hal.frozen (p := ⟨gf, i, none⟩) hgl).trans (hgc i hi).1
          have hin : ∀ v ∈ Ev.frees pin inn, 0 ≤ v ∧ v < (ln : Int) := fun v hv => Ev.nodesB_mem H1.out v (List.mem_filter.1 hv).1
          have HS3 : Hid (SV gf 0 lf (fun x => 0 ≤ x ∧ x < (ln : Int)) (wr.alloc (.cells #[.slice ab ln cb, .slice an ln cn, .func (.func 53) #[] #[]] 90)) (Ev.frees pin inn).toArray (wr.alloc (.cells #[.slice ab ln cb, .slice an ln cn, .func (.func 53) #[] #[]] 90))) :=
            sv_start HF3.out (by rw [hz3]; omega) hfz hin
          have hlb : ∀ {a : Option Addr} {len cap : Nat} {l : List Int}, Ints w a len cap l → ∀ b off, 0 < len → a = some ⟨b, off, none⟩ → b ≠ gf := fun hI b off h0 e => by
            obtain ⟨b', off', e', hlt', _⟩ := hI.at_ h0
            rw [e] at e'
            simp only [Option.some.injEq, Addr.mk.injEq] at e'
            omega
          have HCmp : Hid (CmpOk 55 #[.pointer (some ⟨wr.heap.size, 0, none⟩)] (Ev.far bytes next) (fun x => 0 ≤ x ∧ x < (ln : Int)) gf (wr.alloc (.cells #[.slice ab ln cb, .slice an ln cn, .func (.func 53) #[] #[]] 90))) := by
            intro wq hq x y hx hy
            have hwb : wr.heap.size < (wr.alloc (.cells #[.slice ab ln cb, .slice an ln cn, .func (.func 53) #[] #[]] 90)).heap.size := by rw [hz3]; omega
            have hne : wr.heap.size ≠ gf := by omega
            have hIb : Ints wq ab ln cb bytes := by
              obtain ⟨b, off, rfl, _, _⟩ := KB3.out.at_ (by omega)
              exact hq.ints KB3.out (hlb KB.out b off (by omega) rfl)
            have hIn : Ints wq an ln cn next := by
              obtain ⟨b, off, rfl, _, _⟩ := KN3.out.at_ (by omega)
              exact hq.ints KN3.out (hlb KN.out b off (by omega) rfl)
            exact pick1_any wr.heap.size ab an ln cb ln cn bytes next x y wq hIb hIn rfl ((hq.cell (p := ⟨wr.heap.size, 0, none⟩) hwb hne).trans q0) ((hq.cell (p := ⟨wr.heap.size, 1, none⟩) hwb hne).trans q1)
              ((hq.cell (p := ⟨wr.heap.size, 2, none⟩) hwb hne).trans q2) hx.1 hx.2 hy.1 hy.2
          have hlf2 : lf < 1152921504606846976 := by omega
          have hne2 : w.heap.size ≠ gf := by omega
          have hw3s : w.heap.size < (wr.alloc (.cells #[.slice ab ln cb, .slice an ln cn, .func (.func 53) #[] #[]] 90)).heap.size := by rw [hz3]; omega
          have hcle := HFI.out.le
          have hccap := HFI.out.cap_le
          have hlnc : (ln : Int) ≤ 9223372036854775807 := by have h1 := KB.out.le; have h2 := KB.out.cap_le; omega
          clear q0 q1 q2 hfz hin hgc hal hbw r0 r1 r2 d0 d1 d2
          generalize (wr.alloc (.cells #[.slice ab ln cb, .slice an ln cn, .func (.func 53) #[] #[]] 90)) = w3 at *
          refine (sortStable_any 55 #[.pointer (some ⟨wr.heap.size, 0, none⟩)] (Ev.far bytes next) (enters_of Tryz.func55 (by kernel_rfl) rfl) gf 0 lf cf (fun x => 0 ≤ x ∧ x < (ln : Int)) w3 HCmp.out hlf2 _ w3 HS3.out).mono ?_
          rintro e w4 ⟨rfl, hs4⟩
          have hS : Hid ((St.stable (ltc (Ev.far bytes next)) (Ev.frees pin inn).toArray).toList = Ev.sorted bytes next (Ev.frees pin inn)) := stable_sorted bytes next (Ev.frees pin inn)
          have hb4 := hs4.but
          have KS : Hid (Ints w4 (some ⟨gf, 0, none⟩) lf cf (Ev.sorted bytes next (Ev.frees pin inn))) := by
            show Ints _ _ _ _ _
            rw [← hS.out]
            exact sv_ints hs4 hcle hccap (fun x hx => by omega)
          have u2 := (hb4.cell (p := ⟨w.heap.size, 2, none⟩) hw3s hne2).trans t2
          have hb40 : Below w.heap.size w w4 := hbw3.trans (hb4.below (by omega) (by omega))
          have KB4 := Lib.hid (KB.out.below hb40)
          have HB40 := Lib.hid hb40
          have hgl4 := hs4.lt
          have hs40 : w.heap.size < w4.heap.size := Nat.lt_of_lt_of_le hw3s hb4.size
          have hmemS : Hid (∀ v ∈ Ev.sorted bytes next (Ev.frees pin inn), 0 ≤ v ∧ v < (ln : Int)) := fun v hv => Ev.nodesB_mem H1.out v (List.mem_filter.1 ((Ev.sorted_perm bytes next _).mem_iff.1 hv)).1
          have HPL : Hid (Ev.pickL inn pin bytes next room need = Ev.greedy bytes room (need + Ev.sumB bytes inn) (Ev.sorted bytes next (Ev.frees pin inn))) := by
            show _ = _; unfold Ev.pickL; rw [if_pos HE2.out]
          have hU0 : 0 ≤ need + Ev.sumB bytes inn := by omega
          have hU1 : need + Ev.sumB bytes inn ≤ 1048576 * 1000001 := by have := KI.out.length; omega
          clear hS hs4 hb4 t2 hbw3 HS3 HCmp hlb hrd hroom HO HFI HF3 KB3 KN3 HT HE hlt KIr KPr KBr hs0 hs1 hp0 hp1 hlen1 hlen2 hlen3
          generalize need + Ev.sumB bytes inn = U at *
          generalize Ev.sorted bytes next (Ev.frees pin inn) = s at *
          have hsl : s.length = lf := KS.out.length
          have HSL := Lib.hid hsl; clear hsl
          go_wp2
          go_loopg [8, 10, 17, 94] lf (fun gg o u _ i wv => ∃ k : Nat, k ≤ lf ∧ lf - k ≤ gg ∧ i = .int .i64 k ∧ u = .int .i64 (U - Ev.sumB bytes (s.take k)) ∧ Hid (Own w4.heap.size wv o (s.take k)) ∧ Hid (Below w4.heap.size w4 wv) ∧
            Hid (Ev.greedy bytes room U s = s.take k ++ Ev.greedy bytes room (U - Ev.sumB bytes (s.take k)) (s.drop k)))
          case atStart => exact ⟨0, Nat.zero_le _, by omega, rfl, by simp [Ev.sumB], Own.nil _ _, Below.refl _ _, by show _ = _; simp [Ev.sumB]⟩
          case round =>
            obtain ⟨k2, hk2, hg2, rfl, rfl, HO, HWv, HGr⟩ := hrel
            have v2 := (HWv.out.cell (p := ⟨w.heap.size, 2, none⟩) hs40).trans u2
            have KBv := Lib.hid (KB4.out.below HWv.out)
            have KSv := Lib.hid (KS.out.below HWv.out)
            have hsum := Ev.sumB_bounds bytes (s.take k2) KW.out (fun v hv => by rw [KB.out.length]; exact hmemS.out v (List.mem_of_mem_take hv))
            have hlen1 : (s.take k2).length ≤ k2 := List.length_take_le _ _
            obtain ⟨hs0, hs1⟩ := hsum
            have hwfO : Hid (∀ n ∈ s.take k2, -9223372036854775808 ≤ n ∧ n ≤ 9223372036854775807) := fun n hn => KS.out.wf n (List.mem_of_mem_take hn)
            by_cases hlt2 : k2 < lf
            · have hkl2 : k2 < s.length := by rw [HSL.out]; exact hlt2
              obtain ⟨hv0, hv1⟩ := hmemS.out (nth s k2) (nth_mem s k2 hkl2)
              obtain ⟨bi, oi, ei, hbi, hci⟩ := KSv.out.at_ (by omega)
              simp only [Option.some.injEq, Addr.mk.injEq] at ei
              obtain ⟨rfl, rfl, _⟩ := ei
              have hck := hci k2 hlt2
              rw [Nat.zero_add] at hck
              clear hci
              obtain ⟨bb, ob, rfl, hbb, hcb⟩ := KBv.out.get hv0 hv1
              obtain ⟨hw0, hw1⟩ := Ev.at_within bytes KW.out (nth s k2) hv0 (by rw [KB.out.length]; exact hv1)
              by_cases hle : U - Ev.sumB bytes (s.take k2) ≤ room
              · have HR : Hid (Ev.pickL inn pin bytes next room need = s.take k2) := by
                  show _ = _; rw [HPL.out, HGr.out, Ev.greedy_none _ _ _ _ hle, List.append_nil]
                obtain ⟨ao, lo, co, rfl, HOi, hoc⟩ := HO.out.ints hwfO.out
                have hn3 : ao = none → lo = 0 ∧ co = 0 := by
                  rcases hoc with ⟨_, h2, h3⟩ | ⟨_, h1, _⟩
                  · exact fun _ => ⟨h2, h3⟩
                  · intro h; rw [h] at h1; cases h1
                have HOI := Lib.hid (And.intro HOi hoc)
                clear HOi hoc
                have hle' := HOI.out.1.le
                have hcap' := HOI.out.1.cap_le
                go_wp2_with (go_at_call 56; refine (clip_any ao lo co _ hle' hcap' hn3).mono ?_; rintro e w5 ⟨rfl, rfl⟩)
                go_ret2
                obtain ⟨hI, hoc⟩ := HOI.out
                refine ⟨ao, lo, lo, by rw [HE2.out]; rfl, by rw [HR.out]; exact ⟨Nat.le_refl _, Nat.le_trans hI.le hI.cap_le, hI.length, hI.wf, hI.at_⟩, HB40.out.trans (HWv.out.mono (by omega)), ?_⟩
                rcases hoc with ⟨h1, h2, h3⟩ | ⟨g, h1, h2, h3, h4⟩
                · exact .inl ⟨h1, h2, h2⟩
                · exact .inr ⟨g, h1, by omega, h3, rfl, fun i hi => h4 i (by omega)⟩
              · have hle' : ¬ U - Ev.sumB bytes (s.take k2) ≤ room := hle
                have HG2 := Lib.hid (Ev.greedy_at bytes room U s k2 hkl2 hle HGr.out)
                have HS2 := Lib.hid (Ev.sumB_snoc bytes s k2 hkl2)
                have HT2 := Lib.hid (take_snoc s k2 hkl2)
                have hwvs := HWv.out.size
                have rs : IntKind.i64.wrap (U - Ev.sumB bytes (s.take k2) - Ev.at_ bytes (nth s k2)) = U - Ev.sumB bytes (s.take k2) - Ev.at_ bytes (nth s k2) := by rw [IntKind.wrap_i64]; omega
                have hbn : bb < w4.heap.size := by
                  obtain ⟨b', off', e', hlt', _⟩ := KB4.out.at_ (by omega)
                  simp only [Option.some.injEq, Addr.mk.injEq] at e'
                  omega
                have hnb : some bb ≠ u8.ownBlock := fun e => by have := (HO.out.lt bb e.symm).1; omega
                have HOa : Hid (Own w4.heap.size (wr.alloc (.cells #[.int .i64 (nth s k2)] 3)).drew u8 (s.take k2)) := (HO.out.below ((Below.refl _ _).alloc (Nat.le_refl _) _)).below (Below.refl _ _).drew
                go_wp2_with fail
                go_region_held3 (fun w' => w'.cell? ⟨bb, ob + (nth s k2).toNat, none⟩ = some (.int .i64 (Ev.at_ bytes (nth s k2))))
                  (first
                    | go_keep
                    | (go_split_ands; (exact cell_keep hgrow (by assumption) (by simp; omega) hnb)))
                  ((refine step_app1 _ (by rfl) _ _ (by rfl) w4.heap.size u8 (s.take k2) (nth s k2) wr.heap.size HOa.out (by rfl) (by rfl) (heap_alloc_new wr _) (by simp; omega) (by omega) ?_; intro v' w5 hown5 hgrow))
                have HO5 := Lib.hid hown5
                have HW5 : Hid (Below w4.heap.size w4 w5) := HWv.out.trans ((((Below.refl w4.heap.size wr).alloc hwvs _).drew).grown hgrow (by simp; omega) (fun k hk => (HO.out.lt k hk).1))
                clear hown5 hgrow hcb hck rs
                go_wp2
                go_roundg (lf - (k2 + 1))
                case measure => omega
                case rel => exact ⟨k2 + 1, by omega, by omega, by go_num, by rw [HS2.out]; congr 1; omega, by rw [HT2.out]; exact HO5, HW5, HG2⟩
            · have HR : Hid (Ev.pickL inn pin bytes next room need = s.take k2) := by
                have hd : s.drop k2 = [] := List.drop_eq_nil_of_le (by rw [HSL.out]; omega)
                show _ = _; rw [HPL.out, HGr.out, hd]; simp [Ev.greedy]
              obtain ⟨ao, lo, co, rfl, HOi, hoc⟩ := HO.out.ints hwfO.out
              have hn3 : ao = none → lo = 0 ∧ co = 0 := by
                rcases hoc with ⟨_, h2, h3⟩ | ⟨_, h1, _⟩
                · exact fun _ => ⟨h2, h3⟩
                · intro h; rw [h] at h1; cases h1
              have HOI := Lib.hid (And.intro HOi hoc)
              clear HOi hoc
              have hle' := HOI.out.1.le
              have hcap' := HOI.out.1.cap_le
              go_wp2_with (go_at_call 56; refine (clip_any ao lo co _ hle' hcap' hn3).mono ?_; rintro e w5 ⟨rfl, rfl⟩)
              go_ret2
              obtain ⟨hI, hoc⟩ := HOI.out
              refine ⟨ao, lo, lo, by rw [HE2.out]; rfl, by rw [HR.out]; exact ⟨Nat.le_refl _, Nat.le_trans hI.le hI.cap_le, hI.length, hI.wf, hI.at_⟩, HB40.out.trans (HWv.out.mono (by omega)), ?_⟩
              rcases hoc with ⟨h1, h2, h3⟩ | ⟨g, h1, h2, h3, h4⟩
              · exact .inl ⟨h1, h2, h2⟩
              · exact .inr ⟨g, h1, by omega, h3, rfl, fun i hi => h4 i (by omega)⟩
/-- evicts.Pick, whole. -/
theorem pick_any (ai ap ab an : Option Addr) (li ci lp cp lb cb ln cn : Nat) (inn pin bytes next : List Int) (room need : Int) (w : World)
    (HI : Ints w ai li ci inn) (HP : Ints w ap lp cp pin) (HB : Ints w ab lb cb bytes) (HN : Ints w an ln cn next) (hli : li ≤ 1000000)
    (hr : -9223372036854775808 ≤ room ∧ room ≤ 9223372036854775807) (hd : -9223372036854775808 ≤ need ∧ need ≤ 9223372036854775807) :
    Calls Tryz.prog 11 #[.agg #[.slice ai li ci, .slice ap lp cp, .int .i64 room], .slice ab lb cb, .slice an ln cn, .int .i64 need]
      w (PickPost w (Ev.pickL inn pin bytes next room need) (Ev.pickE inn pin bytes next room need)) := by
  cases h : Ev.argsB inn pin bytes next room need with
  | true => exact pick_good ai ap ab an li ci lp cp lb cb ln cn inn pin bytes next room need w HI HP HB HN hli h
  | false => exact pick_bad ai ap ab an li ci lp cp lb cb ln cn inn pin bytes next room need w HI HP HB HN hr hd h

end Go.Proofs.YtekejcnphmnidaaGreatDoor
