/-
  graphs.joined: contract joined_any.
-/
import Derived.Test.YtgmagldbfajedaaGrJoinP
import Derived.Test.YtgmagldbfajedaaGrWithout
namespace Go.Proofs.Ytgmagldbfajedaa
open Go.RowKit

theorem rowL_drop (L : List (List Int)) (k i : Nat) : rowL (L.drop k) i = rowL L (k + i) := by
  unfold rowL; simp only [List.getD_eq_getElem?_getD, List.getElem?_drop]
theorem drop_rowL (L : List (List Int)) (k : Nat) (h : k < L.length) : L.drop k = rowL L k :: L.drop (k + 1) := by
  rw [List.drop_eq_getElem_cons h, rowL_eq L k h]

/-- A slice of slices, without its first one. -/
theorem Grid.tail {w : World} {b off len cap : Nat} {L : List (List Int)} (h : Grid w (some ⟨b, off, none⟩) len cap L) (h1 : 1 ≤ len) :
    ∃ A : Addr, (if cap = 1 then (some ⟨b, off, none⟩ : Option Addr) else some ⟨b, off + 1, none⟩) = some A ∧ Grid w (some A) (len - 1) (cap - 1) (L.drop 1) := by
  have hle := h.le
  have hcl := h.cap_le
  have hl := h.length
  obtain ⟨b', off', e, hlt, hc⟩ := h.at_ (by omega)
  simp only [Option.some.injEq, Addr.mk.injEq] at e
  obtain ⟨rfl, rfl, _⟩ := e
  by_cases c : cap = 1
  · exact ⟨_, if_pos c, by omega, by omega, by rw [List.length_drop]; omega, fun h0 => by omega⟩
  · refine ⟨_, if_neg c, by omega, by omega, by rw [List.length_drop]; omega, fun h0 => ⟨b, off + 1, rfl, hlt, fun i hi => ?_⟩⟩
    obtain ⟨ai, li, ci, h2, h3⟩ := hc (1 + i) (by omega)
    exact ⟨ai, li, ci, by rw [Nat.add_assoc]; exact h2, by rw [rowL_drop]; exact h3⟩

set_option maxHeartbeats 4000000 in
set_option maxRecDepth 100000 in
theorem joined_any (a : Option Addr) (len cap : Nat) (L : List (List Int)) (along : Int) (w : World) (HG : Grid w a len cap L) (h1 : 1 ≤ len) (h4 : len ≤ 4) (hchk : ∀ s ∈ L, Gr.chk s = true) (ha0 : 0 ≤ along) (ha3 : along ≤ 3) :
    Calls Try.prog 114 #[.slice a len cap, .int .i64 along] w fun e w' => ShapeS w (Gr.joined L along) e w' := by
  have hle := HG.le
  have hcl := HG.cap_le
  have LL := Lib.hid HG.length
  obtain ⟨b, off, rfl, hb, hc⟩ := HG.at_ (by omega)
  obtain ⟨A, hA, hT⟩ := HG.tail h1
  have HT := Lib.hid hT
  obtain ⟨a0, l0, c0, hc0, hI0⟩ := hc 0 (by omega)
  rw [Nat.add_zero] at hc0
  have H0 := Lib.hid hI0
  have HCK := Lib.hid hchk
  have HK0 := Lib.hid (hchk _ (rowL_mem L 0 (by rw [LL.out]; omega)))
  obtain ⟨hk1, hk2, hk3⟩ := Gr.chk_parts HK0.out
  have hll := hI0.length
  rw [hll] at hk1 hk2
  have HK3 := Lib.hid hk3
  have HJ0 : Hid (Gr.joined L along = Gr.joinF along (rowL L 0) (L.drop 1)) := by
    show _ = _
    have : L = rowL L 0 :: L.drop 1 := by conv => lhs; rw [← List.drop_zero (l := L), drop_rowL L 0 (by rw [LL.out]; omega)]
    conv => lhs; rw [this]
    rfl
  clear HG hT hI0 hchk hk3 hc
  go_enter Try.func114, Try.ntmps114
  go_wp2_with fail
  refine (clone_any _ _ _ (rowL L 0) _ H0.out (by omega)).mono ?_
  rintro e w1 ⟨v, rfl, hO, hbel⟩
  obtain ⟨g, og, cg, rfl, hM⟩ := hO.mine (by rw [hll]; omega)
  rw [hll]
  have HM := Lib.hid hM
  have HB := Lib.hid hbel
  have hcg := hM.le
  rw [hll] at hcg
  have hcg2 := hM.cap_le
  have hlog := hM.lo
  clear hO hM hbel hc0 H0
  have HLL := Lib.hid hll
  clear hll
  go_wp2
  go_loopg [17] (len - 1) (fun gg i wr => ∃ (j : Nat) (s : List Int), j ≤ len - 1 ∧ len - 1 - j ≤ gg ∧ i = .int .i64 j ∧ Hid (s.length = l0) ∧ Hid (∀ v ∈ s, 1 ≤ v ∧ v ≤ 64 * ((j : Int) + 1)) ∧
    Hid (Mine w.heap.size wr g og cg s) ∧ Hid (Below w.heap.size w wr) ∧ Hid (Gr.joined L along = Gr.joinF along s (L.drop (j + 1))))
  case atStart => exact ⟨0, rowL L 0, by omega, by omega, rfl, HLL, fun v hv => by have := HK3.out v hv; omega, HM, HB, HJ0⟩
  case round =>
    obtain ⟨j, s, hj, hg, rfl, HSL, HSB, HMr, HBr, HJ⟩ := hrel
    have HJL : Hid (j + 1 < len → L.drop (j + 1) = rowL L (j + 1) :: L.drop (j + 2)) := fun h => drop_rowL L (j + 1) (by rw [LL.out]; exact h)
    by_cases hlt : j < len - 1
    · obtain ⟨bA, oA, eA, hbA, hcA⟩ := HT.out.at_ (by omega)
      obtain rfl := Option.some.inj eA
      obtain ⟨ax, lx, cx, hcx, hIx⟩ := hcA j hlt
      rw [rowL_drop, Nat.add_comm 1 j] at hIx
      have hcr := (HBr.out.cell (p := ⟨bA, oA + j, none⟩) hbA).trans hcx
      have HX := Lib.hid hIx
      have HXL := Lib.hid hIx.length
      have hx1 := hIx.le
      have hx2 := hIx.cap_le
      have HXB := Lib.hid (Gr.chk_parts (HCK.out _ (rowL_mem L (j + 1) (by rw [LL.out]; omega)))).2.2
      rw [HJL.out (by omega)] at HJ
      clear hcA hcx hIx HJL
      generalize rowL L (j + 1) = x at *
      by_cases c1 : lx = l0
      · subst c1
        have hne : ((lx : Int) != (lx : Int)) = false := by simp
        by_cases c2 : (lx : Int) ≤ along
        · have d2 : decide (along ≥ (lx : Int)) = true := decide_eq_true c2
          have HR := Lib.hid (HJ.out.trans (Gr.joinF_bad (.inr (by rw [HSL.out]; exact c2))))
          go_wp2
          go_ret
          exact ⟨_, _, _, rfl, by rw [HR.out]; exact Ints.nil, HBr.out⟩
        · have d2 : decide (along ≥ (lx : Int)) = false := decide_eq_false c2
          have hal : along < (lx : Int) := by omega
          go_wp2
          have HM0 : Hid (Mine w.heap.size wr g og cg (Gr.midJ along s x 0)) := by rw [Gr.midJ_zero ha0]; exact HMr
          go_loopg [34] lx (fun gg i wv => ∃ k : Nat, k ≤ lx ∧ lx - k ≤ gg ∧ i = .int .i64 k ∧ Hid (Mine w.heap.size wv g og cg (Gr.midJ along s x k)) ∧ Hid (Below w.heap.size w wv) ∧
            Hid (∀ i, i < k → (i : Int) ≠ along → nth s i = nth x i))
          case atStart => exact ⟨0, Nat.zero_le _, by omega, rfl, HM0, HBr, fun i hi => absurd hi (Nat.not_lt_zero _)⟩
          case round =>
            rename World => wx
            obtain ⟨k, hk, hgk, rfl, HMk, HBk, HF⟩ := hrel
            by_cases hltk : k < lx
            · obtain ⟨bx, ox, rfl, _, hcx⟩ := (HX.out.below HBk.out).at_ (by omega)
              have hxk := hcx k hltk
              clear hcx
              have hks : k < s.length := by rw [HSL.out]; exact hltk
              obtain ⟨hx3, hx4⟩ := HXB.out (nth x k) (nth_mem x k (by rw [HXL.out]; exact hltk))
              obtain ⟨hs3, hs4⟩ := HSB.out (nth s k) (nth_mem s k hks)
              have hmk := HMk.out.cell k (by rw [Gr.midJ_length]; exact hks)
              have hfk := HMk.out.fr k (by rw [Gr.midJ_length]; exact hks)
              by_cases ck : (k : Int) = along
              · have dk : ((k : Int) == along) = true := by simp [ck]
                obtain ⟨e1, e2⟩ := Gr.midJ_eq ck s x
                have HM2 := HMk.out.set k (by rw [Gr.midJ_length]; exact hks) (nth s k + nth x k)
                rw [e1] at hmk HM2
                rw [← e2] at HM2
                have HM2 := Lib.hid HM2
                have HB2 := Lib.hid (below_setCell HBk.out g (og + k) (.int .i64 (nth s k + nth x k)) hlog)
                have HF2 : Hid (∀ i, i < k + 1 → (i : Int) ≠ along → nth s i = nth x i) := fun i hi hn => HF.out i (by omega) hn
                clear e1 e2 ck
                generalize nth s k = sv at *
                generalize nth x k = xv at *
                go_wp2
                go_roundg (lx - (k + 1))
                case measure => omega
                case rel => exact ⟨k + 1, by omega, by omega, by go_num, HM2, HB2, HF2⟩
              · have dk : ((k : Int) == along) = false := by simp [ck]
                rw [Gr.midJ_nth ha0 ck] at hmk
                by_cases cv : nth s k = nth x k
                · have ev : (nth s k != nth x k) = false := by simp [cv]
                  have HF2 : Hid (∀ i, i < k + 1 → (i : Int) ≠ along → nth s i = nth x i) := fun i hi hn => by
                    rcases Nat.lt_succ_iff_lt_or_eq.1 hi with h | h
                    · exact HF.out i h hn
                    · rw [h]; exact cv
                  have HM2 := HMk.out
                  rw [← Gr.midJ_ne ck] at HM2
                  have HM2 := Lib.hid HM2
                  clear cv
                  go_wp2
                  go_roundg (lx - (k + 1))
                  case measure => omega
                  case rel => exact ⟨k + 1, by omega, by omega, by go_num, HM2, HBk, HF2⟩
                · have ev : (nth s k != nth x k) = true := by simp [cv]
                  have HR := Lib.hid (HJ.out.trans (Gr.joinF_unfit hks ck cv))
                  clear cv
                  go_wp2
                  go_ret
                  exact ⟨_, _, _, rfl, by rw [HR.out]; exact Ints.nil, HBk.out⟩
            · obtain rfl : k = lx := by omega
              have HM2 := HMk.out
              rw [← HSL.out, Gr.midJ_end (by rw [HSL.out]; exact hal)] at HM2
              have HM2 := Lib.hid HM2
              have HJ2 := Lib.hid (HJ.out.trans (Gr.joinF_fit (by rw [HXL.out, HSL.out]) (by rw [HSL.out]; exact hal) (fun i hi hn => HF.out i (by rw [← HSL.out]; exact hi) hn)))
              have HB2 := Lib.hid (Gr.longer_bounds ha0 (by rw [HSL.out]; exact hal) (by rw [HXL.out, HSL.out]) HSB.out HXB.out)
              have HL2 : Hid ((Gr.longer along s x).length = k) := by show _ = _; rw [Gr.longer_length]; exact HSL.out
              go_wp2
              go_roundg (len - 1 - (j + 1))
              case measure => omega
              case rel => exact ⟨j + 1, Gr.longer along s x, by omega, by omega, by go_num, HL2, fun v hv => by have := HB2.out v hv; omega, HM2, HBk, HJ2⟩
      · have hne : ((lx : Int) != (l0 : Int)) = true := by simp; omega
        have HR := Lib.hid (HJ.out.trans (Gr.joinF_bad (.inl (by rw [HXL.out, HSL.out]; exact c1))))
        go_wp2
        go_ret
        exact ⟨_, _, _, rfl, by rw [HR.out]; exact Ints.nil, HBr.out⟩
    · have hj2 : L.length ≤ j + 1 := by rw [LL.out]; omega
      rw [List.drop_eq_nil_of_le hj2, Gr.joinF_nil] at HJ
      by_cases c2 : (l0 : Int) ≤ along
      · have d2 : decide (along ≥ (l0 : Int)) = true := decide_eq_true c2
        have HR := Lib.hid (HJ.out.trans (if_pos (by rw [HSL.out]; exact c2)))
        go_wp2
        go_ret
        exact ⟨_, _, _, rfl, by rw [HR.out]; exact Ints.nil, HBr.out⟩
      · have d2 : decide (along ≥ (l0 : Int)) = false := decide_eq_false c2
        have HR := Lib.hid (HJ.out.trans (if_neg (by rw [HSL.out]; exact c2)))
        have hI := HMr.out.ints (fun v hv => by have := HSB.out v hv; omega)
        rw [HSL.out] at hI
        have HI := Lib.hid hI
        clear hI
        go_wp2
        go_ret
        exact ⟨_, _, _, rfl, by rw [HR.out]; exact HI.out, HBr.out⟩
end Go.Proofs.Ytgmagldbfajedaa
