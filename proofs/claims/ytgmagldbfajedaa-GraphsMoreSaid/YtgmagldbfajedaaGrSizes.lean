/-
  drydocklaw01.GraphSize, SameGrids: contracts gsize_any, grids_any.
-/
import Derived.Test.YtgmagldbfajedaaGrUses
namespace Go.Proofs.Ytgmagldbfajedaa
open Go.RowKit

theorem isize_any (a : Option Addr) (len cap : Nat) (w : World) : Calls Try.prog 134 #[.slice a len cap] w fun e w' => e = .returned (.int .i64 len) ∧ w = w' := by
  go_enter Try.func134, Try.ntmps134
  go_wp2
  go_ret
  exact ⟨rfl, rfl⟩

theorem nsize_any (kd n pad : Int) (ai sa : Option Addr) (li ci ls cs : Nat) (w : World) (h1 : li ≤ 17592186044416) (h2 : ls ≤ 17592186044416) :
    Calls Try.prog 105 #[.agg #[.int .u8 kd, .slice ai li ci, .slice sa ls cs, .int .i64 n, .int .i64 pad]] w fun e w' => ∃ v : Int, e = .returned (.int .i64 v) ∧ (0 ≤ v ∧ v ≤ 40000000000000) ∧ Below w.heap.size w w' := by
  by_cases c : 1 + (li : Int) ≤ 1048576
  · have d : decide (1 + (li : Int) ≤ 1048576) = true := decide_eq_true c
    go_enter Try.func105, Try.ntmps105
    go_wp2_with fail
    refine (isize_any _ _ _ _).mono ?_
    rintro e w1 ⟨rfl, rfl⟩
    go_wp2_with fail
    refine (isize_any _ _ _ _).mono ?_
    rintro e w1 ⟨rfl, rfl⟩
    go_wp2
    go_ret
    exact ⟨1 + li + ls, rfl, ⟨by omega, by omega⟩, (Below.refl _ _).alloc (Nat.le_refl _) _⟩
  · have d : decide (1 + (li : Int) ≤ 1048576) = false := decide_eq_false c
    go_enter Try.func105, Try.ntmps105
    go_wp2_with fail
    refine (isize_any _ _ _ _).mono ?_
    rintro e w1 ⟨rfl, rfl⟩
    go_wp2
    go_ret
    exact ⟨1 + li, rfl, ⟨by omega, by omega⟩, (Below.refl _ _).alloc (Nat.le_refl _) _⟩

set_option maxHeartbeats 2000000 in
theorem nssize_any (a : Option Addr) (len cap : Nat) (g : List Gr.Node) (w : World) (HN : Nodes w a len cap g) :
    Calls Try.prog 67 #[.slice a len cap] w fun e w' => ∃ v : Int, e = .returned (.int .i64 v) ∧ (0 ≤ v ∧ v ≤ 90000000000000) ∧ Below w.heap.size w w' := by
  have KN := Lib.hid HN
  have hle := HN.le
  have hcl := HN.cap_le
  have hll := HN.len_le
  clear HN
  go_enter Try.func67, Try.ntmps67
  go_wp2
  go_loopg [3, 4] len (fun gg n i wr => ∃ (k : Nat) (v : Int), k ≤ len ∧ len - k ≤ gg ∧ i = .int .i64 k ∧ n = .int .i64 v ∧ 0 ≤ v ∧ v ≤ 90000000000000 ∧ Hid (Below w.heap.size w wr))
  case atStart => exact ⟨0, len, Nat.zero_le _, by omega, rfl, rfl, by omega, by omega, Below.refl _ _⟩
  case round =>
    obtain ⟨k, v, hk, hg, rfl, rfl, hv0, hv1, HW⟩ := hrel
    by_cases hlt : k < len
    · by_cases c : v ≤ 1048576
      · have d : decide (v ≤ 1048576) = true := decide_eq_true c
        obtain ⟨b, off, ai, li, ci, sa, ls, cs, rfl, _, n0, n1, n2, n3, n4, hV⟩ := KN.out.get HW.out hlt
        have hl1 := hV.li
        have hl2 := hV.ls
        clear hV
        generalize (nodeN g k).n = nn at *
        generalize (nodeN g k).pad = pp at *
        generalize (nodeN g k).kind = kd at *
        go_wp2_with fail
        refine (nsize_any _ _ _ _ _ _ _ _ _ _ hl1 hl2).mono ?_
        rintro e w1 ⟨u, rfl, ⟨hu0, hu1⟩, hb1⟩
        have HB1 := Lib.hid (HW.out.trans (hb1.mono HW.out.size))
        clear hb1 n0 n1 n2 n3 n4
        go_wp2
        go_roundg (len - (k + 1))
        case measure => exact Nat.lt_of_lt_of_le (Nat.sub_lt_sub_left hlt (Nat.lt_succ_self k)) hg
        case rel => exact ⟨k + 1, v + u, Nat.succ_le_of_lt hlt, Nat.le_refl _, by go_num, by go_num, by omega, by omega, HB1⟩
      · have d : decide (v ≤ 1048576) = false := decide_eq_false c
        go_wp2
        go_ret
        exact ⟨v, rfl, ⟨hv0, hv1⟩, HW.out⟩
    · go_wp2
      go_ret
      exact ⟨v, rfl, ⟨hv0, hv1⟩, HW.out⟩

theorem gsize_any (a : Option Addr) (len cap : Nat) (g : List Gr.Node) (w : World) (HN : Nodes w a len cap g) :
    Calls Try.prog 32 #[.agg #[.slice a len cap]] w fun e w' => ∃ v : Int, e = .returned (.int .i64 v) ∧ (0 ≤ v ∧ v ≤ 90000000000001) ∧ Below w.heap.size w w' := by
  go_enter Try.func32, Try.ntmps32
  go_wp2_with fail
  refine (nssize_any _ _ _ g _ (HN.on ((Below.refl _ _).alloc (Nat.le_refl _) _))).mono ?_
  rintro e w1 ⟨v, rfl, ⟨hv0, hv1⟩, hb⟩
  have HB : Hid (Below w.heap.size w w1) := ((Below.refl _ _).alloc (Nat.le_refl _) _).trans (hb.mono (by simp))
  clear hb
  go_wp2
  go_ret
  exact ⟨1 + v, rfl, ⟨by omega, by omega⟩, HB.out⟩

/-- Are two lists of shapes the same? -/
def gridsB (L M : List (List Int)) : Bool := decide (L.length = M.length) && (List.range L.length).all fun i => sameB (rowL L i) (rowL M i)
theorem gridsB_len {L M : List (List Int)} (h : L.length ≠ M.length) : gridsB L M = false := by unfold gridsB; rw [decide_eq_false h]; rfl
theorem gridsB_hit {L M : List (List Int)} {k : Nat} (hk : k < L.length) (h : sameB (rowL L k) (rowL M k) = false) : gridsB L M = false := by
  unfold gridsB
  have : ((List.range L.length).all fun i => sameB (rowL L i) (rowL M i)) = false := by
    rw [List.all_eq_false]
    exact ⟨k, List.mem_range.2 hk, by simp [h]⟩
  rw [this, Bool.and_false]
theorem gridsB_all {L M : List (List Int)} (hl : L.length = M.length) (h : ∀ i, i < L.length → sameB (rowL L i) (rowL M i) = true) : gridsB L M = true := by
  unfold gridsB
  rw [decide_eq_true hl, Bool.true_and, List.all_eq_true]
  exact fun i hi => h i (List.mem_range.1 hi)

set_option maxHeartbeats 2000000 in
set_option maxRecDepth 100000 in
theorem grids_any (a b : Option Addr) (la ca lb cb : Nat) (L M : List (List Int)) (w : World) (HA : Grid w a la ca L) (HB : Grid w b lb cb M) :
    Calls Try.prog 40 #[.slice a la ca, .slice b lb cb] w fun e w' => e = .returned (.bool (gridsB L M)) ∧ Below w.heap.size w w' := by
  have KA := Lib.hid HA
  have KB := Lib.hid HB
  have LA := Lib.hid HA.length
  have LB := Lib.hid HB.length
  have ha1 := HA.le
  have ha2 := HA.cap_le
  have hb1 := HB.le
  have hb2 := HB.cap_le
  clear HA HB
  by_cases hl : la = lb
  · subst hl
    have hne : ((la : Int) != (la : Int)) = false := by simp
    go_enter Try.func40, Try.ntmps40
    go_wp2
    go_loopg [5] la (fun gg i wr => ∃ k : Nat, k ≤ la ∧ la - k ≤ gg ∧ i = .int .i64 k ∧ Hid (∀ i, i < k → sameB (rowL L i) (rowL M i) = true) ∧ Hid (Below w.heap.size w wr))
    case atStart => exact ⟨0, Nat.zero_le _, by omega, rfl, fun i hi => absurd hi (Nat.not_lt_zero _), Below.refl _ _⟩
    case round =>
      obtain ⟨k, hk, hg, rfl, HT, HW⟩ := hrel
      by_cases hlt : k < la
      · obtain ⟨bA, oA, rfl, hbA, hcA⟩ := KA.out.at_ (by omega)
        obtain ⟨bB, oB, rfl, hbB, hcB⟩ := KB.out.at_ (by omega)
        obtain ⟨ax, lx, cx, hx, hIx⟩ := hcA k hlt
        obtain ⟨ay, ly, cy, hy, hIy⟩ := hcB k hlt
        have hx2 := (HW.out.cell (p := ⟨bA, oA + k, none⟩) hbA).trans hx
        have hy2 := (HW.out.cell (p := ⟨bB, oB + k, none⟩) hbB).trans hy
        have HX := Lib.hid ((hIx.below HW.out).below (Below.refl _ wr).drew)
        have HY := Lib.hid ((hIy.below HW.out).below (Below.refl _ wr).drew)
        have HWd : Hid (Below w.heap.size w wr.drew) := HW.out.drew
        clear hcA hcB hx hy hIx hIy
        cases hs : sameB (rowL L k) (rowL M k) with
        | true =>
          have HT2 : Hid (∀ i, i < k + 1 → sameB (rowL L i) (rowL M i) = true) := fun i hi => by
            rcases Nat.lt_succ_iff_lt_or_eq.1 hi with h | h
            · exact HT.out i h
            · subst h; exact hs
          have HS := Lib.hid hs
          clear hs
          go_wp2_with fail
          refine wp_region_still_call 8 mixed (by kernel_rfl) ?_
          simp only [List.take_succ_cons, List.take_zero, List.drop_succ_cons, List.drop_zero, List.getElem?_cons_succ, List.getElem?_cons_zero]
          repeat still_step
          refine wpStill_nil ?_
          intro KC hKC
          simp only [List.drop_succ_cons, List.drop_zero] at hKC
          go_simp
          refine (same_any _ _ _ _ _ _ _ _ _ HX.out HY.out).mono ?_
          rintro e w7 ⟨rfl, hb7⟩
          rw [HS.out]
          have HW7 := Lib.hid (HWd.out.trans (hb7.mono HWd.out.size))
          clear hb7
          refine hKC _ _ ?_
          clear hKC KC
          repeat still_step
          refine wpStill_nil ?_
          go_wp2
          go_roundg (la - (k + 1))
          case measure => exact Nat.lt_of_lt_of_le (Nat.sub_lt_sub_left hlt (Nat.lt_succ_self k)) hg
          case rel => exact ⟨k + 1, Nat.succ_le_of_lt hlt, Nat.le_refl _, by go_num, HT2, HW7⟩
        | false =>
          have HR := Lib.hid (gridsB_hit (L := L) (M := M) (k := k) (by rw [LA.out]; exact hlt) hs)
          have HS := Lib.hid hs
          clear hs
          go_wp2_with fail
          refine wp_region_still_call 8 mixed (by kernel_rfl) ?_
          simp only [List.take_succ_cons, List.take_zero, List.drop_succ_cons, List.drop_zero, List.getElem?_cons_succ, List.getElem?_cons_zero]
          repeat still_step
          refine wpStill_nil ?_
          intro KC hKC
          simp only [List.drop_succ_cons, List.drop_zero] at hKC
          go_simp
          refine (same_any _ _ _ _ _ _ _ _ _ HX.out HY.out).mono ?_
          rintro e w7 ⟨rfl, hb7⟩
          rw [HS.out]
          have HW7 := Lib.hid (HWd.out.trans (hb7.mono HWd.out.size))
          clear hb7
          refine hKC _ _ ?_
          clear hKC KC
          repeat still_step
          refine wpStill_nil ?_
          go_wp2
          go_ret
          exact ⟨by rw [HR.out]; rfl, HW7.out⟩
      · have HR := Lib.hid (gridsB_all (L := L) (M := M) (by rw [LA.out, LB.out]) (fun i hi => HT.out i (by rw [LA.out] at hi; omega)))
        go_wp2
        go_ret
        exact ⟨by rw [HR.out]; rfl, HW.out⟩
  · have hne : ((la : Int) != (lb : Int)) = true := by simp; omega
    have HR := Lib.hid (gridsB_len (L := L) (M := M) (by rw [LA.out, LB.out]; exact hl))
    clear hl
    go_enter Try.func40, Try.ntmps40
    go_wp2
    go_ret
    exact ⟨by rw [HR.out]; rfl, Below.refl _ _⟩
end Go.Proofs.Ytgmagldbfajedaa
