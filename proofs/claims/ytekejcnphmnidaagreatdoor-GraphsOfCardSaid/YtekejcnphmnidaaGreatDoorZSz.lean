import Derived.Test.YtekejcnphmnidaaGreatDoorZBh
namespace Go.Proofs.YtekejcnphmnidaaGreatDoor
open Go.RowKit
theorem nsize2_any (kd n pad : Int) (ai sa : Option Addr) (li ci ls cs : Nat) (w : World) (h1 : li ≤ 17592186044416) (h2 : ls ≤ 17592186044416) :
    Calls Tryz.prog 172 #[.agg #[.int .u8 kd, .slice ai li ci, .slice sa ls cs, .int .i64 n, .int .i64 pad]] w fun e w' => ∃ v : Int, e = .returned (.int .i64 v) ∧ (0 ≤ v ∧ v ≤ 40000000000000) ∧ (v ≤ 20000 → li ≤ 20000 ∧ ls ≤ 20000) ∧ Below w.heap.size w w' := by
  by_cases c : 1 + (li : Int) ≤ 1048576
  · have d : decide (1 + (li : Int) ≤ 1048576) = true := decide_eq_true c
    go_enter Tryz.func172, Tryz.ntmps172
    go_wp2_with fail
    refine (isize_any _ _ _ _).mono ?_
    rintro e w1 ⟨rfl, rfl⟩
    go_wp2_with fail
    refine (isize_any _ _ _ _).mono ?_
    rintro e w1 ⟨rfl, rfl⟩
    go_wp2
    go_ret
    exact ⟨1 + li + ls, rfl, ⟨by omega, by omega⟩, fun h => by omega, (Below.refl _ _).alloc (Nat.le_refl _) _⟩
  · have d : decide (1 + (li : Int) ≤ 1048576) = false := decide_eq_false c
    go_enter Tryz.func172, Tryz.ntmps172
    go_wp2_with fail
    refine (isize_any _ _ _ _).mono ?_
    rintro e w1 ⟨rfl, rfl⟩
    go_wp2
    go_ret
    exact ⟨1 + li, rfl, ⟨by omega, by omega⟩, fun h => by omega, (Below.refl _ _).alloc (Nat.le_refl _) _⟩
def Sized (g : List Gr.Node) (len k : Nat) (v : Int) : Prop := (len : Int) ≤ v ∧ (v ≤ 20000 → ∀ i, i < k → (nodeN g i).inn.length ≤ 20000 ∧ (nodeN g i).shape.length ≤ 20000)
set_option maxHeartbeats 2000000 in
theorem nssize2_any (a : Option Addr) (len cap : Nat) (g : List Gr.Node) (w : World) (HN : Nodes w a len cap g) :
    Calls Tryz.prog 106 #[.slice a len cap] w fun e w' => ∃ v : Int, e = .returned (.int .i64 v) ∧ (0 ≤ v ∧ v ≤ 90000000000000) ∧ Sized g len len v ∧ Below w.heap.size w w' := by
  have KN := Lib.hid HN
  have hle := HN.le
  have hcl := HN.cap_le
  have hll := HN.len_le
  clear HN
  go_enter Tryz.func106, Tryz.ntmps106
  go_wp2
  go_loopg [3, 4] len (fun gg n i wr => ∃ (k : Nat) (v : Int), k ≤ len ∧ len - k ≤ gg ∧ i = .int .i64 k ∧ n = .int .i64 v ∧ 0 ≤ v ∧ v ≤ 90000000000000 ∧ Hid (Sized g len k v) ∧ Hid (Below w.heap.size w wr))
  case atStart => exact ⟨0, len, Nat.zero_le _, by omega, rfl, rfl, by omega, by omega, ⟨Int.le_refl _, fun _ i h => by omega⟩, Below.refl _ _⟩
  case round =>
    obtain ⟨k, v, hk, hg, rfl, rfl, hv0, hv1, HS, HW⟩ := hrel
    by_cases hlt : k < len
    · by_cases c : v ≤ 1048576
      · have d : decide (v ≤ 1048576) = true := decide_eq_true c
        obtain ⟨b, off, ai, li, ci, sa, ls, cs, rfl, _, n0, n1, n2, n3, n4, hV⟩ := KN.out.get HW.out hlt
        have hl1 := hV.li
        have hl2 := hV.ls
        have HL1 := Lib.hid hV.i.length
        have HL2 := Lib.hid hV.s.length
        clear hV
        generalize (nodeN g k).n = nn at *
        generalize (nodeN g k).pad = pp at *
        generalize (nodeN g k).kind = kd at *
        go_wp2_with fail
        refine (nsize2_any _ _ _ _ _ _ _ _ _ _ hl1 hl2).mono ?_
        rintro e w1 ⟨u, rfl, ⟨hu0, hu1⟩, hu2, hb1⟩
        have HB1 := Lib.hid (HW.out.trans (hb1.mono HW.out.size))
        have HS2 : Hid (Sized g len (k + 1) (v + u)) := by
          obtain ⟨s1, s2⟩ := HS.out
          refine ⟨by omega, fun h i hi => ?_⟩
          by_cases e : i = k
          · subst e
            rw [HL1.out, HL2.out]
            exact hu2 (by omega)
          · exact s2 (by omega) i (by omega)
        clear hb1 n0 n1 n2 n3 n4 hu2
        go_wp2
        go_roundg (len - (k + 1))
        case measure => exact Nat.lt_of_lt_of_le (Nat.sub_lt_sub_left hlt (Nat.lt_succ_self k)) hg
        case rel => exact ⟨k + 1, v + u, Nat.succ_le_of_lt hlt, Nat.le_refl _, by go_num, by go_num, by omega, by omega, HS2, HB1⟩
      · have d : decide (v ≤ 1048576) = false := decide_eq_false c
        go_wp2
        go_ret
        exact ⟨v, rfl, ⟨hv0, hv1⟩, ⟨HS.out.1, fun h => by omega⟩, HW.out⟩
    · obtain rfl : k = len := by omega
      go_wp2
      go_ret
      exact ⟨v, rfl, ⟨hv0, hv1⟩, HS.out, HW.out⟩
theorem gsize2_any (a : Option Addr) (len cap : Nat) (g : List Gr.Node) (w : World) (HN : Nodes w a len cap g) :
    Calls Tryz.prog 17 #[.agg #[.slice a len cap]] w fun e w' => ∃ v : Int, e = .returned (.int .i64 v) ∧ (0 ≤ v ∧ v ≤ 90000000000001) ∧ Sized g len len v ∧ Below w.heap.size w w' := by
  go_enter Tryz.func17, Tryz.ntmps17
  go_wp2_with fail
  refine (nssize2_any _ _ _ g _ (HN.on ((Below.refl _ _).alloc (Nat.le_refl _) _))).mono ?_
  rintro e w1 ⟨v, rfl, ⟨hv0, hv1⟩, hS, hb⟩
  have HS := Lib.hid hS
  have HB := Lib.hid (((Below.refl _ _).alloc (Nat.le_refl _) _).trans (hb.mono (by simp)))
  clear hb hS
  go_wp2
  go_ret
  exact ⟨1 + v, rfl, ⟨by omega, by omega⟩, ⟨by have := HS.out.1; omega, fun h => HS.out.2 (by omega)⟩, HB.out⟩
end Go.Proofs.YtekejcnphmnidaaGreatDoor
