import Derived.Test.YtekejcnphmnidaaGreatDoorZBkGrid
import Derived.Test.YtekejcnphmnidaaGreatDoorZBkT
import Derived.Test.YtekejcnphmnidaaGreatDoorZBg
namespace Go.Proofs.YtekejcnphmnidaaGreatDoor
open Go.RowKit
theorem told_Grid (w : World) (B base : Nat) (n : Int) (LI LN LS LC LG : List Held) (ax : Option Addr) (lx cx : Nat) (xs : List Value) (S : BkS w B base n LI LN LS LC LG) (hm : LG.length ≤ 1000000) (h1 : n ≤ 1000000) :
    Calls Tryz.prog 121 #[.pointer (some ⟨B, 0, none⟩), .slice ax lx cx] w fun e w' => e = .returned (.tuple #[]) ∧ BkS w' B base (n + 1) LI LN LS LC (LG ++ [⟨.slice ax lx cx, lx, xs, .slice none 0 0, n + 1⟩]) ∧ Below B w w' := by
  obtain ⟨f, S⟩ := S
  refine (keepGrid_any w B f n base LG.length (heldAt LG) ⟨.slice ax lx cx, lx, xs, .slice none 0 0, n + 1⟩ ax lx cx S.box S.num S.ag rfl rfl rfl S.lo S.bz hm S.n0 h1).mono ?_
  rintro e w' ⟨he, vA, hbx, har, ho, _⟩
  have hB : ∀ k, base ≤ k → k ≠ B := fun k hk e => by have := S.lo; omega
  have hS : ∀ {e'} {v'} {m'} {h'}, Arr e' base w v' m' h' → 207 ≠ e' → ∀ k, v'.ownBlock = some k → ¬ (k = B ∨ (f 14).ownBlock = some k) := fun A hne k hk e => by
    rcases e with e | e
    · exact hB k (A.lt k hk).1 e
    · exact S.ag.ne A hne k e hk
  have hz := ho.size
  refine ⟨he, ⟨_, hbx, by simp, fun j h0 h16 h2 h7 h8 h9 h14 => ?_, S.ai.only ho (hS S.ai (by decide)), S.an.only ho (hS S.an (by decide)), S.as_.only ho (hS S.as_ (by decide)), S.ac.only ho (hS S.ac (by decide)), har.push, (fun h => (if_neg (by decide)).trans ((if_neg (by decide)).trans (S.en h))), (fun h => (if_neg (by decide)).trans ((if_neg (by decide)).trans (S.es h))), (fun h => (if_neg (by decide)).trans ((if_neg (by decide)).trans (S.ec h))), (fun h => by simp at h), S.lo, by have := S.bz; omega, by have := S.n0; omega, fun h hm => ?_⟩, ?_⟩
  · show (if j = 14 then vA else if j = 0 then .int .i64 (n + 1) else f j) = _
    rw [if_neg (by omega), if_neg (by omega)]
    exact S.rest j h0 h16 h2 h7 h8 h9 h14
  · have hn := S.n0
    have up : h ∈ LI ++ LN ++ LS ++ LC ++ LG → (0 ≤ h.num ∧ h.num ≤ n + 1) ∧ h.lg = .slice none 0 0 := fun hm => by
      obtain ⟨⟨a, b⟩, c⟩ := S.nums h hm
      exact ⟨⟨a, by omega⟩, c⟩
    simp only [List.mem_append, List.mem_singleton] at hm up
    by_cases hx : h = ⟨.slice ax lx cx, lx, xs, .slice none 0 0, n + 1⟩
    · subst hx
      exact ⟨⟨by show 0 ≤ n + 1; omega, by show n + 1 ≤ n + 1; omega⟩, rfl⟩
    · refine up ?_
      rcases hm with (((hm | hm) | hm) | hm) | hm
      · exact .inl (.inl (.inl (.inl hm)))
      · exact .inl (.inl (.inl (.inr hm)))
      · exact .inl (.inl (.inr hm))
      · exact .inl (.inr hm)
      · rcases hm with hm | hm
        · exact .inr hm
        · exact absurd hm hx
  · refine ho.below (fun k hk => ?_) (by have := S.box.lt; omega)
    rcases hk with rfl | hk
    · exact Nat.le_refl _
    · have := (S.ag.lt k hk).1; have := S.lo; omega
def heldRow (n : Int) (vs : List Value) (L : List (List Int)) (i : Nat) : Held := ⟨vs.getD i (.slice none 0 0), (rowL L i).length, (rowL L i).map (Value.int .i64), .slice none 0 0, n + (i : Int) + 1⟩
def heldsR (n : Int) (vs : List Value) (L : List (List Int)) (k : Nat) : List Held := (List.range k).map (heldRow n vs L)
theorem heldsR_succ (n : Int) (vs : List Value) (L : List (List Int)) (k : Nat) : heldsR n vs L (k + 1) = heldsR n vs L k ++ [heldRow n vs L k] := by
  unfold heldsR; rw [List.range_succ, List.map_append]; rfl
theorem heldsR_length (n : Int) (vs : List Value) (L : List (List Int)) (k : Nat) : (heldsR n vs L k).length = k := by simp [heldsR]
theorem heldsR_mem {n : Int} {vs : List Value} {L : List (List Int)} {k : Nat} {h : Held} (hm : h ∈ heldsR n vs L k) : ∃ i, i < k ∧ h = heldRow n vs L i := by
  obtain ⟨i, hi, rfl⟩ := List.mem_map.1 hm
  exact ⟨i, List.mem_range.1 hi, rfl⟩
theorem blocksOf_heldsR (n : Int) {vs : List Value} {L : List (List Int)} (h : vs.length = L.length) : blocksOf (heldsR n vs L L.length) = vs.filterMap Value.ownBlock := by
  have e : vs = (List.range L.length).map (fun i => vs.getD i (.slice none 0 0)) := by
    refine List.ext_getElem (by simp [h]) fun i h1 h2 => ?_
    simp [List.getElem?_eq_getElem h1]
  unfold blocksOf heldsR
  rw [List.filterMap_map]
  conv => rhs; rw [e, List.filterMap_map]
  rfl
set_option maxHeartbeats 2000000 in
theorem told_grids (w : World) (B base : Nat) (n : Int) (LI LN LS LC LG : List Held) (aG : Option Addr) (len cG : Nat) (vs : List Value) (L : List (List Int)) (_ : L.length = len) (hV : RowV 1 w (.slice aG len cG) len vs) (hvl : vs.length = len) (hrows : ∀ i, i < len → ∃ a l, vs[i]? = some (.slice a l l) ∧ (rowL L i).length = l) (hnb : ∀ k, Value.ownBlock (.slice aG len cG) = some k → k < B)
    (S : BkS w B base n LI LN LS LC LG) (hm : LI.length + len ≤ 1000000) (hm2 : LG.length ≤ 1000000) (h1 : n + (len : Int) ≤ 1000000) :
    Calls Tryz.prog 30 #[.pointer (some ⟨B, 0, none⟩), .slice aG len cG] w fun e w' => e = .returned (.tuple #[]) ∧
      BkS w' B base (n + (len : Int) + 1) (LI ++ heldsR n vs L len) LN LS LC (LG ++ [⟨.slice aG len cG, len, vs, .slice none 0 0, n + (len : Int) + 1⟩]) ∧ Below B w w' := by
  have hn0 : 0 ≤ n := by obtain ⟨f, S⟩ := S; exact S.n0
  have hBl : B < w.heap.size := by obtain ⟨f, S⟩ := S; have := S.lo; have := S.bz; omega
  have KS := Lib.hid S
  have HV := Lib.hid hV
  have HROW := Lib.hid hrows
  have HVL := Lib.hid hvl
  have HNB := Lib.hid hnb
  have hsl := hV.slice
  obtain ⟨aV, cV, hv, hcp, hcc, _⟩ := hsl
  cases hv
  clear S hV hrows hvl hnb
  go_enter Tryz.func30, Tryz.ntmps30
  go_wp2
  go_loopg [4] len (fun gg i wr => ∃ k : Nat, k ≤ len ∧ len - k ≤ gg ∧ i = .int .i64 k ∧ Hid (BkS wr B base (n + (k : Int)) (LI ++ heldsR n vs L k) LN LS LC LG) ∧ Hid (Below B w wr))
  case atStart =>
    refine ⟨0, Nat.zero_le _, by omega, rfl, ?_, Below.refl _ _⟩
    have e : n + ((0 : Nat) : Int) = n := by omega
    show BkS _ _ _ _ _ _ _ _ _
    rw [e, show heldsR n vs L 0 = [] from rfl, List.append_nil]
    exact KS.out
  case round =>
    obtain ⟨k, hk, hg, rfl, HS, HW⟩ := hrel
    by_cases hlt : k < len
    · have dkl : decide ((k : Int) < (len : Int)) = true := decide_eq_true (by omega)
      have hki : (k : Int) < (len : Int) := by omega
      obtain ⟨ar, lr, e1, e2⟩ := HROW.out k hlt
      have hgv : vs.getD k (.slice none 0 0) = .slice ar lr lr := by simp [e1]
      have HC := Lib.hid (told_ints wr B base (n + (k : Int)) (LI ++ heldsR n vs L k) LN LS LC LG ar lr lr ((rowL L k).map (Value.int .i64)) HS.out (by rw [List.length_append, heldsR_length]; omega) (by omega))
      have HEQ : Hid (heldRow n vs L k = ⟨.slice ar lr lr, lr, (rowL L k).map (Value.int .i64), .slice none 0 0, n + (k : Int) + 1⟩) := by show _ = _; unfold heldRow; rw [hgv, e2]
      rcases HV.out with ⟨_, h2, _⟩ | ⟨g, off, cap, hv, hr⟩
      · omega
      cases hv
      have x0 := (HW.out.cell (p := ⟨g, off + k, none⟩) (HNB.out g rfl)).trans (hr.cell k _ e1)
      clear hr hgv e1 e2
      go_wp2_with fail
      refine HC.out.mono ?_
      rintro e w2 ⟨rfl, hS, hb⟩
      have HS2 : Hid (BkS w2 B base (n + ((k + 1 : Nat) : Int)) (LI ++ heldsR n vs L (k + 1)) LN LS LC LG) := by
        show BkS _ _ _ _ _ _ _ _ _
        rw [heldsR_succ, ← List.append_assoc, HEQ.out, show n + ((k + 1 : Nat) : Int) = n + (k : Int) + 1 by omega]
        exact hS
      have HW2 := Lib.hid (HW.out.trans hb)
      clear hS hb x0 HC
      go_wp2
      go_roundg (len - (k + 1))
      case measure => omega
      case rel => exact ⟨k + 1, by omega, by omega, by go_num, HS2, HW2⟩
    · have dkl : decide ((k : Int) < (len : Int)) = false := decide_eq_false (by omega)
      obtain rfl : k = len := by omega
      have HC := Lib.hid (told_Grid wr B base (n + (k : Int)) (LI ++ heldsR n vs L k) LN LS LC LG aG k cG vs HS.out hm2 (by omega))
      go_wp2_with fail
      refine HC.out.mono ?_
      rintro e w2 ⟨rfl, hS, hb⟩
      have HS2 := Lib.hid hS
      have HW2 := Lib.hid (HW.out.trans hb)
      clear hS hb HC
      go_wp2
      go_returns
      exact ⟨rfl, HS2.out, HW2.out⟩
end Go.Proofs.YtekejcnphmnidaaGreatDoor
