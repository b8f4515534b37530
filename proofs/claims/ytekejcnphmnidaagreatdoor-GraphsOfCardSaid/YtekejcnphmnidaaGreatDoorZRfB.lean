import Derived.Test.YtekejcnphmnidaaGreatDoorZRfA
import Derived.Test.YtekejcnphmnidaaGreatDoorZBh
import Derived.BigRegion
namespace Go.Proofs.YtekejcnphmnidaaGreatDoor
open Go.RowKit
def RShape (w : World) (r : List Int) (e : Ending) (w' : World) : Prop :=
  Below w.heap.size w w' ∧ ((Gr.chk r = false ∧ ∃ E : Int, E ≠ 0 ∧ e = .returned (.tuple #[.slice none 0 0, .int .i64 E])) ∨ (Gr.chk r = true ∧ ∃ a len cap, e = .returned (.tuple #[.slice a len cap, .int .i64 0]) ∧ Ints w' a len cap r))
theorem rshape_bad {w w' : World} {r : List Int} (h : Gr.chk r = false) (hb : Below w.heap.size w w') (E : Int) (hE : E ≠ 0) : RShape w r (.returned (.tuple #[.slice none 0 0, .int .i64 E])) w' := ⟨hb, .inl ⟨h, E, hE, rfl⟩⟩
theorem rshape_none {w w' : World} {r : List Int} (h : r = []) (hb : Below w.heap.size w w') (E : Int) (hE : E ≠ 0) : RShape w r (.returned (.tuple #[.slice none 0 0, .int .i64 E])) w' := rshape_bad (by rw [h]; rfl) hb E hE
set_option maxHeartbeats 2000000 in
theorem rproduct_any (a b : Option Addr) (la ca lb cb : Nat) (l m : List Int) (w : World) (HA : Ints w a la ca l) (HB : Ints w b lb cb m) :
    Calls Tryz.prog 209 #[.slice a la ca, .slice b lb cb] w fun e w' => RShape w (Gr.product l m) e w' := by
  have KA := Lib.hid HA
  have KB := Lib.hid HB
  have ha1 := HA.le
  have ha2 := HA.cap_le
  have hb1 := HB.le
  have hb2 := HB.cap_le
  have LA := Lib.hid HA.length
  have LB := Lib.hid HB.length
  clear HA HB
  go_enter Tryz.func209, Tryz.ntmps209
  go_wp2_with fail
  refine (rcheck_any _ _ _ l _ KA.out).mono ?_
  rintro e w1 ⟨rfl, rfl⟩
  cases hcl : Gr.chk l with
  | false =>
    have HR := Lib.hid (show Gr.product l m = [] by unfold Gr.product; rw [if_pos (.inl hcl)])
    clear hcl
    go_wp2
    go_ret2
    exact rshape_none HR.out (Below.refl _ _) _ (by decide)
  | true =>
    go_wp2_with fail
    refine (rcheck_any _ _ _ m _ KB.out).mono ?_
    rintro e w1 ⟨rfl, rfl⟩
    cases hcm : Gr.chk m with
    | false =>
      have HR := Lib.hid (show Gr.product l m = [] by unfold Gr.product; rw [if_pos (.inr hcm)])
      clear hcl hcm
      go_wp2
      go_ret2
      exact rshape_none HR.out (Below.refl _ _) _ (by decide)
    | true =>
      have HP := Lib.hid (show Gr.product l m = if l.length ≠ 2 ∨ m.length ≠ 2 ∨ nth l 1 ≠ nth m 0 then [] else [nth l 0, nth m 1] by unfold Gr.product; rw [if_neg (by simp [hcl, hcm])])
      have HX := Lib.hid (Gr.chk_parts hcl).2.2
      have HY := Lib.hid (Gr.chk_parts hcm).2.2
      clear hcl hcm
      by_cases h1 : la = 2
      · subst h1
        have e1 : ((2 : Int) != 2) = false := rfl
        by_cases h2 : lb = 2
        · subst h2
          obtain ⟨ba, oa, rfl, _, hca⟩ := KA.out.at_ (by omega)
          obtain ⟨bb, ob, rfl, _, hcb⟩ := KB.out.at_ (by omega)
          have a0 := hca 0 (by omega)
          have a1 := hca 1 (by omega)
          have b0 := hcb 0 (by omega)
          have b1 := hcb 1 (by omega)
          rw [Nat.add_zero] at a0 b0
          have wa := KA.out.nth_wf (k := 0) (by omega)
          have wb := KB.out.nth_wf (k := 1) (by omega)
          clear hca hcb
          by_cases h3 : nth l 1 = nth m 0
          · have e3 : (nth l 1 != nth m 0) = false := by simp [h3]
            have HR := Lib.hid (show Gr.product l m = [nth l 0, nth m 1] by rw [HP.out, if_neg (by rw [LA.out, LB.out]; simp [h3])])
            clear h3
            go_wp2_with fail
            go_quiet (fail)
            have a0' : ∀ o, ((w.drewN nq).alloc o).cell? ⟨ba, oa, none⟩ = some (.int .i64 (nth l 0)) := fun o => Lib.cell?_alloc_some _ a0
            have b1' : ∀ o, ((w.drewN nq).alloc o).cell? ⟨bb, ob + 1, none⟩ = some (.int .i64 (nth m 1)) := fun o => Lib.cell?_alloc_some _ b1
            go_wp2_with fail
            go_region
            go_wp2
            go_ret2
            refine ⟨?_, .inr ⟨by rw [HR.out]; exact Gr.chk_two (HX.out _ (nth_mem l 0 (by rw [LA.out]; omega))) (HY.out _ (nth_mem m 1 (by rw [LB.out]; omega))), _, _, _, rfl, ?_⟩⟩
            · first
                | exact ((below_drewN _ _ _).drew.alloc (by simp) _)
                | exact ((below_drewN _ _ _).alloc (by simp) _).drew
            · rw [HR.out]
              exact ints_two (w.drewN (nq + 1)) _ _ wa wb
          · have e3 : (nth l 1 != nth m 0) = true := by simp [h3]
            have HR := Lib.hid (show Gr.product l m = [] by rw [HP.out, if_pos (.inr (.inr h3))])
            clear h3
            go_wp2_with fail
            go_quiet (fail)
            go_wp2
            go_ret2
            exact rshape_none HR.out (below_drewN _ _ _) _ (by decide)
        · have e2 : ((lb : Int) != 2) = true := by simp; omega
          have HR := Lib.hid (show Gr.product l m = [] by rw [HP.out, if_pos (.inr (.inl (by rw [LB.out]; exact h2)))])
          clear h2
          go_wp2_with fail
          go_quiet (fail)
          go_wp2
          go_ret2
          exact rshape_none HR.out (below_drewN _ _ _) _ (by decide)
      · have e1 : ((la : Int) != 2) = true := by simp; omega
        have HR := Lib.hid (show Gr.product l m = [] by rw [HP.out, if_pos (.inl (by rw [LA.out]; exact h1))])
        clear h1
        go_wp2_with fail
        go_quiet (fail)
        go_wp2
        go_ret2
        exact rshape_none HR.out (below_drewN _ _ _) _ (by decide)
set_option maxHeartbeats 2000000 in
theorem rturned_any (a b : Option Addr) (la ca lb cb : Nat) (l m : List Int) (w : World) (HA : Ints w a la ca l) (HB : Ints w b lb cb m) (hm : ∀ x ∈ m, 0 ≤ x ∧ x < (la : Int)) (hs : lb ≤ 1000000) :
    Calls Tryz.prog 212 #[.slice a la ca, .slice b lb cb] w fun e w' => ShapeS w (Gr.looked l m) e w' := by
  have KA := Lib.hid HA
  have KB := Lib.hid HB
  have ha1 := HA.le
  have ha2 := HA.cap_le
  have hb1 := HB.le
  have hb2 := HB.cap_le
  have LA := Lib.hid HA.length
  have LB := Lib.hid HB.length
  have HM := Lib.hid hm
  clear HA HB hm
  go_enter Tryz.func212, Tryz.ntmps212
  go_wp2
  go_loopg [5, 6] lb (fun gg v i wr => ∃ k : Nat, k ≤ lb ∧ lb - k ≤ gg ∧ i = .int .i64 k ∧ Hid (Own w.heap.size wr v (Gr.looked l (m.take k))) ∧ Hid (Below w.heap.size w wr))
  case atStart => exact ⟨0, Nat.zero_le _, by omega, rfl, Own.nil _ _, Below.refl _ _⟩
  case round =>
    obtain ⟨k, hk, hg, rfl, HO, HWr⟩ := hrel
    by_cases hlt : k < lb
    · have dkl : decide ((k : Int) < (lb : Int)) = true := decide_eq_true (by omega)
      have hkm : k < m.length := by rw [LB.out]; exact hlt
      obtain ⟨hv0, hv1⟩ := HM.out (nth m k) (nth_mem m k hkm)
      have HS := Lib.hid (Gr.looked_snoc l m k hkm)
      obtain ⟨bb, ob, rfl, _, hcb⟩ := (KB.out.below HWr.out).at_ (by omega)
      have hbk := hcb k hlt
      obtain ⟨ba, oa, rfl, _, hca⟩ := (KA.out.below HWr.out).get (x := nth m k) hv0 hv1
      clear hcb
      go_wp2_with (at_builtin; go_must (refine wpList_app1 _ rfl _ _ rfl w.heap.size _ _ _ HO.out rfl rfl HWr.out.size ?c1 ?_))
      case c1 => rw [Gr.looked_length, List.length_take]; omega
      intro v' w3 hown' hbel hgrow
      have HO' := Lib.hid hown'
      have HW3 : Hid (Below w.heap.size w w3) := HWr.out.trans hbel
      clear hown' hbel hgrow
      go_wp2
      go_roundg (lb - (k + 1))
      case measure => omega
      case rel => exact ⟨k + 1, by omega, by omega, by go_num, by rw [HS.out]; exact HO', HW3⟩
    · have dkl : decide ((k : Int) < (lb : Int)) = false := decide_eq_false (by omega)
      have hkm : m.length ≤ k := by rw [LB.out]; omega
      rw [List.take_of_length_le hkm] at HO
      have hwf : ∀ n ∈ Gr.looked l m, -9223372036854775808 ≤ n ∧ n ≤ 9223372036854775807 := fun n hn => by
        obtain ⟨x, hx, rfl⟩ := Gr.looked_mem hn
        obtain ⟨hx0, hx1⟩ := HM.out x hx
        exact KA.out.nth_wf (by omega)
      obtain ⟨ar, lr, cr, rfl, HRi, _⟩ := HO.out.ints hwf
      have KR := Lib.hid HRi
      clear HO HRi hwf
      go_wp2
      go_ret
      exact ⟨_, _, _, rfl, KR.out, HWr.out⟩
namespace Gr
def withoutK (l : List Int) (n : Int) (k : Nat) : List Int := if (k : Int) ≤ n then l.take k else (l.take k).eraseIdx n.toNat
theorem withoutK_zero (l : List Int) (n : Int) (h : 0 ≤ n) : withoutK l n 0 = [] := by unfold withoutK; rw [if_pos (by omega)]; simp
theorem withoutK_at (l : List Int) (k : Nat) (hk : k < l.length) : withoutK l (k : Int) (k + 1) = withoutK l (k : Int) k := by
  unfold withoutK
  rw [if_neg (by omega), if_pos (Int.le_refl _), Int.toNat_natCast, take_snoc l k hk, List.eraseIdx_append_of_length_le (by rw [List.length_take]; omega)]
  have : (l.take k).length = k := by rw [List.length_take]; omega
  rw [this, Nat.sub_self]; simp
theorem withoutK_next (l : List Int) (n : Int) (k : Nat) (hk : k < l.length) (h : (k : Int) ≠ n) (h0 : 0 ≤ n) : withoutK l n (k + 1) = withoutK l n k ++ [nth l k] := by
  unfold withoutK
  by_cases c : (k : Int) < n
  · rw [if_pos (by omega), if_pos (by omega), take_snoc l k hk]
  · rw [if_neg (by omega), if_neg (by omega), take_snoc l k hk, List.eraseIdx_append_of_lt_length (by rw [List.length_take]; omega)]
theorem withoutK_length (l : List Int) (n : Int) (k : Nat) : (withoutK l n k).length ≤ k := by
  unfold withoutK
  split
  · rw [List.length_take]; omega
  · refine Nat.le_trans (List.length_eraseIdx_le _ _) ?_
    rw [List.length_take]; omega
theorem withoutK_mem {l : List Int} {n : Int} {k : Nat} {x : Int} (h : x ∈ withoutK l n k) : x ∈ l := by
  unfold withoutK at h
  split at h
  · exact List.mem_of_mem_take h
  · exact List.mem_of_mem_take (List.mem_of_mem_eraseIdx h)
def withoutR (l : List Int) (n : Int) : List Int := if withoutK l n l.length = [] then [1] else withoutK l n l.length
theorem withoutK_same (l : List Int) (n : Int) (k : Nat) (hk : k < l.length) (h : (k : Int) = n) : withoutK l n k = withoutK l n (k + 1) := by
  subst h; exact (withoutK_at l k hk).symm
theorem withoutK_all (l : List Int) (n : Int) (k : Nat) (h : k = l.length) : withoutK l n k = withoutK l n l.length := by rw [h]
theorem withoutR_eq {l : List Int} {n : Int} (h0 : 0 ≤ n) (h : n < (l.length : Int)) : withoutR l n = without l n := by
  have hK : withoutK l n l.length = l.eraseIdx n.toNat := by
    unfold withoutK
    have h2 : ¬ ((l.length : Int) ≤ n) := by omega
    rw [if_neg h2, List.take_length]
  have hW : without l n = if l.length = 1 then [1] else l.eraseIdx n.toNat := by
    unfold without
    have h2 : ¬ ((l.length : Int) ≤ n) := by omega
    rw [if_neg h2]
  unfold withoutR
  rw [hK, hW]
  by_cases c : l.length = 1
  · have : l.eraseIdx n.toNat = [] := List.eq_nil_of_length_eq_zero (by rw [List.length_eraseIdx_of_lt (by omega)]; omega)
    rw [if_pos this, if_pos c]
  · have : l.eraseIdx n.toNat ≠ [] := fun e => by
      have := congrArg List.length e
      rw [List.length_eraseIdx_of_lt (by omega)] at this
      simp at this
      omega
    rw [if_neg this, if_neg c]
end Gr
set_option maxHeartbeats 2000000 in
theorem rwithout_any (a : Option Addr) (la ca : Nat) (l : List Int) (n : Int) (w : World) (HA : Ints w a la ca l) (h0 : 0 ≤ n) (hs : la ≤ 1000000) :
    Calls Tryz.prog 214 #[.slice a la ca, .int .i64 n] w fun e w' => ShapeS w (Gr.withoutR l n) e w' := by
  have KA := Lib.hid HA
  have ha1 := HA.le
  have ha2 := HA.cap_le
  have LA := Lib.hid HA.length
  clear HA
  go_enter Tryz.func214, Tryz.ntmps214
  go_wp2
  go_loopg [5, 6] la (fun gg v i wr => ∃ k : Nat, k ≤ la ∧ la - k ≤ gg ∧ i = .int .i64 k ∧ Hid (Own w.heap.size wr v (Gr.withoutK l n k)) ∧ Hid (Below w.heap.size w wr))
  case atStart => exact ⟨0, Nat.zero_le _, by omega, rfl, by show Own _ _ _ _; rw [Gr.withoutK_zero l n h0]; exact Own.nil _ _, Below.refl _ _⟩
  case round =>
    obtain ⟨k, hk, hg, rfl, HO, HWr⟩ := hrel
    by_cases hlt : k < la
    · have dkl : decide ((k : Int) < (la : Int)) = true := decide_eq_true (by omega)
      have hkl : k < l.length := by rw [LA.out]; exact hlt
      obtain ⟨ba, oa, rfl, _, hca⟩ := (KA.out.below HWr.out).at_ (by omega)
      have hak := hca k hlt
      clear hca
      by_cases hkn : (k : Int) = n
      · have e1 : ((k : Int) != n) = false := by simp [hkn]
        rw [Gr.withoutK_same l n k hkl hkn] at HO
        clear hkn
        go_wp2
        go_roundg (la - (k + 1))
        case measure => omega
        case rel => exact ⟨k + 1, by omega, by omega, by go_num, HO, HWr⟩
      · have e1 : ((k : Int) != n) = true := by simp [hkn]
        have HS := Lib.hid (Gr.withoutK_next l n k hkl hkn h0)
        clear hkn
        go_wp2_with (at_builtin; go_must (refine wpList_app1 _ rfl _ _ rfl w.heap.size _ _ _ HO.out rfl rfl HWr.out.size ?c1 ?_))
        case c1 => have := Gr.withoutK_length l n k; omega
        intro v' w3 hown' hbel hgrow
        have HO' := Lib.hid hown'
        have HW3 : Hid (Below w.heap.size w w3) := HWr.out.trans hbel
        clear hown' hbel hgrow
        go_wp2
        go_roundg (la - (k + 1))
        case measure => omega
        case rel => exact ⟨k + 1, by omega, by omega, by go_num, by rw [HS.out]; exact HO', HW3⟩
    · have dkl : decide ((k : Int) < (la : Int)) = false := decide_eq_false (by omega)
      have hkl : k = l.length := by rw [LA.out]; omega
      rw [Gr.withoutK_all l n k hkl] at HO
      have hwf : ∀ x ∈ Gr.withoutK l n l.length, -9223372036854775808 ≤ x ∧ x ≤ 9223372036854775807 := fun x hx => by
        have hm := Gr.withoutK_mem hx
        exact KA.out.wf x hm
      obtain ⟨ar, lr, cr, rfl, HRi, _⟩ := HO.out.ints hwf
      have KR := Lib.hid HRi
      have hrl := HRi.length
      have hrle := HRi.le
      have hrcl := HRi.cap_le
      clear HO HRi hwf hkl
      by_cases hz : lr = 0
      · have e1 : ((lr : Int) == 0) = true := by simp [hz]
        have HR : Hid (Gr.withoutR l n = [1]) := by
          show _ = _
          unfold Gr.withoutR
          rw [if_pos (List.eq_nil_of_length_eq_zero (by omega))]
        clear hz hrl
        go_wp2
        go_ret
        exact ⟨_, _, _, rfl, by rw [HR.out]; exact ints_lits wr _ [1] rfl (by decide) (by decide), HWr.out.alloc HWr.out.size _⟩
      · have e1 : ((lr : Int) == 0) = false := by simp; omega
        have HR : Hid (Gr.withoutR l n = Gr.withoutK l n l.length) := by
          show _ = _
          unfold Gr.withoutR
          rw [if_neg (fun e => by rw [e] at hrl; simp at hrl; omega)]
        clear hz hrl
        go_wp2
        go_ret
        exact ⟨_, _, _, rfl, by rw [HR.out]; exact KR.out, HWr.out⟩
end Go.Proofs.YtekejcnphmnidaaGreatDoor
