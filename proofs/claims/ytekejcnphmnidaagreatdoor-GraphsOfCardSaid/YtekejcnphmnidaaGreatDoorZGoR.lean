import Derived.Test.YtekejcnphmnidaaGreatDoorZBh
namespace Go.Proofs.YtekejcnphmnidaaGreatDoor
open Go.RowKit
set_option maxHeartbeats 2000000 in
theorem rinput_any (a : Option Addr) (len cap : Nat) (g : List Gr.Node) (w : World) (HN : Nodes w a len cap g) :
    Calls Tryz.prog 27 #[.agg #[.slice a len cap]] w fun e w' => e = .returned (.int .i64 (Gr.inputIx g)) ∧ Below w.heap.size w w' := by
  have LN := Lib.hid HN.length
  have hle := HN.le
  have hcl := HN.cap_le
  have K0 := Lib.hid (GSt.start HN)
  have c0 := K0.out.cell
  clear HN
  go_enter Tryz.func27, Tryz.ntmps27
  go_wp2
  generalize w.alloc (.cells #[.slice a len cap] 56) = w1 at *
  go_loopg [3] len (fun gg i wr => ∃ k : Nat, k ≤ len ∧ len - k ≤ gg ∧ i = .int .i64 k ∧ Hid (∀ j (hj : j < g.length), j < k → g[j].kind ≠ 1) ∧ Hid (GSt w a len cap g wr))
  case atStart => exact ⟨0, Nat.zero_le _, by omega, rfl, fun j _ hj => absurd hj (Nat.not_lt_zero _), K0⟩
  case round =>
    obtain ⟨k, hk, hg, rfl, HT, HW⟩ := hrel
    have cr := HW.out.cell
    by_cases hlt : k < len
    · obtain ⟨b, off, ai, li, ci, sa, ls, cs, rfl, _, n0, n1, n2, n3, n4, _⟩ := HW.out.n.get (Below.refl _ wr) hlt
      have dkl : decide ((k : Int) < (len : Int)) = true := decide_eq_true (by omega)
      have HK : Hid (g[k]'(by rw [LN.out]; exact hlt) = nodeN g k) := (nodeN_eq g k (by rw [LN.out]; exact hlt)).symm
      clear n1 n2 n3 n4
      by_cases c : (nodeN g k).kind = 1
      · have HR : Hid (Gr.inputIx g = (k : Int)) := by
          have h1 := Gr.inputN_eq (g := g) (k := k) (by rw [LN.out]; exact hlt) HT.out (by rw [HK.out]; exact c)
          show _ = _
          unfold Gr.inputIx
          rw [h1, if_pos (by rw [LN.out]; exact hlt)]
        have dc : ((nodeN g k).kind == 1) = true := by simp [c]
        clear c HK HT
        generalize (nodeN g k).kind = kd at *
        go_wp2
        go_ret
        exact ⟨by rw [HR.out]; rfl, HW.out.bel⟩
      · have HT2 : Hid (∀ j (hj : j < g.length), j < k + 1 → g[j].kind ≠ 1) := fun j hj hjk => by
          rcases Nat.lt_succ_iff_lt_or_eq.1 hjk with h | h
          · exact HT.out j hj h
          · subst h; rw [HK.out]; exact c
        have dc : ((nodeN g k).kind == 1) = false := by simp [c]
        clear c HK HT
        generalize (nodeN g k).kind = kd at *
        go_wp2
        go_roundg (len - (k + 1))
        case measure => omega
        case rel => exact ⟨k + 1, by omega, by omega, by go_num, HT2, HW⟩
    · have dkl : decide ((k : Int) < (len : Int)) = false := decide_eq_false (by omega)
      have HR : Hid (Gr.inputIx g = -1) := by
        have h1 := Gr.inputN_none (g := g) (fun j hj => HT.out j hj (by have := LN.out; omega))
        show _ = _
        unfold Gr.inputIx
        rw [h1, if_neg (by omega)]
      go_wp2
      go_ret
      exact ⟨by rw [HR.out]; rfl, HW.out.bel⟩
set_option maxHeartbeats 2000000 in
theorem rweights_any (a : Option Addr) (len cap : Nat) (g : List Gr.Node) (w : World) (HN : Nodes w a len cap g) :
    Calls Tryz.prog 25 #[.agg #[.slice a len cap]] w fun e w' => ∃ a1 l1 c1, e = .returned (.slice a1 l1 c1) ∧ Ints w' a1 l1 c1 (Gr.weights g) ∧ Below w.heap.size w w' := by
  have LN := Lib.hid HN.length
  have hle := HN.le
  have hcl := HN.cap_le
  have hll := HN.len_le
  have KN := Lib.hid HN
  have K0 := Lib.hid (GSt.start HN)
  have c0 := K0.out.cell
  clear HN
  go_enter Tryz.func25, Tryz.ntmps25
  go_wp2
  generalize w.alloc (.cells #[.slice a len cap] 56) = w1 at *
  go_loopg [3, 4] len (fun gg v i wr => ∃ k : Nat, k ≤ len ∧ len - k ≤ gg ∧ i = .int .i64 k ∧ Hid (Own (w.heap.size + 1) wr v (Gr.weights (g.take k))) ∧ Hid (GSt w a len cap g wr))
  case atStart => exact ⟨0, Nat.zero_le _, by omega, rfl, Own.nil _ _, K0⟩
  case round =>
    obtain ⟨k, hk, hg, rfl, HO, HW⟩ := hrel
    have cr := HW.out.cell
    by_cases hlt : k < len
    · obtain ⟨b, off, ai, li, ci, sa, ls, cs, rfl, _, n0, n1, n2, n3, n4, _⟩ := HW.out.n.get (Below.refl _ wr) hlt
      have dkl : decide ((k : Int) < (len : Int)) = true := decide_eq_true (by omega)
      have HS := Lib.hid (Gr.weights_snoc (g := g) (k := k) (by rw [LN.out]; exact hlt))
      rw [← nodeN_eq g k (by rw [LN.out]; exact hlt)] at HS
      clear n1 n2 n3 n4
      generalize (nodeN g k).kind = kd at *
      have hln : (Gr.weights (g.take k)).length ≤ k := Nat.le_trans (Gr.weightsF_length _ _) (List.length_take_le _ _)
      by_cases c : kd = 2
      · have dc : (kd == 2) = true := by simp [c]
        rw [if_pos c] at HS
        clear c
        go_wp2_with (at_builtin; go_must (refine wpList_app1w _ rfl _ _ rfl (w.heap.size + 1) _ _ _ HO.out rfl rfl ?c0 ?c1 ?_))
        case c0 => have := HW.out.lt; omega
        case c1 => omega
        intro v' w3 hown' hbel hgrow
        rw [← HS.out] at hown'
        have HO' := Lib.hid hown'
        have HW3 : Hid (GSt w _ len cap g w3) := ⟨HW.out.bel.trans (hbel.mono (Nat.le_succ _)), (hbel.cell (p := ⟨w.heap.size, 0, none⟩) (Nat.lt_succ_self _)).trans cr, Nat.lt_of_lt_of_le HW.out.lt hbel.size, KN.out.on (HW.out.bel.trans (hbel.mono (Nat.le_succ _)))⟩
        clear hown' hbel hgrow n0
        go_wp2
        go_roundg (len - (k + 1))
        case measure => exact Nat.lt_of_lt_of_le (Nat.sub_lt_sub_left hlt (Nat.lt_succ_self k)) hg
        case rel => exact ⟨k + 1, Nat.succ_le_of_lt hlt, Nat.le_refl _, by go_num, HO', HW3⟩
      · have dc : (kd == 2) = false := by simp [c]
        rw [if_neg c, List.append_nil] at HS
        clear c
        go_wp2
        go_roundg (len - (k + 1))
        case measure => exact Nat.lt_of_lt_of_le (Nat.sub_lt_sub_left hlt (Nat.lt_succ_self k)) hg
        case rel => exact ⟨k + 1, Nat.succ_le_of_lt hlt, Nat.le_refl _, by go_num, by rw [HS.out]; exact HO.out, HW⟩
    · have dkl : decide ((k : Int) < (len : Int)) = false := decide_eq_false (by omega)
      rw [List.take_of_length_le (by rw [LN.out]; omega)] at HO
      obtain ⟨a1, l1, c1, rfl, hI, _⟩ := HO.out.ints (fun v hv => by have := Gr.weightsF_mem g 0 v hv; have := LN.out; omega)
      have HI := Lib.hid hI
      clear hI
      go_wp2
      go_ret
      exact ⟨_, _, _, rfl, HI.out, HW.out.bel⟩
end Go.Proofs.YtekejcnphmnidaaGreatDoor
