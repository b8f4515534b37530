import Derived.Test.YtekejcnphmnidaaGreatDoorZOrRef
namespace Go.Proofs.YtekejcnphmnidaaGreatDoor
open Go.RowKit
namespace Od
open Gr
def NextAt (g : List Gr.Node) (l : List Int) (n a0 i : Nat) (x : Int) : Prop :=
  (x = -1 ∧ ∀ j, a0 ≤ j → j < i → takes g l j n = false) ∨ ∃ i' : Nat, x = (i' : Int) ∧ a0 ≤ i' ∧ i' < l.length ∧ i' < i ∧ takes g l i' n = true ∧ ∀ j, a0 ≤ j → j < i' → takes g l j n = false
theorem next_is {g : List Gr.Node} {l : List Int} (h : mayB g l = true) {n a0 : Nat} (hn : n < g.length - 1) (ha : a0 ≤ l.length) {i : Nat} {x : Int} (hx : NextAt g l n a0 i x) (hi : l.length ≤ i ∨ 0 ≤ x) : nth (next g l ((a0 : Int) - 1)) n = x := by
  rw [next_nth l _ hn, show ((l.length : Int) - 1 - ((a0 : Int) - 1)).toNat = l.length - a0 by omega]
  have hf := nextD_first h (n := n) (by omega) (l.length - a0) (by omega)
  rw [show l.length - (l.length - a0) = a0 by omega] at hf
  rcases hx with ⟨rfl, hx⟩ | ⟨i', rfl, h1, h2, h3, h4, h5⟩
  · rcases hf with ⟨hf, _⟩ | ⟨k, k1, k2, k3, k4, _⟩
    · exact hf
    · have := hx k k1 (by omega)
      rw [k4] at this; cases this
  · rcases hf with ⟨_, hf⟩ | ⟨k, k1, k2, k3, k4, k5⟩
    · have := hf i' h1 h2
      rw [h4] at this; cases this
    · rw [k3]
      congr 1
      rcases Nat.lt_trichotomy k i' with h | h | h
      · have := h5 k k1 h; rw [k4] at this; cases this
      · exact h
      · have := k5 i' h1 h; rw [h4] at this; cases this
end Od
set_option maxHeartbeats 8000000 in
set_option maxRecDepth 100000 in
theorem rnext_any (a : Option Addr) (len cap : Nat) (g : List Gr.Node) (ao : Option Addr) (lo co : Nat) (l : List Int) (at_ : Int) (w : World) (HN : Nodes w a len cap g) (HO : Ints w ao lo co l) (hlo : lo ≤ 17592186044416)
    (hat0 : -9223372036854775808 ≤ at_) (hat1 : at_ ≤ 9223372036854775807) :
    Calls Tryz.prog 48 #[.agg #[.slice a len cap], .slice ao lo co, .int .i64 at_] w fun e w' => ListE w (Od.nextO g l at_) e w' := by
  have KO := Lib.hid HO
  have LO := Lib.hid HO.length
  have LN := Lib.hid HN.length
  have ho1 := HO.le
  have ho2 := HO.cap_le
  have K0 := Lib.hid (GSt.start HN)
  clear HO HN
  go_enter Tryz.func48, Tryz.ntmps48
  go_wp2_with fail
  refine (rord12_any _ _ _ g _ _ _ l _ K0.out.n (KO.out.below ((Below.refl _ _).alloc (Nat.le_refl _) _))).mono ?_
  rintro e w1 ⟨rfl, hb⟩
  have K1 := Lib.hid (K0.out.on hb)
  have c1 := K1.out.cell
  clear hb K0
  by_cases hm : Od.mayB g l = true
  case neg =>
    have HR : Hid (Od.nextO g l at_ = none) := if_neg (fun h => hm h.1)
    have hm2 : Od.mayB g l = false := by simpa using hm
    rw [hm2]
    clear hm hm2
    go_wp2
    go_ret2
    exact ⟨K1.out.bel, .inl ⟨HR.out, rfl⟩⟩
  case pos =>
    obtain ⟨hl1, hl2, hor⟩ := Od.may_parts hm
    rw [LN.out] at hl1 hl2
    have hlen : lo ≤ len := by
      have h1 : Od.okB g.length l = true := by
        unfold Od.mayB at hm
        simp only [Bool.and_eq_true] at hm
        exact hm.2
      have := okB_len h1
      rw [LO.out, LN.out] at this; exact this
    have HMAY := Lib.hid hm
    by_cases p1 : at_ < -1
    · have d1 : decide (at_ < -1) = true := decide_eq_true p1
      have HR : Hid (Od.nextO g l at_ = none) := if_neg (fun h => by omega)
      rw [hm]
      clear p1 hm hor
      go_wp2
      go_ret2
      exact ⟨K1.out.bel, .inl ⟨HR.out, rfl⟩⟩
    have d1 : decide (at_ < -1) = false := decide_eq_false p1
    by_cases p2 : (lo : Int) ≤ at_
    · have d2 : decide (at_ ≥ (lo : Int)) = true := decide_eq_true p2
      have HR : Hid (Od.nextO g l at_ = none) := if_neg (fun h => by have := LO.out; omega)
      rw [hm]
      clear p1 p2 hm hor
      go_wp2
      go_ret2
      exact ⟨K1.out.bel, .inl ⟨HR.out, rfl⟩⟩
    have d2 : decide (at_ ≥ (lo : Int)) = false := decide_eq_false p2
    have HR : Hid (Od.nextO g l at_ = some (Od.next g l at_)) := if_pos ⟨hm, by omega, by have := LO.out; omega⟩
    obtain ⟨a0, ha0⟩ : ∃ a0 : Nat, (a0 : Int) - 1 = at_ := ⟨(at_ + 1).toNat, by omega⟩
    have ha1 : a0 ≤ lo := by omega
    have HOR : Hid (∀ i, i < lo → 0 ≤ nth l i ∧ nth l i < (len : Int)) := fun i hi => by have := hor i (by rw [LO.out]; exact hi); rw [LN.out] at this; exact this
    have HNB : Hid (∀ n, n < len → -1 ≤ nth (Od.next g l at_) n ∧ nth (Od.next g l at_) n ≤ 9223372036854775807) := fun n hn => by
      by_cases e : n = len - 1
      · subst e
        rw [← LN.out, Od.next_last l at_ (by rw [LN.out]; omega), LO.out]; omega
      · rw [Od.next_nth l at_ (by rw [LN.out]; omega)]
        rcases Od.nextD_first hm (n := n) (by rw [LN.out]; exact hn) ((l.length : Int) - 1 - at_).toNat (by have := LO.out; omega) with ⟨h, _⟩ | ⟨i, _, h2, h, _⟩
        · rw [h]; omega
        · rw [h]; have := LO.out; omega
    rw [hm]
    have HA0 := Lib.hid ha0
    have rs : IntKind.i64.wrap (at_ + 1) = (a0 : Int) := by rw [IntKind.wrap_i64]; omega
    have HRS := Lib.hid rs
    have HNL : Hid ((Od.next g l at_).length = len) := by show _ = _; rw [Od.next_length, LN.out]
    clear hm hor ha0 rs p1 p2
    go_wp2
    go_loopg [8, 9] len (fun gg v i wr => ∃ (k : Nat), k ≤ len ∧ len - k ≤ gg ∧ i = .int .i64 k ∧ Hid (Own w1.heap.size wr v ((Od.next g l at_).take k)) ∧ Hid (Below w1.heap.size w1 wr))
    case atStart => exact ⟨0, Nat.zero_le _, by omega, rfl, Own.nil _ _, Below.refl _ _⟩
    case round =>
      obtain ⟨k, hk, hg, rfl, HOw, HBr⟩ := hrel
      have Kr := Lib.hid (K1.out.on HBr.out)
      have cr := Kr.out.cell
      by_cases hlt : k < len
      · have dkl : decide ((k : Int) < (len : Int)) = true := decide_eq_true (by omega)
        have rs := HRS.out
        have hat2 : -1 ≤ at_ := by have := HA0.out; omega
        have hat3 : at_ ≤ 1000000 := by have := HA0.out; omega
        have HOwr := HOw
        go_wp2
        go_loopg [10, 11] lo (fun gg x i wv => ∃ (j : Nat) (y : Int), a0 ≤ j ∧ j ≤ lo ∧ lo - j ≤ gg ∧ i = .int .i64 j ∧ x = .int .i64 y ∧ (-1 ≤ y ∧ y ≤ 1000000) ∧ Hid (Od.NextAt g l k a0 j y) ∧ Hid (∃ t, wv = wr.drewN t))
        case atStart => exact ⟨a0, -1, Nat.le_refl _, ha1, by omega, rfl, rfl, by omega, .inl ⟨rfl, fun j h1 h2 => by omega⟩, 0, rfl⟩
        case round =>
          rename World => wx
          obtain ⟨j, y, hj0, hj, hgj, rfl, rfl, hy, HNA, HT⟩ := hrel
          obtain ⟨t, rfl⟩ := HT.out
          by_cases hltj : j < lo
          · have djl : decide ((j : Int) < (lo : Int)) = true := decide_eq_true (by omega)
            by_cases hyn : y < 0
            · have dy : decide (y < 0) = true := decide_eq_true hyn
              obtain ⟨bo, oo, rfl, _, hco⟩ := (KO.out.below Kr.out.bel).at_ (by omega)
              have hck := hco j hltj
              obtain ⟨hn0, hn1⟩ := HOR.out j hltj
              have HTK : Hid (Od.takes g l j k = hasB (nodeN g (nth l j).toNat).inn (k : Int)) := rfl
              clear hco
              generalize nth l j = n at *
              obtain ⟨m, rfl⟩ : ∃ m : Nat, n = (m : Int) := ⟨n.toNat, by omega⟩
              rw [Int.toNat_natCast] at HTK
              have hmm : m < len := by omega
              obtain ⟨b, off, eA, hbl, hcs⟩ := Kr.out.n.at_ (by omega)
              obtain ⟨ai, li, ci, sa, ls, cs, _, m1, _, _, _, hV⟩ := hcs m hmm
              subst eA
              have HC : Hid (∀ s, Calls Tryz.prog 135 #[.slice ai li ci, .int .i64 (k : Int)] (wr.drewN s) fun e w' => e = .returned (.bool (Od.takes g l j k)) ∧ w' = wr.drewN s) := fun s => (rin_any _ _ _ _ _ _ (hV.i.drewN s)).mono fun _ _ ⟨he, hw⟩ => ⟨by rw [he, HTK.out], hw.symm⟩
              have hjc : j < co := by omega
              have hji : (j : Int) < (lo : Int) := by omega
              clear hV hcs
              have HNY : Hid (Od.takes g l j k = true → Od.NextAt g l k a0 (j + 1) (j : Int)) := fun ht => by
                rcases HNA.out with ⟨_, h⟩ | ⟨i', h, _⟩
                · exact .inr ⟨j, rfl, hj0, by rw [LO.out]; exact hltj, Nat.lt_succ_self _, ht, h⟩
                · omega
              have HNN : Hid (Od.takes g l j k = false → Od.NextAt g l k a0 (j + 1) y) := fun ht => by
                rcases HNA.out with ⟨e, h⟩ | ⟨i', h, _⟩
                · refine .inl ⟨e, fun q h1 h2 => ?_⟩
                  by_cases e2 : q = j
                  · subst e2; exact ht
                  · exact h q h1 (by omega)
                · omega
              clear HTK
              generalize Od.takes g l j k = tk at *
              cases tk
              · have HN9 := Lib.hid (HNN.out rfl)
                clear HNY HNN
                go_wp2_with fail
                go_quiet ((go_at_call 135; exact quiet_more (HC.out _)))
                go_wp2
                go_roundg (lo - (j + 1))
                case measure => omega
                case rel => exact ⟨j + 1, y, by omega, by omega, by omega, by go_num, rfl, hy, HN9, ⟨t + nq, by simp⟩⟩
              · have HN9 := Lib.hid (HNY.out rfl)
                clear HNY HNN
                go_wp2_with fail
                go_quiet ((go_at_call 135; exact quiet_more (HC.out _)))
                go_wp2
                go_roundg (lo - (j + 1))
                case measure => omega
                case rel => exact ⟨j + 1, (j : Int), by omega, by omega, by omega, by go_num, rfl, by omega, HN9, ⟨t + nq, by simp⟩⟩
            · have dy : decide (y < 0) = false := decide_eq_false hyn
              have HX : Hid (k < len - 1 → nth (Od.next g l at_) k = y) := fun hkl => by
                have := Od.next_is HMAY.out (n := k) (a0 := a0) (by rw [LN.out]; exact hkl) (by rw [LO.out]; exact ha1) HNA.out (.inr (by omega))
                rw [HA0.out] at this; exact this
              have HOd := Lib.hid (HOwr.out.below (below_drewN wr t _))
              have HBd : Hid (Below w1.heap.size w1 (wr.drewN t)) := HBr.out.trans (below_drewN _ _ _)
              have HZd := Lib.hid HBd.out.size
              have HSN := Lib.hid (take_snoc (Od.next g l at_) k (by rw [HNL.out]; exact hlt))
              have hlnk : ((Od.next g l at_).take k).length ≤ k := List.length_take_le _ _
              by_cases e : k = len - 1
              · have de : ((k : Int) == (len : Int) - 1) = true := by have : (k : Int) = (len : Int) - 1 := by omega
                                                                      simp [this]
                have HLS : Hid (nth (Od.next g l at_) k = (lo : Int)) := by
                  show _ = _
                  rw [e, ← LN.out, Od.next_last l at_ (by rw [LN.out]; omega), LO.out]
                clear e
                go_wp2_with (at_builtin; go_must (refine wpList_app1w _ rfl _ _ rfl w1.heap.size _ _ _ HOd.out rfl rfl HZd.out (by omega) ?_))
                intro v' w3 hown' hbel hgrow
                rw [← HLS.out, ← HSN.out] at hown'
                have HO3 := Lib.hid hown'
                have HB3 : Hid (Below w1.heap.size w1 w3) := HBd.out.trans hbel
                clear hown' hbel hgrow
                go_wp2
                go_roundg (len - (k + 1))
                case measure => omega
                case rel => exact ⟨k + 1, by omega, by omega, by go_num, HO3, HB3⟩
              · have de : ((k : Int) == (len : Int) - 1) = false := by have : ¬ (k : Int) = (len : Int) - 1 := by omega
                                                                       simp [this]
                have HLS := Lib.hid (HX.out (by omega))
                go_wp2_with (at_builtin; go_must (refine wpList_app1w _ rfl _ _ rfl w1.heap.size _ _ _ HOd.out rfl rfl HZd.out (by omega) ?_))
                intro v' w3 hown' hbel hgrow
                rw [← HLS.out, ← HSN.out] at hown'
                have HO3 := Lib.hid hown'
                have HB3 : Hid (Below w1.heap.size w1 w3) := HBd.out.trans hbel
                clear hown' hbel hgrow
                go_wp2
                go_roundg (len - (k + 1))
                case measure => omega
                case rel => exact ⟨k + 1, by omega, by omega, by go_num, HO3, HB3⟩
          · have djl : decide ((j : Int) < (lo : Int)) = false := decide_eq_false (by omega)
            have HX : Hid (k < len - 1 → nth (Od.next g l at_) k = y) := fun hkl => by
              have := Od.next_is HMAY.out (n := k) (a0 := a0) (by rw [LN.out]; exact hkl) (by rw [LO.out]; exact ha1) HNA.out (.inl (by rw [LO.out]; omega))
              rw [HA0.out] at this; exact this
            have HOd := Lib.hid (HOwr.out.below (below_drewN wr t _))
            have HBd : Hid (Below w1.heap.size w1 (wr.drewN t)) := HBr.out.trans (below_drewN _ _ _)
            have HZd := Lib.hid HBd.out.size
            have HSN := Lib.hid (take_snoc (Od.next g l at_) k (by rw [HNL.out]; exact hlt))
            have hlnk : ((Od.next g l at_).take k).length ≤ k := List.length_take_le _ _
            by_cases e : k = len - 1
            · have de : ((k : Int) == (len : Int) - 1) = true := by have : (k : Int) = (len : Int) - 1 := by omega
                                                                    simp [this]
              have HLS : Hid (nth (Od.next g l at_) k = (lo : Int)) := by
                show _ = _
                rw [e, ← LN.out, Od.next_last l at_ (by rw [LN.out]; omega), LO.out]
              clear e
              go_wp2_with (at_builtin; go_must (refine wpList_app1w _ rfl _ _ rfl w1.heap.size _ _ _ HOd.out rfl rfl HZd.out (by omega) ?_))
              intro v' w3 hown' hbel hgrow
              rw [← HLS.out, ← HSN.out] at hown'
              have HO3 := Lib.hid hown'
              have HB3 : Hid (Below w1.heap.size w1 w3) := HBd.out.trans hbel
              clear hown' hbel hgrow
              go_wp2
              go_roundg (len - (k + 1))
              case measure => omega
              case rel => exact ⟨k + 1, by omega, by omega, by go_num, HO3, HB3⟩
            · have de : ((k : Int) == (len : Int) - 1) = false := by have : ¬ (k : Int) = (len : Int) - 1 := by omega
                                                                     simp [this]
              have HLS := Lib.hid (HX.out (by omega))
              go_wp2_with (at_builtin; go_must (refine wpList_app1w _ rfl _ _ rfl w1.heap.size _ _ _ HOd.out rfl rfl HZd.out (by omega) ?_))
              intro v' w3 hown' hbel hgrow
              rw [← HLS.out, ← HSN.out] at hown'
              have HO3 := Lib.hid hown'
              have HB3 : Hid (Below w1.heap.size w1 w3) := HBd.out.trans hbel
              clear hown' hbel hgrow
              go_wp2
              go_roundg (len - (k + 1))
              case measure => omega
              case rel => exact ⟨k + 1, by omega, by omega, by go_num, HO3, HB3⟩
      · have dkl : decide ((k : Int) < (len : Int)) = false := decide_eq_false (by omega)
        obtain rfl : k = len := by omega
        rw [List.take_of_length_le (by rw [HNL.out]; exact Nat.le_refl _)] at HOw
        obtain ⟨a1, l1, c1', rfl, hI, _⟩ := HOw.out.ints (fun v hv => by
          obtain ⟨i, hi, rfl⟩ := List.getElem_of_mem hv
          have := HNB.out i (by rw [← HNL.out]; exact hi)
          rw [nth_eq _ i hi] at this
          omega)
        have HI := Lib.hid hI
        clear hI
        go_wp2
        go_ret2
        exact ⟨Kr.out.bel, .inr ⟨_, _, _, _, HR.out, rfl, HI.out⟩⟩
namespace Od
open Gr
structure Bfs (g : List Gr.Node) (len : Nat) (N : List Int) (i : Nat) : Prop where
  nd : N.Nodup
  rng : ∀ v ∈ N, 0 ≤ v ∧ v < (len : Int)
  root : ((len : Int) - 1) ∈ N
  src : ∀ v ∈ N, v = (len : Int) - 1 ∨ ∃ u ∈ N, v ∈ (nodeN g u.toNat).inn
  le : i ≤ N.length
  closed : ∀ j, j < i → ∀ v ∈ (nodeN g (nth N j).toNat).inn, v ∈ N
theorem nth_app {N : List Int} {v : Int} {j : Nat} (h : j < N.length) : nth (N ++ [v]) j = nth N j := by
  rw [nth_eq _ _ (by simp; omega), nth_eq _ _ h, List.getElem_append_left h]
theorem Bfs.add {g : List Gr.Node} {len : Nat} {N : List Int} {i : Nat} (h : Bfs g len N i) {m v : Int} (hm : m ∈ N) (hv : v ∈ (nodeN g m.toNat).inn) (hn : v ∉ N) (hr : 0 ≤ v ∧ v < (len : Int)) : Bfs g len (N ++ [v]) i := by
  refine ⟨?_, fun x hx => ?_, List.mem_append_left _ h.root, fun x hx => ?_, by rw [List.length_append]; have := h.le; omega, fun j hj x hx => ?_⟩
  · rw [List.nodup_append]
    refine ⟨h.nd, by simp, fun a ha b hb e => ?_⟩
    simp at hb; subst hb; subst e; exact hn ha
  · rcases List.mem_append.1 hx with hx | hx
    · exact h.rng x hx
    · simp at hx; subst hx; exact hr
  · rcases List.mem_append.1 hx with hx | hx
    · rcases h.src x hx with h1 | ⟨u, h1, h2⟩
      · exact .inl h1
      · exact .inr ⟨u, List.mem_append_left _ h1, h2⟩
    · simp at hx; subst hx; exact .inr ⟨m, List.mem_append_left _ hm, hv⟩
  · rw [nth_app (by have := h.le; omega)] at hx
    exact List.mem_append_left _ (h.closed j hj x hx)
theorem Bfs.next {g : List Gr.Node} {len : Nat} {N : List Int} {i : Nat} (h : Bfs g len N i) (hi : i < N.length) (hc : ∀ v ∈ (nodeN g (nth N i).toNat).inn, v ∈ N) : Bfs g len N (i + 1) :=
  ⟨h.nd, h.rng, h.root, h.src, hi, fun j hj => by
    by_cases e : j = i
    · subst e; exact hc
    · exact h.closed j (by omega)⟩
theorem bfs_iff {g : List Gr.Node} {len : Nat} {N : List Int} (hl : g.length = len) (hI : InnOk g len) (hN : Need g (needed g)) (h : Bfs g len N N.length) {k : Nat} (hk : k < len) : (k : Int) ∈ N ↔ 0 < nth (needed g) k := by
  subst hl
  have h1 : ∀ i, i < g.length → (i : Int) ∈ N → 0 < nth (needed g) i := down_ind g.length fun i hi ih hm => by
    rcases h.src _ hm with e | ⟨u, hu, hv⟩
    · rw [show i = g.length - 1 by omega]; exact hN.root
    · have hr := h.rng u hu
      have hlt := (hI u.toNat (by omega)).2 _ hv
      have hu2 : ((u.toNat : Nat) : Int) ∈ N := by rw [Int.toNat_of_nonneg hr.1]; exact hu
      have := ih u.toNat (by omega) (by omega) hu2
      have := hN.closed u.toNat (by omega) this _ hv
      rwa [Int.toNat_natCast] at this
  have h2 : ∀ i, i < g.length → 0 < nth (needed g) i → (i : Int) ∈ N := down_ind g.length fun i hi ih hp => by
    rcases hN.taken i hi hp with e | ⟨j, hj, hjl, hjp, hv⟩
    · have := h.root
      rw [show (i : Int) = (g.length : Int) - 1 by omega]; exact this
    · have hm := ih j hj hjl hjp
      obtain ⟨q, hq, hqe⟩ := mem_nth hm
      have := h.closed q hq (i : Int) (by rw [hqe, Int.toNat_natCast]; exact hv)
      exact this
  exact ⟨h1 k hk, h2 k hk⟩
def memV (N : List Int) (len : Nat) : List Int := (List.range len).map fun (k : Nat) => if hasB N (k : Int) = true then 1 else 0
theorem memV_length (N : List Int) (len : Nat) : (memV N len).length = len := by simp [memV]
theorem memV_nth (N : List Int) {len k : Nat} (hk : k < len) : nth (memV N len) k = if hasB N (k : Int) = true then 1 else 0 := by
  rw [nth_eq _ _ (by rw [memV_length]; exact hk)]; simp [memV]
theorem memV_ord {g : List Gr.Node} {len : Nat} {N : List Int} (hl : g.length = len) (hI : InnOk g len) (hN : Need g (needed g)) (h : Bfs g len N N.length) : placesF 0 (memV N len) = ordOf g := by
  unfold ordOf
  refine placesF_congr _ _ 0 (by rw [memV_length, hN.ln, hl]) (fun k hk => ?_)
  rw [memV_length] at hk
  rw [memV_nth N hk, ← bfs_iff hl hI hN h hk, ← hasB_iff]
  split
  · rename_i e; rw [e]; simp
  · rename_i e; simp only [e]; simp
end Od
theorem own_lit (w : World) (x : Int) : Own w.heap.size (w.alloc (.cells #[.int .i64 x] 3)) (.slice (some ⟨w.heap.size, 0, none⟩) 1 1) [x] :=
  ⟨rfl, .inr ⟨w.heap.size, 1, #[.int .i64 x], rfl, Nat.le_refl _, by show (w.heap.push _)[w.heap.size]? = _; simp, Nat.le_refl _, by unfold maxLen; omega, rfl, rfl⟩⟩
theorem Own.off {base : Nat} {w : World} {v : Value} {l : List Int} (h : Own base w v l) {bx : Nat} {cs : Array Value} (hx : w.heap[bx]? = some (.cells cs 103 (0, 0))) : v.ownBlock ≠ some bx := fun e => by
  obtain ⟨_, h2⟩ := h
  rcases h2 with ⟨rfl, _⟩ | ⟨g, cap, cur, rfl, _, hh, _⟩
  · cases e
  · have : g = bx := Option.some.inj e
    subst this
    rw [hx] at hh; cases hh
set_option maxHeartbeats 8000000 in
set_option maxRecDepth 100000 in
theorem rof_any (a : Option Addr) (len cap : Nat) (g : List Gr.Node) (w : World) (HN : Nodes w a len cap g) :
    Calls Tryz.prog 47 #[.agg #[.slice a len cap]] w fun e w' => ListE w (Od.ordO g) e w' := by
  have LN := Lib.hid HN.length
  have hle := HN.le
  have hcl := HN.cap_le
  have K0 := Lib.hid (GSt.start HN)
  clear HN
  go_enter Tryz.func47, Tryz.ntmps47
  go_wp2_with fail
  refine (rCheck_any _ _ _ g _ K0.out.n).mono ?_
  rintro e w1 ⟨rfl, hb⟩
  have K1 := Lib.hid (K0.out.on hb)
  have c1 := K1.out.cell
  clear hb K0
  by_cases hs : (Gr.shapes g).isSome = true
  case neg =>
    have HR : Hid (Od.ordO g = none) := if_neg hs
    have hs2 : (Gr.shapes g).isSome = false := by simpa using hs
    rw [hs2]
    clear hs hs2
    go_wp2
    go_ret2
    exact ⟨K1.out.bel, .inl ⟨HR.out, rfl⟩⟩
  case pos =>
    have HR : Hid (Od.ordO g = some (Od.ordOf g)) := if_pos hs
    rw [hs]
    obtain ⟨s, hss⟩ := Option.isSome_iff_exists.1 hs
    obtain ⟨⟨hl1, hl2⟩, hrun, _⟩ := Gr.shapes_iff.1 hss
    rw [LN.out] at hl1 hl2
    have HII : Hid (Od.InnOk g len) := fun n hn => by
      obtain ⟨k, h1, h2, h3, _⟩ := Gr.run_node hrun n (by rw [LN.out]; exact hn)
      have h4 := (Gr.ofB_parts h2).2.1
      have h5 := kindOf_bounds h1
      refine ⟨by omega, fun v hv => ?_⟩
      unfold Gr.okIn at h3
      have := List.all_eq_true.1 h3 v hv
      simpa using this
    have HND : Hid (Od.Need g (Od.needed g)) := Od.need_of (by rw [LN.out]; omega) (by rw [LN.out]; exact HII.out)
    have HO1 := Lib.hid (own_lit w1 ((len : Int) - 1))
    have HB1 : Hid (Below w1.heap.size w1 (w1.alloc (.cells #[.int .i64 ((len : Int) - 1)] 3))) := (Below.refl _ _).alloc (Nat.le_refl _) _
    have HF1 : Hid (Od.Bfs g len [(len : Int) - 1] 0) := ⟨by simp, fun v hv => by simp at hv; omega, by simp, fun v hv => by simp at hv; exact .inl hv, Nat.zero_le _, fun j hj => absurd hj (Nat.not_lt_zero _)⟩
    clear hs hss hrun
    go_wp2
    generalize w1.alloc (.cells #[.int .i64 ((len : Int) - 1)] 3) = w2 at *
    go_loopg [4, 5] len (fun gg u i wr => ∃ (k : Nat) (N : List Int), k ≤ len ∧ len - k ≤ gg ∧ i = .int .i64 k ∧ Hid (Own w1.heap.size wr u N) ∧ Hid (Od.Bfs g len N k) ∧ Hid (Below w1.heap.size w1 wr))
    case atStart => exact ⟨0, _, Nat.zero_le _, by omega, rfl, HO1, HF1, HB1⟩
    case round =>
      obtain ⟨k, N, hk, hg, rfl, HOw, HF, HBr⟩ := hrel
      have Kr := Lib.hid (K1.out.on HBr.out)
      have cr := Kr.out.cell
      have hNl : N.length ≤ len := nodup_len len N HF.out.nd HF.out.rng
      obtain ⟨aN, lN, cN, rfl, hIN, _⟩ := HOw.out.ints (fun v hv => by have := HF.out.rng v hv; omega)
      have LNN := Lib.hid hIN.length
      have hNc := hIN.le
      have hNc2 := hIN.cap_le
      have HIN := Lib.hid hIN
      have hlN : lN ≤ len := by rw [← LNN.out]; exact hNl
      clear hIN hNl
      by_cases hlt : k < lN
      · have dkl : decide ((k : Int) < (lN : Int)) = true := decide_eq_true (by omega)
        obtain ⟨bo, oo, rfl, _, hco⟩ := HIN.out.at_ (by omega)
        have hck := hco k hlt
        have hkN : k < N.length := by rw [LNN.out]; exact hlt
        obtain ⟨hn0, hn1⟩ := HF.out.rng (nth N k) (nth_mem N k hkN)
        have HMN := Lib.hid (nth_mem N k hkN)
        have HNK : Hid (nth N k = nth N k) := rfl
        clear hco
        generalize hnn : nth N k = n at *
        have HNE := Lib.hid hnn
        clear hnn
        obtain ⟨m, rfl⟩ : ∃ m : Nat, n = (m : Int) := ⟨n.toNat, by omega⟩
        have hm : m < len := by omega
        obtain ⟨b, off, eA, hbl, hcs⟩ := K1.out.n.at_ (by omega)
        obtain ⟨ai, li, ci, sa, ls, cs, m0, m1, m2, m3, m4, hV⟩ := hcs m hm
        subst eA
        have HVO : Hid (∀ bi oi, ai = some ⟨bi, oi, none⟩ → 0 < li → bi < w1.heap.size) := fun bi oi e h0 => by
          obtain ⟨b2, o2, e2, h2, _⟩ := hV.i.at_ h0
          rw [e] at e2; cases e2; exact h2
        replace m0 := (HBr.out.cell (p := ⟨b, off + m * 5, none⟩) hbl).trans m0
        replace m1 := (HBr.out.cell (p := ⟨b, off + m * 5 + 1, none⟩) hbl).trans m1
        replace m2 := (HBr.out.cell (p := ⟨b, off + m * 5 + 2, none⟩) hbl).trans m2
        replace m3 := (HBr.out.cell (p := ⟨b, off + m * 5 + 3, none⟩) hbl).trans m3
        replace m4 := (HBr.out.cell (p := ⟨b, off + m * 5 + 4, none⟩) hbl).trans m4
        have HV := Lib.hid (hV.i.below HBr.out)
        have HVL := Lib.hid hV.i.length
        have HIM := Lib.hid (HII.out m hm)
        have hli : li ≤ 4 := by have := HIM.out.1; rw [HVL.out] at this; exact this
        have HV1 := Lib.hid hV.i
        have hvc := hV.i.le
        have hvc2 := hV.i.cap_le
        have HINN : Hid ((nodeN g (m : Int).toNat).inn = (nodeN g m).inn) := rfl
        clear hV hcs
        generalize (nodeN g m).kind = kd at *
        generalize (nodeN g m).n = nn at *
        generalize (nodeN g m).pad = pp at *
        go_wp2_with fail
        refine nd_region (s0 := 1) (sL := 4) (sI := 5) (sX := 6) ⟨rfl, ⟨_, rfl, rfl, rfl, by kernel_rfl⟩, ⟨_, rfl, rfl, rfl, by kernel_rfl⟩, ⟨_, rfl, rfl, rfl, by kernel_rfl⟩, ⟨_, rfl, rfl, rfl, by kernel_rfl⟩, ⟨_, rfl, rfl, rfl, by kernel_rfl⟩, ⟨_, rfl, rfl, rfl, by kernel_rfl⟩, ⟨_, rfl, rfl, rfl, by kernel_rfl⟩, ⟨_, rfl, rfl, rfl, by kernel_rfl⟩, ⟨_, rfl, rfl, rfl, by kernel_rfl⟩, ⟨_, rfl, rfl, rfl, by kernel_rfl⟩⟩ (k := k) (n := m) (by decide) rfl (by kernel_rfl) rfl rfl rfl cr hlt hck hm m0 m1 m2 m3 m4 ?_
        simp only [Act.put, List.setIfInBounds_toArray, List.set_cons_succ, List.set_cons_zero]
        have HBX := Lib.hid (heap_box wr.drew #[.int .u8 kd, .slice ai li ci, .slice sa ls cs, .int .i64 nn, .int .i64 pp])
        have hBd : Below wr.heap.size wr wr.drew := (Below.refl _ _).drew
        have HBA : Hid (Below wr.heap.size wr (wr.drew.alloc (.cells #[.int .u8 kd, .slice ai li ci, .slice sa ls cs, .int .i64 nn, .int .i64 pp] 103))) := hBd.alloc (Nat.le_refl _) _
        have HO9 := Lib.hid (HOw.out.below HBA.out)
        have HB9 := Lib.hid (HBr.out.trans (HBA.out.mono HBr.out.size))
        have hwd : wr.drew.heap.size = wr.heap.size := rfl
        have hzr := HBr.out.size
        rw [hwd] at HBX
        clear hBd hwd cr hck m0 m1 m2 m3 m4
        generalize wr.drew.alloc (.cells #[.int .u8 kd, .slice ai li ci, .slice sa ls cs, .int .i64 nn, .int .i64 pp] 103) = w9 at *
        go_wp2
        go_loopg [4, 7] li (fun gg u i wv => ∃ (j : Nat) (M : List Int), j ≤ li ∧ li - j ≤ gg ∧ i = .int .i64 j ∧ Hid (Own w1.heap.size wv u M) ∧ Hid (Od.Bfs g len M k) ∧ Hid (k < M.length ∧ nth M k = (m : Int) ∧ (m : Int) ∈ M ∧ ∀ q, q < j → nth (nodeN g m).inn q ∈ M) ∧
          Hid (Below w1.heap.size w1 wv) ∧ Hid (wv.heap[wr.heap.size]? = some (.cells #[.int .u8 kd, .slice ai li ci, .slice sa ls cs, .int .i64 nn, .int .i64 pp] 103 (0, 0))) ∧ Hid (wr.heap.size < wv.heap.size))
        case atStart => exact ⟨0, N, Nat.zero_le _, by omega, rfl, HO9, HF, ⟨hkN, HNE.out, HMN.out, fun q hq => absurd hq (Nat.not_lt_zero _)⟩, HB9, HBX, (Array.getElem?_eq_some_iff.1 HBX.out).1⟩
        case round =>
          rename World => wx
          obtain ⟨j, M, hj, hgj, rfl, HOx, HFx, HMx, HBx, HXx, HZx⟩ := hrel
          have y1 := cell_box (i := 1) HXx.out rfl
          have hMl : M.length ≤ len := nodup_len len M HFx.out.nd HFx.out.rng
          by_cases hltj : j < li
          · have djl : decide ((j : Int) < (li : Int)) = true := decide_eq_true (by omega)
            obtain ⟨bi, oi, rfl, hbi, hci⟩ := (HV1.out.below HBx.out).at_ (by omega)
            have hcj := hci j hltj
            have HJM := Lib.hid (nth_mem (nodeN g m).inn j (by rw [HVL.out]; exact hltj))
            obtain ⟨hv0, hv1⟩ := HIM.out.2 (nth (nodeN g m).inn j) HJM.out
            obtain ⟨aM, lM, cM, rfl, hIM, _⟩ := HOx.out.ints (fun v hv => by have := HFx.out.rng v hv; omega)
            have LMM := Lib.hid hIM.length
            have HIM2 := Lib.hid hIM
            have hji : (j : Int) < (li : Int) := by omega
            have HNX : Hid (∀ M' : List Int, (∀ v ∈ M, v ∈ M') → nth (nodeN g m).inn j ∈ M' → ∀ q, q < j + 1 → nth (nodeN g m).inn q ∈ M') := fun M' h1 h2 q hq => by
              by_cases e : q = j
              · subst e; exact h2
              · exact h1 _ (HMx.out.2.2.2 q (by omega))
            clear hci hIM
            generalize nth (nodeN g m).inn j = v at *
            cases hh : hasB M v with
            | true =>
              have HH := Lib.hid hh
              have HM9 := Lib.hid (HNX.out M (fun v hv => hv) ((hasB_iff _ _).1 hh))
              clear hh
              go_wp2_with fail
              refine (rin_any _ _ _ M v _ HIM2.out).mono ?_
              rintro e w8 ⟨rfl, rfl⟩
              rw [HH.out]
              go_wp2
              go_roundg (li - (j + 1))
              case measure => omega
              case rel => exact ⟨j + 1, M, by omega, by omega, by go_num, HOx, HFx, ⟨HMx.out.1, HMx.out.2.1, HMx.out.2.2.1, HM9.out⟩, HBx, HXx, HZx⟩
            | false =>
              have HH := Lib.hid hh
              have hnm : v ∉ M := (hasB_false _ _).1 hh
              have HF9 := Lib.hid (HFx.out.add HMx.out.2.2.1 (by rw [HINN.out]; exact HJM.out) hnm ⟨hv0, by omega⟩)
              have HM9 : Hid (k < (M ++ [v]).length ∧ nth (M ++ [v]) k = (m : Int) ∧ (m : Int) ∈ M ++ [v] ∧ ∀ q, q < j + 1 → nth (nodeN g m).inn q ∈ M ++ [v]) := ⟨by rw [List.length_append]; have := HMx.out.1; omega, by rw [Od.nth_app HMx.out.1]; exact HMx.out.2.1, List.mem_append_left _ HMx.out.2.2.1, HNX.out _ (fun v hv => List.mem_append_left _ hv) (List.mem_append_right _ (by simp))⟩
              have HOF := Lib.hid (HOx.out.off HXx.out)
              clear hh hnm
              go_wp2_with fail
              refine (rin_any _ _ _ M v _ HIM2.out).mono ?_
              rintro e w8 ⟨rfl, rfl⟩
              rw [HH.out]
              have HZ1 := Lib.hid HBx.out.size
              go_wp2_with (at_builtin; go_must (refine wpList_app1w _ rfl _ _ rfl w1.heap.size _ _ _ HOx.out rfl rfl HZ1.out (by omega) ?_))
              intro v' w3 hown' hbel hgrow
              have HO3 := Lib.hid hown'
              have HB3 : Hid (Below w1.heap.size w1 w3) := HBx.out.trans hbel
              have HX3 : Hid (w3.heap[wr.heap.size]? = some (.cells #[.int .u8 kd, .slice (some ⟨bi, oi, none⟩) li ci, .slice sa ls cs, .int .i64 nn, .int .i64 pp] 103 (0, 0))) := (hgrow.block _ HZx.out (fun e => HOF.out e.symm)).trans HXx.out
              have HZ3 : Hid (wr.heap.size < w3.heap.size) := Nat.lt_of_lt_of_le HZx.out hgrow.size
              clear hown' hbel hgrow
              go_wp2
              go_roundg (li - (j + 1))
              case measure => omega
              case rel => exact ⟨j + 1, M ++ [v], by omega, by omega, by go_num, HO3, HF9, HM9, HB3, HX3, HZ3⟩
          · have djl : decide ((j : Int) < (li : Int)) = false := decide_eq_false (by omega)
            have HF9 : Hid (Od.Bfs g len M (k + 1)) := HFx.out.next HMx.out.1 (fun v hv => by
              rw [HMx.out.2.1, HINN.out] at hv
              obtain ⟨q, hq, rfl⟩ := Od.mem_nth hv
              exact HMx.out.2.2.2 q (by rw [HVL.out] at hq; omega))
            go_wp2
            go_roundg (len - (k + 1))
            case measure => omega
            case rel => exact ⟨k + 1, M, by omega, by omega, by go_num, HOx, HF9, HBx⟩
      · have dkl : decide ((k : Int) < (lN : Int)) = false := decide_eq_false (by omega)
        have HFE : Hid (Od.Bfs g len N N.length) := by
          have h1 := HF.out.le
          have h2 := LNN.out
          have e : k = N.length := by omega
          show Od.Bfs _ _ _ _
          rw [← e]; exact HF.out
        have HORD := Lib.hid (Od.memV_ord LN.out HII.out HND.out HFE.out)
        have HML := Lib.hid (Od.memV_length N len)
        have HMV := Lib.hid (fun (q : Nat) (hq : q < len) => Od.memV_nth N hq)
        go_wp2
        go_loopg [8, 9] len (fun gg u i wv => ∃ (j : Nat), j ≤ len ∧ len - j ≤ gg ∧ i = .int .i64 j ∧ Hid (Own wr.heap.size wv u (Od.placesF 0 ((Od.memV N len).take j))) ∧ Hid (Below wr.heap.size wr wv))
        case atStart => exact ⟨0, Nat.zero_le _, by omega, rfl, Own.nil _ _, Below.refl _ _⟩
        case round =>
          rename World => wx
          obtain ⟨j, hj, hgj, rfl, HOx, HBx⟩ := hrel
          have Kx := Lib.hid (Kr.out.on HBx.out)
          have cx := Kx.out.cell
          by_cases hltj : j < len
          · have djl : decide ((j : Int) < (len : Int)) = true := decide_eq_true (by omega)
            have HSN := Lib.hid (Od.placesF_snoc (l := Od.memV N len) (k := j) (by rw [HML.out]; exact hltj))
            have HVJ := Lib.hid (HMV.out j hltj)
            have hln : (Od.placesF 0 ((Od.memV N len).take j)).length ≤ j := Nat.le_trans (Od.placesF_length _ _) (List.length_take_le _ _)
            have HINx := Lib.hid (HIN.out.below HBx.out)
            cases hh : hasB N (j : Int) with
            | true =>
              have HH := Lib.hid hh
              have HS2 : Hid (Od.placesF 0 ((Od.memV N len).take (j + 1)) = Od.placesF 0 ((Od.memV N len).take j) ++ [(j : Int)]) := by show _ = _; rw [HSN.out, HVJ.out, hh]; rfl
              clear hh
              go_wp2_with fail
              refine (rin_any _ _ _ N (j : Int) _ HINx.out).mono ?_
              rintro e w8 ⟨rfl, rfl⟩
              rw [HH.out]
              have HZ1 := Lib.hid HBx.out.size
              go_wp2_with (at_builtin; go_must (refine wpList_app1w _ rfl _ _ rfl wr.heap.size _ _ _ HOx.out rfl rfl HZ1.out (by omega) ?_))
              intro v' w3 hown' hbel hgrow
              rw [← HS2.out] at hown'
              have HO3 := Lib.hid hown'
              have HB3 : Hid (Below wr.heap.size wr w3) := HBx.out.trans hbel
              clear hown' hbel hgrow
              go_wp2
              go_roundg (len - (j + 1))
              case measure => omega
              case rel => exact ⟨j + 1, by omega, by omega, by go_num, HO3, HB3⟩
            | false =>
              have HH := Lib.hid hh
              have HS2 : Hid (Od.placesF 0 ((Od.memV N len).take (j + 1)) = Od.placesF 0 ((Od.memV N len).take j)) := by show _ = _; rw [HSN.out, HVJ.out, hh]; simp
              clear hh
              go_wp2_with fail
              refine (rin_any _ _ _ N (j : Int) _ HINx.out).mono ?_
              rintro e w8 ⟨rfl, rfl⟩
              rw [HH.out]
              go_wp2
              go_roundg (len - (j + 1))
              case measure => omega
              case rel => exact ⟨j + 1, by omega, by omega, by go_num, by rw [HS2.out]; exact HOx.out, HBx.out⟩
          · have djl : decide ((j : Int) < (len : Int)) = false := decide_eq_false (by omega)
            rw [List.take_of_length_le (by rw [HML.out]; omega), HORD.out] at HOx
            obtain ⟨a1, l1, c1', rfl, hI, _⟩ := HOx.out.ints (fun v hv => by
              rw [← HORD.out] at hv
              have := Od.placesF_mem _ 0 v hv
              rw [HML.out] at this; omega)
            have HI := Lib.hid hI
            clear hI
            go_wp2
            go_ret2
            exact ⟨Kx.out.bel, .inr ⟨_, _, _, _, HR.out, rfl, HI.out⟩⟩
end Go.Proofs.YtekejcnphmnidaaGreatDoor
