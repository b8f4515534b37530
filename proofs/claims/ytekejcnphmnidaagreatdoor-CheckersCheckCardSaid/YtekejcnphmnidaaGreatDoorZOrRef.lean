import Derived.Test.YtekejcnphmnidaaGreatDoorZOrR
import Derived.Test.YtekejcnphmnidaaGreatDoorZOrNeedLaw
import Derived.Test.YtekejcnphmnidaaGreatDoorZRfT
import Derived.Test.YtekejcnphmnidaaGreatDoorZRpA
namespace Go.Proofs.YtekejcnphmnidaaGreatDoor
open Go.RowKit
set_option maxHeartbeats 1000000 in
theorem rin_any (a : Option Addr) (len cap : Nat) (l : List Int) (x : Int) (w : World) (H : Ints w a len cap l) :
    Calls Tryz.prog 135 #[.slice a len cap, .int .i64 x] w fun e w' => e = .returned (.bool (hasB l x)) ∧ w = w' := by
  have hle := H.le
  have hcap := H.cap_le
  have HL := Lib.hid H.length
  have KH := Lib.hid H
  clear H
  go_enter Tryz.func135, Tryz.ntmps135
  go_wp2
  go_loop [5] (fun i => ∃ k : Nat, k ≤ len ∧ i = .int .i64 k ∧ Hid (∀ j, j < k → nth l j ≠ x)) (fun i => len - (intOf i).toNat)
  case atStart => exact ⟨0, Nat.zero_le _, rfl, fun j hj => absurd hj (Nat.not_lt_zero _)⟩
  case round =>
    obtain ⟨k, hk, rfl, HT⟩ := hrel
    by_cases hlt : k < len
    · obtain ⟨b, off, rfl, _, hc⟩ := KH.out.at_ (by omega)
      have hck := hc k hlt
      have HIT : Hid (nth l k = x → hasB l x = true) := fun h => rhasB_hit (by rw [HL.out]; exact hlt) h
      have HN : Hid (nth l k ≠ x → ∀ j, j < k + 1 → nth l j ≠ x) := fun h j hj => by
        by_cases e : j = k
        · subst e; exact h
        · exact HT.out j (by omega)
      clear hc
      generalize nth l k = y at *
      by_cases hv : y = x
      · have hb : (y == x) = true := by simp [hv]
        have HR := Lib.hid (HIT.out hv)
        clear hv
        go_wp2
        go_ret
        exact ⟨by rw [HR.out]; rfl, rfl⟩
      · have hb : (y == x) = false := by simp [hv]
        have HN2 := Lib.hid (HN.out hv)
        clear hv
        go_wp2
        go_round
        case rel => exact ⟨k + 1, by omega, by go_num, HN2⟩
        case measure => simp [intOf]; omega
    · have HR := Lib.hid (rhasB_miss (l := l) (x := x) (fun k hk => HT.out k (by rw [HL.out] at hk; omega)))
      go_wp2
      go_ret
      exact ⟨by rw [HR.out]; rfl, rfl⟩
theorem nodup_len : ∀ (n : Nat) (l : List Int), l.Nodup → (∀ v ∈ l, 0 ≤ v ∧ v < (n : Int)) → l.length ≤ n
  | 0, l, _, hb => by
    match l with
    | [] => exact Nat.le_refl _
    | x :: r => have := hb x (by simp); omega
  | n + 1, l, hn, hb => by
    by_cases hm : (n : Int) ∈ l
    · have h1 := List.length_erase_of_mem hm
      have h2 := nodup_len n (l.erase (n : Int)) (hn.erase _) (fun v hv => by
        have h3 := hb v (List.mem_of_mem_erase hv)
        have h4 : v ≠ (n : Int) := fun e => by subst e; exact (List.Nodup.not_mem_erase hn) hv
        omega)
      omega
    · have h2 := nodup_len n l hn (fun v hv => by
        have h3 := hb v hv
        have h4 : v ≠ (n : Int) := fun e => by subst e; exact hm hv
        omega)
      omega
theorem okB_len {n : Nat} {l : List Int} (h : Od.okB n l = true) : l.length ≤ n := nodup_len n l (Od.okB_iff.1 h).2 (Od.okB_iff.1 h).1
set_option maxHeartbeats 4000000 in
set_option maxRecDepth 100000 in
theorem rord12_any (a : Option Addr) (len cap : Nat) (g : List Gr.Node) (ao : Option Addr) (lo co : Nat) (l : List Int) (w : World) (HN : Nodes w a len cap g) (HO : Ints w ao lo co l) :
    Calls Tryz.prog 136 #[.agg #[.slice a len cap], .slice ao lo co] w fun e w' => e = .returned (.bool (Od.mayB g l)) ∧ Below w.heap.size w w' := by
  have KO := Lib.hid HO
  have LO := Lib.hid HO.length
  have LN := Lib.hid HN.length
  have ho1 := HO.le
  have ho2 := HO.cap_le
  have hle := HN.le
  have hcl := HN.cap_le
  have K0 := Lib.hid (GSt.start HN)
  clear HO HN
  go_enter Tryz.func136, Tryz.ntmps136
  go_wp2_with fail
  refine (rCheck_any _ _ _ g _ K0.out.n).mono ?_
  rintro e w1 ⟨rfl, hb⟩
  have K1 := Lib.hid (K0.out.on hb)
  have c1 := K1.out.cell
  clear hb K0
  cases hs : (Gr.shapes g).isSome with
  | false =>
    have HR : Hid (Od.mayB g l = false) := by show _ = _; unfold Od.mayB; rw [hs]; rfl
    clear hs
    go_wp2
    go_ret
    exact ⟨by rw [HR.out]; rfl, K1.out.bel⟩
  | true =>
    have HM : Hid (Od.mayB g l = Od.okB len l) := by show _ = _; unfold Od.mayB; rw [hs, LN.out]; rfl
    clear hs
    by_cases hll : len < lo
    · have d0 : decide ((lo : Int) > (len : Int)) = true := decide_eq_true (by omega)
      have HR : Hid (Od.mayB g l = false) := by
        show _ = _
        rw [HM.out]
        cases h : Od.okB len l with
        | false => rfl
        | true => have := okB_len h; rw [LO.out] at this; omega
      go_wp2
      go_ret
      exact ⟨by rw [HR.out]; rfl, K1.out.bel⟩
    have d0 : decide ((lo : Int) > (len : Int)) = false := decide_eq_false (by omega)
    go_wp2
    go_loopg [5] lo (fun gg i wr => ∃ k : Nat, k ≤ lo ∧ lo - k ≤ gg ∧ i = .int .i64 k ∧ Hid (∀ i, i < k → 0 ≤ nth l i ∧ nth l i < len ∧ hasB (l.take i) (nth l i) = false) ∧ Hid (∃ n, wr = w1.drewN n))
    case atStart => exact ⟨0, Nat.zero_le _, by omega, rfl, fun i hi => absurd hi (Nat.not_lt_zero _), 0, rfl⟩
    case round =>
      obtain ⟨k, hk, hg, rfl, HT, HWr⟩ := hrel
      obtain ⟨nw, rfl⟩ := HWr.out
      by_cases hlt : k < lo
      · have dkl : decide ((k : Int) < (lo : Int)) = true := decide_eq_true (by omega)
        have hkl : k < l.length := by rw [LO.out]; exact hlt
        have hkc : k ≤ co := by omega
        have hki : (k : Int) < (lo : Int) := by omega
        obtain ⟨bo, oo, rfl, _, hco⟩ := (KO.out.below K1.out.bel).at_ (by omega)
        have hck := hco k hlt
        have KTk := Lib.hid ((KO.out.below K1.out.bel).take k (by omega))
        clear hco
        by_cases p1 : nth l k < 0
        · have d1 : decide (nth l k < 0) = true := decide_eq_true p1
          have HR := Lib.hid (HM.out.trans (Od.okB_hit hkl (fun h => by omega)))
          clear p1
          go_wp2_with fail
          go_quiet (fail)
          go_wp2
          go_ret
          exact ⟨by rw [HR.out]; rfl, K1.out.bel.trans ((below_drewN w1 nw _).trans (below_drewN _ _ _))⟩
        · have d1 : decide (nth l k < 0) = false := decide_eq_false p1
          by_cases p2 : (len : Int) ≤ nth l k
          · have d2 : decide (nth l k ≥ (len : Int)) = true := decide_eq_true p2
            have HR := Lib.hid (HM.out.trans (Od.okB_hit hkl (fun h => by omega)))
            clear p1 p2
            go_wp2_with fail
            go_quiet (fail)
            go_wp2
            go_ret
            exact ⟨by rw [HR.out]; rfl, K1.out.bel.trans ((below_drewN w1 nw _).trans (below_drewN _ _ _))⟩
          · have d2 : decide (nth l k ≥ (len : Int)) = false := decide_eq_false p2
            cases hh : hasB (l.take k) (nth l k) with
            | true =>
              have HR := Lib.hid (HM.out.trans (Od.okB_hit hkl (fun h => by rw [hh] at h; cases h.2.2)))
              have HC : Hid (∀ s, Calls Tryz.prog 135 #[.slice (some ⟨bo, oo, none⟩) k co, .int .i64 (nth l k)] (w1.drewN s) fun e w' => e = .returned (.bool true) ∧ w' = w1.drewN s) := fun s => (rin_any _ _ _ _ _ _ (KTk.out.drewN s)).mono fun _ _ ⟨he, hw⟩ => ⟨by rw [he, hh], hw.symm⟩
              clear p1 p2 hh
              go_wp2_with fail
              go_quiet ((go_at_call 135; exact quiet_more (HC.out _)))
              go_wp2
              go_ret
              exact ⟨by rw [HR.out]; rfl, K1.out.bel.trans ((below_drewN w1 nw _).trans (below_drewN _ _ _))⟩
            | false =>
              have HT2 : Hid (∀ i, i < k + 1 → 0 ≤ nth l i ∧ nth l i < len ∧ hasB (l.take i) (nth l i) = false) := fun i hi => by
                rcases Nat.lt_succ_iff_lt_or_eq.1 hi with h | h
                · exact HT.out i h
                · subst h; exact ⟨by omega, by omega, hh⟩
              have HC : Hid (∀ s, Calls Tryz.prog 135 #[.slice (some ⟨bo, oo, none⟩) k co, .int .i64 (nth l k)] (w1.drewN s) fun e w' => e = .returned (.bool false) ∧ w' = w1.drewN s) := fun s => (rin_any _ _ _ _ _ _ (KTk.out.drewN s)).mono fun _ _ ⟨he, hw⟩ => ⟨by rw [he, hh], hw.symm⟩
              clear p1 p2 hh
              go_wp2_with fail
              go_quiet ((go_at_call 135; exact quiet_more (HC.out _)))
              go_wp2
              go_roundg (lo - (k + 1))
              case measure => omega
              case rel => exact ⟨k + 1, by omega, by omega, by go_num, HT2, ⟨nw + nq, by simp⟩⟩
      · have dkl : decide ((k : Int) < (lo : Int)) = false := decide_eq_false (by omega)
        have HR := Lib.hid (HM.out.trans (Od.okB_all (n := len) (l := l) (fun i hi => HT.out i (by rw [LO.out] at hi; omega))))
        go_wp2
        go_ret
        exact ⟨by rw [HR.out]; rfl, K1.out.bel.trans (below_drewN _ _ _)⟩
theorem Ints.block_of {w w' : World} {a : Option Addr} {len cap : Nat} {l : List Int} (h : Ints w a len cap l) (hb : ∀ p, a = some p → w'.heap[p.block]? = w.heap[p.block]?) (hz : w.heap.size ≤ w'.heap.size) : Ints w' a len cap l := by
  refine ⟨h.le, h.cap_le, h.length, h.wf, fun h0 => ?_⟩
  obtain ⟨b, off, rfl, h1, h2⟩ := h.at_ h0
  exact ⟨b, off, rfl, Nat.lt_of_lt_of_le h1 hz, fun i hi => by rw [← h2 i hi]; simp only [World.cell?, hb _ rfl]⟩
theorem heap_box (w : World) (cs : Array Value) : (w.alloc (.cells cs 103)).heap[w.heap.size]? = some (.cells cs 103 (0, 0)) := by
  show (w.heap.push _)[w.heap.size]? = _; simp
theorem cell_box {w : World} {b i : Nat} {cs : Array Value} {u : Value} (h : w.heap[b]? = some (.cells cs 103 (0, 0))) (hu : cs[i]? = some u) : w.cell? ⟨b, i, none⟩ = some u := by
  simp only [World.cell?, h]; simpa using hu
set_option maxHeartbeats 4000000 in
set_option maxRecDepth 100000 in
theorem ruses_any (a : Option Addr) (len cap : Nat) (g : List Gr.Node) (ao : Option Addr) (lo co : Nat) (l : List Int) (w : World) (HN : Nodes w a len cap g) (HO : Ints w ao lo co l) (hlo : lo ≤ 17592186044416) :
    Calls Tryz.prog 49 #[.agg #[.slice a len cap], .slice ao lo co] w fun e w' => ListE w (Od.usesO g l) e w' := by
  obtain ⟨i0, hi0, hz0, hz1, hz2⟩ := info_parts Tryz.info3
  have KO := Lib.hid HO
  have LO := Lib.hid HO.length
  have LN := Lib.hid HN.length
  have ho1 := HO.le
  have ho2 := HO.cap_le
  have K0 := Lib.hid (GSt.start HN)
  clear HO HN
  go_enter Tryz.func49, Tryz.ntmps49
  go_wp2_with fail
  refine (rord12_any _ _ _ g _ _ _ l _ K0.out.n (KO.out.below ((Below.refl _ _).alloc (Nat.le_refl _) _))).mono ?_
  rintro e w1 ⟨rfl, hb⟩
  have K1 := Lib.hid (K0.out.on hb)
  have c1 := K1.out.cell
  clear hb K0
  by_cases hm : Od.mayB g l = true
  case neg =>
    have HR : Hid ((Od.usesO g l) = none) := if_neg hm
    have hm2 : Od.mayB g l = false := by simpa using hm
    have HM2 := Lib.hid hm2
    rw [HM2.out]
    clear hm hm2
    go_wp2
    go_ret2
    exact ⟨K1.out.bel, .inl ⟨HR.out, rfl⟩⟩
  case pos =>
    have HMT : Hid ((Od.usesO g l) = some (Od.uses g l)) := if_pos hm
    rw [hm]
    obtain ⟨hl1, hl2, hor⟩ := Od.may_parts hm
    rw [LN.out] at hl1 hl2
    have hlen : lo ≤ len := by
      have h1 : Od.okB g.length l = true := by
        unfold Od.mayB at hm
        simp only [Bool.and_eq_true] at hm
        exact hm.2
      have := okB_len h1
      rw [LO.out, LN.out] at this; exact this
    have HOR : Hid (∀ i, i < lo → 0 ≤ nth l i ∧ nth l i < (len : Int)) := fun i hi => by have := hor i (by rw [LO.out]; exact hi); rw [LN.out] at this; exact this
    have HIN : Hid (∀ n, n < len → (nodeN g n).inn.length ≤ 4 ∧ ∀ v ∈ (nodeN g n).inn, 0 ≤ v ∧ v < n) := fun n hn => Od.may_inn hm (by rw [LN.out]; exact hn)
    have hM := made_mine w1 len (by omega)
    have HM0 := Lib.hid hM
    have HB0 : Hid (Below w1.heap.size w1 (w1.alloc (.cells (madeCells #[.int .i64 0] len) 3))) := (Below.refl _ _).alloc (Nat.le_refl _) _
    clear hm hor hM
    go_wp2_with (refine wpList_make_row _ rfl _ _ 22 rfl 3 i0 (.int .i64 0) Tryz.underlying22 hi0 hz0 hz1 rfl .i64 .i64 len rfl rfl (by rw [hz2]; omega) (by omega) ?_)
    generalize w1.alloc (.cells (madeCells #[.int .i64 0] len) 3) = w2 at *
    go_loopg [7] lo (fun gg i wr => ∃ (k : Nat) (o : List Int), k ≤ lo ∧ lo - k ≤ gg ∧ i = .int .i64 k ∧ Hid (o = (l.take k).foldl (Od.usesN g) (List.replicate g.length 0)) ∧ Hid (o.length = len) ∧ Hid (∀ v ∈ o, 0 ≤ v ∧ v ≤ 4 * (k : Int)) ∧
      Hid (Mine w1.heap.size wr w1.heap.size 0 len o) ∧ Hid (Below w1.heap.size w1 wr))
    case atStart => exact ⟨0, List.replicate len 0, Nat.zero_le _, by omega, rfl, by show _ = _; rw [LN.out]; rfl, by show _ = _; simp, fun v hv => by have := List.eq_of_mem_replicate hv; omega, HM0, HB0⟩
    case round =>
      obtain ⟨k, o, hk, hg, rfl, HOE, HOL, HOB, HMr, HBr⟩ := hrel
      have Kr := Lib.hid (K1.out.on HBr.out)
      have cr := Kr.out.cell
      by_cases hlt : k < lo
      · have dkl : decide ((k : Int) < (lo : Int)) = true := decide_eq_true (by omega)
        obtain ⟨bo, oo, rfl, _, hco⟩ := (KO.out.below Kr.out.bel).at_ (by omega)
        have hck := hco k hlt
        obtain ⟨hn0, hn1⟩ := HOR.out k hlt
        have HSN : Hid (Od.usesN g o (nth l k) = (l.take (k + 1)).foldl (Od.usesN g) (List.replicate g.length 0)) := by
          show _ = _
          rw [Od.foldl_take_snoc _ _ _ (by rw [LO.out]; exact hlt), ← HOE.out]
        clear hco
        generalize nth l k = n at *
        obtain ⟨m, rfl⟩ : ∃ m : Nat, n = (m : Int) := ⟨n.toNat, by omega⟩
        have hm : m < len := by omega
        obtain ⟨b, off, eA, hbl, hcs⟩ := K1.out.n.at_ (by omega)
        obtain ⟨ai, li, ci, sa, ls, cs, m0, m1, m2, m3, m4, hV⟩ := hcs m hm
        subst eA
        have HVO : Hid (∀ bi oi, ai = some ⟨bi, oi, none⟩ → 0 < li → bi < w1.heap.size) := fun bi oi e h0 => by
          obtain ⟨b2, o2, e2, h2, _⟩ := hV.i.at_ h0
          rw [e] at e2; cases e2; exact h2
        replace m0 := (HBr.out.cell (p := ⟨b, off + m * 5, none⟩) hbl).trans m0
        replace m1 := (HBr.out.cell (p := ⟨b, off + m * 5 + 1, none⟩) hbl).trans m1
        replace m2 := (HBr.out.cell (p := ⟨b, off + m * 5 + 2, none⟩) hbl).trans m2
        replace m3 := (HBr.out.cell (p := ⟨b, off + m * 5 + 3, none⟩) hbl).trans m3
        replace m4 := (HBr.out.cell (p := ⟨b, off + m * 5 + 4, none⟩) hbl).trans m4
        have HV := Lib.hid (hV.i.below HBr.out)
        have HVL := Lib.hid hV.i.length
        have HIM := Lib.hid (HIN.out m hm)
        have hli : li ≤ 4 := by have := HIM.out.1; rw [HVL.out] at this; exact this
        have hvc := hV.i.le
        have hvc2 := hV.i.cap_le
        have HUN : Hid (Od.usesN g o (m : Int) = (nodeN g m).inn.foldl Od.bump1 o) := rfl
        have hMl := HMr.out.lt
        clear hV hcs
        generalize (nodeN g m).inn = inn at *
        generalize (nodeN g m).kind = kd at *
        generalize (nodeN g m).n = nn at *
        generalize (nodeN g m).pad = pp at *
        go_wp2_with fail
        refine nd_region (s0 := 2) (sL := 1) (sI := 7) (sX := 8) ⟨rfl, ⟨_, rfl, rfl, rfl, by kernel_rfl⟩, ⟨_, rfl, rfl, rfl, by kernel_rfl⟩, ⟨_, rfl, rfl, rfl, by kernel_rfl⟩, ⟨_, rfl, rfl, rfl, by kernel_rfl⟩, ⟨_, rfl, rfl, rfl, by kernel_rfl⟩, ⟨_, rfl, rfl, rfl, by kernel_rfl⟩, ⟨_, rfl, rfl, rfl, by kernel_rfl⟩, ⟨_, rfl, rfl, rfl, by kernel_rfl⟩, ⟨_, rfl, rfl, rfl, by kernel_rfl⟩, ⟨_, rfl, rfl, rfl, by kernel_rfl⟩⟩ (k := k) (n := m) (by decide) rfl (by kernel_rfl) rfl rfl rfl cr hlt hck hm m0 m1 m2 m3 m4 ?_
        simp only [Act.put, List.setIfInBounds_toArray, List.set_cons_succ, List.set_cons_zero]
        have HBX := Lib.hid (heap_box wr.drew #[.int .u8 kd, .slice ai li ci, .slice sa ls cs, .int .i64 nn, .int .i64 pp])
        have hBd : Below wr.heap.size wr wr.drew := (Below.refl _ _).drew
        have HBA : Hid (Below wr.heap.size wr (wr.drew.alloc (.cells #[.int .u8 kd, .slice ai li ci, .slice sa ls cs, .int .i64 nn, .int .i64 pp] 103))) := hBd.alloc (Nat.le_refl _) _
        have HM9 := Lib.hid (HMr.out.below HBA.out)
        have HB9 := Lib.hid (HBr.out.trans (HBA.out.mono HBr.out.size))
        have HV9 := Lib.hid (HV.out.below HBA.out)
        have hwd : wr.drew.heap.size = wr.heap.size := rfl
        have hzr := HBr.out.size
        rw [hwd] at HBX
        have hnx : w1.heap.size ≠ wr.heap.size := by omega
        clear hBd hwd cr hck m0 m1 m2 m3 m4
        generalize wr.drew.alloc (.cells #[.int .u8 kd, .slice ai li ci, .slice sa ls cs, .int .i64 nn, .int .i64 pp] 103) = w9 at *
        go_wp2
        go_loopg [9] li (fun gg i wv => ∃ (j : Nat) (q : List Int), j ≤ li ∧ li - j ≤ gg ∧ i = .int .i64 j ∧ Hid (q = (inn.take j).foldl Od.bump1 o) ∧ Hid (q.length = len) ∧ Hid (∀ v ∈ q, 0 ≤ v ∧ v ≤ 4 * (k : Int) + j) ∧
          Hid (Mine w1.heap.size wv w1.heap.size 0 len q) ∧ Hid (Below w1.heap.size w1 wv) ∧ Hid (wv.heap[wr.heap.size]? = some (.cells #[.int .u8 kd, .slice ai li ci, .slice sa ls cs, .int .i64 nn, .int .i64 pp] 103 (0, 0))) ∧ Hid (Ints wv ai li ci inn))
        case atStart => exact ⟨0, o, Nat.zero_le _, by omega, rfl, rfl, HOL, fun v hv => by have := HOB.out v hv; omega, HM9, HB9, HBX, HV9⟩
        case round =>
          rename World => wx
          obtain ⟨j, q, hj, hgj, rfl, HQE, HQL, HQB, HMx, HBx, HXx, HVx⟩ := hrel
          have y1 := cell_box (i := 1) HXx.out rfl
          by_cases hltj : j < li
          · have djl : decide ((j : Int) < (li : Int)) = true := decide_eq_true (by omega)
            obtain ⟨bi, oi, rfl, hbi, hci⟩ := HVx.out.at_ (by omega)
            have hcj := hci j hltj
            obtain ⟨hv0, hv1⟩ := HIM.out.2 (nth inn j) (nth_mem inn j (by rw [HVL.out]; exact hltj))
            have HSQ : Hid (Od.bump1 q (nth inn j) = (inn.take (j + 1)).foldl Od.bump1 o) := by
              show _ = _
              rw [Od.foldl_take_snoc _ _ _ (by rw [HVL.out]; exact hltj), ← HQE.out]
            clear hci
            generalize nth inn j = n at *
            obtain ⟨p, rfl⟩ : ∃ p : Nat, n = (p : Int) := ⟨n.toNat, by omega⟩
            have hp : p < len := by omega
            have hpq : p < q.length := by rw [HQL.out]; exact hp
            obtain ⟨hb0, hb1⟩ := HQB.out (nth q p) (nth_mem q p hpq)
            have hmc := HMx.out.cell p hpq
            have hmf := HMx.out.fr p hpq
            rw [Nat.zero_add] at hmc hmf
            have hM2 := HMx.out.set p hpq (nth q p + 1)
            rw [show q.set p (nth q p + 1) = Od.bump1 q (p : Int) from rfl, Nat.zero_add] at hM2
            have HM2 := Lib.hid hM2
            have HB2 := Lib.hid (below_setCell HBx.out w1.heap.size p (.int .i64 (nth q p + 1)) (Nat.le_refl _))
            have HX2 : Hid ((wx.setCell ⟨w1.heap.size, p, none⟩ (.int .i64 (nth q p + 1))).heap[wr.heap.size]? = some (.cells #[.int .u8 kd, .slice (some ⟨bi, oi, none⟩) li ci, .slice sa ls cs, .int .i64 nn, .int .i64 pp] 103 (0, 0))) := by
              show _ = _
              rw [Below.heap_setCell _ _ _ _ (by first | exact Ne.symm hnx | exact hnx)]; exact HXx.out
            have hbw : bi < w1.heap.size := HVO.out bi oi rfl (by omega)
            have HV2 : Hid (Ints (wx.setCell ⟨w1.heap.size, p, none⟩ (.int .i64 (nth q p + 1))) (some ⟨bi, oi, none⟩) li ci inn) := HVx.out.block_of (fun k hk => by cases hk; exact Below.heap_setCell _ _ _ _ (by show bi ≠ w1.heap.size; omega)) (by simp [World.setCell])
            have HQ2 : Hid (∀ v ∈ Od.bump1 q (p : Int), 0 ≤ v ∧ v ≤ 4 * (k : Int) + (j + 1 : Nat)) := fun v hv => by have := Od.bump1_bounds (by omega) (by omega) HQB.out v hv; omega
            have HL2 : Hid ((Od.bump1 q (p : Int)).length = len) := by show _ = _; rw [Od.bump1_length]; exact HQL.out
            clear hM2
            generalize nth q p = qp at *
            go_wp2
            go_roundg (li - (j + 1))
            case measure => exact Nat.lt_of_lt_of_le (Nat.sub_lt_sub_left hltj (Nat.lt_succ_self j)) hgj
            case rel => exact ⟨j + 1, Od.bump1 q (p : Int), Nat.succ_le_of_lt hltj, Nat.le_refl _, by go_num, HSQ, HL2, HQ2, HM2, HB2, HX2, HV2⟩
          · have djl : decide ((j : Int) < (li : Int)) = false := decide_eq_false (by omega)
            have hje : inn.take j = inn := List.take_of_length_le (by rw [HVL.out]; omega)
            rw [hje, ← HUN.out, HSN.out] at HQE
            have hjl : j ≤ 4 := by omega
            go_wp2
            go_roundg (lo - (k + 1))
            case measure => exact Nat.lt_of_lt_of_le (Nat.sub_lt_sub_left hlt (Nat.lt_succ_self k)) hg
            case rel => exact ⟨k + 1, q, Nat.succ_le_of_lt hlt, Nat.le_refl _, by go_num, HQE, HQL, fun v hv => by have := HQB.out v hv; omega, HMx, HBx⟩
      · have dkl : decide ((k : Int) < (lo : Int)) = false := decide_eq_false (by omega)
        rw [List.take_of_length_le (by rw [LO.out]; omega)] at HOE
        have hI := HMr.out.ints (fun v hv => by have := HOB.out v hv; omega)
        rw [HOL.out] at hI
        have HI := Lib.hid hI
        clear hI
        go_wp2
        go_ret2
        exact ⟨Kr.out.bel, .inr ⟨o, _, _, _, by rw [HMT.out, HOE.out]; rfl, rfl, HI.out⟩⟩
end Go.Proofs.YtekejcnphmnidaaGreatDoor
