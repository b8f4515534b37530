/-
  drydocklaw12.OrdersNeeds: the walk oneeds_walk (it returns true, and changes nothing below).
-/
import Derived.Test.YtgmagldbfajedaaOrUsesLaw
import Derived.Test.YtgmagldbfajedaaOrNeedLaw
namespace Go.Proofs.Ytgmagldbfajedaa
open Go.RowKit

theorem quiet_most {P : Program} {f : FuncId} {args : Array Value} {w : World} {m a : Nat} {v : Value} (h : Calls P f args (w.drewN (m + a)) fun e w' => e = .returned v ∧ w' = w.drewN (m + a)) :
    Calls P f args (w.drewN (m + a)) fun e w' => e = .returned v ∧ ∃ n, w' = w.drewN (m + n) := h.mono fun _ _ ⟨h1, h2⟩ => ⟨h1, a, h2⟩

theorem in_at {w : World} {a : Option Addr} {len cap : Nat} {l : List Int} {n : Int} {b : Bool} (HI : Ints w a len cap l) (h : hasB l n = b) (q : Nat) :
    Calls Try.prog 47 #[.slice a len cap, .int .i64 n] (w.drewN q) fun e w' => e = .returned (.bool b) ∧ w' = w.drewN q := h ▸ in_any _ _ _ _ _ _ (HI.drewN q)

theorem Od.inn_ok {g : List Gr.Node} (h : (Gr.shapes g).isSome = true) : Od.InnOk g g.length ∧ 1 ≤ g.length ∧ g.length ≤ 32 := by
  obtain ⟨s, hss⟩ := Option.isSome_iff_exists.1 h
  obtain ⟨⟨hl1, hl2⟩, hrun, _⟩ := Gr.shapes_iff.1 hss
  refine ⟨fun n hn => ?_, hl1, hl2⟩
  obtain ⟨k, h1, h2, h3, _⟩ := Gr.run_node hrun n hn
  have h4 := (Gr.ofB_parts h2).2.1
  have h5 := kindOf_bounds h1
  refine ⟨by omega, fun v hv => ?_⟩
  unfold Gr.okIn at h3
  have := List.all_eq_true.1 h3 v hv
  simpa using this
theorem Od.ordO_some {g : List Gr.Node} {l : List Int} (h : Od.ordO g = some l) : (Gr.shapes g).isSome = true ∧ l = Od.ordOf g := by
  unfold Od.ordO at h
  split at h
  · rename_i c; exact ⟨c, (Option.some.inj h).symm⟩
  · cases h

set_option maxHeartbeats 4000000 in
set_option maxRecDepth 100000 in
theorem oneeds_walk (a : Option Addr) (len cap : Nat) (g : List Gr.Node) (w : World) (HN : Nodes w a len cap g) :
    Calls Try.prog 14 #[.agg #[.slice a len cap]] w fun e w' => e = .returned (.bool true) ∧ Below w.heap.size w w' := by
  have LN := Lib.hid HN.length
  have hle := HN.le
  have hcl := HN.cap_le
  have hll := HN.len_le
  have K0 := Lib.hid (GSt.start HN)
  clear HN
  go_enter Try.func14, Try.ntmps14
  go_wp2_with fail
  refine (oalive_any _).mono ?_
  rintro e w2 ⟨rfl, hb⟩
  have K2 := Lib.hid (K0.out.on hb)
  have c2 := K2.out.cell
  clear hb K0
  go_wp2_with fail
  refine (gsize_any _ _ _ g _ K2.out.n).mono ?_
  rintro e w3 ⟨v, rfl, ⟨hv0, hv1⟩, hb⟩
  have K3 := Lib.hid (K2.out.on hb)
  have c3 := K3.out.cell
  clear hb c2
  by_cases hbig : 20000 < v
  · have d : decide (v > 20000) = true := decide_eq_true hbig
    go_wp2_with fail
    refine (oalive_any _).mono ?_
    rintro e w4 ⟨rfl, hb⟩
    have K4 := Lib.hid (K3.out.on hb)
    clear hb
    go_wp2
    go_ret
    exact ⟨rfl, K4.out.bel⟩
  have d : decide (v > 20000) = false := decide_eq_false hbig
  go_wp2_with fail
  refine (of_any _ _ _ g _ K3.out.n).mono ?_
  rintro e w4 ⟨hb, ⟨hs, rfl⟩ | ⟨L, aL, lL, cL, hs, rfl, hI⟩⟩
  · have K4 := Lib.hid (K3.out.on hb)
    clear hb hs c3
    go_wp2
    go_ret
    exact ⟨rfl, K4.out.bel⟩
  obtain ⟨hsh, rfl⟩ := Od.ordO_some hs
  obtain ⟨hio, hl1, hl2⟩ := Od.inn_ok hsh
  have HNd := Lib.hid (Od.need_of hl1 hio)
  have HIO := Lib.hid hio
  rw [LN.out] at hl1 hl2
  have K4 := Lib.hid (K3.out.on hb)
  have HL4 := Lib.hid hI
  have LL := Lib.hid hI.length
  have hLle := hI.le
  have hLcl := hI.cap_le
  have c4 := K4.out.cell
  have hLp := Od.ord_pos HNd.out
  rw [LL.out] at hLp
  have hLl : lL ≤ 32 := by
    have h1 := Od.placesF_length (Od.needed g) 0
    have h2 := HNd.out.ln
    have h3 := LL.out
    have h4 := LN.out
    unfold Od.ordOf at h3
    omega
  have HLAST : Hid (nth (Od.ordOf g) (lL - 1) = (len : Int) - 1) := by have := Od.ord_last HNd.out; rw [LL.out, LN.out] at this; exact this
  have HAT : Hid (∀ i, i < lL → ∃ n : Nat, nth (Od.ordOf g) i = (n : Int) ∧ n < len) := fun i hi => by
    obtain ⟨n, h1, h2, _⟩ := Od.ord_at HNd.out (i := i) (by rw [LL.out]; exact hi)
    exact ⟨n, h1, by rw [← LN.out]; exact h2⟩
  have HINN : Hid (∀ i, i < lL → ∀ v ∈ (nodeN g (nth (Od.ordOf g) i).toNat).inn, hasB ((Od.ordOf g).take i) v = true) := fun i hi v hv => Od.ord_inn HIO.out HNd.out (by rw [LL.out]; exact hi) hv
  have HTAK : Hid (∀ i, i < lL - 1 → ∃ k, i < k ∧ k < lL ∧ hasB (nodeN g (nth (Od.ordOf g) k).toNat).inn (nth (Od.ordOf g) i) = true) := fun i hi => by
    have := Od.ord_taken HNd.out (i := i) (by rw [LL.out]; exact hi)
    rw [LL.out] at this
    exact this
  have HRIS : Hid (∀ i, 0 < i → i < lL → nth (Od.ordOf g) (i - 1) < nth (Od.ordOf g) i) := fun i h0 hi => Od.rise_nth (Od.ord_rise g) (by omega) (by rw [LL.out]; exact hi)
  clear hb c3 hI hs hsh hio K2 K3
  generalize Od.ordOf g = L at *
  obtain ⟨mL, rfl⟩ : ∃ mL, lL = mL + 1 := ⟨lL - 1, by omega⟩
  obtain ⟨bL, oL, rfl, hbL, hcL⟩ := HL4.out.at_ (by omega)
  have kL := hcL mL (by omega)
  have hLAST := HLAST.out
  rw [Nat.add_sub_cancel] at hLAST
  rw [hLAST] at kL
  have q0 : ((mL : Int) + 1 == 0) = false := by simp; omega
  have hwm : IntKind.i64.wrap (mL : Int) = (mL : Int) := IntWalk.i64_in _ (by omega)
  have hwl : IntKind.i64.wrap ((len : Int) - 1) = (len : Int) - 1 := IntWalk.i64_in _ (by omega)
  clear hcL hLAST
  go_wp2_with fail
  go_quiet (fail)
  have K5 := Lib.hid (K4.out.on (below_drewN w4 nq _))
  have HL5 := Lib.hid (HL4.out.below (below_drewN w4 nq _))
  generalize w4.drewN nq = w5 at *
  clear kL c4 K4 HL4 q0 hwm hwl
  go_wp2
  go_loopg [5] (mL + 1) (fun gg i wr => ∃ k : Nat, k ≤ mL + 1 ∧ mL + 1 - k ≤ gg ∧ i = .int .i64 k ∧ Hid (Below w5.heap.size w5 wr))
  case atStart => exact ⟨0, Nat.zero_le _, by omega, rfl, Below.refl _ _⟩
  case round =>
    obtain ⟨k, hk, hg, rfl, HW⟩ := hrel
    by_cases hlt : k < mL + 1
    · have dkk : decide ((k : Int) < (mL : Int) + 1) = true := decide_eq_true (by omega)
      have Kr := Lib.hid (K5.out.on HW.out)
      have HLr := Lib.hid (HL5.out.below HW.out)
      have cr := Kr.out.cell
      obtain ⟨n, hn1, hn2⟩ := HAT.out k hlt
      obtain ⟨_, _, e, hbLr, hcL⟩ := HLr.out.at_ (by omega)
      cases e
      have kLk := hcL k hlt
      rw [hn1] at kLk
      have HINk := Lib.hid (HINN.out k hlt)
      rw [hn1, Int.toNat_natCast] at HINk
      obtain ⟨b, off, ai, li, ci, sa, ls, cs, rfl, _, n0, n1, n2, n3, n4, hV⟩ := Kr.out.n.get (Below.refl _ wr) hn2
      have HV := Lib.hid hV.i
      clear hV
      have cr' : ∀ o, (wr.alloc o).cell? ⟨w.heap.size, 0, none⟩ = some (.slice (some ⟨b, off, none⟩) len cap) := fun o => Lib.cell?_alloc_some _ cr
      have kLk' : ∀ o, (wr.alloc o).cell? ⟨bL, oL + k, none⟩ = some (.int .i64 (n : Int)) := fun o => Lib.cell?_alloc_some _ kLk
      have n0' : ∀ o, (wr.alloc o).cell? ⟨b, off + n * 5, none⟩ = some (.int .u8 (nodeN g n).kind) := fun o => Lib.cell?_alloc_some _ n0
      have n1' : ∀ o, (wr.alloc o).cell? ⟨b, off + n * 5 + 1, none⟩ = some (.slice ai li ci) := fun o => Lib.cell?_alloc_some _ n1
      have n2' : ∀ o, (wr.alloc o).cell? ⟨b, off + n * 5 + 2, none⟩ = some (.slice sa ls cs) := fun o => Lib.cell?_alloc_some _ n2
      have n3' : ∀ o, (wr.alloc o).cell? ⟨b, off + n * 5 + 3, none⟩ = some (.int .i64 (nodeN g n).n) := fun o => Lib.cell?_alloc_some _ n3
      have n4' : ∀ o, (wr.alloc o).cell? ⟨b, off + n * 5 + 4, none⟩ = some (.int .i64 (nodeN g n).pad) := fun o => Lib.cell?_alloc_some _ n4
      clear hcL
      go_wp2
      go_region
      have HB8 : Hid (Below wr.heap.size wr (wr.alloc (.cells #[.int .u8 (nodeN g n).kind, .slice ai li ci, .slice sa ls cs, .int .i64 (nodeN g n).n, .int .i64 (nodeN g n).pad] 46)).drew) := ((Below.refl _ _).alloc (Nat.le_refl _) _).drew
      have x1 : (wr.alloc (.cells #[.int .u8 (nodeN g n).kind, .slice ai li ci, .slice sa ls cs, .int .i64 (nodeN g n).n, .int .i64 (nodeN g n).pad] 46)).drew.cell? ⟨wr.heap.size, 1, none⟩ = some (.slice ai li ci) := by
        show (wr.alloc (.cells #[.int .u8 (nodeN g n).kind, .slice ai li ci, .slice sa ls cs, .int .i64 (nodeN g n).n, .int .i64 (nodeN g n).pad] 46)).cell? _ = _
        rw [World.cell?_alloc_at _ _ _ _ rfl]; rfl
      have hz8 : wr.heap.size < (wr.alloc (.cells #[.int .u8 (nodeN g n).kind, .slice ai li ci, .slice sa ls cs, .int .i64 (nodeN g n).n, .int .i64 (nodeN g n).pad] 46)).drew.heap.size := by show wr.heap.size < (wr.alloc (.cells #[.int .u8 (nodeN g n).kind, .slice ai li ci, .slice sa ls cs, .int .i64 (nodeN g n).n, .int .i64 (nodeN g n).pad] 46)).heap.size; simp
      have hzr : wr.heap.size = wr.heap.size := rfl
      generalize (wr.alloc (.cells #[.int .u8 (nodeN g n).kind, .slice ai li ci, .slice sa ls cs, .int .i64 (nodeN g n).n, .int .i64 (nodeN g n).pad] 46)).drew = w8 at *
      have K8 := Lib.hid (Kr.out.on HB8.out)
      have HL8 := Lib.hid (HLr.out.below HB8.out)
      have HV8 := Lib.hid (HV.out.below HB8.out)
      have HW8 : Hid (Below w5.heap.size w5 w8) := HW.out.trans (HB8.out.mono HW.out.size)
      have HX1 : Hid (∀ w', Below w8.heap.size w8 w' → w'.cell? ⟨wr.heap.size, 1, none⟩ = some (.slice ai li ci)) := fun w' hb => (hb.cell (p := ⟨wr.heap.size, 1, none⟩) hz8).trans x1
      have LV := Lib.hid HV8.out.length
      have hlile := HV8.out.le
      have hlicl := HV8.out.cap_le
      have hli4 : li ≤ 4 := by have h1 := (HIO.out n (by rw [LN.out]; exact hn2)).1; have h2 := LV.out; omega
      have hslL := run_take (some ⟨bL, oL, none⟩) (mL + 1) cL k (by omega) hLle
      clear cr cr' kLk kLk' n0 n0' n1 n1' n2 n2' n3 n3' n4 n4' hzr Kr HLr HV HB8 hz8
      go_wp2
      go_loopg [7] li (fun gg i wv => ∃ j : Nat, j ≤ li ∧ li - j ≤ gg ∧ i = .int .i64 j ∧ Hid (Below w8.heap.size w8 wv))
      case atStart => exact ⟨0, Nat.zero_le _, by omega, rfl, Below.refl _ _⟩
      case round =>
        rename World => wv
        obtain ⟨j, hj, hgj, rfl, HWv⟩ := hrel
        have x1v := HX1.out _ HWv.out
        by_cases hltj : j < li
        · have HLv := Lib.hid (HL8.out.below HWv.out)
          obtain ⟨bI, oI, rfl, _, hcI⟩ := (HV8.out.below HWv.out).at_ (by omega)
          have kI := hcI j hltj
          have hin : hasB (L.take k) (nth (nodeN g n).inn j) = true := HINk.out _ (nth_mem _ j (by rw [LV.out]; exact hltj))
          clear hcI
          generalize nth (nodeN g n).inn j = x at *
          have HC := Lib.hid (in_at (HLv.out.take k (by omega)) hin)
          clear hin
          go_wp2_with fail
          go_quiet ((go_at_call 47; with_reducible exact Calls.quiet_of_same (HC.out _)))
          have HW9 := Lib.hid (HWv.out.trans (below_drewN wv nq _))
          clear HC
          go_wp2
          go_roundg (li - (j + 1))
          case measure => exact Nat.lt_of_lt_of_le (Nat.sub_lt_sub_left hltj (Nat.lt_succ_self j)) hgj
          case rel => exact ⟨j + 1, Nat.succ_le_of_lt hltj, Nat.le_refl _, by go_num, HW9⟩
        · clear HX1 hgj
          obtain ⟨t0, dt, ht0⟩ : ∃ t0, ((k : Int) == (mL : Int)) = t0 ∧ (t0 = true ↔ k = mL) := ⟨_, rfl, by rw [beq_iff_eq]; omega⟩
          have hw17 : IntKind.i64.wrap ((mL : Int) + 1 - 1) = (mL : Int) := by rw [IntWalk.i64_in _ (by omega)]; omega
          have HT0 := Lib.hid ht0
          clear ht0
          go_wp2
          clear x1v hltj
          go_loopg [8, 9] (mL + 1) (fun gg t i wu => ∃ (q : Nat) (tk : Bool), k + 1 ≤ q ∧ q ≤ mL + 1 ∧ mL + 1 - q ≤ gg ∧ i = .int .i64 q ∧ t = .bool tk ∧ Hid (tk = true ↔ k = mL ∨ ∃ k2, k < k2 ∧ k2 < q ∧ hasB (nodeN g (nth L k2).toNat).inn (nth L k) = true) ∧ Hid (Below w8.heap.size w8 wu))
          case atStart => exact ⟨k + 1, t0, by omega, by omega, by omega, by go_num, rfl, ⟨fun h => .inl (HT0.out.1 h), fun h => h.elim HT0.out.2 (fun ⟨k2, h1, h2, _⟩ => absurd h2 (by omega))⟩, HWv⟩
          case round =>
            rename World => wu
            obtain ⟨q, tk, hq1, hq2, hgq, rfl, rfl, HTQ, HWu⟩ := hrel
            have Ku := Lib.hid (K8.out.on HWu.out)
            have cu := Ku.out.cell
            have HLv := Lib.hid (HL8.out.below HWu.out)
            obtain ⟨_, _, e, _, hcL⟩ := HLv.out.at_ (by omega)
            cases e
            by_cases hltq : q < mL + 1
            · cases tk with
              | true =>
                clear hcL
                go_wp2_with fail
                go_quiet (fail)
                have HWq := Lib.hid (HWu.out.trans (below_drewN wu nq _))
                clear HLv
                go_wp2
                go_roundg (mL + 1 - (q + 1))
                case measure => exact Nat.lt_of_lt_of_le (Nat.sub_lt_sub_left hltq (Nat.lt_succ_self q)) hgq
                case rel => exact ⟨q + 1, true, by omega, Nat.succ_le_of_lt hltq, Nat.le_refl _, by go_num, rfl, ⟨fun _ => (HTQ.out.1 (by first | rfl | trivial)).elim .inl (fun ⟨k2, h1, h2, h3⟩ => .inr ⟨k2, h1, by omega, h3⟩), fun _ => rfl⟩, HWq⟩
              | false =>
                have kLk := hcL k hlt
                have kLq := hcL q hltq
                rw [hn1] at kLk
                obtain ⟨n2, hq3, hq4⟩ := HAT.out q hltq
                rw [hq3] at kLq
                obtain ⟨_, _, aj, lj, cj, sj, tj, uj, e, _, m0, m1, m2, m3, m4, hVj⟩ := Ku.out.n.get (Below.refl _ wu) hq4
                cases e
                obtain ⟨bq, hbq⟩ : ∃ bq, hasB (nodeN g n2).inn (n : Int) = bq := ⟨_, rfl⟩
                have HC := Lib.hid (in_at hVj.i hbq)
                have HQ : Hid (hasB (nodeN g (nth L q).toNat).inn (nth L k) = bq) := by show _ = _; rw [hq3, hn1, Int.toNat_natCast]; exact hbq
                clear hcL hVj hbq
                go_wp2_with fail
                go_quiet ((go_at_call 47; with_reducible exact Calls.quiet_of_same (HC.out _)))
                have HWq := Lib.hid (HWu.out.trans (below_drewN wu nq _))
                clear HLv HC
                go_wp2
                go_roundg (mL + 1 - (q + 1))
                case measure => exact Nat.lt_of_lt_of_le (Nat.sub_lt_sub_left hltq (Nat.lt_succ_self q)) hgq
                case rel =>
                  refine ⟨q + 1, bq, by omega, Nat.succ_le_of_lt hltq, Nat.le_refl _, by go_num, rfl, ⟨fun hb => .inr ⟨q, by omega, by omega, by rw [HQ.out]; exact hb⟩, fun h => ?_⟩, HWq⟩
                  rcases h with h | ⟨k2, h1, h2, h3⟩
                  · exact absurd (HTQ.out.2 (.inl h)) (by simp)
                  · by_cases c : k2 = q
                    · subst c; rw [← HQ.out]; exact h3
                    · exact absurd (HTQ.out.2 (.inr ⟨k2, h1, by omega, h3⟩)) (by simp)
            · obtain rfl : tk = true := HTQ.out.2 (by
                by_cases c : k = mL
                · exact .inl c
                · obtain ⟨k2, h1, h2, h3⟩ := HTAK.out k (by omega)
                  exact .inr ⟨k2, h1, by omega, h3⟩)
              have kLk := hcL k hlt
              clear dt
              by_cases hk0 : k = 0
              · have dk0 : decide ((k : Int) > 0) = false := decide_eq_false (by omega)
                have dk1 : decide (0 < k) = false := decide_eq_false (by omega)
                clear hcL
                go_wp2_with fail
                go_quiet (fail)
                have HWq := Lib.hid (HWu.out.trans (below_drewN wu nq _))
                clear HLv
                go_wp2
                go_roundg (mL + 1 - (k + 1))
                case measure => exact Nat.lt_of_lt_of_le (Nat.sub_lt_sub_left hlt (Nat.lt_succ_self k)) hg
                case rel => exact ⟨k + 1, Nat.succ_le_of_lt hlt, Nat.le_refl _, by go_num, HW8.out.trans (HWq.out.mono HW8.out.size)⟩
              · have dk0 : decide ((k : Int) > 0) = true := decide_eq_true (by omega)
                have dk1 : decide (0 < k) = true := decide_eq_true (by omega)
                have hris := HRIS.out k (by omega) hlt
                have kLp := hcL (k - 1) (by omega)
                have hk1 : ((k : Int) - 1).toNat = k - 1 := by omega
                have hk2 : IntKind.i64.wrap ((k : Int) - 1) = (k : Int) - 1 := IntWalk.i64_in _ (by omega)
                have hk3 : 0 ≤ (k : Int) - 1 := by omega
                have hk4 : (k : Int) - 1 < (mL : Int) + 1 := by omega
                generalize nth L (k - 1) = x at *
                generalize nth L k = y at *
                have dx : decide (x ≥ y) = false := decide_eq_false (by omega)
                clear hcL
                go_wp2_with fail
                go_quiet (fail)
                clear hk1 hk2 hk3 hk4 dx
                have HWq := Lib.hid (HWu.out.trans (below_drewN wu nq _))
                clear HLv
                go_wp2
                go_roundg (mL + 1 - (k + 1))
                case measure => exact Nat.lt_of_lt_of_le (Nat.sub_lt_sub_left hlt (Nat.lt_succ_self k)) hg
                case rel => exact ⟨k + 1, Nat.succ_le_of_lt hlt, Nat.le_refl _, by go_num, HW8.out.trans (HWq.out.mono HW8.out.size)⟩
    · go_wp2
      go_ret
      exact ⟨rfl, (K5.out.on HW.out).bel⟩
end Go.Proofs.Ytgmagldbfajedaa
