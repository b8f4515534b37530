/-
  drydocklaw10.GraphsInsert: the walk ginsert_walk (it returns true, and changes nothing below).
-/
import Derived.Test.YtgmagldbfajedaaGrInsChain
import Derived.Deep.RegionHeld3
namespace Go.Proofs.Ytgmagldbfajedaa
open Go.RowKit

theorem slice_rest36 (b off len cap r : Nat) (h1 : r ≤ len) (_ : len ≤ cap) (h3' : r < cap) (w : World) : (Instr.slice 36 (.slice (some ⟨b, off, none⟩) len cap) (some (.int .i64 (r : Int))) none none).run Try.prog w = .ok (.slice (some ⟨b, off + r * 5, none⟩) (len - r) (cap - r)) w := by
  have h3 : Try.prog.elem 36 = 46 := by kernel_rfl
  have c : ¬ cap = r := by omega
  have hc : ¬ cap - r = 0 := by omega
  rw [run_slice_l w 36 _ len cap (by rw [h3]; exact Try.underlying36) .i64 (r : Int) (by omega) (by omega), h3]
  by_cases hr : r = 0
  · subst hr; simp [go_sem, sliced, Addr.add, c]
  · simp [go_sem, sliced, Addr.add, c]
    omega
theorem slice_take40 (a : Option Addr) (len cap r : Nat) (h1 : r ≤ len) (h2 : len ≤ cap) (w : World) : (Instr.slice 40 (.slice a len cap) none (some (.int .i64 (r : Int))) none).run Try.prog w = .ok (.slice a r cap) w := by
  have h3 : Try.prog.elem 40 = 22 := by kernel_rfl
  rw [run_slice_h w 40 a len cap (by rw [h3]; exact Try.underlying40) .i64 (r : Int) (by omega) (by omega), h3]
  have e : (a.map fun x => x.add 0) = a := by cases a <;> simp [Addr.add]
  by_cases c : cap = 0
  · simp [go_sem, sliced, c]
  · simp [go_sem, sliced, c]
theorem slice_rest40 (b off len cap r : Nat) (h1 : r ≤ len) (_ : len ≤ cap) (h3' : r < cap) (w : World) : (Instr.slice 40 (.slice (some ⟨b, off, none⟩) len cap) (some (.int .i64 (r : Int))) none none).run Try.prog w = .ok (.slice (some ⟨b, off + r, none⟩) (len - r) (cap - r)) w := by
  have h3 : Try.prog.elem 40 = 22 := by kernel_rfl
  have c : ¬ cap = r := by omega
  have hc : ¬ cap - r = 0 := by omega
  rw [run_slice_l w 40 _ len cap (by rw [h3]; exact Try.underlying40) .i64 (r : Int) (by omega) (by omega), h3]
  by_cases hr : r = 0
  · subst hr; simp [go_sem, sliced, Addr.add, c]
  · simp [go_sem, sliced, Addr.add, c, hr]
theorem Grid.takeIn {w w0 : World} {b off len cap : Nat} {M : List (List Int)} (h : Grid w (some ⟨b, off, none⟩) len cap M) (k : Nat) (hk : k ≤ len) (hb : Below w.heap.size w w0) : GridIn w0 w b off k cap (M.take k) := by
  refine ⟨by rw [List.length_take, h.length]; omega, fun h0 => ?_, fun i hi => ?_⟩
  · obtain ⟨b', off', e, hlt, _⟩ := h.at_ (by omega)
    simp only [Option.some.injEq, Addr.mk.injEq] at e
    obtain ⟨rfl, rfl, _⟩ := e
    exact Nat.lt_of_lt_of_le hlt hb.size
  · obtain ⟨b', off', e, hlt, hc⟩ := h.at_ (by omega)
    simp only [Option.some.injEq, Addr.mk.injEq] at e
    obtain ⟨rfl, rfl, _⟩ := e
    obtain ⟨a, l, q, e1, hI⟩ := hc i (by omega)
    refine ⟨a, l, q, (hb.cell (p := ⟨b, _, none⟩) hlt).trans e1, ?_⟩
    have : rowL (M.take k) i = rowL M i := by unfold rowL; simp only [List.getD_eq_getElem?_getD, List.getElem?_take, hi, if_true]
    rw [this]; exact hI
theorem Grid.dropIn {w w0 : World} {b off len cap : Nat} {M : List (List Int)} (h : Grid w (some ⟨b, off, none⟩) len cap M) (k : Nat) (hk : k ≤ len) (h0 : 0 < len) (hb : Below w.heap.size w w0) : GridIn w0 w b (off + k) (len - k) (cap - k) (M.drop k) := by
  obtain ⟨b', off', e, hlt, hc⟩ := h.at_ h0
  simp only [Option.some.injEq, Addr.mk.injEq] at e
  obtain ⟨rfl, rfl, _⟩ := e
  refine ⟨by rw [List.length_drop, h.length], fun _ => Nat.lt_of_lt_of_le hlt hb.size, fun i hi => ?_⟩
  obtain ⟨a, l, q, e1, hI⟩ := hc (k + i) (by omega)
  refine ⟨a, l, q, ?_, ?_⟩
  · rw [show off + k + i = off + (k + i) by omega]
    exact (hb.cell (p := ⟨b, _, none⟩) hlt).trans e1
  · have : rowL (M.drop k) i = rowL M (k + i) := by unfold rowL; simp only [List.getD_eq_getElem?_getD, List.getElem?_drop]
    rw [this]; exact hI
theorem Gr.insG_without (k : Nat) (s : List Int) (L : List (List Int)) (hk : k ≤ L.length) : (Gr.insG k s L).take k ++ (Gr.insG k s L).drop (k + 1) = L := by
  unfold Gr.insG
  have hl : (L.take k).length = k := by rw [List.length_take]; omega
  rw [List.take_left' hl, List.drop_append, hl, List.drop_eq_nil_of_le (by omega), List.nil_append, show k + 1 - k = 1 by omega]
  simp
theorem Gr.insG_row (k : Nat) (s : List Int) (L : List (List Int)) (hk : k ≤ L.length) : rowL (Gr.insG k s L) k = s := by
  unfold Gr.insG
  have hl : (L.take k).length = k := by rw [List.length_take]; omega
  have := rowL_right (L.take k) (s :: L.drop k) 0
  rw [hl, Nat.add_zero] at this
  rw [this]; rfl
theorem Gr.weights_insert (k : Nat) (s : List Int) (g : List Gr.Node) : (Gr.weights (Gr.insert k s g)).length = (Gr.weights g).length + 1 := by
  have hb : ∀ (l : List Gr.Node) (i j : Nat), (Gr.weightsF i (l.map (Gr.bump k))).length = (Gr.weightsF j l).length := by
    intro l
    induction l with
    | nil => intro i j; rfl
    | cons x r ih =>
      intro i j
      simp only [List.map_cons, Gr.weightsF]
      have hkd : (Gr.bump k x).kind = x.kind := rfl
      rw [hkd]
      by_cases c : x.kind = 2
      · rw [if_pos c, if_pos c, List.length_cons, List.length_cons, ih (i + 1) (j + 1)]
      · rw [if_neg c, if_neg c, ih (i + 1) (j + 1)]
  have h1 := Gr.weightsF_append (g.take k) 0 (g.drop k)
  rw [List.take_append_drop] at h1
  unfold Gr.weights Gr.insert
  rw [h1, Gr.weightsF_append, List.length_append, List.length_append]
  simp only [Gr.weightsF, if_true, List.length_cons]
  rw [hb (g.drop k) (0 + (g.take k).length + 1) (0 + (g.take k).length)]
  omega

set_option maxHeartbeats 4000000 in
set_option maxRecDepth 100000 in
theorem ginsert_walk (a : Option Addr) (len cap : Nat) (g : List Gr.Node) (m : Int) (aS : Option Addr) (lS cS : Nat) (s : List Int) (w : World) (HN : Nodes w a len cap g) (HS : Ints w aS lS cS s) (hm0 : 0 ≤ m) (hm1 : m ≤ 255) :
    Calls Try.prog 11 #[.agg #[.slice a len cap], .int .u8 m, .slice aS lS cS] w fun e w' => e = .returned (.bool true) ∧ Below w.heap.size w w' := by
  have LN := Lib.hid HN.length
  have hle := HN.le
  have hcl := HN.cap_le
  have hll := HN.len_le
  have hsl := HS.le
  have hsc := HS.cap_le
  have KS := Lib.hid HS
  have HWF : Hid (∀ i, i < len → NodeWf (nodeN g i)) := NodesIn.wf HN
  have K0 := Lib.hid (GSt.start HN)
  clear HN HS
  go_enter Try.func11, Try.ntmps11
  go_wp2_with fail
  refine (galive_any _).mono ?_
  rintro e w2 ⟨rfl, hb⟩
  have K2 := Lib.hid (K0.out.on hb)
  have c2 := K2.out.cell
  clear hb K0
  go_wp2_with fail
  refine (gsize_any _ _ _ g _ K2.out.n).mono ?_
  rintro e w3 ⟨v, rfl, ⟨hv0, hv1⟩, hb⟩
  have K3 := Lib.hid (K2.out.on hb)
  have c3 := K3.out.cell
  clear hb c2
  by_cases hbig : 20000 < v
  · have d : decide (v > 20000) = true := decide_eq_true hbig
    go_wp2_with fail
    refine (galive_any _).mono ?_
    rintro e w4 ⟨rfl, hb⟩
    have K4 := Lib.hid (K3.out.on hb)
    clear hb
    go_wp2
    go_ret
    exact ⟨rfl, K4.out.bel⟩
  have d : decide (v > 20000) = false := decide_eq_false hbig
  by_cases hbig2 : 31 < len
  · have d2 : decide ((len : Int) > 31) = true := decide_eq_true (by omega)
    go_wp2_with fail
    refine (galive_any _).mono ?_
    rintro e w4 ⟨rfl, hb⟩
    have K4 := Lib.hid (K3.out.on hb)
    clear hb
    go_wp2
    go_ret
    exact ⟨rfl, K4.out.bel⟩
  have d2 : decide ((len : Int) > 31) = false := decide_eq_false (by omega)
  by_cases hbig3 : 10000 < lS
  · have d3 : decide ((lS : Int) > 10000) = true := decide_eq_true (by omega)
    go_wp2_with fail
    refine (galive_any _).mono ?_
    rintro e w4 ⟨rfl, hb⟩
    have K4 := Lib.hid (K3.out.on hb)
    clear hb
    go_wp2
    go_ret
    exact ⟨rfl, K4.out.bel⟩
  have d3 : decide ((lS : Int) > 10000) = false := decide_eq_false (by omega)
  go_wp2_with fail
  refine (gshapes_any _ _ _ g _ K3.out.n).mono ?_
  rintro e w4 ⟨hb, ⟨hs, rfl⟩ | ⟨was, aW, lW, hs, rfl, hG⟩⟩
  · have K4 := Lib.hid (K3.out.on hb)
    clear hb hs c3
    go_wp2
    go_ret
    exact ⟨rfl, K4.out.bel⟩
  have K4 := Lib.hid (K3.out.on hb)
  have c4 := K4.out.cell
  have HSH := Lib.hid hs
  have HG4 := Lib.hid hG
  obtain ⟨⟨hl1, hl2⟩, _, _⟩ := Gr.shapes_iff.1 hs
  rw [LN.out] at hl1 hl2
  have HSM : Hid (∀ i, i < len → (nodeN g i).inn.length ≤ 4 ∧ (nodeN g i).shape.length ≤ 4 ∧ ∀ v ∈ (nodeN g i).inn, 0 ≤ v ∧ v < i) := fun i hi => Gr.node_small hs (by rw [LN.out]; exact hi)
  have hsm : ∀ i, i < len → (nodeN g i).inn.length ≤ 1000000 ∧ (nodeN g i).shape.length ≤ 1000000 := fun i hi => by have := HSM.out i hi; omega
  have HSZ := Lib.hid hsm
  obtain ⟨k, hk1, hk2⟩ := rem_nat (n := len) hm0 (by omega)
  have hz : ((len : Int) == 0) = false := by simp; omega
  clear hb hs hG c3 K2 K3 hsm
  go_wp2_with fail
  refine (twinGraph_any _ _ _ g _ K4.out.n (by omega) HSZ.out).mono ?_
  rintro e w5 ⟨nb, c, f, h, rfl, hO, hc1, hc2, hb⟩
  have K5 := Lib.hid (K4.out.on hb)
  have HG5 := Lib.hid (HG4.out.below hb)
  have hw45 := hb.size
  have HB45 := Lib.hid hb
  obtain ⟨nb', cp', ev, _, _, hT⟩ := hO.twin (by rw [LN.out]; omega)
  simp only [Value.slice.injEq, Option.some.injEq, Addr.mk.injEq] at ev
  obtain ⟨⟨rfl, _⟩, hlg, rfl⟩ := ev
  clear hlg
  have HT5 := Lib.hid hT
  obtain ⟨l1, l2⟩ := hO.lts
  have HLT : Hid ((∀ i, i < len → w5.heap.size ≠ f i ∧ w5.heap.size ≠ h i ∧ w4.heap.size ≤ f i) ∧ nb ≠ w5.heap.size) := by
    refine ⟨fun i hi => ?_, ?_⟩
    · have := l1 i (by rw [LN.out]; exact hi)
      obtain ⟨vi, vsh, _, _, _, _, _, r1, _⟩ := hT.at_ i (by rw [LN.out]; exact hi)
      have := r1.lt
      omega
    · have := hT.lt; omega
  have HT6 := Lib.hid (hT.below ((Below.refl _ _).alloc (Nat.le_refl _) (.cells #[.slice (some ⟨nb, 0, none⟩) len c] 38)))
  have HC6 : Hid ((w5.alloc (.cells #[.slice (some ⟨nb, 0, none⟩) len c] 38)).cell? ⟨w5.heap.size, 0, none⟩ = some (.slice (some ⟨nb, 0, none⟩) len c)) := by show _ = _; rw [World.cell?_alloc_at _ _ _ _ rfl]; rfl
  have HB6 : Hid (Below w4.heap.size w4 (w5.alloc (.cells #[.slice (some ⟨nb, 0, none⟩) len c] 38))) := HB45.out.alloc hw45 _
  have HZ6 : Hid (w5.heap.size < (w5.alloc (.cells #[.slice (some ⟨nb, 0, none⟩) len c] 38)).heap.size) := by show _ < _; simp
  have HT6' := Lib.hid (HT6.out.congr (J := Gr.insI g k k 0) (fun i _ => (Gr.insI_start g k i).symm))
  clear hO hb hT l1 l2 c4 HT6 HT5
  go_wp2
  go_loopg [11] len (fun gg i wr => ∃ q : Nat, k ≤ q ∧ q ≤ len ∧ len - q ≤ gg ∧ i = .int .i64 q ∧ Hid (TwinG w4.heap.size wr nb f h g (Gr.insI g k q 0)) ∧ Hid (wr.cell? ⟨w5.heap.size, 0, none⟩ = some (.slice (some ⟨nb, 0, none⟩) len c)) ∧ Hid (Below w4.heap.size w4 wr) ∧ Hid (w5.heap.size < wr.heap.size))
  case atStart => exact ⟨k, Nat.le_refl _, by omega, by omega, rfl, HT6', HC6, HB6, HZ6⟩
  case round =>
    obtain ⟨q, hq1, hq2, hg, rfl, HT, HC, HB, HZ⟩ := hrel
    have cH := HC.out
    by_cases hlt : q < len
    · have dql : decide ((q : Int) < (len : Int)) = true := decide_eq_true (by omega)
      have HSq := Lib.hid (HSM.out q hlt)
      go_wp2
      go_loopg [12] (nodeN g q).inn.length (fun gg i wv => ∃ j : Nat, j ≤ (nodeN g q).inn.length ∧ (nodeN g q).inn.length - j ≤ gg ∧ i = .int .i64 j ∧ Hid (TwinG w4.heap.size wv nb f h g (Gr.insI g k q j)) ∧ Hid (wv.cell? ⟨w5.heap.size, 0, none⟩ = some (.slice (some ⟨nb, 0, none⟩) len c)) ∧ Hid (Below w4.heap.size w4 wv) ∧ Hid (w5.heap.size < wv.heap.size))
      case atStart => exact ⟨0, Nat.zero_le _, by omega, rfl, HT, HC, HB, HZ⟩
      case round =>
        rename World => wv
        obtain ⟨j, hj, hgj, rfl, HTv, HCv, HBv, HZv⟩ := hrel
        have cHv := HCv.out
        obtain ⟨vi, vsh, _, e1, _, _, _, ⟨o1, cp1, rfl, hM⟩, _⟩ := HTv.out.at_ q (by rw [LN.out]; exact hlt)
        have hIl : (Gr.insI g k q j q).length = (nodeN g q).inn.length := by unfold Gr.insI; rw [if_pos rfl, Gr.bumpT_length]
        rw [hIl] at e1
        have HM := Lib.hid hM
        have hli4 := HSq.out.1
        have hmle := hM.le
        have hmcl := hM.cap_le
        rw [hIl] at hmle
        clear hM
        by_cases hltj : j < (nodeN g q).inn.length
        · have djl : decide ((j : Int) < ((nodeN g q).inn.length : Int)) = true := decide_eq_true (by omega)
          have kI := HM.out.cell j (by rw [hIl]; exact hltj)
          have kF := HM.out.fr j (by rw [hIl]; exact hltj)
          have hnj : nth (Gr.insI g k q j q) j = nth (nodeN g q).inn j := by unfold Gr.insI; rw [if_pos rfl, Gr.bumpT_nth _ _ hltj]
          rw [hnj] at kI
          have hvb := HSq.out.2.2 _ (nth_mem (nodeN g q).inn j hltj)
          have HSET : Hid (k ≤ nth (nodeN g q).inn j → TwinG w4.heap.size (wv.setCell ⟨f q, o1 + j, none⟩ (.int .i64 (nth (nodeN g q).inn j + 1))) nb f h g (Gr.insI g k q (j + 1))) := fun hkv => by
            have h1 := HTv.out.set (i := q) (k := j) (by rw [LN.out]; exact hlt) (by rw [hIl]; exact hltj) e1 (nth (nodeN g q).inn j + 1)
            refine h1.congr fun i _ => ?_
            have h2 := Gr.insI_set g k q j i hltj
            rw [show Gr.bumpI k (nth (nodeN g q).inn j) = nth (nodeN g q).inn j + 1 by unfold Gr.bumpI; rw [if_pos hkv]] at h2
            exact h2
          have HKEEP : Hid (¬ (k : Int) ≤ nth (nodeN g q).inn j → TwinG w4.heap.size wv nb f h g (Gr.insI g k q (j + 1))) := fun hkv => HTv.out.congr fun i _ => (Gr.insI_keep g k q j i hltj (by unfold Gr.bumpI; rw [if_neg hkv])).symm
          have hfq := (HLT.out.1 q hlt)
          have hne1 : nb ≠ f q := (HTv.out.ne q (by rw [LN.out]; exact hlt)).1
          have HBs := Lib.hid (below_setCell HBv.out (f q) (o1 + j) (.int .i64 (nth (nodeN g q).inn j + 1)) hfq.2.2)
          have HCs : Hid ((wv.setCell ⟨f q, o1 + j, none⟩ (.int .i64 (nth (nodeN g q).inn j + 1))).cell? ⟨w5.heap.size, 0, none⟩ = some (.slice (some ⟨nb, 0, none⟩) len c)) := by
            show _ = _
            have hne2 : (⟨w5.heap.size, 0, none⟩ : Addr) ≠ ⟨f q, o1 + j, none⟩ := fun e => hfq.1 (Addr.mk.inj e).1
            rw [World.cell?_setCell_other _ _ _ _ (by first | exact hne2 | exact hne2.symm)]
            exact HCv.out
          have HZs : Hid (w5.heap.size < (wv.setCell ⟨f q, o1 + j, none⟩ (.int .i64 (nth (nodeN g q).inn j + 1))).heap.size) := by show _ < _; simp [World.setCell]; exact HZv.out
          clear hnj
          generalize nth (nodeN g q).inn j = x at *
          by_cases hkx : (k : Int) ≤ x
          · have dkx : decide (x ≥ (k : Int)) = true := decide_eq_true hkx
            have HT2 := Lib.hid (HSET.out hkx)
            clear HSET HKEEP
            go_wp2
            go_roundg ((nodeN g q).inn.length - (j + 1))
            case measure => exact Nat.lt_of_lt_of_le (Nat.sub_lt_sub_left hltj (Nat.lt_succ_self j)) hgj
            case rel => exact ⟨j + 1, Nat.succ_le_of_lt hltj, Nat.le_refl _, by go_num, HT2, HCs, HBs, HZs⟩
          · have dkx : decide (x ≥ (k : Int)) = false := decide_eq_false hkx
            have HT2 := Lib.hid (HKEEP.out hkx)
            clear HSET HKEEP
            go_wp2
            go_roundg ((nodeN g q).inn.length - (j + 1))
            case measure => exact Nat.lt_of_lt_of_le (Nat.sub_lt_sub_left hltj (Nat.lt_succ_self j)) hgj
            case rel => exact ⟨j + 1, Nat.succ_le_of_lt hltj, Nat.le_refl _, by go_num, HT2, HCv, HBv, HZv⟩
        · have djl : decide ((j : Int) < ((nodeN g q).inn.length : Int)) = false := decide_eq_false (by omega)
          have HT2 := Lib.hid (HTv.out.congr (J := Gr.insI g k (q + 1) 0) (fun i _ => (Gr.insI_next g k q j i hq1 (by omega)).symm))
          go_wp2
          go_roundg (len - (q + 1))
          case measure => exact Nat.lt_of_lt_of_le (Nat.sub_lt_sub_left hlt (Nat.lt_succ_self q)) hg
          case rel => exact ⟨q + 1, by omega, Nat.succ_le_of_lt hlt, Nat.le_refl _, by go_num, HT2, HCv, HBv, HZv⟩
    · have dql : decide ((q : Int) < (len : Int)) = false := decide_eq_false (by omega)
      obtain rfl : q = len := by omega
      have hln := LN.out
      have hT9 := HT.out.nodes (cap := c) (by rw [hln]; omega) hc2 (by rw [hln]; omega) (Gr.bumped g k) (Gr.bumped_length g k) (fun i hi => by
        have := Gr.bumped_at g k i (by omega) hi
        rw [hln] at this
        exact this) (fun i hi => by
        rw [Gr.bumped_at g k i (by omega) hi]
        obtain ⟨w1, w2, w3, w4', w5', w6, w7⟩ := HWF.out i (by omega)
        have hsm := HSM.out i (by omega)
        have hil : (Gr.insI g k g.length 0 i).length = (nodeN g i).inn.length := by
          unfold Gr.insI
          rw [if_neg (by omega)]
          split
          · simp
          · rfl
        refine ⟨by show (Gr.insI g k g.length 0 i).length ≤ _; rw [hil]; exact w1, w2, w3, w4', w5', fun v hv => ?_, w7⟩
        have hv' : v ∈ Gr.insI g k g.length 0 i := hv
        unfold Gr.insI at hv'
        rw [if_neg (by omega)] at hv'
        split at hv'
        · obtain ⟨y, hy, rfl⟩ := List.mem_map.1 hv'
          have := hsm.2.2 y hy
          unfold Gr.bumpI
          split <;> omega
        · have := hsm.2.2 v hv'
          omega)
      rw [hln] at hT9
      have HT9 := Lib.hid hT9
      have hlo := HT.out.lo
      have hnlt := HT.out.lt
      have hsl1 := slice_take36 (some ⟨nb, 0, none⟩) q c k (by omega) (by omega)
      have hsl2 := slice_rest36 nb 0 q c k (by omega) (by omega) (by omega)
      have hq0 : q ≤ c := by omega
      have HKw : Hid (GSt w a q cap g wr) := K4.out.on HB.out
      have HSw : Hid (Ints wr aS lS cS s) := KS.out.below HKw.out.bel
      have HNV : Hid (NodeV wr none 0 0 aS lS cS ⟨2, [], s, 0, 0⟩) := ⟨Ints.nil, HSw.out, by omega, by omega, by dsimp only; omega, by dsimp only; omega, by dsimp only; omega⟩
      have HGw := Lib.hid (HG4.out.below HB.out)
      have HINS : Hid (([] ++ (Gr.bumped g k).take k) ++ [(⟨2, [], s, 0, 0⟩ : Gr.Node)] ++ (Gr.bumped g k).drop k = Gr.insert k s g) := by
        show _ = _
        rw [Gr.bumped_take g k (by rw [LN.out]; omega), Gr.bumped_drop g k (by rw [LN.out]; omega)]
        unfold Gr.insert; simp
      have hgl := LN.out
      have HLT2 : Hid (((Gr.bumped g k).take k).length ≤ 100000) := by show _ ≤ _; rw [List.length_take]; omega
      clear hT9
      go_wp2_with fail
      refine nd_region (wq := wr) (p := (Gr.bumped g k).take k) (q := (Gr.bumped g k).drop k) (x := ⟨2, [], s, 0, 0⟩) (TP := .pointer (some ⟨w5.heap.size, 0, none⟩)) (SL := .slice (some ⟨nb, 0, none⟩) q c) (SV := .slice aS lS cS) (n := (k : Int)) (TK := .slice (some ⟨nb, 0, none⟩) k c) (DR := .slice (some ⟨nb, 0 + k * 5, none⟩) (q - k) (c - k)) (X := .agg #[.int .u8 2, .slice none 0 0, .slice aS lS cS, .int .i64 0, .int .i64 0]) ⟨rfl, ⟨_, rfl, rfl, rfl, by kernel_rfl⟩, ⟨_, rfl, rfl, rfl, by kernel_rfl⟩, ⟨_, rfl, rfl, rfl, by kernel_rfl⟩, ⟨_, rfl, rfl, rfl, by kernel_rfl⟩, ⟨_, rfl, rfl, rfl, by kernel_rfl⟩, ⟨_, rfl, rfl, rfl, by kernel_rfl⟩, ⟨_, rfl, rfl, rfl, by kernel_rfl⟩, ⟨_, rfl, rfl, rfl, by kernel_rfl⟩, ⟨_, rfl, rfl, rfl, by kernel_rfl⟩, ⟨_, rfl, rfl, rfl, by kernel_rfl⟩, ⟨_, rfl, rfl, rfl, by kernel_rfl⟩, ⟨_, rfl, rfl, rfl, by kernel_rfl⟩, ⟨_, rfl, rfl, rfl, by kernel_rfl⟩, ⟨_, rfl, rfl, rfl, by kernel_rfl⟩, ⟨_, rfl, rfl, rfl, by kernel_rfl⟩, ⟨_, rfl, rfl, rfl, by kernel_rfl⟩, ⟨_, rfl, rfl, rfl, by kernel_rfl⟩⟩ rfl (by kernel_rfl) rfl rfl rfl w5.heap.size rfl aS lS cS rfl rfl nb 0 k c nb (0 + k * 5) (q - k) (c - k) rfl rfl (fun W hW => (HT9.out.below hW (Below.refl _ _)).take k (by omega)) (fun W hW => (HT9.out.below hW (Below.refl _ _)).drop k (by omega)) HNV.out ⟨rfl, rfl, rfl⟩ (fun W hW => (hW.cell (p := ⟨w5.heap.size, 0, none⟩) HZ.out).trans HC.out) hsl1 hsl2 HLT2.out (by omega) (by omega) ?_
      intro u4 u7 u8 u13 u15 W hO hBw nbx e15 hnbx hbox
      subst e15
      rw [HINS.out] at hO
      obtain ⟨a13, l13, c13, rfl, hN⟩ := hO.nodes (by unfold Gr.insert; simp; omega)
      have HNN := Lib.hid (NodesIn.below hN (Below.refl _ _) hBw)
      have HBX : Hid (W.heap[nbx]? = some (.cells #[.slice a13 l13 c13] 38 (0, 0))) := hbox
      have cbx : W.cell? ⟨nbx, 0, none⟩ = some (.slice a13 l13 c13) := by unfold World.cell?; rw [hbox]; rfl
      have K10 := Lib.hid (HKw.out.on hBw)
      have HG10 := Lib.hid (HGw.out.below hBw)
      have HS10 := Lib.hid (HSw.out.below hBw)
      clear hO hN hBw hbox hnbx hsl1 hsl2 HT HC HB HZ HT9
      simp only [putsK, dstAt, finNd, constNd, List.getElem?_cons_succ, List.getElem?_cons_zero, Option.bind_some, Option.getD_some]
      go_wp2_with fail
      refine (gshapes_any _ _ _ (Gr.insert k s g) _ HNN.out).mono ?_
      have HSI : Hid (Gr.shapes (Gr.insert k s g) = if Gr.chk s = true then some (Gr.insG k s was) else none) := Gr.shapes_insert HSH.out (by rw [hgl]; omega) k (by rw [hgl]; omega) s
      have hwl : was.length = q := by rw [Gr.shapes_len HSH.out]; exact hgl
      have HWL := Lib.hid hwl
      rintro e w11 ⟨hb, ⟨hs, rfl⟩ | ⟨is_, aI, lI, hs, rfl, hGI⟩⟩
      · have hck : Gr.chk s = false := by
          rw [HSI.out] at hs
          cases h : Gr.chk s with
          | false => rfl
          | true => rw [h, if_pos rfl] at hs; cases hs
        have HCK := Lib.hid hck
        have K11 := Lib.hid (K10.out.on hb)
        have HS11 := Lib.hid (HS10.out.below hb)
        clear hs hck hb cbx hwl hgl
        go_wp2_with fail
        refine (check_any _ _ _ s _ HS11.out).mono ?_
        rintro e w12 ⟨rfl, rfl⟩
        rw [HCK.out]
        go_wp2
        go_ret
        exact ⟨rfl, K11.out.bel⟩
      · have hck : Gr.chk s = true := by
          rw [HSI.out] at hs
          cases h : Gr.chk s with
          | true => rfl
          | false => rw [h, if_neg (by simp)] at hs; cases hs
        have hisE : is_ = Gr.insG k s was := by
          rw [HSI.out, if_pos hck] at hs
          exact (Option.some.inj hs).symm
        subst hisE
        have hlI : lI = q + 1 := by rw [← hGI.length, Gr.insG_length, hwl]
        subst hlI
        have HCK := Lib.hid hck
        have K11 := Lib.hid (K10.out.on hb)
        have HS11 := Lib.hid (HS10.out.below hb)
        have HG11 := Lib.hid (HG10.out.below hb)
        have HN11 := Lib.hid (HNN.out.on hb)
        have HGI := Lib.hid hGI
        have HBX11 : Hid (w11.cell? ⟨nbx, 0, none⟩ = some (.slice a13 l13 c13)) := (hb.cell (p := ⟨nbx, 0, none⟩) (Array.getElem?_eq_some_iff.1 HBX.out).1).trans cbx
        have HBXL : Hid (nbx < w11.heap.size) := Nat.lt_of_lt_of_le (Array.getElem?_eq_some_iff.1 HBX.out).1 hb.size
        obtain ⟨bI, oI, rfl, hbI, hcI⟩ := hGI.at_ (by omega)
        obtain ⟨aR, lR, cR, kR, hR⟩ := hcI k (by omega)
        rw [Gr.insG_row k s was (by rw [hwl]; omega)] at hR
        have HR := Lib.hid hR
        have HKR := Lib.hid kR
        have HBI := Lib.hid hbI
        have HINL : Hid (([] ++ (Gr.insG k s was).take k) ++ (Gr.insG k s was).drop (k + 1) = was) := by
          show _ = _
          rw [List.nil_append]; exact Gr.insG_without k s was (by rw [HWL.out]; omega)
        have hlp : ((Gr.insG k s was).take k).length ≤ 100000 := by rw [List.length_take]; omega
        have HLP := Lib.hid hlp
        have HWE := Lib.hid (Gr.weights_insert k s g)
        have hsl1 := slice_take40 (some ⟨bI, oI, none⟩) (q + 1) (q + 1) k (by omega) (by omega)
        have hsl2 := slice_rest40 bI oI (q + 1) (q + 1) (k + 1) (by omega) (by omega) (by omega)
        rw [show ((k + 1 : Nat) : Int) = (k : Int) + 1 by omega] at hsl2
        have HSL2 := Lib.hid hsl2
        have HSL1 := Lib.hid hsl1
        clear hs hck hb cbx hwl hgl hGI hcI kR hR hbI hlp hsl2 hsl1
        go_wp2_with fail
        refine (check_any _ _ _ s _ HS11.out).mono ?_
        rintro e w12 ⟨rfl, rfl⟩
        rw [HCK.out]
        go_wp2_with fail
        refine gd_region (wq := w11) (p := (Gr.insG k s was).take k) (q := (Gr.insG k s was).drop (k + 1)) (SL := .slice (some ⟨bI, oI, none⟩) (q + 1) (q + 1)) (n := (k : Int)) (TK := .slice (some ⟨bI, oI, none⟩) k (q + 1)) (DR := .slice (some ⟨bI, oI + (k + 1), none⟩) (q + 1 - (k + 1)) (q + 1 - (k + 1))) ⟨rfl, ⟨_, rfl, rfl, rfl, by kernel_rfl⟩, ⟨_, rfl, rfl, rfl, by kernel_rfl⟩, ⟨_, rfl, rfl, rfl, by kernel_rfl⟩, ⟨_, rfl, rfl, rfl, by kernel_rfl⟩, ⟨_, rfl, rfl, rfl, by kernel_rfl⟩, ⟨_, rfl, rfl, rfl, by kernel_rfl⟩, ⟨_, rfl, rfl, rfl, by kernel_rfl⟩, ⟨_, rfl, rfl, rfl, by kernel_rfl⟩, ⟨_, rfl, rfl, rfl, by kernel_rfl⟩, ⟨_, rfl, rfl, rfl, by kernel_rfl⟩⟩ rfl (by kernel_rfl) rfl rfl bI oI k (q + 1) bI (oI + (k + 1)) (q + 1 - (k + 1)) (q + 1 - (k + 1)) rfl rfl (fun W hW => HGI.out.takeIn k (by omega) hW) (fun W hW => HGI.out.dropIn (k + 1) (by omega) (by omega) hW) ⟨by omega, by omega⟩ HSL1.out HSL2.out HLP.out (by omega) (by omega) ?_
        intro u3 u8' W2 hO hB2
        rw [HINL.out] at hO
        obtain ⟨aF, lF, cF, rfl, hF⟩ := hO.grid hB2
        have K12 := Lib.hid (K11.out.on hB2)
        have HS12 := Lib.hid (HS11.out.below hB2)
        have HG12 := Lib.hid (HG11.out.below hB2)
        have HN12 := Lib.hid (HN11.out.on hB2)
        have HR12 := Lib.hid (HR.out.below hB2)
        have HF12 := Lib.hid hF
        have HBX12 : Hid (W2.cell? ⟨nbx, 0, none⟩ = some (.slice a13 l13 c13)) := (hB2.cell (p := ⟨nbx, 0, none⟩) HBXL.out).trans HBX11.out
        have HKR12 : Hid (W2.cell? ⟨bI, oI + k, none⟩ = some (.slice aR lR cR)) := (hB2.cell (p := ⟨bI, _, none⟩) HBI.out).trans HKR.out
        have HL12 : Hid (nbx < W2.heap.size ∧ bI < W2.heap.size) := ⟨Nat.lt_of_lt_of_le HBXL.out hB2.size, Nat.lt_of_lt_of_le HBI.out hB2.size⟩
        have hFle := hF.le
        have hFcl := hF.cap_le
        clear hO hB2 hF
        simp only [putsK, dstAt, finGd, constGd, List.getElem?_cons_succ, List.getElem?_cons_zero, Option.bind_some, Option.getD_some]
        go_wp2_with fail
        have HFS : Hid (∀ w', Below W2.heap.size W2 w' → w'.cell? ⟨bI, oI + k, none⟩ = some (.slice aR lR cR) ∧ w'.cell? ⟨nbx, 0, none⟩ = some (.slice a13 l13 c13) ∧ w'.cell? ⟨w.heap.size, 0, none⟩ = some (.slice a q cap)) := fun w' hb =>
          ⟨(hb.cell (p := ⟨bI, _, none⟩) HL12.out.2).trans HKR12.out, (hb.cell (p := ⟨nbx, 0, none⟩) HL12.out.1).trans HBX12.out, (K12.out.on hb).cell⟩
        have HBd : Hid (Below W2.heap.size W2 W2.drew) := (Below.refl _ _).drew
        have S0 := Lib.hid (HFS.out _ HBd.out)
        have HGB : Hid (gridsB was was = true) := gridsB_all rfl (fun i _ => by unfold sameB; simp)
        have HSB : Hid (sameB s s = true) := by show _ = _; unfold sameB; simp
        have HWB : Hid ((Gr.weights g).length ≤ 100000) := by
          have h1 := Gr.weightsF_length g 0
          have h2 := LN.out
          show (Gr.weightsF 0 g).length ≤ _
          omega
        have hk1 : (k : Int) < (q : Int) + 1 := by omega
        go_region_held3 (fun w' => w'.cell? ⟨bI, oI + k, none⟩ = some (.slice aR lR cR) ∧ w'.cell? ⟨nbx, 0, none⟩ = some (.slice a13 l13 c13) ∧ w'.cell? ⟨w.heap.size, 0, none⟩ = some (.slice a q cap))
          (first
            | with_reducible exact S9
            | with_reducible exact S8
            | with_reducible exact S7
            | with_reducible exact S6
            | with_reducible exact S0.out)
          (first
            | (go_simp; go_at_call 38; refine (weights_any a q cap g w8 (K12.out.on HB8).n).mono ?_; rintro e w9 ⟨a9, l9, rfl, hI9, hb9⟩; have hq9 : ((l8 : Int) == (l9 : Int) + 1) = true := (by have h1 := HI8.out.length; have h2 := hI9.length; have h3 := HWE.out; simp; omega); have hl9 : l9 ≤ 100000 := (by have h2 := hI9.length; have h3 := HWB.out; omega); have HB9 := HB8.trans (hb9.mono HB8.size); have S9 := HFS.out w9 HB9)
            | (go_simp; go_at_call 38; refine (weights_any a13 l13 c13 (Gr.insert k s g) w7 (HN12.out.on HB7)).mono ?_; rintro e w8 ⟨a8, l8, rfl, hI8, hb8⟩; have HI8 := Lib.hid hI8; have HB8 := HB7.trans (hb8.mono HB7.size); have S8 := HFS.out w8 HB8)
            | (go_simp; go_at_call 30; refine (same_any _ _ _ _ _ _ s s _ (HR12.out.below HB6) (HS12.out.below HB6)).mono ?_; rintro e w7 ⟨rfl, hb7⟩; rw [HSB.out]; have HB7 := HB6.trans (hb7.mono HB6.size); have S7 := HFS.out w7 HB7)
            | (go_simp; go_at_call 40; refine (grids_any _ _ _ _ _ _ was was _ (HF12.out.below HBd.out) (HG12.out.below HBd.out)).mono ?_; rintro e w6 ⟨rfl, hb6⟩; rw [HGB.out]; have HB6 := HBd.out.trans (hb6.mono HBd.out.size); have S6 := HFS.out w6 HB6))
        have K15 := Lib.hid ((K12.out.on HB8).on hb9)
        have hq : ((l8 : Int) == IntKind.i64.wrap ((l9 : Int) + 1)) = true := by rw [IntWalk.i64_in _ ⟨by omega, by omega⟩]; exact hq9
        go_wp2
        try rw [hq]
        go_ret
        exact ⟨rfl, K15.out.bel⟩
end Go.Proofs.Ytgmagldbfajedaa
