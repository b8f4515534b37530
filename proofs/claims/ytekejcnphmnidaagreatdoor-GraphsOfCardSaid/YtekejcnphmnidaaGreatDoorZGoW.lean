import Derived.Test.YtekejcnphmnidaaGreatDoorZGoR
import Derived.Test.YtekejcnphmnidaaGreatDoorZRfT
import Derived.Test.YtekejcnphmnidaaGreatDoorZBkTG
import Derived.Test.YtekejcnphmnidaaGreatDoorZBkB2
import Derived.Test.YtekejcnphmnidaaGreatDoorZBkU
import Derived.Test.YtekejcnphmnidaaGreatDoorZSz
import Derived.Test.YtekejcnphmnidaaGreatDoorZTwG
import Derived.Test.YtekejcnphmnidaaGreatDoorZGoG
namespace Go.Proofs.YtekejcnphmnidaaGreatDoor
open Go.RowKit
def sG (g : List Gr.Node) : List (List Int) := (Gr.shapes g).elim [] id
def sE (g : List Gr.Node) : Int := (Gr.shapes g).elim 1 (fun _ => 0)
theorem sG_len (g : List Gr.Node) : (sG g).length ≤ g.length := by
  unfold sG
  cases h : Gr.shapes g with
  | none => exact Nat.zero_le _
  | some s =>
    show s.length ≤ _
    exact Nat.le_of_eq (Gr.shapes_len h)
theorem sG_row (g : List Gr.Node) (i : Nat) (hi : i < (sG g).length) : (rowL (sG g) i).length ≤ 4 := by
  unfold sG at hi ⊢
  cases h : Gr.shapes g with
  | none => rw [h] at hi; cases hi
  | some s => rw [h] at hi; exact (Gr.chk_parts (Gr.shapes_chk h i hi)).2.1
theorem heldsR_row {n : Int} {w w' : World} {vs : List Value} {g : List Gr.Node} {m : Nat} (hl : (sG g).length = m) {v : Value} {base : Nat} (hr : ∀ i, i < m → ∃ a len, vs[i]? = some (.slice a len len) ∧ Ints w a len len (rowL (sG g) i) ∧ RowV 1 w (.slice a len len) len ((rowL (sG g) i).map (Value.int .i64)) ∧ ∀ p, a = some p → some p.block ≠ v.ownBlock ∧ base ≤ p.block) (hb : Below w.heap.size w w') : ∀ h ∈ heldsR n vs (sG g) m, RowV 1 w' h.v h.n h.xs ∧ h.n ≤ 1000000 := by
  intro h hm
  obtain ⟨i, hi, rfl⟩ := heldsR_mem hm
  obtain ⟨a, l, e, hI, hR, _⟩ := hr i hi
  have hv : vs.getD i (.slice none 0 0) = .slice a l l := by simp [e]
  have h4 := sG_row g i (by rw [hl]; exact hi)
  have hll := hI.length
  unfold heldRow
  rw [hv]
  refine ⟨?_, by show (rowL (sG g) i).length ≤ _; omega⟩
  show RowV 1 w' (.slice a l l) (rowL (sG g) i).length _
  rw [hll]
  exact hR.keep hb.size (fun k hk => hb.block k (hR.lt k hk))
theorem GridS.nil (base : Nat) (w : World) : GridS base w (.slice none 0 0) [] := ⟨[], .inl ⟨rfl, rfl, rfl⟩, rfl, List.nodup_nil, (fun k hk => by cases hk), fun _ hi => absurd hi (Nat.not_lt_zero _)⟩
theorem ShapesS.flat {w w' : World} {g : List Gr.Node} {e : Ending} (h : ShapesS w g e w') : ∃ a n, e = .returned (.tuple #[.slice a n n, .int .i64 (sE g)]) ∧ Grid w' a n n (sG g) ∧ GridS w.heap.size w' (.slice a n n) (sG g) ∧ Below w.heap.size w w' := by
  obtain ⟨hb, ⟨hs, rfl⟩ | ⟨s, a, n, hs, rfl, h1, h2⟩⟩ := h
  · exact ⟨none, 0, by unfold sE; rw [hs]; rfl, by unfold sG; rw [hs]; exact Grid.nil, by unfold sG; rw [hs]; exact GridS.nil _ _, hb⟩
  · exact ⟨a, n, by unfold sE; rw [hs]; rfl, by unfold sG; rw [hs]; exact h1, by unfold sG; rw [hs]; exact h2, hb⟩
theorem RShapesN.flat {w w' : World} {g : List Gr.Node} {e : Ending} (h : RShapesN w g e w') : ∃ a l c, e = .returned (.tuple #[.slice a l c, .int .i64 (sE g)]) ∧ Grid w' a l c (sG g) ∧ Below w.heap.size w w' := by
  obtain ⟨hb, ⟨hs, rfl⟩ | ⟨s, a, l, c, hs, rfl, h1⟩⟩ := h
  · exact ⟨none, 0, 0, by unfold sE; rw [hs]; rfl, by unfold sG; rw [hs]; exact Grid.nil, hb⟩
  · exact ⟨a, l, c, by unfold sE; rw [hs]; rfl, by unfold sG; rw [hs]; exact h1, hb⟩
structure GTw (w : World) (a : Option Addr) (len cap : Nat) (g : List Gr.Node) (bt nb c : Nat) (ts : List TN) (wk : World) : Prop where
  k : GSt w a len cap g wk
  ct : wk.cell? ⟨bt, 0, none⟩ = some (.slice (some ⟨nb, 0, none⟩) len c)
  lt : bt < wk.heap.size
  t : TwinGr w.heap.size wk nb c ts g
theorem GTw.on {w : World} {a : Option Addr} {len cap : Nat} {g : List Gr.Node} {bt nb c : Nat} {ts : List TN} {wk w' : World} (h : GTw w a len cap g bt nb c ts wk) (hb : Below wk.heap.size wk w') : GTw w a len cap g bt nb c ts w' :=
  ⟨h.k.on hb, (hb.cell (p := ⟨bt, 0, none⟩) h.lt).trans h.ct, Nat.lt_of_lt_of_le h.lt hb.size, h.t.below hb⟩
theorem TwinGr.ltsG {base : Nat} {w : World} {nb cap : Nat} {ts : List TN} {g : List Gr.Node} (h : TwinGr base w nb cap ts g) : ∀ b ∈ nb :: blksN ts, base ≤ b ∧ b < w.heap.size := fun b hm => by
  refine ⟨h.lo b hm, ?_⟩
  rcases List.mem_cons.1 hm with rfl | hm
  · exact h.row.lt
  · obtain ⟨t, ht, hbt⟩ := List.mem_flatMap.1 hm
    obtain ⟨i, hi, rfl⟩ := List.getElem_of_mem ht
    have e : tnAt ts i = ts[i] := by simp [tnAt, List.getElem?_eq_getElem hi]
    obtain ⟨t1, t2⟩ := h.rows.tw i (by rw [← h.rows.len]; exact hi)
    rw [e] at t1 t2
    simp only [List.mem_cons, List.not_mem_nil, or_false] at hbt
    rcases hbt with rfl | rfl
    · exact t1.row.lt
    · exact t2.row.lt
set_option maxHeartbeats 8000000 in
set_option maxRecDepth 100000 in
theorem gof_walk (a : Option Addr) (len cap : Nat) (g : List Gr.Node) (w : World) (HN : Nodes w a len cap g) :
    Calls Tryz.prog 4 #[.agg #[.slice a len cap]] w fun e w' => e = .returned (.bool true) ∧ Below w.heap.size w w' := by
  have LN := Lib.hid HN.length
  have hlen0 := HN.len_le
  have HWF : Hid (∀ i, i < len → NodeWf (nodeN g i)) := NodesIn.wf HN
  have K0 := Lib.hid (GSt.start HN)
  clear HN
  go_enter Tryz.func4, Tryz.ntmps4
  go_wp2_with fail
  refine (gsize2_any _ _ _ g _ K0.out.n).mono ?_
  rintro e w1 ⟨v, rfl, ⟨hv0, hv1⟩, hS, hb⟩
  have K1 := Lib.hid (K0.out.on hb)
  have c1 := K1.out.cell
  clear hb K0
  by_cases hv : 20000 < v
  · have d1 : decide (v > 20000) = true := decide_eq_true hv
    go_wp2
    go_ret
    exact ⟨rfl, K1.out.bel⟩
  have d1 : decide (v > 20000) = false := decide_eq_false hv
  have hlen : len ≤ 20000 := by have := hS.1; omega
  have HSZ : Hid (∀ i, i < len → (nodeN g i).inn.length ≤ 1000000 ∧ (nodeN g i).shape.length ≤ 1000000) := fun i hi => by have := hS.2 (by omega) i hi; omega
  clear hS hv
  go_wp2_with fail
  refine (twinGr_any a len cap g w1 K1.out.n (by omega) HSZ.out).mono ?_
  rintro e w2 ⟨nb, c, ts, rfl, hT, hb⟩
  have K2 := Lib.hid (K1.out.on hb)
  have hw02 : w.heap.size ≤ w2.heap.size := K2.out.bel.size
  have HT2 : Hid (TwinGr w.heap.size w2 nb c ts g) := hT.lower K1.out.bel.size
  have HTB := Lib.hid hT.ltsG
  have hnb : nb < w2.heap.size := hT.row.lt
  clear hT hb c1
  have HA2 : Hid (Below w2.heap.size w2 (w2.alloc (.cells #[.slice (some ⟨nb, 0, none⟩) len c] 56))) := (Below.refl _ _).alloc (Nat.le_refl _) _
  have CT : Hid ((w2.alloc (.cells #[.slice (some ⟨nb, 0, none⟩) len c] 56)).cell? ⟨w2.heap.size, 0, none⟩ = some (.slice (some ⟨nb, 0, none⟩) len c)) := by show _ = _; rw [World.cell?_alloc_at _ _ _ _ rfl]; rfl
  have HZ3 : Hid (w2.heap.size < (w2.alloc (.cells #[.slice (some ⟨nb, 0, none⟩) len c] 56)).heap.size) := by show _ < _; simp
  go_wp2_with fail
  generalize w2.alloc (.cells #[.slice (some ⟨nb, 0, none⟩) len c] 56) = w3 at *
  have S3 : Hid (GTw w a len cap g w2.heap.size nb c ts w3) := ⟨K2.out.on HA2.out, CT.out, HZ3.out, HT2.out.below HA2.out⟩
  have HNT : Hid (∀ wk, GTw w a len cap g w2.heap.size nb c ts wk → Nodes wk (some ⟨nb, 0, none⟩) len c g) := fun wk S => by
    have := S.t.nodes (by rw [LN.out]; exact hlen0) (fun i hi => HWF.out i (by rw [← LN.out]; exact hi))
    rwa [LN.out] at this
  clear CT K2
  refine (gshapesS_any _ len c g w3 (HNT.out _ S3.out)).mono ?_
  rintro e w4 hr
  obtain ⟨aA, nA, rfl, hGA, hSA, hb⟩ := hr.flat
  have HGA := Lib.hid hGA
  have HSA := Lib.hid hSA
  have S4 := Lib.hid (S3.out.on hb)
  have s4 := S4.out.ct
  have q4 := S4.out.k.cell
  have z34 := hb.size
  clear hr hGA hSA hb
  go_wp2_with fail
  refine (gshapesS_any _ len c g w4 (HNT.out _ S4.out)).mono ?_
  rintro e w5 hr
  obtain ⟨aB, nB, rfl, hGB, hSB, hb⟩ := hr.flat
  have HGB := Lib.hid hGB
  have HSB := Lib.hid hSB
  have S5 := Lib.hid (S4.out.on hb)
  have s5 := S5.out.ct
  have q5 := S5.out.k.cell
  have z45 := hb.size
  have B45 := Lib.hid hb
  clear hr hGB hSB hb s4 q4
  go_wp2_with fail
  refine (rShapes_any a len cap g w5 S5.out.k.n).mono ?_
  rintro e w6 hr
  obtain ⟨aW, lW, cW, rfl, hGW, hb⟩ := hr.flat
  have HGW := Lib.hid hGW
  have S6 := Lib.hid (S5.out.on hb)
  have s6 := S6.out.ct
  have q6 := S6.out.k.cell
  have z56 := hb.size
  have B56 := Lib.hid hb
  clear hr hGW hb s5 q5
  go_wp2_with fail
  refine (weights_any _ len c g w6 (HNT.out _ S6.out)).mono ?_
  rintro e w7 ⟨aO, lO, rfl, hIO, ⟨hfO, hvO⟩, hb⟩
  have HIO := Lib.hid hIO
  have HFO := Lib.hid hfO
  have HVO := Lib.hid hvO
  have S7 := Lib.hid (S6.out.on hb)
  have s7 := S7.out.ct
  have q7 := S7.out.k.cell
  have z67 := hb.size
  have B67 := Lib.hid hb
  have B57 : Hid (Below w5.heap.size w5 w7) := B56.out.trans (hb.mono z56)
  have B47 : Hid (Below w4.heap.size w4 w7) := B45.out.trans (B57.out.mono z45)
  clear hIO hfO hvO hb s6 q6
  have HG1 : Hid (∀ wk, Below w7.heap.size w7 wk → Calls Tryz.prog 22 #[.slice aA nA nA, .slice aW lW cW] wk fun e w' => e = .returned (.bool true) ∧ Below wk.heap.size wk w') := fun wk hk => by
    refine (grids_any aA aW nA nA lW cW (sG g) (sG g) wk ((HGA.out.below B47.out).below hk) ((HGW.out.below B67.out).below hk)).mono ?_
    rintro e w' ⟨rfl, hb⟩
    exact ⟨by rw [show gridsB (sG g) (sG g) = true from gridsB_all rfl (fun i _ => sameB_self _)], hb⟩
  have HG2 : Hid (∀ wk, Below w7.heap.size w7 wk → Calls Tryz.prog 22 #[.slice aB nB nB, .slice aW lW cW] wk fun e w' => e = .returned (.bool true) ∧ Below wk.heap.size wk w') := fun wk hk => by
    refine (grids_any aB aW nB nB lW cW (sG g) (sG g) wk ((HGB.out.below B57.out).below hk) ((HGW.out.below B67.out).below hk)).mono ?_
    rintro e w' ⟨rfl, hb⟩
    exact ⟨by rw [show gridsB (sG g) (sG g) = true from gridsB_all rfl (fun i _ => sameB_self _)], hb⟩
  have HC1 : Hid (∀ wk, Below w7.heap.size w7 wk → Calls Tryz.prog 23 #[.agg #[.slice (some ⟨nb, 0, none⟩) len c]] wk fun e w' => e = .returned (.bool (Gr.shapes g).isSome) ∧ Below wk.heap.size wk w') := fun wk hk => by
    refine (gcheck_any _ len c g wk (HNT.out _ (S7.out.on hk))).mono ?_
    rintro e w' ⟨rfl, hb⟩
    exact ⟨rfl, hb⟩
  have HC2 : Hid (∀ wk, Below w7.heap.size w7 wk → Calls Tryz.prog 24 #[.agg #[.slice a len cap]] wk fun e w' => e = .returned (.bool (Gr.shapes g).isSome) ∧ Below wk.heap.size wk w') := fun wk hk => by
    refine (rCheck_any a len cap g wk (S7.out.on hk).k.n).mono ?_
    rintro e w' ⟨rfl, hb⟩
    exact ⟨rfl, hb⟩
  have HW1 : Hid (∀ wk, Below w7.heap.size w7 wk → Calls Tryz.prog 25 #[.agg #[.slice a len cap]] wk fun e w' => ∃ a1 l1 c1, e = .returned (.slice a1 l1 c1) ∧ Hid (Ints w' a1 l1 c1 (Gr.weights g)) ∧ Below wk.heap.size wk w') := fun wk hk => by
    refine (rweights_any a len cap g wk (S7.out.on hk).k.n).mono ?_
    rintro e w' ⟨a1, l1, c1, rfl, h1, hb⟩
    exact ⟨a1, l1, c1, rfl, h1, hb⟩
  have HSI : Hid (∀ wk a1 l1 c1, Below w7.heap.size w7 wk → Hid (Ints wk a1 l1 c1 (Gr.weights g)) → Calls Tryz.prog 13 #[.slice aO lO lO, .slice a1 l1 c1] wk fun e w' => e = .returned (.bool true) ∧ Below wk.heap.size wk w') := fun wk a1 l1 c1 hk hI => by
    refine (same_any aO a1 lO lO l1 c1 (Gr.weights g) (Gr.weights g) wk (HIO.out.below hk) hI.out).mono ?_
    rintro e w' ⟨rfl, hb⟩
    exact ⟨by rw [show sameB (Gr.weights g) (Gr.weights g) = true from sameB_self _], hb⟩
  have HI1 : Hid (∀ wk, Below w7.heap.size w7 wk → Calls Tryz.prog 26 #[.agg #[.slice (some ⟨nb, 0, none⟩) len c]] wk fun e w' => e = .returned (.int .i64 (Gr.inputIx g)) ∧ Below wk.heap.size wk w') := fun wk hk => by
    refine (input_any _ len c g wk (HNT.out _ (S7.out.on hk))).mono ?_
    rintro e w' ⟨rfl, hb⟩
    exact ⟨rfl, hb⟩
  have HI2 : Hid (∀ wk, Below w7.heap.size w7 wk → Calls Tryz.prog 27 #[.agg #[.slice a len cap]] wk fun e w' => e = .returned (.int .i64 (Gr.inputIx g)) ∧ Below wk.heap.size wk w') := fun wk hk => by
    refine (rinput_any a len cap g wk (S7.out.on hk).k.n).mono ?_
    rintro e w' ⟨rfl, hb⟩
    exact ⟨rfl, hb⟩
  have HLF : Hid (∀ wk, Below w7.heap.size w7 wk → Calls Tryz.prog 28 #[.agg #[.slice (some ⟨nb, 0, none⟩) len c], .agg #[.slice a len cap]] wk fun e w' => e = .returned (.bool true) ∧ Below wk.heap.size wk w') := fun wk hk => by
    refine (leftGr_any nb c ts a len cap _ g wk (S7.out.on hk).t (S7.out.on hk).k.n (by omega) HSZ.out).mono ?_
    rintro e w' ⟨rfl, hb⟩
    exact ⟨rfl, hb⟩
  generalize sE g = eE at *
  generalize Gr.inputIx g = ix at *
  generalize (Gr.shapes g).isSome = ok at *
  have HQ : Hid (∀ wk, Below w7.heap.size w7 wk → wk.cell? ⟨w2.heap.size, 0, none⟩ = some (.slice (some ⟨nb, 0, none⟩) len c) ∧ wk.cell? ⟨w.heap.size, 0, none⟩ = some (.slice a len cap)) := fun wk hk => ⟨(S7.out.on hk).ct, (S7.out.on hk).k.cell⟩
  go_wp2_with fail
  refine gof_region (w7 := w7) (ga := a) (aA := aA) (aB := aB) (aW := aW) (aO := aO) (len := len) (cap := cap) (nb := nb) (c := c) (nA := nA) (nB := nB) (lW := lW) (cW := cW) (lO := lO) (eE := eE) (ix := ix) (ok := ok) (b1 := w.heap.size) (b2 := w2.heap.size) (ws := Gr.weights g)
    ⟨rfl, ⟨_, rfl, rfl, rfl, rfl, by kernel_rfl⟩, ⟨_, rfl, rfl, rfl, rfl, by kernel_rfl⟩, ⟨_, rfl, rfl, rfl, rfl, by kernel_rfl⟩, ⟨_, rfl, rfl, rfl, rfl, by kernel_rfl⟩, ⟨_, rfl, rfl, rfl, rfl, by kernel_rfl⟩, ⟨_, rfl, rfl, rfl, rfl, by kernel_rfl⟩, ⟨_, rfl, rfl, rfl, rfl, by kernel_rfl⟩, ⟨_, rfl, rfl, rfl, rfl, by kernel_rfl⟩, ⟨_, rfl, rfl, rfl, rfl, by kernel_rfl⟩, ⟨_, rfl, rfl, rfl, rfl, by kernel_rfl⟩, ⟨_, rfl, rfl, rfl, rfl, by kernel_rfl⟩, ⟨_, rfl, rfl, rfl, rfl, by kernel_rfl⟩, ⟨_, rfl, rfl, rfl, rfl, by kernel_rfl⟩, ⟨_, rfl, rfl, rfl, rfl, by kernel_rfl⟩, ⟨_, rfl, rfl, rfl, rfl, by kernel_rfl⟩, ⟨_, rfl, rfl, rfl, rfl, by kernel_rfl⟩, ⟨_, rfl, rfl, rfl, rfl, by kernel_rfl⟩, ⟨_, rfl, rfl, rfl, rfl, by kernel_rfl⟩, ⟨_, rfl, rfl, rfl, rfl, by kernel_rfl⟩, ⟨_, rfl, rfl, rfl, rfl, by kernel_rfl⟩, ⟨_, rfl, rfl, rfl, rfl, by kernel_rfl⟩, ⟨_, rfl, rfl, rfl, rfl, by kernel_rfl⟩, ⟨_, rfl, rfl, rfl, rfl, by kernel_rfl⟩, ⟨_, rfl, rfl, rfl, rfl, by kernel_rfl⟩, ⟨_, rfl, rfl, rfl, rfl, by kernel_rfl⟩, ⟨_, rfl, rfl, rfl, rfl, by kernel_rfl⟩, ⟨_, rfl, rfl, rfl, rfl, by kernel_rfl⟩, ⟨_, rfl, rfl, rfl, rfl, by kernel_rfl⟩, ⟨_, rfl, rfl, rfl, rfl, by kernel_rfl⟩, ⟨_, rfl, rfl, rfl, rfl, by kernel_rfl⟩, ⟨_, rfl, rfl, rfl, rfl, by kernel_rfl⟩, ⟨_, rfl, rfl, rfl, rfl, by kernel_rfl⟩, ⟨_, rfl, rfl, rfl, rfl, by kernel_rfl⟩, ⟨_, rfl, rfl, rfl, rfl, by kernel_rfl⟩, ⟨_, rfl, rfl, rfl, rfl, by kernel_rfl⟩, ⟨_, rfl, rfl, rfl, rfl, by kernel_rfl⟩, ⟨_, rfl, rfl, rfl, rfl, by kernel_rfl⟩, ⟨_, rfl, rfl, rfl, rfl, by kernel_rfl⟩, ⟨_, rfl, rfl, rfl, rfl, by kernel_rfl⟩, ⟨_, rfl, rfl, rfl, rfl, by kernel_rfl⟩, ⟨_, rfl, rfl, rfl, rfl, by kernel_rfl⟩, ⟨_, rfl, rfl, rfl, rfl, by kernel_rfl⟩⟩ rfl (by kernel_rfl) rfl rfl rfl rfl rfl rfl rfl rfl HQ.out HG1.out HG2.out HC1.out HC2.out HW1.out HSI.out HI1.out HI2.out HLF.out ?_
  intro w8 a1 l1 cc1 hb
  simp only [Act.put, List.setIfInBounds_toArray, List.set_cons_succ, List.set_cons_zero]
  have B78 := Lib.hid hb
  have S8 := Lib.hid (S7.out.on hb)
  have s8 := S8.out.ct
  have q8 := S8.out.k.cell
  have z78 := hb.size
  clear hb s7 q7 HG1 HG2 HC1 HC2 HW1 HSI HI1 HI2 HLF HQ
  have S0 := Lib.hid (BkS.start w8)
  have HA8 : Hid (∀ o, Below w8.heap.size w8 (w8.alloc o)) := fun o => (Below.refl _ _).alloc (Nat.le_refl _) o
  have B48 : Hid (Below w4.heap.size w4 w8) := B47.out.trans (B78.out.mono (by omega))
  have B58 : Hid (Below w5.heap.size w5 w8) := B57.out.trans (B78.out.mono (by omega))
  have S9 : Hid (GTw w a len cap g w2.heap.size nb c ts (w8.alloc (.cells #[.int .i64 0, .slice none 0 0, .slice none 0 0, .slice none 0 0, .slice none 0 0, .slice none 0 0, .slice none 0 0, .slice none 0 0, .slice none 0 0, .slice none 0 0, .slice none 0 0, .slice none 0 0, .slice none 0 0, .slice none 0 0, .slice none 0 0, .slice none 0 0] 52))) := S8.out.on (HA8.out _)
  have s9 := S9.out.ct
  have z8 := S8.out.lt
  have q9 := S9.out.k.cell
  have B79 : Hid (Below w7.heap.size w7 (w8.alloc (.cells #[.int .i64 0, .slice none 0 0, .slice none 0 0, .slice none 0 0, .slice none 0 0, .slice none 0 0, .slice none 0 0, .slice none 0 0, .slice none 0 0, .slice none 0 0, .slice none 0 0, .slice none 0 0, .slice none 0 0, .slice none 0 0, .slice none 0 0, .slice none 0 0] 52))) := B78.out.trans ((HA8.out _).mono z78)
  have hg0 : w.heap.size < w8.heap.size := S8.out.k.lt
  have hwz : w.heap.size ≤ w8.heap.size := by omega
  clear s8 q8
  go_wp2_with fail
  generalize w8.alloc (.cells #[.int .i64 0, .slice none 0 0, .slice none 0 0, .slice none 0 0, .slice none 0 0, .slice none 0 0, .slice none 0 0, .slice none 0 0, .slice none 0 0, .slice none 0 0, .slice none 0 0, .slice none 0 0, .slice none 0 0, .slice none 0 0, .slice none 0 0, .slice none 0 0] 52) = w9 at *
  have hnb8 : nb < w8.heap.size := by have := HZ3.out; omega
  have HLA : Hid ((sG g).length = nA) := HGA.out.length
  have HLB : Hid ((sG g).length = nB) := HGB.out.length
  have hAl : nA ≤ len := by
    have h1 := sG_len g
    rw [HLA.out, LN.out] at h1; exact h1
  have hBA : nB = nA := by rw [← HLB.out, HLA.out]
  subst hBA
  have hOl : lO ≤ len := by
    have h1 := HIO.out.length
    have h2 : (Gr.weights g).length ≤ g.length := Gr.weightsF_length _ _
    rw [h1, LN.out] at h2; exact h2
  obtain ⟨vA, hRA, hlA, hndA, hloA, hrA⟩ := HSA.out
  obtain ⟨vB, hRB, hlB, hndB, hloB, hrB⟩ := HSB.out
  rw [HLA.out] at hRA hlA hrA hRB hlB hrB
  have HRA := Lib.hid hRA
  have HRB := Lib.hid hRB
  have HlA := Lib.hid hlA
  have HlB := Lib.hid hlB
  have HnA := Lib.hid hndA
  have HnB := Lib.hid hndB
  have HoA := Lib.hid hloA
  have HoB := Lib.hid hloB
  have HrA := Lib.hid hrA
  have HrB := Lib.hid hrB
  clear hRA hlA hndA hloA hrA hRB hlB hndB hloB hrB
  refine (told_graph w9 _ _ _ _ _ _ _ _ _ nb c len ts g LN.out S9.out.t hnb8 S0.out (by simp; omega) (by simp) (by omega)).mono ?_
  rintro e w10 ⟨rfl, hS, hb⟩
  have T1 := Lib.hid hS
  have B910 := Lib.hid hb
  have B710 : Hid (Below w7.heap.size w7 w10) := B79.out.trans (hb.mono z78)
  clear hS hb s9 q9
  have HLL : Hid ((heldsN 0 ts g len).length = 2 * len) := heldsN_length 0 ts g len
  have B410 : Hid (Below w4.heap.size w4 w10) := B47.out.trans (B710.out.mono (by omega))
  have B510 : Hid (Below w5.heap.size w5 w10) := B57.out.trans (B710.out.mono (by omega))
  have HVA : Hid (RowV 1 w10 (.slice aA nB nB) nB vA) := HRA.out.keep B410.out.size (fun k hk => B410.out.block k (HRA.out.lt k hk))
  go_wp2_with fail
  refine (told_grids w10 _ _ _ _ _ _ _ _ aA nB nB vA (sG g) HLA.out HVA.out HlA.out (fun i hi => by
    obtain ⟨a', l', e1, hI, _⟩ := HrA.out i hi
    exact ⟨a', l', e1, hI.length⟩) (fun k hk => by have := HRA.out.lt k hk; omega) T1.out (by simp [HLL.out]; omega) (by simp) (by omega)).mono ?_
  rintro e w11 ⟨rfl, hS, hb⟩
  have T2 := Lib.hid hS
  have B1011 := Lib.hid hb
  have B711 : Hid (Below w7.heap.size w7 w11) := B710.out.trans (hb.mono z78)
  have B511 : Hid (Below w5.heap.size w5 w11) := B57.out.trans (B711.out.mono (by omega))
  have HVB : Hid (RowV 1 w11 (.slice aB nB nB) nB vB) := HRB.out.keep B511.out.size (fun k hk => B511.out.block k (HRB.out.lt k hk))
  clear hS hb
  go_wp2_with fail
  refine (told_grids w11 _ _ _ _ _ _ _ _ aB nB nB vB (sG g) HLA.out HVB.out HlB.out (fun i hi => by
    obtain ⟨a', l', e1, hI, _⟩ := HrB.out i hi
    exact ⟨a', l', e1, hI.length⟩) (fun k hk => by have := HRB.out.lt k hk; omega) T2.out (by simp [HLL.out, heldsR_length]; omega) (by simp) (by omega)).mono ?_
  rintro e w12 ⟨rfl, hS, hb⟩
  have T3 := Lib.hid hS
  have B712 : Hid (Below w7.heap.size w7 w12) := B711.out.trans (hb.mono z78)
  clear hS hb
  go_wp2_with fail
  refine (told_ints w12 _ _ _ _ _ _ _ _ aO lO lO ((Gr.weights g).map (Value.int .i64)) T3.out (by simp [HLL.out, heldsR_length]; omega) (by omega)).mono ?_
  rintro e w13 ⟨rfl, hS, hb⟩
  have T4 := Lib.hid hS
  have B713 : Hid (Below w7.heap.size w7 w13) := B712.out.trans (hb.mono z78)
  have B413 : Hid (Below w4.heap.size w4 w13) := B47.out.trans (B713.out.mono (by omega))
  have B513 : Hid (Below w5.heap.size w5 w13) := B57.out.trans (B713.out.mono (by omega))
  have S13 : Hid (GTw w a len cap g w2.heap.size nb c ts w13) := S7.out.on B713.out
  clear hS hb
  go_wp2_with fail
  have HVA13 : Hid (RowV 1 w13 (.slice aA nB nB) nB vA) := HRA.out.keep B413.out.size (fun k hk => B413.out.block k (HRA.out.lt k hk))
  have HVB13 : Hid (RowV 1 w13 (.slice aB nB nB) nB vB) := HRB.out.keep B513.out.size (fun k hk => B513.out.block k (HRB.out.lt k hk))
  have HVO13 : Hid (RowV 1 w13 (.slice aO lO lO) lO ((Gr.weights g).map (Value.int .i64))) := HVO.out.keep B713.out.size (fun k hk => B713.out.block k (HVO.out.lt k hk))
  have HBLK := Lib.hid (blocksOf_heldsN 0 (ts := ts) (g := g) S13.out.t.rows.len)
  rw [LN.out] at HBLK
  have hw3 := HZ3.out
  have HTW := Lib.hid S13.out.t.lo
  have HND := Lib.hid S13.out.t.nd
  have HBA : ∀ n, blocksOf (heldsR n vA (sG g) nB) = vA.filterMap Value.ownBlock := fun n => by have := blocksOf_heldsR n (vs := vA) (L := sG g) (by rw [HlA.out, HLA.out]); rwa [HLA.out] at this
  have HBB : ∀ n, blocksOf (heldsR n vB (sG g) nB) = vB.filterMap Value.ownBlock := fun n => by have := blocksOf_heldsR n (vs := vB) (L := sG g) (by rw [HlB.out, HLB.out]); rwa [HLB.out] at this
  have m1 : ∀ x ∈ blksN ts, w.heap.size ≤ x ∧ x < w2.heap.size ∧ x ≠ nb := fun x hx => ⟨HTW.out x (List.mem_cons_of_mem _ hx), (HTB.out x (List.mem_cons_of_mem _ hx)).2, fun e => (List.nodup_cons.1 HND.out).1 (by rw [← e]; exact hx)⟩
  have m5 := HTW.out nb (List.mem_cons_self ..)
  have m2 : ∀ x ∈ vA.filterMap Value.ownBlock, w3.heap.size ≤ x ∧ x < w4.heap.size ∧ some x ≠ Value.ownBlock (.slice aA nB nB) := fun x hx => by
    obtain ⟨u, hu, hxu⟩ := List.mem_filterMap.1 hx
    obtain ⟨i, hi, rfl⟩ := List.getElem_of_mem hu
    obtain ⟨a', l', e1, _, hR, hn⟩ := HrA.out i (by rw [← HlA.out]; exact hi)
    rw [List.getElem?_eq_getElem hi, Option.some.injEq] at e1
    rw [e1] at hxu
    have h1 := hR.lt x hxu
    cases a' with
    | none => cases hxu
    | some p =>
      have h2 := hn p rfl
      have h3 : p.block = x := Option.some.inj hxu
      rw [h3] at h2
      exact ⟨h2.2, h1, h2.1⟩
  have m3 : ∀ x ∈ vB.filterMap Value.ownBlock, w4.heap.size ≤ x ∧ x < w5.heap.size ∧ some x ≠ Value.ownBlock (.slice aB nB nB) := fun x hx => by
    obtain ⟨u, hu, hxu⟩ := List.mem_filterMap.1 hx
    obtain ⟨i, hi, rfl⟩ := List.getElem_of_mem hu
    obtain ⟨a', l', e1, _, hR, hn⟩ := HrB.out i (by rw [← HlB.out]; exact hi)
    rw [List.getElem?_eq_getElem hi, Option.some.injEq] at e1
    rw [e1] at hxu
    have h1 := hR.lt x hxu
    cases a' with
    | none => cases hxu
    | some p =>
      have h2 := hn p rfl
      have h3 : p.block = x := Option.some.inj hxu
      rw [h3] at h2
      exact ⟨h2.2, h1, h2.1⟩
  have m4 : ∀ x, Value.ownBlock (.slice aO lO lO) = some x → w6.heap.size ≤ x ∧ x < w7.heap.size := fun x hx => by
    refine ⟨?_, HVO.out.lt x hx⟩
    cases aO with
    | none => cases hx
    | some p => cases hx; exact HFO.out p rfl
  have m6 : ∀ x, Value.ownBlock (.slice aA nB nB) = some x → w3.heap.size ≤ x ∧ x < w4.heap.size := fun x hx => ⟨HoA.out x hx, HRA.out.lt x hx⟩
  have m7 : ∀ x, Value.ownBlock (.slice aB nB nB) = some x → w4.heap.size ≤ x ∧ x < w5.heap.size := fun x hx => ⟨HoB.out x hx, HRB.out.lt x hx⟩
  have M1 := Lib.hid m1
  have M2 := Lib.hid m2
  have M3 := Lib.hid m3
  have M4 := Lib.hid m4
  have M6 := Lib.hid m6
  have M7 := Lib.hid m7
  have M8 := Lib.hid HBA
  have M9 := Lib.hid HBB
  clear m1 m2 m3 m4 m6 m7 HBA HBB
  refine (apartG w13 _ _ w.heap.size _ _ _ _ _ _ T4.out (by omega) (by simp [HLL.out, heldsR_length]; omega) ?h1 (by simp) ?h2 (by simp) ?h3 (by simp) ?h4 (by simp) ?h5 ?h6 ?h7 hwz).mono ?_
  case h1 =>
    intro h hm
    simp only [List.nil_append, List.mem_append, List.mem_singleton] at hm
    rcases hm with ((hm | hm) | hm) | rfl
    · exact heldsN_row S13.out.t.rows (fun i hi => HSZ.out i (by rw [← LN.out]; exact hi)) LN.out h hm
    · exact heldsR_row HLA.out HrA.out B413.out h hm
    · exact heldsR_row HLA.out HrB.out B513.out h hm
    · exact ⟨HVO13.out, show lO ≤ _ by omega⟩
  case h2 =>
    intro h hm
    simp only [List.nil_append, List.mem_singleton] at hm
    subst hm
    have := S13.out.t.rowV
    rw [LN.out] at this
    exact ⟨this, show len ≤ _ by omega⟩
  case h3 => intro h hm; cases hm
  case h4 => intro h hm; cases hm
  case h5 =>
    intro h hm
    simp only [List.nil_append, List.mem_append, List.mem_singleton] at hm
    rcases hm with rfl | rfl
    · exact ⟨HVA13.out, show nB ≤ _ by omega⟩
    · exact ⟨HVB13.out, show nB ≤ _ by omega⟩
  case h6 =>
    intro b hm
    simp only [List.nil_append, List.append_nil, blocksOf_app, HBLK.out, M8.out, M9.out, List.mem_append, mem_one] at hm
    rcases hm with ((((hm | hm) | hm) | hm) | hm) | (hm | hm)
    · have := M1.out b hm; omega
    · have := M2.out b hm; omega
    · have := M3.out b hm; omega
    · have := M4.out b hm; omega
    · have : nb = b := Option.some.inj hm
      omega
    · have := M6.out b hm; omega
    · have := M7.out b hm; omega
  case h7 =>
    simp only [List.nil_append, List.append_nil, blocksOf_app, HBLK.out, M8.out, M9.out]
    refine List.nodup_append.2 ⟨List.nodup_append.2 ⟨List.nodup_append.2 ⟨List.nodup_append.2 ⟨List.nodup_append.2 ⟨(List.nodup_cons.1 HND.out).2, HnA.out, ?g1⟩, HnB.out, ?g2⟩, nodup_one _, ?g3⟩, nodup_one _, ?g4⟩, List.nodup_append.2 ⟨nodup_one _, nodup_one _, ?g5⟩, ?g6⟩
    case g1 =>
      intro x hx y hy e
      have h1 := M1.out x hx
      have h2 := M2.out y hy
      omega
    case g2 =>
      intro x hx y hy e
      have h2 := M3.out y hy
      simp only [List.mem_append] at hx
      rcases hx with hx | hx
      · have h1 := M1.out x hx; omega
      · have h1 := M2.out x hx; omega
    case g3 =>
      intro x hx y hy e
      have h2 := M4.out y (mem_one.1 hy)
      simp only [List.mem_append] at hx
      rcases hx with (hx | hx) | hx
      · have h1 := M1.out x hx; omega
      · have h1 := M2.out x hx; omega
      · have h1 := M3.out x hx; omega
    case g4 =>
      intro x hx y hy e
      have h2 : nb = y := Option.some.inj (mem_one.1 hy)
      simp only [List.mem_append, mem_one] at hx
      rcases hx with ((hx | hx) | hx) | hx
      · have h1 := M1.out x hx; omega
      · have h1 := M2.out x hx; omega
      · have h1 := M3.out x hx; omega
      · have h1 := M4.out x hx; omega
    case g5 =>
      intro x hx y hy e
      have h1 := M6.out x (mem_one.1 hx)
      have h2 := M7.out y (mem_one.1 hy)
      omega
    case g6 =>
      intro x hx y hy e
      simp only [List.mem_append, mem_one] at hx hy
      rcases hy with hy | hy
      · have h2 := M6.out y hy
        rcases hx with (((hx | hx) | hx) | hx) | hx
        · have h1 := M1.out x hx; omega
        · have h1 := M2.out x hx; exact h1.2.2 (by rw [e]; exact hy.symm)
        · have h1 := M3.out x hx; omega
        · have h1 := M4.out x hx; omega
        · have : nb = x := Option.some.inj hx
          omega
      · have h2 := M7.out y hy
        rcases hx with (((hx | hx) | hx) | hx) | hx
        · have h1 := M1.out x hx; omega
        · have h1 := M2.out x hx; omega
        · have h1 := M3.out x hx; exact h1.2.2 (by rw [e]; exact hy.symm)
        · have h1 := M4.out x hx; omega
        · have : nb = x := Option.some.inj hx
          omega
  rintro e w14 ⟨rfl, hb⟩
  have HEND : Hid (Below w.heap.size w w14) := S13.out.k.bel.trans hb
  clear hb
  go_wp2
  go_ret
  exact ⟨rfl, HEND.out⟩
end Go.Proofs.YtekejcnphmnidaaGreatDoor
