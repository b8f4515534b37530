import Derived.Test.YtekejcnphmnidaaGreatDoorZOrRef2
import Derived.Test.YtekejcnphmnidaaGreatDoorZBkU
import Derived.Test.YtekejcnphmnidaaGreatDoorZSz
namespace Go.Proofs.YtekejcnphmnidaaGreatDoor
open Go.RowKit
def errO (r : Option (List Int)) : Int := if r.isSome = true then 0 else 1
theorem ListR.flat {w w' : World} {r : Option (List Int)} {e : Ending} (h : ListR w r e w') : ∃ a len, e = .returned (.tuple #[.slice a len len, .int .i64 (errO r)]) ∧ Ints w' a len len (r.getD []) ∧ RowV 1 w' (.slice a len len) len ((r.getD []).map (Value.int .i64)) ∧ (∀ p, a = some p → w.heap.size ≤ p.block) ∧ Below w.heap.size w w' := by
  obtain ⟨hb, ⟨rfl, rfl⟩ | ⟨l, a, len, rfl, rfl, h1, h2, h3⟩⟩ := h
  · exact ⟨none, 0, rfl, Ints.nil, .inl ⟨rfl, rfl, rfl⟩, (fun p hp => by cases hp), hb⟩
  · exact ⟨a, len, rfl, h1, h2, h3, hb⟩
theorem ListE.flat {w w' : World} {r : Option (List Int)} {e : Ending} (h : ListE w r e w') : ∃ a len cap, e = .returned (.tuple #[.slice a len cap, .int .i64 (errO r)]) ∧ Ints w' a len cap (r.getD []) ∧ Below w.heap.size w w' := by
  obtain ⟨hb, ⟨rfl, rfl⟩ | ⟨l, a, len, cap, rfl, rfl, h1⟩⟩ := h
  · exact ⟨none, 0, 0, rfl, Ints.nil, hb⟩
  · exact ⟨a, len, cap, rfl, h1, hb⟩
theorem RowV.fresh {w w' : World} {a : Option Addr} {len n : Nat} {xs : List Value} (h : RowV 1 w' (.slice a len len) n xs) (hf : ∀ p, a = some p → w.heap.size ≤ p.block) : ∀ k, Value.ownBlock (.slice a len len) = some k → w.heap.size ≤ k ∧ k < w'.heap.size := fun k hk => by
  refine ⟨?_, h.lt k hk⟩
  cases a with
  | none => cases hk
  | some p => cases hk; exact hf p rfl
theorem ordO_len (g : List Gr.Node) : ((Od.ordO g).getD []).length ≤ g.length := by
  unfold Od.ordO
  split
  · rename_i hs
    obtain ⟨s, hss⟩ := Option.isSome_iff_exists.1 hs
    obtain ⟨⟨hl1, hl2⟩, hrun, _⟩ := Gr.shapes_iff.1 hss
    have hII : Od.InnOk g g.length := fun n hn => by
      obtain ⟨k, h1, h2, h3, _⟩ := Gr.run_node hrun n hn
      have h4 := (Gr.ofB_parts h2).2.1
      have h5 := kindOf_bounds h1
      refine ⟨by omega, fun v hv => ?_⟩
      unfold Gr.okIn at h3
      have := List.all_eq_true.1 h3 v hv
      simpa using this
    have := (Od.need_of (g := g) (by omega) hII).ln
    have h2 := Od.placesF_length (Od.needed g) 0
    show (Od.placesF 0 (Od.needed g)).length ≤ _
    omega
  · exact Nat.zero_le _
theorem nextO_len (g : List Gr.Node) (l : List Int) (at_ : Int) : ((Od.nextO g l at_).getD []).length ≤ g.length := by
  unfold Od.nextO
  split
  · show (Od.next g l at_).length ≤ _; rw [Od.next_length]; exact Nat.le_refl _
  · exact Nat.zero_le _
theorem usesO_len (g : List Gr.Node) (l : List Int) : ((Od.usesO g l).getD []).length ≤ g.length := by
  unfold Od.usesO
  split
  · show (Od.uses g l).length ≤ _; rw [Od.uses_length]; exact Nat.le_refl _
  · exact Nat.zero_le _
structure OSt (w : World) (a : Option Addr) (len cap : Nat) (g : List Gr.Node) (ao : Option Addr) (lo co : Nat) (l : List Int) (bt nb c : Nat) (ts : List TN) (bo c' : Nat) (wk : World) : Prop where
  k : GSt w a len cap g wk
  ct : wk.cell? ⟨bt, 0, none⟩ = some (.slice (some ⟨nb, 0, none⟩) len c)
  lt : bt < wk.heap.size
  t : TwinGr w.heap.size wk nb c ts g
  o : TwinI wk bo lo c' l
  i : Ints wk ao lo co l
theorem OSt.on {w : World} {a : Option Addr} {len cap : Nat} {g : List Gr.Node} {ao : Option Addr} {lo co : Nat} {l : List Int} {bt nb c : Nat} {ts : List TN} {bo c' : Nat} {wk w' : World} (h : OSt w a len cap g ao lo co l bt nb c ts bo c' wk) (hb : Below wk.heap.size wk w') : OSt w a len cap g ao lo co l bt nb c ts bo c' w' :=
  ⟨h.k.on hb, (hb.cell (p := ⟨bt, 0, none⟩) h.lt).trans h.ct, Nat.lt_of_lt_of_le h.lt hb.size, h.t.below hb, h.o.below hb, h.i.below hb⟩
set_option maxHeartbeats 8000000 in
set_option maxRecDepth 100000 in
theorem orof_walk (a : Option Addr) (len cap : Nat) (g : List Gr.Node) (ao : Option Addr) (lo co : Nat) (l : List Int) (at_ : Int) (w : World) (HN : Nodes w a len cap g) (HO : Ints w ao lo co l) (hlo : lo ≤ 17592186044416) (hat0 : -9223372036854775808 ≤ at_) (hat1 : at_ ≤ 9223372036854775807) :
    Calls Tryz.prog 7 #[.agg #[.slice a len cap], .slice ao lo co, .int .i64 at_] w fun e w' => e = .returned (.bool true) ∧ Below w.heap.size w w' := by
  have KO := Lib.hid HO
  have LO := Lib.hid HO.length
  have LN := Lib.hid HN.length
  have hlen0 := HN.len_le
  have HWF : Hid (∀ i, i < len → NodeWf (nodeN g i)) := NodesIn.wf HN
  have K0 := Lib.hid (GSt.start HN)
  clear HN HO
  go_enter Tryz.func7, Tryz.ntmps7
  go_wp2_with fail
  refine (gsize2_any _ _ _ g _ K0.out.n).mono ?_
  rintro e w1 ⟨v, rfl, ⟨hv0, hv1⟩, hS, hb⟩
  have K1 := Lib.hid (K0.out.on hb)
  have c1 := K1.out.cell
  clear hb K0
  by_cases hv : 20000 < v
  · have d1 : decide (v > 20000) = true := decide_eq_true hv
    go_wp2
    go_ret
    exact ⟨rfl, K1.out.bel⟩
  have d1 : decide (v > 20000) = false := decide_eq_false hv
  by_cases hl : 10000 < lo
  · have d2 : decide ((lo : Int) > 10000) = true := decide_eq_true (by omega)
    go_wp2
    go_ret
    exact ⟨rfl, K1.out.bel⟩
  have d2 : decide ((lo : Int) > 10000) = false := decide_eq_false (by omega)
  have hlen : len ≤ 20000 := by have := hS.1; omega
  have HSZ : Hid (∀ i, i < len → (nodeN g i).inn.length ≤ 1000000 ∧ (nodeN g i).shape.length ≤ 1000000) := fun i hi => by have := hS.2 (by omega) i hi; omega
  clear hS hv
  go_wp2_with fail
  refine (twinGr_any a len cap g w1 K1.out.n (by omega) HSZ.out).mono ?_
  rintro e w2 ⟨nb, c, ts, rfl, hT, hb⟩
  have K2 := Lib.hid (K1.out.on hb)
  have hw02 : w.heap.size ≤ w2.heap.size := K2.out.bel.size
  have HT2 : Hid (TwinGr w.heap.size w2 nb c ts g) := hT.lower K1.out.bel.size
  have hnb : nb < w2.heap.size := hT.row.lt
  have HTB : Hid (∀ b ∈ nb :: blksN ts, b < w2.heap.size) := fun b hm => by
    rcases List.mem_cons.1 hm with rfl | hm
    · exact hT.row.lt
    · have hlt := (hT.rows)
      obtain ⟨t, ht, hbt⟩ := List.mem_flatMap.1 hm
      obtain ⟨i, hi, rfl⟩ := List.getElem_of_mem ht
      have e : tnAt ts i = ts[i] := by simp [tnAt, List.getElem?_eq_getElem hi]
      obtain ⟨t1, t2⟩ := hlt.tw i (by rw [← hlt.len]; exact hi)
      rw [e] at t1 t2
      simp only [List.mem_cons, List.not_mem_nil, or_false] at hbt
      rcases hbt with rfl | rfl
      · exact t1.row.lt
      · exact t2.row.lt
  clear hT hb c1
  have HA2 : Hid (Below w2.heap.size w2 (w2.alloc (.cells #[.slice (some ⟨nb, 0, none⟩) len c] 56))) := (Below.refl _ _).alloc (Nat.le_refl _) _
  have CT : Hid ((w2.alloc (.cells #[.slice (some ⟨nb, 0, none⟩) len c] 56)).cell? ⟨w2.heap.size, 0, none⟩ = some (.slice (some ⟨nb, 0, none⟩) len c)) := by show _ = _; rw [World.cell?_alloc_at _ _ _ _ rfl]; rfl
  have HZ3 : Hid (w2.heap.size < (w2.alloc (.cells #[.slice (some ⟨nb, 0, none⟩) len c] 56)).heap.size) := by show _ < _; simp
  go_wp2_with fail
  generalize w2.alloc (.cells #[.slice (some ⟨nb, 0, none⟩) len c] 56) = w3 at *
  have K3 := Lib.hid (K2.out.on HA2.out)
  refine (twinI_any ao lo co l w3 (KO.out.below K3.out.bel) (by omega)).mono ?_
  rintro e w4 ⟨bo, c', rfl, hlo4, hO, hb⟩
  have hbo1 : w2.heap.size < bo := by have := HZ3.out; omega
  have hbo2 : bo < w4.heap.size := hO.row.lt
  have S4 : Hid (OSt w a len cap g ao lo co l w2.heap.size nb c ts bo c' w4) := ⟨K3.out.on hb, (hb.cell (p := ⟨w2.heap.size, 0, none⟩) HZ3.out).trans CT.out, Nat.lt_of_lt_of_le HZ3.out hb.size, (HT2.out.below HA2.out).below hb, hO, (KO.out.below K3.out.bel).below hb⟩
  have s4 := S4.out.ct
  have q4 := S4.out.k.cell
  clear hO hb K3 CT K2
  have HNT : Hid (∀ wk, OSt w a len cap g ao lo co l w2.heap.size nb c ts bo c' wk → Nodes wk (some ⟨nb, 0, none⟩) len c g) := fun wk S => by
    have := S.t.nodes (by rw [LN.out]; exact hlen0) (fun i hi => HWF.out i (by rw [← LN.out]; exact hi))
    rwa [LN.out] at this
  have HIT : Hid (∀ wk, OSt w a len cap g ao lo co l w2.heap.size nb c ts bo c' wk → Ints wk (some ⟨bo, 0, none⟩) lo c' l) := fun wk S => S.o.ints KO.out.wf
  go_wp2_with fail
  refine (of_row _ len c g w4 (HNT.out _ S4.out)).mono ?_
  rintro e w5 hr
  obtain ⟨aA, lA, rfl, hIA, hRA, hFA, hb⟩ := hr.flat
  have HFA : Hid (∀ k, Value.ownBlock (.slice aA lA lA) = some k → w4.heap.size ≤ k ∧ k < w5.heap.size) := hRA.fresh hFA
  have HIA := Lib.hid hIA
  have HRA := Lib.hid hRA
  have S5 := Lib.hid (S4.out.on hb)
  have s5 := S5.out.ct
  have q5 := S5.out.k.cell
  have z45 := hb.size
  clear hr hIA hRA hFA hb s4 q4
  go_wp2_with fail
  refine (next_row _ len c g _ lo c' l at_ w5 (HNT.out _ S5.out) (HIT.out _ S5.out) hlo hat0 hat1).mono ?_
  rintro e w6 hr
  obtain ⟨aB, lB, rfl, hIB, hRB, hFB, hb⟩ := hr.flat
  have HFB : Hid (∀ k, Value.ownBlock (.slice aB lB lB) = some k → w5.heap.size ≤ k ∧ k < w6.heap.size) := hRB.fresh hFB
  have HIB := Lib.hid hIB
  have HRB := Lib.hid hRB
  have S6 := Lib.hid (S5.out.on hb)
  have s6 := S6.out.ct
  have q6 := S6.out.k.cell
  have z56 := hb.size
  have B56 := Lib.hid hb
  clear hr hIB hRB hFB hb s5 q5
  go_wp2_with fail
  refine (uses_row _ len c g _ lo c' l w6 (HNT.out _ S6.out) (HIT.out _ S6.out) hlo).mono ?_
  rintro e w7 hr
  obtain ⟨aC, lC, rfl, hIC, hRC, hFC, hb⟩ := hr.flat
  have HFC : Hid (∀ k, Value.ownBlock (.slice aC lC lC) = some k → w6.heap.size ≤ k ∧ k < w7.heap.size) := hRC.fresh hFC
  have HIC := Lib.hid hIC
  have HRC := Lib.hid hRC
  have S7 := Lib.hid (S6.out.on hb)
  have s7 := S7.out.ct
  have q7 := S7.out.k.cell
  have z67 := hb.size
  have B57 : Hid (Below w5.heap.size w5 w7) := B56.out.trans (hb.mono z56)
  have B67 := Lib.hid hb
  clear hr hIC hRC hFC hb s6 q6
  go_wp2_with fail
  refine (rof_any a len cap g w7 S7.out.k.n).mono ?_
  rintro e w8 hr
  obtain ⟨aX, lX, cX, rfl, hIX, hb⟩ := hr.flat
  have HIX := Lib.hid hIX
  have S8 := Lib.hid (S7.out.on hb)
  have s8 := S8.out.ct
  have q8 := S8.out.k.cell
  have B78 := Lib.hid hb
  clear hr hIX hb s7 q7
  go_wp2_with fail
  refine (rnext_any a len cap g ao lo co l at_ w8 S8.out.k.n S8.out.i hlo hat0 hat1).mono ?_
  rintro e w9 hr
  obtain ⟨aY, lY, cY, rfl, hIY, hb⟩ := hr.flat
  have HIY := Lib.hid hIY
  have S9 := Lib.hid (S8.out.on hb)
  have s9 := S9.out.ct
  have q9 := S9.out.k.cell
  have HIX9 := Lib.hid (HIX.out.below hb)
  have B79 : Hid (Below w7.heap.size w7 w9) := B78.out.trans (hb.mono B78.out.size)
  clear hr hIY hb s8 q8
  go_wp2_with fail
  refine (ruses_any a len cap g ao lo co l w9 S9.out.k.n S9.out.i hlo).mono ?_
  rintro e w10 hr
  obtain ⟨aZ, lZ, cZ, rfl, hIZ, hb⟩ := hr.flat
  have HIZ := Lib.hid hIZ
  have S10 := Lib.hid (S9.out.on hb)
  have s10 := S10.out.ct
  have q10 := S10.out.k.cell
  have HIX10 := Lib.hid (HIX9.out.below hb)
  have HIY10 := Lib.hid (HIY.out.below hb)
  have B710 : Hid (Below w7.heap.size w7 w10) := B79.out.trans (hb.mono B79.out.size)
  have HIA10 := Lib.hid ((HIA.out.below B57.out).below B710.out)
  have HIB10 := Lib.hid ((HIB.out.below B67.out).below B710.out)
  have HIC10 := Lib.hid (HIC.out.below B710.out)
  clear hr hIZ hb s9 q9
  have hA := Lib.hid (sameB_self ((Od.ordO g).getD []))
  have hBs := Lib.hid (sameB_self ((Od.nextO g l at_).getD []))
  have hCs := Lib.hid (sameB_self ((Od.usesO g l).getD []))
  have nA : (errO (Od.ordO g) != errO (Od.ordO g)) = false := by simp
  have nB : (errO (Od.nextO g l at_) != errO (Od.nextO g l at_)) = false := by simp
  have nC : (errO (Od.usesO g l) != errO (Od.usesO g l)) = false := by simp
  have HLA : Hid (lA ≤ len ∧ lB ≤ len ∧ lC ≤ len) := by
    have h1 := ordO_len g
    have h2 := nextO_len g l at_
    have h3 := usesO_len g l
    rw [HIA.out.length, LN.out] at h1
    rw [HIB.out.length, LN.out] at h2
    rw [HIC.out.length, LN.out] at h3
    exact ⟨h1, h2, h3⟩
  generalize errO (Od.ordO g) = eA at *
  generalize errO (Od.nextO g l at_) = eB at *
  generalize errO (Od.usesO g l) = eC at *
  go_wp2_with fail
  refine (same_any aA aX lA lA lX cX _ _ w10 HIA10.out HIX10.out).mono ?_
  rintro e w11 ⟨rfl, hb⟩
  rw [hA.out]
  have S11 := Lib.hid (S10.out.on hb)
  have s11 := S11.out.ct
  have q11 := S11.out.k.cell
  have HIB11 := Lib.hid (HIB10.out.below hb)
  have HIY11 := Lib.hid (HIY10.out.below hb)
  have HIC11 := Lib.hid (HIC10.out.below hb)
  have HIZ11 := Lib.hid (HIZ.out.below hb)
  have B711 : Hid (Below w7.heap.size w7 w11) := B710.out.trans (hb.mono B710.out.size)
  clear hb s10 q10
  go_wp2_with fail
  refine (same_any aB aY lB lB lY cY _ _ w11 HIB11.out HIY11.out).mono ?_
  rintro e w12 ⟨rfl, hb⟩
  rw [hBs.out]
  have S12 := Lib.hid (S11.out.on hb)
  have s12 := S12.out.ct
  have q12 := S12.out.k.cell
  have HIC12 := Lib.hid (HIC11.out.below hb)
  have HIZ12 := Lib.hid (HIZ11.out.below hb)
  have B712 : Hid (Below w7.heap.size w7 w12) := B711.out.trans (hb.mono B711.out.size)
  clear hb s11 q11
  go_wp2_with fail
  refine (same_any aC aZ lC lC lZ cZ _ _ w12 HIC12.out HIZ12.out).mono ?_
  rintro e w13 ⟨rfl, hb⟩
  rw [hCs.out]
  have S13 := Lib.hid (S12.out.on hb)
  have s13 := S13.out.ct
  have q13 := S13.out.k.cell
  have B713 : Hid (Below w7.heap.size w7 w13) := B712.out.trans (hb.mono B712.out.size)
  clear hb s12 q12
  go_wp2_with fail
  refine (leftGr_any nb c ts a len cap _ g w13 S13.out.t S13.out.k.n (by omega) HSZ.out).mono ?_
  rintro e w14 ⟨rfl, hb⟩
  have S14 := Lib.hid (S13.out.on hb)
  have s14 := S14.out.ct
  have q14 := S14.out.k.cell
  have B714 : Hid (Below w7.heap.size w7 w14) := B713.out.trans (hb.mono B713.out.size)
  clear hb s13 q13
  go_wp2_with fail
  refine (leftI_any bo c' ao lo co l w14 S14.out.o S14.out.i (by omega)).mono ?_
  rintro e w15 ⟨rfl, tn, rfl⟩
  have hbd : Below w14.heap.size w14 (w14.drewN tn) := below_drewN _ _ _
  have S15 := Lib.hid (S14.out.on hbd)
  have s15 := S15.out.ct
  have q15 := S15.out.k.cell
  have B715 : Hid (Below w7.heap.size w7 (w14.drewN tn)) := B714.out.trans (hbd.mono B714.out.size)
  clear hbd s14 q14
  generalize w14.drewN tn = w15 at *
  have S0 := Lib.hid (BkS.start w15)
  have HA15 : Hid (∀ o, Below w15.heap.size w15 (w15.alloc o)) := fun o => (Below.refl _ _).alloc (Nat.le_refl _) o
  have S16 : Hid (OSt w a len cap g ao lo co l w2.heap.size nb c ts bo c' (w15.alloc (.cells #[.int .i64 0, .slice none 0 0, .slice none 0 0, .slice none 0 0, .slice none 0 0, .slice none 0 0, .slice none 0 0, .slice none 0 0, .slice none 0 0, .slice none 0 0, .slice none 0 0, .slice none 0 0, .slice none 0 0, .slice none 0 0, .slice none 0 0, .slice none 0 0] 52))) := S15.out.on (HA15.out _)
  have s16 := S16.out.ct
  have z15 := S15.out.lt
  have B716 : Hid (Below w7.heap.size w7 (w15.alloc (.cells #[.int .i64 0, .slice none 0 0, .slice none 0 0, .slice none 0 0, .slice none 0 0, .slice none 0 0, .slice none 0 0, .slice none 0 0, .slice none 0 0, .slice none 0 0, .slice none 0 0, .slice none 0 0, .slice none 0 0, .slice none 0 0, .slice none 0 0, .slice none 0 0] 52))) := B715.out.trans ((HA15.out _).mono B715.out.size)
  have hz715 : w7.heap.size ≤ w15.heap.size := B715.out.size
  clear s15 q15
  go_wp2_with fail
  generalize w15.alloc (.cells #[.int .i64 0, .slice none 0 0, .slice none 0 0, .slice none 0 0, .slice none 0 0, .slice none 0 0, .slice none 0 0, .slice none 0 0, .slice none 0 0, .slice none 0 0, .slice none 0 0, .slice none 0 0, .slice none 0 0, .slice none 0 0, .slice none 0 0, .slice none 0 0] 52) = w16 at *
  have hnb15 : nb < w15.heap.size := by omega
  refine (told_graph w16 _ _ _ _ _ _ _ _ _ nb c len ts g LN.out S16.out.t hnb15 S0.out (by simp; omega) (by simp) (by omega)).mono ?_
  rintro e w17 ⟨rfl, hS, hb⟩
  have T1 := Lib.hid hS
  have HX1 : Hid (Below w15.heap.size w16 w17) := hb
  clear hS hb
  have hN1 : (0 : Int) + 2 * (len : Int) + 1 ≤ 100000 := by omega
  have HLL : Hid ((heldsN 0 ts g len).length = 2 * len) := heldsN_length 0 ts g len
  go_wp2_with fail
  refine (told_ints w17 _ _ _ _ _ _ _ _ (some ⟨bo, 0, none⟩) lo c' (l.map (Value.int .i64)) T1.out (by simp [HLL.out]; omega) (by omega)).mono ?_
  rintro e w18 ⟨rfl, hS, hb⟩
  have T2 := Lib.hid hS
  have HX2 := Lib.hid (HX1.out.trans hb)
  clear hS hb
  go_wp2_with fail
  refine (told_ints w18 _ _ _ _ _ _ _ _ aA lA lA (((Od.ordO g).getD []).map (Value.int .i64)) T2.out (by simp [HLL.out]; omega) (by omega)).mono ?_
  rintro e w19 ⟨rfl, hS, hb⟩
  have T3 := Lib.hid hS
  have HX3 := Lib.hid (HX2.out.trans hb)
  clear hS hb
  go_wp2_with fail
  refine (told_ints w19 _ _ _ _ _ _ _ _ aB lB lB (((Od.nextO g l at_).getD []).map (Value.int .i64)) T3.out (by simp [HLL.out]; omega) (by omega)).mono ?_
  rintro e w20 ⟨rfl, hS, hb⟩
  have T4 := Lib.hid hS
  have HX4 := Lib.hid (HX3.out.trans hb)
  clear hS hb
  go_wp2_with fail
  refine (told_ints w20 _ _ _ _ _ _ _ _ aC lC lC (((Od.usesO g l).getD []).map (Value.int .i64)) T4.out (by simp [HLL.out]; omega) (by omega)).mono ?_
  rintro e w21 ⟨rfl, hS, hb⟩
  have T5 := Lib.hid hS
  have HX5 : Hid (Below w15.heap.size w16 w21) := HX4.out.trans hb
  clear hS hb
  have B721 : Hid (Below w7.heap.size w7 w21) := B716.out.trans (HX5.out.mono hz715)
  have hw2 := HZ3.out
  have hz4 : w2.heap.size ≤ w4.heap.size := by omega
  have HSB : Hid (OSt w a len cap g ao lo co l w2.heap.size nb c ts bo c' w21) := S7.out.on B721.out
  have HVA : Hid (RowV 1 w21 (.slice aA lA lA) lA (((Od.ordO g).getD []).map (Value.int .i64))) := (HRA.out.keep B57.out.size (fun k hk => B57.out.block k (HFA.out k hk).2)).keep B721.out.size (fun k hk => B721.out.block k (by have := (HFA.out k hk).2; omega))
  have HVB : Hid (RowV 1 w21 (.slice aB lB lB) lB (((Od.nextO g l at_).getD []).map (Value.int .i64))) := (HRB.out.keep B67.out.size (fun k hk => B67.out.block k (HFB.out k hk).2)).keep B721.out.size (fun k hk => B721.out.block k (by have := (HFB.out k hk).2; omega))
  have HVC : Hid (RowV 1 w21 (.slice aC lC lC) lC (((Od.usesO g l).getD []).map (Value.int .i64))) := HRC.out.keep B721.out.size (fun k hk => B721.out.block k (HFC.out k hk).2)
  have HBLK := Lib.hid (blocksOf_heldsN 0 (ts := ts) (g := g) HSB.out.t.rows.len)
  rw [LN.out] at HBLK
  have hwlo := S7.out.k.bel.size
  have HTW := Lib.hid HSB.out.t.lo
  have HND := Lib.hid HSB.out.t.nd
  have hw0 : w.heap.size ≤ bo := by omega
  have HW24 : Hid (w.heap.size ≤ w4.heap.size) := by have := S4.out.k.bel.size; exact this
  have HBB : Hid ((∀ b ∈ blocksOf ((heldsN 0 ts g len ++ [⟨.slice (some ⟨bo, 0, none⟩) lo c', lo, l.map (Value.int .i64), .slice none 0 0, 0 + 2 * (len : Int) + 1 + 1⟩] ++ [⟨.slice aA lA lA, lA, ((Od.ordO g).getD []).map (Value.int .i64), .slice none 0 0, 0 + 2 * (len : Int) + 1 + 1 + 1⟩] ++ [⟨.slice aB lB lB, lB, ((Od.nextO g l at_).getD []).map (Value.int .i64), .slice none 0 0, 0 + 2 * (len : Int) + 1 + 1 + 1 + 1⟩] ++ [⟨.slice aC lC lC, lC, ((Od.usesO g l).getD []).map (Value.int .i64), .slice none 0 0, 0 + 2 * (len : Int) + 1 + 1 + 1 + 1 + 1⟩]) ++ [⟨.slice (some ⟨nb, 0, none⟩) len c, len, flatN ts g, .slice none 0 0, 0 + 2 * (len : Int) + 1⟩] ++ [] ++ []), w.heap.size ≤ b ∧ b < w15.heap.size) ∧
      (blocksOf ((heldsN 0 ts g len ++ [⟨.slice (some ⟨bo, 0, none⟩) lo c', lo, l.map (Value.int .i64), .slice none 0 0, 0 + 2 * (len : Int) + 1 + 1⟩] ++ [⟨.slice aA lA lA, lA, ((Od.ordO g).getD []).map (Value.int .i64), .slice none 0 0, 0 + 2 * (len : Int) + 1 + 1 + 1⟩] ++ [⟨.slice aB lB lB, lB, ((Od.nextO g l at_).getD []).map (Value.int .i64), .slice none 0 0, 0 + 2 * (len : Int) + 1 + 1 + 1 + 1⟩] ++ [⟨.slice aC lC lC, lC, ((Od.usesO g l).getD []).map (Value.int .i64), .slice none 0 0, 0 + 2 * (len : Int) + 1 + 1 + 1 + 1 + 1⟩]) ++ [⟨.slice (some ⟨nb, 0, none⟩) len c, len, flatN ts g, .slice none 0 0, 0 + 2 * (len : Int) + 1⟩] ++ [] ++ [])).Nodup) := by
    show _ ∧ _
    rw [List.append_nil, List.append_nil]
    simp only [blocksOf_app, HBLK.out]
    have r0 : ∀ x ∈ blksN ts, w.heap.size ≤ x ∧ x < w2.heap.size := fun x hx => ⟨HTW.out x (List.mem_cons_of_mem _ hx), HTB.out x (List.mem_cons_of_mem _ hx)⟩
    have r5 := HTW.out nb (List.mem_cons_self ..)
    refine ⟨fun b hm => ?_, ?_⟩
    · simp only [List.mem_append, mem_one] at hm
      rcases hm with ((((hm | hm) | hm) | hm) | hm) | hm
      · have := r0 b hm; omega
      · have : bo = b := Option.some.inj hm
        omega
      · have := HFA.out b hm; have := HW24.out; omega
      · have := HFB.out b hm; have := HW24.out; omega
      · have := HFC.out b hm; have := HW24.out; omega
      · have : nb = b := Option.some.inj hm
        omega
    · have h1 := nodup_lv (s := w2.heap.size) (List.nodup_cons.1 HND.out).2 (nodup_one ⟨.slice (some ⟨bo, 0, none⟩) lo c', lo, l.map (Value.int .i64), .slice none 0 0, 0 + 2 * (len : Int) + 1 + 1⟩) (fun x hx => (r0 x hx).2) (fun x hx => by have : bo = x := Option.some.inj (mem_one.1 hx); omega)
      have h2 := nodup_lv (s := w4.heap.size) h1 (nodup_one ⟨.slice aA lA lA, lA, ((Od.ordO g).getD []).map (Value.int .i64), .slice none 0 0, 0 + 2 * (len : Int) + 1 + 1 + 1⟩) (fun x hx => by
        rcases List.mem_append.1 hx with hx | hx
        · have := (r0 x hx).2; omega
        · have : bo = x := Option.some.inj (mem_one.1 hx); omega) (fun x hx => (HFA.out x (mem_one.1 hx)).1)
      have h3 := nodup_lv (s := w5.heap.size) h2 (nodup_one ⟨.slice aB lB lB, lB, ((Od.nextO g l at_).getD []).map (Value.int .i64), .slice none 0 0, 0 + 2 * (len : Int) + 1 + 1 + 1 + 1⟩) (fun x hx => by
        rcases List.mem_append.1 hx with hx | hx
        · rcases List.mem_append.1 hx with hx | hx
          · have := (r0 x hx).2; omega
          · have : bo = x := Option.some.inj (mem_one.1 hx); omega
        · exact (HFA.out x (mem_one.1 hx)).2) (fun x hx => (HFB.out x (mem_one.1 hx)).1)
      have h4 := nodup_lv (s := w6.heap.size) h3 (nodup_one ⟨.slice aC lC lC, lC, ((Od.usesO g l).getD []).map (Value.int .i64), .slice none 0 0, 0 + 2 * (len : Int) + 1 + 1 + 1 + 1 + 1⟩) (fun x hx => by
        rcases List.mem_append.1 hx with hx | hx
        · rcases List.mem_append.1 hx with hx | hx
          · rcases List.mem_append.1 hx with hx | hx
            · have := (r0 x hx).2; omega
            · have : bo = x := Option.some.inj (mem_one.1 hx); omega
          · have := (HFA.out x (mem_one.1 hx)).2; omega
        · exact (HFB.out x (mem_one.1 hx)).2) (fun x hx => (HFC.out x (mem_one.1 hx)).1)
      rw [List.nodup_append]
      refine ⟨h4, nodup_one _, fun x hx y hy e => ?_⟩
      have hy2 : nb = y := Option.some.inj (mem_one.1 hy)
      rcases List.mem_append.1 hx with hx | hx
      · rcases List.mem_append.1 hx with hx | hx
        · rcases List.mem_append.1 hx with hx | hx
          · rcases List.mem_append.1 hx with hx | hx
            · exact (List.nodup_cons.1 HND.out).1 (by rw [hy2, ← e]; exact hx)
            · have : bo = x := Option.some.inj (mem_one.1 hx); omega
          · have := (HFA.out x (mem_one.1 hx)).1; omega
        · have := (HFB.out x (mem_one.1 hx)).1; omega
      · have := (HFC.out x (mem_one.1 hx)).1; omega
  have HRI : Hid (∀ h ∈ heldsN 0 ts g len ++ [⟨.slice (some ⟨bo, 0, none⟩) lo c', lo, l.map (Value.int .i64), .slice none 0 0, 0 + 2 * (len : Int) + 1 + 1⟩] ++ [⟨.slice aA lA lA, lA, ((Od.ordO g).getD []).map (Value.int .i64), .slice none 0 0, 0 + 2 * (len : Int) + 1 + 1 + 1⟩] ++ [⟨.slice aB lB lB, lB, ((Od.nextO g l at_).getD []).map (Value.int .i64), .slice none 0 0, 0 + 2 * (len : Int) + 1 + 1 + 1 + 1⟩] ++ [⟨.slice aC lC lC, lC, ((Od.usesO g l).getD []).map (Value.int .i64), .slice none 0 0, 0 + 2 * (len : Int) + 1 + 1 + 1 + 1 + 1⟩], RowV 1 w21 h.v h.n h.xs ∧ h.n ≤ 1000000) := by
    intro h hm
    obtain ⟨l1, l2, l3⟩ := HLA.out
    simp only [List.mem_append, List.mem_singleton] at hm
    rcases hm with (((hm | rfl) | rfl) | rfl) | rfl
    · exact heldsN_row HSB.out.t.rows (fun i hi => HSZ.out i (by rw [← LN.out]; exact hi)) LN.out h hm
    · exact ⟨HSB.out.o.rowV, show lo ≤ _ by omega⟩
    · exact ⟨HVA.out, show lA ≤ _ by omega⟩
    · exact ⟨HVB.out, show lB ≤ _ by omega⟩
    · exact ⟨HVC.out, show lC ≤ _ by omega⟩
  have HRN : Hid (∀ h ∈ [(⟨.slice (some ⟨nb, 0, none⟩) len c, len, flatN ts g, .slice none 0 0, 0 + 2 * (len : Int) + 1⟩ : Held)], RowV 5 w21 h.v h.n h.xs ∧ h.n ≤ 1000000) := by
    intro h hm
    simp only [List.mem_singleton] at hm
    subst hm
    have := HSB.out.t.rowV
    rw [LN.out] at this
    exact ⟨this, show len ≤ _ by omega⟩
  have hwz : w.heap.size ≤ w15.heap.size := by have := HW24.out; omega
  go_wp2_with fail
  refine (apartB w21 _ _ w.heap.size _ _ _ _ _ T5.out (by omega) (by simp [HLL.out]; omega) HRI.out (by simp) HRN.out (by simp) (fun h hm => by cases hm) (by simp) (fun h hm => by cases hm) HBB.out.1 HBB.out.2 hwz).mono ?_
  rintro e w22 ⟨rfl, hb⟩
  have HEND : Hid (Below w.heap.size w w22) := HSB.out.k.bel.trans hb
  clear hb
  go_wp2
  go_ret
  exact ⟨rfl, HEND.out⟩
end Go.Proofs.YtekejcnphmnidaaGreatDoor
