import Derived.Test.YtekejcnphmnidaaGreatDoorZCoRL
import Derived.Test.YtekejcnphmnidaaGreatDoorZCoAlive
import Derived.Test.YtekejcnphmnidaaGreatDoorZBkU
import Derived.Test.YtekejcnphmnidaaGreatDoorZSz
namespace Go.Proofs.YtekejcnphmnidaaGreatDoor
open Go.RowKit
def cC (g : List Gr.Node) : List Co.Cost := (Gr.shapes g).elim [] (Co.costs g)
def cE (g : List Gr.Node) : Int := (Gr.shapes g).elim 1 (fun _ => 0)
def cM (g : List Gr.Node) : Int := (Gr.shapes g).elim 0 (fun s => Co.leastF (Co.costs g s) (Od.ordOf g))
theorem CostsR.flat {w w' : World} {g : List Gr.Node} {e : Ending} (h : CostsR w g e w') : ∃ a len xs, e = .returned (.tuple #[.slice a len len, .int .i64 (cE g)]) ∧ CostsIn w' a len len (cC g) ∧ RowV 3 w' (.slice a len len) len xs ∧ (∀ k, Value.ownBlock (.slice a len len) = some k → w.heap.size ≤ k ∧ k < w'.heap.size) ∧ Below w.heap.size w w' := by
  obtain ⟨hb, ⟨hs, rfl⟩ | ⟨s, a, len, xs, hs, rfl, h1, h2, h3⟩⟩ := h
  · refine ⟨none, 0, [], by unfold cE; rw [hs]; rfl, by unfold cC; rw [hs]; exact CostsIn.nil, .inl ⟨rfl, rfl, rfl⟩, (fun k hk => by cases hk), hb⟩
  · refine ⟨a, len, xs, by unfold cE; rw [hs]; rfl, by unfold cC; rw [hs]; exact h1, h2, fun k hk => ⟨?_, h2.lt k hk⟩, hb⟩
    cases a with
    | none => cases hk
    | some p => cases hk; exact h3 p rfl
theorem RCostsE.flat {w w' : World} {g : List Gr.Node} {e : Ending} (h : RCostsE w g e w') : ∃ a len cap, e = .returned (.tuple #[.slice a len cap, .int .i64 (cE g)]) ∧ CostsIn w' a len cap (cC g) ∧ Below w.heap.size w w' := by
  obtain ⟨hb, ⟨hs, rfl⟩ | ⟨s, v, base, hs, _, rfl, h1⟩⟩ := h
  · exact ⟨none, 0, 0, by unfold cE; rw [hs]; rfl, by unfold cC; rw [hs]; exact CostsIn.nil, hb⟩
  · obtain ⟨a, len, cap, rfl, h2, _⟩ := h1.costs
    exact ⟨a, len, cap, by unfold cE; rw [hs]; rfl, by unfold cC; rw [hs]; exact h2, hb⟩
theorem least_flat {w w' : World} {g : List Gr.Node} {e : Ending} (h : Below w.heap.size w w' ∧ ((Gr.shapes g = none ∧ e = .returned (.tuple #[.int .i64 0, .int .i64 1])) ∨ ∃ s, Gr.shapes g = some s ∧ e = .returned (.tuple #[.int .i64 (Co.leastF (Co.costs g s) (Od.ordOf g)), .int .i64 0]))) :
    e = .returned (.tuple #[.int .i64 (cM g), .int .i64 (cE g)]) ∧ Below w.heap.size w w' := by
  obtain ⟨hb, ⟨hs, rfl⟩ | ⟨s, hs, rfl⟩⟩ := h
  · exact ⟨by unfold cE cM; rw [hs]; rfl, hb⟩
  · exact ⟨by unfold cE cM; rw [hs]; rfl, hb⟩
theorem cC_len (g : List Gr.Node) : (cC g).length ≤ g.length := by
  unfold cC
  cases h : Gr.shapes g with
  | none => exact Nat.zero_le _
  | some s => exact Nat.le_of_eq (Co.costsK_length _ _ _)
structure TSt (w : World) (a : Option Addr) (len cap : Nat) (g : List Gr.Node) (bt nb c : Nat) (ts : List TN) (wk : World) : Prop where
  k : GSt w a len cap g wk
  ct : wk.cell? ⟨bt, 0, none⟩ = some (.slice (some ⟨nb, 0, none⟩) len c)
  lt : bt < wk.heap.size
  t : TwinGr w.heap.size wk nb c ts g
theorem TSt.on {w : World} {a : Option Addr} {len cap : Nat} {g : List Gr.Node} {bt nb c : Nat} {ts : List TN} {wk w' : World} (h : TSt w a len cap g bt nb c ts wk) (hb : Below wk.heap.size wk w') : TSt w a len cap g bt nb c ts w' :=
  ⟨h.k.on hb, (hb.cell (p := ⟨bt, 0, none⟩) h.lt).trans h.ct, Nat.lt_of_lt_of_le h.lt hb.size, h.t.below hb⟩
theorem TwinGr.lts {base : Nat} {w : World} {nb cap : Nat} {ts : List TN} {g : List Gr.Node} (h : TwinGr base w nb cap ts g) : ∀ b ∈ nb :: blksN ts, base ≤ b ∧ b < w.heap.size := fun b hm => by
  refine ⟨h.lo b hm, ?_⟩
  rcases List.mem_cons.1 hm with rfl | hm
  · exact h.row.lt
  · obtain ⟨t, ht, hbt⟩ := List.mem_flatMap.1 hm
    obtain ⟨i, hi, rfl⟩ := List.getElem_of_mem ht
    have e : tnAt ts i = ts[i] := by simp [tnAt, List.getElem?_eq_getElem hi]
    obtain ⟨t1, t2⟩ := h.rows.tw i (by rw [← h.rows.len]; exact hi)
    rw [e] at t1 t2
    simp only [List.mem_cons, List.not_mem_nil, or_false] at hbt
    rcases hbt with rfl | rfl
    · exact t1.row.lt
    · exact t2.row.lt
set_option maxHeartbeats 8000000 in
set_option maxRecDepth 100000 in
theorem coof_walk (a : Option Addr) (len cap : Nat) (g : List Gr.Node) (w : World) (HN : Nodes w a len cap g) :
    Calls Tryz.prog 5 #[.agg #[.slice a len cap]] w fun e w' => e = .returned (.bool true) ∧ Below w.heap.size w w' := by
  have LN := Lib.hid HN.length
  have hlen0 := HN.len_le
  have HWF : Hid (∀ i, i < len → NodeWf (nodeN g i)) := NodesIn.wf HN
  have K0 := Lib.hid (GSt.start HN)
  clear HN
  go_enter Tryz.func5, Tryz.ntmps5
  go_wp2_with fail
  refine (gsize2_any _ _ _ g _ K0.out.n).mono ?_
  rintro e w1 ⟨v, rfl, ⟨hv0, hv1⟩, hS, hb⟩
  have K1 := Lib.hid (K0.out.on hb)
  have c1 := K1.out.cell
  clear hb K0
  by_cases hv : 1000 < v
  · have d1 : decide (v > 1000) = true := decide_eq_true hv
    go_wp2_with fail
    refine (clives_any _).mono ?_
    rintro e w2 ⟨rfl, hb⟩
    have HE := Lib.hid (K1.out.bel.trans (hb.mono K1.out.bel.size))
    clear hb
    go_wp2
    go_ret
    exact ⟨rfl, HE.out⟩
  have d1 : decide (v > 1000) = false := decide_eq_false hv
  have hlen : len ≤ 1000 := by have := hS.1; omega
  have HSZ : Hid (∀ i, i < len → (nodeN g i).inn.length ≤ 1000000 ∧ (nodeN g i).shape.length ≤ 1000000) := fun i hi => by have := hS.2 (by omega) i hi; omega
  clear hS hv
  go_wp2_with fail
  refine (twinGr_any a len cap g w1 K1.out.n (by omega) HSZ.out).mono ?_
  rintro e w2 ⟨nb, c, ts, rfl, hT, hb⟩
  have K2 := Lib.hid (K1.out.on hb)
  have hw02 : w.heap.size ≤ w2.heap.size := K2.out.bel.size
  have HT2 : Hid (TwinGr w.heap.size w2 nb c ts g) := hT.lower K1.out.bel.size
  have HTB := Lib.hid hT.lts
  have hnb : nb < w2.heap.size := hT.row.lt
  clear hT hb c1
  have HA2 : Hid (Below w2.heap.size w2 (w2.alloc (.cells #[.slice (some ⟨nb, 0, none⟩) len c] 56))) := (Below.refl _ _).alloc (Nat.le_refl _) _
  have CT : Hid ((w2.alloc (.cells #[.slice (some ⟨nb, 0, none⟩) len c] 56)).cell? ⟨w2.heap.size, 0, none⟩ = some (.slice (some ⟨nb, 0, none⟩) len c)) := by show _ = _; rw [World.cell?_alloc_at _ _ _ _ rfl]; rfl
  have HZ3 : Hid (w2.heap.size < (w2.alloc (.cells #[.slice (some ⟨nb, 0, none⟩) len c] 56)).heap.size) := by show _ < _; simp
  go_wp2_with fail
  generalize w2.alloc (.cells #[.slice (some ⟨nb, 0, none⟩) len c] 56) = w3 at *
  have S3 : Hid (TSt w a len cap g w2.heap.size nb c ts w3) := ⟨K2.out.on HA2.out, CT.out, HZ3.out, HT2.out.below HA2.out⟩
  have HNT : Hid (∀ wk, TSt w a len cap g w2.heap.size nb c ts wk → Nodes wk (some ⟨nb, 0, none⟩) len c g) := fun wk S => by
    have := S.t.nodes (by rw [LN.out]; exact hlen0) (fun i hi => HWF.out i (by rw [← LN.out]; exact hi))
    rwa [LN.out] at this
  clear CT K2
  have s3 := S3.out.ct
  have q3 := S3.out.k.cell
  refine (cof_row _ len c g w3 (HNT.out _ S3.out)).mono ?_
  rintro e w4 hr
  obtain ⟨aA, lA, xA, rfl, hCA, hRA, hFA, hb⟩ := hr.flat
  have HFA := Lib.hid hFA
  have HCA := Lib.hid hCA
  have HRA := Lib.hid hRA
  have S4 := Lib.hid (S3.out.on hb)
  have s4 := S4.out.ct
  have q4 := S4.out.k.cell
  have z34 := hb.size
  clear hr hCA hRA hFA hb s3 q3
  go_wp2_with fail
  refine (rcof_any a len cap g w4 S4.out.k.n).mono ?_
  rintro e w5 hr
  obtain ⟨aX, lX, cX, rfl, hCX, hb⟩ := hr.flat
  have HCX := Lib.hid hCX
  have S5 := Lib.hid (S4.out.on hb)
  have s5 := S5.out.ct
  have q5 := S5.out.k.cell
  have B45 := Lib.hid hb
  clear hr hCX hb s4 q4
  go_wp2_with fail
  refine (cleast_any _ len c g w5 (HNT.out _ S5.out)).mono ?_
  rintro e w6 hr
  obtain ⟨rfl, hb⟩ := least_flat hr
  have S6 := Lib.hid (S5.out.on hb)
  have s6 := S6.out.ct
  have q6 := S6.out.k.cell
  have HCX6 := Lib.hid (HCX.out.below hb)
  have B46 : Hid (Below w4.heap.size w4 w6) := B45.out.trans (hb.mono B45.out.size)
  clear hr hb s5 q5
  go_wp2_with fail
  refine (rleast_any a len cap g w6 S6.out.k.n).mono ?_
  rintro e w7 hr
  obtain ⟨rfl, hb⟩ := least_flat hr
  have S7 := Lib.hid (S6.out.on hb)
  have HCX7 := Lib.hid (HCX6.out.below hb)
  have B47 : Hid (Below w4.heap.size w4 w7) := B46.out.trans (hb.mono B46.out.size)
  have nE : (cE g == cE g) = true := by simp
  have nM : (cM g == cM g) = true := by simp
  have hLA : lA ≤ len := by have h1 := cC_len g; rw [HCA.out.length, LN.out] at h1; exact h1
  have hLX : lX = lA := by rw [← HCX.out.length, HCA.out.length]
  subst hLX
  clear hr hb s6 q6
  generalize cE g = eE at *
  generalize cM g = eM at *
  have S0 := Lib.hid (BkS.start w7)
  have HA7 : Hid (∀ o, Below w7.heap.size w7 (w7.alloc o)) := fun o => (Below.refl _ _).alloc (Nat.le_refl _) o
  have S8 : Hid (TSt w a len cap g w2.heap.size nb c ts (w7.alloc (.cells #[.int .i64 0, .slice none 0 0, .slice none 0 0, .slice none 0 0, .slice none 0 0, .slice none 0 0, .slice none 0 0, .slice none 0 0, .slice none 0 0, .slice none 0 0, .slice none 0 0, .slice none 0 0, .slice none 0 0, .slice none 0 0, .slice none 0 0, .slice none 0 0] 52))) := S7.out.on (HA7.out _)
  have s8 := S8.out.ct
  have z7 := S7.out.lt
  have q8 := S8.out.k.cell
  have B48 : Hid (Below w4.heap.size w4 (w7.alloc (.cells #[.int .i64 0, .slice none 0 0, .slice none 0 0, .slice none 0 0, .slice none 0 0, .slice none 0 0, .slice none 0 0, .slice none 0 0, .slice none 0 0, .slice none 0 0, .slice none 0 0, .slice none 0 0, .slice none 0 0, .slice none 0 0, .slice none 0 0, .slice none 0 0] 52))) := B47.out.trans ((HA7.out _).mono B47.out.size)
  have hz47 : w4.heap.size ≤ w7.heap.size := B47.out.size
  have hg0 : w.heap.size < w7.heap.size := S7.out.k.lt
  have HCX8 : Hid (CostsIn (w7.alloc (.cells #[.int .i64 0, .slice none 0 0, .slice none 0 0, .slice none 0 0, .slice none 0 0, .slice none 0 0, .slice none 0 0, .slice none 0 0, .slice none 0 0, .slice none 0 0, .slice none 0 0, .slice none 0 0, .slice none 0 0, .slice none 0 0, .slice none 0 0, .slice none 0 0] 52)) aX lX cX (cC g)) := HCX7.out.below (HA7.out _)
  have HXB : Hid (∀ p, aX = some p → 0 < lX → p.block < w7.heap.size) := fun p hp h0 => by
    obtain ⟨b, off, e, hlt, _⟩ := HCX7.out.at_ h0
    rw [hp] at e; cases e; exact hlt
  go_wp2_with fail
  generalize w7.alloc (.cells #[.int .i64 0, .slice none 0 0, .slice none 0 0, .slice none 0 0, .slice none 0 0, .slice none 0 0, .slice none 0 0, .slice none 0 0, .slice none 0 0, .slice none 0 0, .slice none 0 0, .slice none 0 0, .slice none 0 0, .slice none 0 0, .slice none 0 0, .slice none 0 0] 52) = w8 at *
  have hnb7 : nb < w7.heap.size := by omega
  refine (told_graph w8 _ _ _ _ _ _ _ _ _ nb c len ts g LN.out S8.out.t hnb7 S0.out (by simp; omega) (by simp) (by omega)).mono ?_
  rintro e w9 ⟨rfl, hS, hb⟩
  have T1 := Lib.hid hS
  have HX1 : Hid (Below w7.heap.size w8 w9) := hb
  clear hS hb
  have HLL : Hid ((heldsN 0 ts g len).length = 2 * len) := heldsN_length 0 ts g len
  go_wp2_with fail
  refine (told_costs w9 _ _ _ _ _ _ _ _ aA lX lX xA T1.out (by simp) (by omega)).mono ?_
  rintro e w10 ⟨rfl, hS, hb⟩
  have T2 := Lib.hid hS
  have HX2 : Hid (Below w7.heap.size w8 w10) := HX1.out.trans hb
  have s10 := (HX2.out.cell (p := ⟨w2.heap.size, 0, none⟩) z7).trans s8
  have q10 := (HX2.out.cell (p := ⟨w.heap.size, 0, none⟩) hg0).trans q8
  have B410 : Hid (Below w4.heap.size w4 w10) := B48.out.trans (HX2.out.mono hz47)
  have S10 : Hid (TSt w a len cap g w2.heap.size nb c ts w10) := S4.out.on B410.out
  have HCA10 := Lib.hid (HCA.out.below B410.out)
  have HCX10 : Hid (CostsIn w10 aX lX cX (cC g)) := by
    refine ⟨HCX8.out.le, HCX8.out.cap_le, HCX8.out.length, fun h0 => ?_⟩
    obtain ⟨b, off, rfl, hlt, hc⟩ := HCX8.out.at_ h0
    have hlt7 := HXB.out _ rfl h0
    refine ⟨b, off, rfl, Nat.lt_of_lt_of_le hlt HX2.out.size, fun i hi => ?_⟩
    obtain ⟨h1, h2, h3⟩ := hc i hi
    exact ⟨(HX2.out.cell (p := ⟨b, off + i * 3, none⟩) (show b < w7.heap.size from hlt7)).trans h1, (HX2.out.cell (p := ⟨b, off + i * 3 + 1, none⟩) (show b < w7.heap.size from hlt7)).trans h2, (HX2.out.cell (p := ⟨b, off + i * 3 + 2, none⟩) (show b < w7.heap.size from hlt7)).trans h3⟩
  clear hS hb s8 q8
  go_wp2_with fail
  refine (sameCosts_any aA aX lX lX cX (cC g) (cC g) w10 HCA10.out HCX10.out (fun _ _ => rfl)).mono ?_
  rintro e w11 ⟨rfl, hb⟩
  have S11 := Lib.hid (S10.out.on hb)
  have s11 := S11.out.ct
  have q11 := S11.out.k.cell
  have B411 : Hid (Below w4.heap.size w4 w11) := B410.out.trans (hb.mono B410.out.size)
  have T3 := Lib.hid (T2.out.below hb)
  clear hb s10 q10
  go_wp2_with fail
  refine (leftGr_any nb c ts a len cap _ g w11 S11.out.t S11.out.k.n (by omega) HSZ.out).mono ?_
  rintro e w12 ⟨rfl, hb⟩
  have HSB := Lib.hid (S11.out.on hb)
  have B412 : Hid (Below w4.heap.size w4 w12) := B411.out.trans (hb.mono B411.out.size)
  have T4 := Lib.hid (T3.out.below hb)
  clear hb s11 q11
  have HVA : Hid (RowV 3 w12 (.slice aA lX lX) lX xA) := HRA.out.keep B412.out.size (fun k hk => B412.out.block k (HFA.out k hk).2)
  have HBLK := Lib.hid (blocksOf_heldsN 0 (ts := ts) (g := g) HSB.out.t.rows.len)
  rw [LN.out] at HBLK
  have hw3 := HZ3.out
  have HTW := Lib.hid HSB.out.t.lo
  have HND := Lib.hid HSB.out.t.nd
  have HBB : Hid ((∀ b ∈ blocksOf (([] ++ heldsN 0 ts g len) ++ ([] ++ [⟨.slice (some ⟨nb, 0, none⟩) len c, len, flatN ts g, .slice none 0 0, 0 + 2 * (len : Int) + 1⟩]) ++ [] ++ ([] ++ [⟨.slice aA lX lX, lX, xA, .slice none 0 0, 0 + 2 * (len : Int) + 1 + 1⟩])), w.heap.size ≤ b ∧ b < w7.heap.size) ∧
      (blocksOf (([] ++ heldsN 0 ts g len) ++ ([] ++ [⟨.slice (some ⟨nb, 0, none⟩) len c, len, flatN ts g, .slice none 0 0, 0 + 2 * (len : Int) + 1⟩]) ++ [] ++ ([] ++ [⟨.slice aA lX lX, lX, xA, .slice none 0 0, 0 + 2 * (len : Int) + 1 + 1⟩]))).Nodup) := by
    show _ ∧ _
    simp only [List.nil_append, List.append_nil, blocksOf_app, HBLK.out]
    have r0 : ∀ x ∈ blksN ts, w.heap.size ≤ x ∧ x < w2.heap.size := fun x hx => ⟨HTW.out x (List.mem_cons_of_mem _ hx), (HTB.out x (List.mem_cons_of_mem _ hx)).2⟩
    have r5 := HTW.out nb (List.mem_cons_self ..)
    refine ⟨fun b hm => ?_, ?_⟩
    · simp only [List.mem_append, mem_one] at hm
      rcases hm with (hm | hm) | hm
      · have := r0 b hm; omega
      · have : nb = b := Option.some.inj hm
        omega
      · have := HFA.out b hm; omega
    · refine nodup_lv (s := w3.heap.size) ?_ (nodup_one _) (fun x hx => ?_) (fun x hx => (HFA.out x (mem_one.1 hx)).1)
      · rw [List.nodup_append]
        refine ⟨(List.nodup_cons.1 HND.out).2, nodup_one _, fun x hx y hy e => ?_⟩
        have hy2 : nb = y := Option.some.inj (mem_one.1 hy)
        exact (List.nodup_cons.1 HND.out).1 (by rw [hy2, ← e]; exact hx)
      · rcases List.mem_append.1 hx with hx | hx
        · have := (r0 x hx).2; omega
        · have : nb = x := Option.some.inj (mem_one.1 hx); omega
  have HRI : Hid (∀ h ∈ [] ++ heldsN 0 ts g len, RowV 1 w12 h.v h.n h.xs ∧ h.n ≤ 1000000) := by
    intro h hm
    exact heldsN_row HSB.out.t.rows (fun i hi => HSZ.out i (by rw [← LN.out]; exact hi)) LN.out h (by simpa using hm)
  have HRN : Hid (∀ h ∈ [] ++ [(⟨.slice (some ⟨nb, 0, none⟩) len c, len, flatN ts g, .slice none 0 0, 0 + 2 * (len : Int) + 1⟩ : Held)], RowV 5 w12 h.v h.n h.xs ∧ h.n ≤ 1000000) := by
    intro h hm
    simp only [List.nil_append, List.mem_singleton] at hm
    subst hm
    have := HSB.out.t.rowV
    rw [LN.out] at this
    exact ⟨this, show len ≤ _ by omega⟩
  have HRC : Hid (∀ h ∈ [] ++ [(⟨.slice aA lX lX, lX, xA, .slice none 0 0, 0 + 2 * (len : Int) + 1 + 1⟩ : Held)], RowV 3 w12 h.v h.n h.xs ∧ h.n ≤ 1000000) := by
    intro h hm
    simp only [List.nil_append, List.mem_singleton] at hm
    subst hm
    exact ⟨HVA.out, show lX ≤ _ by omega⟩
  have hwz : w.heap.size ≤ w7.heap.size := by omega
  go_wp2_with fail
  refine (apartB w12 _ _ w.heap.size _ _ _ _ _ T4.out (by omega) (by simp [HLL.out]; omega) HRI.out (by simp) HRN.out (by simp) (fun h hm => by cases hm) (by simp) HRC.out HBB.out.1 HBB.out.2 hwz).mono ?_
  rintro e w13 ⟨rfl, hb⟩
  have HEND : Hid (Below w.heap.size w w13) := HSB.out.k.bel.trans hb
  clear hb
  go_wp2_with fail
  refine (clives_any _).mono ?_
  rintro e w14 ⟨rfl, hb⟩
  have HE := Lib.hid (HEND.out.trans (hb.mono HEND.out.size))
  clear hb
  go_wp2
  go_ret
  exact ⟨rfl, HE.out⟩
end Go.Proofs.YtekejcnphmnidaaGreatDoor
