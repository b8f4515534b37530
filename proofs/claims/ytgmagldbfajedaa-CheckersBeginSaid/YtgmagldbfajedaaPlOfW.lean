/-
  plans.Of: contract pof_any.
-/
import Derived.Test.YtgmagldbfajedaaPlOfP
import Derived.Test.YtgmagldbfajedaaCoLeast
import Derived.WalkMore
import Derived.Outline
namespace Go.Proofs.Ytgmagldbfajedaa
open Go.RowKit

/-- A plan for so much room, or the error. -/
def PlanE (w : World) (g : List Gr.Node) (room : Int) (e : Ending) (w' : World) : Prop :=
  Below w.heap.size w w' ∧ (((Gr.shapes g = none ∨ room < 0 ∨ 1048576 < room) ∧ e = .returned (.tuple #[.slice none 0 0, .int .i64 1])) ∨ ∃ s, Gr.shapes g = some s ∧ (0 ≤ room ∧ room ≤ 1048576) ∧
    ((room < Co.leastF (Co.costs g s) (Od.ordOf g) ∧ e = .returned (.tuple #[.slice none 0 0, .int .i64 13])) ∨
      (Co.leastF (Co.costs g s) (Od.ordOf g) ≤ room ∧ ∃ a len, e = .returned (.tuple #[.slice a len len, .int .i64 0]) ∧ StepsIn w' a len len (Pl.planSt g s room).l)))

set_option maxHeartbeats 2000000 in
set_option maxRecDepth 100000 in
theorem pof_any (a : Option Addr) (len cap : Nat) (g : List Gr.Node) (room : Int) (w : World) (HN : Nodes w a len cap g) (hr0 : -9223372036854775808 ≤ room) (hr1 : room ≤ 9223372036854775807) :
    Calls Try.prog 55 #[.agg #[.slice a len cap], .int .i64 room] w fun e w' => PlanE w g room e w' := by
  have LN := Lib.hid HN.length
  have hle := HN.le
  have hcl := HN.cap_le
  have K0 := Lib.hid (GSt.start HN)
  clear HN
  go_enter Try.func55, Try.ntmps55
  go_wp2_with fail
  go_step3
  go_wp2_with fail
  refine (cof_any _ _ _ g _ K0.out.n).mono ?_
  rintro e w1 ⟨hb, ⟨hs, rfl⟩ | ⟨s, aC, lC, hs, rfl, hC⟩⟩
  · have K1 := Lib.hid (K0.out.on hb)
    have HS := Lib.hid hs
    clear hb hs
    go_wp2
    (try rw [Exit.noGoto_ret])
    go_ret2
    exact ⟨K1.out.bel, .inl ⟨.inl HS.out, rfl⟩⟩
  have K1 := Lib.hid (K0.out.on hb)
  have c1 := K1.out.cell
  have HS := Lib.hid hs
  have HC1 := Lib.hid hC
  have hlC : lC = g.length := by rw [← hC.length]; exact Co.costsK_length _ _ _
  obtain rfl : lC = len := by rw [hlC]; exact LN.out
  have hCle := hC.le
  have hCcl := hC.cap_le
  obtain ⟨⟨hl1, hl2⟩, _, _⟩ := Gr.shapes_iff.1 hs
  rw [LN.out] at hl1 hl2
  clear hb hs hC K0 hlC
  by_cases p1 : room < 0
  · have d1 : decide (room < 0) = true := decide_eq_true p1
    go_wp2
    (try rw [Exit.noGoto_ret])
    go_ret2
    exact ⟨K1.out.bel, .inl ⟨.inr (.inl p1), rfl⟩⟩
  have d1 : decide (room < 0) = false := decide_eq_false p1
  by_cases p2 : 1048576 < room
  · have d2 : decide (room > 1048576) = true := decide_eq_true p2
    go_wp2
    (try rw [Exit.noGoto_ret])
    go_ret2
    exact ⟨K1.out.bel, .inl ⟨.inr (.inr p2), rfl⟩⟩
  have d2 : decide (room > 1048576) = false := decide_eq_false p2
  have HRM : Hid (0 ≤ room ∧ room ≤ 1048576) := ⟨by omega, by omega⟩
  go_wp2_with fail
  refine (cleast_any _ _ _ g _ K1.out.n).mono ?_
  rintro e w2 ⟨hb, ⟨hs, _⟩ | ⟨s', hs, rfl⟩⟩
  · rw [HS.out] at hs; cases hs
  obtain rfl : s' = s := by rw [HS.out] at hs; exact (Option.some.inj hs).symm
  have K2 := Lib.hid (K1.out.on hb)
  have HC2 := Lib.hid (HC1.out.below hb)
  have c2 := K2.out.cell
  clear hb hs c1 K1 HC1
  by_cases p3 : room < Co.leastF (Co.costs g s') (Od.ordOf g)
  · have d3 : decide (room < Co.leastF (Co.costs g s') (Od.ordOf g)) = true := decide_eq_true p3
    have HP3 := Lib.hid p3
    clear p3
    go_wp2
    (try rw [Exit.noGoto_ret])
    go_ret2
    exact ⟨K2.out.bel, .inr ⟨s', HS.out, HRM.out, .inl ⟨HP3.out, rfl⟩⟩⟩
  have d3 : decide (room < Co.leastF (Co.costs g s') (Od.ordOf g)) = false := decide_eq_false p3
  have HP3 : Hid (Co.leastF (Co.costs g s') (Od.ordOf g) ≤ room) := by show _ ≤ _; omega
  clear p3
  have hB3 : Below w2.heap.size w2 (w2.alloc (.cells #[.slice a lC cap, .slice aC lC lC, .slice none 0 0, .slice none 0 0, .int .i64 room, .bool false, .int .i64 0, .slice none 0 0, .slice none 0 0, .slice none 0 0] 120)) := (Below.refl _ _).alloc (Nat.le_refl _) _
  have K3 := Lib.hid (K2.out.on hB3)
  have HB3 := Lib.hid hB3
  have c3 := K3.out.cell
  have hz3 : w2.heap.size < (w2.alloc (.cells #[.slice a lC cap, .slice aC lC lC, .slice none 0 0, .slice none 0 0, .int .i64 room, .bool false, .int .i64 0, .slice none 0 0, .slice none 0 0, .slice none 0 0] 120)).heap.size := by simp
  have HZ3 := Lib.hid hz3
  have HST := Lib.hid (fun vo w4 hb => BgSt.start (w2 := w2) (w4 := w4) (vg := .slice a lC cap) (vc := .slice aC lC lC) (vo := vo) (room := room) hb)
  have y3 : (w2.alloc (.cells #[.slice a lC cap, .slice aC lC lC, .slice none 0 0, .slice none 0 0, .int .i64 room, .bool false, .int .i64 0, .slice none 0 0, .slice none 0 0, .slice none 0 0] 120)).cell? ⟨w2.heap.size, 3, none⟩ = some (.slice none 0 0) := by rw [World.cell?_alloc_at _ _ _ _ rfl]; rfl
  have f3 : (w2.alloc (.cells #[.slice a lC cap, .slice aC lC lC, .slice none 0 0, .slice none 0 0, .int .i64 room, .bool false, .int .i64 0, .slice none 0 0, .slice none 0 0, .slice none 0 0] 120)).frozen? ⟨w2.heap.size, 3, none⟩ = false := World.frozen?_alloc_at _ _ _ _ rfl
  have Y3 := Lib.hid y3
  have F3 := Lib.hid f3
  clear hB3 hz3 y3 f3
  go_wp2_with fail
  --P1
  refine (of_new _ _ _ g _ K3.out.n).mono ?_
  rintro e w4 ⟨hb, ⟨hs, _⟩ | ⟨L, aO, lO, cO, hs, rfl, hI, hnw⟩⟩
  · unfold Od.ordO at hs
    rw [HS.out] at hs
    simp at hs
  have hLL : L = Od.ordOf g := by
    unfold Od.ordO at hs
    rw [HS.out] at hs
    simpa using hs.symm
  subst hLL
  have HBg := Lib.hid (HST.out (.slice aO lO cO) w4 hb)
  have y3 := below_keep hb Y3.out
  have f3 := (hb.frozen (p := ⟨w2.heap.size, 3, none⟩) HZ3.out).trans F3.out
  have HIO : Hid (Ints (w4.setCell ⟨w2.heap.size, 3, none⟩ (.slice aO lO cO)) aO lO cO (Od.ordOf g) ∧ ∀ p, aO = some p → 0 < lO → p.block ≠ w2.heap.size ∧ p.block < (w4.setCell ⟨w2.heap.size, 3, none⟩ (.slice aO lO cO)).heap.size) := by
    have hne : ∀ p, aO = some p → p.block ≠ w2.heap.size := fun p hp => by have h1 := hnw p hp; have h2 := HZ3.out; omega
    refine ⟨⟨hI.le, hI.cap_le, hI.length, hI.wf, fun h0 => ?_⟩, fun p hp h0 => ?_⟩
    · obtain ⟨b, o, e, hlt, hc⟩ := hI.at_ h0
      have hbne := hne _ e
      refine ⟨b, o, e, by simpa [World.setCell] using hlt, fun i hi => ?_⟩
      have := hc i hi
      unfold World.cell? at this ⊢
      rw [heap_set_ne _ _ _ hbne]; exact this
    · obtain ⟨b, o, e, hlt, hc⟩ := hI.at_ h0
      refine ⟨hne p hp, ?_⟩
      rw [hp] at e; cases e
      simpa [World.setCell] using hlt
  have hOle := hI.le
  have hOcl := hI.cap_le
  have hlO : lO ≤ 32 := by
    have h1 := (Pl.ordOk (Pl.env_ok HS.out HRM.out true)).len
    have h2 : (Od.ordOf g).length ≤ g.length := h1
    rw [← hI.length]; have := LN.out; omega
  have HOL := Lib.hid hI.length
  have c5 : (w4.setCell ⟨w2.heap.size, 3, none⟩ (.slice aO lO cO)).cell? ⟨w.heap.size, 0, none⟩ = some (.slice a lC cap) := (HBg.out.bel.cell (p := ⟨w.heap.size, 0, none⟩) K2.out.lt).trans K2.out.cell
  clear hb hs hI hnw c3 c2
  go_wp2
  generalize (w4.setCell ⟨w2.heap.size, 3, none⟩ (.slice aO lO cO)) = w5 at *
  have HBL : Hid ((Pl.bytesOf g s').length = lC) := by show _ = _; rw [Pl.bytes_len]; exact LN.out
  have HBW : Hid (∀ n ∈ Pl.bytesOf g s', -9223372036854775808 ≤ n ∧ n ≤ 9223372036854775807) := fun n hn => by
    obtain ⟨i, hi, rfl⟩ := Od.mem_nth hn
    rw [Pl.bytes_len] at hi
    rw [Pl.bytes_at hi]
    have := Co.size_bounds HS.out hi
    omega
  go_loopg [53] lC (fun gg i wr => ∃ k : Nat, k ≤ lC ∧ lC - k ≤ gg ∧ i = .int .i64 k ∧ Hid (BgSt w2 w5 w2.heap.size (.slice a lC cap) (.slice aC lC lC) (.slice aO lO cO) room ((Pl.bytesOf g s').take k) (Pl.srcsK g k) wr))
  case atStart => exact ⟨0, Nat.zero_le _, by omega, rfl, HBg⟩
  case round =>
    obtain ⟨k, hk, hg, rfl, HB⟩ := hrel
    by_cases hlt : k < lC
    · have dlt : decide ((k : Int) < (lC : Int)) = true := decide_eq_true (by omega)
      obtain ⟨b, off, ai, li, ci, sa, ls, cs, rfl, _, n0, n1, n2, n3, n4, hV⟩ := (K2.out.on HB.out.bel).n.get (Below.refl _ wr) hlt
      have HTK := Lib.hid (take_snoc (Pl.bytesOf g s') k (by rw [HBL.out]; exact hlt))
      have HSK := Lib.hid (Pl.srcsK_snoc g k)
      have hsl := Pl.srcsK_len g k
      have hbl : ((Pl.bytesOf g s').take k).length ≤ k := List.length_take_le _ _
      have hB6 : Below wr.heap.size wr (wr.alloc (.cells #[.int .u8 (nodeN g k).kind, .slice ai li ci, .slice sa ls cs, .int .i64 (nodeN g k).n, .int .i64 (nodeN g k).pad] 46)) := (Below.refl _ _).alloc (Nat.le_refl _) _
      have HB6 := Lib.hid (HB.out.on hB6)
      have X0 : Hid ((wr.alloc (.cells #[.int .u8 (nodeN g k).kind, .slice ai li ci, .slice sa ls cs, .int .i64 (nodeN g k).n, .int .i64 (nodeN g k).pad] 46)).heap[wr.heap.size]? = some (.cells #[.int .u8 (nodeN g k).kind, .slice ai li ci, .slice sa ls cs, .int .i64 (nodeN g k).n, .int .i64 (nodeN g k).pad] 46 (0, 0))) := heap_alloc_new _ _
      have HZ6 : Hid (wr.heap.size < (wr.alloc (.cells #[.int .u8 (nodeN g k).kind, .slice ai li ci, .slice sa ls cs, .int .i64 (nodeN g k).n, .int .i64 (nodeN g k).pad] 46)).heap.size) := by show _ < _; simp
      obtain ⟨bC, oC, rfl, hbC, hcC⟩ := ((HC2.out.below HB.out.bel).below hB6).at_ (by omega)
      have kc := (hcC k hlt).1
      have HBB : Hid (nth (Pl.bytesOf g s') k = (Co.costN (Co.costs g s') k).bytes) := Pl.bytes_nth (by rw [LN.out]; exact hlt)
      obtain ⟨vb, vd, o1, o2, o3, o4, o5⟩ := HB.out.own
      have HOB := Lib.hid (fun j (hj : vb.ownBlock = some j) => (Own.lt o3 j hj).2)
      have HOD := Lib.hid (fun j (hj : vd.ownBlock = some j) => (Own.lt o4 j hj).2)
      have q2 := (hB6.cell (p := ⟨w2.heap.size, 2, none⟩) HB.out.lt).trans o1
      have HSR : Hid (Pl.srcB (nodeN g k) = (decide ((nodeN g k).kind = 1) || decide ((nodeN g k).kind = 2))) := rfl
      clear hcC hbC hB6 hV o1 o2 o3 o4 o5
      generalize (nodeN g k).kind = kd at *
      generalize (nodeN g k).n = nn at *
      generalize (nodeN g k).pad = pp at *
      generalize hcv : (Co.costN (Co.costs g s') k).bytes = cv at *
      clear hcv
      go_wp2_with fail
      generalize wr.alloc (.cells #[.int .u8 kd, .slice ai li ci, .slice sa ls cs, .int .i64 nn, .int .i64 pp] 46) = w6 at *
      obtain ⟨vb', vd', o1, o2, o3, o4, o5⟩ := HB6.out.own
      obtain rfl : vb = vb' := by simpa using q2.symm.trans o1
      obtain ⟨aX, nX, cX, rfl⟩ := ownsRow_slice (show w6.ownsRow _ 3 1 vb ((Pl.bytesOf g s').take k).length (((Pl.bytesOf g s').take k).map (Value.int .i64)) from o3)
      have HO3 : Hid (∀ o, Own w5.heap.size (w6.drew.alloc o) (.slice aX nX cX) ((Pl.bytesOf g s').take k)) := fun o => o3.keep (fun j hj => Below.heap_alloc _ _ _ (Own.lt o3 j hj).2)
      have y2 : ∀ o, (w6.alloc o).cell? ⟨w2.heap.size, 2, none⟩ = some (.slice aX nX cX) := fun o => Lib.cell?_alloc_some _ o1
      have yc : ∀ o, (w6.alloc o).cell? ⟨bC, oC + k * 3, none⟩ = some (.int .i64 cv) := fun o => Lib.cell?_alloc_some _ kc
      have HFr := Lib.hid (HB6.out.fr 2 (by decide))
      have HA2 : Hid (∀ o, BgSt w2 w5 w2.heap.size (.slice (some ⟨b, off, none⟩) lC cap) (.slice (some ⟨bC, oC, none⟩) lC lC) (.slice aO lO cO) room ((Pl.bytesOf g s').take k) (Pl.srcsK g k) (w6.drew.alloc o)) := fun o => HB6.out.on ((Below.refl _ _).drew.alloc (Nat.le_refl _) o)
      have HQ2 := Lib.hid q2
      have hbs : w5.heap.size ≤ w6.heap.size := HB6.out.sz
      have HBS := Lib.hid hbs
      clear o1 o2 o3 o4 o5 hbs
      go_region_law (first
        | (refine step_app1h _ (by rfl) _ _ (by rfl) w5.heap.size (.slice aX nX cX) ((Pl.bytesOf g s').take k) cv w6.heap.size (by exact HO3.out _) (by rfl) (by rfl) (by exact heap_alloc_new _ _) (by exact (HA2.out _).sz) (by omega) ?_; intro v8 w8 hO8 hb8 hg8 hob8
           obtain ⟨aV, nV, cV, rfl⟩ := ownsRow_slice (show w8.ownsRow w5.heap.size 3 1 v8 ((Pl.bytesOf g s').take k ++ [cv]).length (((Pl.bytesOf g s').take k ++ [cv]).map (Value.int .i64)) from hO8)
           have z2 := (box_cells (M := w2.heap.size) (HA2.out _).lt hg8 (fun e => by have h1 := HOB.out _ e; have h2 := (Own.lt (HO3.out (.cells #[] 0)) _ e).1; have h3 := (HA2.out (.cells #[] 0)).hbB; omega) 2).1.trans (y2 _)
           have f2 := (box_cells (M := w2.heap.size) (HA2.out _).lt hg8 (fun e => by have h1 := HOB.out _ e; have h2 := (Own.lt (HO3.out (.cells #[] 0)) _ e).1; have h3 := (HA2.out (.cells #[] 0)).hbB; omega) 2).2.trans ((HA2.out _).fr 2 (by decide))))
      --P4
      all_goals
        have hB9 := (HA2.out (.cells #[.int .i64 cv] 3)).put2 (y2 _) hO8 hb8 hg8 hob8
        rw [← HBB.out, ← HTK.out] at hB9
        have hN9 : (w8.setCell ⟨w2.heap.size, 2, none⟩ (.slice aV nV cV)).heap[wr.heap.size]? = some (.cells #[.int .u8 kd, .slice ai li ci, .slice sa ls cs, .int .i64 nn, .int .i64 pp] 46 (0, 0)) := by
          rw [heap_set_ne _ _ _ (by have := HB.out.lt; omega)]
          refine (hg8.block _ (by have := HZ6.out; show wr.heap.size < (w6.drew.alloc _).heap.size; simp; omega) (fun e => by have := HOB.out _ e.symm; omega)).trans ((Below.heap_alloc _ _ _ HZ6.out).trans X0.out)
        have z0 : (w8.setCell ⟨w2.heap.size, 2, none⟩ (.slice aV nV cV)).cell? ⟨wr.heap.size, 0, none⟩ = some (.int .u8 kd) := by simp [World.cell?, hN9]
        have z1 : (w8.setCell ⟨w2.heap.size, 2, none⟩ (.slice aV nV cV)).cell? ⟨wr.heap.size, 1, none⟩ = some (.slice ai li ci) := by simp [World.cell?, hN9]
        have z3 : (w8.setCell ⟨w2.heap.size, 2, none⟩ (.slice aV nV cV)).cell? ⟨wr.heap.size, 2, none⟩ = some (.slice sa ls cs) := by simp [World.cell?, hN9]
        have z4 : (w8.setCell ⟨w2.heap.size, 2, none⟩ (.slice aV nV cV)).cell? ⟨wr.heap.size, 3, none⟩ = some (.int .i64 nn) := by simp [World.cell?, hN9]
        have z5 : (w8.setCell ⟨w2.heap.size, 2, none⟩ (.slice aV nV cV)).cell? ⟨wr.heap.size, 4, none⟩ = some (.int .i64 pp) := by simp [World.cell?, hN9]
        have HB9 := Lib.hid hB9
        clear hO8 hb8 hg8 hob8 z2 f2 y2 yc hN9 hB9 q2 kc n0 n1 n2 n3 n4
        generalize w8.setCell ⟨w2.heap.size, 2, none⟩ (.slice aV nV cV) = w9 at *
        go_wp2_with fail
        refine (source_any _ _ _ _ _ _ _ _ _ _).mono ?_
        rintro e w10 ⟨rfl, hb10⟩
        rw [← HSR.out]
        have HB10 := Lib.hid (HB9.out.on hb10)
        clear hb10 z0 z1 z3 z4 z5
        cases hsr : Pl.srcB (nodeN g k) with
        | false =>
          have hS : Pl.srcsK g (k + 1) = Pl.srcsK g k := by rw [HSK.out, hsr]; simp
          rw [← hS] at HB10
          clear hsr hS
          go_wp2
          go_roundg (lC - (k + 1))
          case measure => exact Nat.lt_of_lt_of_le (Nat.sub_lt_sub_left hlt (Nat.lt_succ_self k)) hg
          case rel => exact ⟨k + 1, Nat.succ_le_of_lt hlt, Nat.le_refl _, by go_num, HB10⟩
        | true =>
          have hS : Pl.srcsK g (k + 1) = Pl.srcsK g k ++ [(k : Int)] := by rw [HSK.out, hsr]; simp
          have HS1 := Lib.hid hS
          obtain ⟨vb9, vd9, o1, o2, o3, o4, o5⟩ := HB10.out.own
          obtain ⟨aD, nD, cD, rfl⟩ := ownsRow_slice (show w10.ownsRow _ 3 1 vd9 (Pl.srcsK g k).length ((Pl.srcsK g k).map (Value.int .i64)) from o4)
          have O4 := Lib.hid o4
          have O2 := Lib.hid o2
          have h10 := HB10.out.sz
          have H10 := Lib.hid h10
          clear hsr hS o1 o3 o4 o5 h10
          go_wp2_with (at_builtin; go_must (refine wpList_app1h _ rfl _ _ rfl w5.heap.size _ (Pl.srcsK g k) (k : Int) O4.out rfl rfl H10.out (by omega) ?_))
          intro v' w11 hO11 hb11 hg11 hob11
          obtain ⟨aE, nE, cE, rfl⟩ := ownsRow_slice (show w11.ownsRow _ 3 1 v' (Pl.srcsK g k ++ [(k : Int)]).length ((Pl.srcsK g k ++ [(k : Int)]).map (Value.int .i64)) from hO11)
          have hbc := box_cells (M := w2.heap.size) HB10.out.lt hg11 (fun e => by have h1 := (Own.lt O4.out _ e).1; have h3 := HB10.out.hbB; omega) 8
          have y8 := hbc.1.trans O2.out
          have f8 := hbc.2.trans (HB10.out.fr 8 (by decide))
          have hB12 := HB10.out.put8 O2.out hO11 hb11 hg11 (hob11.imp_right fun ⟨q, h1, h2⟩ => ⟨q, h1, Nat.le_of_lt h2⟩)
          rw [← HS1.out] at hB12
          have HB12 := Lib.hid hB12
          clear hO11 hb11 hg11 hob11 hbc hB12 o2
          go_wp2
          go_roundg (lC - (k + 1))
          case measure => exact Nat.lt_of_lt_of_le (Nat.sub_lt_sub_left hlt (Nat.lt_succ_self k)) hg
          case rel => exact ⟨k + 1, Nat.succ_le_of_lt hlt, Nat.le_refl _, by go_num, HB12⟩
    · have dlt : decide ((k : Int) < (lC : Int)) = false := decide_eq_false (by omega)
      obtain rfl : k = lC := by omega
      rw [List.take_of_length_le (by rw [HBL.out]; omega)] at HB
      obtain ⟨vb, vd, o1, o2, o3, o4, o5⟩ := HB.out.own
      obtain ⟨aB, lB, cB, rfl, hIB, _⟩ := o3.ints HBW.out
      obtain rfl : lB = k := by rw [← hIB.length]; exact HBL.out
      have hsl := Pl.srcsK_len g lB
      obtain ⟨aD, lD, cD, rfl, hID, _⟩ := o4.ints (fun n hn => by
        unfold Pl.srcsK at hn
        obtain ⟨i, hi, rfl⟩ := List.mem_map.1 hn
        have := List.mem_range.1 (List.mem_filter.1 hi).1
        omega)
      have hlD : lD ≤ 32 := by rw [← hID.length]; omega
      have hOr : Ints wr aO lO cO (Od.ordOf g) := ⟨HIO.out.1.le, HIO.out.1.cap_le, HIO.out.1.length, HIO.out.1.wf, fun h0 => by
        obtain ⟨b, o, e, hlt, hc⟩ := HIO.out.1.at_ h0
        obtain ⟨h1, h2⟩ := HIO.out.2 _ e h0
        refine ⟨b, o, e, Nat.lt_of_lt_of_le hlt HB.out.sz, fun i hi => ?_⟩
        have := hc i hi
        unfold World.cell? at this ⊢
        rw [HB.out.kp _ h2 h1]; exact this⟩
      have KE : Hid (MkEnv wr a lB cap aC lB aB cB aO lO cO g s' room) := ⟨(K2.out.on HB.out.bel).n, HC2.out.below HB.out.bel, hIB, hOr, HS.out, HRM.out⟩
      have HID := Lib.hid hID
      have HQ2 := Lib.hid o1
      have HQ8 := Lib.hid o2
      clear o1 o2 o3 o4 o5 hIB hID hOr
      go_wp2
      have hb0 := HB.out.c0
      have hb1 := HB.out.c1
      have hb2 := HQ2.out
      have hb3 := HB.out.c3
      have hb4 := HB.out.c4
      have hb5 := HB.out.c5
      have hb6 := HB.out.c6
      have hb7 := HB.out.c7
      have hb8 := HQ8.out
      have hb9 := HB.out.c9
      have HBC : Hid (∀ W, Below wr.heap.size wr W → W.cell? ⟨w2.heap.size, 0, none⟩ = some (.slice a lB cap) ∧ W.cell? ⟨w2.heap.size, 1, none⟩ = some (.slice aC lB lB) ∧ W.cell? ⟨w2.heap.size, 2, none⟩ = some (.slice aB lB cB) ∧ W.cell? ⟨w2.heap.size, 3, none⟩ = some (.slice aO lO cO) ∧ W.cell? ⟨w2.heap.size, 4, none⟩ = some (.int .i64 room) ∧
          W.cell? ⟨w2.heap.size, 5, none⟩ = some (.bool false) ∧ W.cell? ⟨w2.heap.size, 6, none⟩ = some (.int .i64 0) ∧ W.cell? ⟨w2.heap.size, 7, none⟩ = some (.slice none 0 0) ∧ W.cell? ⟨w2.heap.size, 8, none⟩ = some (.slice aD lD cD) ∧ W.cell? ⟨w2.heap.size, 9, none⟩ = some (.slice none 0 0)) :=
        fun W hW => ⟨below_keep hW hb0, below_keep hW hb1, below_keep hW hb2, below_keep hW hb3, below_keep hW hb4, below_keep hW hb5, below_keep hW hb6, below_keep hW hb7, below_keep hW hb8, below_keep hW hb9⟩
      have hM1 : Below wr.heap.size wr (wr.alloc (.cells #[.slice none 0 0, .slice none 0 0, .slice none 0 0, .slice none 0 0, .int .i64 0, .bool false, .int .i64 0, .slice none 0 0, .slice none 0 0, .slice none 0 0] 120)) := (Below.refl _ _).alloc (Nat.le_refl _) _
      have HBM : Hid (Below wr.heap.size wr ((wr.alloc (.cells #[.slice none 0 0, .slice none 0 0, .slice none 0 0, .slice none 0 0, .int .i64 0, .bool false, .int .i64 0, .slice none 0 0, .slice none 0 0, .slice none 0 0] 120)).alloc (.cells #[.bool true, .bool false] 4))) := hM1.alloc hM1.size _
      have HMC : Hid (∀ o, o < 10 → (∃ u, ((wr.alloc (.cells #[.slice none 0 0, .slice none 0 0, .slice none 0 0, .slice none 0 0, .int .i64 0, .bool false, .int .i64 0, .slice none 0 0, .slice none 0 0, .slice none 0 0] 120)).alloc (.cells #[.bool true, .bool false] 4)).cell? ⟨wr.heap.size, o, none⟩ = some u) ∧
          ((wr.alloc (.cells #[.slice none 0 0, .slice none 0 0, .slice none 0 0, .slice none 0 0, .int .i64 0, .bool false, .int .i64 0, .slice none 0 0, .slice none 0 0, .slice none 0 0] 120)).alloc (.cells #[.bool true, .bool false] 4)).frozen? ⟨wr.heap.size, o, none⟩ = false) := fun o ho => by
        have hB := (Below.refl (wr.alloc (.cells #[.slice none 0 0, .slice none 0 0, .slice none 0 0, .slice none 0 0, .int .i64 0, .bool false, .int .i64 0, .slice none 0 0, .slice none 0 0, .slice none 0 0] 120)).heap.size (wr.alloc (.cells #[.slice none 0 0, .slice none 0 0, .slice none 0 0, .slice none 0 0, .int .i64 0, .bool false, .int .i64 0, .slice none 0 0, .slice none 0 0, .slice none 0 0] 120))).alloc (Nat.le_refl _) (.cells #[.bool true, .bool false] 4)
        have hlt : wr.heap.size < (wr.alloc (.cells #[.slice none 0 0, .slice none 0 0, .slice none 0 0, .slice none 0 0, .int .i64 0, .bool false, .int .i64 0, .slice none 0 0, .slice none 0 0, .slice none 0 0] 120)).heap.size := by simp
        refine ⟨?_, (hB.frozen (p := ⟨wr.heap.size, o, none⟩) hlt).trans (World.frozen?_alloc_at _ _ _ _ rfl)⟩
        rw [hB.cell (p := ⟨wr.heap.size, o, none⟩) hlt, World.cell?_alloc_at _ _ _ _ rfl]
        exact ⟨_, Array.getElem?_eq_getElem (by simpa using ho)⟩
      have HTB : Hid (((wr.alloc (.cells #[.slice none 0 0, .slice none 0 0, .slice none 0 0, .slice none 0 0, .int .i64 0, .bool false, .int .i64 0, .slice none 0 0, .slice none 0 0, .slice none 0 0] 120)).alloc (.cells #[.bool true, .bool false] 4)).heap[wr.heap.size + 1]? = some (.cells #[.bool true, .bool false] 4 (0, 0))) := by
        have h := heap_alloc_new (wr.alloc (.cells #[.slice none 0 0, .slice none 0 0, .slice none 0 0, .slice none 0 0, .int .i64 0, .bool false, .int .i64 0, .slice none 0 0, .slice none 0 0, .slice none 0 0] 120)) (.cells #[.bool true, .bool false] 4)
        rw [show (wr.alloc (.cells #[.slice none 0 0, .slice none 0 0, .slice none 0 0, .slice none 0 0, .int .i64 0, .bool false, .int .i64 0, .slice none 0 0, .slice none 0 0, .slice none 0 0] 120)).heap.size = wr.heap.size + 1 by simp] at h
        exact h
      clear hM1 hb0 hb1 hb2 hb3 hb4 hb5 hb6 hb7 hb8 hb9
      go_wp2
      go_step3
      go_wp2_with fail
      rename World => wb
      --Q2
      go_loopg [79] 2 (fun gg i wv => ∃ k2 : Nat, k2 ≤ 2 ∧ 2 - k2 ≤ gg ∧ i = .int .i64 k2 ∧ Hid (Below wb.heap.size wb wv) ∧ Hid (∀ o, o < 10 → (∃ u, wv.cell? ⟨wb.heap.size, o, none⟩ = some u) ∧ wv.frozen? ⟨wb.heap.size, o, none⟩ = false) ∧
        Hid (wv.heap[wb.heap.size + 1]? = some (.cells #[.bool true, .bool false] 4 (0, 0))) ∧ Hid (1 ≤ k2 → (Pl.tryF (Pl.planEnv g s' room true)).2 = false) ∧
        Hid (k2 = 2 → ∃ at0 : Int, MkS wb wb.heap.size a lB cap aC lB aB cB aO lO cO room false at0 (Pl.tryF (Pl.planEnv g s' room false)).1 wv))
      case atStart => exact ⟨0, by omega, by omega, rfl, HBM, HMC, HTB, fun h => by omega, fun h => by omega⟩
      case round =>
        rename World => wv
        obtain ⟨k2, hk2, hg2, rfl, HBv, HMv, HTv, HF1, HF2⟩ := hrel
        --Q3
        have HTL : Hid (∀ ag, (Pl.tryF (Pl.planEnv g s' room ag)).1.l.length ≤ 2300) := fun ag => (Pl.try_len (Pl.env_ok HS.out HRM.out ag) (Pl.ordOk (Pl.env_ok HS.out HRM.out ag))).1
        by_cases hlt2 : k2 < 2
        · have d2l : decide ((k2 : Int) < 2) = true := decide_eq_true (by omega)
          obtain ⟨ag, hag, HAG⟩ : ∃ ag, (#[Value.bool true, Value.bool false] : Array Value)[k2]? = some (.bool ag) ∧ Hid (ag = decide (k2 = 0)) := by
            obtain rfl | rfl : k2 = 0 ∨ k2 = 1 := by omega
            · exact ⟨true, rfl, rfl⟩
            · exact ⟨false, rfl, rfl⟩
          have kT : wv.cell? ⟨wb.heap.size + 1, k2, none⟩ = some (.bool ag) := by
            simp only [World.cell?, HTv.out]; exact hag
          obtain ⟨b0, b1, b2, b3, b4, b5, b6, b7, b8, b9⟩ := HBC.out wv HBv.out
          obtain ⟨⟨u0, z0⟩, f0⟩ := HMv.out 0 (by decide)
          obtain ⟨⟨u1, z1⟩, f1⟩ := HMv.out 1 (by decide)
          obtain ⟨⟨u2, z2⟩, f2⟩ := HMv.out 2 (by decide)
          obtain ⟨⟨u3, z3⟩, f3⟩ := HMv.out 3 (by decide)
          obtain ⟨⟨u4, z4⟩, f4⟩ := HMv.out 4 (by decide)
          obtain ⟨⟨u5, z5⟩, f5⟩ := HMv.out 5 (by decide)
          obtain ⟨⟨u6, z6⟩, f6⟩ := HMv.out 6 (by decide)
          obtain ⟨⟨u7, z7⟩, f7⟩ := HMv.out 7 (by decide)
          obtain ⟨⟨u8, z8⟩, f8⟩ := HMv.out 8 (by decide)
          obtain ⟨⟨u9, z9⟩, f9⟩ := HMv.out 9 (by decide)
          have hneB : w2.heap.size ≠ wb.heap.size := by have := HB.out.lt; omega
          have hneB' := Ne.symm hneB
          clear hag
          go_wp2_with fail
          --Q4
          have HTS := Lib.hid (ten_size wv wb.heap.size (.slice a lB cap) (.slice aC lB lB) (.slice aB lB cB) (.slice aO lO cO) (.int .i64 room) (.bool false) (.int .i64 0) (.slice none 0 0) (.slice aD lD cD) (.slice none 0 0))
          have HTH := Lib.hid (fun k (h : k ≠ wb.heap.size) => ten_heap wv h (.slice a lB cap) (.slice aC lB lB) (.slice aB lB cB) (.slice aO lO cO) (.int .i64 room) (.bool false) (.int .i64 0) (.slice none 0 0) (.slice aD lD cD) (.slice none 0 0))
          have HTF := Lib.hid (fun p => ten_frozen wv wb.heap.size (.slice a lB cap) (.slice aC lB lB) (.slice aB lB cB) (.slice aO lO cO) (.int .i64 room) (.bool false) (.int .i64 0) (.slice none 0 0) (.slice aD lD cD) (.slice none 0 0) p)
          have HTW := Lib.hid (ten_below HBv.out (Nat.le_refl wb.heap.size) (.slice a lB cap) (.slice aC lB lB) (.slice aB lB cB) (.slice aO lO cO) (.int .i64 room) (.bool false) (.int .i64 0) (.slice none 0 0) (.slice aD lD cD) (.slice none 0 0))
          have HTC := Lib.hid (And.intro (ten_cell wv (.slice a lB cap) (.slice aC lB lB) (.slice aB lB cB) (.slice aO lO cO) (.int .i64 room) (.bool false) (.int .i64 0) (.slice none 0 0) (.slice aD lD cD) (.slice none 0 0) z0) (And.intro (ten_cell wv (.slice a lB cap) (.slice aC lB lB) (.slice aB lB cB) (.slice aO lO cO) (.int .i64 room) (.bool false) (.int .i64 0) (.slice none 0 0) (.slice aD lD cD) (.slice none 0 0) z1) (And.intro (ten_cell wv (.slice a lB cap) (.slice aC lB lB) (.slice aB lB cB) (.slice aO lO cO) (.int .i64 room) (.bool false) (.int .i64 0) (.slice none 0 0) (.slice aD lD cD) (.slice none 0 0) z2) (And.intro (ten_cell wv (.slice a lB cap) (.slice aC lB lB) (.slice aB lB cB) (.slice aO lO cO) (.int .i64 room) (.bool false) (.int .i64 0) (.slice none 0 0) (.slice aD lD cD) (.slice none 0 0) z3) (And.intro (ten_cell wv (.slice a lB cap) (.slice aC lB lB) (.slice aB lB cB) (.slice aO lO cO) (.int .i64 room) (.bool false) (.int .i64 0) (.slice none 0 0) (.slice aD lD cD) (.slice none 0 0) z4) (And.intro (ten_cell wv (.slice a lB cap) (.slice aC lB lB) (.slice aB lB cB) (.slice aO lO cO) (.int .i64 room) (.bool false) (.int .i64 0) (.slice none 0 0) (.slice aD lD cD) (.slice none 0 0) z5) (And.intro (ten_cell wv (.slice a lB cap) (.slice aC lB lB) (.slice aB lB cB) (.slice aO lO cO) (.int .i64 room) (.bool false) (.int .i64 0) (.slice none 0 0) (.slice aD lD cD) (.slice none 0 0) z6) (And.intro (ten_cell wv (.slice a lB cap) (.slice aC lB lB) (.slice aB lB cB) (.slice aO lO cO) (.int .i64 room) (.bool false) (.int .i64 0) (.slice none 0 0) (.slice aD lD cD) (.slice none 0 0) z7) (And.intro (ten_cell wv (.slice a lB cap) (.slice aC lB lB) (.slice aB lB cB) (.slice aO lO cO) (.int .i64 room) (.bool false) (.int .i64 0) (.slice none 0 0) (.slice aD lD cD) (.slice none 0 0) z8) (ten_cell wv (.slice a lB cap) (.slice aC lB lB) (.slice aB lB cB) (.slice aO lO cO) (.int .i64 room) (.bool false) (.int .i64 0) (.slice none 0 0) (.slice aD lD cD) (.slice none 0 0) z9))))))))))
          have hfz : ∀ o, o < 10 → wv.frozen? ⟨wb.heap.size, o, none⟩ = false := fun o ho => (HMv.out o ho).2
          have HFZ := Lib.hid hfz
          have HVL : Hid (wb.heap.size + 1 < wv.heap.size) := (Array.getElem?_eq_some_iff.1 HTv.out).1
          clear kT b0 b1 b2 b3 b4 b5 b6 b7 b8 b9 z0 z1 z2 z3 z4 z5 z6 z7 z8 z9 f0 f1 f2 f3 f4 f5 f6 f7 f8 f9 hfz
          change Calls Try.prog 94 #[.slice aD lD cD] (ten wv wb.heap.size (.slice a lB cap) (.slice aC lB lB) (.slice aB lB cB) (.slice aO lO cO) (.int .i64 room) (.bool false) (.int .i64 0) (.slice none 0 0) (.slice aD lD cD) (.slice none 0 0)) _
          generalize ten wv wb.heap.size (.slice a lB cap) (.slice aC lB lB) (.slice aB lB cB) (.slice aO lO cO) (.int .i64 room) (.bool false) (.int .i64 0) (.slice none 0 0) (.slice aD lD cD) (.slice none 0 0) = wt at *
          obtain ⟨t0, t1, t2, t3, t4, t5, t6, t7, t8, t9⟩ := HTC.out
          refine (clone_any _ _ _ (Pl.srcsK g lB) _ (HID.out.below HTW.out) (by omega)).mono ?_
          rintro e w8 ⟨v8, rfl, hO8, hb8⟩
          have hMlt : wb.heap.size < wt.heap.size := by rw [HTS.out]; have := HVL.out; omega
          have hfr := fun o (ho : o < 10) => (HTF.out ⟨wb.heap.size, o, none⟩).trans (HFZ.out o ho)
          have hBEG := MkSt.begin (again := ag) (b0 := false) (Nat.le_refl wb.heap.size) hMlt HTW.out t0 t1 t2 t3 t4 t5 t6 t7 t8 t9 hfr hb8 hO8
          have y8 := (hb8.cell (p := ⟨wb.heap.size, 8, none⟩) hMlt).trans t8
          have y5 := (hb8.cell (p := ⟨wb.heap.size, 5, none⟩) hMlt).trans t5
          have y3 := (hb8.cell (p := ⟨wb.heap.size, 3, none⟩) hMlt).trans t3
          have g8 := (hb8.frozen (p := ⟨wb.heap.size, 8, none⟩) hMlt).trans (hfr 8 (by decide))
          have g5 := (hb8.frozen (p := ⟨wb.heap.size, 5, none⟩) hMlt).trans (hfr 5 (by decide))
          obtain ⟨aV, lV, cV, rfl⟩ := ownsRow_slice (show w8.ownsRow wt.heap.size 3 1 v8 (Pl.srcsK g lB).length ((Pl.srcsK g lB).map (Value.int .i64)) from hO8)
          have HBEG := Lib.hid hBEG
          have HTS8 : Hid (((w8.setCell ⟨wb.heap.size, 8, none⟩ (.slice aV lV cV)).setCell ⟨wb.heap.size, 5, none⟩ (.bool ag)).heap[wb.heap.size + 1]? = some (.cells #[.bool true, .bool false] 4 (0, 0))) := by
            show _ = _
            rw [heap_set_ne _ _ _ (by omega), heap_set_ne _ _ _ (by omega)]
            exact (hb8.block _ (by rw [HTS.out]; exact HVL.out)).trans ((HTH.out _ (by omega)).trans HTv.out)
          have HHT : Hid (Held wb.heap.size ((w8.setCell ⟨wb.heap.size, 8, none⟩ (.slice aV lV cV)).setCell ⟨wb.heap.size, 5, none⟩ (.bool ag)) (wb.heap.size + 1)) := by
            refine ⟨(Array.getElem?_eq_some_iff.1 HTS8.out).1, by omega, fun o ho v hv e => ?_⟩
            obtain ⟨vi, vd, vl, o1, o2, o3, o4, o5, o6, _, _⟩ := HBEG.out.own
            rcases ho with rfl | rfl | rfl
            · have hq : ((w8.setCell ⟨wb.heap.size, 8, none⟩ (.slice aV lV cV)).setCell ⟨wb.heap.size, 5, none⟩ (.bool ag)).cell? ⟨wb.heap.size, 7, none⟩ = some (.slice none 0 0) := by
                rw [set_off _ (by decide), set_off _ (by decide)]; exact (hb8.cell (p := ⟨wb.heap.size, 7, none⟩) hMlt).trans t7
              rw [hq] at hv; cases hv; cases e
            · have hq : ((w8.setCell ⟨wb.heap.size, 8, none⟩ (.slice aV lV cV)).setCell ⟨wb.heap.size, 5, none⟩ (.bool ag)).cell? ⟨wb.heap.size, 8, none⟩ = some (.slice aV lV cV) := by
                rw [set_off _ (by decide)]; exact World.cell?_setCell_same _ _ _ y8
              rw [hq] at hv; cases hv
              have h1 := (Own.lt hO8 _ e).1; have h2 := HVL.out; rw [HTS.out] at h1; omega
            · have hq : ((w8.setCell ⟨wb.heap.size, 8, none⟩ (.slice aV lV cV)).setCell ⟨wb.heap.size, 5, none⟩ (.bool ag)).cell? ⟨wb.heap.size, 9, none⟩ = some (.slice none 0 0) := by
                rw [set_off _ (by decide), set_off _ (by decide)]; exact (hb8.cell (p := ⟨wb.heap.size, 9, none⟩) hMlt).trans t9
              rw [hq] at hv; cases hv; cases e
          have HSTA : Hid ((⟨[], Pl.srcsK g lB, []⟩ : Pl.St) = Pl.start (Pl.planEnv g s' room ag)) := by
            show _ = _
            unfold Pl.start Pl.srcsK
            rw [show (Pl.planEnv g s' room ag).g = g from rfl, LN.out]
          rw [HSTA.out] at HBEG
          have HO := Lib.hid (Pl.ordOk (Pl.env_ok HS.out HRM.out ag))
          have HSM0 : Hid (Pl.Small lB (Pl.start (Pl.planEnv g s' room ag))) := by
            have h := Pl.small_start (E := (Pl.planEnv g s' room ag)) (by show g.length ≤ 32; rw [LN.out]; exact hl2)
            rw [show (Pl.planEnv g s' room ag).g = g from rfl, LN.out] at h
            exact h
          clear hO8 hb8 hBEG hfr t0 t1 t2 t3 t4 t5 t6 t7 t8 t9 hMlt
          go_wp2_with fail
          --Q5
          have HLOE := Lib.hid KE.out.o.length
          generalize ((w8.setCell ⟨wb.heap.size, 8, none⟩ (.slice aV lV cV)).setCell ⟨wb.heap.size, 5, none⟩ (.bool ag)) = wS at *
          go_loopg [94] lO (fun gg i wx => ∃ (q : Nat) (st3 : Pl.St) (at0 : Int), q ≤ lO ∧ lO - q ≤ gg ∧ i = .int .i64 q ∧ Hid (MkS wb wb.heap.size a lB cap aC lB aB cB aO lO cO room ag at0 st3 wx) ∧ Hid (Keep wb.heap.size wS wx) ∧ Hid (Pl.places (Pl.planEnv g s' room ag) (lO - q) q st3 = Pl.tryF (Pl.planEnv g s' room ag)) ∧ Hid (Pl.Small lB st3))
          case atStart => exact ⟨0, _, 0, Nat.zero_le _, by omega, rfl, HBEG, Keep.refl _ _, by show _ = _; unfold Pl.tryF; rw [show (Pl.planEnv g s' room ag).order = Od.ordOf g from rfl, HLOE.out]; rfl, HSM0⟩
          case round =>
            rename World => wx
            obtain ⟨q, st3, at0, hq, hgq, rfl, HM3, HK3, HP3', HS3⟩ := hrel
            by_cases hltq : q < lO
            · have dql : decide ((q : Int) < (lO : Int)) = true := decide_eq_true (by omega)
              have x6 := HM3.out.c6
              have f6 := HM3.out.fr 6 (by decide)
              obtain ⟨hM4, hK4⟩ := HM3.out.at (q : Int)
              have HM4 := Lib.hid hM4
              have HK4 := Lib.hid (HK3.out.trans hK4)
              have hPS : Pl.places (Pl.planEnv g s' room ag) (lO - q) q st3 = if (Pl.place (Pl.planEnv g s' room ag) q st3).2 = false then ((Pl.place (Pl.planEnv g s' room ag) q st3).1, false) else Pl.places (Pl.planEnv g s' room ag) (lO - (q + 1)) (q + 1) (Pl.place (Pl.planEnv g s' room ag) q st3).1 := by
                rw [show lO - q = (lO - (q + 1)) + 1 by omega]; rfl
              rw [HP3'.out] at hPS
              have HPS := Lib.hid hPS
              have hql : q < (Pl.planEnv g s' room ag).order.length := by show q < (Od.ordOf g).length; rw [HLOE.out]; exact hltq
              have hle : (Pl.place (Pl.planEnv g s' room ag) q st3).1.l.length ≤ 100000 := by
                have h2 := HTL.out ag
                rw [hPS] at h2
                split at h2
                · exact Nat.le_trans h2 (by decide)
                · exact Nat.le_trans (Nat.le_trans (Pl.grew_places HO.out (lO - (q + 1)) (q + 1) (Pl.place (Pl.planEnv g s' room ag) q st3).1 (by show q + 1 + (lO - (q + 1)) ≤ (Od.ordOf g).length; rw [HLOE.out]; omega)).2 h2) (by decide)
              have HS4 : Hid (Pl.Small lB (Pl.place (Pl.planEnv g s' room ag) q st3).1) := by
                have h := (Pl.grew_place HO.out q hql st3).1
                rw [show (Pl.planEnv g s' room ag).g = g from rfl, LN.out] at h
                exact h HS3.out
              have HPL := Lib.hid (place_any (again := ag) (M := wb.heap.size) KE.out q hltq HM4.out HS3.out hle)
              clear hM4 hK4 hPS hql hle
              generalize Pl.place (Pl.planEnv g s' room ag) q st3 = R at *
              go_wp2_with fail
              --Q6
              refine HPL.out.mono ?_
              rintro e w11 ⟨rfl, hM5, hK5⟩
              have HM5 := Lib.hid hM5
              have HK5 := Lib.hid (HK4.out.trans hK5)
              clear hM5 hK5 x6 f6
              cases hpl : R.2 with
              | false =>
                have hTF : Pl.tryF (Pl.planEnv g s' room ag) = (R.1, false) := by rw [HPS.out, if_pos hpl]
                have HB' : Hid (Below wb.heap.size wb w11) := HM5.out.bel
                have HM' : Hid (∀ o, o < 10 → (∃ u, w11.cell? ⟨wb.heap.size, o, none⟩ = some u) ∧ w11.frozen? ⟨wb.heap.size, o, none⟩ = false) := HM5.out.cells
                have HT' : Hid (w11.heap[wb.heap.size + 1]? = some (.cells #[.bool true, .bool false] 4 (0, 0))) := ((HK5.out.held _ HHT.out).2).trans HTS8.out
                have HF1' : Hid (1 ≤ k2 + 1 → (Pl.tryF (Pl.planEnv g s' room true)).2 = false) := fun _ => by
                  by_cases c : k2 = 0
                  · have hag := HAG.out
                    rw [decide_eq_true c] at hag
                    rw [hag] at hTF
                    rw [hTF]
                  · exact HF1.out (by omega)
                have HF2' : Hid (k2 + 1 = 2 → ∃ at0 : Int, MkS wb wb.heap.size a lB cap aC lB aB cB aO lO cO room false at0 (Pl.tryF (Pl.planEnv g s' room false)).1 w11) := fun h => by
                  have hag := HAG.out
                  rw [decide_eq_false (show ¬ k2 = 0 by omega)] at hag
                  have h5 := HM5.out
                  rw [hag] at hTF h5
                  rw [hTF]
                  exact ⟨_, h5⟩
                clear hpl hTF
                go_wp2
                go_roundg (2 - (k2 + 1))
                case measure => omega
                case rel => exact ⟨k2 + 1, by omega, Nat.le_refl _, by go_num, HB', HM', HT', HF1', HF2'⟩
              | true =>
                have HP' : Hid (Pl.places (Pl.planEnv g s' room ag) (lO - (q + 1)) (q + 1) R.1 = Pl.tryF (Pl.planEnv g s' room ag)) := by
                  show _ = _
                  rw [HPS.out, if_neg (by rw [hpl]; simp)]
                clear hpl
                go_wp2
                go_roundg (lO - (q + 1))
                case measure => exact Nat.lt_of_lt_of_le (Nat.sub_lt_sub_left hltq (Nat.lt_succ_self q)) hgq
                case rel => exact ⟨q + 1, _, _, Nat.succ_le_of_lt hltq, Nat.le_refl _, by go_num, HM5, HK5, HP', HS4⟩
            · have dql : decide ((q : Int) < (lO : Int)) = false := decide_eq_false (by omega)
              obtain rfl : q = lO := by omega
              have hst : Pl.tryF (Pl.planEnv g s' room ag) = (st3, true) := by rw [← HP3'.out, Nat.sub_self]; rfl
              have HPS : Hid (Pl.planSt g s' room = st3) := by
                show _ = _
                unfold Pl.planSt
                have hag := HAG.out
                by_cases c : k2 = 0
                · rw [hag, decide_eq_true c] at hst
                  rw [if_pos (by rw [hst]), hst]
                · rw [hag, decide_eq_false c] at hst
                  rw [if_neg (by rw [HF1.out (by omega)]; simp), hst]
              have hst1 : (Pl.tryF (Pl.planEnv g s' room ag)).1 = st3 := by rw [hst]
              have HST1 := Lib.hid hst1
              clear hst hst1
              obtain ⟨vi, vd, vl, o1, o2, o3, o4, o5, o6, o7, o8⟩ := HM3.out.own
              obtain ⟨aF, lF, cF, rfl, hF, hFn⟩ := o6.steps
              have hlF : lF ≤ 2300 := by rw [← hF.length, ← HST1.out]; exact HTL.out ag
              have HFI : Hid (StepsIn wx aF lF lF (Pl.planSt g s' room).l) := by
                rw [HPS.out]; exact ⟨Nat.le_refl _, by omega, hF.length, hF.at_⟩
              have hFle := hF.le
              have hFcl := hF.cap_le
              have x9 := o3
              have HEB : Hid (Below w.heap.size w wx) := (K2.out.bel.trans (HB.out.bel.mono K2.out.bel.size)).trans (HM3.out.bel.mono (Nat.le_trans K2.out.bel.size HB.out.bel.size))
              have d9 : decide ((lF : Int) > 4096) = false := decide_eq_false (by omega)
              clear o1 o2 o3 o4 o5 o6 o7 o8 hF
              go_wp2_with fail
              refine (clipL_any _ _ _ _ hFle hFcl hFn).mono ?_
              rintro e w20 ⟨rfl, rfl⟩
              clear hFn
              go_wp2
              (try rw [Exit.noGoto_ret])
              go_ret2
              exact ⟨HEB.out, .inr ⟨s', HS.out, HRM.out, .inr ⟨HP3.out, _, _, rfl, HFI.out⟩⟩⟩
        · have d2l : decide ((k2 : Int) < 2) = false := decide_eq_false (by omega)
          obtain rfl : k2 = 2 := by omega
          obtain ⟨at0, hst⟩ := HF2.out rfl
          have HSt := Lib.hid hst
          have HPS : Hid (Pl.planSt g s' room = (Pl.tryF (Pl.planEnv g s' room false)).1) := by
            show _ = _; unfold Pl.planSt; exact if_neg (by rw [HF1.out (by omega)]; simp)
          clear hst
          obtain ⟨vi, vd, vl, o1, o2, o3, o4, o5, o6, o7, o8⟩ := HSt.out.own
          obtain ⟨aF, lF, cF, rfl, hF, hFn⟩ := o6.steps
          have hlF : lF ≤ 2300 := by rw [← hF.length]; exact HTL.out false
          have HFI : Hid (StepsIn wv aF lF lF (Pl.planSt g s' room).l) := by
            rw [HPS.out]; exact ⟨Nat.le_refl _, by omega, hF.length, hF.at_⟩
          have hFle := hF.le
          have hFcl := hF.cap_le
          have x9 := o3
          have HEB : Hid (Below w.heap.size w wv) := (K2.out.bel.trans (HB.out.bel.mono K2.out.bel.size)).trans (HSt.out.bel.mono (Nat.le_trans K2.out.bel.size HB.out.bel.size))
          have d9 : decide ((lF : Int) > 4096) = false := decide_eq_false (by omega)
          clear o1 o2 o3 o4 o5 o6 o7 o8 hF
          go_wp2_with fail
          refine (clipL_any _ _ _ _ hFle hFcl hFn).mono ?_
          rintro e w20 ⟨rfl, rfl⟩
          clear hFn
          go_wp2
          (try rw [Exit.noGoto_ret])
          go_ret2
          exact ⟨HEB.out, .inr ⟨s', HS.out, HRM.out, .inr ⟨HP3.out, _, _, rfl, HFI.out⟩⟩⟩
end Go.Proofs.Ytgmagldbfajedaa
