import Derived.Deep.OwnRows
import Derived.Handy
import Derived.Laws.Bits64b
import Derived.Laws.IdiomCopy
import Derived.Deep.RegionLaw
import Derived.Test.YtekejcnphmnidaaGreatDoorZBkA
import Derived.Test.YtekejcnphmnidaaGreatDoorZBg
import Derived.Test.YtekejcnphmnidaaGreatDoorZBh
import Derived.Test.YtekejcnphmnidaaGreatDoorZBb
namespace Go.Proofs.YtekejcnphmnidaaGreatDoor
namespace Od
open Gr
def okB (n : Nat) (l : List Int) : Bool := (List.range l.length).all fun i => decide (0 ≤ nth l i) && decide (nth l i < n) && !hasB (l.take i) (nth l i)
theorem okB_hit {n : Nat} {l : List Int} {i : Nat} (hi : i < l.length) (h : ¬ (0 ≤ nth l i ∧ nth l i < n ∧ hasB (l.take i) (nth l i) = false)) : okB n l = false := by
  unfold okB
  rw [List.all_eq_false]
  refine ⟨i, List.mem_range.2 hi, fun hc => h ?_⟩
  simp only [Bool.and_eq_true, decide_eq_true_eq, Bool.not_eq_true'] at hc
  exact ⟨hc.1.1, hc.1.2, hc.2⟩
theorem okB_all {n : Nat} {l : List Int} (h : ∀ i, i < l.length → 0 ≤ nth l i ∧ nth l i < n ∧ hasB (l.take i) (nth l i) = false) : okB n l = true := by
  unfold okB
  rw [List.all_eq_true]
  intro i hi
  obtain ⟨h1, h2, h3⟩ := h i (List.mem_range.1 hi)
  simp [h1, h2, h3]
theorem okB_at {n : Nat} {l : List Int} (h : okB n l = true) {i : Nat} (hi : i < l.length) : 0 ≤ nth l i ∧ nth l i < n ∧ hasB (l.take i) (nth l i) = false := by
  unfold okB at h
  rw [List.all_eq_true] at h
  have := h i (List.mem_range.2 hi)
  simp only [Bool.and_eq_true, decide_eq_true_eq, Bool.not_eq_true'] at this
  exact ⟨this.1.1, this.1.2, this.2⟩
def mayB (g : List Gr.Node) (l : List Int) : Bool := (shapes g).isSome && okB g.length l
def bump1 (o : List Int) (k : Int) : List Int := o.set k.toNat (nth o k.toNat + 1)
def usesN (g : List Gr.Node) (o : List Int) (n : Int) : List Int := (nodeN g n.toNat).inn.foldl bump1 o
def uses (g : List Gr.Node) (l : List Int) : List Int := l.foldl (usesN g) (List.replicate g.length 0)
def put1 (i : Int) (o : List Int) (k : Int) : List Int := o.set k.toNat i
def nextN (g : List Gr.Node) (l : List Int) (o : List Int) (i : Nat) : List Int := (nodeN g (nth l i).toNat).inn.foldl (put1 i) o
theorem bump1_length (o : List Int) (k : Int) : (bump1 o k).length = o.length := by unfold bump1; simp
theorem foldl_len {α : Type} {f : List Int → α → List Int} (h : ∀ o k, (f o k).length = o.length) : ∀ (l : List α) (o : List Int), (l.foldl f o).length = o.length
  | [], o => rfl
  | x :: r, o => by rw [List.foldl_cons, foldl_len h r, h]
theorem usesN_length (g : List Gr.Node) (o : List Int) (n : Int) : (usesN g o n).length = o.length := foldl_len bump1_length _ _
theorem foldl_take_snoc {f : List Int → Int → List Int} (o : List Int) (l : List Int) (k : Nat) (hk : k < l.length) : (l.take (k + 1)).foldl f o = f ((l.take k).foldl f o) (nth l k) := by
  rw [take_snoc l k hk, List.foldl_append]; rfl
theorem uses_length (g : List Gr.Node) (l : List Int) : (uses g l).length = g.length := by unfold uses; rw [foldl_len (usesN_length g)]; simp
theorem bump1_bounds {M : Int} {o : List Int} {k : Int} (h0 : 0 ≤ k) (hk : k < o.length) (h : ∀ v ∈ o, 0 ≤ v ∧ v ≤ M) : ∀ v ∈ bump1 o k, 0 ≤ v ∧ v ≤ M + 1 := by
  intro v hv
  unfold bump1 at hv
  have h1 := h _ (nth_mem o k.toNat (by omega))
  rcases List.mem_or_eq_of_mem_set hv with h2 | h2
  · have := h v h2; omega
  · omega
theorem may_parts {g : List Gr.Node} {l : List Int} (h : mayB g l = true) : 1 ≤ g.length ∧ g.length ≤ 32 ∧ ∀ i, i < l.length → 0 ≤ nth l i ∧ nth l i < g.length := by
  unfold mayB at h
  rw [Bool.and_eq_true] at h
  obtain ⟨s, hs⟩ := Option.isSome_iff_exists.1 h.1
  have h1 := (shapes_iff.1 hs).1
  exact ⟨h1.1, h1.2, fun i hi => by have := okB_at h.2 hi; exact ⟨this.1, this.2.1⟩⟩
theorem may_inn {g : List Gr.Node} {l : List Int} (h : mayB g l = true) {n : Nat} (hn : n < g.length) : (nodeN g n).inn.length ≤ 4 ∧ ∀ v ∈ (nodeN g n).inn, 0 ≤ v ∧ v < n := by
  unfold mayB at h
  rw [Bool.and_eq_true] at h
  obtain ⟨s, hs⟩ := Option.isSome_iff_exists.1 h.1
  obtain ⟨k, h1, h2, h3, _⟩ := run_node (shapes_iff.1 hs).2.1 n hn
  have h4 := (ofB_parts h2).2.1
  obtain ⟨i, hi⟩ := kind_ins h1
  have h5 := (show ∀ p ∈ insL, p.2.2.most ≤ 4 by decide) _ hi
  simp only at h5
  refine ⟨by omega, fun v hv => ?_⟩
  unfold okIn at h3
  have := List.all_eq_true.1 h3 v hv
  simpa using this
end Od
end Go.Proofs.YtekejcnphmnidaaGreatDoor
namespace Go.Proofs.YtekejcnphmnidaaGreatDoor
open Go.RowKit
set_option maxHeartbeats 2000000 in
set_option maxRecDepth 100000 in
theorem may_any (a : Option Addr) (len cap : Nat) (g : List Gr.Node) (ao : Option Addr) (lo co : Nat) (l : List Int) (w : World) (HN : Nodes w a len cap g) (HO : Ints w ao lo co l) :
    Calls Tryz.prog 133 #[.agg #[.slice a len cap], .slice ao lo co] w fun e w' => e = .returned (.bool (Od.mayB g l)) ∧ Below w.heap.size w w' := by
  have KO := Lib.hid HO
  have LO := Lib.hid HO.length
  have LN := Lib.hid HN.length
  have ho1 := HO.le
  have ho2 := HO.cap_le
  have K0 := Lib.hid (GSt.start HN)
  clear HO
  go_enter Tryz.func133, Tryz.ntmps133
  go_wp2_with fail
  refine (gcheck_any _ _ _ g _ K0.out.n).mono ?_
  rintro e w1 ⟨rfl, hb⟩
  have K1 := Lib.hid (K0.out.on hb)
  have c1 := K1.out.cell
  clear hb K0
  cases hs : (Gr.shapes g).isSome with
  | false =>
    have HR : Hid (Od.mayB g l = false) := by show _ = _; unfold Od.mayB; rw [hs]; rfl
    clear hs
    go_wp2
    go_ret
    exact ⟨by rw [HR.out]; rfl, K1.out.bel⟩
  | true =>
    have HM : Hid (Od.mayB g l = Od.okB len l) := by show _ = _; unfold Od.mayB; rw [hs, LN.out]; rfl
    clear hs
    go_wp2
    go_loopg [12] lo (fun gg i wr => ∃ k : Nat, k ≤ lo ∧ lo - k ≤ gg ∧ i = .int .i64 k ∧ Hid (∀ i, i < k → 0 ≤ nth l i ∧ nth l i < len ∧ hasB (l.take i) (nth l i) = false) ∧ Hid (wr = w1))
    case atStart => exact ⟨0, Nat.zero_le _, by omega, rfl, fun i hi => absurd hi (Nat.not_lt_zero _), rfl⟩
    case round =>
      obtain ⟨k, hk, hg, rfl, HT, HWr⟩ := hrel
      obtain rfl := HWr.out
      by_cases hlt : k < lo
      · have hkl : k < l.length := by rw [LO.out]; exact hlt
        obtain ⟨bo, oo, rfl, _, hco⟩ := (KO.out.below K1.out.bel).at_ (by omega)
        have hck := hco k hlt
        have KTk := Lib.hid ((KO.out.below K1.out.bel).take k (by omega))
        clear hco
        by_cases p1 : nth l k < 0
        · have d1 : decide (nth l k < 0) = true := decide_eq_true p1
          have HR := Lib.hid (HM.out.trans (Od.okB_hit hkl (fun h => by omega)))
          clear p1
          go_wp2
          go_ret
          exact ⟨by rw [HR.out]; rfl, K1.out.bel⟩
        · have d1 : decide (nth l k < 0) = false := decide_eq_false p1
          by_cases p2 : (len : Int) ≤ nth l k
          · have d2 : decide (nth l k ≥ (len : Int)) = true := decide_eq_true p2
            have HR := Lib.hid (HM.out.trans (Od.okB_hit hkl (fun h => by omega)))
            clear p1 p2
            go_wp2
            go_ret
            exact ⟨by rw [HR.out]; rfl, K1.out.bel⟩
          · have d2 : decide (nth l k ≥ (len : Int)) = false := decide_eq_false p2
            cases hh : hasB (l.take k) (nth l k) with
            | true =>
              have HR := Lib.hid (HM.out.trans (Od.okB_hit hkl (fun h => by rw [hh] at h; cases h.2.2)))
              have HH := Lib.hid hh
              clear p1 p2 hh
              go_wp2_with fail
              refine (contains_any _ _ _ (l.take k) _ _ KTk.out).mono ?_
              rintro e w2 ⟨rfl, rfl⟩
              rw [HH.out]
              go_wp2
              go_ret
              exact ⟨by rw [HR.out]; rfl, K1.out.bel⟩
            | false =>
              have HT2 : Hid (∀ i, i < k + 1 → 0 ≤ nth l i ∧ nth l i < len ∧ hasB (l.take i) (nth l i) = false) := fun i hi => by
                rcases Nat.lt_succ_iff_lt_or_eq.1 hi with h | h
                · exact HT.out i h
                · subst h; exact ⟨by omega, by omega, hh⟩
              have HH := Lib.hid hh
              clear p1 p2 hh
              go_wp2_with fail
              refine (contains_any _ _ _ (l.take k) _ _ KTk.out).mono ?_
              rintro e w2 ⟨rfl, rfl⟩
              rw [HH.out]
              go_wp2
              go_roundg (lo - (k + 1))
              case measure => exact Nat.lt_of_lt_of_le (Nat.sub_lt_sub_left hlt (Nat.lt_succ_self k)) hg
              case rel => exact ⟨k + 1, Nat.succ_le_of_lt hlt, Nat.le_refl _, by go_num, HT2, rfl⟩
      · have HR := Lib.hid (HM.out.trans (Od.okB_all (n := len) (l := l) (fun i hi => HT.out i (by rw [LO.out] at hi; omega))))
        go_wp2
        go_ret
        exact ⟨by rw [HR.out]; rfl, K1.out.bel⟩
def ListE (w : World) (r : Option (List Int)) (e : Ending) (w' : World) : Prop :=
  Below w.heap.size w w' ∧ ((r = none ∧ e = .returned (.tuple #[.slice none 0 0, .int .i64 1])) ∨ ∃ l a len cap, r = some l ∧ e = .returned (.tuple #[.slice a len cap, .int .i64 0]) ∧ Ints w' a len cap l)
def ListN (w : World) (r : Option (List Int)) (e : Ending) (w' : World) : Prop :=
  Below w.heap.size w w' ∧ ((r = none ∧ e = .returned (.tuple #[.slice none 0 0, .int .i64 1])) ∨ ∃ l a len cap, r = some l ∧ e = .returned (.tuple #[.slice a len cap, .int .i64 0]) ∧ Ints w' a len cap l ∧ ∀ p, a = some p → w.heap.size ≤ p.block)
def ListR (w : World) (r : Option (List Int)) (e : Ending) (w' : World) : Prop :=
  Below w.heap.size w w' ∧ ((r = none ∧ e = .returned (.tuple #[.slice none 0 0, .int .i64 1])) ∨ ∃ l a len, r = some l ∧ e = .returned (.tuple #[.slice a len len, .int .i64 0]) ∧ Ints w' a len len l ∧ RowV 1 w' (.slice a len len) len (l.map (Value.int .i64)) ∧ ∀ p, a = some p → w.heap.size ≤ p.block)
theorem ListR.newL {w w' : World} {r : Option (List Int)} {e : Ending} (h : ListR w r e w') : ListN w r e w' :=
  ⟨h.1, h.2.imp_right fun ⟨l, a, len, h1, h2, h3, _, h5⟩ => ⟨l, a, len, len, h1, h2, h3, h5⟩⟩
theorem Mine.rowV {base : Nat} {w : World} {G n : Nat} {l : List Int} (h : Mine base w G 0 n l) (hn : l.length = n) : RowV 1 w (.slice (some ⟨G, 0, none⟩) n n) n (l.map (Value.int .i64)) := by
  subst hn
  refine .inr ⟨G, 0, l.length, rfl, h.lt, Nat.le_refl _, h.cap_le, by simp, fun j u hj => ?_, fun j hj => ⟨by rw [h.cell j (by omega)]; rfl, h.fr j (by omega)⟩⟩
  have hl : j < l.length := by have := (List.getElem?_eq_some_iff.1 hj).1; simpa using this
  rw [List.getElem?_map, List.getElem?_eq_getElem hl] at hj
  cases hj
  rw [h.cell j hl, nth_eq l j hl]
theorem RowV.clip {c : Nat} {w : World} {a : Option Addr} {len cap n : Nat} {xs : List Value} (h : RowV c w (.slice a len cap) n xs) : len = n ∧ RowV c w (.slice a n n) n xs := by
  rcases h with ⟨h1, rfl, rfl⟩ | ⟨g, off, cap', h1, h2⟩
  · cases h1; exact ⟨rfl, .inl ⟨rfl, rfl, rfl⟩⟩
  · cases h1
    refine ⟨rfl, .inr ⟨g, off, _, rfl, h2.lt, Nat.le_refl _, by have := h2.le; have := h2.cap_le; omega, h2.len, h2.cell, fun j hj => h2.all j (Nat.lt_of_lt_of_le hj (Nat.mul_le_mul_right c h2.le))⟩⟩
def Od.usesO (g : List Gr.Node) (l : List Int) : Option (List Int) := if Od.mayB g l = true then some (Od.uses g l) else none
theorem made_mine (w : World) (n : Nat) (hn : n ≤ 1000000) : Mine w.heap.size (w.alloc (.cells (madeCells #[.int .i64 0] n) 3)) w.heap.size 0 n (List.replicate n 0) := by
  refine ⟨Nat.le_refl _, by simp, by simp, by omega, fun i hi => ?_, fun i _ => World.frozen?_alloc_at _ _ _ _ rfl⟩
  rw [List.length_replicate] at hi
  rw [World.cell?_alloc_at _ _ _ _ rfl, Nat.zero_add, nth_eq _ _ (by simpa using hi)]
  simp [madeCells, hi, Nat.mod_one]
set_option maxHeartbeats 4000000 in
set_option maxRecDepth 100000 in
theorem uses_row (a : Option Addr) (len cap : Nat) (g : List Gr.Node) (ao : Option Addr) (lo co : Nat) (l : List Int) (w : World) (HN : Nodes w a len cap g) (HO : Ints w ao lo co l) (hlo : lo ≤ 17592186044416) :
    Calls Tryz.prog 46 #[.agg #[.slice a len cap], .slice ao lo co] w fun e w' => ListR w (Od.usesO g l) e w' := by
  obtain ⟨i0, hi0, hz0, hz1, hz2⟩ := info_parts Tryz.info3
  have KO := Lib.hid HO
  have LO := Lib.hid HO.length
  have LN := Lib.hid HN.length
  have ho1 := HO.le
  have ho2 := HO.cap_le
  have K0 := Lib.hid (GSt.start HN)
  clear HO HN
  go_enter Tryz.func46, Tryz.ntmps46
  go_wp2_with fail
  refine (may_any _ _ _ g _ _ _ l _ K0.out.n (KO.out.below ((Below.refl _ _).alloc (Nat.le_refl _) _))).mono ?_
  rintro e w1 ⟨rfl, hb⟩
  have K1 := Lib.hid (K0.out.on hb)
  have c1 := K1.out.cell
  clear hb K0
  by_cases hm : Od.mayB g l = true
  case neg =>
    have HR : Hid ((Od.usesO g l) = none) := if_neg hm
    have hm2 : Od.mayB g l = false := by simpa using hm
    have HM2 := Lib.hid hm2
    rw [HM2.out]
    clear hm hm2
    go_wp2
    go_ret2
    exact ⟨K1.out.bel, .inl ⟨HR.out, rfl⟩⟩
  case pos =>
    have HMT : Hid ((Od.usesO g l) = some (Od.uses g l)) := if_pos hm
    rw [hm]
    obtain ⟨hl1, hl2, hor⟩ := Od.may_parts hm
    rw [LN.out] at hl1 hl2
    have HOR : Hid (∀ i, i < lo → 0 ≤ nth l i ∧ nth l i < (len : Int)) := fun i hi => by have := hor i (by rw [LO.out]; exact hi); rw [LN.out] at this; exact this
    have HIN : Hid (∀ n, n < len → (nodeN g n).inn.length ≤ 4 ∧ ∀ v ∈ (nodeN g n).inn, 0 ≤ v ∧ v < n) := fun n hn => Od.may_inn hm (by rw [LN.out]; exact hn)
    have hM := made_mine w1 len (by omega)
    have HM0 := Lib.hid hM
    have HB0 : Hid (Below w1.heap.size w1 (w1.alloc (.cells (madeCells #[.int .i64 0] len) 3))) := (Below.refl _ _).alloc (Nat.le_refl _) _
    clear hm hor hM
    go_wp2_with (refine wpList_make_row _ rfl _ _ 22 rfl 3 i0 (.int .i64 0) Tryz.underlying22 hi0 hz0 hz1 rfl .i64 .i64 len rfl rfl (by rw [hz2]; omega) (by omega) ?_)
    generalize w1.alloc (.cells (madeCells #[.int .i64 0] len) 3) = w2 at *
    go_loopg [21] lo (fun gg i wr => ∃ (k : Nat) (o : List Int), k ≤ lo ∧ lo - k ≤ gg ∧ i = .int .i64 k ∧ Hid (o = (l.take k).foldl (Od.usesN g) (List.replicate g.length 0)) ∧ Hid (o.length = len) ∧ Hid (∀ v ∈ o, 0 ≤ v ∧ v ≤ 4 * (k : Int)) ∧
      Hid (Mine w1.heap.size wr w1.heap.size 0 len o) ∧ Hid (Below w1.heap.size w1 wr))
    case atStart => exact ⟨0, List.replicate len 0, Nat.zero_le _, by omega, rfl, by show _ = _; rw [LN.out]; rfl, by show _ = _; simp, fun v hv => by have := List.eq_of_mem_replicate hv; omega, HM0, HB0⟩
    case round =>
      obtain ⟨k, o, hk, hg, rfl, HOE, HOL, HOB, HMr, HBr⟩ := hrel
      have Kr := Lib.hid (K1.out.on HBr.out)
      have cr := Kr.out.cell
      by_cases hlt : k < lo
      · obtain ⟨bo, oo, rfl, _, hco⟩ := (KO.out.below Kr.out.bel).at_ (by omega)
        have hck := hco k hlt
        obtain ⟨hn0, hn1⟩ := HOR.out k hlt
        have HSN : Hid (Od.usesN g o (nth l k) = (l.take (k + 1)).foldl (Od.usesN g) (List.replicate g.length 0)) := by
          show _ = _
          rw [Od.foldl_take_snoc _ _ _ (by rw [LO.out]; exact hlt), ← HOE.out]
        clear hco
        generalize nth l k = n at *
        obtain ⟨m, rfl⟩ : ∃ m : Nat, n = (m : Int) := ⟨n.toNat, by omega⟩
        have hm : m < len := by omega
        obtain ⟨b, off, eA, hbl, hcs⟩ := K1.out.n.at_ (by omega)
        obtain ⟨ai, li, ci, sa, ls, cs, _, h1, _, _, _, hV⟩ := hcs m hm
        subst eA
        have n1 := (HBr.out.cell (p := ⟨b, off + m * 5 + 1, none⟩) hbl).trans h1
        have HV := Lib.hid hV.i
        have HVL := Lib.hid hV.i.length
        have HIM := Lib.hid (HIN.out m hm)
        have hli : li ≤ 4 := by have := HIM.out.1; rw [HVL.out] at this; exact this
        have hvc := hV.i.le
        have hvc2 := hV.i.cap_le
        have HUN : Hid (Od.usesN g o (m : Int) = (nodeN g m).inn.foldl Od.bump1 o) := rfl
        clear hV h1 hcs
        generalize (nodeN g m).inn = inn at *
        go_wp2
        go_loopg [32] li (fun gg i wv => ∃ (j : Nat) (q : List Int), j ≤ li ∧ li - j ≤ gg ∧ i = .int .i64 j ∧ Hid (q = (inn.take j).foldl Od.bump1 o) ∧ Hid (q.length = len) ∧ Hid (∀ v ∈ q, 0 ≤ v ∧ v ≤ 4 * (k : Int) + j) ∧
          Hid (Mine w1.heap.size wv w1.heap.size 0 len q) ∧ Hid (Below w1.heap.size w1 wv))
        case atStart => exact ⟨0, o, Nat.zero_le _, by omega, rfl, rfl, HOL, fun v hv => by have := HOB.out v hv; omega, HMr, HBr⟩
        case round =>
          rename World => wx
          obtain ⟨j, q, hj, hgj, rfl, HQE, HQL, HQB, HMx, HBx⟩ := hrel
          by_cases hltj : j < li
          · obtain ⟨bi, oi, rfl, hbi, hci⟩ := (HV.out.below HBx.out).at_ (by omega)
            have hcj := hci j hltj
            obtain ⟨hv0, hv1⟩ := HIM.out.2 (nth inn j) (nth_mem inn j (by rw [HVL.out]; exact hltj))
            have HSQ : Hid (Od.bump1 q (nth inn j) = (inn.take (j + 1)).foldl Od.bump1 o) := by
              show _ = _
              rw [Od.foldl_take_snoc _ _ _ (by rw [HVL.out]; exact hltj), ← HQE.out]
            clear hci
            generalize nth inn j = n at *
            obtain ⟨p, rfl⟩ : ∃ p : Nat, n = (p : Int) := ⟨n.toNat, by omega⟩
            have hp : p < len := by omega
            have hpq : p < q.length := by rw [HQL.out]; exact hp
            obtain ⟨hb0, hb1⟩ := HQB.out (nth q p) (nth_mem q p hpq)
            have hmc := HMx.out.cell p hpq
            have hmf := HMx.out.fr p hpq
            rw [Nat.zero_add] at hmc hmf
            have hM2 := HMx.out.set p hpq (nth q p + 1)
            rw [show q.set p (nth q p + 1) = Od.bump1 q (p : Int) from rfl, Nat.zero_add] at hM2
            have HM2 := Lib.hid hM2
            have HB2 := Lib.hid (below_setCell HBx.out w1.heap.size p (.int .i64 (nth q p + 1)) (Nat.le_refl _))
            have HQ2 : Hid (∀ v ∈ Od.bump1 q (p : Int), 0 ≤ v ∧ v ≤ 4 * (k : Int) + (j + 1 : Nat)) := fun v hv => by have := Od.bump1_bounds (by omega) (by omega) HQB.out v hv; omega
            have HL2 : Hid ((Od.bump1 q (p : Int)).length = len) := by show _ = _; rw [Od.bump1_length]; exact HQL.out
            clear hM2
            generalize nth q p = qp at *
            go_wp2
            go_roundg (li - (j + 1))
            case measure => exact Nat.lt_of_lt_of_le (Nat.sub_lt_sub_left hltj (Nat.lt_succ_self j)) hgj
            case rel => exact ⟨j + 1, Od.bump1 q (p : Int), Nat.succ_le_of_lt hltj, Nat.le_refl _, by go_num, HSQ, HL2, HQ2, HM2, HB2⟩
          · have hje : inn.take j = inn := List.take_of_length_le (by rw [HVL.out]; omega)
            rw [hje, ← HUN.out, HSN.out] at HQE
            have hjl : j ≤ 4 := by omega
            go_wp2
            go_roundg (lo - (k + 1))
            case measure => exact Nat.lt_of_lt_of_le (Nat.sub_lt_sub_left hlt (Nat.lt_succ_self k)) hg
            case rel => exact ⟨k + 1, q, Nat.succ_le_of_lt hlt, Nat.le_refl _, by go_num, HQE, HQL, fun v hv => by have := HQB.out v hv; omega, HMx, HBx⟩
      · rw [List.take_of_length_le (by rw [LO.out]; omega)] at HOE
        have hI := HMr.out.ints (fun v hv => by have := HOB.out v hv; omega)
        rw [HOL.out] at hI
        have HI := Lib.hid hI
        have HV := Lib.hid (HMr.out.rowV HOL.out)
        have HZ1 := Lib.hid K1.out.bel.size
        clear hI
        go_wp2
        go_ret2
        exact ⟨Kr.out.bel, .inr ⟨o, _, _, by rw [HMT.out, HOE.out]; rfl, rfl, HI.out, HV.out, fun p hp => by cases hp; exact HZ1.out⟩⟩
end Go.Proofs.YtekejcnphmnidaaGreatDoor
namespace Go.Proofs.YtekejcnphmnidaaGreatDoor
namespace Od
open Gr
def sumL : List Int → Int
  | [] => 0
  | x :: r => x + sumL r
def zeros : List Int → Nat
  | [] => 0
  | x :: r => (if x = 0 then 1 else 0) + zeros r
def pot (o : List Int) : Int := sumL o + 4 * (zeros o : Int)
theorem sumL_set : ∀ (o : List Int) (i : Nat) (v : Int), i < o.length → sumL (o.set i v) = sumL o - nth o i + v
  | [], i, v, h => by simp at h
  | x :: r, 0, v, h => by simp [sumL, nth]; omega
  | x :: r, i + 1, v, h => by
    have ih := sumL_set r i v (by simpa using h)
    simp only [List.set_cons_succ, sumL, ih]
    have : nth (x :: r) (i + 1) = nth r i := by unfold nth; simp
    rw [this]; omega
theorem zeros_set : ∀ (o : List Int) (i : Nat) (v : Int), i < o.length → zeros (o.set i v) + (if nth o i = 0 then 1 else 0) = zeros o + (if v = 0 then 1 else 0)
  | [], i, v, h => by simp at h
  | x :: r, 0, v, h => by
    have : nth (x :: r) 0 = x := by unfold nth; simp
    simp only [List.set_cons_zero, zeros, this]; omega
  | x :: r, i + 1, v, h => by
    have ih := zeros_set r i v (by simpa using h)
    have : nth (x :: r) (i + 1) = nth r i := by unfold nth; simp
    simp only [List.set_cons_succ, zeros, this]; omega
theorem nth_le_sum : ∀ (o : List Int), (∀ v ∈ o, 0 ≤ v) → ∀ i, i < o.length → nth o i ≤ sumL o
  | [], _, i, h => by simp at h
  | x :: r, hp, i, h => by
    have hr : 0 ≤ sumL r := by
      have : ∀ r : List Int, (∀ v ∈ r, 0 ≤ v) → 0 ≤ sumL r := fun r => by
        induction r with
        | nil => intro _; exact Int.le_refl 0
        | cons y s ih => intro h; have := ih (fun v hv => h v (by simp [hv])); have := h y (by simp); simp only [sumL]; omega
      exact this r (fun v hv => hp v (by simp [hv]))
    have hx := hp x (by simp)
    cases i with
    | zero => have : nth (x :: r) 0 = x := by unfold nth; simp
              simp only [sumL, this]; omega
    | succ i =>
      have ih := nth_le_sum r (fun v hv => hp v (by simp [hv])) i (by simpa using h)
      have : nth (x :: r) (i + 1) = nth r i := by unfold nth; simp
      simp only [sumL, this]; omega
theorem bump1_nonneg {o : List Int} {n : Nat} (hn : n < o.length) (h : ∀ v ∈ o, 0 ≤ v) : ∀ v ∈ bump1 o (n : Int), 0 ≤ v := by
  intro v hv
  unfold bump1 at hv
  have h1 := h _ (nth_mem o n hn)
  rcases List.mem_or_eq_of_mem_set hv with h2 | h2
  · exact h v h2
  · simp only [Int.toNat_natCast] at h2; omega
theorem bump1_nth {o : List Int} {n : Nat} (hn : n < o.length) : nth (bump1 o (n : Int)) n = nth o n + 1 := by
  unfold bump1
  rw [Int.toNat_natCast, nth_eq _ _ (by simpa using hn)]; simp
theorem bump1_pot {o : List Int} {n : Nat} (hn : n < o.length) (h : ∀ v ∈ o, 0 ≤ v) : pot (bump1 o (n : Int)) = if nth o n = 0 then pot o - 3 else pot o + 1 := by
  have h0 := h _ (nth_mem o n hn)
  have h1 := sumL_set o n (nth o n + 1) hn
  have h2 := zeros_set o n (nth o n + 1) hn
  unfold pot bump1
  rw [Int.toNat_natCast, h1]
  rw [if_neg (show ¬ nth o n + 1 = 0 by omega)] at h2
  split
  · rename_i c; rw [if_pos c] at h2; omega
  · rename_i c; rw [if_neg c] at h2; omega
def needF (g : List Gr.Node) : Nat → Int → List Int → List Int
  | 0, _, o => o
  | f + 1, n, o => if 1 < nth (bump1 o n) n.toNat then bump1 o n else (nodeN g n.toNat).inn.foldl (fun q k => needF g f k q) (bump1 o n)
def InnOk (g : List Gr.Node) (len : Nat) : Prop := ∀ n, n < len → (nodeN g n).inn.length ≤ 4 ∧ ∀ v ∈ (nodeN g n).inn, 0 ≤ v ∧ v < n
theorem needF_facts {g : List Gr.Node} {len : Nat} (hI : InnOk g len) : ∀ (f n : Nat) (o : List Int), n < len → o.length = len → (∀ v ∈ o, 0 ≤ v) →
    (needF g f n o).length = len ∧ (∀ v ∈ needF g f n o, 0 ≤ v) ∧ pot (needF g f n o) ≤ pot o + 1
  | 0, n, o, hn, hl, hp => by
    refine ⟨hl, hp, ?_⟩
    show pot o ≤ pot o + 1
    omega
  | f + 1, n, o, hn, hl, hp => by
    have hno : n < o.length := by omega
    have hb := bump1_pot hno hp
    have hl1 : (bump1 o (n : Int)).length = len := by rw [bump1_length]; exact hl
    have hp1 := bump1_nonneg hno hp
    unfold needF
    rw [Int.toNat_natCast, bump1_nth hno]
    have h0 := hp _ (nth_mem o n hno)
    by_cases c : 1 < nth o n + 1
    · rw [if_pos c]
      refine ⟨hl1, hp1, ?_⟩
      rw [hb, if_neg (by omega)]; omega
    · rw [if_neg c]
      rw [if_pos (by omega)] at hb
      obtain ⟨hi1, hi2⟩ := hI n hn
      have key : ∀ (r : List Int) (q : List Int), (∀ v ∈ r, 0 ≤ v ∧ v < (n : Int)) → q.length = len → (∀ v ∈ q, 0 ≤ v) →
          (r.foldl (fun q k => needF g f k q) q).length = len ∧ (∀ v ∈ r.foldl (fun q k => needF g f k q) q, 0 ≤ v) ∧ pot (r.foldl (fun q k => needF g f k q) q) ≤ pot q + r.length := by
        intro r
        induction r with
        | nil => intro q _ hq1 hq2; exact ⟨hq1, hq2, by simp⟩
        | cons x r ih =>
          intro q hr hq1 hq2
          obtain ⟨hx0, hx1⟩ := hr x (by simp)
          obtain ⟨m, rfl⟩ : ∃ m : Nat, x = (m : Int) := ⟨x.toNat, by omega⟩
          obtain ⟨k1, k2, k3⟩ := needF_facts hI f m q (by omega) hq1 hq2
          obtain ⟨j1, j2, j3⟩ := ih (needF g f m q) (fun v hv => hr v (by simp [hv])) k1 k2
          refine ⟨j1, j2, ?_⟩
          simp only [List.foldl_cons, List.length_cons]
          have := j3
          omega
      obtain ⟨k1, k2, k3⟩ := key (nodeN g n).inn (bump1 o n) hi2 hl1 hp1
      exact ⟨k1, k2, by omega⟩
def placesF : Nat → List Int → List Int
  | _, [] => []
  | i, x :: r => if 0 < x then (i : Int) :: placesF (i + 1) r else placesF (i + 1) r
def needed (g : List Gr.Node) : List Int := needF g (g.length + 1) ((g.length : Int) - 1) (List.replicate g.length 0)
def ordOf (g : List Gr.Node) : List Int := placesF 0 (needed g)
end Od
end Go.Proofs.YtekejcnphmnidaaGreatDoor
namespace Go.Proofs.YtekejcnphmnidaaGreatDoor
open Go.RowKit
structure NSt (w1 : World) (a : Option Addr) (len cap : Nat) (G c1 c4 c5 : Nat) (o : List Int) (w : World) : Prop where
  bel : Below w1.heap.size w1 w
  row : Mine w1.heap.size w G 0 len o
  ol : o.length = len
  nn : ∀ v ∈ o, 0 ≤ v
  k1 : w.cell? ⟨c1, 0, none⟩ = some (.slice a len cap)
  k4 : w.cell? ⟨c4, 0, none⟩ = some (.slice (some ⟨G, 0, none⟩) len len)
  k5 : w.cell? ⟨c5, 0, none⟩ = some (.func (.func 130) #[] #[.pointer (some ⟨c4, 0, none⟩), .pointer (some ⟨c1, 0, none⟩), .pointer (some ⟨c5, 0, none⟩)])
  n1 : c1 ≠ G
  n4 : c4 ≠ G
  n5 : c5 ≠ G
theorem NSt.put {w1 : World} {a : Option Addr} {len cap G c1 c4 c5 : Nat} {o : List Int} {w : World} (h : NSt w1 a len cap G c1 c4 c5 o w) (n : Nat) (hn : n < len) :
    NSt w1 a len cap G c1 c4 c5 (Od.bump1 o n) (w.setCell ⟨G, n, none⟩ (.int .i64 (nth o n + 1))) := by
  have hno : n < o.length := by rw [h.ol]; exact hn
  have hM := h.row.set n hno (nth o n + 1)
  rw [Nat.zero_add] at hM
  have other : ∀ c v, w.cell? ⟨c, 0, none⟩ = some v → c ≠ G → (w.setCell ⟨G, n, none⟩ (.int .i64 (nth o n + 1))).cell? ⟨c, 0, none⟩ = some v := fun c v hc hne => by
    rw [World.cell?_setCell_other _ _ _ _ (by intro e; simp only [Addr.mk.injEq] at e; exact hne e.1.symm)]; exact hc
  exact ⟨below_setCell h.bel G n _ h.row.lo, hM, by rw [Od.bump1_length]; exact h.ol, Od.bump1_nonneg hno h.nn, other _ _ h.k1 h.n1, other _ _ h.k4 h.n4, other _ _ h.k5 h.n5, h.n1, h.n4, h.n5⟩
set_option maxHeartbeats 4000000 in
set_option maxRecDepth 100000 in
theorem need_any (w1 : World) (a : Option Addr) (len cap G c1 c4 c5 : Nat) (g : List Gr.Node) (HN : Nodes w1 a len cap g) (hI : Od.InnOk g len) (hl : len ≤ 32) :
    ∀ (f n : Nat) (o : List Int) (w : World), n < f → n < len → NSt w1 a len cap G c1 c4 c5 o w → Od.pot o + 1 ≤ 1000000 →
      Calls Tryz.prog 130 #[.int .i64 n, .pointer (some ⟨c4, 0, none⟩), .pointer (some ⟨c1, 0, none⟩), .pointer (some ⟨c5, 0, none⟩)] w fun e w' => e = .returned (.tuple #[]) ∧ NSt w1 a len cap G c1 c4 c5 (Od.needF g f n o) w' := by
  intro f
  induction f with
  | zero => intro n o w hn; omega
  | succ f ih =>
    intro n o w hnf hnl S hpot
    have IH := Lib.hid ih
    clear ih
    have KN := Lib.hid HN
    have hle := HN.le
    have hcl := HN.cap_le
    have HS := Lib.hid S
    have HII := Lib.hid hI
    have hno : n < o.length := by rw [S.ol]; exact hnl
    have hc := S.row.cell n hno
    have hf := S.row.fr n hno
    rw [Nat.zero_add] at hc hf
    have k4 := S.k4
    have h0 := S.nn _ (nth_mem o n hno)
    have hbp := Od.bump1_pot hno S.nn
    have HBP := Lib.hid hbp
    have hle2 := Od.nth_le_sum o S.nn n hno
    have hzz : (0 : Int) ≤ 4 * (Od.zeros o : Int) := by omega
    have hbig : nth o n ≤ 1000000 := by unfold Od.pot at hpot; omega
    have S2 := Lib.hid (S.put n hnl)
    have k42 := S2.out.k4
    have q4 := S.n4
    have q4' := Ne.symm S.n4
    have hc2 : (w.setCell ⟨G, n, none⟩ (.int .i64 (nth o n + 1))).cell? ⟨G, n, none⟩ = some (.int .i64 (nth o n + 1)) := World.cell?_setCell_same _ _ _ hc
    have HU : Hid (Od.needF g (f + 1) n o = if 1 < nth o n + 1 then Od.bump1 o n else (nodeN g n).inn.foldl (fun q k => Od.needF g f k q) (Od.bump1 o n)) := by
      show _ = _
      conv => lhs; unfold Od.needF
      rw [Int.toNat_natCast, Od.bump1_nth hno]
    clear S HN hI hle2 hzz hbp
    by_cases c : 1 < nth o n + 1
    · have d1 : decide (nth o n + 1 > 1) = true := decide_eq_true c
      have HR := Lib.hid (HU.out.trans (if_pos c))
      clear c
      generalize nth o n = x at *
      go_enter Tryz.func130, Tryz.ntmps130
      go_wp2
      go_returns
      exact ⟨rfl, by rw [HR.out]; exact S2.out⟩
    · have d1 : decide (nth o n + 1 > 1) = false := decide_eq_false c
      have HR := Lib.hid (HU.out.trans (if_neg c))
      have hz : nth o n = 0 := by omega
      have hpot2 : Od.pot (Od.bump1 o n) + 4 ≤ 1000000 := by rw [HBP.out, if_pos hz]; omega
      obtain ⟨b, off, eA, hbl, hcs⟩ := KN.out.at_ (by omega)
      obtain ⟨ai, li, ci, sa, ls, cs, _, h1, _, _, _, hV⟩ := hcs n hnl
      subst eA
      have n1 := (HS.out.bel.cell (p := ⟨b, off + n * 5 + 1, none⟩) hbl).trans h1
      have k1 := HS.out.k1
      have q1 := HS.out.n1
      have q1' := Ne.symm HS.out.n1
      have qb : b ≠ G := by have := HS.out.row.lo; omega
      have qb' := Ne.symm qb
      have HV := Lib.hid hV.i
      have HVL := Lib.hid hV.i.length
      have HIM := Lib.hid (HII.out n hnl)
      have hli : li ≤ 4 := by have := HIM.out.1; rw [HVL.out] at this; exact this
      have hvc := hV.i.le
      have hvc2 := hV.i.cap_le
      clear c hV h1 hcs HU
      generalize nth o n = x at *
      subst hz
      go_enter Tryz.func130, Tryz.ntmps130
      go_wp2
      go_loopg [25] li (fun gg i wr => ∃ j : Nat, j ≤ li ∧ li - j ≤ gg ∧ i = .int .i64 j ∧ Hid (NSt w1 (some ⟨b, off, none⟩) len cap G c1 c4 c5 (((nodeN g n).inn.take j).foldl (fun q k => Od.needF g f k q) (Od.bump1 o n)) wr) ∧
        Hid (Od.pot (((nodeN g n).inn.take j).foldl (fun q k => Od.needF g f k q) (Od.bump1 o n)) + 4 ≤ 1000000 + j))
      case atStart => exact ⟨0, Nat.zero_le _, by omega, rfl, S2.out, by show _ ≤ _; simpa using hpot2⟩
      case round =>
        obtain ⟨j, hj, hg, rfl, SR, HP⟩ := hrel
        by_cases hlt : j < li
        · obtain ⟨bi, oi, rfl, hbi, hci⟩ := (HV.out.below SR.out.bel).at_ (by omega)
          have hcj := hci j hlt
          obtain ⟨hv0, hv1⟩ := HIM.out.2 (nth (nodeN g n).inn j) (nth_mem _ j (by rw [HVL.out]; exact hlt))
          have HSQ : Hid (((nodeN g n).inn.take (j + 1)).foldl (fun q k => Od.needF g f k q) (Od.bump1 o n) = Od.needF g f (nth (nodeN g n).inn j) (((nodeN g n).inn.take j).foldl (fun q k => Od.needF g f k q) (Od.bump1 o n))) := Od.foldl_take_snoc _ _ _ (by rw [HVL.out]; exact hlt)
          clear hci
          generalize nth (nodeN g n).inn j = v at *
          obtain ⟨m, rfl⟩ : ∃ m : Nat, v = (m : Int) := ⟨v.toNat, by omega⟩
          have hmf : m < f := by omega
          have hml : m < len := by omega
          have k5 := SR.out.k5
          have hpo := HP.out
          go_wp2_with fail
          refine (IH.out m _ wr hmf hml SR.out (by omega)).mono ?_
          rintro e w3 ⟨rfl, hS3⟩
          have HS3 := Lib.hid hS3
          have hf3 := (Od.needF_facts HII.out f m _ hml SR.out.ol SR.out.nn).2.2
          have HP3 : Hid (Od.pot (((nodeN g n).inn.take (j + 1)).foldl (fun q k => Od.needF g f k q) (Od.bump1 o n)) + 4 ≤ 1000000 + ((j + 1 : Nat) : Int)) := by
            show _ ≤ _
            rw [HSQ.out]; omega
          rw [← HSQ.out] at HS3
          clear hS3 hf3 hpo
          go_wp2
          go_roundg (li - (j + 1))
          case measure => exact Nat.lt_of_lt_of_le (Nat.sub_lt_sub_left hlt (Nat.lt_succ_self j)) hg
          case rel => exact ⟨j + 1, Nat.succ_le_of_lt hlt, Nat.le_refl _, by go_num, HS3, HP3⟩
        · rw [List.take_of_length_le (by rw [HVL.out]; omega), ← HR.out] at SR
          go_wp2
          go_end0
          exact ⟨rfl, SR.out⟩
end Go.Proofs.YtekejcnphmnidaaGreatDoor
namespace Go.Proofs.YtekejcnphmnidaaGreatDoor
open Go.RowKit
namespace Od
theorem placesF_append : ∀ (a : List Int) (i : Nat) (b : List Int), placesF i (a ++ b) = placesF i a ++ placesF (i + a.length) b
  | [], i, b => by simp [placesF]
  | x :: r, i, b => by
    simp only [List.cons_append, placesF, List.length_cons]
    rw [placesF_append r (i + 1) b, show i + 1 + r.length = i + (r.length + 1) by omega]
    split <;> rfl
theorem placesF_snoc {l : List Int} {k : Nat} (hk : k < l.length) : placesF 0 (l.take (k + 1)) = placesF 0 (l.take k) ++ (if 0 < nth l k then [(k : Int)] else []) := by
  rw [take_snoc l k hk, placesF_append]
  simp only [List.length_take, Nat.min_eq_left (Nat.le_of_lt hk), Nat.zero_add, placesF]
theorem placesF_length : ∀ (l : List Int) (i : Nat), (placesF i l).length ≤ l.length
  | [], _ => Nat.le_refl _
  | x :: r, i => by
    have := placesF_length r (i + 1)
    simp only [placesF]
    split <;> simp <;> omega
theorem placesF_mem : ∀ (l : List Int) (i : Nat) (v : Int), v ∈ placesF i l → (i : Int) ≤ v ∧ v < (i : Int) + l.length
  | [], _, v, h => by cases h
  | x :: r, i, v, h => by
    simp only [placesF] at h
    simp only [List.length_cons]
    split at h
    · rcases List.mem_cons.1 h with rfl | h
      · omega
      · have := placesF_mem r (i + 1) v h; omega
    · have := placesF_mem r (i + 1) v h; omega
end Od
theorem such_any (n : Int) (w : World) : Calls Tryz.prog 132 #[.int .i64 n] w fun e w' => e = .returned (.bool (decide (n > 0))) ∧ w = w' := by
  go_enter Tryz.func132, Tryz.ntmps132
  go_wp2
  go_ret
  exact ⟨rfl, rfl⟩
set_option maxHeartbeats 2000000 in
theorem places_any (a : Option Addr) (len cap : Nat) (l : List Int) (w : World) (H : Ints w a len cap l) (hbig : len ≤ 1000000) :
    Calls Tryz.prog 131 #[.slice a len cap, .func (.func 132) #[] #[]] w fun e w' => ∃ a1 l1, e = .returned (.slice a1 l1 l1) ∧ Ints w' a1 l1 l1 (Od.placesF 0 l) ∧ Below w.heap.size w w' ∧ (∀ p, a1 = some p → w.heap.size ≤ p.block) ∧ RowV 1 w' (.slice a1 l1 l1) l1 ((Od.placesF 0 l).map (Value.int .i64)) := by
  have KH := Lib.hid H
  have HL := Lib.hid H.length
  have hle := H.le
  have hcl := H.cap_le
  clear H
  go_enter Tryz.func131, Tryz.ntmps131
  go_wp2
  go_loopg [4, 9] len (fun gg v i wr => ∃ k : Nat, k ≤ len ∧ len - k ≤ gg ∧ i = .int .i64 k ∧ Hid (Own w.heap.size wr v (Od.placesF 0 (l.take k))) ∧ Hid (Below w.heap.size w wr))
  case atStart => exact ⟨0, Nat.zero_le _, by omega, rfl, Own.nil _ _, Below.refl _ _⟩
  case round =>
    obtain ⟨k, hk, hg, rfl, HO, HW⟩ := hrel
    by_cases hlt : k < len
    · obtain ⟨b, off, rfl, _, hc⟩ := (KH.out.below HW.out).at_ (by omega)
      have hck := hc k hlt
      have HS := Lib.hid (Od.placesF_snoc (l := l) (k := k) (by rw [HL.out]; exact hlt))
      have hln : (Od.placesF 0 (l.take k)).length ≤ k := Nat.le_trans (Od.placesF_length _ _) (List.length_take_le _ _)
      clear hc
      generalize nth l k = x at *
      by_cases c : 0 < x
      · have dc : decide (x > 0) = true := decide_eq_true c
        rw [if_pos c] at HS
        clear c
        go_wp2_with fail
        refine (such_any _ _).mono ?_
        rintro e w2 ⟨rfl, rfl⟩
        rw [dc]
        go_wp2_with (at_builtin; go_must (refine wpList_app1w _ rfl _ _ rfl w.heap.size _ _ _ HO.out rfl rfl HW.out.size (by omega) ?_))
        intro v' w3 hown' hbel hgrow
        rw [← HS.out] at hown'
        have HO' := Lib.hid hown'
        have HW3 : Hid (Below w.heap.size w w3) := HW.out.trans hbel
        clear hown' hbel hgrow hck
        go_wp2
        go_roundg (len - (k + 1))
        case measure => exact Nat.lt_of_lt_of_le (Nat.sub_lt_sub_left hlt (Nat.lt_succ_self k)) hg
        case rel => exact ⟨k + 1, Nat.succ_le_of_lt hlt, Nat.le_refl _, by go_num, HO', HW3⟩
      · have dc : decide (x > 0) = false := decide_eq_false c
        rw [if_neg c, List.append_nil] at HS
        clear c
        go_wp2_with fail
        refine (such_any _ _).mono ?_
        rintro e w2 ⟨rfl, rfl⟩
        rw [dc]
        go_wp2
        go_roundg (len - (k + 1))
        case measure => exact Nat.lt_of_lt_of_le (Nat.sub_lt_sub_left hlt (Nat.lt_succ_self k)) hg
        case rel => exact ⟨k + 1, Nat.succ_le_of_lt hlt, Nat.le_refl _, by go_num, by rw [HS.out]; exact HO.out, HW.out⟩
    · rw [List.take_of_length_le (by rw [HL.out]; omega)] at HO
      obtain ⟨a1, l1, c1, rfl, hq1, hq2, hq3, hI, hnw⟩ := HO.out.clipped (fun v hv => by have := Od.placesF_mem l 0 v hv; have := HL.out; omega)
      have HI := Lib.hid hI
      have HNW := Lib.hid hnw
      have hrv : RowV 1 wr (.slice a1 l1 c1) (Od.placesF 0 l).length ((Od.placesF 0 l).map (Value.int .i64)) := RowV.of_owns HO.out
      have HRV : Hid (RowV 1 wr (.slice a1 l1 l1) l1 ((Od.placesF 0 l).map (Value.int .i64))) := by
        obtain ⟨e1, h⟩ := hrv.clip
        rw [← e1] at h; exact h
      clear hI hnw hrv
      go_wp2_with fail
      refine (clip_any _ _ _ _ hq1 hq2 hq3).mono ?_
      rintro e w6 ⟨rfl, rfl⟩
      go_wp2
      go_ret
      exact ⟨_, _, rfl, HI.out, HW.out, HNW.out, HRV.out⟩
def Od.ordO (g : List Gr.Node) : Option (List Int) := if (Gr.shapes g).isSome = true then some (Od.ordOf g) else none
set_option maxHeartbeats 4000000 in
set_option maxRecDepth 100000 in
theorem of_row (a : Option Addr) (len cap : Nat) (g : List Gr.Node) (w : World) (HN : Nodes w a len cap g) :
    Calls Tryz.prog 44 #[.agg #[.slice a len cap]] w fun e w' => ListR w (Od.ordO g) e w' := by
  obtain ⟨i0, hi0, hz0, hz1, hz2⟩ := info_parts Tryz.info3
  have LN := Lib.hid HN.length
  have hle := HN.le
  have hcl := HN.cap_le
  have K0 := Lib.hid (GSt.start HN)
  clear HN
  go_enter Tryz.func44, Tryz.ntmps44
  go_wp2_with fail
  refine (gcheck_any _ _ _ g _ K0.out.n).mono ?_
  rintro e w1 ⟨rfl, hb⟩
  have K1 := Lib.hid (K0.out.on hb)
  have c1 := K1.out.cell
  clear hb K0
  by_cases hs : (Gr.shapes g).isSome = true
  case neg =>
    have HR : Hid (Od.ordO g = none) := if_neg hs
    have hs2 : (Gr.shapes g).isSome = false := by simpa using hs
    rw [hs2]
    clear hs hs2
    go_wp2
    go_ret2
    exact ⟨K1.out.bel, .inl ⟨HR.out, rfl⟩⟩
  case pos =>
    have HR : Hid (Od.ordO g = some (Od.ordOf g)) := if_pos hs
    rw [hs]
    obtain ⟨s, hss⟩ := Option.isSome_iff_exists.1 hs
    obtain ⟨⟨hl1, hl2⟩, hrun, _⟩ := Gr.shapes_iff.1 hss
    rw [LN.out] at hl1 hl2
    have HII : Hid (Od.InnOk g len) := fun n hn => by
      obtain ⟨k, h1, h2, h3, _⟩ := Gr.run_node hrun n (by rw [LN.out]; exact hn)
      have h4 := (Gr.ofB_parts h2).2.1
      have h5 := kindOf_bounds h1
      refine ⟨by omega, fun v hv => ?_⟩
      unfold Gr.okIn at h3
      have := List.all_eq_true.1 h3 v hv
      simpa using this
    obtain ⟨m, rfl⟩ : ∃ m, len = m + 1 := ⟨len - 1, by omega⟩
    have HM0 := Lib.hid (made_mine w1 (m + 1) (by omega))
    have hcA : ∀ o1 o2 o3, (((w1.alloc o1).alloc o2).alloc o3).cell? ⟨w.heap.size, 0, none⟩ = some (.slice a (m + 1) cap) := fun o1 o2 o3 => Lib.cell?_alloc_some _ (Lib.cell?_alloc_some _ (Lib.cell?_alloc_some _ c1))
    have HWb : Hid (Below w1.heap.size w1 (((w1.alloc (.cells (madeCells #[.int .i64 0] (m + 1)) 3)).alloc (.cells #[.slice (some ⟨w1.heap.size, 0, none⟩) (m + 1) (m + 1)] 22)).alloc (.cells #[.func (.func 130) #[] #[.pointer (some ⟨w1.heap.size + 1, 0, none⟩), .pointer (some ⟨w.heap.size, 0, none⟩), .pointer (some ⟨w1.heap.size + 1 + 1, 0, none⟩)]] 140))) := (((Below.refl _ _).alloc (Nat.le_refl _) _).alloc (by simp) _).alloc (by simp; omega) _
    have HSt : Hid (NSt w1 a (m + 1) cap w1.heap.size w.heap.size (w1.heap.size + 1) (w1.heap.size + 1 + 1) (List.replicate (m + 1) 0) (((w1.alloc (.cells (madeCells #[.int .i64 0] (m + 1)) 3)).alloc (.cells #[.slice (some ⟨w1.heap.size, 0, none⟩) (m + 1) (m + 1)] 22)).alloc (.cells #[.func (.func 130) #[] #[.pointer (some ⟨w1.heap.size + 1, 0, none⟩), .pointer (some ⟨w.heap.size, 0, none⟩), .pointer (some ⟨w1.heap.size + 1 + 1, 0, none⟩)]] 140))) :=
      ⟨HWb.out, (HM0.out.below ((Below.refl _ _).alloc (Nat.le_refl _) _)).below ((Below.refl _ _).alloc (Nat.le_refl _) _), by simp, fun v hv => by have := List.eq_of_mem_replicate hv; omega, hcA _ _ _,
        Lib.cell?_alloc_some _ (by rw [World.cell?_alloc_at _ _ _ _ (by simp)]; rfl), by rw [World.cell?_alloc_at _ _ _ _ (by simp)]; rfl, by have := K1.out.lt; omega, by omega, by omega⟩
    have hpz : Od.pot (List.replicate (m + 1) 0) + 1 ≤ 1000000 := by
      have h1 : ∀ k : Nat, Od.sumL (List.replicate k 0) = 0 := fun k => by
        induction k with
        | zero => rfl
        | succ k ih => rw [List.replicate_succ, Od.sumL, ih]; rfl
      have h2 : ∀ k : Nat, Od.zeros (List.replicate k 0) = k := fun k => by
        induction k with
        | zero => rfl
        | succ k ih => rw [List.replicate_succ, Od.zeros, ih]; simp; omega
      unfold Od.pot
      rw [h1, h2]; omega
    have HND : Hid (Od.needF g (m + 1 + 1) (m : Int) (List.replicate (m + 1) 0) = Od.needed g) := by
      show _ = _
      unfold Od.needed
      rw [LN.out, show ((m + 1 : Nat) : Int) - 1 = (m : Int) by omega]
    clear hs hss hrun
    go_wp2_with (refine wpList_make_row _ rfl _ _ 22 rfl 3 i0 (.int .i64 0) Tryz.underlying22 hi0 hz0 hz1 rfl .i64 .i64 (m + 1) rfl rfl (by rw [hz2]; omega) (by omega) ?_)
    refine (need_any w1 a (m + 1) cap w1.heap.size w.heap.size (w1.heap.size + 1) (w1.heap.size + 1 + 1) g K1.out.n HII.out (by omega) (m + 1 + 1) m _ _ (by omega) (by omega) HSt.out hpz).mono ?_
    rintro e w4 ⟨rfl, hS4⟩
    rw [HND.out] at hS4
    have S4 := Lib.hid hS4
    have k4 := hS4.k4
    have HI4 := Lib.hid (hS4.row.ints (fun v hv => by
      have h1 := hS4.nn v hv
      obtain ⟨i, hi, rfl⟩ := List.getElem_of_mem hv
      have h2 := Od.nth_le_sum _ hS4.nn i hi
      rw [nth_eq _ i hi] at h2
      have h3 := (Od.needF_facts HII.out (m + 1 + 1) m (List.replicate (m + 1) 0) (by omega) (by simp) (fun v hv => by have := List.eq_of_mem_replicate hv; omega)).2.2
      rw [HND.out] at h3
      unfold Od.pot at h3 hpz
      omega))
    rw [hS4.ol] at HI4
    clear hS4
    go_wp2_with fail
    refine (places_any _ _ _ _ _ HI4.out (by omega)).mono ?_
    rintro e w5 ⟨a5, l5, rfl, hI5, hb5, hn5, hr5⟩
    have HI5 := Lib.hid hI5
    have HB5 := Lib.hid ((K1.out.on S4.out.bel).on hb5)
    have HN5 := Lib.hid hn5
    have HR5 := Lib.hid hr5
    have HZ4 : Hid (w.heap.size ≤ w4.heap.size) := (K1.out.on S4.out.bel).bel.size
    clear hI5 hb5 hn5 hr5
    go_wp2
    go_ret2
    exact ⟨HB5.out.bel, .inr ⟨_, _, _, HR.out, rfl, HI5.out, HR5.out, fun p hp => Nat.le_trans HZ4.out (HN5.out p hp)⟩⟩
theorem of_new (a : Option Addr) (len cap : Nat) (g : List Gr.Node) (w : World) (HN : Nodes w a len cap g) :
    Calls Tryz.prog 44 #[.agg #[.slice a len cap]] w fun e w' => ListN w (Od.ordO g) e w' := (of_row a len cap g w HN).mono fun _ _ h => h.newL
theorem of_any (a : Option Addr) (len cap : Nat) (g : List Gr.Node) (w : World) (HN : Nodes w a len cap g) :
    Calls Tryz.prog 44 #[.agg #[.slice a len cap]] w fun e w' => ListE w (Od.ordO g) e w' :=
  (of_new a len cap g w HN).mono fun _ _ ⟨hb, h⟩ => ⟨hb, h.imp_right fun ⟨l', a', len', cap', h1, h2, h3, _⟩ => ⟨l', a', len', cap', h1, h2, h3⟩⟩
end Go.Proofs.YtekejcnphmnidaaGreatDoor
namespace Go.Proofs.YtekejcnphmnidaaGreatDoor
open Go.RowKit
set_option maxHeartbeats 4000000 in
theorem mul64_any (y : Nat) (hy : y ≤ 32) (w : World) : Calls Tryz.prog 216 #[.int .u64 1, .int .u64 y] w fun e w' => e = .returned (.tuple #[.int .u64 0, .int .u64 y]) ∧ w = w' := by
  have hm : bits .and .u64 (y : Int) 4294967295 = (y : Int) := by
    have h := bits_and_u64_nat y 4294967295 (by omega) (by omega)
    have e : y &&& 4294967295 = y % 4294967296 := Nat.and_two_pow_sub_one_eq_mod y 32
    rw [e] at h
    rw [show ((4294967295 : Nat) : Int) = 4294967295 from rfl] at h
    rw [h]; omega
  have hd : (y : Int) / 4294967296 = 0 := by omega
  have hw : IntKind.u64.wrap (y : Int) = (y : Int) := by rw [IntKind.wrap_u64]; omega
  have h1 : bits .and .u64 1 4294967295 = 1 := by decide
  have h0 : bits .and .u64 0 4294967295 = 0 := by decide
  have w0 : IntKind.u64.wrap 0 = 0 := by decide
  go_enter Tryz.func216, Tryz.ntmps216
  go_wp2
  go_ret2
  refine ⟨?_, rfl⟩
  show Ending.returned (.tuple #[.int .u64 _, .int .u64 _]) = _
  simp
theorem mul1_any (y : Nat) (hy : y ≤ 32) (w : World) : Calls Tryz.prog 197 #[.int .u64 1, .int .u64 y] w fun e w' => e = .returned (.tuple #[.int .u64 0, .int .u64 y]) ∧ w = w' := by
  go_enter Tryz.func197, Tryz.ntmps197
  go_wp2_with fail
  refine (mul64_any y hy _).mono ?_
  rintro e w1 ⟨rfl, rfl⟩
  go_wp2
  go_ret2
  exact ⟨rfl, rfl⟩
end Go.Proofs.YtekejcnphmnidaaGreatDoor
namespace Go.Proofs.YtekejcnphmnidaaGreatDoor
open Go.RowKit
theorem step_copy {ops : Array Oper} {o : Oper} {a : Act} {w : World} {K : Act → World → Prop} {Q : Exit → Act → World → Prop} {E : Prop} (hgd : o.guard = none) (d x : Operand) (dT sT : TypeId)
    (ho : o.op = .call { callee := .builtin .copy, args := #[d, x], argTypes := #[dT, sT] }) (v u : Value) (hd : a.eval d = v) (hx : a.eval x = u) {v' : Value} {w' : World}
    (hr : (Builtin.copy_ #[dT, sT] o.type #[v, u]).run Tryz.prog w = .ok v' w') (hK : K (a.put o.dst v') w') : if Region.wanted o (yielded ops a.tmps) = true then Oper.wp Tryz.prog o a w K Q else E := by
  rw [if_pos (by simp [Region.wanted, hgd])]
  unfold Oper.wp
  simp [execOp, ho, resolve, invoke, builtin, hd, hx, hr, Result.andThen]
  exact hK
def fillL (r n : Nat) : List Int := (List.range n).map fun i => if i < r then (-1 : Int) else 0
theorem fillL_length (r n : Nat) : (fillL r n).length = n := by unfold fillL; simp
theorem fillL_nth (r n i : Nat) (hi : i < n) : nth (fillL r n) i = if i < r then -1 else 0 := by
  rw [nth_eq _ _ (by rw [fillL_length]; exact hi)]; unfold fillL; simp
theorem fillL_zero (n : Nat) : fillL 0 n = List.replicate n 0 := by
  unfold fillL
  apply List.ext_getElem
  · simp
  · intro i h1 h2; simp
theorem fillL_full (n : Nat) : fillL n n = List.replicate n (-1) := by
  unfold fillL
  apply List.ext_getElem
  · simp
  · intro i h1 h2
    have : i < n := by simpa using h1
    simp [this]
theorem setCells_frozen (b : Nat) : ∀ (vs : List Value) (o : Nat) (w : World) (x : Addr), (w.setCells b o vs).frozen? x = w.frozen? x
  | [], _, _, _ => rfl
  | v :: r, o, w, x => by rw [World.setCells, setCells_frozen b r, World.frozen?_setCell]
theorem setCells_below {base : Nat} {w0 : World} (b : Nat) (hb : base ≤ b) : ∀ (vs : List Value) (o : Nat) (w : World), Below base w0 w → Below base w0 (w.setCells b o vs)
  | [], _, _, h => h
  | v :: r, o, _, h => setCells_below b hb r (o + 1) _ (below_setCell h b o v hb)
theorem setCells_size (b : Nat) : ∀ (vs : List Value) (o : Nat) (w : World), (w.setCells b o vs).heap.size = w.heap.size
  | [], _, _ => rfl
  | v :: r, o, w => by rw [World.setCells, setCells_size b r]; simp [World.setCell]
theorem Mine.fill {base : Nat} {w : World} {G n r : Nat} (h : Mine base w G 0 n (fillL r n)) (c : Nat) (hc : r + c ≤ n) : Mine base (w.setCells G r (List.replicate c (.int .i64 (-1)))) G 0 n (fillL (r + c) n) := by
  have hl := fillL_length r n
  have hl2 := fillL_length (r + c) n
  refine ⟨h.lo, by rw [setCells_size]; exact h.lt, by rw [hl2]; exact Nat.le_refl _, h.cap_le, fun i hi => ?_, fun i hi => ?_⟩
  · rw [hl2] at hi
    rw [Nat.zero_add, fillL_nth _ _ _ hi]
    have hsome : ∀ j, j < (List.replicate c (Value.int .i64 (-1))).length → (w.cell? ⟨G, r + j, none⟩).isSome = true := fun j hj => by
      have hj' : j < c := by simpa using hj
      have := h.cell (r + j) (by rw [hl]; omega)
      rw [Nat.zero_add] at this
      rw [this]; rfl
    by_cases hin : r ≤ i ∧ i < r + c
    · have h1 := World.cell?_setCells_in G (List.replicate c (Value.int .i64 (-1))) r w hsome (i - r) (by simp; omega)
      rw [show r + (i - r) = i by omega] at h1
      rw [h1, if_pos (by omega)]
      simp
    · rw [World.cell?_setCells_out G _ r w ⟨G, i, none⟩ (fun _ _ => by simp; omega)]
      have h1 := h.cell i (by rw [hl]; exact hi)
      rw [Nat.zero_add, fillL_nth _ _ _ hi] at h1
      rw [h1]
      by_cases c1 : i < r
      · rw [if_pos c1, if_pos (by omega)]
      · rw [if_neg c1, if_neg (by omega)]
  · rw [setCells_frozen]; exact h.fr i (by rw [hl]; rw [hl2] at hi; exact hi)
theorem copy_run {w : World} {base G n r c : Nat} (ty : TypeId) (h : Mine base w G 0 n (fillL r n)) (_ : r ≤ n) (ad : Addr) (dl dc sl sc : Nat) (hc : c = Nat.min sl dl) (hcn : r + c ≤ n) (hsrc : ∀ j, j < c → w.cell? (ad.add j) = some (.int .i64 (-1))) :
    (Builtin.copy_ #[22, 22] ty #[.slice (some ⟨G, r, none⟩) dl dc, .slice (some ad) sl sc]).run Tryz.prog w = .ok (goInt c) (w.setCells G r (List.replicate c (.int .i64 (-1)))) := by
  obtain ⟨i0, hi, hz0, hz1, hz2⟩ := info_parts Tryz.info3
  have hl := fillL_length r n
  have h1 := run_copy_cells (P := Tryz.prog) w 22 22 ty 3 G r dl dc ad sl sc (List.replicate c (.int .i64 (-1))) Tryz.underlying22 (by rw [hi]; simp [hz1]) (by simp [hc])
    (fun j v hj => by
      have hjc : j < c := by have := (List.getElem?_eq_some_iff.1 hj).1; simpa using this
      rw [List.getElem?_replicate, if_pos hjc] at hj
      cases hj
      exact hsrc j hjc)
    (fun j hj => by
      have hj' : j < c := by simpa using hj
      have := h.cell (r + j) (by rw [hl]; omega)
      rw [Nat.zero_add] at this
      rw [this]; rfl)
    (fun j hj => by
      have hj' : j < c := by simpa using hj
      have := h.fr (r + j) (by rw [hl]; omega)
      rw [Nat.zero_add] at this
      exact this)
    (fun v hv => by rw [List.eq_of_mem_replicate hv]; rfl)
  simpa using h1
set_option maxHeartbeats 4000000 in
set_option maxRecDepth 100000 in
theorem repeat_any (ax : Option Addr) (cx n : Nat) (w : World) (HX : Ints w ax 1 cx [-1]) (h1 : 1 ≤ n) (h2 : n ≤ 32) :
    Calls Tryz.prog 134 #[.slice ax 1 cx, .int .i64 n] w fun e w' => ∃ G, e = .returned (.slice (some ⟨G, 0, none⟩) n n) ∧ Mine w.heap.size w' G 0 n (List.replicate n (-1)) ∧ Below w.heap.size w w' := by
  obtain ⟨i0, hi0, hz0, hz1, hz2⟩ := info_parts Tryz.info3
  have hcx := HX.le
  have hcx2 := HX.cap_le
  obtain ⟨bx, ox, rfl, hbx, hcell⟩ := HX.at_ (by omega)
  have hx0 := hcell 0 (by omega)
  rw [Nat.add_zero] at hx0
  have hx1 : w.cell? ⟨bx, ox, none⟩ = some (.int .i64 (-1)) := hx0
  have HX1 := Lib.hid hx1
  have hu : IntKind.u64.wrap (n : Int) = (n : Int) := by rw [IntKind.wrap_u64]; omega
  have hi : IntKind.i64.wrap (n : Int) = (n : Int) := by rw [IntKind.wrap_i64]; omega
  have HM0 := Lib.hid (made_mine w n (by omega))
  have HB0 : Hid (Below w.heap.size w (w.alloc (.cells (madeCells #[.int .i64 0] n) 3))) := (Below.refl _ _).alloc (Nat.le_refl _) _
  clear HX hcell hx0 hx1
  go_enter Tryz.func134, Tryz.ntmps134
  go_wp2_with fail
  refine (mul1_any n h2 _).mono ?_
  rintro e w1 ⟨rfl, rfl⟩
  go_wp2_with (refine wpList_make_row _ rfl _ _ 22 rfl 3 i0 (.int .i64 0) Tryz.underlying22 hi0 hz0 hz1 rfl .i64 .i64 n rfl rfl (by rw [hz2]; omega) (by omega) ?_)
  have HM1 : Mine w.heap.size (w.alloc (.cells (madeCells #[.int .i64 0] n) 3)) w.heap.size 0 n (fillL 0 n) := by rw [fillL_zero]; exact HM0.out
  have hcp := copy_run (r := 0) (c := 1) 3 HM1 (by omega) ⟨bx, ox, none⟩ n n 1 cx (by show 1 = min 1 n; omega) (by omega) (fun j hj => by
    obtain rfl : j = 0 := by omega
    rw [Addr.add_lit, Nat.add_zero]
    exact Lib.cell?_alloc_some _ HX1.out)
  rw [hcp]
  have HM2 := Lib.hid (HM1.fill 1 (by omega))
  have HB2 := Lib.hid (setCells_below w.heap.size (Nat.le_refl _) (List.replicate 1 (.int .i64 (-1))) 0 _ HB0.out)
  clear hcp HM1 HM0 HB0
  generalize (w.alloc (.cells (madeCells #[.int .i64 0] n) 3)).setCells w.heap.size 0 (List.replicate 1 (.int .i64 (-1))) = w2 at *
  simp only [goInt]
  go_wp2
  go_loopg [8] n (fun gg i wr => ∃ r : Nat, 1 ≤ r ∧ r ≤ n ∧ n - r ≤ gg ∧ i = .int .i64 r ∧ Hid (Mine w.heap.size wr w.heap.size 0 n (fillL r n)) ∧ Hid (Below w.heap.size w wr))
  case atStart => exact ⟨1, Nat.le_refl _, h1, by omega, rfl, HM2, HB2⟩
  case round =>
    obtain ⟨r, hr1, hrn, hg, rfl, HM, HB⟩ := hrel
    by_cases hlt : r < n
    · obtain ⟨c, hc⟩ : ∃ c, c = Nat.min r (n - r) := ⟨_, rfl⟩
      have hcr : c ≤ r := by rw [hc]; exact Nat.min_le_left _ _
      have hcn : c ≤ n - r := by rw [hc]; exact Nat.min_le_right _ _
      have hc1 : 1 ≤ c := by rw [hc]; show 1 ≤ min r (n - r); omega
      have HMd : Mine w.heap.size wr.drew w.heap.size 0 n (fillL r n) := HM.out.below ((Below.refl _ _).drew)
      have HCp : Hid (∀ ty, (Builtin.copy_ #[22, 22] ty #[.slice (some ⟨w.heap.size, r, none⟩) (n - r) (n - r), .slice (some ⟨w.heap.size, 0, none⟩) r n]).run Tryz.prog wr.drew = .ok (goInt c) (wr.drew.setCells w.heap.size r (List.replicate c (.int .i64 (-1))))) :=
        fun ty => copy_run ty HMd hrn ⟨w.heap.size, 0, none⟩ (n - r) (n - r) r n hc (by omega) (fun j hj => by
          have := HMd.cell j (by rw [fillL_length]; omega)
          rw [fillL_nth _ _ _ (by omega), if_pos (by omega)] at this
          rw [Addr.add_lit]; exact this)
      have HM3 := Lib.hid (HMd.fill c (by omega))
      have HB3 := Lib.hid (setCells_below w.heap.size (Nat.le_refl _) (List.replicate c (.int .i64 (-1))) r _ HB.out.drew)
      have hne : ¬ n = r := by omega
      clear HMd hc
      go_wp2_with fail
      go_region_law (refine step_copy (by rfl) (.tmp 41) (.tmp 44) 22 22 (by rfl) (.slice (some ⟨w.heap.size, r, none⟩) (n - r) (n - r)) (.slice (some ⟨w.heap.size, 0, none⟩) r n) (by simp [Act.eval, Act.put]) (by simp [Act.eval, Act.put]) (HCp.out _) ?_)
      clear HCp
      generalize wr.drew.setCells w.heap.size r (List.replicate c (.int .i64 (-1))) = w3 at *
      go_wp2
      go_roundg (n - (r + c))
      case measure => omega
      case rel => exact ⟨r + c, by omega, by omega, Nat.le_refl _, by rw [show IntKind.i64.wrap ((r : Int) + (c : Int)) = ((r + c : Nat) : Int) by rw [IntKind.wrap_i64]; omega], HM3, HB3⟩
    · obtain rfl : r = n := by omega
      rw [fillL_full] at HM
      go_wp2
      go_ret
      exact ⟨_, rfl, HM.out, HB.out⟩
end Go.Proofs.YtekejcnphmnidaaGreatDoor
namespace Go.Proofs.YtekejcnphmnidaaGreatDoor
open Go.RowKit
namespace Od
def nextD (g : List Gr.Node) (l : List Int) : Nat → List Int
  | 0 => List.replicate g.length (-1)
  | s + 1 => nextN g l (nextD g l s) (l.length - 1 - s)
def next (g : List Gr.Node) (l : List Int) (at_ : Int) : List Int := (nextD g l ((l.length : Int) - 1 - at_).toNat).set (g.length - 1) l.length
def nextO (g : List Gr.Node) (l : List Int) (at_ : Int) : Option (List Int) := if Od.mayB g l = true ∧ -1 ≤ at_ ∧ at_ < l.length then some (next g l at_) else none
theorem put1_length (i : Int) (o : List Int) (k : Int) : (put1 i o k).length = o.length := by unfold put1; simp
theorem nextN_length (g : List Gr.Node) (l o : List Int) (i : Nat) : (nextN g l o i).length = o.length := foldl_len (put1_length _) _ _
theorem nextD_length (g : List Gr.Node) (l : List Int) : ∀ s, (nextD g l s).length = g.length
  | 0 => by simp [nextD]
  | s + 1 => by simp only [nextD]; rw [nextN_length]; exact nextD_length g l s
theorem put1_bounds {M i : Int} {o : List Int} {k : Int} (hi : -1 ≤ i ∧ i ≤ M) (h : ∀ v ∈ o, -1 ≤ v ∧ v ≤ M) : ∀ v ∈ put1 i o k, -1 ≤ v ∧ v ≤ M := by
  intro v hv
  unfold put1 at hv
  rcases List.mem_or_eq_of_mem_set hv with h2 | h2
  · exact h v h2
  · omega
end Od
set_option maxHeartbeats 4000000 in
set_option maxRecDepth 100000 in
theorem next_row (a : Option Addr) (len cap : Nat) (g : List Gr.Node) (ao : Option Addr) (lo co : Nat) (l : List Int) (at_ : Int) (w : World) (HN : Nodes w a len cap g) (HO : Ints w ao lo co l) (hlo : lo ≤ 17592186044416)
    (hat0 : -9223372036854775808 ≤ at_) (hat1 : at_ ≤ 9223372036854775807) :
    Calls Tryz.prog 45 #[.agg #[.slice a len cap], .slice ao lo co, .int .i64 at_] w fun e w' => ListR w (Od.nextO g l at_) e w' := by
  have KO := Lib.hid HO
  have LO := Lib.hid HO.length
  have LN := Lib.hid HN.length
  have ho1 := HO.le
  have ho2 := HO.cap_le
  have K0 := Lib.hid (GSt.start HN)
  clear HO HN
  go_enter Tryz.func45, Tryz.ntmps45
  go_wp2_with fail
  refine (may_any _ _ _ g _ _ _ l _ K0.out.n (KO.out.below ((Below.refl _ _).alloc (Nat.le_refl _) _))).mono ?_
  rintro e w1 ⟨rfl, hb⟩
  have K1 := Lib.hid (K0.out.on hb)
  have c1 := K1.out.cell
  clear hb K0
  by_cases hm : Od.mayB g l = true
  case neg =>
    have HR : Hid (Od.nextO g l at_ = none) := if_neg (fun h => hm h.1)
    have hm2 : Od.mayB g l = false := by simpa using hm
    rw [hm2]
    clear hm hm2
    go_wp2
    go_ret2
    exact ⟨K1.out.bel, .inl ⟨HR.out, rfl⟩⟩
  case pos =>
    obtain ⟨hl1, hl2, hor⟩ := Od.may_parts hm
    rw [LN.out] at hl1 hl2
    by_cases p1 : at_ < -1
    · have d1 : decide (at_ < -1) = true := decide_eq_true p1
      have HR : Hid (Od.nextO g l at_ = none) := if_neg (fun h => by omega)
      rw [hm]
      clear p1 hm hor
      go_wp2
      go_ret2
      exact ⟨K1.out.bel, .inl ⟨HR.out, rfl⟩⟩
    have d1 : decide (at_ < -1) = false := decide_eq_false p1
    by_cases p2 : (lo : Int) ≤ at_
    · have d2 : decide (at_ ≥ (lo : Int)) = true := decide_eq_true p2
      have HR : Hid (Od.nextO g l at_ = none) := if_neg (fun h => by have := h.2.2; rw [LO.out] at this; omega)
      rw [hm]
      clear p1 p2 hm hor
      go_wp2
      go_ret2
      exact ⟨K1.out.bel, .inl ⟨HR.out, rfl⟩⟩
    have d2 : decide (at_ ≥ (lo : Int)) = false := decide_eq_false p2
    have HR : Hid (Od.nextO g l at_ = some (Od.next g l at_)) := if_pos ⟨hm, by omega, by rw [LO.out]; omega⟩
    have HOR : Hid (∀ i, i < lo → 0 ≤ nth l i ∧ nth l i < (len : Int)) := fun i hi => by have := hor i (by rw [LO.out]; exact hi); rw [LN.out] at this; exact this
    have HIN : Hid (∀ n, n < len → (nodeN g n).inn.length ≤ 4 ∧ ∀ v ∈ (nodeN g n).inn, 0 ≤ v ∧ v < n) := fun n hn => Od.may_inn hm (by rw [LN.out]; exact hn)
    rw [hm]
    clear hm hor
    have c1' : ∀ o, (w1.alloc o).cell? ⟨w.heap.size, 0, none⟩ = some (.slice a len cap) := fun o => Lib.cell?_alloc_some _ c1
    go_wp2_with fail
    refine (repeat_any _ _ len _ (ints_lits w1 _ [-1] rfl (by simp) (by simp)) hl1 hl2).mono ?_
    rintro e w2 ⟨G, rfl, hM, hb2⟩
    have HM2 := Lib.hid (hM.mono (show w1.heap.size ≤ _ by simp))
    have HB2 : Hid (Below w1.heap.size w1 w2) := ((Below.refl _ _).alloc (Nat.le_refl _) _).trans (hb2.mono (by simp))
    have hGlo : w1.heap.size ≤ G := by have := hM.lo; simp at this; omega
    clear hM hb2 c1'
    go_wp2
    go_loopg [9] lo (fun gg i wr => ∃ (s : Nat) (o : List Int), s ≤ lo ∧ lo - s ≤ gg ∧ at_ ≤ (lo : Int) - 1 - s ∧ i = .int .i64 ((lo : Int) - 1 - s) ∧ Hid (o = Od.nextD g l s) ∧ Hid (o.length = len) ∧ Hid (∀ v ∈ o, -1 ≤ v ∧ v ≤ 17592186044416) ∧
      Hid (Mine w1.heap.size wr G 0 len o) ∧ Hid (Below w1.heap.size w1 wr))
    case atStart => exact ⟨0, List.replicate len (-1), Nat.zero_le _, by omega, by omega, by go_num, by show _ = _; unfold Od.nextD; rw [LN.out], by show _ = _; simp, fun v hv => by have := List.eq_of_mem_replicate hv; omega, HM2, HB2⟩
    case round =>
      obtain ⟨s, o, hs, hg, hat, rfl, HOE, HOL, HOB, HMr, HBr⟩ := hrel
      have Kr := Lib.hid (K1.out.on HBr.out)
      have cr := Kr.out.cell
      by_cases hgt : at_ < (lo : Int) - 1 - s
      · have dg : decide ((lo : Int) - 1 - s > at_) = true := decide_eq_true hgt
        obtain ⟨j, hj⟩ : ∃ j : Nat, (lo : Int) - 1 - s = (j : Int) := ⟨((lo : Int) - 1 - s).toNat, by omega⟩
        have hjl : j < lo := by omega
        rw [hj] at dg ⊢
        obtain ⟨bo, oo, rfl, _, hco⟩ := (KO.out.below Kr.out.bel).at_ (by omega)
        have hck := hco j hjl
        obtain ⟨hn0, hn1⟩ := HOR.out j hjl
        have HSN : Hid (Od.nextN g l o j = Od.nextD g l (s + 1)) := by
          show _ = _
          conv => rhs; unfold Od.nextD
          rw [← HOE.out, LO.out, show lo - 1 - s = j by omega]
        clear hco
        have HNL : Hid (Od.nextN g l o j = (nodeN g (nth l j).toNat).inn.foldl (Od.put1 (j : Int)) o) := rfl
        generalize nth l j = n at *
        obtain ⟨m, rfl⟩ : ∃ m : Nat, n = (m : Int) := ⟨n.toNat, by omega⟩
        have hml : m < len := by omega
        rw [Int.toNat_natCast] at HNL
        obtain ⟨b, off, eA, hbl, hcs⟩ := K1.out.n.at_ (by omega)
        obtain ⟨ai, li, ci, sa, ls, cs, _, h1, _, _, _, hV⟩ := hcs m hml
        subst eA
        have n1 := (HBr.out.cell (p := ⟨b, off + m * 5 + 1, none⟩) hbl).trans h1
        have HV := Lib.hid hV.i
        have HVL := Lib.hid hV.i.length
        have HIM := Lib.hid (HIN.out m hml)
        have hli : li ≤ 4 := by have := HIM.out.1; rw [HVL.out] at this; exact this
        have hvc := hV.i.le
        have hvc2 := hV.i.cap_le
        clear hV h1 hcs
        generalize (nodeN g m).inn = inn at *
        go_wp2_with fail
        go_quiet (fail)
        have HMq := Lib.hid (HMr.out.below (below_drewN wr nq _))
        have HBq : Hid (Below w1.heap.size w1 (wr.drewN nq)) := HBr.out.trans (below_drewN wr nq _)
        generalize wr.drewN nq = w3 at *
        go_wp2
        go_loopg [49] li (fun gg i wv => ∃ (t : Nat) (q : List Int), t ≤ li ∧ li - t ≤ gg ∧ i = .int .i64 t ∧ Hid (q = (inn.take t).foldl (Od.put1 (j : Int)) o) ∧ Hid (q.length = len) ∧ Hid (∀ v ∈ q, -1 ≤ v ∧ v ≤ 17592186044416) ∧
          Hid (Mine w1.heap.size wv G 0 len q) ∧ Hid (Below w1.heap.size w1 wv))
        case atStart => exact ⟨0, o, Nat.zero_le _, by omega, rfl, rfl, HOL, HOB, HMq, HBq⟩
        case round =>
          rename World => wx
          obtain ⟨t, q, ht, hgj, rfl, HQE, HQL, HQB, HMx, HBx⟩ := hrel
          by_cases hltj : t < li
          · obtain ⟨bi, oi, rfl, hbi, hci⟩ := (HV.out.below HBx.out).at_ (by omega)
            have hcj := hci t hltj
            obtain ⟨hv0, hv1⟩ := HIM.out.2 (nth inn t) (nth_mem inn t (by rw [HVL.out]; exact hltj))
            have HSQ : Hid (Od.put1 (j : Int) q (nth inn t) = (inn.take (t + 1)).foldl (Od.put1 (j : Int)) o) := by
              show _ = _
              rw [Od.foldl_take_snoc _ _ _ (by rw [HVL.out]; exact hltj), ← HQE.out]
            clear hci
            generalize nth inn t = n at *
            obtain ⟨p, rfl⟩ : ∃ p : Nat, n = (p : Int) := ⟨n.toNat, by omega⟩
            have hp : p < len := by omega
            have hpq : p < q.length := by rw [HQL.out]; exact hp
            have hmc := HMx.out.cell p hpq
            have hmf := HMx.out.fr p hpq
            rw [Nat.zero_add] at hmc hmf
            have hM2 := HMx.out.set p hpq (j : Int)
            rw [show q.set p (j : Int) = Od.put1 (j : Int) q (p : Int) from rfl, Nat.zero_add] at hM2
            have HM2 := Lib.hid hM2
            have HB2 := Lib.hid (below_setCell HBx.out G p (.int .i64 (j : Int)) hGlo)
            have HQ2 : Hid (∀ v ∈ Od.put1 (j : Int) q (p : Int), -1 ≤ v ∧ v ≤ 17592186044416) := Od.put1_bounds (by omega) HQB.out
            have HL2 : Hid ((Od.put1 (j : Int) q (p : Int)).length = len) := by show _ = _; rw [Od.put1_length]; exact HQL.out
            clear hM2
            go_wp2
            go_roundg (li - (t + 1))
            case measure => exact Nat.lt_of_lt_of_le (Nat.sub_lt_sub_left hltj (Nat.lt_succ_self t)) hgj
            case rel => exact ⟨t + 1, Od.put1 (j : Int) q (p : Int), Nat.succ_le_of_lt hltj, Nat.le_refl _, by go_num, HSQ, HL2, HQ2, HM2, HB2⟩
          · have hje : inn.take t = inn := List.take_of_length_le (by rw [HVL.out]; omega)
            rw [hje, ← HNL.out, HSN.out] at HQE
            go_wp2
            go_roundg (lo - (s + 1))
            case measure => omega
            case rel => exact ⟨s + 1, q, by omega, Nat.le_refl _, by omega, by first | go_num | (congr 1; omega), HQE, HQL, HQB, HMx, HBx⟩
      · have dg : decide ((lo : Int) - 1 - s > at_) = false := decide_eq_false hgt
        have hse : ((l.length : Int) - 1 - at_).toNat = s := by rw [LO.out]; omega
        obtain ⟨m, rfl⟩ : ∃ m, len = m + 1 := ⟨len - 1, by omega⟩
        have hmo : m < o.length := by rw [HOL.out]; omega
        have hmc := HMr.out.cell m hmo
        have hmf := HMr.out.fr m hmo
        rw [Nat.zero_add] at hmc hmf
        have hM2 := HMr.out.set m hmo (lo : Int)
        rw [Nat.zero_add] at hM2
        have hI := hM2.ints (fun v hv => by
          rcases List.mem_or_eq_of_mem_set hv with h2 | h2
          · have := HOB.out v h2; omega
          · omega)
        rw [List.length_set, HOL.out] at hI
        have HI := Lib.hid hI
        have HV := Lib.hid (hM2.rowV (by rw [List.length_set]; exact HOL.out))
        have HBE := Lib.hid (below_setCell HBr.out G m (.int .i64 (lo : Int)) hGlo)
        have HNX : Hid (Od.next g l at_ = o.set m (lo : Int)) := by
          show _ = _
          unfold Od.next
          rw [hse, ← HOE.out, LN.out, LO.out]; rfl
        have e1 : (((m + 1 : Nat) : Int) - 1).toNat = m := by omega
        clear hM2 hI hse
        go_wp2
        go_ret2
        exact ⟨(K1.out.on HBE.out).bel, .inr ⟨_, _, _, HR.out.trans (by rw [HNX.out]), rfl, HI.out, HV.out, fun p hp => by cases hp; exact Nat.le_trans K1.out.bel.size hGlo⟩⟩
end Go.Proofs.YtekejcnphmnidaaGreatDoor
