import Derived.Deep.DeepMust
import Derived.Lib.SliceRun
import Derived.Test.YtekejcnphmnidaaGreatDoorZBa
namespace Go.Proofs.YtekejcnphmnidaaGreatDoor
namespace Gr
def timesF : Int → List Int → Int
  | n, [] => n
  | n, x :: r => if x < 1 ∨ 64 < x then 0 else if 4096 < n * x then 0 else timesF (n * x) r
def size (s : List Int) : Int := if s.length < 1 ∨ 4 < s.length then 0 else timesF 1 s
def chk (s : List Int) : Bool := decide (0 < size s)
def order (l : List Int) : Bool := ((List.range l.length).all fun i => hasB l (i : Int)) && decide (l.length ≤ 4)
def slides (rows look step : Int) : Int := if rows < look then 0 else Int.tdiv (rows - look) step + 1
theorem timesF_at (n : Int) (l : List Int) (k : Nat) (hk : k < l.length) :
    timesF n (l.drop k) = if nth l k < 1 ∨ 64 < nth l k then 0 else if 4096 < n * nth l k then 0 else timesF (n * nth l k) (l.drop (k + 1)) := by
  rw [List.drop_eq_getElem_cons hk, nth_eq l k hk]; rfl
theorem timesF_range : ∀ (l : List Int) (n : Int), 1 ≤ n → n ≤ 4096 → timesF n l = 0 ∨ (1 ≤ timesF n l ∧ timesF n l ≤ 4096)
  | [], n, h1, h2 => .inr ⟨h1, h2⟩
  | x :: r, n, h1, h2 => by
    unfold timesF
    split
    · exact .inl rfl
    · split
      · exact .inl rfl
      · rename_i hx hn
        refine timesF_range r (n * x) ?_ (by omega)
        have hp : 0 < n * x := Int.mul_pos (by omega) (by omega)
        omega
theorem size_range (s : List Int) : 0 ≤ size s ∧ size s ≤ 4096 := by
  unfold size
  split
  · omega
  · rcases timesF_range s 1 (by omega) (by omega) with h | h <;> omega
theorem chk_size {s : List Int} (h : chk s = true) : 0 < size s := by unfold chk at h; simpa using h
theorem timesF_pos : ∀ (l : List Int) (n : Int), 0 < timesF n l → ∀ x ∈ l, 1 ≤ x ∧ x ≤ 64
  | [], _, _, x, hx => by cases hx
  | y :: r, n, h, x, hx => by
    unfold timesF at h
    split at h
    · omega
    · rename_i hy
      split at h
      · omega
      · cases hx with
        | head => omega
        | tail _ hx => exact timesF_pos r _ h x hx
theorem chk_parts {s : List Int} (h : chk s = true) : 1 ≤ s.length ∧ s.length ≤ 4 ∧ ∀ x ∈ s, 1 ≤ x ∧ x ≤ 64 := by
  have h0 := chk_size h
  unfold size at h0
  split at h0
  · omega
  · rename_i hl
    exact ⟨by omega, by omega, timesF_pos s 1 h0⟩
theorem order_hit {l : List Int} {k : Nat} (hk : k < l.length) (h : hasB l (k : Int) = false) : order l = false := by
  unfold order
  have : ((List.range l.length).all fun i => hasB l (i : Int)) = false := by
    rw [List.all_eq_false]
    exact ⟨k, List.mem_range.2 hk, by simp [h]⟩
  rw [this]; rfl
theorem order_all {l : List Int} (h : ∀ i : Nat, i < l.length → hasB l (i : Int) = true) : order l = decide (l.length ≤ 4) := by
  unfold order
  have : ((List.range l.length).all fun i => hasB l (i : Int)) = true := by
    rw [List.all_eq_true]
    exact fun i hi => h i (List.mem_range.1 hi)
  rw [this]; rfl
theorem slides_range (rows look step : Int) (h0 : -9223372036854775808 ≤ rows - look) (h : rows - look < 9223372036854775807) (hs : 1 ≤ step) : 0 ≤ slides rows look step ∧ slides rows look step ≤ 9223372036854775807 := by
  unfold slides
  split
  · omega
  · rename_i hl
    rw [Int.tdiv_eq_ediv_of_nonneg (by omega)]
    have h1 := Int.ediv_nonneg (a := rows - look) (b := step) (by omega) (by omega)
    have h2 : (rows - look) / step ≤ rows - look := Int.ediv_le_self _ (by omega)
    omega
structure Node where
  kind : Int
  inn : List Int
  shape : List Int
  n : Int
  pad : Int
structure Kind where
  least : Int
  most : Int
  low : Int
  high : Int
  around : Int
  shaped : Int
deriving DecidableEq
def kindOf (k : Int) : Option Kind :=
  if k = 1 then some ⟨0, 0, 0, 0, 0, 1⟩ else if k = 2 then some ⟨0, 0, 0, 0, 0, 1⟩ else if k = 3 then some ⟨2, 2, 0, 0, 0, 0⟩ else if k = 4 then some ⟨2, 2, 0, 0, 0, 0⟩
  else if k = 5 then some ⟨1, 1, 0, 0, 0, 0⟩ else if k = 6 then some ⟨1, 1, 0, 31, 0, 0⟩ else if k = 7 then some ⟨2, 2, 0, 0, 0, 0⟩ else if k = 8 then some ⟨2, 2, 1, 8, 8, 0⟩
  else if k = 9 then some ⟨1, 1, 1, 64, 0, 0⟩ else if k = 10 then some ⟨1, 1, 0, 0, 0, 1⟩ else if k = 11 then some ⟨1, 1, 0, 0, 0, 2⟩ else if k = 12 then some ⟨1, 4, 0, 3, 0, 0⟩
  else if k = 13 then some ⟨1, 1, 0, 3, 0, 0⟩ else none
def ofB (k : Kind) (x : Node) : Bool :=
  if (x.inn.length : Int) < k.least ∨ k.most < (x.inn.length : Int) ∨ x.n < k.low ∨ k.high < x.n ∨ x.pad < 0 ∨ k.around < x.pad then false
  else if k.shaped = 0 then decide ((x.shape.length : Int) = 0) else if k.shaped = 1 then chk x.shape else order x.shape
def product (a b : List Int) : List Int :=
  if chk a = false ∨ chk b = false then [] else if a.length ≠ 2 ∨ b.length ≠ 2 ∨ nth a 1 ≠ nth b 0 then [] else [nth a 0, nth b 1]
def window (t w : List Int) (step pad : Int) : List Int :=
  if chk t = false ∨ chk w = false ∨ step < 1 ∨ 8 < step ∨ pad < 0 ∨ 8 < pad then []
  else if t.length ≠ 3 ∨ w.length ≠ 4 ∨ nth t 0 ≠ nth w 1 then []
  else
    let s := [nth w 0, slides (nth t 1 + 2 * pad) (nth w 2) step, slides (nth t 2 + 2 * pad) (nth w 3) step]
    if chk s then s else []
def pool (t : List Int) (wide : Int) : List Int :=
  if chk t = false ∨ wide < 1 ∨ 64 < wide then [] else if t.length ≠ 3 ∨ min (nth t 1) (nth t 2) < wide then [] else [nth t 0, slides (nth t 1) wide wide, slides (nth t 2) wide wide]
end Gr
end Go.Proofs.YtekejcnphmnidaaGreatDoor
namespace Go.Proofs.YtekejcnphmnidaaGreatDoor
open Go.RowKit
set_option maxHeartbeats 1000000 in
theorem times_any (a : Option Addr) (len cap : Nat) (l : List Int) (w : World) (H : Ints w a len cap l) :
    Calls Tryz.prog 195 #[.slice a len cap] w fun e w' => e = .returned (.int .i64 (Gr.timesF 1 l)) ∧ w = w' := by
  have hle := H.le
  have hcap := H.cap_le
  have HL := Lib.hid H.length
  have KH := Lib.hid H
  clear H
  go_enter Tryz.func195, Tryz.ntmps195
  go_wp2
  go_loop [3, 8] (fun p i => ∃ (k : Nat) (n : Int), k ≤ len ∧ i = .int .i64 k ∧ p = .int .i64 n ∧ 1 ≤ n ∧ n ≤ 4096 ∧ Hid (Gr.timesF 1 l = Gr.timesF n (l.drop k))) (fun _ i => len - (intOf i).toNat)
  case atStart => exact ⟨0, 1, Nat.zero_le _, rfl, rfl, by omega, by omega, rfl⟩
  case round =>
    obtain ⟨k, n, hk, rfl, rfl, hn0, hn1, HT⟩ := hrel
    by_cases hlt : k < len
    · obtain ⟨b, off, rfl, _, hc⟩ := KH.out.at_ (by omega)
      have hck := hc k hlt
      have HA := Lib.hid (Gr.timesF_at n l k (by rw [HL.out]; exact hlt))
      have hwf := KH.out.nth_wf hlt
      obtain ⟨hwf0, hwf1⟩ := hwf
      clear hc
      generalize nth l k = x at *
      by_cases h1 : x < 1
      · have HR := Lib.hid (show Gr.timesF 1 l = 0 by rw [HT.out, HA.out, if_pos (.inl h1)])
        have d1 : decide (x < 1) = true := decide_eq_true h1
        go_wp2
        go_ret
        exact ⟨by rw [HR.out]; rfl, rfl⟩
      · have d1 : decide (x < 1) = false := decide_eq_false h1
        by_cases h2 : 64 < x
        · have HR := Lib.hid (show Gr.timesF 1 l = 0 by rw [HT.out, HA.out, if_pos (.inr h2)])
          have d2 : decide (x > 64) = true := decide_eq_true h2
          go_wp2
          go_ret
          exact ⟨by rw [HR.out]; rfl, rfl⟩
        · have d2 : decide (x > 64) = false := decide_eq_false h2
          have hp0 : 0 < n * x := Int.mul_pos (by omega) (by omega)
          have hp1 : n * x ≤ 4096 * 64 := Int.mul_le_mul hn1 (by omega) (by omega) (by omega)
          by_cases h3 : 4096 < n * x
          · have HR := Lib.hid (show Gr.timesF 1 l = 0 by rw [HT.out, HA.out, if_neg (by omega), if_pos h3])
            have d3 : decide (n * x > 4096) = true := decide_eq_true h3
            go_wp2
            go_ret
            exact ⟨by rw [HR.out]; rfl, rfl⟩
          · have HR := Lib.hid (show Gr.timesF 1 l = Gr.timesF (n * x) (l.drop (k + 1)) by rw [HT.out, HA.out, if_neg (by omega), if_neg h3])
            have d3 : decide (n * x > 4096) = false := decide_eq_false h3
            go_wp2
            go_round
            case rel => exact ⟨k + 1, n * x, by omega, by go_num, by go_num, by omega, by omega, HR⟩
            case measure => simp [intOf]; omega
    · have HR := Lib.hid (show Gr.timesF 1 l = n by rw [HT.out, List.drop_eq_nil_of_le (by rw [HL.out]; omega)]; rfl)
      go_wp2
      go_ret
      exact ⟨by rw [HR.out]; rfl, rfl⟩
theorem size_any (a : Option Addr) (len cap : Nat) (l : List Int) (w : World) (H : Ints w a len cap l) :
    Calls Tryz.prog 123 #[.slice a len cap] w fun e w' => e = .returned (.int .i64 (Gr.size l)) ∧ w = w' := by
  have hle := H.le
  have hcap := H.cap_le
  have HL := Lib.hid H.length
  have KH := Lib.hid H
  clear H
  by_cases h1 : len < 1
  · have HR := Lib.hid (show Gr.size l = 0 by unfold Gr.size; rw [if_pos (by rw [HL.out]; omega)])
    have d1 : decide ((len : Int) < 1) = true := decide_eq_true (by omega)
    go_enter Tryz.func123, Tryz.ntmps123
    go_wp2
    go_ret
    exact ⟨by rw [HR.out]; rfl, rfl⟩
  · have d1 : decide ((len : Int) < 1) = false := decide_eq_false (by omega)
    by_cases h2 : 4 < len
    · have HR := Lib.hid (show Gr.size l = 0 by unfold Gr.size; rw [if_pos (by rw [HL.out]; omega)])
      have d2 : decide ((len : Int) > 4) = true := decide_eq_true (by omega)
      go_enter Tryz.func123, Tryz.ntmps123
      go_wp2
      go_ret
      exact ⟨by rw [HR.out]; rfl, rfl⟩
    · have HR := Lib.hid (show Gr.size l = Gr.timesF 1 l by unfold Gr.size; rw [if_neg (by rw [HL.out]; omega)])
      have d2 : decide ((len : Int) > 4) = false := decide_eq_false (by omega)
      go_enter Tryz.func123, Tryz.ntmps123
      go_wp2_with fail
      refine (times_any _ _ _ l _ KH.out).mono ?_
      rintro e w1 ⟨rfl, rfl⟩
      go_wp2
      go_ret
      exact ⟨by rw [HR.out]; rfl, rfl⟩
theorem check_any (a : Option Addr) (len cap : Nat) (l : List Int) (w : World) (H : Ints w a len cap l) :
    Calls Tryz.prog 114 #[.slice a len cap] w fun e w' => e = .returned (.bool (Gr.chk l)) ∧ w = w' := by
  have HC := Lib.hid (show Gr.chk l = decide (Gr.size l > 0) from rfl)
  go_enter Tryz.func114, Tryz.ntmps114
  go_wp2_with fail
  refine (size_any _ _ _ l _ H).mono ?_
  rintro e w1 ⟨rfl, rfl⟩
  go_wp2
  go_ret
  exact ⟨by rw [HC.out]; rfl, rfl⟩
set_option maxHeartbeats 1000000 in
theorem order_any (a : Option Addr) (len cap : Nat) (l : List Int) (w : World) (H : Ints w a len cap l) :
    Calls Tryz.prog 175 #[.slice a len cap] w fun e w' => e = .returned (.bool (Gr.order l)) ∧ w = w' := by
  have hle := H.le
  have hcap := H.cap_le
  have HL := Lib.hid H.length
  have KH := Lib.hid H
  clear H
  go_enter Tryz.func175, Tryz.ntmps175
  go_wp2
  go_loop [6] (fun i => ∃ k : Nat, k ≤ len ∧ i = .int .i64 k ∧ Hid (∀ j : Nat, j < k → hasB l (j : Int) = true)) (fun i => len - (intOf i).toNat)
  case atStart => exact ⟨0, Nat.zero_le _, rfl, fun j hj => absurd hj (Nat.not_lt_zero _)⟩
  case round =>
    obtain ⟨k, hk, rfl, HT⟩ := hrel
    by_cases hlt : k < len
    · cases hh : hasB l (k : Int) with
      | true =>
        have HN : Hid (∀ j : Nat, j < k + 1 → hasB l (j : Int) = true) := fun j hj => by
          rcases Nat.lt_succ_iff_lt_or_eq.1 hj with h | rfl
          · exact HT.out j h
          · exact hh
        have HH := Lib.hid hh; clear hh
        go_wp2_with fail
        refine (contains_any _ _ _ l _ _ KH.out).mono ?_
        rintro e w1 ⟨rfl, rfl⟩
        rw [HH.out]
        go_wp2
        go_round
        case rel => exact ⟨k + 1, by omega, by go_num, HN⟩
        case measure => simp [intOf]; omega
      | false =>
        have HR := Lib.hid (Gr.order_hit (l := l) (k := k) (by rw [HL.out]; exact hlt) hh)
        have HH := Lib.hid hh; clear hh
        go_wp2_with fail
        refine (contains_any _ _ _ l _ _ KH.out).mono ?_
        rintro e w1 ⟨rfl, rfl⟩
        rw [HH.out]
        go_wp2
        go_ret
        exact ⟨by rw [HR.out]; rfl, rfl⟩
    · have hkl : k = len := by omega
      subst hkl
      have HR : Hid (Gr.order l = decide ((k : Int) ≤ 4)) := by
        show _ = _
        rw [Gr.order_all (fun i hi => HT.out i (by rw [HL.out] at hi; exact hi)), HL.out]
        exact decide_eq_decide.2 (by omega)
      go_wp2
      go_ret
      exact ⟨by rw [HR.out]; rfl, rfl⟩
set_option maxHeartbeats 1000000 in
theorem equal_any (a b : Option Addr) (la ca lb cb : Nat) (l m : List Int) (w : World) (HA : Ints w a la ca l) (HB : Ints w b lb cb m) :
    Calls Tryz.prog 177 #[.slice a la ca, .slice b lb cb] w fun e w' => e = .returned (.bool (sameB l m)) ∧ ∃ n, w' = w.drewN n := by
  have KA := Lib.hid HA
  have KB := Lib.hid HB
  have ha1 := HA.le
  have ha2 := HA.cap_le
  have hb1 := HB.le
  have hb2 := HB.cap_le
  have LA := Lib.hid HA.length
  have LB := Lib.hid HB.length
  clear HA HB
  by_cases hl : la = lb
  · subst hl
    have hne : ((la : Int) != (la : Int)) = false := by simp
    go_enter Tryz.func177, Tryz.ntmps177
    go_wp2
    go_loopg [13] la (fun gg i wr => ∃ k : Nat, k ≤ la ∧ la - k ≤ gg ∧ i = .int .i64 k ∧ Hid (l.take k = m.take k) ∧ Hid (∃ n, wr = w.drewN n))
    case atStart => exact ⟨0, Nat.zero_le _, by omega, rfl, rfl, 0, rfl⟩
    case round =>
      obtain ⟨k, hk, hg, rfl, HT, HWr⟩ := hrel
      obtain ⟨nw, rfl⟩ := HWr.out
      by_cases hlt : k < la
      · obtain ⟨ba, oa, rfl, _, hca⟩ := KA.out.at_ (by omega)
        obtain ⟨bb, ob, rfl, _, hcb⟩ := KB.out.at_ (by omega)
        have hak := hca k hlt
        have hbk := hcb k hlt
        clear hca hcb
        by_cases hv : nth l k = nth m k
        · have HN := Lib.hid (take_more (by rw [LA.out]; exact hlt) (by rw [LB.out]; exact hlt) HT.out hv)
          have hvb : (nth l k != nth m k) = false := by simp [hv]
          clear hv
          go_wp2_with fail
          go_quiet (fail)
          go_wp2
          go_roundg (la - (k + 1))
          case measure => omega
          case rel => exact ⟨k + 1, by omega, by omega, by go_num, HN.out, ⟨_, rfl⟩⟩
        · have HN := Lib.hid (sameB_miss hv)
          have hvb : (nth l k != nth m k) = true := by simp [hv]
          clear hv
          go_wp2_with fail
          go_quiet (fail)
          go_wp2
          go_ret
          exact ⟨by rw [HN.out]; rfl, ⟨nw + nq, by simp⟩⟩
      · have HN := Lib.hid (sameB_end (l := l) (m := m) (k := k) (by rw [LA.out, LB.out]) (by rw [LA.out]; omega) HT.out)
        go_wp2
        go_ret
        exact ⟨by rw [HN.out]; rfl, ⟨_, rfl⟩⟩
  · have hne : ((la : Int) != (lb : Int)) = true := by simp; omega
    have HN := Lib.hid (sameB_len (l := l) (m := m) (by rw [LA.out, LB.out]; exact hl))
    clear hl
    go_enter Tryz.func177, Tryz.ntmps177
    go_wp2
    go_ret
    exact ⟨by rw [HN.out]; rfl, ⟨0, rfl⟩⟩
end Go.Proofs.YtekejcnphmnidaaGreatDoor
namespace Go.Proofs.YtekejcnphmnidaaGreatDoor
open Go.RowKit
namespace Gr
def looked (s o : List Int) : List Int := o.map fun k => nth s k.toNat
def turned (s o : List Int) : List Int := if s.length ≠ o.length then [] else looked s o
theorem looked_snoc (s o : List Int) (k : Nat) (hk : k < o.length) : looked s (o.take (k + 1)) = looked s (o.take k) ++ [Ev.at_ s (nth o k)] := by
  unfold looked; rw [take_snoc o k hk, List.map_append]; rfl
theorem looked_length (s o : List Int) : (looked s o).length = o.length := by unfold looked; simp
theorem looked_mem {s o : List Int} {n : Int} (h : n ∈ looked s o) : ∃ x ∈ o, nth s x.toNat = n := by unfold looked at h; simpa using h
end Gr
def ShapeS (w : World) (l : List Int) (e : Ending) (w' : World) : Prop := ∃ a len cap, e = .returned (.slice a len cap) ∧ Ints w' a len cap l ∧ Below w.heap.size w w'
set_option maxHeartbeats 2000000 in
theorem turned_any (a b : Option Addr) (la ca lb cb : Nat) (l m : List Int) (w : World) (HA : Ints w a la ca l) (HB : Ints w b lb cb m) (hm : la = lb → ∀ x ∈ m, 0 ≤ x ∧ x < (la : Int)) (hs : lb ≤ 1000000) :
    Calls Tryz.prog 181 #[.slice a la ca, .slice b lb cb] w fun e w' => ShapeS w (Gr.turned l m) e w' := by
  have KA := Lib.hid HA
  have KB := Lib.hid HB
  have ha1 := HA.le
  have ha2 := HA.cap_le
  have hb1 := HB.le
  have hb2 := HB.cap_le
  have LA := Lib.hid HA.length
  have LB := Lib.hid HB.length
  clear HA HB
  by_cases hl : la = lb
  · subst hl
    have HM := Lib.hid (hm rfl)
    have HR := Lib.hid (show Gr.turned l m = Gr.looked l m by unfold Gr.turned; rw [if_neg (by rw [LA.out, LB.out]; simp)])
    have hne : ((la : Int) != (la : Int)) = false := by simp
    clear hm
    go_enter Tryz.func181, Tryz.ntmps181
    go_wp2
    go_loopg [4, 14] la (fun gg v i wr => ∃ k : Nat, k ≤ la ∧ la - k ≤ gg ∧ i = .int .i64 k ∧ Hid (Own w.heap.size wr v (Gr.looked l (m.take k))) ∧ Hid (Below w.heap.size w wr))
    case atStart => exact ⟨0, Nat.zero_le _, by omega, rfl, Own.nil _ _, Below.refl _ _⟩
    case round =>
      obtain ⟨k, hk, hg, rfl, HO, HWr⟩ := hrel
      by_cases hlt : k < la
      · have hkm : k < m.length := by rw [LB.out]; exact hlt
        obtain ⟨hv0, hv1⟩ := HM.out (nth m k) (nth_mem m k hkm)
        have HS := Lib.hid (Gr.looked_snoc l m k hkm)
        obtain ⟨bb, ob, rfl, _, hcb⟩ := (KB.out.below HWr.out).at_ (by omega)
        have hbk := hcb k hlt
        obtain ⟨ba, oa, rfl, _, hca⟩ := (KA.out.below HWr.out).get (x := nth m k) hv0 hv1
        clear hcb
        go_wp2_with (at_builtin; go_must (refine wpList_app1 _ rfl _ _ rfl w.heap.size _ _ _ HO.out rfl rfl HWr.out.size ?c1 ?_))
        case c1 => rw [Gr.looked_length, List.length_take]; omega
        intro v' w3 hown' hbel hgrow
        have HO' := Lib.hid hown'
        have HW3 : Hid (Below w.heap.size w w3) := HWr.out.trans hbel
        clear hown' hbel hgrow
        go_wp2
        go_roundg (la - (k + 1))
        case measure => omega
        case rel => exact ⟨k + 1, by omega, by omega, by go_num, by rw [HS.out]; exact HO', HW3⟩
      · have hkm : m.length ≤ k := by rw [LB.out]; omega
        rw [List.take_of_length_le hkm, ← HR.out] at HO
        have hwf : ∀ n ∈ Gr.turned l m, -9223372036854775808 ≤ n ∧ n ≤ 9223372036854775807 := fun n hn => by
          rw [HR.out] at hn
          obtain ⟨x, hx, rfl⟩ := Gr.looked_mem hn
          obtain ⟨hx0, hx1⟩ := HM.out x hx
          exact KA.out.nth_wf (by omega)
        obtain ⟨ar, lr, cr, rfl, HRi, _⟩ := HO.out.ints hwf
        have KR := Lib.hid HRi
        clear HO HRi hwf
        go_wp2
        go_ret
        exact ⟨_, _, _, rfl, KR.out, HWr.out⟩
  · have hne : ((la : Int) != (lb : Int)) = true := by simp; omega
    have HR := Lib.hid (show Gr.turned l m = [] by unfold Gr.turned; rw [if_pos (by rw [LA.out, LB.out]; exact hl)])
    clear hl hm
    go_enter Tryz.func181, Tryz.ntmps181
    go_wp2
    go_ret
    exact ⟨_, _, _, rfl, by rw [HR.out]; exact Ints.nil, Below.refl _ _⟩
end Go.Proofs.YtekejcnphmnidaaGreatDoor
namespace Go.Proofs.YtekejcnphmnidaaGreatDoor
open Go.RowKit
def kindV (k : Gr.Kind) : Value := .agg #[.int .i64 k.least, .int .i64 k.most, .int .i64 k.low, .int .i64 k.high, .int .i64 k.around, .int .i64 k.shaped]
set_option maxHeartbeats 2000000 in
theorem kindof_any (least most low high around shaped kd n pad : Int) (ai sa : Option Addr) (li ci ls cs : Nat) (inn shape : List Int) (w : World) (HI : Ints w ai li ci inn) (HS : Ints w sa ls cs shape) :
    Calls Tryz.prog 109 #[.agg #[.int .i64 least, .int .i64 most, .int .i64 low, .int .i64 high, .int .i64 around, .int .i64 shaped], .agg #[.int .u8 kd, .slice ai li ci, .slice sa ls cs, .int .i64 n, .int .i64 pad]] w
      fun e w' => e = .returned (.bool (Gr.ofB ⟨least, most, low, high, around, shaped⟩ ⟨kd, inn, shape, n, pad⟩)) ∧ Below w.heap.size w w' := by
  have hle := HI.le
  have hcap := HI.cap_le
  have hls := HS.le
  have hcs := HS.cap_le
  have LI := Lib.hid HI.length
  have LS := Lib.hid HS.length
  have KS := Lib.hid HS
  have hB : Hid (∀ o1 o2, Below w.heap.size w ((w.alloc o1).alloc o2)) := fun o1 o2 => ((Below.refl _ _).alloc (Nat.le_refl _) _).alloc (by simp) _
  clear HI HS
  have HO : Hid (Gr.ofB ⟨least, most, low, high, around, shaped⟩ ⟨kd, inn, shape, n, pad⟩ = if (li : Int) < least ∨ most < (li : Int) ∨ n < low ∨ high < n ∨ pad < 0 ∨ around < pad then false
      else if shaped = 0 then decide ((ls : Int) = 0) else if shaped = 1 then Gr.chk shape else Gr.order shape) := by
    show _ = _
    unfold Gr.ofB; simp only [LI.out, LS.out]
  by_cases c : (li : Int) < least ∨ most < (li : Int) ∨ n < low ∨ high < n ∨ pad < 0 ∨ around < pad
  · have HR := Lib.hid (HO.out.trans (if_pos c))
    by_cases c1 : (li : Int) < least
    · have d1 : decide ((li : Int) < least) = true := decide_eq_true c1
      clear c c1 HO
      go_enter Tryz.func109, Tryz.ntmps109
      go_wp2
      go_ret
      exact ⟨by rw [HR.out]; rfl, hB.out _ _⟩
    · have d1 : decide ((li : Int) < least) = false := decide_eq_false c1
      by_cases c2 : most < (li : Int)
      · have d2 : decide ((li : Int) > most) = true := decide_eq_true c2
        clear c c1 c2 HO
        go_enter Tryz.func109, Tryz.ntmps109
        go_wp2
        go_ret
        exact ⟨by rw [HR.out]; rfl, hB.out _ _⟩
      · have d2 : decide ((li : Int) > most) = false := decide_eq_false c2
        by_cases c3 : n < low
        · have d3 : decide (n < low) = true := decide_eq_true c3
          clear c c1 c2 c3 HO
          go_enter Tryz.func109, Tryz.ntmps109
          go_wp2
          go_ret
          exact ⟨by rw [HR.out]; rfl, hB.out _ _⟩
        · have d3 : decide (n < low) = false := decide_eq_false c3
          by_cases c4 : high < n
          · have d4 : decide (n > high) = true := decide_eq_true c4
            clear c c1 c2 c3 c4 HO
            go_enter Tryz.func109, Tryz.ntmps109
            go_wp2
            go_ret
            exact ⟨by rw [HR.out]; rfl, hB.out _ _⟩
          · have d4 : decide (n > high) = false := decide_eq_false c4
            by_cases c5 : pad < 0
            · have d5 : decide (pad < 0) = true := decide_eq_true c5
              clear c c1 c2 c3 c4 c5 HO
              go_enter Tryz.func109, Tryz.ntmps109
              go_wp2
              go_ret
              exact ⟨by rw [HR.out]; rfl, hB.out _ _⟩
            · have d5 : decide (pad < 0) = false := decide_eq_false c5
              have d6 : decide (pad > around) = true := decide_eq_true (by omega)
              clear c c1 c2 c3 c4 c5 HO
              go_enter Tryz.func109, Tryz.ntmps109
              go_wp2
              go_ret
              exact ⟨by rw [HR.out]; rfl, hB.out _ _⟩
  · have d1 : decide ((li : Int) < least) = false := decide_eq_false (by omega)
    have d2 : decide ((li : Int) > most) = false := decide_eq_false (by omega)
    have d3 : decide (n < low) = false := decide_eq_false (by omega)
    have d4 : decide (n > high) = false := decide_eq_false (by omega)
    have d5 : decide (pad < 0) = false := decide_eq_false (by omega)
    have d6 : decide (pad > around) = false := decide_eq_false (by omega)
    have HO2 := Lib.hid (HO.out.trans (if_neg c))
    have KS2 : Hid (∀ o1 o2, Ints ((w.alloc o1).alloc o2) sa ls cs shape) := fun o1 o2 => KS.out.below (((Below.refl _ _).alloc (Nat.le_refl _) _).alloc (by simp) _)
    clear c HO
    by_cases s0 : shaped = 0
    · have HR := Lib.hid (HO2.out.trans (if_pos s0))
      have e0 : (shaped == 0) = true := by simp [s0]
      have HE : Hid (decide ((ls : Int) = 0) = ((ls : Int) == 0)) := rfl
      clear s0 HO2
      go_enter Tryz.func109, Tryz.ntmps109
      go_wp2
      go_ret
      exact ⟨by rw [HR.out, HE.out]; rfl, hB.out _ _⟩
    · have e0 : (shaped == 0) = false := by simp [s0]
      have HO3 := Lib.hid (HO2.out.trans (if_neg s0))
      by_cases s1 : shaped = 1
      · have e1 : (shaped == 1) = true := by simp [s1]
        have HR := Lib.hid (HO3.out.trans (if_pos s1))
        clear s0 s1 HO2 HO3
        go_enter Tryz.func109, Tryz.ntmps109
        go_wp2_with fail
        refine (check_any _ _ _ shape _ (KS2.out _ _)).mono ?_
        rintro e w1 ⟨rfl, rfl⟩
        go_wp2
        go_ret
        exact ⟨by rw [HR.out]; rfl, hB.out _ _⟩
      · have e1 : (shaped == 1) = false := by simp [s1]
        have HR := Lib.hid (HO3.out.trans (if_neg s1))
        clear s0 s1 HO2 HO3
        go_enter Tryz.func109, Tryz.ntmps109
        go_wp2_with fail
        refine (order_any _ _ _ shape _ (KS2.out _ _)).mono ?_
        rintro e w1 ⟨rfl, rfl⟩
        go_wp2
        go_ret
        exact ⟨by rw [HR.out]; rfl, hB.out _ _⟩
theorem slides_any (rows look step : Int) (w : World) (h0 : -9223372036854775808 ≤ rows) (h1 : rows ≤ 4096) (h2 : 0 ≤ look) (h3 : look ≤ 4096) (h4 : 1 ≤ step) (h5 : step ≤ 4096) :
    Calls Tryz.prog 203 #[.int .i64 rows, .int .i64 look, .int .i64 step] w fun e w' => e = .returned (.int .i64 (Gr.slides rows look step)) ∧ w = w' := by
  by_cases c : rows < look
  · have d1 : decide (rows < look) = true := decide_eq_true c
    have HR := Lib.hid (show Gr.slides rows look step = 0 by unfold Gr.slides; rw [if_pos c])
    go_enter Tryz.func203, Tryz.ntmps203
    go_wp2
    go_ret
    exact ⟨by rw [HR.out]; rfl, rfl⟩
  · have d1 : decide (rows < look) = false := decide_eq_false c
    have HR := Lib.hid (show Gr.slides rows look step = Int.tdiv (rows - look) step + 1 by unfold Gr.slides; rw [if_neg c])
    have hq0 : 0 ≤ Int.tdiv (rows - look) step := by rw [Int.tdiv_eq_ediv_of_nonneg (by omega)]; exact Int.ediv_nonneg (by omega) (by omega)
    have hq1 : Int.tdiv (rows - look) step ≤ rows - look := by rw [Int.tdiv_eq_ediv_of_nonneg (by omega)]; exact Int.ediv_le_self _ (by omega)
    have hz : (step == 0) = false := by simp; omega
    go_enter Tryz.func203, Tryz.ntmps203
    go_wp2
    go_ret
    exact ⟨by rw [HR.out]; rfl, rfl⟩
end Go.Proofs.YtekejcnphmnidaaGreatDoor
namespace Go.Proofs.YtekejcnphmnidaaGreatDoor
open Go.RowKit
end Go.Proofs.YtekejcnphmnidaaGreatDoor
namespace Go.Proofs.YtekejcnphmnidaaGreatDoor
open Go.RowKit
set_option maxHeartbeats 2000000 in
set_option maxRecDepth 100000 in
theorem clone_any (a : Option Addr) (len cap : Nat) (l : List Int) (w : World) (H : Ints w a len cap l) (hbig : len ≤ 1000000) :
    Calls Tryz.prog 184 #[.slice a len cap] w fun e w' => ∃ v, e = .returned v ∧ Own w.heap.size w' v l ∧ Below w.heap.size w w' := by
  obtain ⟨i0, hi, hz0, hz1, hz2⟩ := info_parts Tryz.info3
  have q22 : ∀ (w : World) (a : Option Addr) (n c n' c' : Nat), (binOp .eql 22 (.slice a n c) (.slice none n' c')).run Tryz.prog w = .ok (.bool a.isNone) w := fun w a n c n' c' => Lib.run_eql_slice_nil w _ _ a n c n' c' Tryz.underlying22
  cases a with
  | none =>
    have hl : l = [] := List.eq_nil_of_length_eq_zero (by
      rw [H.length]
      apply Nat.eq_zero_of_not_pos
      intro h0
      obtain ⟨_, _, e, _⟩ := H.at_ h0
      cases e)
    have HL := Lib.hid hl
    clear H hl
    go_enter Tryz.func184, Tryz.ntmps184
    go_wp2
    go_ret
    exact ⟨_, rfl, by rw [HL.out]; exact Own.nil _ _, Below.refl _ _⟩
  | some ad =>
    have KH := Lib.hid H
    clear H
    go_enter Tryz.func184, Tryz.ntmps184
    go_wp2_with (at_builtin; go_must (refine wpList_append_own _ rfl _ _ 22 rfl w.heap.size 3 i0 (.int .i64 0) 1 8 Tryz.underlying22 hi hz0 hz1 hz2 rfl (by decide) _ _ _ rfl (World.ownsRow_made w #[] 0 (Nat.le_refl _) (Nat.zero_le _) rfl) ad len cap (l.map (Value.int .i64)) rfl ?qc1 ?qc2 ?qc3 ?qc4 ?qc5 ?qc6 ?_))
    case qc1 => rw [List.length_map, KH.out.length]; omega
    case qc2 =>
      intro j u hj
      have hjl : j < l.length := by have := (List.getElem?_eq_some_iff.1 hj).1; simpa using this
      obtain ⟨b, off, e, hlt, hc⟩ := KH.out.at_ (by rw [← KH.out.length]; omega)
      simp only [Option.some.injEq] at e
      subst e
      rw [Addr.add_lit]
      refine Lib.cell?_alloc_some _ ?_
      rw [hc j (by rw [← KH.out.length]; exact hjl), nth_eq l j hjl]
      rw [List.getElem?_map, List.getElem?_eq_getElem hjl] at hj
      simpa using hj
    case qc3 => intro u hu; obtain ⟨x, _, rfl⟩ := List.mem_map.1 hu; rfl
    case qc4 => unfold maxLen; omega
    case qc5 => omega
    case qc6 => simp
    intro v' w1 hown hgrow hnil
    have HL := Lib.hid KH.out.length
    go_wp2
    go_ret
    refine ⟨v', rfl, ?_, ?_⟩
    · unfold Own; rw [HL.out]; simpa using hown
    · exact ((Below.refl _ w).alloc (Nat.le_refl _) _).grown hgrow (by simp) (by intro k hk; simp [Value.ownBlock] at hk; omega)
end Go.Proofs.YtekejcnphmnidaaGreatDoor
namespace Go.Proofs.YtekejcnphmnidaaGreatDoor
open Go.RowKit
def ShapeE (w : World) (l : List Int) (e : Ending) (w' : World) : Prop := ∃ a len cap E, e = .returned (.tuple #[.slice a len cap, .int .i64 E]) ∧ Ints w' a len cap l ∧ Below w.heap.size w w'
theorem shapeE_nil {w w' : World} {l : List Int} {E : Int} (hl : l = []) (hb : Below w.heap.size w w') : ShapeE w l (.returned (.tuple #[.slice none 0 0, .int .i64 E])) w' :=
  ⟨none, 0, 0, E, rfl, by rw [hl]; exact Ints.nil, hb⟩
set_option maxRecDepth 100000 in
set_option maxHeartbeats 2000000 in
theorem product_any (a b : Option Addr) (la ca lb cb : Nat) (l m : List Int) (w : World) (HA : Ints w a la ca l) (HB : Ints w b lb cb m) :
    Calls Tryz.prog 178 #[.slice a la ca, .slice b lb cb] w fun e w' => ShapeE w (Gr.product l m) e w' := by
  have KA := Lib.hid HA
  have KB := Lib.hid HB
  have ha1 := HA.le
  have ha2 := HA.cap_le
  have hb1 := HB.le
  have hb2 := HB.cap_le
  have LA := Lib.hid HA.length
  have LB := Lib.hid HB.length
  clear HA HB
  cases hcl : Gr.chk l with
  | false =>
    have HR := Lib.hid (show Gr.product l m = [] by unfold Gr.product; rw [if_pos (.inl hcl)])
    have HC := Lib.hid hcl; clear hcl
    go_enter Tryz.func178, Tryz.ntmps178
    go_wp2_with fail
    refine (check_any _ _ _ l _ KA.out).mono ?_
    rintro e w1 ⟨rfl, rfl⟩
    rw [HC.out]
    go_wp2
    go_ret2
    exact shapeE_nil HR.out (Below.refl _ _)
  | true =>
    have HC := Lib.hid hcl
    cases hcm : Gr.chk m with
    | false =>
      have HR := Lib.hid (show Gr.product l m = [] by unfold Gr.product; rw [if_pos (.inr hcm)])
      have HD := Lib.hid hcm; clear hcl hcm
      go_enter Tryz.func178, Tryz.ntmps178
      go_wp2_with fail
      refine (check_any _ _ _ l _ KA.out).mono ?_
      rintro e w1 ⟨rfl, rfl⟩
      rw [HC.out]
      go_wp2_with fail
      refine (check_any _ _ _ m _ KB.out).mono ?_
      rintro e w1 ⟨rfl, rfl⟩
      rw [HD.out]
      go_wp2
      go_ret2
      exact shapeE_nil HR.out (Below.refl _ _)
    | true =>
      have HD := Lib.hid hcm
      have HP := Lib.hid (show Gr.product l m = if l.length ≠ 2 ∨ m.length ≠ 2 ∨ nth l 1 ≠ nth m 0 then [] else [nth l 0, nth m 1] by unfold Gr.product; rw [if_neg (by simp [hcl, hcm])])
      clear hcl hcm
      have start : ∀ (P : Prop), P → P := fun _ h => h
      clear start
      by_cases h1 : la = 2
      · subst h1
        have e1 : ((2 : Int) != 2) = false := rfl
        by_cases h2 : lb = 2
        · subst h2
          obtain ⟨ba, oa, rfl, _, hca⟩ := KA.out.at_ (by omega)
          obtain ⟨bb, ob, rfl, _, hcb⟩ := KB.out.at_ (by omega)
          have a0 := hca 0 (by omega)
          have a1 := hca 1 (by omega)
          have b0 := hcb 0 (by omega)
          have b1 := hcb 1 (by omega)
          rw [Nat.add_zero] at a0 b0
          have wa := KA.out.nth_wf (k := 0) (by omega)
          have wb := KB.out.nth_wf (k := 1) (by omega)
          clear hca hcb
          by_cases h3 : nth l 1 = nth m 0
          · have e3 : (nth l 1 != nth m 0) = false := by simp [h3]
            have HR := Lib.hid (show Gr.product l m = [nth l 0, nth m 1] by rw [HP.out, if_neg (by rw [LA.out, LB.out]; simp [h3])])
            clear h3
            go_enter Tryz.func178, Tryz.ntmps178
            go_wp2_with fail
            refine (check_any _ _ _ l _ KA.out).mono ?_
            rintro e w1 ⟨rfl, rfl⟩
            rw [HC.out]
            go_wp2_with fail
            refine (check_any _ _ _ m _ KB.out).mono ?_
            rintro e w1 ⟨rfl, rfl⟩
            rw [HD.out]
            go_wp2_with fail
            go_quiet (fail)
            go_wp2_with fail
            have HM := Lib.hid (below_drewN w nq w.heap.size)
            have hz2 : (w.drewN nq).heap.size = w.heap.size := rfl
            have a0' : (w.drewN nq).cell? ⟨ba, oa, none⟩ = some (.int .i64 (nth l 0)) := a0
            have b1' : (w.drewN nq).cell? ⟨bb, ob + 1, none⟩ = some (.int .i64 (nth m 1)) := b1
            clear a0 a1 b0 b1
            generalize w.drewN nq = w2 at *
            refine wp_region_still_tail 6 mixed (by kernel_rfl) ?_
            simp only [List.take_succ_cons, List.take_zero, List.drop_succ_cons, List.drop_zero]
            change wpStill _ _ w2.drew _ _ _
            repeat still_step
            refine wpStill_nil ?_
            change wpList _ _ _ _ _ w2.drew
            have HD2 := Lib.hid (HM.out.drew)
            have hz3 : w2.drew.heap.size = w.heap.size := hz2
            generalize w2.drew = w3 at *
            go_wp2
            go_ret2
            exact ⟨_, _, _, _, rfl, by rw [HR.out, ← hz3]; exact ints_two _ _ _ wa wb, HD2.out.alloc (by omega) _⟩
          · have e3 : (nth l 1 != nth m 0) = true := by simp [h3]
            have HR := Lib.hid (show Gr.product l m = [] by rw [HP.out, if_pos (.inr (.inr h3))])
            clear h3
            go_enter Tryz.func178, Tryz.ntmps178
            go_wp2_with fail
            refine (check_any _ _ _ l _ KA.out).mono ?_
            rintro e w1 ⟨rfl, rfl⟩
            rw [HC.out]
            go_wp2_with fail
            refine (check_any _ _ _ m _ KB.out).mono ?_
            rintro e w1 ⟨rfl, rfl⟩
            rw [HD.out]
            go_wp2_with fail
            go_quiet (fail)
            go_wp2
            go_ret2
            exact shapeE_nil HR.out (below_drewN _ _ _)
        · have e2 : ((lb : Int) != 2) = true := by simp; omega
          have HR := Lib.hid (show Gr.product l m = [] by rw [HP.out, if_pos (.inr (.inl (by rw [LB.out]; exact h2)))])
          clear h2
          go_enter Tryz.func178, Tryz.ntmps178
          go_wp2_with fail
          refine (check_any _ _ _ l _ KA.out).mono ?_
          rintro e w1 ⟨rfl, rfl⟩
          rw [HC.out]
          go_wp2_with fail
          refine (check_any _ _ _ m _ KB.out).mono ?_
          rintro e w1 ⟨rfl, rfl⟩
          rw [HD.out]
          go_wp2_with fail
          go_quiet (fail)
          go_wp2
          go_ret2
          exact shapeE_nil HR.out (below_drewN _ _ _)
      · have e1 : ((la : Int) != 2) = true := by simp; omega
        have HR := Lib.hid (show Gr.product l m = [] by rw [HP.out, if_pos (.inl (by rw [LA.out]; exact h1))])
        clear h1
        go_enter Tryz.func178, Tryz.ntmps178
        go_wp2_with fail
        refine (check_any _ _ _ l _ KA.out).mono ?_
        rintro e w1 ⟨rfl, rfl⟩
        rw [HC.out]
        go_wp2_with fail
        refine (check_any _ _ _ m _ KB.out).mono ?_
        rintro e w1 ⟨rfl, rfl⟩
        rw [HD.out]
        go_wp2_with fail
        go_quiet (fail)
        go_wp2
        go_ret2
        exact shapeE_nil HR.out (below_drewN _ _ _)
end Go.Proofs.YtekejcnphmnidaaGreatDoor
namespace Go.Proofs.YtekejcnphmnidaaGreatDoor
open Go.RowKit
namespace Gr
def mn (x y : Int) : Int := if y < x then y else x
theorem mn_eq (x y : Int) : mn x y = min x y := by unfold mn; split <;> omega
end Gr
theorem ints_three (w : World) (x y z : Int) (hx : -9223372036854775808 ≤ x ∧ x ≤ 9223372036854775807) (hy : -9223372036854775808 ≤ y ∧ y ≤ 9223372036854775807) (hz : -9223372036854775808 ≤ z ∧ z ≤ 9223372036854775807) :
    Ints (w.alloc (.cells #[.int .i64 x, .int .i64 y, .int .i64 z] 3)) (some ⟨w.heap.size, 0, none⟩) 3 3 [x, y, z] := by
  refine ⟨Nat.le_refl _, by omega, rfl, fun n hn => ?_, fun _ => ⟨w.heap.size, 0, rfl, by simp, fun i hi => ?_⟩⟩
  · simp only [List.mem_cons, List.not_mem_nil, or_false] at hn
    rcases hn with rfl | rfl | rfl <;> assumption
  · rcases (by omega : i = 0 ∨ i = 1 ∨ i = 2) with rfl | rfl | rfl <;> (rw [Nat.zero_add, World.cell?_alloc_at _ _ _ _ rfl]; rfl)
theorem min_run (w : World) (tys : Array TypeId) (t : TypeId) (x y : Int) : (Builtin.min_ tys t #[.int .i64 x, .int .i64 y]).run Tryz.prog w = .ok (.int .i64 (Gr.mn x y)) w := rfl
set_option maxRecDepth 100000 in
set_option maxHeartbeats 2000000 in
theorem pool_any (a : Option Addr) (la ca : Nat) (l : List Int) (wide : Int) (w : World) (HA : Ints w a la ca l) :
    Calls Tryz.prog 180 #[.slice a la ca, .int .i64 wide] w fun e w' => ShapeE w (Gr.pool l wide) e w' := by
  have KA := Lib.hid HA
  have ha1 := HA.le
  have ha2 := HA.cap_le
  have LA := Lib.hid HA.length
  clear HA
  cases hcl : Gr.chk l with
  | false =>
    have HR := Lib.hid (show Gr.pool l wide = [] by unfold Gr.pool; rw [if_pos (.inl hcl)])
    have HC := Lib.hid hcl; clear hcl
    go_enter Tryz.func180, Tryz.ntmps180
    go_wp2_with fail
    refine (check_any _ _ _ l _ KA.out).mono ?_
    rintro e w1 ⟨rfl, rfl⟩
    rw [HC.out]
    go_wp2
    go_ret2
    exact shapeE_nil HR.out (Below.refl _ _)
  | true =>
    have HC := Lib.hid hcl
    have HD := Lib.hid (Gr.chk_parts hcl).2.2
    by_cases c1 : wide < 1
    · have HR := Lib.hid (show Gr.pool l wide = [] by unfold Gr.pool; rw [if_pos (.inr (.inl c1))])
      have d1 : decide (wide < 1) = true := decide_eq_true c1
      clear hcl c1
      go_enter Tryz.func180, Tryz.ntmps180
      go_wp2_with fail
      refine (check_any _ _ _ l _ KA.out).mono ?_
      rintro e w1 ⟨rfl, rfl⟩
      rw [HC.out]
      go_wp2
      go_ret2
      exact shapeE_nil HR.out (Below.refl _ _)
    · have d1 : decide (wide < 1) = false := decide_eq_false c1
      by_cases c2 : 64 < wide
      · have HR := Lib.hid (show Gr.pool l wide = [] by unfold Gr.pool; rw [if_pos (.inr (.inr c2))])
        have d2 : decide (wide > 64) = true := decide_eq_true c2
        clear hcl c1 c2
        go_enter Tryz.func180, Tryz.ntmps180
        go_wp2_with fail
        refine (check_any _ _ _ l _ KA.out).mono ?_
        rintro e w1 ⟨rfl, rfl⟩
        rw [HC.out]
        go_wp2
        go_ret2
        exact shapeE_nil HR.out (Below.refl _ _)
      · have d2 : decide (wide > 64) = false := decide_eq_false c2
        have HP := Lib.hid (show Gr.pool l wide = if l.length ≠ 3 ∨ min (nth l 1) (nth l 2) < wide then [] else [nth l 0, Gr.slides (nth l 1) wide wide, Gr.slides (nth l 2) wide wide] by unfold Gr.pool; rw [if_neg (by simp [hcl]; omega)])
        by_cases c3 : la = 3
        · subst c3
          obtain ⟨ba, oa, rfl, _, hca⟩ := KA.out.at_ (by omega)
          have a0 := hca 0 (by omega)
          have a1 := hca 1 (by omega)
          have a2 := hca 2 (by omega)
          rw [Nat.add_zero] at a0
          obtain ⟨x0, x1⟩ := HD.out _ (nth_mem l 0 (by rw [LA.out]; omega))
          obtain ⟨y0, y1⟩ := HD.out _ (nth_mem l 1 (by rw [LA.out]; omega))
          obtain ⟨z0, z1⟩ := HD.out _ (nth_mem l 2 (by rw [LA.out]; omega))
          have e3 : ((3 : Int) != 3) = false := rfl
          have hmin := min_run
          by_cases c4 : Gr.mn (nth l 1) (nth l 2) < wide
          · have d4 : decide (Gr.mn (nth l 1) (nth l 2) < wide) = true := decide_eq_true c4
            have HR := Lib.hid (show Gr.pool l wide = [] by rw [HP.out, if_pos (.inr (by rw [← Gr.mn_eq]; exact c4))])
            clear hca hcl c4
            go_enter Tryz.func180, Tryz.ntmps180
            go_wp2_with fail
            refine (check_any _ _ _ l _ KA.out).mono ?_
            rintro e w1 ⟨rfl, rfl⟩
            rw [HC.out]
            go_wp2_with fail
            go_quiet (fail)
            go_wp2
            go_ret2
            exact shapeE_nil HR.out (below_drewN _ _ _)
          · have d4 : decide (Gr.mn (nth l 1) (nth l 2) < wide) = false := decide_eq_false c4
            have HR := Lib.hid (show Gr.pool l wide = [nth l 0, Gr.slides (nth l 1) wide wide, Gr.slides (nth l 2) wide wide] by rw [HP.out, if_neg (by rw [← Gr.mn_eq, LA.out]; simp; omega)])
            clear hca hcl c4
            go_enter Tryz.func180, Tryz.ntmps180
            go_wp2_with fail
            refine (check_any _ _ _ l _ KA.out).mono ?_
            rintro e w1 ⟨rfl, rfl⟩
            rw [HC.out]
            go_wp2_with fail
            go_quiet (fail)
            go_wp2_with fail
            have HM := Lib.hid (below_drewN w nq w.heap.size)
            have hz2 : (w.drewN nq).heap.size = w.heap.size := rfl
            have a0' : (w.drewN nq).cell? ⟨ba, oa, none⟩ = some (.int .i64 (nth l 0)) := a0
            have a1' : (w.drewN nq).cell? ⟨ba, oa + 1, none⟩ = some (.int .i64 (nth l 1)) := a1
            have a2' : (w.drewN nq).cell? ⟨ba, oa + 2, none⟩ = some (.int .i64 (nth l 2)) := a2
            clear a0 a1 a2 hmin
            generalize w.drewN nq = w2 at *
            refine wp_region_still_tail 15 mixed (by kernel_rfl) ?_
            simp only [List.take_succ_cons, List.take_zero, List.drop_succ_cons, List.drop_zero]
            change wpStill _ _ w2.drew _ _ _
            repeat still_step
            still_call ((slides_any _ _ _ _ (by omega) (by omega) (by omega) (by omega) (by omega) (by omega)).mono fun _ _ ⟨he, hw⟩ => ⟨he, hw.symm⟩)
            repeat still_step
            still_call ((slides_any _ _ _ _ (by omega) (by omega) (by omega) (by omega) (by omega) (by omega)).mono fun _ _ ⟨he, hw⟩ => ⟨he, hw.symm⟩)
            repeat still_step
            refine wpStill_nil ?_
            change wpList _ _ _ _ _ w2.drew
            have HD2 := Lib.hid (HM.out.drew)
            have hz3 : w2.drew.heap.size = w.heap.size := hz2
            generalize w2.drew = w3 at *
            have s1 := Gr.slides_range (nth l 1) wide wide (by omega) (by omega) (by omega)
            have s2 := Gr.slides_range (nth l 2) wide wide (by omega) (by omega) (by omega)
            go_wp2
            go_ret2
            exact ⟨_, _, _, _, rfl, by rw [HR.out, ← hz3]; exact ints_three _ _ _ _ ⟨by omega, by omega⟩ ⟨by omega, by omega⟩ ⟨by omega, by omega⟩, HD2.out.alloc (by omega) _⟩
        · have e3 : ((la : Int) != 3) = true := by simp; omega
          have HR := Lib.hid (show Gr.pool l wide = [] by rw [HP.out, if_pos (.inl (by rw [LA.out]; exact c3))])
          clear hcl c1 c2 c3
          go_enter Tryz.func180, Tryz.ntmps180
          go_wp2_with fail
          refine (check_any _ _ _ l _ KA.out).mono ?_
          rintro e w1 ⟨rfl, rfl⟩
          rw [HC.out]
          go_wp2_with fail
          go_quiet (fail)
          go_wp2
          go_ret2
          exact shapeE_nil HR.out (below_drewN _ _ _)
end Go.Proofs.YtekejcnphmnidaaGreatDoor
namespace Go.Proofs.YtekejcnphmnidaaGreatDoor
open Go.RowKit
set_option maxRecDepth 100000 in
set_option maxHeartbeats 4000000 in
theorem window_any (a b : Option Addr) (la ca lb cb : Nat) (l m : List Int) (step pad : Int) (w : World) (HA : Ints w a la ca l) (HB : Ints w b lb cb m) :
    Calls Tryz.prog 179 #[.slice a la ca, .slice b lb cb, .int .i64 step, .int .i64 pad] w fun e w' => ShapeE w (Gr.window l m step pad) e w' := by
  have KA := Lib.hid HA
  have KB := Lib.hid HB
  have ha1 := HA.le
  have ha2 := HA.cap_le
  have hb1 := HB.le
  have hb2 := HB.cap_le
  have LA := Lib.hid HA.length
  have LB := Lib.hid HB.length
  clear HA HB
  cases hcl : Gr.chk l with
  | false =>
    have HR := Lib.hid (show Gr.window l m step pad = [] by unfold Gr.window; rw [if_pos (.inl hcl)])
    have HC := Lib.hid hcl; clear hcl
    go_enter Tryz.func179, Tryz.ntmps179
    go_wp2_with fail
    refine (check_any _ _ _ l _ KA.out).mono ?_
    rintro e w1 ⟨rfl, rfl⟩
    rw [HC.out]
    go_wp2
    go_ret2
    exact shapeE_nil HR.out (Below.refl _ _)
  | true =>
    have HC := Lib.hid hcl
    have HX := Lib.hid (Gr.chk_parts hcl).2.2
    cases hcm : Gr.chk m with
    | false =>
      have HR := Lib.hid (show Gr.window l m step pad = [] by unfold Gr.window; rw [if_pos (.inr (.inl hcm))])
      have HD := Lib.hid hcm; clear hcl hcm
      go_enter Tryz.func179, Tryz.ntmps179
      go_wp2_with fail
      refine (check_any _ _ _ l _ KA.out).mono ?_
      rintro e w1 ⟨rfl, rfl⟩
      rw [HC.out]
      go_wp2_with fail
      refine (check_any _ _ _ m _ KB.out).mono ?_
      rintro e w1 ⟨rfl, rfl⟩
      rw [HD.out]
      go_wp2
      go_ret2
      exact shapeE_nil HR.out (Below.refl _ _)
    | true =>
      have HD := Lib.hid hcm
      have HY := Lib.hid (Gr.chk_parts hcm).2.2
      by_cases c1 : step < 1
      · have d1 : decide (step < 1) = true := decide_eq_true c1
        have HR := Lib.hid (show Gr.window l m step pad = [] by unfold Gr.window; rw [if_pos (.inr (.inr (.inl c1)))])
        clear hcl hcm
        go_enter Tryz.func179, Tryz.ntmps179
        go_wp2_with fail
        refine (check_any _ _ _ l _ KA.out).mono ?_
        rintro e w1 ⟨rfl, rfl⟩
        rw [HC.out]
        go_wp2_with fail
        refine (check_any _ _ _ m _ KB.out).mono ?_
        rintro e w1 ⟨rfl, rfl⟩
        rw [HD.out]
        go_wp2
        go_ret2
        exact shapeE_nil HR.out (Below.refl _ _)
      · have d1 : decide (step < 1) = false := decide_eq_false c1
        by_cases c2 : 8 < step
        · have d2 : decide (step > 8) = true := decide_eq_true c2
          have HR := Lib.hid (show Gr.window l m step pad = [] by unfold Gr.window; rw [if_pos (.inr (.inr (.inr (.inl c2))))])
          clear hcl hcm
          go_enter Tryz.func179, Tryz.ntmps179
          go_wp2_with fail
          refine (check_any _ _ _ l _ KA.out).mono ?_
          rintro e w1 ⟨rfl, rfl⟩
          rw [HC.out]
          go_wp2_with fail
          refine (check_any _ _ _ m _ KB.out).mono ?_
          rintro e w1 ⟨rfl, rfl⟩
          rw [HD.out]
          go_wp2
          go_ret2
          exact shapeE_nil HR.out (Below.refl _ _)
        · have d2 : decide (step > 8) = false := decide_eq_false c2
          by_cases c3 : pad < 0
          · have d3 : decide (pad < 0) = true := decide_eq_true c3
            have HR := Lib.hid (show Gr.window l m step pad = [] by unfold Gr.window; rw [if_pos (.inr (.inr (.inr (.inr (.inl c3)))))])
            clear hcl hcm
            go_enter Tryz.func179, Tryz.ntmps179
            go_wp2_with fail
            refine (check_any _ _ _ l _ KA.out).mono ?_
            rintro e w1 ⟨rfl, rfl⟩
            rw [HC.out]
            go_wp2_with fail
            refine (check_any _ _ _ m _ KB.out).mono ?_
            rintro e w1 ⟨rfl, rfl⟩
            rw [HD.out]
            go_wp2
            go_ret2
            exact shapeE_nil HR.out (Below.refl _ _)
          · have d3 : decide (pad < 0) = false := decide_eq_false c3
            by_cases c4 : 8 < pad
            · have d4 : decide (pad > 8) = true := decide_eq_true c4
              have HR := Lib.hid (show Gr.window l m step pad = [] by unfold Gr.window; rw [if_pos (.inr (.inr (.inr (.inr (.inr c4)))))])
              clear hcl hcm
              go_enter Tryz.func179, Tryz.ntmps179
              go_wp2_with fail
              refine (check_any _ _ _ l _ KA.out).mono ?_
              rintro e w1 ⟨rfl, rfl⟩
              rw [HC.out]
              go_wp2_with fail
              refine (check_any _ _ _ m _ KB.out).mono ?_
              rintro e w1 ⟨rfl, rfl⟩
              rw [HD.out]
              go_wp2
              go_ret2
              exact shapeE_nil HR.out (Below.refl _ _)
            · have d4 : decide (pad > 8) = false := decide_eq_false c4
              have HP := Lib.hid (show Gr.window l m step pad = if l.length ≠ 3 ∨ m.length ≠ 4 ∨ nth l 0 ≠ nth m 1 then [] else if Gr.chk [nth m 0, Gr.slides (nth l 1 + 2 * pad) (nth m 2) step, Gr.slides (nth l 2 + 2 * pad) (nth m 3) step] then [nth m 0, Gr.slides (nth l 1 + 2 * pad) (nth m 2) step, Gr.slides (nth l 2 + 2 * pad) (nth m 3) step] else [] by unfold Gr.window; rw [if_neg (by simp [hcl, hcm]; omega)])
              clear hcl hcm
              by_cases f1 : la = 3
              · subst f1
                have e1 : ((3 : Int) != 3) = false := rfl
                by_cases f2 : lb = 4
                · subst f2
                  have e2 : ((4 : Int) != 4) = false := rfl
                  obtain ⟨ba, oa, rfl, _, hca⟩ := KA.out.at_ (by omega)
                  obtain ⟨bb, ob, rfl, _, hcb⟩ := KB.out.at_ (by omega)
                  have a0 := hca 0 (by omega)
                  have a1 := hca 1 (by omega)
                  have a2 := hca 2 (by omega)
                  have b0 := hcb 0 (by omega)
                  have b1 := hcb 1 (by omega)
                  have b2 := hcb 2 (by omega)
                  have b3 := hcb 3 (by omega)
                  rw [Nat.add_zero] at a0 b0
                  obtain ⟨x1, x1'⟩ := HX.out _ (nth_mem l 1 (by rw [LA.out]; omega))
                  obtain ⟨x2, x2'⟩ := HX.out _ (nth_mem l 2 (by rw [LA.out]; omega))
                  obtain ⟨y0, y0'⟩ := HY.out _ (nth_mem m 0 (by rw [LB.out]; omega))
                  obtain ⟨y2, y2'⟩ := HY.out _ (nth_mem m 2 (by rw [LB.out]; omega))
                  obtain ⟨y3, y3'⟩ := HY.out _ (nth_mem m 3 (by rw [LB.out]; omega))
                  clear hca hcb
                  by_cases f3 : nth l 0 = nth m 1
                  · have e3 : (nth l 0 != nth m 1) = false := by simp [f3]
                    have HQ := Lib.hid (HP.out.trans (if_neg (by rw [LA.out, LB.out]; simp [f3])))
                    clear f3
                    go_enter Tryz.func179, Tryz.ntmps179
                    go_wp2_with fail
                    refine (check_any _ _ _ l _ KA.out).mono ?_
                    rintro e w1 ⟨rfl, rfl⟩
                    rw [HC.out]
                    go_wp2_with fail
                    refine (check_any _ _ _ m _ KB.out).mono ?_
                    rintro e w1 ⟨rfl, rfl⟩
                    rw [HD.out]
                    go_wp2_with fail
                    go_quiet (fail)
                    go_wp2_with fail
                    have HM := Lib.hid (below_drewN w nq w.heap.size)
                    have hz2 : (w.drewN nq).heap.size = w.heap.size := rfl
                    have a1' : (w.drewN nq).cell? ⟨ba, oa + 1, none⟩ = some (.int .i64 (nth l 1)) := a1
                    have a2' : (w.drewN nq).cell? ⟨ba, oa + 2, none⟩ = some (.int .i64 (nth l 2)) := a2
                    have b0' : (w.drewN nq).cell? ⟨bb, ob, none⟩ = some (.int .i64 (nth m 0)) := b0
                    have b2' : (w.drewN nq).cell? ⟨bb, ob + 2, none⟩ = some (.int .i64 (nth m 2)) := b2
                    have b3' : (w.drewN nq).cell? ⟨bb, ob + 3, none⟩ = some (.int .i64 (nth m 3)) := b3
                    clear a0 a1 a2 b0 b1 b2 b3
                    generalize w.drewN nq = w2 at *
                    have r1 : IntKind.i64.wrap (2 * pad) = 2 * pad := by rw [IntKind.wrap_i64]; omega
                    have r2 : IntKind.i64.wrap (nth l 1 + 2 * pad) = nth l 1 + 2 * pad := by rw [IntKind.wrap_i64]; omega
                    have r3 : IntKind.i64.wrap (nth l 2 + 2 * pad) = nth l 2 + 2 * pad := by rw [IntKind.wrap_i64]; omega
                    refine wp_region_still_tail 25 mixed (by kernel_rfl) ?_
                    simp only [List.take_succ_cons, List.take_zero, List.drop_succ_cons, List.drop_zero]
                    change wpStill _ _ w2.drew _ _ _
                    repeat still_step
                    still_call ((slides_any _ _ _ _ (by omega) (by omega) (by omega) (by omega) (by omega) (by omega)).mono fun _ _ ⟨he, hw⟩ => ⟨he, hw.symm⟩)
                    repeat still_step
                    still_call ((slides_any _ _ _ _ (by omega) (by omega) (by omega) (by omega) (by omega) (by omega)).mono fun _ _ ⟨he, hw⟩ => ⟨he, hw.symm⟩)
                    repeat still_step
                    refine wpStill_nil ?_
                    change wpList _ _ _ _ _ w2.drew
                    have HD2 := Lib.hid (HM.out.drew)
                    have hz3 : w2.drew.heap.size = w.heap.size := hz2
                    generalize w2.drew = w3 at *
                    have s1 := Gr.slides_range (nth l 1 + 2 * pad) (nth m 2) step (by omega) (by omega) (by omega)
                    have s2 := Gr.slides_range (nth l 2 + 2 * pad) (nth m 3) step (by omega) (by omega) (by omega)
                    have HI3 : Hid (Ints (w3.alloc (.cells #[.int .i64 (nth m 0), .int .i64 (Gr.slides (nth l 1 + 2 * pad) (nth m 2) step), .int .i64 (Gr.slides (nth l 2 + 2 * pad) (nth m 3) step)] 3)) (some ⟨w.heap.size, 0, none⟩) 3 3 [nth m 0, Gr.slides (nth l 1 + 2 * pad) (nth m 2) step, Gr.slides (nth l 2 + 2 * pad) (nth m 3) step]) := by
                      show Ints _ _ _ _ _
                      rw [← hz3]; exact ints_three _ _ _ _ ⟨by omega, by omega⟩ ⟨by omega, by omega⟩ ⟨by omega, by omega⟩
                    go_wp2_with fail
                    refine (check_any _ _ _ _ _ HI3.out).mono ?_
                    rintro e w1 ⟨rfl, rfl⟩
                    cases hs : Gr.chk [nth m 0, Gr.slides (nth l 1 + 2 * pad) (nth m 2) step, Gr.slides (nth l 2 + 2 * pad) (nth m 3) step] with
                    | true =>
                      have HR := Lib.hid (HQ.out.trans (if_pos hs))
                      clear hs
                      go_wp2
                      go_ret2
                      exact ⟨_, _, _, _, rfl, by rw [HR.out]; exact HI3.out, HD2.out.alloc (by omega) _⟩
                    | false =>
                      have HR := Lib.hid (HQ.out.trans (if_neg (by rw [hs]; simp)))
                      clear hs
                      go_wp2
                      go_ret2
                      exact shapeE_nil HR.out (HD2.out.alloc (by omega) _)
                  · have e3 : (nth l 0 != nth m 1) = true := by simp [f3]
                    have HR := Lib.hid (HP.out.trans (if_pos (.inr (.inr f3))))
                    clear f3
                    go_enter Tryz.func179, Tryz.ntmps179
                    go_wp2_with fail
                    refine (check_any _ _ _ l _ KA.out).mono ?_
                    rintro e w1 ⟨rfl, rfl⟩
                    rw [HC.out]
                    go_wp2_with fail
                    refine (check_any _ _ _ m _ KB.out).mono ?_
                    rintro e w1 ⟨rfl, rfl⟩
                    rw [HD.out]
                    go_wp2_with fail
                    go_quiet (fail)
                    go_wp2
                    go_ret2
                    exact shapeE_nil HR.out (below_drewN _ _ _)
                · have e2 : ((lb : Int) != 4) = true := by simp; omega
                  have HR := Lib.hid (HP.out.trans (if_pos (.inr (.inl (by rw [LB.out]; exact f2)))))
                  clear f2
                  go_enter Tryz.func179, Tryz.ntmps179
                  go_wp2_with fail
                  refine (check_any _ _ _ l _ KA.out).mono ?_
                  rintro e w1 ⟨rfl, rfl⟩
                  rw [HC.out]
                  go_wp2_with fail
                  refine (check_any _ _ _ m _ KB.out).mono ?_
                  rintro e w1 ⟨rfl, rfl⟩
                  rw [HD.out]
                  go_wp2_with fail
                  go_quiet (fail)
                  go_wp2
                  go_ret2
                  exact shapeE_nil HR.out (below_drewN _ _ _)
              · have e1 : ((la : Int) != 3) = true := by simp; omega
                have HR := Lib.hid (HP.out.trans (if_pos (.inl (by rw [LA.out]; exact f1))))
                clear f1
                go_enter Tryz.func179, Tryz.ntmps179
                go_wp2_with fail
                refine (check_any _ _ _ l _ KA.out).mono ?_
                rintro e w1 ⟨rfl, rfl⟩
                rw [HC.out]
                go_wp2_with fail
                refine (check_any _ _ _ m _ KB.out).mono ?_
                rintro e w1 ⟨rfl, rfl⟩
                rw [HD.out]
                go_wp2_with fail
                go_quiet (fail)
                go_wp2
                go_ret2
                exact shapeE_nil HR.out (below_drewN _ _ _)
end Go.Proofs.YtekejcnphmnidaaGreatDoor
