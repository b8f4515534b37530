/-
  The document's answer, chapter 21: contract rpick_any (ref21.Pick): it answers what the program answers.
-/
import Derived.Test.YtekejcnphmnidaaGreatDoorZRpA
import Derived.Test.YtekejcnphmnidaaGreatDoorZTw
import Derived.Test.YtekejcnphmnidaaGreatDoorZRpR
import Derived.Deep.RegionLaw
namespace Go.Proofs.YtekejcnphmnidaaGreatDoor
open Go.RowKit

namespace Ev
theorem erase_perm : ∀ {F : List Int} {b : Nat}, b < F.length → (nth F b :: F.eraseIdx b).Perm F
  | [], b, h => absurd h (Nat.not_lt_zero _)
  | x :: r, 0, _ => List.Perm.refl _
  | x :: r, b + 1, h => by
    have h2 : b < r.length := by simpa using h
    have e : nth (x :: r) (b + 1) = nth r b := rfl
    rw [e, List.eraseIdx_cons_succ]
    exact (List.Perm.swap x (nth r b) (r.eraseIdx b)).trans ((erase_perm h2).cons x)
theorem sorted_cons {bytes next F : List Int} {b : Nat} (hb : b < F.length) (hmin : ∀ j, j < F.length → far bytes next (nth F b) (nth F j) ≤ 0) : sorted bytes next F = nth F b :: sorted bytes next (F.eraseIdx b) := by
  symm
  refine sorted_unique bytes next F _ (((sorted_perm bytes next (F.eraseIdx b)).cons (nth F b)).trans (erase_perm hb)) ?_
  refine List.pairwise_cons.2 ⟨fun x hx => ?_, sorted_pairwise bytes next _⟩
  have hx2 : x ∈ F := List.mem_of_mem_eraseIdx ((sorted_perm bytes next _).mem_iff.1 hx)
  obtain ⟨j, hj, rfl⟩ := List.getElem_of_mem hx2
  rw [← nth_eq F j hj]
  exact hmin j hj
theorem greedy_take {bytes : List Int} {room u v : Int} {r : List Int} (h : room < u) : greedy bytes room u (v :: r) = v :: greedy bytes room (u - at_ bytes v) r := by
  rw [greedy, if_neg (by omega)]
theorem sumB_erase {bytes F : List Int} {b : Nat} (hb : b < F.length) : sumB bytes F = at_ bytes (nth F b) + sumB bytes (F.eraseIdx b) := by
  rw [← sumB_perm bytes (erase_perm hb)]; rfl
theorem far_self (bytes next : List Int) (a : Int) : far bytes next a a ≤ 0 := by rcases far_total bytes next a a with h | h <;> exact h
theorem min_on {bytes next F : List Int} {b i : Nat} (h : ∀ j, j < i → far bytes next (nth F b) (nth F j) ≤ 0) (hf : fartherB bytes next (nth F i) (nth F b) = true) : ∀ j, j < i + 1 → far bytes next (nth F i) (nth F j) ≤ 0 := fun j hj => by
  rw [fartherB_far, decide_eq_true_eq] at hf
  by_cases e : j = i
  · subst e; exact far_self _ _ _
  · exact far_trans bytes next _ _ _ (by omega) (h j (by omega))
theorem min_stay {bytes next F : List Int} {b i : Nat} (h : ∀ j, j < i → far bytes next (nth F b) (nth F j) ≤ 0) (hf : fartherB bytes next (nth F i) (nth F b) = false) : ∀ j, j < i + 1 → far bytes next (nth F b) (nth F j) ≤ 0 := fun j hj => by
  rw [fartherB_far, decide_eq_false_iff_not, far_neg] at hf
  by_cases e : j = i
  · subst e; exact Classical.byContradiction fun h2 => hf h2
  · exact h j (by omega)
theorem within_at {bytes : List Int} (h : ∀ j, j < bytes.length → 0 ≤ nth bytes j ∧ nth bytes j ≤ 1048576) : within bytes = true := by
  unfold within
  refine List.all_eq_true.2 fun x hx => ?_
  obtain ⟨j, hj, rfl⟩ := List.getElem_of_mem hx
  have := h j hj
  rw [nth_eq bytes j hj] at this
  simp only [Bool.and_eq_true, decide_eq_true_eq]; exact this
theorem within_miss {bytes : List Int} {j : Nat} (hj : j < bytes.length) (h : nth bytes j < 0 ∨ 1048576 < nth bytes j) : within bytes = false := by
  cases hc : within bytes with
  | false => rfl
  | true =>
    have := List.all_eq_true.1 hc _ (nth_mem bytes j hj)
    simp only [Bool.and_eq_true, decide_eq_true_eq] at this
    omega
theorem err_args {inn pin bytes next : List Int} {room need : Int} (h : argsB inn pin bytes next room need = false) : pickE inn pin bytes next room need = 1 ∧ pickL inn pin bytes next room need = [] := by
  have h1 : pickE inn pin bytes next room need = 1 := by unfold pickE; rw [h]; rfl
  exact ⟨h1, by unfold pickL; rw [h1]; rfl⟩
end Ev

theorem below_setCell {base : Nat} {w0 w : World} (h : Below base w0 w) (g o : Nat) (v : Value) (hg : base ≤ g) : Below base w0 (w.setCell ⟨g, o, none⟩ v) :=
  ⟨h.os, h.tape, h.output, by simp [World.setCell]; exact h.size, fun k hk => (Below.heap_setCell _ _ _ _ (by intro e; simp only at e; omega)).trans (h.block k hk)⟩

theorem slice_dropZ (g off len cap r : Nat) (h1 : r ≤ len) (h2 : len ≤ cap) : ∃ ad2 : Addr, (∀ w, (Instr.slice 22 (.slice (some ⟨g, off, none⟩) len cap) (some (.int .i64 (r : Int))) none none).run Tryz.prog w = .ok (.slice (some ad2) (len - r) (cap - r)) w) ∧ (0 < len - r → ad2 = ⟨g, off + r, none⟩) := by
  have h3 : Tryz.prog.elem 22 = 3 := by kernel_rfl
  refine ⟨if cap = r then ⟨g, off, none⟩ else ⟨g, off + r, none⟩, fun w => ?_, fun h => if_neg (by omega)⟩
  rw [run_slice_l w 22 (some ⟨g, off, none⟩) len cap (by rw [h3]; exact Tryz.underlying22) .i64 (r : Int) (by omega) (by omega), h3]
  by_cases c : cap = r
  · simp [go_sem, sliced, c]
  · simp [go_sem, sliced, c, Addr.add]

/-- Some ints more, behind a slice of the call's own: at a step of a region that draws its order. -/
theorem step_appIZ {ops : Array Oper} {o : Oper} {a : Act} {K : Act → World → Prop} {Q : Exit → Act → World → Prop} {E : Prop} (W : World) (hgd : o.guard = none) (s t : Operand)
    (ho : o.op = .call { callee := .builtin .append, args := #[s, t], argTypes := #[22, 22] }) (base : Nat) (v : Value) (l l2 : List Int) (ad : Addr) (m c : Nat)
    (hown : Own base W v l) (h2 : Ints W (some ad) m c l2) (hs : a.eval s = v) (ht : a.eval t = .slice (some ad) m c) (hb : base ≤ W.heap.size) (hlen : l.length ≤ 1000000) (hlen2 : m ≤ 1000000)
    (h : ∀ v' w', Own base w' v' (l ++ l2) → Below base W w' → K (a.put o.dst v') w') :
    if Region.wanted o (yielded ops a.tmps) = true then Oper.wp Tryz.prog o a W K Q else E := by
  obtain ⟨i0, hi, hz0, hz1, hz2⟩ := info_parts Tryz.info3
  have hl2 := h2.length
  have hw : Region.wanted o (yielded ops a.tmps) = true := by simp [Region.wanted, hgd]
  rw [if_pos hw]
  refine wp_append_own W s t 22 ho base 3 i0 (.int .i64 0) 1 8 Tryz.underlying22 hi hz0 hz1 hz2 rfl (by decide) v l.length (l.map (Value.int .i64)) hs hown ad m c (l2.map (Value.int .i64)) ht ?_ ?_ ?_ ?_ ?_ hb ?_
  · rw [List.length_map, hl2]; omega
  · intro j u hj
    have hjl : j < l2.length := by have := (List.getElem?_eq_some_iff.1 hj).1; simpa using this
    obtain ⟨b, off, e, hlt, hc⟩ := h2.at_ (by omega)
    simp only [Option.some.injEq] at e
    subst e
    rw [Addr.add_lit, hc j (by omega), nth_eq l2 j hjl]
    rw [List.getElem?_map, List.getElem?_eq_getElem hjl] at hj
    simpa using hj
  · intro u hu; obtain ⟨x, _, rfl⟩ := List.mem_map.1 hu; rfl
  · unfold maxLen; omega
  · omega
  · intro v' w' hown' hgrow _
    refine h v' w' ?_ ((Below.refl base W).grown hgrow hb fun k hk => (Own.lt hown k hk).1)
    unfold Own
    rw [List.length_append, hl2, List.map_append]
    exact hown'

theorem RowV.ints {w : World} {v : Value} {n : Nat} {l : List Int} (h : RowV 1 w v n (l.map (Value.int .i64))) (hwf : ∀ n ∈ l, -9223372036854775808 ≤ n ∧ n ≤ 9223372036854775807) :
    ∃ a cap, v = .slice a n cap ∧ l.length = n ∧ Ints w a n cap l ∧ (0 < n → ∃ g off, a = some ⟨g, off, none⟩) := by
  rcases h with ⟨rfl, rfl, h⟩ | ⟨g, off, cap, rfl, h⟩
  · have : l = [] := by simpa using h
    subst this
    exact ⟨none, 0, rfl, rfl, Ints.nil, fun h => absurd h (Nat.lt_irrefl 0)⟩
  · have hl : l.length = n := by have := h.len; simpa using this
    refine ⟨_, cap, rfl, hl, ⟨h.le, h.cap_le, hl, hwf, fun _ => ⟨g, off, rfl, h.lt, fun i hi => h.cell i _ ?_⟩⟩, fun _ => ⟨g, off, rfl⟩⟩
    rw [List.getElem?_map, List.getElem?_eq_getElem (by omega), nth_eq l i (by omega)]; rfl

theorem RowV.intsAt {w : World} {a : Option Addr} {n cap : Nat} {l : List Int} (h : RowV 1 w (.slice a n cap) n (l.map (Value.int .i64))) (hwf : ∀ n ∈ l, -9223372036854775808 ≤ n ∧ n ≤ 9223372036854775807) : Ints w a n cap l := by
  obtain ⟨a', cap', e, _, hI, _⟩ := h.ints hwf
  cases e; exact hI

/-- What ref21.Pick answers. -/
def RPick (w : World) (L : List Int) (E : Int) (e : Ending) (w' : World) : Prop := ∃ a len cap, e = .returned (.tuple #[.slice a len cap, .int .i64 E]) ∧ Ints w' a len cap L ∧ Below w.heap.size w w'
theorem rpick_nil {w w' : World} {L : List Int} {E E' : Int} (hL : L = []) (hE : E = E') (hb : Below w.heap.size w w') : RPick w L E (.returned (.tuple #[.slice none 0 0, .int .i64 E'])) w' := ⟨none, 0, 0, by rw [hE], by rw [hL]; exact Ints.nil, hb⟩

set_option maxHeartbeats 16000000 in
set_option maxRecDepth 100000 in
theorem rpick_any (ai ap ab an : Option Addr) (li ci lp cp lb cb ln cn : Nat) (inn pin bytes next : List Int) (room need : Int) (w : World)
    (HI : Ints w ai li ci inn) (HP : Ints w ap lp cp pin) (HB : Ints w ab lb cb bytes) (HN : Ints w an ln cn next) (hli : li ≤ 1000000) :
    Calls Tryz.prog 12 #[.agg #[.slice ai li ci, .slice ap lp cp, .int .i64 room], .slice ab lb cb, .slice an ln cn, .int .i64 need] w
      fun e w' => RPick w (Ev.pickL inn pin bytes next room need) (Ev.pickE inn pin bytes next room need) e w' := by
  have hb1 : Below w.heap.size w (w.alloc (.cells #[.slice ai li ci, .slice ap lp cp, .int .i64 room] 34)) := (Below.refl _ _).alloc (Nat.le_refl _) _
  have KI := Lib.hid (HI.below hb1)
  have KP := Lib.hid (HP.below hb1)
  have KB := Lib.hid (HB.below hb1)
  have KN := Lib.hid (HN.below hb1)
  have HBel := Lib.hid hb1
  have LI := Lib.hid HI.length
  have LP := Lib.hid HP.length
  have LB := Lib.hid HB.length
  have LN := Lib.hid HN.length
  have i1 := HI.le
  have i2 := HI.cap_le
  have p1 := HP.le
  have p2 := HP.cap_le
  have b1 := HB.le
  have b2 := HB.cap_le
  have n1 := HN.le
  have n2 := HN.cap_le
  have x0 : (w.alloc (.cells #[.slice ai li ci, .slice ap lp cp, .int .i64 room] 34)).cell? ⟨w.heap.size, 0, none⟩ = some (.slice ai li ci) := by rw [World.cell?_alloc_at _ _ _ _ rfl]; rfl
  have x1 : (w.alloc (.cells #[.slice ai li ci, .slice ap lp cp, .int .i64 room] 34)).cell? ⟨w.heap.size, 1, none⟩ = some (.slice ap lp cp) := by rw [World.cell?_alloc_at _ _ _ _ rfl]; rfl
  have x2 : (w.alloc (.cells #[.slice ai li ci, .slice ap lp cp, .int .i64 room] 34)).cell? ⟨w.heap.size, 2, none⟩ = some (.int .i64 room) := by rw [World.cell?_alloc_at _ _ _ _ rfl]; rfl
  have X0 := Lib.hid x0
  have X1 := Lib.hid x1
  have X2 := Lib.hid x2
  have HZ : Hid (w.heap.size < (w.alloc (.cells #[.slice ai li ci, .slice ap lp cp, .int .i64 room] 34)).heap.size) := by show _ < _; simp
  clear HI HP HB HN hb1 x0 x1 x2
  go_enter Tryz.func12, Tryz.ntmps12
  go_wp2_with fail
  refine (rnodes_any _ _ _ inn (lb : Int) _ KI.out).mono ?_
  rintro e w1 ⟨rfl, q1, rfl⟩
  generalize w.alloc (.cells #[.slice ai li ci, .slice ap lp cp, .int .i64 room] 34) = w2 at *
  have x0 := X0.out
  have x1 := X1.out
  have x2 := X2.out
  have HARG : Hid (Ev.argsB inn pin bytes next room need = (Ev.nodesB bytes.length [] inn && Ev.nodesB bytes.length [] pin && decide (next.length = bytes.length) && Ev.within bytes && Ev.within [room, need])) := rfl
  have HWR : Hid (Ev.within [room, need] = (decide (0 ≤ room) && decide (room ≤ 1048576) && (decide (0 ≤ need) && decide (need ≤ 1048576)))) := by show _ = _; simp [Ev.within]
  rw [LB.out, LN.out] at HARG
  have HBq : Hid (∀ q, Below w.heap.size w (w2.drewN q)) := fun q => HBel.out.trans (below_drewN _ _ _)
  cases hi : Ev.nodesB (lb : Int) [] inn with
  | false =>
    obtain ⟨hE, hL⟩ := Ev.err_args (inn := inn) (pin := pin) (bytes := bytes) (next := next) (room := room) (need := need) (by rw [HARG.out, hi]; rfl)
    have HE := Lib.hid hE
    have HL := Lib.hid hL
    clear hi hE hL
    go_wp2
    go_ret2
    exact rpick_nil HL.out HE.out (HBq.out _)
  | true =>
    have HI1 := Lib.hid hi
    go_wp2_with fail
    refine (rnodes_any _ _ _ pin (lb : Int) _ (KP.out.drewN q1)).mono ?_
    rintro e w1 ⟨rfl, q2, rfl⟩
    rw [World.drewN_drewN]
    cases hp : Ev.nodesB (lb : Int) [] pin with
    | false =>
      obtain ⟨hE, hL⟩ := Ev.err_args (inn := inn) (pin := pin) (bytes := bytes) (next := next) (room := room) (need := need) (by rw [HARG.out, hp]; simp)
      have HE := Lib.hid hE
      have HL := Lib.hid hL
      clear hi hp hE hL
      go_wp2
      go_ret2
      exact rpick_nil HL.out HE.out (HBq.out _)
    | true =>
      by_cases hn : ln = lb
      rotate_left
      · obtain ⟨hE, hL⟩ := Ev.err_args (inn := inn) (pin := pin) (bytes := bytes) (next := next) (room := room) (need := need) (by rw [HARG.out, decide_eq_false hn]; simp)
        have HE := Lib.hid hE
        have HL := Lib.hid hL
        have e1 : ((ln : Int) != (lb : Int)) = true := by simp; omega
        clear hi hp hE hL hn
        go_wp2
        go_ret2
        exact rpick_nil HL.out HE.out (HBq.out _)
      subst hn
      have e1 : ((ln : Int) != (ln : Int)) = false := by simp
      have HBAD : Hid (¬ (0 ≤ room ∧ room ≤ 1048576 ∧ 0 ≤ need ∧ need ≤ 1048576) → Ev.argsB inn pin bytes next room need = false) := fun h => by
        rw [HARG.out, HWR.out]
        have : (decide (0 ≤ room) && decide (room ≤ 1048576) && (decide (0 ≤ need) && decide (need ≤ 1048576))) = false := by
          cases hc : (decide (0 ≤ room) && decide (room ≤ 1048576) && (decide (0 ≤ need) && decide (need ≤ 1048576))) with
          | false => rfl
          | true =>
            simp only [Bool.and_eq_true, decide_eq_true_eq] at hc
            exact absurd ⟨hc.1.1, hc.1.2, hc.2.1, hc.2.2⟩ h
        rw [this, Bool.and_false]
      by_cases r1 : room < 0
      · obtain ⟨hE, hL⟩ := Ev.err_args (HBAD.out (by omega))
        have HE := Lib.hid hE
        have HL := Lib.hid hL
        have d1 : decide (room < 0) = true := decide_eq_true r1
        clear hi hp hE hL r1
        go_wp2
        go_ret2
        exact rpick_nil HL.out HE.out (HBq.out _)
      have d1 : decide (room < 0) = false := decide_eq_false r1
      by_cases r2 : 1048576 < room
      · obtain ⟨hE, hL⟩ := Ev.err_args (HBAD.out (by omega))
        have HE := Lib.hid hE
        have HL := Lib.hid hL
        have d2 : decide (room > 1048576) = true := decide_eq_true r2
        clear hi hp hE hL r1 r2
        go_wp2
        go_ret2
        exact rpick_nil HL.out HE.out (HBq.out _)
      have d2 : decide (room > 1048576) = false := decide_eq_false r2
      by_cases r3 : need < 0
      · obtain ⟨hE, hL⟩ := Ev.err_args (HBAD.out (by omega))
        have HE := Lib.hid hE
        have HL := Lib.hid hL
        have d3 : decide (need < 0) = true := decide_eq_true r3
        clear hi hp hE hL r1 r2 r3
        go_wp2
        go_ret2
        exact rpick_nil HL.out HE.out (HBq.out _)
      have d3 : decide (need < 0) = false := decide_eq_false r3
      by_cases r4 : 1048576 < need
      · obtain ⟨hE, hL⟩ := Ev.err_args (HBAD.out (by omega))
        have HE := Lib.hid hE
        have HL := Lib.hid hL
        have d4 : decide (need > 1048576) = true := decide_eq_true r4
        clear hi hp hE hL r1 r2 r3 r4
        go_wp2
        go_ret2
        exact rpick_nil HL.out HE.out (HBq.out _)
      have d4 : decide (need > 1048576) = false := decide_eq_false r4
      have HAW : Hid (Ev.argsB inn pin bytes next room need = Ev.within bytes) := by
        show _ = _
        rw [HARG.out, HWR.out, hi, hp, decide_eq_true (show 0 ≤ room by omega), decide_eq_true (show room ≤ 1048576 by omega), decide_eq_true (show 0 ≤ need by omega), decide_eq_true (show need ≤ 1048576 by omega)]
        simp
      have HP1 := Lib.hid hp
      clear hi hp
      go_wp2
      go_loopg [10] ln (fun gg i wr => ∃ k : Nat, k ≤ ln ∧ ln - k ≤ gg ∧ i = .int .i64 k ∧ Hid (∀ j, j < k → 0 ≤ nth bytes j ∧ nth bytes j ≤ 1048576) ∧ wr = w2.drewN (q1 + q2))
      case atStart => exact ⟨0, Nat.zero_le _, by omega, rfl, fun j hj => absurd hj (Nat.not_lt_zero _), rfl⟩
      case round =>
        obtain ⟨k, hk, hg, rfl, HT, rfl⟩ := hrel
        by_cases hlt : k < ln
        · have dkl : decide ((k : Int) < (ln : Int)) = true := decide_eq_true (by omega)
          obtain ⟨bB, oB, rfl, _, hcb⟩ := KB.out.at_ (by omega)
          have kb := hcb k hlt
          have HMISS : Hid (nth bytes k < 0 ∨ 1048576 < nth bytes k → Ev.argsB inn pin bytes next room need = false) := fun h => by rw [HAW.out]; exact Ev.within_miss (by rw [LB.out]; exact hlt) h
          have HNX : Hid (0 ≤ nth bytes k ∧ nth bytes k ≤ 1048576 → ∀ j, j < k + 1 → 0 ≤ nth bytes j ∧ nth bytes j ≤ 1048576) := fun h j hj => by
            by_cases e : j = k
            · subst e; exact h
            · exact HT.out j (by omega)
          clear hcb
          generalize nth bytes k = y at *
          by_cases c1 : y < 0
          · have f1 : decide (y < 0) = true := decide_eq_true c1
            obtain ⟨hE, hL⟩ := Ev.err_args (HMISS.out (.inl c1))
            have HE := Lib.hid hE
            have HL := Lib.hid hL
            clear c1 hE hL
            go_wp2
            go_ret2
            exact rpick_nil HL.out HE.out (HBq.out _)
          have f1 : decide (y < 0) = false := decide_eq_false c1
          by_cases c2 : 1048576 < y
          · have f2 : decide (y > 1048576) = true := decide_eq_true c2
            obtain ⟨hE, hL⟩ := Ev.err_args (HMISS.out (.inr c2))
            have HE := Lib.hid hE
            have HL := Lib.hid hL
            clear c1 c2 hE hL
            go_wp2
            go_ret2
            exact rpick_nil HL.out HE.out (HBq.out _)
          have f2 : decide (y > 1048576) = false := decide_eq_false c2
          have HT2 := Lib.hid (HNX.out ⟨by omega, by omega⟩)
          go_wp2
          go_roundg (ln - (k + 1))
          case measure => omega
          case rel => exact ⟨k + 1, by omega, by omega, by go_num, HT2, rfl⟩
        · have dkl : decide ((k : Int) < (ln : Int)) = false := decide_eq_false (by omega)
          have HWI : Hid (Ev.within bytes = true) := Ev.within_at (fun j hj => HT.out j (by rw [LB.out] at hj; omega))
          have HA : Hid (Ev.argsB inn pin bytes next room need = true) := HAW.out.trans HWI.out
          have HIN : Hid (∀ v ∈ inn, 0 ≤ v ∧ v < (ln : Int)) := fun v hv => Ev.nodesB_mem HI1.out v hv
          have HAT : Hid (∀ v, 0 ≤ v → v < (ln : Int) → 0 ≤ Ev.at_ bytes v ∧ Ev.at_ bytes v ≤ 1048576) := fun v h0 h1 => Ev.at_within bytes HWI.out v h0 (by rw [LB.out]; exact h1)
          have HSUM : Hid (∀ l : List Int, (∀ v ∈ l, 0 ≤ v ∧ v < (ln : Int)) → 0 ≤ Ev.sumB bytes l ∧ Ev.sumB bytes l ≤ 1048576 * l.length) := fun l hl => Ev.sumB_bounds bytes l HWI.out (fun v hv => by rw [LB.out]; exact hl v hv)
          clear hk hg
          go_wp2
          go_loopg [11, 12, 13, 14] li (fun gg p u v i wr => ∃ k : Nat, k ≤ li ∧ li - k ≤ gg ∧ i = .int .i64 k ∧ p = .int .i64 (Ev.sumB bytes (Ev.pins pin (inn.take k))) ∧ u = .int .i64 (Ev.sumB bytes (inn.take k)) ∧
            Hid (Own w2.heap.size wr v (Ev.frees pin (inn.take k))) ∧ Hid (Below w2.heap.size w2 wr))
          case atStart => exact ⟨0, Nat.zero_le _, by omega, rfl, rfl, rfl, Own.nil _ _, below_drewN _ _ _⟩
          case round =>
            obtain ⟨k, hk, hg, rfl, rfl, rfl, HO, HW⟩ := hrel
            have y0 := (HW.out.cell (p := ⟨w.heap.size, 0, none⟩) HZ.out).trans x0
            have y1 := (HW.out.cell (p := ⟨w.heap.size, 1, none⟩) HZ.out).trans x1
            have y2 := (HW.out.cell (p := ⟨w.heap.size, 2, none⟩) HZ.out).trans x2
            have htk : ∀ v ∈ inn.take k, 0 ≤ v ∧ v < (ln : Int) := fun v hv => HIN.out v (List.mem_of_mem_take hv)
            have hs1 := HSUM.out _ htk
            have hs2 := HSUM.out (Ev.pins pin (inn.take k)) (fun v hv => htk v (List.mem_filter.1 hv).1)
            have hl1 : ((inn.take k).length : Int) ≤ 1000000 := by have := List.length_take_le k inn; omega
            have hl2 : ((Ev.pins pin (inn.take k)).length : Int) ≤ 1000000 := by have := Ev.pins_le pin inn k; omega
            have hl3 := Ev.frees_le pin inn k
            clear htk
            by_cases hlt : k < li
            · have dkl : decide ((k : Int) < (li : Int)) = true := decide_eq_true (by omega)
              have hki : k < inn.length := by rw [LI.out]; exact hlt
              obtain ⟨hv0, hv1⟩ := HIN.out (nth inn k) (nth_mem inn k hki)
              have hat := HAT.out _ hv0 hv1
              have HSN := Lib.hid (Ev.sumB_snoc bytes inn k hki)
              have HFH : Hid (hasB pin (nth inn k) = true → _) := fun h => Ev.frees_hit pin inn k hki h
              have HFM : Hid (hasB pin (nth inn k) = false → _) := fun h => Ev.frees_miss pin inn k hki h
              obtain ⟨bI, oI, rfl, _, hcI⟩ := (KI.out.below HW.out).at_ (by omega)
              have kI := hcI k hlt
              obtain ⟨bB, oB, rfl, _, kB⟩ := (KB.out.below HW.out).get (x := nth inn k) hv0 hv1
              have HHC : Hid (∀ s, Calls Tryz.prog 58 #[.slice ap lp cp, .int .i64 (nth inn k)] (wr.drewN s) fun e w' => e = .returned (.bool (hasB pin (nth inn k))) ∧ w' = wr.drewN s) := fun s => (rhas_any _ _ _ _ _ _ ((KP.out.below HW.out).drewN s)).mono fun _ _ ⟨he, hw⟩ => ⟨he, hw.symm⟩
              have HAP1 : Hid (∀ l : List Int, Ev.sumB bytes (l ++ [nth inn k]) = Ev.sumB bytes l + Ev.at_ bytes (nth inn k)) := fun l => by rw [Ev.sumB_append]; simp [Ev.sumB]
              clear hcI
              generalize nth inn k = x at *
              generalize Ev.at_ bytes x = y at *
              cases hh : hasB pin x with
              | true =>
                obtain ⟨f1, f2⟩ := HFH.out hh
                have HP2 : Hid (Ev.sumB bytes (Ev.pins pin (inn.take (k + 1))) = Ev.sumB bytes (Ev.pins pin (inn.take k)) + y) := by show _ = _; rw [f2, HAP1.out]
                have HF1 := Lib.hid f1
                rw [hh] at HHC
                clear f1 f2 hh
                go_wp2_with fail
                go_quiet ((go_at_call 58; with_reducible exact Calls.quiet_of_same (HHC.out _)))
                go_wp2
                go_roundg (li - (k + 1))
                case measure => omega
                case rel => exact ⟨k + 1, by omega, by omega, by go_num, by rw [HP2.out], by rw [HSN.out], by rw [HF1.out]; exact HO.out.below (below_drewN _ _ _), HW.out.trans (below_drewN _ _ _)⟩
              | false =>
                obtain ⟨f1, f2⟩ := HFM.out hh
                have HF1 := Lib.hid f1
                have HF2 := Lib.hid f2
                have HOq : Hid (∀ n, Own w2.heap.size (wr.drewN n) _ (Ev.frees pin (inn.take k))) := fun n => HO.out.below (below_drewN _ _ _)
                rw [hh] at HHC
                clear f1 f2 hh
                go_wp2_with fail
                go_quiet ((go_at_call 58; with_reducible exact Calls.quiet_of_same (HHC.out _)))
                go_wp2_with (at_builtin; go_must (refine wpList_app1 _ rfl _ _ rfl w2.heap.size _ _ _ (HOq.out _) rfl rfl HW.out.size ?c1 ?_))
                case c1 => omega
                intro v' w5 hown' hbel hgrow
                rw [← HF1.out] at hown'
                have HO' := Lib.hid hown'
                have HW5 : Hid (Below w2.heap.size w2 w5) := (HW.out.trans (below_drewN wr nq _)).trans hbel
                clear hown' hbel hgrow
                go_wp2
                go_roundg (li - (k + 1))
                case measure => omega
                case rel => exact ⟨k + 1, by omega, by omega, by go_num, by rw [HF2.out], by rw [HSN.out], HO', HW5⟩
            · have dkl : decide ((k : Int) < (li : Int)) = false := decide_eq_false (by omega)
              have hti : inn.take k = inn := List.take_of_length_le (by rw [LI.out]; omega)
              rw [hti] at HO hs1 hs2 hl3 hl2 ⊢
              have HSP := Lib.hid (Ev.sumB_split bytes pin inn)
              have HPE : Hid (Ev.pickE inn pin bytes next room need = if room < need + Ev.sumB bytes (Ev.pins pin inn) then 13 else 0) := by show _ = _; unfold Ev.pickE; rw [if_pos HA.out]
              have hfl : (Ev.frees pin inn).length ≤ li := by omega
              have HFR : Hid (∀ v ∈ Ev.frees pin inn, 0 ≤ v ∧ v < (ln : Int)) := fun v hv => HIN.out v (List.mem_filter.1 hv).1
              have HPL : Hid (Ev.pickE inn pin bytes next room need = 0 → Ev.pickL inn pin bytes next room need = Ev.greedy bytes room (need + Ev.sumB bytes inn) (Ev.sorted bytes next (Ev.frees pin inn))) := fun h => by unfold Ev.pickL; rw [if_pos h]
              have HPN : Hid (Ev.pickE inn pin bytes next room need = 13 → Ev.pickL inn pin bytes next room need = []) := fun h => by unfold Ev.pickL; rw [h]; rfl
              have hlen : inn.length ≤ 1000000 := by rw [LI.out]; omega
              have hb1' : Ev.sumB bytes inn ≤ 1048576000000 := by omega
              have hb2' : Ev.sumB bytes (Ev.pins pin inn) ≤ 1048576000000 := by omega
              clear hti hl1 hl2 hk hg
              generalize hPP : Ev.sumB bytes (Ev.pins pin inn) = PP at *
              generalize hUU : Ev.sumB bytes inn = UU at *
              clear hPP hUU
              by_cases hroom : room < need + PP
              · have d5 : decide (PP + need > room) = true := decide_eq_true (by omega)
                have hE : Ev.pickE inn pin bytes next room need = 13 := by rw [HPE.out, if_pos hroom]
                have HE := Lib.hid hE
                have HL := Lib.hid (HPN.out hE)
                have HWe := Lib.hid (HBel.out.trans (HW.out.mono HBel.out.size))
                clear hE hroom
                go_wp2
                go_ret2
                exact rpick_nil HL.out HE.out HWe.out
              have d5 : decide (PP + need > room) = false := decide_eq_false (by omega)
              have hE : Ev.pickE inn pin bytes next room need = 0 := by rw [HPE.out, if_neg hroom]
              have HE := Lib.hid hE
              have HL0 := Lib.hid (HPL.out hE)
              have HROOM : Hid (need + PP ≤ room) := by show _ ≤ _; omega
              clear hE hroom
              have HRF : Hid (RowV 1 wr _ (Ev.frees pin inn).length ((Ev.frees pin inn).map (Value.int .i64))) := RowV.of_owns (show wr.ownsRow w2.heap.size 3 1 _ _ _ from HO.out)
              have hOlt := Own.lt HO.out
              have HOL := Lib.hid hOlt
              clear hOlt
              go_wp2
              go_loopg [12, 13, 15] li (fun gg u f o wx => ∃ (F O : List Int) (U : Int), F.length ≤ gg ∧ u = .int .i64 U ∧ F.length + O.length ≤ li ∧ Hid (RowV 1 wx f F.length (F.map (Value.int .i64))) ∧ Hid (RowV 1 wx o O.length (O.map (Value.int .i64))) ∧
                Hid (∀ v ∈ F, 0 ≤ v ∧ v < (ln : Int)) ∧ Hid (∀ v ∈ O, 0 ≤ v ∧ v < (ln : Int)) ∧ Hid (Ev.pickL inn pin bytes next room need = O ++ Ev.greedy bytes room (need + U) (Ev.sorted bytes next F)) ∧ Hid (U = PP + Ev.sumB bytes F) ∧
                Hid (∀ b, f.ownBlock = some b → o.ownBlock ≠ some b) ∧ Hid (∀ b, o.ownBlock = some b → w2.heap.size ≤ b) ∧ Hid (Below w2.heap.size w2 wx))
              case atStart =>
                exact ⟨Ev.frees pin inn, [], UU, hfl, rfl, by simp; omega, HRF.out, .inl ⟨rfl, rfl, rfl⟩, HFR.out, (fun v hv => by cases hv), by show _ = _; rw [HL0.out]; rfl, HSP.out, (fun b _ h => by cases h), (fun b h => by cases h), HW.out⟩
              case round =>
                rename World => wx
                obtain ⟨F, O, U, hFg, rfl, hFO, HRf, HRo, HFin, HOin, HPK, HU, HDJ, HOB, HWx⟩ := hrel
                have z2 := (HWx.out.cell (p := ⟨w.heap.size, 2, none⟩) HZ.out).trans x2
                have hsF := HSUM.out F HFin.out
                have hPP := HROOM.out
                have HWF : Hid (∀ n ∈ F, -9223372036854775808 ≤ n ∧ n ≤ 9223372036854775807) := fun n hn => by have := HFin.out n hn; omega
                have HWO : Hid (∀ n ∈ O, -9223372036854775808 ≤ n ∧ n ≤ 9223372036854775807) := fun n hn => by have := HOin.out n hn; omega
                obtain ⟨aO, cO, rfl, _, hIO, _⟩ := HRo.out.ints HWO.out
                have HIO := Lib.hid hIO
                have hUe := HU.out
                have hFl : (F.length : Int) ≤ 1000000 := by omega
                have hUb : 0 ≤ U ∧ U ≤ 3000000000000 := by omega
                clear hIO
                by_cases hov : room < need + U
                · have d6 : decide (U + need > room) = true := decide_eq_true (by omega)
                  have hFp : 0 < F.length := by
                    apply Nat.pos_of_ne_zero
                    intro h0
                    have : F = [] := List.eq_nil_of_length_eq_zero h0
                    subst this
                    simp [Ev.sumB] at hUe
                    omega
                  obtain ⟨aF, cF, rfl, _, hIF, hsome⟩ := HRf.out.ints HWF.out
                  obtain ⟨gF, oF, rfl⟩ := hsome hFp
                  have HIF := Lib.hid hIF
                  have hFc := hIF.le
                  have hFcl := hIF.cap_le
                  have HOV : Hid (room < need + U) := hov
                  clear hIF hov hUe
                  go_wp2
                  go_loopg [16, 17] F.length (fun gg bv iv wv => ∃ b i : Nat, b < F.length ∧ 1 ≤ i ∧ i ≤ F.length ∧ F.length - i ≤ gg ∧ bv = .int .i64 b ∧ iv = .int .i64 i ∧ Hid (∀ j, j < i → Ev.far bytes next (nth F b) (nth F j) ≤ 0) ∧ Hid (∃ t, wv = wx.drewN t))
                  case atStart => exact ⟨0, 1, hFp, Nat.le_refl _, hFp, by omega, rfl, rfl, (fun j hj => by rw [show j = 0 by omega]; exact Ev.far_self _ _ _), 0, rfl⟩
                  case round =>
                    rename World => wv
                    obtain ⟨b, i, hb, hi1, hi2, hgi, rfl, rfl, HMIN, HT⟩ := hrel
                    obtain ⟨t, rfl⟩ := HT.out
                    obtain ⟨_, _, eF, _, hcF⟩ := HIF.out.at_ hFp
                    cases eF
                    have kb := hcF b hb
                    by_cases hlti : i < F.length
                    · have dil : decide ((i : Int) < (F.length : Int)) = true := decide_eq_true (by omega)
                      have ki := hcF i hlti
                      have hvi := HFin.out (nth F i) (nth_mem F i hlti)
                      have hvb := HFin.out (nth F b) (nth_mem F b hb)
                      have HC : Hid (∀ t a, Calls Tryz.prog 59 #[.int .i64 (nth F i), .int .i64 (nth F b), .slice ab ln cb, .slice an ln cn] (wx.drewN (t + a)) fun e w' => e = .returned (.bool (Ev.fartherB bytes next (nth F i) (nth F b))) ∧ ∃ n, w' = wx.drewN (t + n)) := fun t a =>
                        (rfar_any _ _ _ _ _ bytes next (nth F i) (nth F b) _ ((KB.out.below HWx.out).drewN _) ((KN.out.below HWx.out).drewN _) hvi.1 hvi.2 hvb.1 hvb.2).mono fun e w' ⟨he, n, hw⟩ => ⟨he, a + n, by rw [hw]; simp [Nat.add_assoc]⟩
                      have HON : Hid (Ev.fartherB bytes next (nth F i) (nth F b) = true → ∀ j, j < i + 1 → Ev.far bytes next (nth F i) (nth F j) ≤ 0) := fun h => Ev.min_on HMIN.out h
                      have HST : Hid (Ev.fartherB bytes next (nth F i) (nth F b) = false → ∀ j, j < i + 1 → Ev.far bytes next (nth F b) (nth F j) ≤ 0) := fun h => Ev.min_stay HMIN.out h
                      clear hcF hvi hvb
                      have hib : (i : Int) < (F.length : Int) := by omega
                      have hbb : (b : Int) < (F.length : Int) := by omega
                      generalize hfb : Ev.fartherB bytes next (nth F i) (nth F b) = fb at *
                      clear hfb
                      cases fb with
                      | true =>
                        have HM2 := Lib.hid (HON.out rfl)
                        go_wp2_with fail
                        go_quiet ((go_at_call 59; exact HC.out _ _))
                        go_wp2
                        go_roundg (F.length - (i + 1))
                        case measure => omega
                        case rel => exact ⟨i, i + 1, hlti, by omega, by omega, by omega, by go_num, by go_num, HM2, t + nq, by simp⟩
                      | false =>
                        have HM2 := Lib.hid (HST.out rfl)
                        go_wp2_with fail
                        go_quiet ((go_at_call 59; exact HC.out _ _))
                        go_wp2
                        go_roundg (F.length - (i + 1))
                        case measure => omega
                        case rel => exact ⟨b, i + 1, hb, by omega, by omega, by omega, by go_num, by go_num, HM2, t + nq, by simp⟩
                    · have dil : decide ((i : Int) < (F.length : Int)) = false := decide_eq_false (by omega)
                      have HMA : Hid (∀ j, j < F.length → Ev.far bytes next (nth F b) (nth F j) ≤ 0) := fun j hj => HMIN.out j (by omega)
                      have hvb := HFin.out (nth F b) (nth_mem F b hb)
                      have hat := HAT.out _ hvb.1 hvb.2
                      have HSC := Lib.hid (Ev.sorted_cons (bytes := bytes) (next := next) hb HMA.out)
                      have HSE := Lib.hid (Ev.sumB_erase (bytes := bytes) hb)
                      have HEL : Hid ((F.eraseIdx b).length + 1 = F.length) := by show _ = _; rw [List.length_eraseIdx_of_lt hb]; omega
                      have HEM : Hid (∀ v ∈ F.eraseIdx b, 0 ≤ v ∧ v < (ln : Int)) := fun v hv => HFin.out v (List.mem_of_mem_eraseIdx hv)
                      have HOM : Hid (∀ v ∈ O ++ [nth F b], 0 ≤ v ∧ v < (ln : Int)) := fun v hv => by
                        rcases List.mem_append.1 hv with h | h
                        · exact HOin.out v h
                        · simp only [List.mem_singleton] at h; subst h; exact hvb
                      have HET : Hid (F.take b ++ F.drop (b + 1) = F.eraseIdx b) := (List.eraseIdx_eq_take_drop_succ F b).symm
                      have hb5 : ∀ ob, Below wx.heap.size wx ((wx.drewN t).alloc ob) := fun ob => (below_drewN wx t _).alloc (Nat.le_refl _) ob
                      have HB5 := Lib.hid hb5
                      have HRo5 : Hid (∀ ob, RowV 1 ((wx.drewN t).alloc ob) (.slice aO O.length cO) O.length (O.map (Value.int .i64))) := fun ob => HRo.out.keep (hb5 ob).size (fun k hk => (hb5 ob).block k (HRo.out.lt k hk))
                      have HRf5 : Hid (∀ ob, RowV 1 ((wx.drewN t).alloc ob) (.slice (some ⟨gF, oF, none⟩) F.length cF) F.length (F.map (Value.int .i64))) := fun ob => HRf.out.keep (hb5 ob).size (fun k hk => (hb5 ob).block k (HRf.out.lt k hk))
                      have hbb : (b : Int) < (F.length : Int) := by omega
                      have hwz := HWx.out.size
                      clear hcF hb5
                      have HFM : Hid (nth F b = nth F b) := rfl
                      go_wp2_with (at_builtin; go_must (refine wpList_pushV _ rfl _ _ rfl (.slice aO O.length cO) O.length (O.map (Value.int .i64)) (nth F b) wx.heap.size (HRo5.out _) rfl rfl (by rw [World.cell?_alloc_at _ _ _ _ (by first | rfl | simp)]; rfl) (by omega) ?_))
                      intro v6 w6 hrow6 hor
                      have HR6 : Hid (RowV 1 w6 v6 (O ++ [nth F b]).length ((O ++ [nth F b]).map (Value.int .i64))) := by
                        show RowV _ _ _ _ _
                        rw [List.length_append, List.map_append]; exact hrow6
                      have HALL : Hid (RowV 1 w6 (.slice (some ⟨gF, oF, none⟩) F.length cF) F.length (F.map (Value.int .i64)) ∧ Below w2.heap.size w2 w6 ∧ v6.ownBlock ≠ some gF ∧ ∀ k, v6.ownBlock = some k → w2.heap.size ≤ k) := by
                        show _ ∧ _ ∧ _ ∧ _
                        have hgFlt : gF < wx.heap.size := HRf.out.lt gF rfl
                        have hB6 : ∀ ob, Below w2.heap.size w2 ((wx.drewN t).alloc ob) := fun ob => HWx.out.trans ((HB5.out ob).mono hwz)
                        rcases hor with ⟨g, off, cap, e1, e2, hc, rfl⟩ | ⟨ho, k6, e6, hk6⟩
                        · obtain ⟨rfl, rfl⟩ := e1
                          have hgb := HOB.out g rfl
                          have hne : gF ≠ g := fun e => HDJ.out gF rfl (by rw [e]; rfl)
                          refine ⟨(HRf5.out _).keep (by simp [World.setCell]) (fun k hk => Below.heap_setCell _ _ _ _ (by intro e; simp only at e; cases hk; exact hne e)), below_setCell (hB6 _) _ _ _ hgb, by rw [e2]; intro e; cases e; exact hne rfl, fun k hk => by rw [e2] at hk; cases hk; exact hgb⟩
                        · have hz : wx.heap.size ≤ k6 := by
                            have : wx.heap.size ≤ ((wx.drewN t).alloc (.cells #[.int .i64 (nth F b)] 3)).heap.size := (HB5.out _).size
                            omega
                          refine ⟨(HRf5.out _).only ho (fun _ _ e => e), (hB6 _).trans (ho.below (fun _ e => e.elim) (hB6 _).size), by rw [e6]; intro e; cases e; omega, fun k hk => by rw [e6] at hk; cases hk; omega⟩
                      obtain ⟨a6, c6, rfl, _, _, _⟩ := hrow6.slice
                      clear hrow6 hor
                      have HI6 := Lib.hid (HALL.out.1.intsAt HWF.out)
                      obtain ⟨_, _, eF6, _, hcF6⟩ := HI6.out.at_ hFp
                      cases eF6
                      have kb6 := hcF6 b hb
                      obtain ⟨bB, oB, rfl, _, kB6⟩ := (KB.out.below HALL.out.2.1).get (x := nth F b) hvb.1 hvb.2
                      obtain ⟨ad2, hs2, had2⟩ := slice_dropZ gF oF F.length cF (b + 1) (by omega) hFc
                      have HS1 : Hid (∀ w, (Instr.slice 22 (.slice (some ⟨gF, oF, none⟩) F.length cF) none (some (.int .i64 (b : Int))) none).run Tryz.prog w = .ok (.slice (some ⟨gF, oF, none⟩) b cF) w) := fun w => slice_takeZ (some ⟨gF, oF, none⟩) F.length cF b (by omega) w
                      have HS2 : Hid (∀ w, (Instr.slice 22 (.slice (some ⟨gF, oF, none⟩) F.length cF) (some (.int .i64 ((b : Int) + 1))) none none).run Tryz.prog w = .ok (.slice (some ad2) (F.length - (b + 1)) (cF - (b + 1))) w) := fun w => by rw [← hs2 w]; rfl
                      have HTK : Hid (Ints w6 (some ⟨gF, oF, none⟩) b cF (F.take b)) := HI6.out.take b (by omega)
                      have HDR : Hid (Ints w6 (some ad2) (F.length - (b + 1)) (cF - (b + 1)) (F.drop (b + 1))) := by
                        refine ⟨by omega, by omega, by rw [List.length_drop], fun n hn => HWF.out n (List.mem_of_mem_drop hn), fun h0 => ?_⟩
                        obtain ⟨_, _, e7, hl7, hc7⟩ := HI6.out.at_ hFp
                        cases e7
                        refine ⟨gF, oF + (b + 1), by rw [had2 h0], hl7, fun j hj => ?_⟩
                        have := hc7 (b + 1 + j) (by omega)
                        rw [← Nat.add_assoc] at this
                        rw [this]
                        congr 2
                        unfold nth
                        simp [List.getD_eq_getElem?_getD, List.getElem?_drop]
                      clear hs2 had2 hcF6
                      generalize hxx : nth F b = x at *
                      generalize hyy : Ev.at_ bytes x = y at *
                      have HXX := Lib.hid hxx
                      have HPN2 : Hid (Ev.pickL inn pin bytes next room need = (O ++ [x]) ++ Ev.greedy bytes room (need + (U - y)) (Ev.sorted bytes next (F.eraseIdx b))) := by
                        show _ = _
                        rw [HPK.out, HSC.out, Ev.greedy_take HOV.out, hyy, List.append_assoc, List.singleton_append, show need + U - y = need + (U - y) by omega]
                      have HUN : Hid (U - y = PP + Ev.sumB bytes (F.eraseIdx b)) := by
                        show _ = _
                        have h1 := HU.out
                        have h2 := HSE.out
                        omega
                      clear hxx hyy
                      have HBd : Hid (Below w6.heap.size w6 w6.drew) := (Below.refl _ _).drew
                      have hz6 := HALL.out.2.1.size
                      have hel := HEL.out
                      go_wp2_with fail
                      refine free_region (wq := w6) (f := .slice (some ⟨gF, oF, none⟩) F.length cF) (t := .slice (some ⟨gF, oF, none⟩) b cF) (d := .slice (some ad2) (F.length - (b + 1)) (cF - (b + 1))) (b := (b : Int)) (P := F.take b) (D := F.drop (b + 1)) ⟨rfl, ⟨_, rfl, rfl, rfl, by kernel_rfl⟩, ⟨_, rfl, rfl, rfl, by kernel_rfl⟩, ⟨_, rfl, rfl, rfl, by kernel_rfl⟩, ⟨_, rfl, rfl, rfl, by kernel_rfl⟩, ⟨_, rfl, rfl, rfl, by kernel_rfl⟩, ⟨_, rfl, rfl, rfl, by kernel_rfl⟩, ⟨_, rfl, rfl, rfl, by kernel_rfl⟩, ⟨_, rfl, rfl, rfl, by kernel_rfl⟩, ⟨_, rfl, rfl, rfl, by kernel_rfl⟩, ⟨_, rfl, rfl, rfl, by kernel_rfl⟩⟩ rfl (by kernel_rfl) rfl rfl ⟨by omega, by omega⟩ ⟨gF, oF, none⟩ b cF ad2 _ _ rfl rfl (fun W hW => HTK.out.below hW) (fun W hW => HDR.out.below hW) (by omega) (by omega) (by have := List.length_take_le b F; omega) HS1.out HS2.out ?_
                      intro v7 v8 w8 hO8 hb8
                      simp only [Act.put, List.setIfInBounds_toArray, List.set_cons_succ, List.set_cons_zero]
                      have HOE : Hid (Own w6.heap.size w8 v8 (F.eraseIdx b)) := by show Own _ _ _ _; rw [← HET.out]; exact hO8
                      have HB8 : Hid (Below w6.heap.size w6 w8) := hb8
                      have HRN : Hid (RowV 1 w8 v8 (F.eraseIdx b).length ((F.eraseIdx b).map (Value.int .i64))) := RowV.of_owns (show w8.ownsRow w6.heap.size 3 1 _ _ _ from HOE.out)
                      have HRO8 : Hid (RowV 1 w8 (.slice a6 (O.length + 1) c6) (O ++ [x]).length ((O ++ [x]).map (Value.int .i64))) := HR6.out.keep HB8.out.size (fun k hk => HB8.out.block k (HR6.out.lt k hk))
                      have HDJ8 : Hid (∀ k, v8.ownBlock = some k → Value.ownBlock (.slice a6 (O.length + 1) c6) ≠ some k) := fun k hk e => by
                        have h1 := (Own.lt HOE.out k hk).1
                        have h2 := HR6.out.lt k e
                        omega
                      have HW8 : Hid (Below w2.heap.size w2 w8) := HALL.out.2.1.trans (HB8.out.mono hz6)
                      clear hO8 hb8
                      go_wp2
                      go_roundg (F.length - 1)
                      case measure => omega
                      case rel => exact ⟨F.eraseIdx b, O ++ [x], U - y, by omega, by go_num, by rw [List.length_append]; simp; omega, HRN, HRO8, HEM, HOM, HPN2, HUN, HDJ8, HALL.out.2.2.2, HW8⟩
                · have d6 : decide (U + need > room) = false := decide_eq_false (by omega)
                  have HPO : Hid (Ev.pickL inn pin bytes next room need = O) := by
                    show _ = _
                    rw [HPK.out, Ev.greedy_none bytes room _ _ (by omega), List.append_nil]
                  have HWe := Lib.hid (HBel.out.trans (HWx.out.mono HBel.out.size))
                  clear hov hUe
                  go_wp2
                  go_ret2
                  exact ⟨_, _, _, by rw [HE.out]; rfl, by rw [HPO.out]; exact HIO.out, HWe.out⟩
end Go.Proofs.YtekejcnphmnidaaGreatDoor
