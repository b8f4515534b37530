/-
  Small functions of the plans: plans.once, source; evicts.source, Again (again_any); tests over the members of a list (containsFunc_on).
-/
import Derived.Test.YtgmagldbfajedaaPlLaw
import Derived.Test.YtgmagldbfajedaaCoOwn
namespace Go.Proofs.Ytgmagldbfajedaa
open Go.RowKit

/-- A function value that answers a test of the members of a list, in every world in which all of B lies unturned, and turns nothing. -/
def PredOn (g : Nat) (cb : Array Value) (p : Int → Bool) (l : List Int) (B : World) : Prop :=
  ∀ (w : World), Below B.heap.size B w → ∀ x ∈ l, Calls Try.prog g (#[.int .i64 x] ++ cb) w fun e w' => e = .returned (.bool (p x)) ∧ Below w.heap.size w w'

set_option maxHeartbeats 1000000 in
theorem indexFunc_on (g : Nat) (cb : Array Value) (p : Int → Bool) (eg : ∀ args w, (callFunc g args).run Try.prog w = .ok (.enter g args) w) (a : Option Addr) (len cap : Nat) (l : List Int) (w : World) (H : Ints w a len cap l) (hp : PredOn g cb p l w) :
    Calls Try.prog 108 #[.slice a len cap, .func (.func g) #[] cb] w fun e w' => IsIdxF p l e ∧ Below w.heap.size w w' := by
  have HI := Lib.hid H
  have HP := Lib.hid hp; clear hp
  obtain ⟨hle, hcap, hlen, _, _⟩ := H
  have HL := Lib.hid hlen; clear hlen
  go_enter Try.func108, Try.ntmps108
  go_wp2
  go_loopg [5, 8] len (fun gg _ i wr => ∃ k : Nat, k ≤ len ∧ len - k ≤ gg ∧ i = .int .i64 k ∧ Hid (anyB p (l.take k) = false) ∧ Hid (Below w.heap.size w wr))
  case atStart => exact ⟨0, Nat.zero_le _, by omega, rfl, anyB_nil p, Below.refl _ _⟩
  case round =>
    obtain ⟨k, hk, hg, rfl, HN, HB⟩ := hrel
    by_cases hlt : k < len
    · obtain ⟨b, off, rfl, _, hc⟩ := (HI.out.below HB.out).at_ (by omega)
      have hck := hc k hlt
      clear hc
      have hcall := HP.out wr HB.out (nth l k) (nth_mem l k (by have := HL.out; omega))
      cases hv : p (nth l k) with
      | true =>
        rw [hv] at hcall
        have HC := Lib.hid (anyB_hit p l k (by have := HL.out; omega) hv); clear hv
        have HCall := Lib.hid hcall; clear hcall
        go_wp2_with (go_at_fn g; refine HCall.out.mono ?_; rintro e w1 ⟨rfl, hb1⟩)
        go_ret
        exact ⟨⟨k, rfl, by rw [HC.out]; simp⟩, below_step HB.out hb1 HB.out.size⟩
      | false =>
        rw [hv] at hcall
        have HC := Lib.hid (anyB_snoc p l k (by have := HL.out; omega) HN.out hv); clear hv
        have HCall := Lib.hid hcall; clear hcall
        go_wp2_with (go_at_fn g; refine HCall.out.mono ?_; rintro e w1 ⟨rfl, hb1⟩)
        go_roundg (len - (k + 1))
        case measure => omega
        case rel => exact ⟨k + 1, by omega, by omega, by go_num, HC.out, below_step HB.out hb1 HB.out.size⟩
    · go_wp2
      go_ret
      exact ⟨⟨-1, rfl, by rw [anyB_all p l k (by have := HL.out; omega) HN.out]; rfl⟩, HB.out⟩

theorem containsFunc_on (g : Nat) (cb : Array Value) (p : Int → Bool) (eg : ∀ args w, (callFunc g args).run Try.prog w = .ok (.enter g args) w) (a : Option Addr) (len cap : Nat) (l : List Int) (w : World) (H : Ints w a len cap l) (hp : PredOn g cb p l w) :
    Calls Try.prog 70 #[.slice a len cap, .func (.func g) #[] cb] w fun e w' => e = .returned (.bool (anyB p l)) ∧ Below w.heap.size w w' := by
  have HP := Lib.hid hp; clear hp
  have HG := Lib.hid eg; clear eg
  have HI := Lib.hid H; clear H
  go_enter Try.func70, Try.ntmps70
  go_wp2_with fail
  refine (indexFunc_on g cb p HG.out _ _ _ l _ HI.out HP.out).mono ?_
  rintro e w1 ⟨⟨i, rfl, hi⟩, hb⟩
  have HJ := Lib.hid hi; clear hi
  have HB := Lib.hid hb; clear hb
  go_wp2
  go_ret
  exact ⟨by rw [← HJ.out]; rfl, HB.out⟩


set_option maxHeartbeats 1000000 in
theorem source_any (kd n pad : Int) (ai sa : Option Addr) (li ci ls cs : Nat) (w : World) :
    Calls Try.prog 93 #[.agg #[.int .u8 kd, .slice ai li ci, .slice sa ls cs, .int .i64 n, .int .i64 pad]] w fun e w' => e = .returned (.bool (decide (kd = 1) || decide (kd = 2))) ∧ Below w.heap.size w w' := by
  have x0 : (w.alloc (.cells #[.int .u8 kd, .slice ai li ci, .slice sa ls cs, .int .i64 n, .int .i64 pad] 46)).cell? ⟨w.heap.size, 0, none⟩ = some (.int .u8 kd) := by rw [World.cell?_alloc_at _ _ _ _ rfl]; rfl
  by_cases c1 : kd = 1
  · have d1 : (kd == 1) = true := by simp [c1]
    have HR : Hid ((decide (kd = 1) || decide (kd = 2)) = true) := by show _ = _; simp [c1]
    clear c1
    go_enter Try.func93, Try.ntmps93
    go_wp2
    go_ret
    exact ⟨by rw [HR.out]; rfl, (Below.refl _ _).alloc (Nat.le_refl _) _⟩
  · have d1 : (kd == 1) = false := by simp [c1]
    by_cases c2 : kd = 2
    · have d2 : (kd == 2) = true := by simp [c2]
      have HR : Hid ((decide (kd = 1) || decide (kd = 2)) = true) := by show _ = _; simp [c2]
      clear c1 c2
      go_enter Try.func93, Try.ntmps93
      go_wp2
      go_ret
      exact ⟨by rw [HR.out]; rfl, (Below.refl _ _).alloc (Nat.le_refl _) _⟩
    · have d2 : (kd == 2) = false := by simp [c2]
      have HR : Hid ((decide (kd = 1) || decide (kd = 2)) = false) := by show _ = _; simp [c1, c2]
      clear c1 c2
      go_enter Try.func93, Try.ntmps93
      go_wp2
      go_ret
      exact ⟨by rw [HR.out]; rfl, (Below.refl _ _).alloc (Nat.le_refl _) _⟩

set_option maxHeartbeats 1000000 in
theorem esource_any (kd n pad : Int) (ai sa : Option Addr) (li ci ls cs : Nat) (w : World) :
    Calls Try.prog 90 #[.agg #[.int .u8 kd, .slice ai li ci, .slice sa ls cs, .int .i64 n, .int .i64 pad]] w fun e w' => e = .returned (.bool (decide (kd = 1) || decide (kd = 2))) ∧ Below w.heap.size w w' := by
  have x0 : (w.alloc (.cells #[.int .u8 kd, .slice ai li ci, .slice sa ls cs, .int .i64 n, .int .i64 pad] 46)).cell? ⟨w.heap.size, 0, none⟩ = some (.int .u8 kd) := by rw [World.cell?_alloc_at _ _ _ _ rfl]; rfl
  by_cases c1 : kd = 1
  · have d1 : (kd == 1) = true := by simp [c1]
    have HR : Hid ((decide (kd = 1) || decide (kd = 2)) = true) := by show _ = _; simp [c1]
    clear c1
    go_enter Try.func90, Try.ntmps90
    go_wp2
    go_ret
    exact ⟨by rw [HR.out]; rfl, (Below.refl _ _).alloc (Nat.le_refl _) _⟩
  · have d1 : (kd == 1) = false := by simp [c1]
    by_cases c2 : kd = 2
    · have d2 : (kd == 2) = true := by simp [c2]
      have HR : Hid ((decide (kd = 1) || decide (kd = 2)) = true) := by show _ = _; simp [c2]
      clear c1 c2
      go_enter Try.func90, Try.ntmps90
      go_wp2
      go_ret
      exact ⟨by rw [HR.out]; rfl, (Below.refl _ _).alloc (Nat.le_refl _) _⟩
    · have d2 : (kd == 2) = false := by simp [c2]
      have HR : Hid ((decide (kd = 1) || decide (kd = 2)) = false) := by show _ = _; simp [c1, c2]
      clear c1 c2
      go_enter Try.func90, Try.ntmps90
      go_wp2
      go_ret
      exact ⟨by rw [HR.out]; rfl, (Below.refl _ _).alloc (Nat.le_refl _) _⟩

set_option maxHeartbeats 1000000 in
set_option maxRecDepth 100000 in
theorem once_any (a : Option Addr) (len cap : Nat) (l : List Int) (w : World) (H : Ints w a len cap l) (hbig : len ≤ 1000000) :
    Calls Try.prog 142 #[.slice a len cap] w fun e w' => ∃ v, e = .returned v ∧ Own w.heap.size w' v (Pl.once l) ∧ Below w.heap.size w w' := by
  have KH := Lib.hid H
  have HL := Lib.hid H.length
  have hle := H.le
  have hcl := H.cap_le
  clear H
  go_enter Try.func142, Try.ntmps142
  go_wp2
  go_loopg [2, 7] len (fun gg u i wr => ∃ (k : Nat) (v : Value), k ≤ len ∧ len - k ≤ gg ∧ i = .int .i64 k ∧ v = u ∧ Hid (Own w.heap.size wr v (Pl.once (l.take k))) ∧ Hid (Below w.heap.size w wr))
  case atStart => exact ⟨0, _, Nat.zero_le _, by omega, rfl, rfl, Own.nil _ _, Below.refl _ _⟩
  case round =>
    obtain ⟨k, v, hk, hg, rfl, rfl, HO, HW⟩ := hrel
    have hlo : (Pl.once (l.take k)).length ≤ k := Nat.le_trans (Pl.once_length _) (List.length_take_le _ _)
    have hwfo : ∀ n ∈ Pl.once (l.take k), -9223372036854775808 ≤ n ∧ n ≤ 9223372036854775807 := fun n hn => KH.out.wf n (List.mem_of_mem_take ((Pl.once_mem _ _).1 hn))
    obtain ⟨av, lv, cv, rfl, hIv⟩ := HO.out.ints hwfo
    have HIv := Lib.hid hIv.1
    clear hIv hwfo
    by_cases hlt : k < len
    · have dlt : decide ((k : Int) < (len : Int)) = true := decide_eq_true (by omega)
      obtain ⟨b, off, rfl, _, hc⟩ := (KH.out.below HW.out).at_ (by omega)
      have hck := hc k hlt
      have HS := Lib.hid (Pl.once_snoc l k (by rw [HL.out]; exact hlt))
      clear hc
      generalize nth l k = x at *
      have HC := Lib.hid (contains_any _ _ _ _ x _ HIv.out)
      cases hh : hasB (Pl.once (l.take k)) x with
      | true =>
        rw [hh] at HC
        unfold Pl.once1 at HS
        rw [hh] at HS
        have HS2 : Hid (Pl.once (l.take (k + 1)) = Pl.once (l.take k)) := by show _ = _; have := HS.out; simpa using this
        rw [← HS2.out] at HO
        clear hh HS HS2
        go_wp2_with fail
        refine HC.out.mono ?_
        rintro e w1 ⟨rfl, rfl⟩
        go_wp2
        go_roundg (len - (k + 1))
        case measure => exact Nat.lt_of_lt_of_le (Nat.sub_lt_sub_left hlt (Nat.lt_succ_self k)) hg
        case rel => exact ⟨k + 1, _, Nat.succ_le_of_lt hlt, Nat.le_refl _, by go_num, rfl, HO, HW⟩
      | false =>
        rw [hh] at HC
        unfold Pl.once1 at HS
        rw [hh] at HS
        have HS2 : Hid (Pl.once (l.take (k + 1)) = Pl.once (l.take k) ++ [x]) := by show _ = _; have := HS.out; simpa using this
        clear hh HS
        go_wp2_with fail
        refine HC.out.mono ?_
        rintro e w1 ⟨rfl, rfl⟩
        go_wp2_with (at_builtin; go_must (refine wpList_app1w _ rfl _ _ rfl w.heap.size _ _ _ HO.out rfl rfl HW.out.size (by omega) ?_))
        intro v' w3 hown' hbel hgrow
        rw [← HS2.out] at hown'
        have HO' := Lib.hid hown'
        have HW3 : Hid (Below w.heap.size w w3) := HW.out.trans hbel
        clear hown' hbel hgrow hck HC
        go_wp2
        go_roundg (len - (k + 1))
        case measure => exact Nat.lt_of_lt_of_le (Nat.sub_lt_sub_left hlt (Nat.lt_succ_self k)) hg
        case rel => exact ⟨k + 1, _, Nat.succ_le_of_lt hlt, Nat.le_refl _, by go_num, rfl, HO', HW3⟩
    · have dlt : decide ((k : Int) < (len : Int)) = false := decide_eq_false (by omega)
      rw [List.take_of_length_le (by rw [HL.out]; omega)] at HO
      go_wp2
      go_ret
      exact ⟨_, rfl, HO.out, HW.out⟩

/-- Is no source? -/
def nsrc (g : List Gr.Node) (u : Int) : Bool := !Pl.srcB (nodeN g u.toNat)

set_option maxHeartbeats 1000000 in
theorem again1_any (G : Nat) (a : Option Addr) (len cap : Nat) (g : List Gr.Node) (u : Int) (w : World) (HN : Nodes w a len cap g) (hc : w.cell? ⟨G, 0, none⟩ = some (.slice a len cap)) (h0 : 0 ≤ u) (h1 : u < len) :
    Calls Try.prog 89 #[.int .i64 u, .pointer (some ⟨G, 0, none⟩)] w fun e w' => e = .returned (.bool (nsrc g u)) ∧ Below w.heap.size w w' := by
  obtain ⟨n, rfl⟩ : ∃ n : Nat, u = (n : Int) := ⟨u.toNat, by omega⟩
  have hn : n < len := by omega
  obtain ⟨b, off, ai, li, ci, sa, ls, cs, rfl, _, n0, n1, n2, n3, n4, _⟩ := HN.get (Below.refl _ w) hn
  have HR : Hid (nsrc g (n : Int) = (!decide ((nodeN g n).kind = 1) && !decide ((nodeN g n).kind = 2))) := by
    show (!(decide ((nodeN g n).kind = 1) || decide ((nodeN g n).kind = 2))) = _
    rw [Bool.not_or]
  have hle := HN.le
  have hcl := HN.cap_le
  clear HN
  generalize (nodeN g n).kind = kd at *
  generalize (nodeN g n).n = nn at *
  generalize (nodeN g n).pad = pp at *
  go_enter Try.func89, Try.ntmps89
  go_wp2_with fail
  refine (esource_any _ _ _ _ _ _ _ _ _ _).mono ?_
  rintro e w1 ⟨rfl, hb⟩
  have HB := Lib.hid hb
  clear hb
  go_wp2
  go_ret
  exact ⟨by rw [HR.out]; rfl, HB.out⟩
end Go.Proofs.Ytgmagldbfajedaa
