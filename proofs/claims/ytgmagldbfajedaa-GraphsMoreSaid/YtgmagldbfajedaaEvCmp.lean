/-
  cmp.Compare and cmp.Or of ints: contracts compare_any, or_any.
-/
import Derived.Test.YtgmagldbfajedaaBase
import Derived.Test.YtgmagldbfajedaaEvPlain
import Derived.Shelf.SlSortCmp.QuietGrown
namespace Go.Proofs.Ytgmagldbfajedaa
open Go.RowKit Go.Sort

/-- New blocks and draws alone. -/
def More (w w' : World) : Prop := ∃ q os, w' = grow (w.drewN q) os
theorem More.refl (w : World) : More w w := ⟨0, #[], by rw [grow_empty]; rfl⟩
theorem More.trans {a b c : World} (h : More a b) (k : More b c) : More a c := by
  obtain ⟨q, os, rfl⟩ := h
  obtain ⟨q', os', rfl⟩ := k
  exact ⟨q + q', os ++ os', by show grow (grow ((a.drewN q).drewN q') os) os' = _; rw [grow_grow, World.drewN_drewN]⟩
theorem More.alloc {a b : World} (h : More a b) (o : Obj) : More a (b.alloc o) := h.trans ⟨0, #[o], by rw [alloc_eq_grow]; rfl⟩
theorem More.drew {a b : World} (h : More a b) : More a b.drew := h.trans ⟨1, #[], by rw [grow_empty]; rfl⟩
theorem More.drewN {a b : World} (h : More a b) (n : Nat) : More a (b.drewN n) := h.trans ⟨n, #[], by rw [grow_empty]⟩
theorem More.below {a b : World} (h : More a b) : Below a.heap.size a b := by
  obtain ⟨q, os, rfl⟩ := h
  exact ⟨rfl, rfl, rfl, by simp [grow], fun k hk => heap_grow_old (a.drewN q) os hk⟩
theorem below_more {a b : World} (h : Below a.heap.size a b) (hd : a.drawn ≤ b.drawn) : More a b := by
  refine ⟨b.drawn - a.drawn, b.heap.extract a.heap.size b.heap.size, ?_⟩
  obtain ⟨h1, h2, h3, h4, h5⟩ := h
  cases a; cases b
  simp only [grow, World.drewN] at *
  subst h1; subst h2; subst h3
  congr 1
  · apply Array.ext_getElem?
    intro i
    rw [Array.getElem?_append]
    split
    · exact h5 i (by assumption)
    · rw [Array.getElem?_extract]
      split
      · congr 1; omega
      · rename_i hlt hlt2
        apply Array.getElem?_eq_none
        omega
  · omega

theorem compare_any (x y : Int) (w : World) : Calls Try.prog 102 #[.int .i64 x, .int .i64 y] w fun e w' => e = .returned (.int .i64 (Ev.cmpI x y)) ∧ w = w' := by
  have hx : (x != x) = false := by simp
  have hy : (y != y) = false := by simp
  by_cases h : x < y
  · have hd : decide (x < y) = true := decide_eq_true h
    have HR := Lib.hid (show Ev.cmpI x y = -1 by unfold Ev.cmpI; rw [if_pos h])
    go_enter Try.func102, Try.ntmps102
    go_wp2
    go_ret
    exact ⟨by rw [HR.out]; rfl, rfl⟩
  · have hd : decide (x < y) = false := decide_eq_false h
    by_cases h2 : y < x
    · have hd2 : decide (x > y) = true := decide_eq_true h2
      have HR := Lib.hid (show Ev.cmpI x y = 1 by unfold Ev.cmpI; rw [if_neg h, if_pos h2])
      go_enter Try.func102, Try.ntmps102
      go_wp2
      go_ret
      exact ⟨by rw [HR.out]; rfl, rfl⟩
    · have hd2 : decide (x > y) = false := decide_eq_false h2
      have HR := Lib.hid (show Ev.cmpI x y = 0 by unfold Ev.cmpI; rw [if_neg h, if_neg h2])
      go_enter Try.func102, Try.ntmps102
      go_wp2
      go_ret
      exact ⟨by rw [HR.out]; rfl, rfl⟩

/-- The first one that is not 0. -/
def orL : List Int → Int
  | [] => 0
  | v :: r => if v = 0 then orL r else v

theorem orL_two (u v : Int) : orL [u, v] = Ev.orI u v := by
  unfold Ev.orI; simp only [orL]; split <;> (try split) <;> simp_all

set_option maxHeartbeats 400000 in
theorem or_any (a : Option Addr) (len cap : Nat) (l : List Int) (w : World) (H : Ints w a len cap l) :
    Calls Try.prog 103 #[.slice a len cap] w fun e w' => e = .returned (.int .i64 (orL l)) ∧ w = w' := by
  obtain ⟨hle, hcap, hlen, _, hat⟩ := H
  have HL := Lib.hid hlen; clear hlen
  go_enter Try.func103, Try.ntmps103
  go_wp2
  go_loop [8] (fun i => ∃ k : Nat, k ≤ len ∧ i = .int .i64 k ∧ Hid (orL l = orL (l.drop k))) (fun i => len - (intOf i).toNat)
  case atStart => exact ⟨0, Nat.zero_le _, rfl, rfl⟩
  case round =>
    obtain ⟨k, hk, rfl, HN⟩ := hrel
    by_cases hlt : k < len
    · obtain ⟨b, off, rfl, _, hc⟩ := hat (by omega)
      have hck := hc k hlt
      clear hc hat
      have HS : Hid (orL l = if nth l k = 0 then orL (l.drop (k + 1)) else nth l k) := by
        have hk' : k < l.length := by have := HL.out; omega
        show _ = _
        rw [HN.out, List.drop_eq_getElem_cons hk', nth_eq l k hk']; rfl
      by_cases hv : nth l k = 0
      · have HR := Lib.hid (show orL l = orL (l.drop (k + 1)) by rw [HS.out, if_pos hv])
        have hvb : (nth l k != 0) = false := by simp [hv]
        clear hv
        go_wp2
        go_round
        case rel => exact ⟨k + 1, by omega, by go_num, HR⟩
        case measure => simp [intOf]; omega
      · have HR := Lib.hid (show orL l = nth l k by rw [HS.out, if_neg hv])
        have hvb : (nth l k != 0) = true := by simp [hv]
        clear hv
        go_wp2
        go_ret
        exact ⟨by rw [HR.out]; rfl, rfl⟩
    · have HR := Lib.hid (show orL l = 0 by rw [HN.out, List.drop_eq_nil_of_le (by have := HL.out; omega)]; rfl)
      go_wp2
      go_ret
      exact ⟨by rw [HR.out]; rfl, rfl⟩
end Go.Proofs.Ytgmagldbfajedaa
