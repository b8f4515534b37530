/-
  graphs.without: contract without_any.
-/
import Derived.Test.YtgmagldbfajedaaGrDelete
import Derived.Test.YtgmagldbfajedaaGrClone
import Derived.Test.YtgmagldbfajedaaGrTurn
import Derived.Test.YtgmagldbfajedaaGrProd
namespace Go.Proofs.Ytgmagldbfajedaa
open Go.RowKit Go.Sort

theorem Mine.holds {base : Nat} {w : World} {g off cap : Nat} {l : List Int} (h : Mine base w g off cap l) : Holds ei w g off l.toArray := fun j hj => by
  have hj' : j < l.length := by simpa using hj
  refine ⟨?_, h.fr j hj'⟩
  rw [h.cell j hj', nth_eq l j hj', getElem!_pos l.toArray j hj]
  simp

theorem Mine.put {base : Nat} {w : World} {g off cap : Nat} {l m : List Int} (h : Mine base w g off cap l) (hm : m.length = l.length) (q : Nat) : Mine base (putRow ei (Sort.ahead w q) g off m.toArray) g off cap m := by
  have hH := holds_putRow ei (Sort.ahead w q) g off l.toArray m.toArray (holds_ahead ei w q g off _ h.holds) (by simpa using hm)
  refine ⟨h.lo, by simp [putRow, mapBlock]; exact h.lt, by rw [hm]; exact h.le, h.cap_le, fun i hi => ?_, fun i hi => (hH i (by simpa using hi)).2⟩
  rw [(hH i (by simpa using hi)).1, nth_eq m i hi, getElem!_pos m.toArray i (by simpa using hi)]
  simp

theorem Mine.take {base : Nat} {w : World} {g off cap : Nat} {l : List Int} (h : Mine base w g off cap l) (k : Nat) : Mine base w g off cap (l.take k) := by
  refine ⟨h.lo, h.lt, Nat.le_trans (by rw [List.length_take]; omega) h.le, h.cap_le, fun i hi => ?_, fun i hi => h.fr i (by rw [List.length_take] at hi; omega)⟩
  rw [List.length_take] at hi
  rw [h.cell i (by omega)]
  unfold nth
  simp only [List.getD_eq_getElem?_getD, List.getElem?_take, show i < k by omega, if_true]

theorem below_putRow {base : Nat} {w0 w : World} (h : Below base w0 w) (g off : Nat) (d : Array Int) (q : Nat) (hg : base ≤ g) : Below base w0 (putRow ei (Sort.ahead w q) g off d) :=
  ⟨h.os, h.tape, h.output, by simp [putRow, mapBlock]; exact h.size, fun k hk => by
    have : (putRow ei (Sort.ahead w q) g off d).heap[k]? = w.heap[k]? := by
      simp only [putRow, mapBlock, heap_ahead, Array.getElem?_modify]
      rw [if_neg (by omega)]
    rw [this]; exact h.block k hk⟩

set_option maxHeartbeats 2000000 in
set_option maxRecDepth 100000 in
theorem without_any (a : Option Addr) (la ca : Nat) (l : List Int) (along : Int) (w : World) (HA : Ints w a la ca l) (h0 : 0 ≤ along) (hl : la ≤ 1000000) :
    Calls Try.prog 115 #[.slice a la ca, .int .i64 along] w fun e w' => ShapeS w (Gr.without l along) e w' := by
  have KA := Lib.hid HA
  have LA := Lib.hid HA.length
  have ha1 := HA.le
  clear HA
  by_cases c1 : (la : Int) ≤ along
  · have d1 : decide (along ≥ (la : Int)) = true := decide_eq_true c1
    have HR := Lib.hid (show Gr.without l along = [] by unfold Gr.without; rw [if_pos (by rw [LA.out]; exact c1)])
    clear c1
    go_enter Try.func115, Try.ntmps115
    go_wp2
    go_ret
    exact ⟨_, _, _, rfl, by rw [HR.out]; exact Ints.nil, Below.refl _ _⟩
  · have d1 : decide (along ≥ (la : Int)) = false := decide_eq_false c1
    have HP := Lib.hid (show Gr.without l along = if l.length = 1 then [1] else l.eraseIdx along.toNat by unfold Gr.without; rw [if_neg (by rw [LA.out]; exact c1)])
    by_cases c2 : la = 1
    · subst c2
      have HR := Lib.hid (show Gr.without l along = [1] by rw [HP.out, if_pos LA.out])
      have d2 : decide ((1 : Int) ≤ along) = false := decide_eq_false (by omega)
      clear c1 d1
      go_enter Try.func115, Try.ntmps115
      go_wp2
      go_ret
      refine ⟨_, _, _, rfl, ?_, (Below.refl _ _).alloc (Nat.le_refl _) _⟩
      rw [HR.out]
      refine ⟨Nat.le_refl _, by omega, rfl, fun n hn => by simp at hn; omega, fun _ => ⟨w.heap.size, 0, rfl, by simp, fun i hi => ?_⟩⟩
      obtain rfl : i = 0 := by omega
      rw [World.cell?_alloc_at _ _ _ _ rfl]; rfl
    · have e1 : ((la : Int) == 1) = false := by simp; omega
      have HR := Lib.hid (show Gr.without l along = l.eraseIdx along.toNat by rw [HP.out, if_neg (by rw [LA.out]; exact c2)])
      obtain ⟨k, rfl⟩ : ∃ k : Nat, along = (k : Int) := ⟨along.toNat, by omega⟩
      clear h0 HP
      go_enter Try.func115, Try.ntmps115
      go_wp2_with fail
      refine (clone_any _ _ _ l _ KA.out hl).mono ?_
      rintro e w1 ⟨v, rfl, hO, hb⟩
      obtain ⟨g, off, cap, rfl, hM⟩ := hO.mine (by rw [LA.out]; omega)
      have HM := Lib.hid hM
      have HB := Lib.hid hb
      clear hO hM hb
      have hdel := delete_any g off cap k (k + 1) l.toArray w1 HM.out.holds (by simpa using HM.out.le) HM.out.cap_le (by omega) (by simp [LA.out]; omega)
      rw [show l.toArray.size = l.length by simp, show l.toArray.toList = l by simp, show ((k + 1 : Nat) : Int) = (k : Int) + 1 by omega] at hdel
      have HDel := Lib.hid hdel
      clear hdel
      go_wp2_with fail
      refine HDel.out.mono ?_
      rintro e w2 ⟨rfl, q, rfl⟩
      have hlen : (l.take k ++ l.drop (k + 1) ++ List.replicate (k + 1 - k) 0).length = l.length := by simp; rw [LA.out]; omega
      have hM2 := HM.out.put hlen q
      have hbel := below_putRow HB.out g off (l.take k ++ l.drop (k + 1) ++ List.replicate (k + 1 - k) 0).toArray q HM.out.lo
      have hM3 := hM2.take (l.length - 1)
      have htk : (l.take k ++ l.drop (k + 1) ++ List.replicate (k + 1 - k) 0).take (l.length - 1) = l.eraseIdx k := by
        rw [List.take_append_of_le_length (by simp; rw [LA.out]; omega), List.take_of_length_le (by simp; rw [LA.out]; omega), List.eraseIdx_eq_take_drop_succ]
      rw [htk] at hM3
      have hI := hM3.ints (fun n hn => KA.out.wf n (List.mem_of_mem_eraseIdx hn))
      have hel : (l.eraseIdx k).length = l.length - (k + 1 - k) := by rw [List.length_eraseIdx, if_pos (by rw [LA.out]; omega)]; omega
      rw [hel] at hI
      have HI := Lib.hid hI
      have HB2 := Lib.hid hbel
      clear hI hbel hM2 hM3 htk hlen hel HDel
      generalize putRow ei (Sort.ahead w1 q) g off (l.take k ++ l.drop (k + 1) ++ List.replicate (k + 1 - k) 0).toArray = w2 at *
      go_wp2
      go_ret
      exact ⟨_, _, _, rfl, by rw [HR.out]; simpa using HI.out, HB2.out⟩
end Go.Proofs.Ytgmagldbfajedaa
