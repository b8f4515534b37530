/-
  the pick of the chapter 21: its world facts, the vocabulary of its post (PickPost).
-/
import Derived.Test.YtgmagldbfajedaaOwn
import Derived.Test.YtgmagldbfajedaaEvNodes
import Derived.Test.YtgmagldbfajedaaEvWithin
import Derived.Test.YtgmagldbfajedaaEvPick1
import Derived.Test.YtgmagldbfajedaaStStable
namespace Go.Proofs.Ytgmagldbfajedaa
open Go.RowKit Go.Sort

/-- A result: nil, or a row of its own, as long as it is. -/
def NewRow (B : Nat) (a : Option Addr) (len cap : Nat) (w : World) : Prop :=
  (a = none ∧ len = 0 ∧ cap = 0) ∨ ∃ g, a = some ⟨g, 0, none⟩ ∧ B ≤ g ∧ g < w.heap.size ∧ cap = len ∧ ∀ i, i < cap → w.frozen? ⟨g, i, none⟩ = false ∧ ∃ u, w.cell? ⟨g, i, none⟩ = some u

def PickPost (w : World) (L : List Int) (E : Int) (e : Ending) (w' : World) : Prop :=
  ∃ a len cap, e = .returned (.tuple #[.slice a len cap, .int .i64 E]) ∧ Ints w' a len cap L ∧ Below w.heap.size w w' ∧ NewRow w.heap.size a len cap w'

theorem pick_err {w w' : World} {L : List Int} {E E' : Int} (hb : Below w.heap.size w w') (hL : L = []) (hE : E = E') : PickPost w L E (.returned (.tuple #[.slice none 0 0, .int .i64 E'])) w' :=
  ⟨none, 0, 0, by rw [hE], by rw [hL]; exact Ints.nil, hb, .inl ⟨rfl, rfl, rfl⟩⟩

theorem pickL_of_err {inn pin bytes next : List Int} {room need E : Int} (h : Ev.pickE inn pin bytes next room need = E) (hE : E ≠ 0) : Ev.pickL inn pin bytes next room need = [] := Ev.pickL_err (by omega)

theorem pickE_args {inn pin bytes next : List Int} {room need : Int} (h : Ev.argsB inn pin bytes next room need = false) : Ev.pickE inn pin bytes next room need = 1 := by
  unfold Ev.pickE; rw [h]; rfl

set_option maxHeartbeats 4000000 in
set_option maxRecDepth 100000 in
/-- The arguments are out of form. -/
theorem pick_bad (ai ap ab an : Option Addr) (li ci lp cp lb cb ln cn : Nat) (inn pin bytes next : List Int) (room need : Int) (w : World)
    (HI : Ints w ai li ci inn) (HP : Ints w ap lp cp pin) (HB : Ints w ab lb cb bytes) (HN : Ints w an ln cn next)
    (hr : -9223372036854775808 ≤ room ∧ room ≤ 9223372036854775807) (hd : -9223372036854775808 ≤ need ∧ need ≤ 9223372036854775807)
    (hbad : Ev.argsB inn pin bytes next room need = false) :
    Calls Try.prog 28 #[.agg #[.slice ai li ci, .slice ap lp cp, .int .i64 room], .slice ab lb cb, .slice an ln cn, .int .i64 need]
      w (PickPost w (Ev.pickL inn pin bytes next room need) (Ev.pickE inn pin bytes next room need)) := by
  have hE := pickE_args hbad
  have HE := Lib.hid hE
  have HL := Lib.hid (pickL_of_err hE (by omega))
  have KI := Lib.hid HI
  have KP := Lib.hid HP
  have KB := Lib.hid HB
  have hbl : (bytes.length : Int) = lb := by rw [HB.length]
  have hnl : (next.length : Int) = ln := by rw [HN.length]
  have hW2 : Ints (w.alloc (.cells #[.slice ai li ci, .slice ap lp cp, .int .i64 room] 31)) ab lb cb bytes := HB.alloc _
  clear HI HP HB HN hE
  unfold Ev.argsB at hbad
  rw [hbl] at hbad
  have HBad := Lib.hid hbad
  cases h1 : Ev.nodesB (lb : Int) [] inn with
  | false =>
    have H1 := Lib.hid h1; clear h1 hbad hbl hnl hW2
    go_enter Try.func28, Try.ntmps28
    go_wp2_with fail
    refine (nodes_any _ _ _ inn _ _ (KI.out.alloc _)).mono ?_
    rintro e w1 ⟨rfl, rfl⟩
    rw [H1.out]
    go_wp2
    go_ret2
    exact pick_err ((Below.refl _ _).alloc (Nat.le_refl _) _) HL.out HE.out
  | true =>
    have H1 := Lib.hid h1
    cases h2 : Ev.nodesB (lb : Int) [] pin with
    | false =>
      have H2 := Lib.hid h2; clear h1 h2 hbad hbl hnl hW2
      go_enter Try.func28, Try.ntmps28
      go_wp2_with fail
      refine (nodes_any _ _ _ inn _ _ (KI.out.alloc _)).mono ?_
      rintro e w1 ⟨rfl, rfl⟩
      rw [H1.out]
      go_wp2_with fail
      refine (nodes_any _ _ _ pin _ _ (KP.out.alloc _)).mono ?_
      rintro e w1 ⟨rfl, rfl⟩
      rw [H2.out]
      go_wp2
      go_ret2
      exact pick_err ((Below.refl _ _).alloc (Nat.le_refl _) _) HL.out HE.out
    | true =>
      have H2 := Lib.hid h2
      by_cases h3 : ln = lb
      · have e3 : ((ln : Int) != (lb : Int)) = false := by simp [h3]
        cases h4 : Ev.within bytes with
        | false =>
          have H4 := Lib.hid h4; clear h1 h2 h3 h4 hbad hbl hnl
          have KB2 := Lib.hid hW2; clear hW2
          go_enter Try.func28, Try.ntmps28
          go_wp2_with fail
          refine (nodes_any _ _ _ inn _ _ (KI.out.alloc _)).mono ?_
          rintro e w1 ⟨rfl, rfl⟩
          rw [H1.out]
          go_wp2_with fail
          refine (nodes_any _ _ _ pin _ _ (KP.out.alloc _)).mono ?_
          rintro e w1 ⟨rfl, rfl⟩
          rw [H2.out]
          go_wp2_with fail
          refine (within_any _ _ _ bytes _ KB2.out).mono ?_
          rintro e w1 ⟨rfl, hb⟩
          have HBw := Lib.hid hb; clear hb
          rw [H4.out]
          go_wp2
          go_ret2
          exact pick_err (((Below.refl _ _).alloc (Nat.le_refl _) _).trans (HBw.out.mono (by simp))) HL.out HE.out
        | true =>
          have h5 : Ev.within [room, need] = false := by
            rw [h1, h2, h4] at hbad
            have hlen : next.length = bytes.length := by omega
            simpa [hlen] using hbad
          have H4 := Lib.hid h4
          have H5 := Lib.hid h5; clear h1 h2 h3 h4 h5 hbad hbl hnl
          have KB2 := Lib.hid hW2; clear hW2
          go_enter Try.func28, Try.ntmps28
          go_wp2_with fail
          refine (nodes_any _ _ _ inn _ _ (KI.out.alloc _)).mono ?_
          rintro e w1 ⟨rfl, rfl⟩
          rw [H1.out]
          go_wp2_with fail
          refine (nodes_any _ _ _ pin _ _ (KP.out.alloc _)).mono ?_
          rintro e w1 ⟨rfl, rfl⟩
          rw [H2.out]
          go_wp2_with fail
          refine (within_any _ _ _ bytes _ KB2.out).mono ?_
          rintro e w1 ⟨rfl, hb⟩
          have hc2 : w1.cell? ⟨w.heap.size, 2, none⟩ = some (.int .i64 room) := by
            rw [hb.cell (p := ⟨w.heap.size, 2, none⟩) (by simp), World.cell?_alloc_at _ _ _ _ rfl]; rfl
          have HBw := Lib.hid hb; clear hb
          rw [H4.out]
          go_wp2_with fail
          refine (within_any _ _ _ [room, need] _ (ints_two w1 room need hr hd)).mono ?_
          rintro e w2 ⟨rfl, hb2⟩
          have HBw2 := Lib.hid hb2; clear hb2
          rw [H5.out]
          go_wp2
          go_ret2
          exact pick_err (((Below.refl _ _).alloc (Nat.le_refl _) _).trans ((HBw.out.mono (by simp)).trans (((Below.refl _ _).alloc (by have := HBw.out.size; simp at this; omega) _).trans (HBw2.out.mono (by have := HBw.out.size; simp at this ⊢; omega))))) HL.out HE.out
      · have e3 : ((ln : Int) != (lb : Int)) = true := by simp; omega
        clear h1 h2 h3 hbad hbl hnl hW2
        go_enter Try.func28, Try.ntmps28
        go_wp2_with fail
        refine (nodes_any _ _ _ inn _ _ (KI.out.alloc _)).mono ?_
        rintro e w1 ⟨rfl, rfl⟩
        rw [H1.out]
        go_wp2_with fail
        refine (nodes_any _ _ _ pin _ _ (KP.out.alloc _)).mono ?_
        rintro e w1 ⟨rfl, rfl⟩
        rw [H2.out]
        go_wp2
        go_ret2
        exact pick_err ((Below.refl _ _).alloc (Nat.le_refl _) _) HL.out HE.out
end Go.Proofs.Ytgmagldbfajedaa
