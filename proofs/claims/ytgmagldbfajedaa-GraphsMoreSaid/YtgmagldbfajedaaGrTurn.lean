/-
  graphs.turned: contract turned_any.
-/
import Derived.Test.YtgmagldbfajedaaOwn
import Derived.Test.YtgmagldbfajedaaShp
import Derived.Test.YtgmagldbfajedaaEvFar
import Derived.Deep.DeepMust
namespace Go.Proofs.Ytgmagldbfajedaa
open Go.RowKit

namespace Gr
/-- Directions, looked up. -/
def looked (s o : List Int) : List Int := o.map fun k => nth s k.toNat
/-- Directions in another order. -/
def turned (s o : List Int) : List Int := if s.length ≠ o.length then [] else looked s o
theorem looked_snoc (s o : List Int) (k : Nat) (hk : k < o.length) : looked s (o.take (k + 1)) = looked s (o.take k) ++ [Ev.at_ s (nth o k)] := by
  unfold looked; rw [take_snoc o k hk, List.map_append]; rfl
theorem looked_length (s o : List Int) : (looked s o).length = o.length := by unfold looked; simp
theorem looked_mem {s o : List Int} {n : Int} (h : n ∈ looked s o) : ∃ x ∈ o, nth s x.toNat = n := by unfold looked at h; simpa using h
end Gr

/-- What a function answers: a shape that can be read. -/
def ShapeS (w : World) (l : List Int) (e : Ending) (w' : World) : Prop := ∃ a len cap, e = .returned (.slice a len cap) ∧ Ints w' a len cap l ∧ Below w.heap.size w w'

set_option maxHeartbeats 2000000 in
theorem turned_any (a b : Option Addr) (la ca lb cb : Nat) (l m : List Int) (w : World) (HA : Ints w a la ca l) (HB : Ints w b lb cb m) (hm : la = lb → ∀ x ∈ m, 0 ≤ x ∧ x < (la : Int)) (hs : lb ≤ 1000000) :
    Calls Try.prog 113 #[.slice a la ca, .slice b lb cb] w fun e w' => ShapeS w (Gr.turned l m) e w' := by
  have KA := Lib.hid HA
  have KB := Lib.hid HB
  have ha1 := HA.le
  have ha2 := HA.cap_le
  have hb1 := HB.le
  have hb2 := HB.cap_le
  have LA := Lib.hid HA.length
  have LB := Lib.hid HB.length
  clear HA HB
  by_cases hl : la = lb
  · subst hl
    have HM := Lib.hid (hm rfl)
    have HR := Lib.hid (show Gr.turned l m = Gr.looked l m by unfold Gr.turned; rw [if_neg (by rw [LA.out, LB.out]; simp)])
    have hne : ((la : Int) != (la : Int)) = false := by simp
    clear hm
    go_enter Try.func113, Try.ntmps113
    go_wp2
    go_loopg [4, 14] la (fun gg v i wr => ∃ k : Nat, k ≤ la ∧ la - k ≤ gg ∧ i = .int .i64 k ∧ Hid (Own w.heap.size wr v (Gr.looked l (m.take k))) ∧ Hid (Below w.heap.size w wr))
    case atStart => exact ⟨0, Nat.zero_le _, by omega, rfl, Own.nil _ _, Below.refl _ _⟩
    case round =>
      obtain ⟨k, hk, hg, rfl, HO, HWr⟩ := hrel
      by_cases hlt : k < la
      · have hkm : k < m.length := by rw [LB.out]; exact hlt
        obtain ⟨hv0, hv1⟩ := HM.out (nth m k) (nth_mem m k hkm)
        have HS := Lib.hid (Gr.looked_snoc l m k hkm)
        obtain ⟨bb, ob, rfl, _, hcb⟩ := (KB.out.below HWr.out).at_ (by omega)
        have hbk := hcb k hlt
        obtain ⟨ba, oa, rfl, _, hca⟩ := (KA.out.below HWr.out).get (x := nth m k) hv0 hv1
        clear hcb
        go_wp2_with (at_builtin; go_must (refine wpList_app1 _ rfl _ _ rfl w.heap.size _ _ _ HO.out rfl rfl HWr.out.size ?c1 ?_))
        case c1 => rw [Gr.looked_length, List.length_take]; omega
        intro v' w3 hown' hbel hgrow
        have HO' := Lib.hid hown'
        have HW3 : Hid (Below w.heap.size w w3) := HWr.out.trans hbel
        clear hown' hbel hgrow
        go_wp2
        go_roundg (la - (k + 1))
        case measure => omega
        case rel => exact ⟨k + 1, by omega, by omega, by go_num, by rw [HS.out]; exact HO', HW3⟩
      · have hkm : m.length ≤ k := by rw [LB.out]; omega
        rw [List.take_of_length_le hkm, ← HR.out] at HO
        have hwf : ∀ n ∈ Gr.turned l m, -9223372036854775808 ≤ n ∧ n ≤ 9223372036854775807 := fun n hn => by
          rw [HR.out] at hn
          obtain ⟨x, hx, rfl⟩ := Gr.looked_mem hn
          obtain ⟨hx0, hx1⟩ := HM.out x hx
          exact KA.out.nth_wf (by omega)
        obtain ⟨ar, lr, cr, rfl, HRi, _⟩ := HO.out.ints hwf
        have KR := Lib.hid HRi
        clear HO HRi hwf
        go_wp2
        go_ret
        exact ⟨_, _, _, rfl, KR.out, HWr.out⟩
  · have hne : ((la : Int) != (lb : Int)) = true := by simp; omega
    have HR := Lib.hid (show Gr.turned l m = [] by unfold Gr.turned; rw [if_pos (by rw [LA.out, LB.out]; exact hl)])
    clear hl hm
    go_enter Try.func113, Try.ntmps113
    go_wp2
    go_ret
    exact ⟨_, _, _, rfl, by rw [HR.out]; exact Ints.nil, Below.refl _ _⟩
end Go.Proofs.Ytgmagldbfajedaa
