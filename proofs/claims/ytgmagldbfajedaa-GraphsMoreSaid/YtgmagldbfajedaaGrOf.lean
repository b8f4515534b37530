/-
  graphs.kind.of: contract kindof_any. windows.slides: slides_any.
-/
import Derived.Test.YtgmagldbfajedaaShp
namespace Go.Proofs.Ytgmagldbfajedaa
open Go.RowKit

/-- The values of a kind and of a node. -/
def kindV (k : Gr.Kind) : Value := .agg #[.int .i64 k.least, .int .i64 k.most, .int .i64 k.low, .int .i64 k.high, .int .i64 k.around, .int .i64 k.shaped]

set_option maxHeartbeats 2000000 in
theorem kindof_any (least most low high around shaped kd n pad : Int) (ai sa : Option Addr) (li ci ls cs : Nat) (inn shape : List Int) (w : World) (HI : Ints w ai li ci inn) (HS : Ints w sa ls cs shape) :
    Calls Try.prog 69 #[.agg #[.int .i64 least, .int .i64 most, .int .i64 low, .int .i64 high, .int .i64 around, .int .i64 shaped], .agg #[.int .u8 kd, .slice ai li ci, .slice sa ls cs, .int .i64 n, .int .i64 pad]] w
      fun e w' => e = .returned (.bool (Gr.ofB ⟨least, most, low, high, around, shaped⟩ ⟨kd, inn, shape, n, pad⟩)) ∧ Below w.heap.size w w' := by
  have hle := HI.le
  have hcap := HI.cap_le
  have hls := HS.le
  have hcs := HS.cap_le
  have LI := Lib.hid HI.length
  have LS := Lib.hid HS.length
  have KS := Lib.hid HS
  have hB : Hid (∀ o1 o2, Below w.heap.size w ((w.alloc o1).alloc o2)) := fun o1 o2 => ((Below.refl _ _).alloc (Nat.le_refl _) _).alloc (by simp) _
  clear HI HS
  have HO : Hid (Gr.ofB ⟨least, most, low, high, around, shaped⟩ ⟨kd, inn, shape, n, pad⟩ = if (li : Int) < least ∨ most < (li : Int) ∨ n < low ∨ high < n ∨ pad < 0 ∨ around < pad then false
      else if shaped = 0 then decide ((ls : Int) = 0) else if shaped = 1 then Gr.chk shape else Gr.order shape) := by
    show _ = _
    unfold Gr.ofB; simp only [LI.out, LS.out]
  by_cases c : (li : Int) < least ∨ most < (li : Int) ∨ n < low ∨ high < n ∨ pad < 0 ∨ around < pad
  · have HR := Lib.hid (HO.out.trans (if_pos c))
    by_cases c1 : (li : Int) < least
    · have d1 : decide ((li : Int) < least) = true := decide_eq_true c1
      clear c c1 HO
      go_enter Try.func69, Try.ntmps69
      go_wp2
      go_ret
      exact ⟨by rw [HR.out]; rfl, hB.out _ _⟩
    · have d1 : decide ((li : Int) < least) = false := decide_eq_false c1
      by_cases c2 : most < (li : Int)
      · have d2 : decide ((li : Int) > most) = true := decide_eq_true c2
        clear c c1 c2 HO
        go_enter Try.func69, Try.ntmps69
        go_wp2
        go_ret
        exact ⟨by rw [HR.out]; rfl, hB.out _ _⟩
      · have d2 : decide ((li : Int) > most) = false := decide_eq_false c2
        by_cases c3 : n < low
        · have d3 : decide (n < low) = true := decide_eq_true c3
          clear c c1 c2 c3 HO
          go_enter Try.func69, Try.ntmps69
          go_wp2
          go_ret
          exact ⟨by rw [HR.out]; rfl, hB.out _ _⟩
        · have d3 : decide (n < low) = false := decide_eq_false c3
          by_cases c4 : high < n
          · have d4 : decide (n > high) = true := decide_eq_true c4
            clear c c1 c2 c3 c4 HO
            go_enter Try.func69, Try.ntmps69
            go_wp2
            go_ret
            exact ⟨by rw [HR.out]; rfl, hB.out _ _⟩
          · have d4 : decide (n > high) = false := decide_eq_false c4
            by_cases c5 : pad < 0
            · have d5 : decide (pad < 0) = true := decide_eq_true c5
              clear c c1 c2 c3 c4 c5 HO
              go_enter Try.func69, Try.ntmps69
              go_wp2
              go_ret
              exact ⟨by rw [HR.out]; rfl, hB.out _ _⟩
            · have d5 : decide (pad < 0) = false := decide_eq_false c5
              have d6 : decide (pad > around) = true := decide_eq_true (by omega)
              clear c c1 c2 c3 c4 c5 HO
              go_enter Try.func69, Try.ntmps69
              go_wp2
              go_ret
              exact ⟨by rw [HR.out]; rfl, hB.out _ _⟩
  · have d1 : decide ((li : Int) < least) = false := decide_eq_false (by omega)
    have d2 : decide ((li : Int) > most) = false := decide_eq_false (by omega)
    have d3 : decide (n < low) = false := decide_eq_false (by omega)
    have d4 : decide (n > high) = false := decide_eq_false (by omega)
    have d5 : decide (pad < 0) = false := decide_eq_false (by omega)
    have d6 : decide (pad > around) = false := decide_eq_false (by omega)
    have HO2 := Lib.hid (HO.out.trans (if_neg c))
    have KS2 : Hid (∀ o1 o2, Ints ((w.alloc o1).alloc o2) sa ls cs shape) := fun o1 o2 => KS.out.below (((Below.refl _ _).alloc (Nat.le_refl _) _).alloc (by simp) _)
    clear c HO
    by_cases s0 : shaped = 0
    · have HR := Lib.hid (HO2.out.trans (if_pos s0))
      have e0 : (shaped == 0) = true := by simp [s0]
      have HE : Hid (decide ((ls : Int) = 0) = ((ls : Int) == 0)) := rfl
      clear s0 HO2
      go_enter Try.func69, Try.ntmps69
      go_wp2
      go_ret
      exact ⟨by rw [HR.out, HE.out]; rfl, hB.out _ _⟩
    · have e0 : (shaped == 0) = false := by simp [s0]
      have HO3 := Lib.hid (HO2.out.trans (if_neg s0))
      by_cases s1 : shaped = 1
      · have e1 : (shaped == 1) = true := by simp [s1]
        have HR := Lib.hid (HO3.out.trans (if_pos s1))
        clear s0 s1 HO2 HO3
        go_enter Try.func69, Try.ntmps69
        go_wp2_with fail
        refine (check_any _ _ _ shape _ (KS2.out _ _)).mono ?_
        rintro e w1 ⟨rfl, rfl⟩
        go_wp2
        go_ret
        exact ⟨by rw [HR.out]; rfl, hB.out _ _⟩
      · have e1 : (shaped == 1) = false := by simp [s1]
        have HR := Lib.hid (HO3.out.trans (if_neg s1))
        clear s0 s1 HO2 HO3
        go_enter Try.func69, Try.ntmps69
        go_wp2_with fail
        refine (order_any _ _ _ shape _ (KS2.out _ _)).mono ?_
        rintro e w1 ⟨rfl, rfl⟩
        go_wp2
        go_ret
        exact ⟨by rw [HR.out]; rfl, hB.out _ _⟩

theorem slides_any (rows look step : Int) (w : World) (h0 : -9223372036854775808 ≤ rows) (h1 : rows ≤ 4096) (h2 : 0 ≤ look) (h3 : look ≤ 4096) (h4 : 1 ≤ step) (h5 : step ≤ 4096) :
    Calls Try.prog 135 #[.int .i64 rows, .int .i64 look, .int .i64 step] w fun e w' => e = .returned (.int .i64 (Gr.slides rows look step)) ∧ w = w' := by
  by_cases c : rows < look
  · have d1 : decide (rows < look) = true := decide_eq_true c
    have HR := Lib.hid (show Gr.slides rows look step = 0 by unfold Gr.slides; rw [if_pos c])
    go_enter Try.func135, Try.ntmps135
    go_wp2
    go_ret
    exact ⟨by rw [HR.out]; rfl, rfl⟩
  · have d1 : decide (rows < look) = false := decide_eq_false c
    have HR := Lib.hid (show Gr.slides rows look step = Int.tdiv (rows - look) step + 1 by unfold Gr.slides; rw [if_neg c])
    have hq0 : 0 ≤ Int.tdiv (rows - look) step := by rw [Int.tdiv_eq_ediv_of_nonneg (by omega)]; exact Int.ediv_nonneg (by omega) (by omega)
    have hq1 : Int.tdiv (rows - look) step ≤ rows - look := by rw [Int.tdiv_eq_ediv_of_nonneg (by omega)]; exact Int.ediv_le_self _ (by omega)
    have hz : (step == 0) = false := by simp; omega
    go_enter Try.func135, Try.ntmps135
    go_wp2
    go_ret
    exact ⟨by rw [HR.out]; rfl, rfl⟩
end Go.Proofs.Ytgmagldbfajedaa
