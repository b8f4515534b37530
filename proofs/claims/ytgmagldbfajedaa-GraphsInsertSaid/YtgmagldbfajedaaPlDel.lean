/-
  slices.DeleteFunc on a row of integers of the call's own: contract deleteF_any.
-/
import Derived.Test.YtgmagldbfajedaaPlTake
import Derived.Shelf.SlicesE.DeleteFunc
import Derived.Sort.OwnSortedInts
import Derived.Lib.SliceRun
import Derived.Ground.SlgfProg
namespace Go.Proofs.Ytgmagldbfajedaa
open Go.Shelf Go.RowKit Go.Lib Go.Sort
def Try.l144_ren : Go.Shelf.Ren := ⟨fun | 10 => 144 | 6 => 108 | n => n, fun | 22 => 22 | 23 => 3 | 25 => 104 | 3 => 3 | 4 => 4 | 0 => 0 | n => n, fun | n => n⟩
theorem Try.l144 : Go.Proofs.SlLaysH.n10 Try.prog Try.l144_ren := {
  mixed := by kernel_rfl
  f6 := ⟨Try.f108.name, by decide, Try.func108.trans (congrArg some (by kernel_rfl))⟩
  f10 := ⟨Try.f144.name, by decide, Try.func144.trans (congrArg some (by kernel_rfl))⟩
  t0 := Try.underlying0
  a0 := Try.isAgg0
  z0 := Try.sizeOf0
  v0 := Try.zeroValue0
  t3 := Try.underlying3
  a3 := Try.isAgg3
  z3 := Try.sizeOf3
  v3 := Try.zeroValue3
  t4 := Try.underlying4
  a4 := Try.isAgg4
  z4 := Try.sizeOf4
  v4 := Try.zeroValue4
  t22 := Try.underlying22
  a22 := Try.isAgg22
  z22 := Try.sizeOf22
  v22 := Try.zeroValue22
  a23 := Try.isAgg3
  z23 := Try.sizeOf3
  t25 := Try.underlying104
  a25 := Try.isAgg104
  z25 := Try.sizeOf104
  v25 := Try.zeroValue104 }

/-- Behind DeleteFunc the slice owns what is kept. -/
theorem own_kept {w : World} {base b cap q : Nat} {cur : Array Value} {l r : List Int} (hbase : base ≤ b) (hb : w.heap[b]? = some (.cells cur 3 (0, 0))) (hr : r.length ≤ l.length) (h1 : l.length ≤ cap) (h2 : cap ≤ maxLen) (h3 : cur.size = cap * 1) :
    Own base (putRow (Value.int .i64) (Sort.ahead w q) b 0 (r ++ List.replicate (l.length - r.length) 0).toArray) (.slice (some ⟨b, 0, none⟩) r.length cap) r := by
  have hh := heap_sortedI (os := #[]) (n := q) (r ++ List.replicate (l.length - r.length) 0).toArray hb
  rw [grow_empty] at hh
  refine ⟨by simp, .inr ⟨b, cap, _, rfl, hbase, hh, Nat.le_trans hr h1, h2, by simp [putCells, h3], ?_⟩⟩
  have ht := take_putCellsI cur (r ++ List.replicate (l.length - r.length) 0) (by simp; omega)
  have h4 := congrArg (List.take r.length) ht
  rw [List.take_take, Nat.min_eq_left (by simp)] at h4
  rw [Nat.mul_one, h4]
  simp [List.map_append]

set_option maxHeartbeats 1000000 in
theorem deleteF_any (g : Nat) (lb : Array Value) (p : Int → Bool) (eg : ∀ args w, (callFunc g args).run Try.prog w = .ok (.enter g args) w) (base : Nat) (v : Value) (l : List Int) (w : World) (hO : Own base w v l)
    (hp : ∀ W : World, w.heap.size ≤ W.heap.size → (∀ k, k < w.heap.size → v.ownBlock ≠ some k → W.heap[k]? = w.heap[k]?) → ∀ x, FnGives Try.prog g lb #[.int .i64 x] (.bool (p x)) W) :
    Calls Try.prog 144 #[v, .func (.func g) #[] lb] w fun e w' => ∃ v', e = .returned v' ∧ Own base w' v' (l.filter fun x => !p x) ∧ w.grownBy w' v.ownBlock ∧ v'.ownBlock = v.ownBlock := by
  obtain ⟨h1, h2⟩ := hO
  rcases h2 with ⟨rfl, h0⟩ | ⟨b, cap, cur, rfl, hg, hh, hn, hm, hc, ht⟩
  · have : l = [] := List.eq_nil_of_length_eq_zero h0
    subst this
    have hi := AnyE.slices_IndexFunc_empty (P := Try.prog) (ρ := Try.l144_ren) { Try.l144 with } none 0 (.func (.func g) #[] lb) w
    change Calls Try.prog 108 _ _ _ at hi
    have HI := Lib.hid hi
    clear hi eg hp h1 h0
    go_enter Try.func144, Try.ntmps144
    go_wp2_with (go_at_call 108; refine HI.out.mono ?_; rintro e w1 ⟨rfl, rfl⟩)
    go_ret
    exact ⟨_, rfl, Own.nil _ _, ⟨rfl, rfl, rfl, Nat.le_refl _, fun _ _ _ => rfl⟩, rfl⟩
  · have hH : Holds (Value.int .i64) w b 0 l.toArray := holds_of_blockI hh (by rw [Nat.mul_one] at ht; exact ht)
    have hcon := AnyE.slices_DeleteFunc Try.l144 (Value.int .i64) (fun _ => rfl) p g lb eg 0 Try.zeroValue3 b 0 cap l.toArray w
      (fun W x hb => hp W hb.size (fun k hk _ => hb.block k hk) x)
      (fun n os dk x _ => hp _ (by simp [size_putRow, Sort.ahead, grow]) (fun k hk hne => (grownBy_sortedI (w := w) (g := b) (n := n) (os := os) dk).block k hk (fun e => hne e.symm)) x) hH (by unfold maxLen at hm; simp; omega) (by simpa using hn)
    change Calls Try.prog 144 _ _ _ at hcon
    simp only [List.size_toArray] at hcon
    refine hcon.mono ?_
    rintro e w' ⟨rfl, q, rfl⟩
    refine ⟨_, rfl, own_kept hg hh (List.length_filter_le _ _) hn hm hc, ?_, rfl⟩
    have := grownBy_sortedI (w := w) (g := b) (n := q) (os := #[]) ((l.filter fun x => !p x) ++ List.replicate (l.length - (l.filter fun x => !p x).length) 0).toArray
    rw [grow_empty] at this
    exact this
end Go.Proofs.Ytgmagldbfajedaa
