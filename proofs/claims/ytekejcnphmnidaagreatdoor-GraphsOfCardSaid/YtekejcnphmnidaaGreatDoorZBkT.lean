import Derived.Test.YtekejcnphmnidaaGreatDoorZBkNode
import Derived.Test.YtekejcnphmnidaaGreatDoorZBkStep
import Derived.Test.YtekejcnphmnidaaGreatDoorZBkCost
import Derived.Test.YtekejcnphmnidaaGreatDoorZTwG
namespace Go.Proofs.YtekejcnphmnidaaGreatDoor
open Go.RowKit
theorem told_Node (w : World) (B base : Nat) (n : Int) (LI LN LS LC LG : List Held) (ax : Option Addr) (lx cx : Nat) (xs : List Value) (S : BkS w B base n LI LN LS LC LG) (hm : LN.length ≤ 1000000) (h1 : n ≤ 1000000) :
    Calls Tryz.prog 189 #[.pointer (some ⟨B, 0, none⟩), .slice ax lx cx] w fun e w' => e = .returned (.tuple #[]) ∧ BkS w' B base (n + 1) LI (LN ++ [⟨.slice ax lx cx, lx, xs, .slice none 0 0, n + 1⟩]) LS LC LG ∧ Below B w w' := by
  obtain ⟨f, S⟩ := S
  refine (keepNode_any w B f n base LN.length (heldAt LN) ⟨.slice ax lx cx, lx, xs, .slice none 0 0, n + 1⟩ ax lx cx S.box S.num S.an rfl rfl rfl S.lo S.bz hm S.n0 h1).mono ?_
  rintro e w' ⟨he, vA, hbx, har, ho, _⟩
  have hB : ∀ k, base ≤ k → k ≠ B := fun k hk e => by have := S.lo; omega
  have hS : ∀ {e'} {v'} {m'} {h'}, Arr e' base w v' m' h' → 174 ≠ e' → ∀ k, v'.ownBlock = some k → ¬ (k = B ∨ (f 7).ownBlock = some k) := fun A hne k hk e => by
    rcases e with e | e
    · exact hB k (A.lt k hk).1 e
    · exact S.an.ne A hne k e hk
  have hz := ho.size
  refine ⟨he, ⟨_, hbx, by simp, fun j h0 h16 h2 h7 h8 h9 h14 => ?_, S.ai.only ho (hS S.ai (by decide)), har.push, S.as_.only ho (hS S.as_ (by decide)), S.ac.only ho (hS S.ac (by decide)), S.ag.only ho (hS S.ag (by decide)), (fun h => by simp at h), (fun h => (if_neg (by decide)).trans ((if_neg (by decide)).trans (S.es h))), (fun h => (if_neg (by decide)).trans ((if_neg (by decide)).trans (S.ec h))), (fun h => (if_neg (by decide)).trans ((if_neg (by decide)).trans (S.eg h))), S.lo, by have := S.bz; omega, by have := S.n0; omega, fun h hm => ?_⟩, ?_⟩
  · show (if j = 7 then vA else if j = 0 then .int .i64 (n + 1) else f j) = _
    rw [if_neg (by omega), if_neg (by omega)]
    exact S.rest j h0 h16 h2 h7 h8 h9 h14
  · have hn := S.n0
    have up : h ∈ LI ++ LN ++ LS ++ LC ++ LG → (0 ≤ h.num ∧ h.num ≤ n + 1) ∧ h.lg = .slice none 0 0 := fun hm => by
      obtain ⟨⟨a, b⟩, c⟩ := S.nums h hm
      exact ⟨⟨a, by omega⟩, c⟩
    simp only [List.mem_append, List.mem_singleton] at hm up
    by_cases hx : h = ⟨.slice ax lx cx, lx, xs, .slice none 0 0, n + 1⟩
    · subst hx
      exact ⟨⟨by show 0 ≤ n + 1; omega, by show n + 1 ≤ n + 1; omega⟩, rfl⟩
    · refine up ?_
      rcases hm with (((hm | hm) | hm) | hm) | hm
      · exact .inl (.inl (.inl (.inl hm)))
      · rcases hm with hm | hm
        · exact .inl (.inl (.inl (.inr hm)))
        · exact absurd hm hx
      · exact .inl (.inl (.inr hm))
      · exact .inl (.inr hm)
      · exact .inr hm
  · refine ho.below (fun k hk => ?_) (by have := S.box.lt; omega)
    rcases hk with rfl | hk
    · exact Nat.le_refl _
    · have := (S.an.lt k hk).1; have := S.lo; omega
theorem told_Step (w : World) (B base : Nat) (n : Int) (LI LN LS LC LG : List Held) (ax : Option Addr) (lx cx : Nat) (xs : List Value) (S : BkS w B base n LI LN LS LC LG) (hm : LS.length ≤ 1000000) (h1 : n ≤ 1000000) :
    Calls Tryz.prog 129 #[.pointer (some ⟨B, 0, none⟩), .slice ax lx cx] w fun e w' => e = .returned (.tuple #[]) ∧ BkS w' B base (n + 1) LI LN (LS ++ [⟨.slice ax lx cx, lx, xs, .slice none 0 0, n + 1⟩]) LC LG ∧ Below B w w' := by
  obtain ⟨f, S⟩ := S
  refine (keepStep_any w B f n base LS.length (heldAt LS) ⟨.slice ax lx cx, lx, xs, .slice none 0 0, n + 1⟩ ax lx cx S.box S.num S.as_ rfl rfl rfl S.lo S.bz hm S.n0 h1).mono ?_
  rintro e w' ⟨he, vA, hbx, har, ho, _⟩
  have hB : ∀ k, base ≤ k → k ≠ B := fun k hk e => by have := S.lo; omega
  have hS : ∀ {e'} {v'} {m'} {h'}, Arr e' base w v' m' h' → 177 ≠ e' → ∀ k, v'.ownBlock = some k → ¬ (k = B ∨ (f 8).ownBlock = some k) := fun A hne k hk e => by
    rcases e with e | e
    · exact hB k (A.lt k hk).1 e
    · exact S.as_.ne A hne k e hk
  have hz := ho.size
  refine ⟨he, ⟨_, hbx, by simp, fun j h0 h16 h2 h7 h8 h9 h14 => ?_, S.ai.only ho (hS S.ai (by decide)), S.an.only ho (hS S.an (by decide)), har.push, S.ac.only ho (hS S.ac (by decide)), S.ag.only ho (hS S.ag (by decide)), (fun h => (if_neg (by decide)).trans ((if_neg (by decide)).trans (S.en h))), (fun h => by simp at h), (fun h => (if_neg (by decide)).trans ((if_neg (by decide)).trans (S.ec h))), (fun h => (if_neg (by decide)).trans ((if_neg (by decide)).trans (S.eg h))), S.lo, by have := S.bz; omega, by have := S.n0; omega, fun h hm => ?_⟩, ?_⟩
  · show (if j = 8 then vA else if j = 0 then .int .i64 (n + 1) else f j) = _
    rw [if_neg (by omega), if_neg (by omega)]
    exact S.rest j h0 h16 h2 h7 h8 h9 h14
  · have hn := S.n0
    have up : h ∈ LI ++ LN ++ LS ++ LC ++ LG → (0 ≤ h.num ∧ h.num ≤ n + 1) ∧ h.lg = .slice none 0 0 := fun hm => by
      obtain ⟨⟨a, b⟩, c⟩ := S.nums h hm
      exact ⟨⟨a, by omega⟩, c⟩
    simp only [List.mem_append, List.mem_singleton] at hm up
    by_cases hx : h = ⟨.slice ax lx cx, lx, xs, .slice none 0 0, n + 1⟩
    · subst hx
      exact ⟨⟨by show 0 ≤ n + 1; omega, by show n + 1 ≤ n + 1; omega⟩, rfl⟩
    · refine up ?_
      rcases hm with (((hm | hm) | hm) | hm) | hm
      · exact .inl (.inl (.inl (.inl hm)))
      · exact .inl (.inl (.inl (.inr hm)))
      · rcases hm with hm | hm
        · exact .inl (.inl (.inr hm))
        · exact absurd hm hx
      · exact .inl (.inr hm)
      · exact .inr hm
  · refine ho.below (fun k hk => ?_) (by have := S.box.lt; omega)
    rcases hk with rfl | hk
    · exact Nat.le_refl _
    · have := (S.as_.lt k hk).1; have := S.lo; omega
theorem told_Cost (w : World) (B base : Nat) (n : Int) (LI LN LS LC LG : List Held) (ax : Option Addr) (lx cx : Nat) (xs : List Value) (S : BkS w B base n LI LN LS LC LG) (hm : LC.length ≤ 1000000) (h1 : n ≤ 1000000) :
    Calls Tryz.prog 126 #[.pointer (some ⟨B, 0, none⟩), .slice ax lx cx] w fun e w' => e = .returned (.tuple #[]) ∧ BkS w' B base (n + 1) LI LN LS (LC ++ [⟨.slice ax lx cx, lx, xs, .slice none 0 0, n + 1⟩]) LG ∧ Below B w w' := by
  obtain ⟨f, S⟩ := S
  refine (keepCost_any w B f n base LC.length (heldAt LC) ⟨.slice ax lx cx, lx, xs, .slice none 0 0, n + 1⟩ ax lx cx S.box S.num S.ac rfl rfl rfl S.lo S.bz hm S.n0 h1).mono ?_
  rintro e w' ⟨he, vA, hbx, har, ho, _⟩
  have hB : ∀ k, base ≤ k → k ≠ B := fun k hk e => by have := S.lo; omega
  have hS : ∀ {e'} {v'} {m'} {h'}, Arr e' base w v' m' h' → 180 ≠ e' → ∀ k, v'.ownBlock = some k → ¬ (k = B ∨ (f 9).ownBlock = some k) := fun A hne k hk e => by
    rcases e with e | e
    · exact hB k (A.lt k hk).1 e
    · exact S.ac.ne A hne k e hk
  have hz := ho.size
  refine ⟨he, ⟨_, hbx, by simp, fun j h0 h16 h2 h7 h8 h9 h14 => ?_, S.ai.only ho (hS S.ai (by decide)), S.an.only ho (hS S.an (by decide)), S.as_.only ho (hS S.as_ (by decide)), har.push, S.ag.only ho (hS S.ag (by decide)), (fun h => (if_neg (by decide)).trans ((if_neg (by decide)).trans (S.en h))), (fun h => (if_neg (by decide)).trans ((if_neg (by decide)).trans (S.es h))), (fun h => by simp at h), (fun h => (if_neg (by decide)).trans ((if_neg (by decide)).trans (S.eg h))), S.lo, by have := S.bz; omega, by have := S.n0; omega, fun h hm => ?_⟩, ?_⟩
  · show (if j = 9 then vA else if j = 0 then .int .i64 (n + 1) else f j) = _
    rw [if_neg (by omega), if_neg (by omega)]
    exact S.rest j h0 h16 h2 h7 h8 h9 h14
  · have hn := S.n0
    have up : h ∈ LI ++ LN ++ LS ++ LC ++ LG → (0 ≤ h.num ∧ h.num ≤ n + 1) ∧ h.lg = .slice none 0 0 := fun hm => by
      obtain ⟨⟨a, b⟩, c⟩ := S.nums h hm
      exact ⟨⟨a, by omega⟩, c⟩
    simp only [List.mem_append, List.mem_singleton] at hm up
    by_cases hx : h = ⟨.slice ax lx cx, lx, xs, .slice none 0 0, n + 1⟩
    · subst hx
      exact ⟨⟨by show 0 ≤ n + 1; omega, by show n + 1 ≤ n + 1; omega⟩, rfl⟩
    · refine up ?_
      rcases hm with (((hm | hm) | hm) | hm) | hm
      · exact .inl (.inl (.inl (.inl hm)))
      · exact .inl (.inl (.inl (.inr hm)))
      · exact .inl (.inl (.inr hm))
      · rcases hm with hm | hm
        · exact .inl (.inr hm)
        · exact absurd hm hx
      · exact .inr hm
  · refine ho.below (fun k hk => ?_) (by have := S.box.lt; omega)
    rcases hk with rfl | hk
    · exact Nat.le_refl _
    · have := (S.ac.lt k hk).1; have := S.lo; omega
def heldN (n : Int) (t : TN) (x : Gr.Node) : List Held := [⟨.slice (some ⟨t.b, 0, none⟩) x.inn.length t.c, x.inn.length, x.inn.map (Value.int .i64), .slice none 0 0, n + 1⟩, ⟨.slice (some ⟨t.b', 0, none⟩) x.shape.length t.c', x.shape.length, x.shape.map (Value.int .i64), .slice none 0 0, n + 2⟩]
def heldsN (n : Int) (ts : List TN) (g : List Gr.Node) (k : Nat) : List Held := (List.range k).flatMap fun (i : Nat) => heldN (n + 2 * (i : Int)) (tnAt ts i) (nodeN g i)
theorem heldsN_succ (n : Int) (ts : List TN) (g : List Gr.Node) (k : Nat) : heldsN n ts g (k + 1) = heldsN n ts g k ++ heldN (n + 2 * (k : Int)) (tnAt ts k) (nodeN g k) := by
  unfold heldsN; rw [List.range_succ, List.flatMap_append]; simp
theorem heldsN_length (n : Int) (ts : List TN) (g : List Gr.Node) (k : Nat) : (heldsN n ts g k).length = 2 * k := by
  induction k with
  | zero => rfl
  | succ k ih => rw [heldsN_succ, List.length_append, ih]; simp [heldN]; omega
set_option maxHeartbeats 2000000 in
theorem told_node (w : World) (B base : Nat) (n : Int) (LI LN LS LC LG : List Held) (kd nn pad : Int) (x : Gr.Node) (t : TN) (S : BkS w B base n LI LN LS LC LG) (hm : LI.length + 2 ≤ 1000000) (h1 : n + 2 ≤ 1000000) :
    Calls Tryz.prog 188 #[.pointer (some ⟨B, 0, none⟩), .agg #[.int .u8 kd, .slice (some ⟨t.b, 0, none⟩) x.inn.length t.c, .slice (some ⟨t.b', 0, none⟩) x.shape.length t.c', .int .i64 nn, .int .i64 pad]] w fun e w' => e = .returned (.tuple #[]) ∧ BkS w' B base (n + 2) (LI ++ heldN n t x) LN LS LC LG ∧ Below B w w' := by
  have hBl : B < w.heap.size := by obtain ⟨f, S⟩ := S; have := S.lo; have := S.bz; omega
  have hB : B ≤ w.heap.size := by omega
  have HS1 := Lib.hid (S.below ((Below.refl _ _).alloc (Nat.le_refl _) (.cells #[.int .u8 kd, .slice (some ⟨t.b, 0, none⟩) x.inn.length t.c, .slice (some ⟨t.b', 0, none⟩) x.shape.length t.c', .int .i64 nn, .int .i64 pad] 103)))
  have HB1 : Hid (Below B w (w.alloc (.cells #[.int .u8 kd, .slice (some ⟨t.b, 0, none⟩) x.inn.length t.c, .slice (some ⟨t.b', 0, none⟩) x.shape.length t.c', .int .i64 nn, .int .i64 pad] 103))) := (Below.refl _ _).alloc hB _
  have HBW := hB
  have c1 : (w.alloc (.cells #[.int .u8 kd, .slice (some ⟨t.b, 0, none⟩) x.inn.length t.c, .slice (some ⟨t.b', 0, none⟩) x.shape.length t.c', .int .i64 nn, .int .i64 pad] 103)).cell? ⟨w.heap.size, 2, none⟩ = some (.slice (some ⟨t.b', 0, none⟩) x.shape.length t.c') := by rw [World.cell?_alloc_at _ _ _ _ rfl]; rfl
  have C1 := Lib.hid c1
  clear S c1
  go_enter Tryz.func188, Tryz.ntmps188
  go_wp2_with fail
  refine (told_intsK _ B base n LI LN LS LC LG (some ⟨t.b, 0, none⟩) x.inn.length t.c (x.inn.map (Value.int .i64)) HS1.out (by omega) (by omega)).mono ?_
  rintro e w2 ⟨rfl, hS, hb, hbx⟩
  have HS2 := Lib.hid hS
  have HB2 := Lib.hid (HB1.out.trans hb)
  have c2 : w2.cell? ⟨w.heap.size, 2, none⟩ = some (.slice (some ⟨t.b', 0, none⟩) x.shape.length t.c') := by
    have hk := hbx w.heap.size (by simp) (by omega) (fun cur e => by
      have e2 : (w.heap.push (.cells #[.int .u8 kd, .slice (some ⟨t.b, 0, none⟩) x.inn.length t.c, .slice (some ⟨t.b', 0, none⟩) x.shape.length t.c', .int .i64 nn, .int .i64 pad] 103 (0, 0)))[w.heap.size]? = some (.cells cur 148 (0, 0)) := e
      rw [Array.getElem?_push_size] at e2
      injection e2 with e2; injection e2 with _ e2 _; cases e2)
    rw [← C1.out]; simp only [World.cell?, hk]
  clear hS hb hbx
  go_wp2_with fail
  refine (told_intsK _ B base (n + 1) _ LN LS LC LG (some ⟨t.b', 0, none⟩) x.shape.length t.c' (x.shape.map (Value.int .i64)) HS2.out (by rw [List.length_append]; simp; omega) (by omega)).mono ?_
  rintro e w3 ⟨rfl, hS, hb, _⟩
  have HS3 := Lib.hid hS
  have HB3 := Lib.hid (HB2.out.trans hb)
  clear hS hb
  go_wp2
  go_returns
  refine ⟨rfl, ?_, HB3.out⟩
  have e1 : n + 1 + 1 = n + 2 := by omega
  have := HS3.out
  rw [e1, List.append_assoc] at this
  exact this
set_option maxHeartbeats 2000000 in
theorem told_nodes (w : World) (B base lo : Nat) (n : Int) (LI LN LS LC LG : List Held) (nb cap : Nat) (ts : List TN) (g : List Gr.Node) (T : TwinGr lo w nb cap ts g) (hnb : nb < B) (S : BkS w B base n LI LN LS LC LG) (hm : LI.length + 2 * g.length ≤ 1000000) (hm2 : LN.length ≤ 1000000) (h1 : n + 2 * (g.length : Int) ≤ 1000000) :
    Calls Tryz.prog 120 #[.pointer (some ⟨B, 0, none⟩), .slice (some ⟨nb, 0, none⟩) g.length cap] w fun e w' => e = .returned (.tuple #[]) ∧
      BkS w' B base (n + 2 * (g.length : Int) + 1) (LI ++ heldsN n ts g g.length) (LN ++ [⟨.slice (some ⟨nb, 0, none⟩) g.length cap, g.length, flatN ts g, .slice none 0 0, n + 2 * (g.length : Int) + 1⟩]) LS LC LG ∧ Below B w w' := by
  have hn0 : 0 ≤ n := by obtain ⟨f, S⟩ := S; exact S.n0
  have hBl : B < w.heap.size := by obtain ⟨f, S⟩ := S; have := S.lo; have := S.bz; omega
  have KT := Lib.hid T
  have KS := Lib.hid S
  have hcp := T.row.le
  have hcc := T.row.cap_le
  obtain ⟨len, hlen⟩ : ∃ l, l = g.length := ⟨_, rfl⟩
  rw [← hlen] at hm h1 hcp
  rw [← hlen]
  have HL := Lib.hid hlen
  clear T S hlen
  go_enter Tryz.func120, Tryz.ntmps120
  go_wp2
  go_loopg [4] len (fun gg i wr => ∃ k : Nat, k ≤ len ∧ len - k ≤ gg ∧ i = .int .i64 k ∧ Hid (BkS wr B base (n + 2 * (k : Int)) (LI ++ heldsN n ts g k) LN LS LC LG) ∧ Hid (Below B w wr))
  case atStart =>
    refine ⟨0, Nat.zero_le _, by omega, rfl, ?_, Below.refl _ _⟩
    have e : n + 2 * ((0 : Nat) : Int) = n := by omega
    show BkS _ _ _ _ _ _ _ _ _
    rw [e, show heldsN n ts g 0 = [] from rfl, List.append_nil]
    exact KS.out
  case round =>
    obtain ⟨k, hk, hg, rfl, HS, HW⟩ := hrel
    by_cases hlt : k < len
    · have dkl : decide ((k : Int) < (len : Int)) = true := decide_eq_true (by omega)
      have hki : (k : Int) < (len : Int) := by omega
      have hkg : k < g.length := by rw [← HL.out]; exact hlt
      have x0 := (HW.out.cell (p := ⟨nb, k * 5 + 0, none⟩) hnb).trans (KT.out.cell (i := k) (j := 0) hkg (by omega) rfl)
      have x1 := (HW.out.cell (p := ⟨nb, k * 5 + 1, none⟩) hnb).trans (KT.out.cell (i := k) (j := 1) hkg (by omega) rfl)
      have x2 := (HW.out.cell (p := ⟨nb, k * 5 + 2, none⟩) hnb).trans (KT.out.cell (i := k) (j := 2) hkg (by omega) rfl)
      have x3 := (HW.out.cell (p := ⟨nb, k * 5 + 3, none⟩) hnb).trans (KT.out.cell (i := k) (j := 3) hkg (by omega) rfl)
      have x4 := (HW.out.cell (p := ⟨nb, k * 5 + 4, none⟩) hnb).trans (KT.out.cell (i := k) (j := 4) hkg (by omega) rfl)
      rw [Nat.add_zero] at x0
      have hkc : (k : Int) < (cap : Int) := by omega
      have HC := Lib.hid (told_node wr B base (n + 2 * (k : Int)) (LI ++ heldsN n ts g k) LN LS LC LG (nodeN g k).kind (nodeN g k).n (nodeN g k).pad (nodeN g k) (tnAt ts k) HS.out (by rw [List.length_append, heldsN_length]; omega) (by omega))
      go_wp2_with fail
      refine HC.out.mono ?_
      rintro e w2 ⟨rfl, hS, hb⟩
      have HS2 : Hid (BkS w2 B base (n + 2 * ((k + 1 : Nat) : Int)) (LI ++ heldsN n ts g (k + 1)) LN LS LC LG) := by
        show BkS _ _ _ _ _ _ _ _ _
        rw [heldsN_succ, ← List.append_assoc, show n + 2 * ((k + 1 : Nat) : Int) = n + 2 * (k : Int) + 2 by omega]
        exact hS
      have HW2 := Lib.hid (HW.out.trans hb)
      clear hS hb x0 x1 x2 x3 x4 HC
      go_wp2
      go_roundg (len - (k + 1))
      case measure => omega
      case rel => exact ⟨k + 1, by omega, by omega, by go_num, HS2, HW2⟩
    · have dkl : decide ((k : Int) < (len : Int)) = false := decide_eq_false (by omega)
      obtain rfl : k = len := by omega
      have HC := Lib.hid (told_Node wr B base (n + 2 * (k : Int)) (LI ++ heldsN n ts g k) LN LS LC LG (some ⟨nb, 0, none⟩) k cap (flatN ts g) HS.out hm2 (by omega))
      go_wp2_with fail
      refine HC.out.mono ?_
      rintro e w2 ⟨rfl, hS, hb⟩
      have HS2 := Lib.hid hS
      have HW2 := Lib.hid (HW.out.trans hb)
      clear hS hb HC
      go_wp2
      go_returns
      exact ⟨rfl, HS2.out, HW2.out⟩
theorem told_graph (w : World) (B base lo : Nat) (n : Int) (LI LN LS LC LG : List Held) (nb cap len : Nat) (ts : List TN) (g : List Gr.Node) (hl : g.length = len) (T : TwinGr lo w nb cap ts g) (hnb : nb < B) (S : BkS w B base n LI LN LS LC LG) (hm : LI.length + 2 * len ≤ 1000000) (hm2 : LN.length ≤ 1000000) (h1 : n + 2 * (len : Int) ≤ 1000000) :
    Calls Tryz.prog 29 #[.pointer (some ⟨B, 0, none⟩), .agg #[.slice (some ⟨nb, 0, none⟩) len cap]] w fun e w' => e = .returned (.tuple #[]) ∧
      BkS w' B base (n + 2 * (len : Int) + 1) (LI ++ heldsN n ts g len) (LN ++ [⟨.slice (some ⟨nb, 0, none⟩) len cap, len, flatN ts g, .slice none 0 0, n + 2 * (len : Int) + 1⟩]) LS LC LG ∧ Below B w w' := by
  subst hl
  have hBl : B < w.heap.size := by obtain ⟨f, S⟩ := S; have := S.lo; have := S.bz; omega
  have hB1 : Below w.heap.size w (w.alloc (.cells #[.slice (some ⟨nb, 0, none⟩) g.length cap] 56)) := (Below.refl _ _).alloc (Nat.le_refl _) _
  have HB1 : Hid (Below B w (w.alloc (.cells #[.slice (some ⟨nb, 0, none⟩) g.length cap] 56))) := hB1.mono (by omega)
  have HC := Lib.hid (told_nodes _ B base lo n LI LN LS LC LG nb cap ts g (T.below hB1) hnb (S.below hB1) hm hm2 h1)
  clear T S hB1
  go_enter Tryz.func29, Tryz.ntmps29
  go_wp2_with fail
  refine HC.out.mono ?_
  rintro e w2 ⟨rfl, hS, hb⟩
  have HS := Lib.hid hS
  have HB := Lib.hid (HB1.out.trans hb)
  clear hS hb
  go_wp2
  go_returns
  exact ⟨rfl, HS.out, HB.out⟩
theorem told_steps (w : World) (B base : Nat) (n : Int) (LI LN LS LC LG : List Held) (ax : Option Addr) (lx cx : Nat) (xs : List Value) (S : BkS w B base n LI LN LS LC LG) (hm : LS.length ≤ 1000000) (h1 : n ≤ 1000000) :
    Calls Tryz.prog 42 #[.pointer (some ⟨B, 0, none⟩), .slice ax lx cx] w fun e w' => e = .returned (.tuple #[]) ∧ BkS w' B base (n + 1) LI LN (LS ++ [⟨.slice ax lx cx, lx, xs, .slice none 0 0, n + 1⟩]) LC LG ∧ Below B w w' := by
  have HK := Lib.hid (told_Step w B base n LI LN LS LC LG ax lx cx xs S hm h1)
  clear S
  go_enter Tryz.func42, Tryz.ntmps42
  go_wp2_with fail
  refine HK.out.mono ?_
  rintro e w1 ⟨rfl, hr⟩
  have HR := Lib.hid hr
  clear hr
  go_wp2
  go_returns
  exact ⟨rfl, HR.out⟩
theorem told_costs (w : World) (B base : Nat) (n : Int) (LI LN LS LC LG : List Held) (ax : Option Addr) (lx cx : Nat) (xs : List Value) (S : BkS w B base n LI LN LS LC LG) (hm : LC.length ≤ 1000000) (h1 : n ≤ 1000000) :
    Calls Tryz.prog 36 #[.pointer (some ⟨B, 0, none⟩), .slice ax lx cx] w fun e w' => e = .returned (.tuple #[]) ∧ BkS w' B base (n + 1) LI LN LS (LC ++ [⟨.slice ax lx cx, lx, xs, .slice none 0 0, n + 1⟩]) LG ∧ Below B w w' := by
  have HK := Lib.hid (told_Cost w B base n LI LN LS LC LG ax lx cx xs S hm h1)
  clear S
  go_enter Tryz.func36, Tryz.ntmps36
  go_wp2_with fail
  refine HK.out.mono ?_
  rintro e w1 ⟨rfl, hr⟩
  have HR := Lib.hid hr
  clear hr
  go_wp2
  go_returns
  exact ⟨rfl, HR.out⟩
end Go.Proofs.YtekejcnphmnidaaGreatDoor
