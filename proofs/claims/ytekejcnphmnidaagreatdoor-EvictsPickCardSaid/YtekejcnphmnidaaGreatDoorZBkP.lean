/-
  A Book that was told of lists of ints only: contracts bookInts_any (Book.Ints), apartInts_any (Book.Apart). Printed by gen_bkapart.py.
-/
import Derived.Test.YtekejcnphmnidaaGreatDoorZBkL
namespace Go.Proofs.YtekejcnphmnidaaGreatDoor
open Go.RowKit

set_option maxHeartbeats 1000000 in
theorem bookInts_any (w : World) (B : Nat) (f : Nat → Value) (n : Int) (base m : Nat) (h : Nat → Held) (x : Held) (ax : Option Addr) (lx cx : Nat) (H : Bk w B f) (hn : f 0 = .int .i64 n) (A : Arr 148 base w (f 2) m h)
    (hx : x.v = .slice ax lx cx) (hxl : x.lg = .slice none 0 0) (hxn : x.num = n + 1) (hB : B < base) (hbz : base ≤ w.heap.size) (hm : m ≤ 1000000) (h0 : 0 ≤ n) (h1 : n ≤ 1000000) :
    Calls Tryz.prog 15 #[.pointer (some ⟨B, 0, none⟩), .slice ax lx cx] w fun e w' => e = .returned (.tuple #[]) ∧ ∃ vA, Bk w' B (fun j => if j = 2 then vA else if j = 0 then .int .i64 (n + 1) else f j) ∧ Arr 148 base w' vA (m + 1) (fun j => if j = m then x else h j) ∧
      Only (fun k => k = B ∨ (f 2).ownBlock = some k) w w' ∧ (vA.ownBlock = (f 2).ownBlock ∨ ∃ k, vA.ownBlock = some k ∧ w.heap.size ≤ k) := by
  have HK := Lib.hid (keepInt_any w B f n base m h x ax lx cx H hn A hx hxl hxn hB hbz hm h0 h1)
  clear H hn A hx hxl hxn
  go_enter Tryz.func15, Tryz.ntmps15
  go_wp2_with fail
  refine HK.out.mono ?_
  rintro e w1 ⟨rfl, hr⟩
  have HR := Lib.hid hr
  clear hr
  go_wp2
  go_returns
  exact ⟨rfl, HR.out⟩

set_option maxHeartbeats 4000000 in
set_option maxRecDepth 100000 in
theorem apartInts_any (w : World) (B : Nat) (f : Nat → Value) (base m : Nat) (h : Nat → Held) (H : Bk w B f) (hf : ∀ j, 0 < j → j < 16 → j ≠ 2 → f j = .slice none 0 0) (A : Arr 148 base w (f 2) m h) (hR : ∀ j, j < m → RowV 1 w (h j).v (h j).n (h j).xs) (hm : m ≤ 1000000)
    (hn : ∀ j, j < m → (h j).n ≤ 1000000) (hlg : ∀ j, j < m → (h j).lg = .slice none 0 0) (hnum : ∀ j, j < m → 0 ≤ (h j).num ∧ (h j).num ≤ 1000000000) (hap : ApartV m (fun j => (h j).v)) (hB : ∀ j, j < m → (h j).v.ownBlock ≠ some B)
    (hA : ∀ j, j < m → ∀ k, (f 2).ownBlock = some k → (h j).v.ownBlock ≠ some k) (hAB : (f 2).ownBlock ≠ some B) :
    Calls Tryz.prog 16 #[.pointer (some ⟨B, 0, none⟩)] w fun e w' => e = .returned (.bool true) ∧ Only (fun b => (∃ j, j < m ∧ (h j).v.ownBlock = some b) ∨ (f 2).ownBlock = some b) w w' := by
  have HH := Lib.hid H
  have HF := Lib.hid hf
  have HA0 := Lib.hid A
  have HR0 := Lib.hid hR
  have HN := Lib.hid hn
  have HLG := Lib.hid hlg
  have HNUM := Lib.hid hnum
  have HAP := Lib.hid hap
  have HBV := Lib.hid hB
  have HAV := Lib.hid hA
  have HAB := Lib.hid hAB
  clear H hf A hR hn hlg hnum hap hB hA hAB
  go_enter Tryz.func16, Tryz.ntmps16
  go_wp2_with fail
  refine (fillByte_nil _ B f HH.out (HF.out 1 (by omega) (by omega) (by omega))).mono ?_
  rintro e wx ⟨rfl, hw⟩
  obtain rfl := hw.symm
  go_wp2_with fail
  refine (fillInt_any _ B f base m h HH.out HA0.out HR0.out hm HLG.out HNUM.out HAP.out HBV.out HAV.out).mono ?_
  rintro e w1 ⟨rfl, hr1, ho1⟩
  have HR1 := Lib.hid hr1
  have HO1 := Lib.hid ho1
  have HH1 := Lib.hid (HH.out.only ho1 (fun ⟨j, hj, e⟩ => HBV.out j hj e))
  have HA1 := Lib.hid (HA0.out.only ho1 (fun k hk ⟨j, hj, e⟩ => HAV.out j hj k hk e))
  clear hr1 ho1
  go_wp2_with fail
  refine (fillNumber_nil _ B f HH1.out (HF.out 3 (by omega) (by omega) (by omega))).mono ?_
  rintro e wx ⟨rfl, hw⟩
  obtain rfl := hw.symm
  go_wp2_with fail
  refine (fillId_nil _ B f HH1.out (HF.out 4 (by omega) (by omega) (by omega))).mono ?_
  rintro e wx ⟨rfl, hw⟩
  obtain rfl := hw.symm
  go_wp2_with fail
  refine (fillText_nil _ B f HH1.out (HF.out 5 (by omega) (by omega) (by omega))).mono ?_
  rintro e wx ⟨rfl, hw⟩
  obtain rfl := hw.symm
  go_wp2_with fail
  refine (fillTensor_nil _ B f HH1.out (HF.out 6 (by omega) (by omega) (by omega))).mono ?_
  rintro e wx ⟨rfl, hw⟩
  obtain rfl := hw.symm
  go_wp2_with fail
  refine (fillNode_nil _ B f HH1.out (HF.out 7 (by omega) (by omega) (by omega))).mono ?_
  rintro e wx ⟨rfl, hw⟩
  obtain rfl := hw.symm
  go_wp2_with fail
  refine (fillStep_nil _ B f HH1.out (HF.out 8 (by omega) (by omega) (by omega))).mono ?_
  rintro e wx ⟨rfl, hw⟩
  obtain rfl := hw.symm
  go_wp2_with fail
  refine (fillCost_nil _ B f HH1.out (HF.out 9 (by omega) (by omega) (by omega))).mono ?_
  rintro e wx ⟨rfl, hw⟩
  obtain rfl := hw.symm
  go_wp2_with fail
  refine (fillRecord_nil _ B f HH1.out (HF.out 10 (by omega) (by omega) (by omega))).mono ?_
  rintro e wx ⟨rfl, hw⟩
  obtain rfl := hw.symm
  go_wp2_with fail
  refine (fillPlace_nil _ B f HH1.out (HF.out 11 (by omega) (by omega) (by omega))).mono ?_
  rintro e wx ⟨rfl, hw⟩
  obtain rfl := hw.symm
  go_wp2_with fail
  refine (fillAsk_nil _ B f HH1.out (HF.out 12 (by omega) (by omega) (by omega))).mono ?_
  rintro e wx ⟨rfl, hw⟩
  obtain rfl := hw.symm
  go_wp2_with fail
  refine (fillDone_nil _ B f HH1.out (HF.out 13 (by omega) (by omega) (by omega))).mono ?_
  rintro e wx ⟨rfl, hw⟩
  obtain rfl := hw.symm
  go_wp2_with fail
  refine (fillGrid_nil _ B f HH1.out (HF.out 14 (by omega) (by omega) (by omega))).mono ?_
  rintro e wx ⟨rfl, hw⟩
  obtain rfl := hw.symm
  go_wp2_with fail
  refine (fillList_nil _ B f HH1.out (HF.out 15 (by omega) (by omega) (by omega))).mono ?_
  rintro e wx ⟨rfl, hw⟩
  obtain rfl := hw.symm
  go_wp2_with fail
  refine (growByte_nil _ B f HH1.out (HF.out 1 (by omega) (by omega) (by omega))).mono ?_
  rintro e wx ⟨rfl, hw⟩
  obtain rfl := hw.symm
  go_wp2_with fail
  refine (growInt_any _ B f base m h HH1.out HA1.out HR1.out hm HN.out HLG.out HNUM.out HAP.out HBV.out HAV.out HAB.out).mono ?_
  rintro e w2 ⟨rfl, lgs, ha2, hr2, hl2, ho2⟩
  have HR2 := Lib.hid hr2
  have HL2 := Lib.hid hl2
  have HA2 := Lib.hid ha2
  have HO2 : Hid (Only (fun b => (∃ j, j < m ∧ (h j).v.ownBlock = some b) ∨ (f 2).ownBlock = some b) w w2) := (HO1.out.mono (fun _ _ e => .inl e)).trans ho2
  have HH2 := Lib.hid (HH1.out.only ho2 (fun e => by
    rcases e with ⟨j, hj, e⟩ | e
    · exact HBV.out j hj e
    · exact HAB.out e))
  clear hr2 hl2 ha2 ho2
  go_wp2_with fail
  refine (growNumber_nil _ B f HH2.out (HF.out 3 (by omega) (by omega) (by omega))).mono ?_
  rintro e wx ⟨rfl, hw⟩
  obtain rfl := hw.symm
  go_wp2_with fail
  refine (growId_nil _ B f HH2.out (HF.out 4 (by omega) (by omega) (by omega))).mono ?_
  rintro e wx ⟨rfl, hw⟩
  obtain rfl := hw.symm
  go_wp2_with fail
  refine (growText_nil _ B f HH2.out (HF.out 5 (by omega) (by omega) (by omega))).mono ?_
  rintro e wx ⟨rfl, hw⟩
  obtain rfl := hw.symm
  go_wp2_with fail
  refine (growTensor_nil _ B f HH2.out (HF.out 6 (by omega) (by omega) (by omega))).mono ?_
  rintro e wx ⟨rfl, hw⟩
  obtain rfl := hw.symm
  go_wp2_with fail
  refine (growNode_nil _ B f HH2.out (HF.out 7 (by omega) (by omega) (by omega))).mono ?_
  rintro e wx ⟨rfl, hw⟩
  obtain rfl := hw.symm
  go_wp2_with fail
  refine (growStep_nil _ B f HH2.out (HF.out 8 (by omega) (by omega) (by omega))).mono ?_
  rintro e wx ⟨rfl, hw⟩
  obtain rfl := hw.symm
  go_wp2_with fail
  refine (growCost_nil _ B f HH2.out (HF.out 9 (by omega) (by omega) (by omega))).mono ?_
  rintro e wx ⟨rfl, hw⟩
  obtain rfl := hw.symm
  go_wp2_with fail
  refine (growRecord_nil _ B f HH2.out (HF.out 10 (by omega) (by omega) (by omega))).mono ?_
  rintro e wx ⟨rfl, hw⟩
  obtain rfl := hw.symm
  go_wp2_with fail
  refine (growPlace_nil _ B f HH2.out (HF.out 11 (by omega) (by omega) (by omega))).mono ?_
  rintro e wx ⟨rfl, hw⟩
  obtain rfl := hw.symm
  go_wp2_with fail
  refine (growAsk_nil _ B f HH2.out (HF.out 12 (by omega) (by omega) (by omega))).mono ?_
  rintro e wx ⟨rfl, hw⟩
  obtain rfl := hw.symm
  go_wp2_with fail
  refine (growDone_nil _ B f HH2.out (HF.out 13 (by omega) (by omega) (by omega))).mono ?_
  rintro e wx ⟨rfl, hw⟩
  obtain rfl := hw.symm
  go_wp2_with fail
  refine (growGrid_nil _ B f HH2.out (HF.out 14 (by omega) (by omega) (by omega))).mono ?_
  rintro e wx ⟨rfl, hw⟩
  obtain rfl := hw.symm
  go_wp2_with fail
  refine (growList_nil _ B f HH2.out (HF.out 15 (by omega) (by omega) (by omega))).mono ?_
  rintro e wx ⟨rfl, hw⟩
  obtain rfl := hw.symm
  go_wp2_with fail
  refine (lookByte_nil _ B f HH2.out (HF.out 1 (by omega) (by omega) (by omega))).mono ?_
  rintro e wx ⟨rfl, hw⟩
  obtain rfl := hw.symm
  go_wp2_with fail
  refine (lookInt_any _ B f base m (fun j => { h j with lg := lgs j }) HH2.out HA2.out HR2.out HL2.out hm HN.out HNUM.out).mono ?_
  rintro e w3 ⟨rfl, hb3⟩
  have HH3 := Lib.hid (HH2.out.below hb3)
  have HO3 := Lib.hid (HO2.out.trans (Only.of_below hb3))
  clear hb3
  go_wp2_with fail
  refine (lookNumber_nil _ B f HH3.out (HF.out 3 (by omega) (by omega) (by omega))).mono ?_
  rintro e wx ⟨rfl, hw⟩
  obtain rfl := hw.symm
  go_wp2_with fail
  refine (lookId_nil _ B f HH3.out (HF.out 4 (by omega) (by omega) (by omega))).mono ?_
  rintro e wx ⟨rfl, hw⟩
  obtain rfl := hw.symm
  go_wp2_with fail
  refine (lookText_nil _ B f HH3.out (HF.out 5 (by omega) (by omega) (by omega))).mono ?_
  rintro e wx ⟨rfl, hw⟩
  obtain rfl := hw.symm
  go_wp2_with fail
  refine (lookTensor_nil _ B f HH3.out (HF.out 6 (by omega) (by omega) (by omega))).mono ?_
  rintro e wx ⟨rfl, hw⟩
  obtain rfl := hw.symm
  go_wp2_with fail
  refine (lookNode_nil _ B f HH3.out (HF.out 7 (by omega) (by omega) (by omega))).mono ?_
  rintro e wx ⟨rfl, hw⟩
  obtain rfl := hw.symm
  go_wp2_with fail
  refine (lookStep_nil _ B f HH3.out (HF.out 8 (by omega) (by omega) (by omega))).mono ?_
  rintro e wx ⟨rfl, hw⟩
  obtain rfl := hw.symm
  go_wp2_with fail
  refine (lookCost_nil _ B f HH3.out (HF.out 9 (by omega) (by omega) (by omega))).mono ?_
  rintro e wx ⟨rfl, hw⟩
  obtain rfl := hw.symm
  go_wp2_with fail
  refine (lookRecord_nil _ B f HH3.out (HF.out 10 (by omega) (by omega) (by omega))).mono ?_
  rintro e wx ⟨rfl, hw⟩
  obtain rfl := hw.symm
  go_wp2_with fail
  refine (lookPlace_nil _ B f HH3.out (HF.out 11 (by omega) (by omega) (by omega))).mono ?_
  rintro e wx ⟨rfl, hw⟩
  obtain rfl := hw.symm
  go_wp2_with fail
  refine (lookAsk_nil _ B f HH3.out (HF.out 12 (by omega) (by omega) (by omega))).mono ?_
  rintro e wx ⟨rfl, hw⟩
  obtain rfl := hw.symm
  go_wp2_with fail
  refine (lookDone_nil _ B f HH3.out (HF.out 13 (by omega) (by omega) (by omega))).mono ?_
  rintro e wx ⟨rfl, hw⟩
  obtain rfl := hw.symm
  go_wp2_with fail
  refine (lookGrid_nil _ B f HH3.out (HF.out 14 (by omega) (by omega) (by omega))).mono ?_
  rintro e wx ⟨rfl, hw⟩
  obtain rfl := hw.symm
  go_wp2_with fail
  refine (lookList_nil _ B f HH3.out (HF.out 15 (by omega) (by omega) (by omega))).mono ?_
  rintro e wx ⟨rfl, hw⟩
  obtain rfl := hw.symm
  go_wp2
  go_ret
  exact ⟨rfl, HO3.out⟩
end Go.Proofs.YtekejcnphmnidaaGreatDoor
