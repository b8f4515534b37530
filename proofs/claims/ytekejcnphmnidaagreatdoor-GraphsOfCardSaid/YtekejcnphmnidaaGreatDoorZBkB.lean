import Derived.Test.YtekejcnphmnidaaGreatDoorZBkT
namespace Go.Proofs.YtekejcnphmnidaaGreatDoor
open Go.RowKit
def HasX (c : Nat) (w : World) (L : List Held) (X : Held → List Value) : Prop := ∀ j, j < L.length → RowV c w (heldAt L j).v (heldAt L j).n (X (heldAt L j))
def HasG (c : Nat) (w : World) (L : List Held) (Y : Held → List Value) (lgs : Nat → Value) (z : Nat) : Prop :=
  ∀ j, j < L.length → RowV c w (lgs j) ((heldAt L j).n + 40) (Y (heldAt L j)) ∧ ∀ b, (lgs j).ownBlock = some b → b ∈ blocksOf L ∨ z ≤ b
theorem HasX.only {c : Nat} {w w' : World} {L : List Held} {X : Held → List Value} {S : Nat → Prop} (h : HasX c w L X) (ho : Only S w w') (hs : ∀ b ∈ blocksOf L, ¬ S b) : HasX c w' L X := fun j hj => (h j hj).only ho (fun _ hk => hs _ (mem_blocks hj hk))
theorem HasG.only {c : Nat} {w w' : World} {L : List Held} {Y : Held → List Value} {lgs : Nat → Value} {z : Nat} {S : Nat → Prop} (h : HasG c w L Y lgs z) (ho : Only S w w') (hs : ∀ b ∈ blocksOf L, ¬ S b) (hz : ∀ b, z ≤ b → ¬ S b) : HasG c w' L Y lgs z := fun j hj =>
  ⟨(h j hj).1.only ho (fun k hk => ((h j hj).2 k hk).elim (hs k) (hz k)), (h j hj).2⟩
theorem blocksOf_app (L M : List Held) : blocksOf (L ++ M) = blocksOf L ++ blocksOf M := List.filterMap_append ..
set_option maxHeartbeats 8000000 in
set_option maxRecDepth 100000 in
theorem apartB (w : World) (B base lo : Nat) (n : Int) (LI LN LS LC : List Held) (S : BkS w B base n LI LN LS LC []) (hn : n ≤ 1000000)
    (hmInt : LI.length ≤ 1000000) (hRInt : ∀ h ∈ LI, RowV 1 w h.v h.n h.xs ∧ h.n ≤ 1000000) (hmNode : LN.length ≤ 1000000) (hRNode : ∀ h ∈ LN, RowV 5 w h.v h.n h.xs ∧ h.n ≤ 1000000) (hmStep : LS.length ≤ 1000000) (hRStep : ∀ h ∈ LS, RowV 2 w h.v h.n h.xs ∧ h.n ≤ 1000000) (hmCost : LC.length ≤ 1000000) (hRCost : ∀ h ∈ LC, RowV 3 w h.v h.n h.xs ∧ h.n ≤ 1000000)
    (hb : ∀ b ∈ blocksOf (LI ++ LN ++ LS ++ LC), lo ≤ b ∧ b < B) (hnd : (blocksOf (LI ++ LN ++ LS ++ LC)).Nodup) (hlo : lo ≤ B) :
    Calls Tryz.prog 16 #[.pointer (some ⟨B, 0, none⟩)] w fun e w' => e = .returned (.bool true) ∧ Below lo w w' := by
  obtain ⟨f, S⟩ := S
  have hBb := S.lo
  have hBl := S.box.lt
  have HF : Hid (∀ j, 0 < j → j < 16 → j ≠ 2 → j ≠ 7 → j ≠ 8 → j ≠ 9 → f j = .slice none 0 0) := fun j h0 h16 h2 h7 h8 h9 => by
    by_cases h14 : j = 14
    · subst h14; exact S.eg rfl
    exact S.rest j h0 h16 h2 h7 h8 h9 h14
  have HH := Lib.hid S.box
  have HAInt := Lib.hid S.ai
  have HRInt : Hid (HasX 1 w LI Held.xs) := fun j hj => (hRInt _ (heldAt_mem LI hj)).1
  have HNInt : Hid (∀ j, j < LI.length → (heldAt LI j).n ≤ 1000000) := fun j hj => (hRInt _ (heldAt_mem LI hj)).2
  have HSInt : Hid (∀ h ∈ LI, (0 ≤ h.num ∧ h.num ≤ 1000000000) ∧ h.lg = .slice none 0 0) := fun h hm => by
    obtain ⟨⟨a, b⟩, c⟩ := S.nums h (by simp only [List.mem_append]; simp [hm])
    exact ⟨⟨a, by omega⟩, c⟩
  have HNUMInt : Hid (∀ j, j < LI.length → 0 ≤ (heldAt LI j).num ∧ (heldAt LI j).num ≤ 1000000000) := fun j hj => (HSInt.out _ (heldAt_mem LI hj)).1
  have HLGInt : Hid (∀ j, j < LI.length → (heldAt LI j).lg = .slice none 0 0) := fun j hj => (HSInt.out _ (heldAt_mem LI hj)).2
  have HAAInt : Hid (∀ b, (f 2).ownBlock = some b → base ≤ b ∧ b < w.heap.size) := S.ai.lt
  have HANode := Lib.hid S.an
  have HRNode : Hid (HasX 5 w LN Held.xs) := fun j hj => (hRNode _ (heldAt_mem LN hj)).1
  have HNNode : Hid (∀ j, j < LN.length → (heldAt LN j).n ≤ 1000000) := fun j hj => (hRNode _ (heldAt_mem LN hj)).2
  have HSNode : Hid (∀ h ∈ LN, (0 ≤ h.num ∧ h.num ≤ 1000000000) ∧ h.lg = .slice none 0 0) := fun h hm => by
    obtain ⟨⟨a, b⟩, c⟩ := S.nums h (by simp only [List.mem_append]; simp [hm])
    exact ⟨⟨a, by omega⟩, c⟩
  have HNUMNode : Hid (∀ j, j < LN.length → 0 ≤ (heldAt LN j).num ∧ (heldAt LN j).num ≤ 1000000000) := fun j hj => (HSNode.out _ (heldAt_mem LN hj)).1
  have HLGNode : Hid (∀ j, j < LN.length → (heldAt LN j).lg = .slice none 0 0) := fun j hj => (HSNode.out _ (heldAt_mem LN hj)).2
  have HAANode : Hid (∀ b, (f 7).ownBlock = some b → base ≤ b ∧ b < w.heap.size) := S.an.lt
  have HAStep := Lib.hid S.as_
  have HRStep : Hid (HasX 2 w LS Held.xs) := fun j hj => (hRStep _ (heldAt_mem LS hj)).1
  have HNStep : Hid (∀ j, j < LS.length → (heldAt LS j).n ≤ 1000000) := fun j hj => (hRStep _ (heldAt_mem LS hj)).2
  have HSStep : Hid (∀ h ∈ LS, (0 ≤ h.num ∧ h.num ≤ 1000000000) ∧ h.lg = .slice none 0 0) := fun h hm => by
    obtain ⟨⟨a, b⟩, c⟩ := S.nums h (by simp only [List.mem_append]; simp [hm])
    exact ⟨⟨a, by omega⟩, c⟩
  have HNUMStep : Hid (∀ j, j < LS.length → 0 ≤ (heldAt LS j).num ∧ (heldAt LS j).num ≤ 1000000000) := fun j hj => (HSStep.out _ (heldAt_mem LS hj)).1
  have HLGStep : Hid (∀ j, j < LS.length → (heldAt LS j).lg = .slice none 0 0) := fun j hj => (HSStep.out _ (heldAt_mem LS hj)).2
  have HAAStep : Hid (∀ b, (f 8).ownBlock = some b → base ≤ b ∧ b < w.heap.size) := S.as_.lt
  have HACost := Lib.hid S.ac
  have HRCost : Hid (HasX 3 w LC Held.xs) := fun j hj => (hRCost _ (heldAt_mem LC hj)).1
  have HNCost : Hid (∀ j, j < LC.length → (heldAt LC j).n ≤ 1000000) := fun j hj => (hRCost _ (heldAt_mem LC hj)).2
  have HSCost : Hid (∀ h ∈ LC, (0 ≤ h.num ∧ h.num ≤ 1000000000) ∧ h.lg = .slice none 0 0) := fun h hm => by
    obtain ⟨⟨a, b⟩, c⟩ := S.nums h (by simp only [List.mem_append]; simp [hm])
    exact ⟨⟨a, by omega⟩, c⟩
  have HNUMCost : Hid (∀ j, j < LC.length → 0 ≤ (heldAt LC j).num ∧ (heldAt LC j).num ≤ 1000000000) := fun j hj => (HSCost.out _ (heldAt_mem LC hj)).1
  have HLGCost : Hid (∀ j, j < LC.length → (heldAt LC j).lg = .slice none 0 0) := fun j hj => (HSCost.out _ (heldAt_mem LC hj)).2
  have HAACost : Hid (∀ b, (f 9).ownBlock = some b → base ≤ b ∧ b < w.heap.size) := S.ac.lt
  have HBO := Lib.hid hb
  simp only [blocksOf_app, List.nodup_append, List.mem_append] at hnd hb
  obtain ⟨⟨⟨ndInt, ndNode, dNode⟩, ndStep, dStep⟩, ndCost, dCost⟩ := hnd
  have HBKInt : Hid (∀ b ∈ blocksOf LI, lo ≤ b ∧ b < B) := fun b hm => hb b (by simp [hm])
  have HAPInt := Lib.hid (apartV_of ndInt)
  have HBVInt : Hid (∀ j, j < LI.length → (heldAt LI j).v.ownBlock ≠ some B) := fun j hj e => by have := (HBKInt.out B (mem_blocks hj e)).2; omega
  have HAVInt : Hid (∀ j, j < LI.length → ∀ k, (f 2).ownBlock = some k → (heldAt LI j).v.ownBlock ≠ some k) := fun j hj k hk e => by
    have h1 := (HBKInt.out k (mem_blocks hj e)).2
    have h2 := (HAAInt.out k hk).1
    omega
  have HABInt : Hid ((f 2).ownBlock ≠ some B) := fun e => by have := (HAAInt.out B e).1; omega
  have HBKNode : Hid (∀ b ∈ blocksOf LN, lo ≤ b ∧ b < B) := fun b hm => hb b (by simp [hm])
  have HAPNode := Lib.hid (apartV_of ndNode)
  have HBVNode : Hid (∀ j, j < LN.length → (heldAt LN j).v.ownBlock ≠ some B) := fun j hj e => by have := (HBKNode.out B (mem_blocks hj e)).2; omega
  have HAVNode : Hid (∀ j, j < LN.length → ∀ k, (f 7).ownBlock = some k → (heldAt LN j).v.ownBlock ≠ some k) := fun j hj k hk e => by
    have h1 := (HBKNode.out k (mem_blocks hj e)).2
    have h2 := (HAANode.out k hk).1
    omega
  have HABNode : Hid ((f 7).ownBlock ≠ some B) := fun e => by have := (HAANode.out B e).1; omega
  have HBKStep : Hid (∀ b ∈ blocksOf LS, lo ≤ b ∧ b < B) := fun b hm => hb b (by simp [hm])
  have HAPStep := Lib.hid (apartV_of ndStep)
  have HBVStep : Hid (∀ j, j < LS.length → (heldAt LS j).v.ownBlock ≠ some B) := fun j hj e => by have := (HBKStep.out B (mem_blocks hj e)).2; omega
  have HAVStep : Hid (∀ j, j < LS.length → ∀ k, (f 8).ownBlock = some k → (heldAt LS j).v.ownBlock ≠ some k) := fun j hj k hk e => by
    have h1 := (HBKStep.out k (mem_blocks hj e)).2
    have h2 := (HAAStep.out k hk).1
    omega
  have HABStep : Hid ((f 8).ownBlock ≠ some B) := fun e => by have := (HAAStep.out B e).1; omega
  have HBKCost : Hid (∀ b ∈ blocksOf LC, lo ≤ b ∧ b < B) := fun b hm => hb b (by simp [hm])
  have HAPCost := Lib.hid (apartV_of ndCost)
  have HBVCost : Hid (∀ j, j < LC.length → (heldAt LC j).v.ownBlock ≠ some B) := fun j hj e => by have := (HBKCost.out B (mem_blocks hj e)).2; omega
  have HAVCost : Hid (∀ j, j < LC.length → ∀ k, (f 9).ownBlock = some k → (heldAt LC j).v.ownBlock ≠ some k) := fun j hj k hk e => by
    have h1 := (HBKCost.out k (mem_blocks hj e)).2
    have h2 := (HAACost.out k hk).1
    omega
  have HABCost : Hid ((f 9).ownBlock ≠ some B) := fun e => by have := (HAACost.out B e).1; omega
  have HDIntNode : Hid (∀ b ∈ blocksOf LI, b ∉ blocksOf LN) := fun b h1 h2 => dNode b (by simp [h1]) b h2 rfl
  have HDNodeInt : Hid (∀ b ∈ blocksOf LN, b ∉ blocksOf LI) := fun b h1 h2 => HDIntNode.out b h2 h1
  have HAEIntNode : Hid (∀ k, (f 2).ownBlock = some k → (f 7).ownBlock ≠ some k) := S.ai.ne S.an (by decide)
  have HAENodeInt : Hid (∀ k, (f 7).ownBlock = some k → (f 2).ownBlock ≠ some k) := fun k h1 h2 => HAEIntNode.out k h2 h1
  have HDIntStep : Hid (∀ b ∈ blocksOf LI, b ∉ blocksOf LS) := fun b h1 h2 => dStep b (by simp [h1]) b h2 rfl
  have HDStepInt : Hid (∀ b ∈ blocksOf LS, b ∉ blocksOf LI) := fun b h1 h2 => HDIntStep.out b h2 h1
  have HAEIntStep : Hid (∀ k, (f 2).ownBlock = some k → (f 8).ownBlock ≠ some k) := S.ai.ne S.as_ (by decide)
  have HAEStepInt : Hid (∀ k, (f 8).ownBlock = some k → (f 2).ownBlock ≠ some k) := fun k h1 h2 => HAEIntStep.out k h2 h1
  have HDIntCost : Hid (∀ b ∈ blocksOf LI, b ∉ blocksOf LC) := fun b h1 h2 => dCost b (by simp [h1]) b h2 rfl
  have HDCostInt : Hid (∀ b ∈ blocksOf LC, b ∉ blocksOf LI) := fun b h1 h2 => HDIntCost.out b h2 h1
  have HAEIntCost : Hid (∀ k, (f 2).ownBlock = some k → (f 9).ownBlock ≠ some k) := S.ai.ne S.ac (by decide)
  have HAECostInt : Hid (∀ k, (f 9).ownBlock = some k → (f 2).ownBlock ≠ some k) := fun k h1 h2 => HAEIntCost.out k h2 h1
  have HDNodeStep : Hid (∀ b ∈ blocksOf LN, b ∉ blocksOf LS) := fun b h1 h2 => dStep b (by simp [h1]) b h2 rfl
  have HDStepNode : Hid (∀ b ∈ blocksOf LS, b ∉ blocksOf LN) := fun b h1 h2 => HDNodeStep.out b h2 h1
  have HAENodeStep : Hid (∀ k, (f 7).ownBlock = some k → (f 8).ownBlock ≠ some k) := S.an.ne S.as_ (by decide)
  have HAEStepNode : Hid (∀ k, (f 8).ownBlock = some k → (f 7).ownBlock ≠ some k) := fun k h1 h2 => HAENodeStep.out k h2 h1
  have HDNodeCost : Hid (∀ b ∈ blocksOf LN, b ∉ blocksOf LC) := fun b h1 h2 => dCost b (by simp [h1]) b h2 rfl
  have HDCostNode : Hid (∀ b ∈ blocksOf LC, b ∉ blocksOf LN) := fun b h1 h2 => HDNodeCost.out b h2 h1
  have HAENodeCost : Hid (∀ k, (f 7).ownBlock = some k → (f 9).ownBlock ≠ some k) := S.an.ne S.ac (by decide)
  have HAECostNode : Hid (∀ k, (f 9).ownBlock = some k → (f 7).ownBlock ≠ some k) := fun k h1 h2 => HAENodeCost.out k h2 h1
  have HDStepCost : Hid (∀ b ∈ blocksOf LS, b ∉ blocksOf LC) := fun b h1 h2 => dCost b (by simp [h1]) b h2 rfl
  have HDCostStep : Hid (∀ b ∈ blocksOf LC, b ∉ blocksOf LS) := fun b h1 h2 => HDStepCost.out b h2 h1
  have HAEStepCost : Hid (∀ k, (f 8).ownBlock = some k → (f 9).ownBlock ≠ some k) := S.as_.ne S.ac (by decide)
  have HAECostStep : Hid (∀ k, (f 9).ownBlock = some k → (f 8).ownBlock ≠ some k) := fun k h1 h2 => HAEStepCost.out k h2 h1
  have HO : Hid (Only (fun k => k ∈ blocksOf (LI ++ LN ++ LS ++ LC) ∨ base ≤ k) w w) := Only.refl _ _
  have HSUB : Hid ((∀ b ∈ blocksOf LI, b ∈ blocksOf (LI ++ LN ++ LS ++ LC)) ∧ (∀ b ∈ blocksOf LN, b ∈ blocksOf (LI ++ LN ++ LS ++ LC)) ∧ (∀ b ∈ blocksOf LS, b ∈ blocksOf (LI ++ LN ++ LS ++ LC)) ∧ (∀ b ∈ blocksOf LC, b ∈ blocksOf (LI ++ LN ++ LS ++ LC))) := by
    simp only [blocksOf_app]
    exact ⟨fun b hm => by simp [hm], fun b hm => by simp [hm], fun b hm => by simp [hm], fun b hm => by simp [hm]⟩
  have HZ : Hid (w.heap.size ≤ w.heap.size) := Nat.le_refl _
  clear S hb ndInt ndNode ndStep ndCost dNode dStep dCost hRInt hRNode hRStep hRCost
  go_enter Tryz.func16, Tryz.ntmps16
  go_wp2_with fail
  refine (fillByte_nil _ B f HH.out (HF.out 1 (by omega) (by omega) (by omega) (by omega) (by omega) (by omega))).mono ?_
  rintro e wx ⟨rfl, hw⟩
  obtain rfl := hw.symm
  go_wp2_with fail
  refine (fillInt_any _ B f base LI.length (heldAt LI) HH.out HAInt.out HRInt.out hmInt HLGInt.out HNUMInt.out HAPInt.out HBVInt.out HAVInt.out).mono ?_
  rintro e w1 ⟨rfl, hr1, ho1⟩
  have hs : ∀ b, (∃ j, j < LI.length ∧ (heldAt LI j).v.ownBlock = some b) → b ∈ blocksOf LI := fun b ⟨j, hj, e⟩ => mem_blocks hj e
  replace HH := Lib.hid (HH.out.only ho1 (fun ⟨j, hj, e⟩ => HBVInt.out j hj e))
  replace HRInt : Hid (HasX 1 w1 LI (fun h => List.replicate h.n h.mark)) := hr1
  replace HAInt := Lib.hid (HAInt.out.only ho1 (fun k hk e => by have h1 := (HBKInt.out k (hs k e)).2; have h2 := (HAAInt.out k hk).1; omega))
  replace HANode := Lib.hid (HANode.out.only ho1 (fun k hk e => by have h1 := (HBKInt.out k (hs k e)).2; have h2 := (HAANode.out k hk).1; omega))
  replace HRNode := Lib.hid (HRNode.out.only ho1 (fun b hm e => HDNodeInt.out b hm (hs b e)))
  replace HAStep := Lib.hid (HAStep.out.only ho1 (fun k hk e => by have h1 := (HBKInt.out k (hs k e)).2; have h2 := (HAAStep.out k hk).1; omega))
  replace HRStep := Lib.hid (HRStep.out.only ho1 (fun b hm e => HDStepInt.out b hm (hs b e)))
  replace HACost := Lib.hid (HACost.out.only ho1 (fun k hk e => by have h1 := (HBKInt.out k (hs k e)).2; have h2 := (HAACost.out k hk).1; omega))
  replace HRCost := Lib.hid (HRCost.out.only ho1 (fun b hm e => HDCostInt.out b hm (hs b e)))
  replace HZ : Hid (w.heap.size ≤ w1.heap.size) := Nat.le_trans HZ.out ho1.size
  replace HO := Lib.hid (HO.out.trans (ho1.mono (fun b _ e => .inl (HSUB.out.1 b (hs b e))) |> fun h => ⟨h.os, h.tape, h.output, h.size, h.block⟩))
  clear hr1 ho1 hs
  go_wp2_with fail
  refine (fillNumber_nil _ B f HH.out (HF.out 3 (by omega) (by omega) (by omega) (by omega) (by omega) (by omega))).mono ?_
  rintro e wx ⟨rfl, hw⟩
  obtain rfl := hw.symm
  go_wp2_with fail
  refine (fillId_nil _ B f HH.out (HF.out 4 (by omega) (by omega) (by omega) (by omega) (by omega) (by omega))).mono ?_
  rintro e wx ⟨rfl, hw⟩
  obtain rfl := hw.symm
  go_wp2_with fail
  refine (fillText_nil _ B f HH.out (HF.out 5 (by omega) (by omega) (by omega) (by omega) (by omega) (by omega))).mono ?_
  rintro e wx ⟨rfl, hw⟩
  obtain rfl := hw.symm
  go_wp2_with fail
  refine (fillTensor_nil _ B f HH.out (HF.out 6 (by omega) (by omega) (by omega) (by omega) (by omega) (by omega))).mono ?_
  rintro e wx ⟨rfl, hw⟩
  obtain rfl := hw.symm
  go_wp2_with fail
  refine (fillNode_any _ B f base LN.length (heldAt LN) HH.out HANode.out HRNode.out hmNode HLGNode.out HNUMNode.out HAPNode.out HBVNode.out HAVNode.out).mono ?_
  rintro e w1 ⟨rfl, hr1, ho1⟩
  have hs : ∀ b, (∃ j, j < LN.length ∧ (heldAt LN j).v.ownBlock = some b) → b ∈ blocksOf LN := fun b ⟨j, hj, e⟩ => mem_blocks hj e
  replace HH := Lib.hid (HH.out.only ho1 (fun ⟨j, hj, e⟩ => HBVNode.out j hj e))
  replace HRNode : Hid (HasX 5 w1 LN (fun h => repl h.n (mkNode h.num))) := hr1
  replace HAInt := Lib.hid (HAInt.out.only ho1 (fun k hk e => by have h1 := (HBKNode.out k (hs k e)).2; have h2 := (HAAInt.out k hk).1; omega))
  replace HRInt := Lib.hid (HRInt.out.only ho1 (fun b hm e => HDIntNode.out b hm (hs b e)))
  replace HANode := Lib.hid (HANode.out.only ho1 (fun k hk e => by have h1 := (HBKNode.out k (hs k e)).2; have h2 := (HAANode.out k hk).1; omega))
  replace HAStep := Lib.hid (HAStep.out.only ho1 (fun k hk e => by have h1 := (HBKNode.out k (hs k e)).2; have h2 := (HAAStep.out k hk).1; omega))
  replace HRStep := Lib.hid (HRStep.out.only ho1 (fun b hm e => HDStepNode.out b hm (hs b e)))
  replace HACost := Lib.hid (HACost.out.only ho1 (fun k hk e => by have h1 := (HBKNode.out k (hs k e)).2; have h2 := (HAACost.out k hk).1; omega))
  replace HRCost := Lib.hid (HRCost.out.only ho1 (fun b hm e => HDCostNode.out b hm (hs b e)))
  replace HZ : Hid (w.heap.size ≤ w1.heap.size) := Nat.le_trans HZ.out ho1.size
  replace HO := Lib.hid (HO.out.trans (ho1.mono (fun b _ e => .inl (HSUB.out.2.1 b (hs b e))) |> fun h => ⟨h.os, h.tape, h.output, h.size, h.block⟩))
  clear hr1 ho1 hs
  go_wp2_with fail
  refine (fillStep_any _ B f base LS.length (heldAt LS) HH.out HAStep.out HRStep.out hmStep HLGStep.out HNUMStep.out HAPStep.out HBVStep.out HAVStep.out).mono ?_
  rintro e w1 ⟨rfl, hr1, ho1⟩
  have hs : ∀ b, (∃ j, j < LS.length ∧ (heldAt LS j).v.ownBlock = some b) → b ∈ blocksOf LS := fun b ⟨j, hj, e⟩ => mem_blocks hj e
  replace HH := Lib.hid (HH.out.only ho1 (fun ⟨j, hj, e⟩ => HBVStep.out j hj e))
  replace HRStep : Hid (HasX 2 w1 LS (fun h => repl h.n (mkStep h.num))) := hr1
  replace HAInt := Lib.hid (HAInt.out.only ho1 (fun k hk e => by have h1 := (HBKStep.out k (hs k e)).2; have h2 := (HAAInt.out k hk).1; omega))
  replace HRInt := Lib.hid (HRInt.out.only ho1 (fun b hm e => HDIntStep.out b hm (hs b e)))
  replace HANode := Lib.hid (HANode.out.only ho1 (fun k hk e => by have h1 := (HBKStep.out k (hs k e)).2; have h2 := (HAANode.out k hk).1; omega))
  replace HRNode := Lib.hid (HRNode.out.only ho1 (fun b hm e => HDNodeStep.out b hm (hs b e)))
  replace HAStep := Lib.hid (HAStep.out.only ho1 (fun k hk e => by have h1 := (HBKStep.out k (hs k e)).2; have h2 := (HAAStep.out k hk).1; omega))
  replace HACost := Lib.hid (HACost.out.only ho1 (fun k hk e => by have h1 := (HBKStep.out k (hs k e)).2; have h2 := (HAACost.out k hk).1; omega))
  replace HRCost := Lib.hid (HRCost.out.only ho1 (fun b hm e => HDCostStep.out b hm (hs b e)))
  replace HZ : Hid (w.heap.size ≤ w1.heap.size) := Nat.le_trans HZ.out ho1.size
  replace HO := Lib.hid (HO.out.trans (ho1.mono (fun b _ e => .inl (HSUB.out.2.2.1 b (hs b e))) |> fun h => ⟨h.os, h.tape, h.output, h.size, h.block⟩))
  clear hr1 ho1 hs
  go_wp2_with fail
  refine (fillCost_any _ B f base LC.length (heldAt LC) HH.out HACost.out HRCost.out hmCost HLGCost.out HNUMCost.out HAPCost.out HBVCost.out HAVCost.out).mono ?_
  rintro e w1 ⟨rfl, hr1, ho1⟩
  have hs : ∀ b, (∃ j, j < LC.length ∧ (heldAt LC j).v.ownBlock = some b) → b ∈ blocksOf LC := fun b ⟨j, hj, e⟩ => mem_blocks hj e
  replace HH := Lib.hid (HH.out.only ho1 (fun ⟨j, hj, e⟩ => HBVCost.out j hj e))
  replace HRCost : Hid (HasX 3 w1 LC (fun h => repl h.n (mkCost h.num))) := hr1
  replace HAInt := Lib.hid (HAInt.out.only ho1 (fun k hk e => by have h1 := (HBKCost.out k (hs k e)).2; have h2 := (HAAInt.out k hk).1; omega))
  replace HRInt := Lib.hid (HRInt.out.only ho1 (fun b hm e => HDIntCost.out b hm (hs b e)))
  replace HANode := Lib.hid (HANode.out.only ho1 (fun k hk e => by have h1 := (HBKCost.out k (hs k e)).2; have h2 := (HAANode.out k hk).1; omega))
  replace HRNode := Lib.hid (HRNode.out.only ho1 (fun b hm e => HDNodeCost.out b hm (hs b e)))
  replace HAStep := Lib.hid (HAStep.out.only ho1 (fun k hk e => by have h1 := (HBKCost.out k (hs k e)).2; have h2 := (HAAStep.out k hk).1; omega))
  replace HRStep := Lib.hid (HRStep.out.only ho1 (fun b hm e => HDStepCost.out b hm (hs b e)))
  replace HACost := Lib.hid (HACost.out.only ho1 (fun k hk e => by have h1 := (HBKCost.out k (hs k e)).2; have h2 := (HAACost.out k hk).1; omega))
  replace HZ : Hid (w.heap.size ≤ w1.heap.size) := Nat.le_trans HZ.out ho1.size
  replace HO := Lib.hid (HO.out.trans (ho1.mono (fun b _ e => .inl (HSUB.out.2.2.2 b (hs b e))) |> fun h => ⟨h.os, h.tape, h.output, h.size, h.block⟩))
  clear hr1 ho1 hs
  go_wp2_with fail
  refine (fillRecord_nil _ B f HH.out (HF.out 10 (by omega) (by omega) (by omega) (by omega) (by omega) (by omega))).mono ?_
  rintro e wx ⟨rfl, hw⟩
  obtain rfl := hw.symm
  go_wp2_with fail
  refine (fillPlace_nil _ B f HH.out (HF.out 11 (by omega) (by omega) (by omega) (by omega) (by omega) (by omega))).mono ?_
  rintro e wx ⟨rfl, hw⟩
  obtain rfl := hw.symm
  go_wp2_with fail
  refine (fillAsk_nil _ B f HH.out (HF.out 12 (by omega) (by omega) (by omega) (by omega) (by omega) (by omega))).mono ?_
  rintro e wx ⟨rfl, hw⟩
  obtain rfl := hw.symm
  go_wp2_with fail
  refine (fillDone_nil _ B f HH.out (HF.out 13 (by omega) (by omega) (by omega) (by omega) (by omega) (by omega))).mono ?_
  rintro e wx ⟨rfl, hw⟩
  obtain rfl := hw.symm
  go_wp2_with fail
  refine (fillGrid_nil _ B f HH.out (HF.out 14 (by omega) (by omega) (by omega) (by omega) (by omega) (by omega))).mono ?_
  rintro e wx ⟨rfl, hw⟩
  obtain rfl := hw.symm
  go_wp2_with fail
  refine (fillList_nil _ B f HH.out (HF.out 15 (by omega) (by omega) (by omega) (by omega) (by omega) (by omega))).mono ?_
  rintro e wx ⟨rfl, hw⟩
  obtain rfl := hw.symm
  go_wp2_with fail
  refine (growByte_nil _ B f HH.out (HF.out 1 (by omega) (by omega) (by omega) (by omega) (by omega) (by omega))).mono ?_
  rintro e wx ⟨rfl, hw⟩
  obtain rfl := hw.symm
  go_wp2_with fail
  refine (growInt_any _ B f base LI.length (heldAt LI) HH.out HAInt.out HRInt.out hmInt HNInt.out HLGInt.out HNUMInt.out HAPInt.out HBVInt.out HAVInt.out HABInt.out).mono ?_
  rintro e w2 ⟨rfl, lgInt, ha2, hr2, hl2, ho2, hlb2⟩
  have hs : ∀ b, ((∃ j, j < LI.length ∧ (heldAt LI j).v.ownBlock = some b) ∨ (f 2).ownBlock = some b) → b ∈ blocksOf LI ∨ (f 2).ownBlock = some b := fun b e => e.imp (fun ⟨j, hj, e⟩ => mem_blocks hj e) (fun e => e)
  have HGInt : Hid (HasG 1 w2 LI (fun h => List.replicate (h.n + 40) h.mark) lgInt w.heap.size) := fun j hj => ⟨hl2 j hj, fun b hb => (hlb2 j hj b hb).imp (fun e => mem_blocks hj e) (fun e => Nat.le_trans HZ.out e)⟩
  replace HH := Lib.hid (HH.out.only ho2 (fun e => by
    rcases e with ⟨j, hj, e⟩ | e
    · exact HBVInt.out j hj e
    · exact HABInt.out e))
  replace HRInt : Hid (HasX 1 w2 LI (fun h => List.replicate h.n h.mark)) := hr2
  replace HAInt := Lib.hid ha2
  replace HANode := Lib.hid (HANode.out.only ho2 (fun k hk e => by
    rcases hs k e with e | e
    · have h1 := (HBKInt.out k e).2; have h2 := (HAANode.out k hk).1; omega
    · exact HAENodeInt.out k hk e))
  replace HRNode := Lib.hid (HRNode.out.only ho2 (fun b hm e => by
    rcases hs b e with e | e
    · exact HDNodeInt.out b hm e
    · have h1 := (HBKNode.out b hm).2; have h2 := (HAAInt.out b e).1; omega))
  replace HAStep := Lib.hid (HAStep.out.only ho2 (fun k hk e => by
    rcases hs k e with e | e
    · have h1 := (HBKInt.out k e).2; have h2 := (HAAStep.out k hk).1; omega
    · exact HAEStepInt.out k hk e))
  replace HRStep := Lib.hid (HRStep.out.only ho2 (fun b hm e => by
    rcases hs b e with e | e
    · exact HDStepInt.out b hm e
    · have h1 := (HBKStep.out b hm).2; have h2 := (HAAInt.out b e).1; omega))
  replace HACost := Lib.hid (HACost.out.only ho2 (fun k hk e => by
    rcases hs k e with e | e
    · have h1 := (HBKInt.out k e).2; have h2 := (HAACost.out k hk).1; omega
    · exact HAECostInt.out k hk e))
  replace HRCost := Lib.hid (HRCost.out.only ho2 (fun b hm e => by
    rcases hs b e with e | e
    · exact HDCostInt.out b hm e
    · have h1 := (HBKCost.out b hm).2; have h2 := (HAAInt.out b e).1; omega))
  replace HZ : Hid (w.heap.size ≤ w2.heap.size) := Nat.le_trans HZ.out ho2.size
  replace HO := Lib.hid (HO.out.trans (ho2.mono (fun b _ e => by
    rcases hs b e with e | e
    · exact .inl (HSUB.out.1 b e)
    · exact .inr (HAAInt.out b e).1) |> fun h => ⟨h.os, h.tape, h.output, h.size, h.block⟩))
  clear ha2 hr2 hl2 ho2 hlb2 hs
  go_wp2_with fail
  refine (growNumber_nil _ B f HH.out (HF.out 3 (by omega) (by omega) (by omega) (by omega) (by omega) (by omega))).mono ?_
  rintro e wx ⟨rfl, hw⟩
  obtain rfl := hw.symm
  go_wp2_with fail
  refine (growId_nil _ B f HH.out (HF.out 4 (by omega) (by omega) (by omega) (by omega) (by omega) (by omega))).mono ?_
  rintro e wx ⟨rfl, hw⟩
  obtain rfl := hw.symm
  go_wp2_with fail
  refine (growText_nil _ B f HH.out (HF.out 5 (by omega) (by omega) (by omega) (by omega) (by omega) (by omega))).mono ?_
  rintro e wx ⟨rfl, hw⟩
  obtain rfl := hw.symm
  go_wp2_with fail
  refine (growTensor_nil _ B f HH.out (HF.out 6 (by omega) (by omega) (by omega) (by omega) (by omega) (by omega))).mono ?_
  rintro e wx ⟨rfl, hw⟩
  obtain rfl := hw.symm
  go_wp2_with fail
  refine (growNode_any _ B f base LN.length (heldAt LN) HH.out HANode.out HRNode.out hmNode HNNode.out HLGNode.out HNUMNode.out HAPNode.out HBVNode.out HAVNode.out HABNode.out).mono ?_
  rintro e w2 ⟨rfl, lgNode, ha2, hr2, hl2, ho2, hlb2⟩
  have hs : ∀ b, ((∃ j, j < LN.length ∧ (heldAt LN j).v.ownBlock = some b) ∨ (f 7).ownBlock = some b) → b ∈ blocksOf LN ∨ (f 7).ownBlock = some b := fun b e => e.imp (fun ⟨j, hj, e⟩ => mem_blocks hj e) (fun e => e)
  have HGNode : Hid (HasG 5 w2 LN (fun h => repl (h.n + 40) (mkNode h.num)) lgNode w.heap.size) := fun j hj => ⟨hl2 j hj, fun b hb => (hlb2 j hj b hb).imp (fun e => mem_blocks hj e) (fun e => Nat.le_trans HZ.out e)⟩
  replace HH := Lib.hid (HH.out.only ho2 (fun e => by
    rcases e with ⟨j, hj, e⟩ | e
    · exact HBVNode.out j hj e
    · exact HABNode.out e))
  replace HRNode : Hid (HasX 5 w2 LN (fun h => repl h.n (mkNode h.num))) := hr2
  replace HANode := Lib.hid ha2
  replace HAInt := Lib.hid (HAInt.out.only ho2 (fun k hk e => by
    rcases hs k e with e | e
    · have h1 := (HBKNode.out k e).2; have h2 := (HAAInt.out k hk).1; omega
    · exact HAEIntNode.out k hk e))
  replace HRInt := Lib.hid (HRInt.out.only ho2 (fun b hm e => by
    rcases hs b e with e | e
    · exact HDIntNode.out b hm e
    · have h1 := (HBKInt.out b hm).2; have h2 := (HAANode.out b e).1; omega))
  replace HGInt := Lib.hid (HGInt.out.only ho2 (fun b hm e => by
    rcases hs b e with e | e
    · exact HDIntNode.out b hm e
    · have h1 := (HBKInt.out b hm).2; have h2 := (HAANode.out b e).1; omega) (fun b hz e => by
    rcases hs b e with e | e
    · have h1 := (HBKNode.out b e).2; omega
    · have h2 := (HAANode.out b e).2; omega))
  replace HAStep := Lib.hid (HAStep.out.only ho2 (fun k hk e => by
    rcases hs k e with e | e
    · have h1 := (HBKNode.out k e).2; have h2 := (HAAStep.out k hk).1; omega
    · exact HAEStepNode.out k hk e))
  replace HRStep := Lib.hid (HRStep.out.only ho2 (fun b hm e => by
    rcases hs b e with e | e
    · exact HDStepNode.out b hm e
    · have h1 := (HBKStep.out b hm).2; have h2 := (HAANode.out b e).1; omega))
  replace HACost := Lib.hid (HACost.out.only ho2 (fun k hk e => by
    rcases hs k e with e | e
    · have h1 := (HBKNode.out k e).2; have h2 := (HAACost.out k hk).1; omega
    · exact HAECostNode.out k hk e))
  replace HRCost := Lib.hid (HRCost.out.only ho2 (fun b hm e => by
    rcases hs b e with e | e
    · exact HDCostNode.out b hm e
    · have h1 := (HBKCost.out b hm).2; have h2 := (HAANode.out b e).1; omega))
  replace HZ : Hid (w.heap.size ≤ w2.heap.size) := Nat.le_trans HZ.out ho2.size
  replace HO := Lib.hid (HO.out.trans (ho2.mono (fun b _ e => by
    rcases hs b e with e | e
    · exact .inl (HSUB.out.2.1 b e)
    · exact .inr (HAANode.out b e).1) |> fun h => ⟨h.os, h.tape, h.output, h.size, h.block⟩))
  clear ha2 hr2 hl2 ho2 hlb2 hs
  go_wp2_with fail
  refine (growStep_any _ B f base LS.length (heldAt LS) HH.out HAStep.out HRStep.out hmStep HNStep.out HLGStep.out HNUMStep.out HAPStep.out HBVStep.out HAVStep.out HABStep.out).mono ?_
  rintro e w2 ⟨rfl, lgStep, ha2, hr2, hl2, ho2, hlb2⟩
  have hs : ∀ b, ((∃ j, j < LS.length ∧ (heldAt LS j).v.ownBlock = some b) ∨ (f 8).ownBlock = some b) → b ∈ blocksOf LS ∨ (f 8).ownBlock = some b := fun b e => e.imp (fun ⟨j, hj, e⟩ => mem_blocks hj e) (fun e => e)
  have HGStep : Hid (HasG 2 w2 LS (fun h => repl (h.n + 40) (mkStep h.num)) lgStep w.heap.size) := fun j hj => ⟨hl2 j hj, fun b hb => (hlb2 j hj b hb).imp (fun e => mem_blocks hj e) (fun e => Nat.le_trans HZ.out e)⟩
  replace HH := Lib.hid (HH.out.only ho2 (fun e => by
    rcases e with ⟨j, hj, e⟩ | e
    · exact HBVStep.out j hj e
    · exact HABStep.out e))
  replace HRStep : Hid (HasX 2 w2 LS (fun h => repl h.n (mkStep h.num))) := hr2
  replace HAStep := Lib.hid ha2
  replace HAInt := Lib.hid (HAInt.out.only ho2 (fun k hk e => by
    rcases hs k e with e | e
    · have h1 := (HBKStep.out k e).2; have h2 := (HAAInt.out k hk).1; omega
    · exact HAEIntStep.out k hk e))
  replace HRInt := Lib.hid (HRInt.out.only ho2 (fun b hm e => by
    rcases hs b e with e | e
    · exact HDIntStep.out b hm e
    · have h1 := (HBKInt.out b hm).2; have h2 := (HAAStep.out b e).1; omega))
  replace HGInt := Lib.hid (HGInt.out.only ho2 (fun b hm e => by
    rcases hs b e with e | e
    · exact HDIntStep.out b hm e
    · have h1 := (HBKInt.out b hm).2; have h2 := (HAAStep.out b e).1; omega) (fun b hz e => by
    rcases hs b e with e | e
    · have h1 := (HBKStep.out b e).2; omega
    · have h2 := (HAAStep.out b e).2; omega))
  replace HANode := Lib.hid (HANode.out.only ho2 (fun k hk e => by
    rcases hs k e with e | e
    · have h1 := (HBKStep.out k e).2; have h2 := (HAANode.out k hk).1; omega
    · exact HAENodeStep.out k hk e))
  replace HRNode := Lib.hid (HRNode.out.only ho2 (fun b hm e => by
    rcases hs b e with e | e
    · exact HDNodeStep.out b hm e
    · have h1 := (HBKNode.out b hm).2; have h2 := (HAAStep.out b e).1; omega))
  replace HGNode := Lib.hid (HGNode.out.only ho2 (fun b hm e => by
    rcases hs b e with e | e
    · exact HDNodeStep.out b hm e
    · have h1 := (HBKNode.out b hm).2; have h2 := (HAAStep.out b e).1; omega) (fun b hz e => by
    rcases hs b e with e | e
    · have h1 := (HBKStep.out b e).2; omega
    · have h2 := (HAAStep.out b e).2; omega))
  replace HACost := Lib.hid (HACost.out.only ho2 (fun k hk e => by
    rcases hs k e with e | e
    · have h1 := (HBKStep.out k e).2; have h2 := (HAACost.out k hk).1; omega
    · exact HAECostStep.out k hk e))
  replace HRCost := Lib.hid (HRCost.out.only ho2 (fun b hm e => by
    rcases hs b e with e | e
    · exact HDCostStep.out b hm e
    · have h1 := (HBKCost.out b hm).2; have h2 := (HAAStep.out b e).1; omega))
  replace HZ : Hid (w.heap.size ≤ w2.heap.size) := Nat.le_trans HZ.out ho2.size
  replace HO := Lib.hid (HO.out.trans (ho2.mono (fun b _ e => by
    rcases hs b e with e | e
    · exact .inl (HSUB.out.2.2.1 b e)
    · exact .inr (HAAStep.out b e).1) |> fun h => ⟨h.os, h.tape, h.output, h.size, h.block⟩))
  clear ha2 hr2 hl2 ho2 hlb2 hs
  go_wp2_with fail
  refine (growCost_any _ B f base LC.length (heldAt LC) HH.out HACost.out HRCost.out hmCost HNCost.out HLGCost.out HNUMCost.out HAPCost.out HBVCost.out HAVCost.out HABCost.out).mono ?_
  rintro e w2 ⟨rfl, lgCost, ha2, hr2, hl2, ho2, hlb2⟩
  have hs : ∀ b, ((∃ j, j < LC.length ∧ (heldAt LC j).v.ownBlock = some b) ∨ (f 9).ownBlock = some b) → b ∈ blocksOf LC ∨ (f 9).ownBlock = some b := fun b e => e.imp (fun ⟨j, hj, e⟩ => mem_blocks hj e) (fun e => e)
  have HGCost : Hid (HasG 3 w2 LC (fun h => repl (h.n + 40) (mkCost h.num)) lgCost w.heap.size) := fun j hj => ⟨hl2 j hj, fun b hb => (hlb2 j hj b hb).imp (fun e => mem_blocks hj e) (fun e => Nat.le_trans HZ.out e)⟩
  replace HH := Lib.hid (HH.out.only ho2 (fun e => by
    rcases e with ⟨j, hj, e⟩ | e
    · exact HBVCost.out j hj e
    · exact HABCost.out e))
  replace HRCost : Hid (HasX 3 w2 LC (fun h => repl h.n (mkCost h.num))) := hr2
  replace HACost := Lib.hid ha2
  replace HAInt := Lib.hid (HAInt.out.only ho2 (fun k hk e => by
    rcases hs k e with e | e
    · have h1 := (HBKCost.out k e).2; have h2 := (HAAInt.out k hk).1; omega
    · exact HAEIntCost.out k hk e))
  replace HRInt := Lib.hid (HRInt.out.only ho2 (fun b hm e => by
    rcases hs b e with e | e
    · exact HDIntCost.out b hm e
    · have h1 := (HBKInt.out b hm).2; have h2 := (HAACost.out b e).1; omega))
  replace HGInt := Lib.hid (HGInt.out.only ho2 (fun b hm e => by
    rcases hs b e with e | e
    · exact HDIntCost.out b hm e
    · have h1 := (HBKInt.out b hm).2; have h2 := (HAACost.out b e).1; omega) (fun b hz e => by
    rcases hs b e with e | e
    · have h1 := (HBKCost.out b e).2; omega
    · have h2 := (HAACost.out b e).2; omega))
  replace HANode := Lib.hid (HANode.out.only ho2 (fun k hk e => by
    rcases hs k e with e | e
    · have h1 := (HBKCost.out k e).2; have h2 := (HAANode.out k hk).1; omega
    · exact HAENodeCost.out k hk e))
  replace HRNode := Lib.hid (HRNode.out.only ho2 (fun b hm e => by
    rcases hs b e with e | e
    · exact HDNodeCost.out b hm e
    · have h1 := (HBKNode.out b hm).2; have h2 := (HAACost.out b e).1; omega))
  replace HGNode := Lib.hid (HGNode.out.only ho2 (fun b hm e => by
    rcases hs b e with e | e
    · exact HDNodeCost.out b hm e
    · have h1 := (HBKNode.out b hm).2; have h2 := (HAACost.out b e).1; omega) (fun b hz e => by
    rcases hs b e with e | e
    · have h1 := (HBKCost.out b e).2; omega
    · have h2 := (HAACost.out b e).2; omega))
  replace HAStep := Lib.hid (HAStep.out.only ho2 (fun k hk e => by
    rcases hs k e with e | e
    · have h1 := (HBKCost.out k e).2; have h2 := (HAAStep.out k hk).1; omega
    · exact HAEStepCost.out k hk e))
  replace HRStep := Lib.hid (HRStep.out.only ho2 (fun b hm e => by
    rcases hs b e with e | e
    · exact HDStepCost.out b hm e
    · have h1 := (HBKStep.out b hm).2; have h2 := (HAACost.out b e).1; omega))
  replace HGStep := Lib.hid (HGStep.out.only ho2 (fun b hm e => by
    rcases hs b e with e | e
    · exact HDStepCost.out b hm e
    · have h1 := (HBKStep.out b hm).2; have h2 := (HAACost.out b e).1; omega) (fun b hz e => by
    rcases hs b e with e | e
    · have h1 := (HBKCost.out b e).2; omega
    · have h2 := (HAACost.out b e).2; omega))
  replace HZ : Hid (w.heap.size ≤ w2.heap.size) := Nat.le_trans HZ.out ho2.size
  replace HO := Lib.hid (HO.out.trans (ho2.mono (fun b _ e => by
    rcases hs b e with e | e
    · exact .inl (HSUB.out.2.2.2 b e)
    · exact .inr (HAACost.out b e).1) |> fun h => ⟨h.os, h.tape, h.output, h.size, h.block⟩))
  clear ha2 hr2 hl2 ho2 hlb2 hs
  go_wp2_with fail
  refine (growRecord_nil _ B f HH.out (HF.out 10 (by omega) (by omega) (by omega) (by omega) (by omega) (by omega))).mono ?_
  rintro e wx ⟨rfl, hw⟩
  obtain rfl := hw.symm
  go_wp2_with fail
  refine (growPlace_nil _ B f HH.out (HF.out 11 (by omega) (by omega) (by omega) (by omega) (by omega) (by omega))).mono ?_
  rintro e wx ⟨rfl, hw⟩
  obtain rfl := hw.symm
  go_wp2_with fail
  refine (growAsk_nil _ B f HH.out (HF.out 12 (by omega) (by omega) (by omega) (by omega) (by omega) (by omega))).mono ?_
  rintro e wx ⟨rfl, hw⟩
  obtain rfl := hw.symm
  go_wp2_with fail
  refine (growDone_nil _ B f HH.out (HF.out 13 (by omega) (by omega) (by omega) (by omega) (by omega) (by omega))).mono ?_
  rintro e wx ⟨rfl, hw⟩
  obtain rfl := hw.symm
  go_wp2_with fail
  refine (growGrid_nil _ B f HH.out (HF.out 14 (by omega) (by omega) (by omega) (by omega) (by omega) (by omega))).mono ?_
  rintro e wx ⟨rfl, hw⟩
  obtain rfl := hw.symm
  go_wp2_with fail
  refine (growList_nil _ B f HH.out (HF.out 15 (by omega) (by omega) (by omega) (by omega) (by omega) (by omega))).mono ?_
  rintro e wx ⟨rfl, hw⟩
  obtain rfl := hw.symm
  go_wp2_with fail
  refine (lookByte_nil _ B f HH.out (HF.out 1 (by omega) (by omega) (by omega) (by omega) (by omega) (by omega))).mono ?_
  rintro e wx ⟨rfl, hw⟩
  obtain rfl := hw.symm
  go_wp2_with fail
  refine (lookInt_any _ B f base LI.length (fun j => { heldAt LI j with lg := lgInt j }) HH.out HAInt.out HRInt.out (fun j hj => (HGInt.out j hj).1) hmInt HNInt.out HNUMInt.out).mono ?_
  rintro e w3 ⟨rfl, hb3⟩
  have ho3 : Only (fun _ => False) _ w3 := Only.of_below hb3
  replace HH := Lib.hid (HH.out.below hb3)
  replace HO := Lib.hid (HO.out.trans (Only.of_below hb3))
  replace HANode := Lib.hid (HANode.out.only ho3 (fun _ _ e => e))
  replace HRNode := Lib.hid (HRNode.out.only ho3 (fun _ _ e => e))
  replace HGNode := Lib.hid (HGNode.out.only ho3 (fun _ _ e => e) (fun _ _ e => e))
  replace HAStep := Lib.hid (HAStep.out.only ho3 (fun _ _ e => e))
  replace HRStep := Lib.hid (HRStep.out.only ho3 (fun _ _ e => e))
  replace HGStep := Lib.hid (HGStep.out.only ho3 (fun _ _ e => e) (fun _ _ e => e))
  replace HACost := Lib.hid (HACost.out.only ho3 (fun _ _ e => e))
  replace HRCost := Lib.hid (HRCost.out.only ho3 (fun _ _ e => e))
  replace HGCost := Lib.hid (HGCost.out.only ho3 (fun _ _ e => e) (fun _ _ e => e))
  clear hb3 ho3
  go_wp2_with fail
  refine (lookNumber_nil _ B f HH.out (HF.out 3 (by omega) (by omega) (by omega) (by omega) (by omega) (by omega))).mono ?_
  rintro e wx ⟨rfl, hw⟩
  obtain rfl := hw.symm
  go_wp2_with fail
  refine (lookId_nil _ B f HH.out (HF.out 4 (by omega) (by omega) (by omega) (by omega) (by omega) (by omega))).mono ?_
  rintro e wx ⟨rfl, hw⟩
  obtain rfl := hw.symm
  go_wp2_with fail
  refine (lookText_nil _ B f HH.out (HF.out 5 (by omega) (by omega) (by omega) (by omega) (by omega) (by omega))).mono ?_
  rintro e wx ⟨rfl, hw⟩
  obtain rfl := hw.symm
  go_wp2_with fail
  refine (lookTensor_nil _ B f HH.out (HF.out 6 (by omega) (by omega) (by omega) (by omega) (by omega) (by omega))).mono ?_
  rintro e wx ⟨rfl, hw⟩
  obtain rfl := hw.symm
  go_wp2_with fail
  refine (lookNode_any _ B f base LN.length (fun j => { heldAt LN j with lg := lgNode j }) HH.out HANode.out HRNode.out (fun j hj => (HGNode.out j hj).1) hmNode HNNode.out HNUMNode.out).mono ?_
  rintro e w3 ⟨rfl, hb3⟩
  have ho3 : Only (fun _ => False) _ w3 := Only.of_below hb3
  replace HH := Lib.hid (HH.out.below hb3)
  replace HO := Lib.hid (HO.out.trans (Only.of_below hb3))
  replace HAStep := Lib.hid (HAStep.out.only ho3 (fun _ _ e => e))
  replace HRStep := Lib.hid (HRStep.out.only ho3 (fun _ _ e => e))
  replace HGStep := Lib.hid (HGStep.out.only ho3 (fun _ _ e => e) (fun _ _ e => e))
  replace HACost := Lib.hid (HACost.out.only ho3 (fun _ _ e => e))
  replace HRCost := Lib.hid (HRCost.out.only ho3 (fun _ _ e => e))
  replace HGCost := Lib.hid (HGCost.out.only ho3 (fun _ _ e => e) (fun _ _ e => e))
  clear hb3 ho3
  go_wp2_with fail
  refine (lookStep_any _ B f base LS.length (fun j => { heldAt LS j with lg := lgStep j }) HH.out HAStep.out HRStep.out (fun j hj => (HGStep.out j hj).1) hmStep HNStep.out HNUMStep.out).mono ?_
  rintro e w3 ⟨rfl, hb3⟩
  have ho3 : Only (fun _ => False) _ w3 := Only.of_below hb3
  replace HH := Lib.hid (HH.out.below hb3)
  replace HO := Lib.hid (HO.out.trans (Only.of_below hb3))
  replace HACost := Lib.hid (HACost.out.only ho3 (fun _ _ e => e))
  replace HRCost := Lib.hid (HRCost.out.only ho3 (fun _ _ e => e))
  replace HGCost := Lib.hid (HGCost.out.only ho3 (fun _ _ e => e) (fun _ _ e => e))
  clear hb3 ho3
  go_wp2_with fail
  refine (lookCost_any _ B f base LC.length (fun j => { heldAt LC j with lg := lgCost j }) HH.out HACost.out HRCost.out (fun j hj => (HGCost.out j hj).1) hmCost HNCost.out HNUMCost.out).mono ?_
  rintro e w3 ⟨rfl, hb3⟩
  have ho3 : Only (fun _ => False) _ w3 := Only.of_below hb3
  replace HH := Lib.hid (HH.out.below hb3)
  replace HO := Lib.hid (HO.out.trans (Only.of_below hb3))
  clear hb3 ho3
  go_wp2_with fail
  refine (lookRecord_nil _ B f HH.out (HF.out 10 (by omega) (by omega) (by omega) (by omega) (by omega) (by omega))).mono ?_
  rintro e wx ⟨rfl, hw⟩
  obtain rfl := hw.symm
  go_wp2_with fail
  refine (lookPlace_nil _ B f HH.out (HF.out 11 (by omega) (by omega) (by omega) (by omega) (by omega) (by omega))).mono ?_
  rintro e wx ⟨rfl, hw⟩
  obtain rfl := hw.symm
  go_wp2_with fail
  refine (lookAsk_nil _ B f HH.out (HF.out 12 (by omega) (by omega) (by omega) (by omega) (by omega) (by omega))).mono ?_
  rintro e wx ⟨rfl, hw⟩
  obtain rfl := hw.symm
  go_wp2_with fail
  refine (lookDone_nil _ B f HH.out (HF.out 13 (by omega) (by omega) (by omega) (by omega) (by omega) (by omega))).mono ?_
  rintro e wx ⟨rfl, hw⟩
  obtain rfl := hw.symm
  go_wp2_with fail
  refine (lookGrid_nil _ B f HH.out (HF.out 14 (by omega) (by omega) (by omega) (by omega) (by omega) (by omega))).mono ?_
  rintro e wx ⟨rfl, hw⟩
  obtain rfl := hw.symm
  go_wp2_with fail
  refine (lookList_nil _ B f HH.out (HF.out 15 (by omega) (by omega) (by omega) (by omega) (by omega) (by omega))).mono ?_
  rintro e wx ⟨rfl, hw⟩
  obtain rfl := hw.symm
  go_wp2
  go_ret
  refine ⟨rfl, HO.out.below (fun k hk => ?_) (by omega)⟩
  rcases hk with hk | hk
  · exact (HBO.out k hk).1
  · omega
end Go.Proofs.YtekejcnphmnidaaGreatDoor
