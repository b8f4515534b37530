/-
  No cell of these rows narrows 'for every input' (looked for: loops, veiled, ifaces, maps, wideKeys, modest, calm, conditions, laid).
  DERIVED. THE GIVEN ROWS OF THIS SEAT. 23 by the template 'for every input the law returns true; each argument reads behind the call as it read before'; 0 by the template 'total and deterministic' (their statements: YtgmagldbfajedaaTotals.lean).
  GIVEN WITH THE SEED: the statements are not yours to turn. If you find one false, say at which input.
  Laid BY PROGRAM, IN A SANDBOX (cutbox-rows.mjs): the forced cells as the released guide's own fill.sh prints them over the translation da56e2dcb16a6d6f… (all of the seat's roots in one cut). By AI agents, Wed Nov 11 2026. No macro, syntax, notation, axiom, sorry.
-/
import Derived.Test.YtgmagldbfajedaaChecked
import GoSem.Claim
import GoSem.ClaimJoined
import GoSem.ClaimMapViews
import Derived.JoinedTies
import Derived.KernelRfl
namespace Go.Proofs.Ytgmagldbfajedaa
/- THE CELL 'sum', in the pinned program and in every row, IS THE sha256 OF THE DUMP (.gsa) THAT YtgmagldbfajedaaProg.lean LOADS. Nothing in Lean hashes anything: it is a label: what it is worth is what the hold of that sum in a sandbox is worth. -/
noncomputable def Try.pinned : Pinned := { name := "ytgmagldbfajedaa", sum := "da56e2dcb16a6d6f952489db2254c7fda354699eccc816e01ef8d8158c4eaa1c", checked := Try.checked }
namespace Rows
def none {H : Type} : Left H := { results := [], args := [] }

/-- 'drydocklaw21.EvictsRoom': WHATEVER THE INPUT: true; the input reads as it did. -/
def evictsRoomSpec : ChangeSpec := { name := "evictsRoom", fn := fun _ => fun
  | [d] => { results := [.lit (.bool true)], args := [d] }
  | _ => none }
def evictsRoomRow : OpenClaim := { program := "ytgmagldbfajedaa", sum := "da56e2dcb16a6d6f952489db2254c7fda354699eccc816e01ef8d8158c4eaa1c", func := "drydock/drydocklaw21.EvictsRoom", spec := "evictsRoom", unfollowed := true, recurses := true, apart := false }
def EvictsRoomSaid : Prop := evictsRoomRow.holds Try.pinned (OpenSpec.ofChange evictsRoomSpec)

/-- ITS FALSE NEIGHBOUR: 'it returns false'. Refute it at one input. -/
def evictsRoomWrong : ChangeSpec := { name := "evictsRoom", fn := fun _ => fun
  | [d] => { results := [.lit (.bool false)], args := [d] }
  | _ => none }
def EvictsRoomWrongFalsely : Prop := evictsRoomRow.holds Try.pinned (OpenSpec.ofChange evictsRoomWrong)

/-- 'drydocklaw21.EvictsTurned': WHATEVER THE INPUT: true; the input reads as it did. -/
def evictsTurnedSpec : ChangeSpec := { name := "evictsTurned", fn := fun _ => fun
  | [d1, d2] => { results := [.lit (.bool true)], args := [d1, d2] }
  | _ => none }
def evictsTurnedRow : OpenClaim := { program := "ytgmagldbfajedaa", sum := "da56e2dcb16a6d6f952489db2254c7fda354699eccc816e01ef8d8158c4eaa1c", func := "drydock/drydocklaw21.EvictsTurned", spec := "evictsTurned", unfollowed := true, recurses := true, apart := false }
def EvictsTurnedSaid : Prop := evictsTurnedRow.holds Try.pinned (OpenSpec.ofChange evictsTurnedSpec)

/-- ITS FALSE NEIGHBOUR: 'it returns false'. Refute it at one input. -/
def evictsTurnedWrong : ChangeSpec := { name := "evictsTurned", fn := fun _ => fun
  | [d1, d2] => { results := [.lit (.bool false)], args := [d1, d2] }
  | _ => none }
def EvictsTurnedWrongFalsely : Prop := evictsTurnedRow.holds Try.pinned (OpenSpec.ofChange evictsTurnedWrong)

/-- 'drydocklaw21.EvictsFar': WHATEVER THE INPUT: true; the input reads as it did. -/
def evictsFarSpec : ChangeSpec := { name := "evictsFar", fn := fun _ => fun
  | [d] => { results := [.lit (.bool true)], args := [d] }
  | _ => none }
def evictsFarRow : OpenClaim := { program := "ytgmagldbfajedaa", sum := "da56e2dcb16a6d6f952489db2254c7fda354699eccc816e01ef8d8158c4eaa1c", func := "drydock/drydocklaw21.EvictsFar", spec := "evictsFar", unfollowed := true, recurses := true, apart := false }
def EvictsFarSaid : Prop := evictsFarRow.holds Try.pinned (OpenSpec.ofChange evictsFarSpec)

/-- ITS FALSE NEIGHBOUR: 'it returns false'. Refute it at one input. -/
def evictsFarWrong : ChangeSpec := { name := "evictsFar", fn := fun _ => fun
  | [d] => { results := [.lit (.bool false)], args := [d] }
  | _ => none }
def EvictsFarWrongFalsely : Prop := evictsFarRow.holds Try.pinned (OpenSpec.ofChange evictsFarWrong)

/-- 'drydocklaw21.EvictsNone': WHATEVER THE INPUT: true; the input reads as it did. -/
def evictsNoneSpec : ChangeSpec := { name := "evictsNone", fn := fun _ => fun
  | [d] => { results := [.lit (.bool true)], args := [d] }
  | _ => none }
def evictsNoneRow : OpenClaim := { program := "ytgmagldbfajedaa", sum := "da56e2dcb16a6d6f952489db2254c7fda354699eccc816e01ef8d8158c4eaa1c", func := "drydock/drydocklaw21.EvictsNone", spec := "evictsNone", unfollowed := true, recurses := true, apart := false }
def EvictsNoneSaid : Prop := evictsNoneRow.holds Try.pinned (OpenSpec.ofChange evictsNoneSpec)

/-- ITS FALSE NEIGHBOUR: 'it returns false'. Refute it at one input. -/
def evictsNoneWrong : ChangeSpec := { name := "evictsNone", fn := fun _ => fun
  | [d] => { results := [.lit (.bool false)], args := [d] }
  | _ => none }
def EvictsNoneWrongFalsely : Prop := evictsNoneRow.holds Try.pinned (OpenSpec.ofChange evictsNoneWrong)

/-- 'drydocklaw10.GraphsAhead': WHATEVER THE INPUT: true; the input reads as it did. -/
def graphsAheadSpec : ChangeSpec := { name := "graphsAhead", fn := fun _ => fun
  | [d1, d2] => { results := [.lit (.bool true)], args := [d1, d2] }
  | _ => none }
def graphsAheadRow : OpenClaim := { program := "ytgmagldbfajedaa", sum := "da56e2dcb16a6d6f952489db2254c7fda354699eccc816e01ef8d8158c4eaa1c", func := "drydock/drydocklaw10.GraphsAhead", spec := "graphsAhead", unfollowed := true, recurses := true, apart := false }
def GraphsAheadSaid : Prop := graphsAheadRow.holds Try.pinned (OpenSpec.ofChange graphsAheadSpec)

/-- ITS FALSE NEIGHBOUR: 'it returns false'. Refute it at one input. -/
def graphsAheadWrong : ChangeSpec := { name := "graphsAhead", fn := fun _ => fun
  | [d1, d2] => { results := [.lit (.bool false)], args := [d1, d2] }
  | _ => none }
def GraphsAheadWrongFalsely : Prop := graphsAheadRow.holds Try.pinned (OpenSpec.ofChange graphsAheadWrong)

/-- 'drydocklaw10.GraphsMore': WHATEVER THE INPUT: true; the input reads as it did. -/
def graphsMoreSpec : ChangeSpec := { name := "graphsMore", fn := fun _ => fun
  | [d1, d2, d3] => { results := [.lit (.bool true)], args := [d1, d2, d3] }
  | _ => none }
def graphsMoreRow : OpenClaim := { program := "ytgmagldbfajedaa", sum := "da56e2dcb16a6d6f952489db2254c7fda354699eccc816e01ef8d8158c4eaa1c", func := "drydock/drydocklaw10.GraphsMore", spec := "graphsMore", unfollowed := true, recurses := true, apart := false }
def GraphsMoreSaid : Prop := graphsMoreRow.holds Try.pinned (OpenSpec.ofChange graphsMoreSpec)

/-- ITS FALSE NEIGHBOUR: 'it returns false'. Refute it at one input. -/
def graphsMoreWrong : ChangeSpec := { name := "graphsMore", fn := fun _ => fun
  | [d1, d2, d3] => { results := [.lit (.bool false)], args := [d1, d2, d3] }
  | _ => none }
def GraphsMoreWrongFalsely : Prop := graphsMoreRow.holds Try.pinned (OpenSpec.ofChange graphsMoreWrong)

/-- 'drydocklaw10.GraphsKinds': WHATEVER THE INPUT: true; the input reads as it did. -/
def graphsKindsSpec : ChangeSpec := { name := "graphsKinds", fn := fun _ => fun
  | [d] => { results := [.lit (.bool true)], args := [d] }
  | _ => none }
def graphsKindsRow : OpenClaim := { program := "ytgmagldbfajedaa", sum := "da56e2dcb16a6d6f952489db2254c7fda354699eccc816e01ef8d8158c4eaa1c", func := "drydock/drydocklaw10.GraphsKinds", spec := "graphsKinds", unfollowed := true, recurses := true, apart := false }
def GraphsKindsSaid : Prop := graphsKindsRow.holds Try.pinned (OpenSpec.ofChange graphsKindsSpec)

/-- ITS FALSE NEIGHBOUR: 'it returns false'. Refute it at one input. -/
def graphsKindsWrong : ChangeSpec := { name := "graphsKinds", fn := fun _ => fun
  | [d] => { results := [.lit (.bool false)], args := [d] }
  | _ => none }
def GraphsKindsWrongFalsely : Prop := graphsKindsRow.holds Try.pinned (OpenSpec.ofChange graphsKindsWrong)

/-- 'drydocklaw10.GraphsJoined': WHATEVER THE INPUT: true; the input reads as it did. -/
def graphsJoinedSpec : ChangeSpec := { name := "graphsJoined", fn := fun _ => fun
  | [d1, d2, d3] => { results := [.lit (.bool true)], args := [d1, d2, d3] }
  | _ => none }
def graphsJoinedRow : OpenClaim := { program := "ytgmagldbfajedaa", sum := "da56e2dcb16a6d6f952489db2254c7fda354699eccc816e01ef8d8158c4eaa1c", func := "drydock/drydocklaw10.GraphsJoined", spec := "graphsJoined", unfollowed := true, recurses := true, apart := false }
def GraphsJoinedSaid : Prop := graphsJoinedRow.holds Try.pinned (OpenSpec.ofChange graphsJoinedSpec)

/-- ITS FALSE NEIGHBOUR: 'it returns false'. Refute it at one input. -/
def graphsJoinedWrong : ChangeSpec := { name := "graphsJoined", fn := fun _ => fun
  | [d1, d2, d3] => { results := [.lit (.bool false)], args := [d1, d2, d3] }
  | _ => none }
def GraphsJoinedWrongFalsely : Prop := graphsJoinedRow.holds Try.pinned (OpenSpec.ofChange graphsJoinedWrong)

/-- 'drydocklaw10.GraphsInsert': WHATEVER THE INPUT: true; the input reads as it did. -/
def graphsInsertSpec : ChangeSpec := { name := "graphsInsert", fn := fun _ => fun
  | [d1, d2, d3] => { results := [.lit (.bool true)], args := [d1, d2, d3] }
  | _ => none }
def graphsInsertRow : OpenClaim := { program := "ytgmagldbfajedaa", sum := "da56e2dcb16a6d6f952489db2254c7fda354699eccc816e01ef8d8158c4eaa1c", func := "drydock/drydocklaw10.GraphsInsert", spec := "graphsInsert", unfollowed := true, recurses := true, apart := false }
def GraphsInsertSaid : Prop := graphsInsertRow.holds Try.pinned (OpenSpec.ofChange graphsInsertSpec)

/-- ITS FALSE NEIGHBOUR: 'it returns false'. Refute it at one input. -/
def graphsInsertWrong : ChangeSpec := { name := "graphsInsert", fn := fun _ => fun
  | [d1, d2, d3] => { results := [.lit (.bool false)], args := [d1, d2, d3] }
  | _ => none }
def GraphsInsertWrongFalsely : Prop := graphsInsertRow.holds Try.pinned (OpenSpec.ofChange graphsInsertWrong)

/-- 'drydocklaw20.CostsNeed': WHATEVER THE INPUT: true; the input reads as it did. -/
def costsNeedSpec : ChangeSpec := { name := "costsNeed", fn := fun _ => fun
  | [d] => { results := [.lit (.bool true)], args := [d] }
  | _ => none }
def costsNeedRow : OpenClaim := { program := "ytgmagldbfajedaa", sum := "da56e2dcb16a6d6f952489db2254c7fda354699eccc816e01ef8d8158c4eaa1c", func := "drydock/drydocklaw20.CostsNeed", spec := "costsNeed", unfollowed := true, recurses := true, apart := false }
def CostsNeedSaid : Prop := costsNeedRow.holds Try.pinned (OpenSpec.ofChange costsNeedSpec)

/-- ITS FALSE NEIGHBOUR: 'it returns false'. Refute it at one input. -/
def costsNeedWrong : ChangeSpec := { name := "costsNeed", fn := fun _ => fun
  | [d] => { results := [.lit (.bool false)], args := [d] }
  | _ => none }
def CostsNeedWrongFalsely : Prop := costsNeedRow.holds Try.pinned (OpenSpec.ofChange costsNeedWrong)

/-- 'drydocklaw20.CostsMore': WHATEVER THE INPUT: true; the input reads as it did. -/
def costsMoreSpec : ChangeSpec := { name := "costsMore", fn := fun _ => fun
  | [d1, d2] => { results := [.lit (.bool true)], args := [d1, d2] }
  | _ => none }
def costsMoreRow : OpenClaim := { program := "ytgmagldbfajedaa", sum := "da56e2dcb16a6d6f952489db2254c7fda354699eccc816e01ef8d8158c4eaa1c", func := "drydock/drydocklaw20.CostsMore", spec := "costsMore", unfollowed := true, recurses := true, apart := false }
def CostsMoreSaid : Prop := costsMoreRow.holds Try.pinned (OpenSpec.ofChange costsMoreSpec)

/-- ITS FALSE NEIGHBOUR: 'it returns false'. Refute it at one input. -/
def costsMoreWrong : ChangeSpec := { name := "costsMore", fn := fun _ => fun
  | [d1, d2] => { results := [.lit (.bool false)], args := [d1, d2] }
  | _ => none }
def CostsMoreWrongFalsely : Prop := costsMoreRow.holds Try.pinned (OpenSpec.ofChange costsMoreWrong)

/-- 'drydocklaw12.OrdersNeeds': WHATEVER THE INPUT: true; the input reads as it did. -/
def ordersNeedsSpec : ChangeSpec := { name := "ordersNeeds", fn := fun _ => fun
  | [d] => { results := [.lit (.bool true)], args := [d] }
  | _ => none }
def ordersNeedsRow : OpenClaim := { program := "ytgmagldbfajedaa", sum := "da56e2dcb16a6d6f952489db2254c7fda354699eccc816e01ef8d8158c4eaa1c", func := "drydock/drydocklaw12.OrdersNeeds", spec := "ordersNeeds", unfollowed := true, recurses := true, apart := false }
def OrdersNeedsSaid : Prop := ordersNeedsRow.holds Try.pinned (OpenSpec.ofChange ordersNeedsSpec)

/-- ITS FALSE NEIGHBOUR: 'it returns false'. Refute it at one input. -/
def ordersNeedsWrong : ChangeSpec := { name := "ordersNeeds", fn := fun _ => fun
  | [d] => { results := [.lit (.bool false)], args := [d] }
  | _ => none }
def OrdersNeedsWrongFalsely : Prop := ordersNeedsRow.holds Try.pinned (OpenSpec.ofChange ordersNeedsWrong)

/-- 'drydocklaw12.OrdersNext': WHATEVER THE INPUT: true; the input reads as it did. -/
def ordersNextSpec : ChangeSpec := { name := "ordersNext", fn := fun _ => fun
  | [d1, d2, d3] => { results := [.lit (.bool true)], args := [d1, d2, d3] }
  | _ => none }
def ordersNextRow : OpenClaim := { program := "ytgmagldbfajedaa", sum := "da56e2dcb16a6d6f952489db2254c7fda354699eccc816e01ef8d8158c4eaa1c", func := "drydock/drydocklaw12.OrdersNext", spec := "ordersNext", unfollowed := true, recurses := true, apart := false }
def OrdersNextSaid : Prop := ordersNextRow.holds Try.pinned (OpenSpec.ofChange ordersNextSpec)

/-- ITS FALSE NEIGHBOUR: 'it returns false'. Refute it at one input. -/
def ordersNextWrong : ChangeSpec := { name := "ordersNext", fn := fun _ => fun
  | [d1, d2, d3] => { results := [.lit (.bool false)], args := [d1, d2, d3] }
  | _ => none }
def OrdersNextWrongFalsely : Prop := ordersNextRow.holds Try.pinned (OpenSpec.ofChange ordersNextWrong)

/-- 'drydocklaw12.OrdersUses': WHATEVER THE INPUT: true; the input reads as it did. -/
def ordersUsesSpec : ChangeSpec := { name := "ordersUses", fn := fun _ => fun
  | [d1, d2, d3] => { results := [.lit (.bool true)], args := [d1, d2, d3] }
  | _ => none }
def ordersUsesRow : OpenClaim := { program := "ytgmagldbfajedaa", sum := "da56e2dcb16a6d6f952489db2254c7fda354699eccc816e01ef8d8158c4eaa1c", func := "drydock/drydocklaw12.OrdersUses", spec := "ordersUses", unfollowed := true, recurses := true, apart := false }
def OrdersUsesSaid : Prop := ordersUsesRow.holds Try.pinned (OpenSpec.ofChange ordersUsesSpec)

/-- ITS FALSE NEIGHBOUR: 'it returns false'. Refute it at one input. -/
def ordersUsesWrong : ChangeSpec := { name := "ordersUses", fn := fun _ => fun
  | [d1, d2, d3] => { results := [.lit (.bool false)], args := [d1, d2, d3] }
  | _ => none }
def OrdersUsesWrongFalsely : Prop := ordersUsesRow.holds Try.pinned (OpenSpec.ofChange ordersUsesWrong)

/-- 'drydocklaw12.OrdersWhole': WHATEVER THE INPUT: true; the input reads as it did. -/
def ordersWholeSpec : ChangeSpec := { name := "ordersWhole", fn := fun _ => fun
  | [d1, d2] => { results := [.lit (.bool true)], args := [d1, d2] }
  | _ => none }
def ordersWholeRow : OpenClaim := { program := "ytgmagldbfajedaa", sum := "da56e2dcb16a6d6f952489db2254c7fda354699eccc816e01ef8d8158c4eaa1c", func := "drydock/drydocklaw12.OrdersWhole", spec := "ordersWhole", unfollowed := true, recurses := true, apart := false }
def OrdersWholeSaid : Prop := ordersWholeRow.holds Try.pinned (OpenSpec.ofChange ordersWholeSpec)

/-- ITS FALSE NEIGHBOUR: 'it returns false'. Refute it at one input. -/
def ordersWholeWrong : ChangeSpec := { name := "ordersWhole", fn := fun _ => fun
  | [d1, d2] => { results := [.lit (.bool false)], args := [d1, d2] }
  | _ => none }
def OrdersWholeWrongFalsely : Prop := ordersWholeRow.holds Try.pinned (OpenSpec.ofChange ordersWholeWrong)

/-- 'drydocklaw12.OrdersTurned': WHATEVER THE INPUT: true; the input reads as it did. -/
def ordersTurnedSpec : ChangeSpec := { name := "ordersTurned", fn := fun _ => fun
  | [d1, d2] => { results := [.lit (.bool true)], args := [d1, d2] }
  | _ => none }
def ordersTurnedRow : OpenClaim := { program := "ytgmagldbfajedaa", sum := "da56e2dcb16a6d6f952489db2254c7fda354699eccc816e01ef8d8158c4eaa1c", func := "drydock/drydocklaw12.OrdersTurned", spec := "ordersTurned", unfollowed := true, recurses := true, apart := false }
def OrdersTurnedSaid : Prop := ordersTurnedRow.holds Try.pinned (OpenSpec.ofChange ordersTurnedSpec)

/-- ITS FALSE NEIGHBOUR: 'it returns false'. Refute it at one input. -/
def ordersTurnedWrong : ChangeSpec := { name := "ordersTurned", fn := fun _ => fun
  | [d1, d2] => { results := [.lit (.bool false)], args := [d1, d2] }
  | _ => none }
def OrdersTurnedWrongFalsely : Prop := ordersTurnedRow.holds Try.pinned (OpenSpec.ofChange ordersTurnedWrong)

/-- 'drydocklaw21.EvictsAgain': WHATEVER THE INPUT: true; the input reads as it did. -/
def evictsAgainSpec : ChangeSpec := { name := "evictsAgain", fn := fun _ => fun
  | [d1, d2, d3] => { results := [.lit (.bool true)], args := [d1, d2, d3] }
  | _ => none }
def evictsAgainRow : OpenClaim := { program := "ytgmagldbfajedaa", sum := "da56e2dcb16a6d6f952489db2254c7fda354699eccc816e01ef8d8158c4eaa1c", func := "drydock/drydocklaw21.EvictsAgain", spec := "evictsAgain", unfollowed := true, recurses := true, apart := false }
def EvictsAgainSaid : Prop := evictsAgainRow.holds Try.pinned (OpenSpec.ofChange evictsAgainSpec)

/-- ITS FALSE NEIGHBOUR: 'it returns false'. Refute it at one input. -/
def evictsAgainWrong : ChangeSpec := { name := "evictsAgain", fn := fun _ => fun
  | [d1, d2, d3] => { results := [.lit (.bool false)], args := [d1, d2, d3] }
  | _ => none }
def EvictsAgainWrongFalsely : Prop := evictsAgainRow.holds Try.pinned (OpenSpec.ofChange evictsAgainWrong)

/-- 'drydocklaw22.PlansRoom': WHATEVER THE INPUT: true; the input reads as it did. -/
def plansRoomSpec : ChangeSpec := { name := "plansRoom", fn := fun _ => fun
  | [d1, d2] => { results := [.lit (.bool true)], args := [d1, d2] }
  | _ => none }
def plansRoomRow : OpenClaim := { program := "ytgmagldbfajedaa", sum := "da56e2dcb16a6d6f952489db2254c7fda354699eccc816e01ef8d8158c4eaa1c", func := "drydock/drydocklaw22.PlansRoom", spec := "plansRoom", unfollowed := true, recurses := true, apart := false }
def PlansRoomSaid : Prop := plansRoomRow.holds Try.pinned (OpenSpec.ofChange plansRoomSpec)

/-- ITS FALSE NEIGHBOUR: 'it returns false'. Refute it at one input. -/
def plansRoomWrong : ChangeSpec := { name := "plansRoom", fn := fun _ => fun
  | [d1, d2] => { results := [.lit (.bool false)], args := [d1, d2] }
  | _ => none }
def PlansRoomWrongFalsely : Prop := plansRoomRow.holds Try.pinned (OpenSpec.ofChange plansRoomWrong)

/-- 'drydocklaw22.PlansWhole': WHATEVER THE INPUT: true; the input reads as it did. -/
def plansWholeSpec : ChangeSpec := { name := "plansWhole", fn := fun _ => fun
  | [d] => { results := [.lit (.bool true)], args := [d] }
  | _ => none }
def plansWholeRow : OpenClaim := { program := "ytgmagldbfajedaa", sum := "da56e2dcb16a6d6f952489db2254c7fda354699eccc816e01ef8d8158c4eaa1c", func := "drydock/drydocklaw22.PlansWhole", spec := "plansWhole", unfollowed := true, recurses := true, apart := false }
def PlansWholeSaid : Prop := plansWholeRow.holds Try.pinned (OpenSpec.ofChange plansWholeSpec)

/-- ITS FALSE NEIGHBOUR: 'it returns false'. Refute it at one input. -/
def plansWholeWrong : ChangeSpec := { name := "plansWhole", fn := fun _ => fun
  | [d] => { results := [.lit (.bool false)], args := [d] }
  | _ => none }
def PlansWholeWrongFalsely : Prop := plansWholeRow.holds Try.pinned (OpenSpec.ofChange plansWholeWrong)

/-- 'drydocklaw22.PlansOrder': WHATEVER THE INPUT: true; the input reads as it did. -/
def plansOrderSpec : ChangeSpec := { name := "plansOrder", fn := fun _ => fun
  | [d1, d2] => { results := [.lit (.bool true)], args := [d1, d2] }
  | _ => none }
def plansOrderRow : OpenClaim := { program := "ytgmagldbfajedaa", sum := "da56e2dcb16a6d6f952489db2254c7fda354699eccc816e01ef8d8158c4eaa1c", func := "drydock/drydocklaw22.PlansOrder", spec := "plansOrder", unfollowed := true, recurses := true, apart := false }
def PlansOrderSaid : Prop := plansOrderRow.holds Try.pinned (OpenSpec.ofChange plansOrderSpec)

/-- ITS FALSE NEIGHBOUR: 'it returns false'. Refute it at one input. -/
def plansOrderWrong : ChangeSpec := { name := "plansOrder", fn := fun _ => fun
  | [d1, d2] => { results := [.lit (.bool false)], args := [d1, d2] }
  | _ => none }
def PlansOrderWrongFalsely : Prop := plansOrderRow.holds Try.pinned (OpenSpec.ofChange plansOrderWrong)

/-- 'drydocklaw22.PlansStore': WHATEVER THE INPUT: true; the input reads as it did. -/
def plansStoreSpec : ChangeSpec := { name := "plansStore", fn := fun _ => fun
  | [d1, d2] => { results := [.lit (.bool true)], args := [d1, d2] }
  | _ => none }
def plansStoreRow : OpenClaim := { program := "ytgmagldbfajedaa", sum := "da56e2dcb16a6d6f952489db2254c7fda354699eccc816e01ef8d8158c4eaa1c", func := "drydock/drydocklaw22.PlansStore", spec := "plansStore", unfollowed := true, recurses := true, apart := false }
def PlansStoreSaid : Prop := plansStoreRow.holds Try.pinned (OpenSpec.ofChange plansStoreSpec)

/-- ITS FALSE NEIGHBOUR: 'it returns false'. Refute it at one input. -/
def plansStoreWrong : ChangeSpec := { name := "plansStore", fn := fun _ => fun
  | [d1, d2] => { results := [.lit (.bool false)], args := [d1, d2] }
  | _ => none }
def PlansStoreWrongFalsely : Prop := plansStoreRow.holds Try.pinned (OpenSpec.ofChange plansStoreWrong)

/-- 'drydocklaw23.CheckersBegin': WHATEVER THE INPUT: true; the input reads as it did. -/
def checkersBeginSpec : ChangeSpec := { name := "checkersBegin", fn := fun _ => fun
  | [d1, d2, d3] => { results := [.lit (.bool true)], args := [d1, d2, d3] }
  | _ => none }
def checkersBeginRow : OpenClaim := { program := "ytgmagldbfajedaa", sum := "da56e2dcb16a6d6f952489db2254c7fda354699eccc816e01ef8d8158c4eaa1c", func := "drydock/drydocklaw23.CheckersBegin", spec := "checkersBegin", unfollowed := true, recurses := true, apart := false }
def CheckersBeginSaid : Prop := checkersBeginRow.holds Try.pinned (OpenSpec.ofChange checkersBeginSpec)

/-- ITS FALSE NEIGHBOUR: 'it returns false'. Refute it at one input. -/
def checkersBeginWrong : ChangeSpec := { name := "checkersBegin", fn := fun _ => fun
  | [d1, d2, d3] => { results := [.lit (.bool false)], args := [d1, d2, d3] }
  | _ => none }
def CheckersBeginWrongFalsely : Prop := checkersBeginRow.holds Try.pinned (OpenSpec.ofChange checkersBeginWrong)

/-- 'drydocklaw23.CheckersPlans': WHATEVER THE INPUT: true; the input reads as it did. -/
def checkersPlansSpec : ChangeSpec := { name := "checkersPlans", fn := fun _ => fun
  | [d1, d2] => { results := [.lit (.bool true)], args := [d1, d2] }
  | _ => none }
def checkersPlansRow : OpenClaim := { program := "ytgmagldbfajedaa", sum := "da56e2dcb16a6d6f952489db2254c7fda354699eccc816e01ef8d8158c4eaa1c", func := "drydock/drydocklaw23.CheckersPlans", spec := "checkersPlans", unfollowed := true, recurses := true, apart := false }
def CheckersPlansSaid : Prop := checkersPlansRow.holds Try.pinned (OpenSpec.ofChange checkersPlansSpec)

/-- ITS FALSE NEIGHBOUR: 'it returns false'. Refute it at one input. -/
def checkersPlansWrong : ChangeSpec := { name := "checkersPlans", fn := fun _ => fun
  | [d1, d2] => { results := [.lit (.bool false)], args := [d1, d2] }
  | _ => none }
def CheckersPlansWrongFalsely : Prop := checkersPlansRow.holds Try.pinned (OpenSpec.ofChange checkersPlansWrong)

/- THE SECOND FORM. 'bulk': how many values and letters a reading holds, each counted each time it is reached (what is shared counts as often as it is met; a slice's spare places count too). A statement '..UptoSaid' is the law's where the arguments, and the package variables that the reading takes, are together of bulk at most 1048576: NARROWER than '..Said'. Prove '..Said' where nothing that the law and all that it calls make is longer than what came in: it says more and counts as full. Else prove '..UptoSaid'. A law counts once. -/
mutual
def uptoBulk {H : Type} : DataW H → Nat
  | .lit (.string bytes) => bytes.length + 1
  | .lit _ => 1
  | .nil => 1
  | .ptr d => uptoBulk d + 1
  | .slice elems spare => uptoBulkAll elems + uptoBulkAll spare + 1
  | .agg parts => uptoBulkAll parts + 1
  | .iface _ d => uptoBulk d + 1
  | .map entries => uptoBulkEntries entries + 1
  | .held _ => 1
def uptoBulkAll {H : Type} : List (DataW H) → Nat
  | [] => 0
  | d :: r => uptoBulk d + uptoBulkAll r
def uptoBulkEntries {H : Type} : List (Lit × DataW H) → Nat
  | [] => 0
  | x :: r => uptoBulkEntry x + uptoBulkEntries r
def uptoBulkEntry {H : Type} : Lit × DataW H → Nat
  | (.string bytes, d) => bytes.length + uptoBulk d + 1
  | (_, d) => uptoBulk d + 1
 end
def uptoSmall : (H : Type) → List (DataW H) → Bool := fun _ ds => decide (uptoBulkAll ds ≤ 1048576)
def OpenSpec.upto (s : _root_.Go.ChangeSpec) : _root_.Go.OpenSpec := { _root_.Go.OpenSpec.ofChange s with cond := some uptoSmall }

/-- 'drydocklaw21.EvictsRoom', WHERE WHAT IT READS IS OF BULK AT MOST 1048576: true; the input reads as it did. -/
def evictsRoomUptoRow : OpenClaim := { program := "ytgmagldbfajedaa", sum := "da56e2dcb16a6d6f952489db2254c7fda354699eccc816e01ef8d8158c4eaa1c", func := "drydock/drydocklaw21.EvictsRoom", spec := "evictsRoom", unfollowed := true, recurses := true, apart := false, narrowed := true }
def EvictsRoomUptoSaid : Prop := evictsRoomUptoRow.holds Try.pinned (OpenSpec.upto evictsRoomSpec)

/-- 'drydocklaw21.EvictsTurned', WHERE WHAT IT READS IS OF BULK AT MOST 1048576: true; the input reads as it did. -/
def evictsTurnedUptoRow : OpenClaim := { program := "ytgmagldbfajedaa", sum := "da56e2dcb16a6d6f952489db2254c7fda354699eccc816e01ef8d8158c4eaa1c", func := "drydock/drydocklaw21.EvictsTurned", spec := "evictsTurned", unfollowed := true, recurses := true, apart := false, narrowed := true }
def EvictsTurnedUptoSaid : Prop := evictsTurnedUptoRow.holds Try.pinned (OpenSpec.upto evictsTurnedSpec)

/-- 'drydocklaw21.EvictsFar', WHERE WHAT IT READS IS OF BULK AT MOST 1048576: true; the input reads as it did. -/
def evictsFarUptoRow : OpenClaim := { program := "ytgmagldbfajedaa", sum := "da56e2dcb16a6d6f952489db2254c7fda354699eccc816e01ef8d8158c4eaa1c", func := "drydock/drydocklaw21.EvictsFar", spec := "evictsFar", unfollowed := true, recurses := true, apart := false, narrowed := true }
def EvictsFarUptoSaid : Prop := evictsFarUptoRow.holds Try.pinned (OpenSpec.upto evictsFarSpec)

/-- 'drydocklaw21.EvictsNone', WHERE WHAT IT READS IS OF BULK AT MOST 1048576: true; the input reads as it did. -/
def evictsNoneUptoRow : OpenClaim := { program := "ytgmagldbfajedaa", sum := "da56e2dcb16a6d6f952489db2254c7fda354699eccc816e01ef8d8158c4eaa1c", func := "drydock/drydocklaw21.EvictsNone", spec := "evictsNone", unfollowed := true, recurses := true, apart := false, narrowed := true }
def EvictsNoneUptoSaid : Prop := evictsNoneUptoRow.holds Try.pinned (OpenSpec.upto evictsNoneSpec)

/-- 'drydocklaw10.GraphsAhead', WHERE WHAT IT READS IS OF BULK AT MOST 1048576: true; the input reads as it did. -/
def graphsAheadUptoRow : OpenClaim := { program := "ytgmagldbfajedaa", sum := "da56e2dcb16a6d6f952489db2254c7fda354699eccc816e01ef8d8158c4eaa1c", func := "drydock/drydocklaw10.GraphsAhead", spec := "graphsAhead", unfollowed := true, recurses := true, apart := false, narrowed := true }
def GraphsAheadUptoSaid : Prop := graphsAheadUptoRow.holds Try.pinned (OpenSpec.upto graphsAheadSpec)

/-- 'drydocklaw10.GraphsMore', WHERE WHAT IT READS IS OF BULK AT MOST 1048576: true; the input reads as it did. -/
def graphsMoreUptoRow : OpenClaim := { program := "ytgmagldbfajedaa", sum := "da56e2dcb16a6d6f952489db2254c7fda354699eccc816e01ef8d8158c4eaa1c", func := "drydock/drydocklaw10.GraphsMore", spec := "graphsMore", unfollowed := true, recurses := true, apart := false, narrowed := true }
def GraphsMoreUptoSaid : Prop := graphsMoreUptoRow.holds Try.pinned (OpenSpec.upto graphsMoreSpec)

/-- 'drydocklaw10.GraphsKinds', WHERE WHAT IT READS IS OF BULK AT MOST 1048576: true; the input reads as it did. -/
def graphsKindsUptoRow : OpenClaim := { program := "ytgmagldbfajedaa", sum := "da56e2dcb16a6d6f952489db2254c7fda354699eccc816e01ef8d8158c4eaa1c", func := "drydock/drydocklaw10.GraphsKinds", spec := "graphsKinds", unfollowed := true, recurses := true, apart := false, narrowed := true }
def GraphsKindsUptoSaid : Prop := graphsKindsUptoRow.holds Try.pinned (OpenSpec.upto graphsKindsSpec)

/-- 'drydocklaw10.GraphsJoined', WHERE WHAT IT READS IS OF BULK AT MOST 1048576: true; the input reads as it did. -/
def graphsJoinedUptoRow : OpenClaim := { program := "ytgmagldbfajedaa", sum := "da56e2dcb16a6d6f952489db2254c7fda354699eccc816e01ef8d8158c4eaa1c", func := "drydock/drydocklaw10.GraphsJoined", spec := "graphsJoined", unfollowed := true, recurses := true, apart := false, narrowed := true }
def GraphsJoinedUptoSaid : Prop := graphsJoinedUptoRow.holds Try.pinned (OpenSpec.upto graphsJoinedSpec)

/-- 'drydocklaw10.GraphsInsert', WHERE WHAT IT READS IS OF BULK AT MOST 1048576: true; the input reads as it did. -/
def graphsInsertUptoRow : OpenClaim := { program := "ytgmagldbfajedaa", sum := "da56e2dcb16a6d6f952489db2254c7fda354699eccc816e01ef8d8158c4eaa1c", func := "drydock/drydocklaw10.GraphsInsert", spec := "graphsInsert", unfollowed := true, recurses := true, apart := false, narrowed := true }
def GraphsInsertUptoSaid : Prop := graphsInsertUptoRow.holds Try.pinned (OpenSpec.upto graphsInsertSpec)

/-- 'drydocklaw20.CostsNeed', WHERE WHAT IT READS IS OF BULK AT MOST 1048576: true; the input reads as it did. -/
def costsNeedUptoRow : OpenClaim := { program := "ytgmagldbfajedaa", sum := "da56e2dcb16a6d6f952489db2254c7fda354699eccc816e01ef8d8158c4eaa1c", func := "drydock/drydocklaw20.CostsNeed", spec := "costsNeed", unfollowed := true, recurses := true, apart := false, narrowed := true }
def CostsNeedUptoSaid : Prop := costsNeedUptoRow.holds Try.pinned (OpenSpec.upto costsNeedSpec)

/-- 'drydocklaw20.CostsMore', WHERE WHAT IT READS IS OF BULK AT MOST 1048576: true; the input reads as it did. -/
def costsMoreUptoRow : OpenClaim := { program := "ytgmagldbfajedaa", sum := "da56e2dcb16a6d6f952489db2254c7fda354699eccc816e01ef8d8158c4eaa1c", func := "drydock/drydocklaw20.CostsMore", spec := "costsMore", unfollowed := true, recurses := true, apart := false, narrowed := true }
def CostsMoreUptoSaid : Prop := costsMoreUptoRow.holds Try.pinned (OpenSpec.upto costsMoreSpec)

/-- 'drydocklaw12.OrdersNeeds', WHERE WHAT IT READS IS OF BULK AT MOST 1048576: true; the input reads as it did. -/
def ordersNeedsUptoRow : OpenClaim := { program := "ytgmagldbfajedaa", sum := "da56e2dcb16a6d6f952489db2254c7fda354699eccc816e01ef8d8158c4eaa1c", func := "drydock/drydocklaw12.OrdersNeeds", spec := "ordersNeeds", unfollowed := true, recurses := true, apart := false, narrowed := true }
def OrdersNeedsUptoSaid : Prop := ordersNeedsUptoRow.holds Try.pinned (OpenSpec.upto ordersNeedsSpec)

/-- 'drydocklaw12.OrdersNext', WHERE WHAT IT READS IS OF BULK AT MOST 1048576: true; the input reads as it did. -/
def ordersNextUptoRow : OpenClaim := { program := "ytgmagldbfajedaa", sum := "da56e2dcb16a6d6f952489db2254c7fda354699eccc816e01ef8d8158c4eaa1c", func := "drydock/drydocklaw12.OrdersNext", spec := "ordersNext", unfollowed := true, recurses := true, apart := false, narrowed := true }
def OrdersNextUptoSaid : Prop := ordersNextUptoRow.holds Try.pinned (OpenSpec.upto ordersNextSpec)

/-- 'drydocklaw12.OrdersUses', WHERE WHAT IT READS IS OF BULK AT MOST 1048576: true; the input reads as it did. -/
def ordersUsesUptoRow : OpenClaim := { program := "ytgmagldbfajedaa", sum := "da56e2dcb16a6d6f952489db2254c7fda354699eccc816e01ef8d8158c4eaa1c", func := "drydock/drydocklaw12.OrdersUses", spec := "ordersUses", unfollowed := true, recurses := true, apart := false, narrowed := true }
def OrdersUsesUptoSaid : Prop := ordersUsesUptoRow.holds Try.pinned (OpenSpec.upto ordersUsesSpec)

/-- 'drydocklaw12.OrdersWhole', WHERE WHAT IT READS IS OF BULK AT MOST 1048576: true; the input reads as it did. -/
def ordersWholeUptoRow : OpenClaim := { program := "ytgmagldbfajedaa", sum := "da56e2dcb16a6d6f952489db2254c7fda354699eccc816e01ef8d8158c4eaa1c", func := "drydock/drydocklaw12.OrdersWhole", spec := "ordersWhole", unfollowed := true, recurses := true, apart := false, narrowed := true }
def OrdersWholeUptoSaid : Prop := ordersWholeUptoRow.holds Try.pinned (OpenSpec.upto ordersWholeSpec)

/-- 'drydocklaw12.OrdersTurned', WHERE WHAT IT READS IS OF BULK AT MOST 1048576: true; the input reads as it did. -/
def ordersTurnedUptoRow : OpenClaim := { program := "ytgmagldbfajedaa", sum := "da56e2dcb16a6d6f952489db2254c7fda354699eccc816e01ef8d8158c4eaa1c", func := "drydock/drydocklaw12.OrdersTurned", spec := "ordersTurned", unfollowed := true, recurses := true, apart := false, narrowed := true }
def OrdersTurnedUptoSaid : Prop := ordersTurnedUptoRow.holds Try.pinned (OpenSpec.upto ordersTurnedSpec)

/-- 'drydocklaw21.EvictsAgain', WHERE WHAT IT READS IS OF BULK AT MOST 1048576: true; the input reads as it did. -/
def evictsAgainUptoRow : OpenClaim := { program := "ytgmagldbfajedaa", sum := "da56e2dcb16a6d6f952489db2254c7fda354699eccc816e01ef8d8158c4eaa1c", func := "drydock/drydocklaw21.EvictsAgain", spec := "evictsAgain", unfollowed := true, recurses := true, apart := false, narrowed := true }
def EvictsAgainUptoSaid : Prop := evictsAgainUptoRow.holds Try.pinned (OpenSpec.upto evictsAgainSpec)

/-- 'drydocklaw22.PlansRoom', WHERE WHAT IT READS IS OF BULK AT MOST 1048576: true; the input reads as it did. -/
def plansRoomUptoRow : OpenClaim := { program := "ytgmagldbfajedaa", sum := "da56e2dcb16a6d6f952489db2254c7fda354699eccc816e01ef8d8158c4eaa1c", func := "drydock/drydocklaw22.PlansRoom", spec := "plansRoom", unfollowed := true, recurses := true, apart := false, narrowed := true }
def PlansRoomUptoSaid : Prop := plansRoomUptoRow.holds Try.pinned (OpenSpec.upto plansRoomSpec)

/-- 'drydocklaw22.PlansWhole', WHERE WHAT IT READS IS OF BULK AT MOST 1048576: true; the input reads as it did. -/
def plansWholeUptoRow : OpenClaim := { program := "ytgmagldbfajedaa", sum := "da56e2dcb16a6d6f952489db2254c7fda354699eccc816e01ef8d8158c4eaa1c", func := "drydock/drydocklaw22.PlansWhole", spec := "plansWhole", unfollowed := true, recurses := true, apart := false, narrowed := true }
def PlansWholeUptoSaid : Prop := plansWholeUptoRow.holds Try.pinned (OpenSpec.upto plansWholeSpec)

/-- 'drydocklaw22.PlansOrder', WHERE WHAT IT READS IS OF BULK AT MOST 1048576: true; the input reads as it did. -/
def plansOrderUptoRow : OpenClaim := { program := "ytgmagldbfajedaa", sum := "da56e2dcb16a6d6f952489db2254c7fda354699eccc816e01ef8d8158c4eaa1c", func := "drydock/drydocklaw22.PlansOrder", spec := "plansOrder", unfollowed := true, recurses := true, apart := false, narrowed := true }
def PlansOrderUptoSaid : Prop := plansOrderUptoRow.holds Try.pinned (OpenSpec.upto plansOrderSpec)

/-- 'drydocklaw22.PlansStore', WHERE WHAT IT READS IS OF BULK AT MOST 1048576: true; the input reads as it did. -/
def plansStoreUptoRow : OpenClaim := { program := "ytgmagldbfajedaa", sum := "da56e2dcb16a6d6f952489db2254c7fda354699eccc816e01ef8d8158c4eaa1c", func := "drydock/drydocklaw22.PlansStore", spec := "plansStore", unfollowed := true, recurses := true, apart := false, narrowed := true }
def PlansStoreUptoSaid : Prop := plansStoreUptoRow.holds Try.pinned (OpenSpec.upto plansStoreSpec)

/-- 'drydocklaw23.CheckersBegin', WHERE WHAT IT READS IS OF BULK AT MOST 1048576: true; the input reads as it did. -/
def checkersBeginUptoRow : OpenClaim := { program := "ytgmagldbfajedaa", sum := "da56e2dcb16a6d6f952489db2254c7fda354699eccc816e01ef8d8158c4eaa1c", func := "drydock/drydocklaw23.CheckersBegin", spec := "checkersBegin", unfollowed := true, recurses := true, apart := false, narrowed := true }
def CheckersBeginUptoSaid : Prop := checkersBeginUptoRow.holds Try.pinned (OpenSpec.upto checkersBeginSpec)

/-- 'drydocklaw23.CheckersPlans', WHERE WHAT IT READS IS OF BULK AT MOST 1048576: true; the input reads as it did. -/
def checkersPlansUptoRow : OpenClaim := { program := "ytgmagldbfajedaa", sum := "da56e2dcb16a6d6f952489db2254c7fda354699eccc816e01ef8d8158c4eaa1c", func := "drydock/drydocklaw23.CheckersPlans", spec := "checkersPlans", unfollowed := true, recurses := true, apart := false, narrowed := true }
def CheckersPlansUptoSaid : Prop := checkersPlansUptoRow.holds Try.pinned (OpenSpec.upto checkersPlansSpec)

end Rows
end Go.Proofs.Ytgmagldbfajedaa
