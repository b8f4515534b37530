/-
  DERIVED. GIVEN WITH THE SEED: THE CARDS: each row of YtekejcnphmnidaaGreatDoorRows.lean that lists a variable, with what it lists TIED to the program's text (the seventh form; the later family's looks); each row that meets fmt, with fmt's text TOLD by the authors' own Lean function (tested against real Go, not proved from fmt's source: count such statements apart). THE CARD IS WHAT COUNTS. Prove the row's statement (the work); the ties are given (YtekejcnphmnidaaGreatDoorTie.lean); close each card by the builder's one call (the guide's Derived/Test/ToyasCard.lean, 'card_holds'). Laid BY PROGRAM, IN A SANDBOX (cutbox-door.mjs). By AI agents, Wed Nov 11 2026. No macro, syntax, notation, axiom, sorry.
-/
import Derived.Test.YtekejcnphmnidaaGreatDoorRows
import GoSem.ClaimSeven
namespace Go.Proofs.YtekejcnphmnidaaGreatDoor
namespace Rows

/-- THE TIED CARD OF 'drydocklaw21.EvictsPick'. -/
def evictsPickCard : Claim7 := { stood := { row := evictsPickRow, standIns := [], harness := (true, "0ddfc48829149171b4e658feef727c505e750daab091a79a6529d1dbabcc3d7c"), looks := false }, kinds := [], alts := [], laidByText := true, laidKinds := [.data, .data, .data], laidTests := true, laidLooks := .later }
def EvictsPickCardSaid : Prop := Claim7.holds Tryz.pinned (.plain (OpenSpec.ofChange evictsPickSpec)) evictsPickCard

/-- THE TIED CARD OF 'drydocklaw10.GraphsOf'. -/
def graphsOfCard : Claim7 := { stood := { row := graphsOfRow, standIns := [], harness := (true, "0ddfc48829149171b4e658feef727c505e750daab091a79a6529d1dbabcc3d7c"), looks := false }, kinds := [], alts := [], laidByText := true, laidKinds := [.data, .data, .data], laidTests := true, laidLooks := .later }
def GraphsOfCardSaid : Prop := Claim7.holds Tryz.pinned (.plain (OpenSpec.ofChange graphsOfSpec)) graphsOfCard

/-- THE TIED CARD OF 'drydocklaw20.CostsOf'. -/
def costsOfCard : Claim7 := { stood := { row := costsOfRow, standIns := [], harness := (true, "0ddfc48829149171b4e658feef727c505e750daab091a79a6529d1dbabcc3d7c"), looks := false }, kinds := [], alts := [], laidByText := true, laidKinds := [.data, .data, .data], laidTests := true, laidLooks := .later }
def CostsOfCardSaid : Prop := Claim7.holds Tryz.pinned (.plain (OpenSpec.ofChange costsOfSpec)) costsOfCard

/-- THE TIED CARD OF 'drydocklaw23.CheckersCheck'. -/
def checkersCheckCard : Claim7 := { stood := { row := checkersCheckRow, standIns := [], harness := (true, "0ddfc48829149171b4e658feef727c505e750daab091a79a6529d1dbabcc3d7c"), looks := false }, kinds := [], alts := [], laidByText := true, laidKinds := [.data, .data, .data], laidTests := true, laidLooks := .later }
def CheckersCheckCardSaid : Prop := Claim7.holds Tryz.pinned (.plain (OpenSpec.ofChange checkersCheckSpec)) checkersCheckCard

/-- THE TIED CARD OF 'drydocklaw12.OrdersOf'. -/
def ordersOfCard : Claim7 := { stood := { row := ordersOfRow, standIns := [], harness := (true, "0ddfc48829149171b4e658feef727c505e750daab091a79a6529d1dbabcc3d7c"), looks := false }, kinds := [], alts := [], laidByText := true, laidKinds := [.data, .data, .data], laidTests := true, laidLooks := .later }
def OrdersOfCardSaid : Prop := Claim7.holds Tryz.pinned (.plain (OpenSpec.ofChange ordersOfSpec)) ordersOfCard

/-- THE SECOND FORM's CARD OF 'drydocklaw21.EvictsPick'. -/
def evictsPickUptoCard : Claim7 := { stood := { row := evictsPickUptoRow, standIns := [], harness := (true, "0ddfc48829149171b4e658feef727c505e750daab091a79a6529d1dbabcc3d7c"), looks := false }, kinds := [], alts := [], laidByText := true, laidKinds := [.data, .data, .data], laidTests := true, laidLooks := .later }
def EvictsPickUptoCardSaid : Prop := Claim7.holds Tryz.pinned (.plain (OpenSpec.upto evictsPickSpec)) evictsPickUptoCard

/-- THE SECOND FORM's CARD OF 'drydocklaw10.GraphsOf'. -/
def graphsOfUptoCard : Claim7 := { stood := { row := graphsOfUptoRow, standIns := [], harness := (true, "0ddfc48829149171b4e658feef727c505e750daab091a79a6529d1dbabcc3d7c"), looks := false }, kinds := [], alts := [], laidByText := true, laidKinds := [.data, .data, .data], laidTests := true, laidLooks := .later }
def GraphsOfUptoCardSaid : Prop := Claim7.holds Tryz.pinned (.plain (OpenSpec.upto graphsOfSpec)) graphsOfUptoCard

/-- THE SECOND FORM's CARD OF 'drydocklaw20.CostsOf'. -/
def costsOfUptoCard : Claim7 := { stood := { row := costsOfUptoRow, standIns := [], harness := (true, "0ddfc48829149171b4e658feef727c505e750daab091a79a6529d1dbabcc3d7c"), looks := false }, kinds := [], alts := [], laidByText := true, laidKinds := [.data, .data, .data], laidTests := true, laidLooks := .later }
def CostsOfUptoCardSaid : Prop := Claim7.holds Tryz.pinned (.plain (OpenSpec.upto costsOfSpec)) costsOfUptoCard

/-- THE SECOND FORM's CARD OF 'drydocklaw23.CheckersCheck'. -/
def checkersCheckUptoCard : Claim7 := { stood := { row := checkersCheckUptoRow, standIns := [], harness := (true, "0ddfc48829149171b4e658feef727c505e750daab091a79a6529d1dbabcc3d7c"), looks := false }, kinds := [], alts := [], laidByText := true, laidKinds := [.data, .data, .data], laidTests := true, laidLooks := .later }
def CheckersCheckUptoCardSaid : Prop := Claim7.holds Tryz.pinned (.plain (OpenSpec.upto checkersCheckSpec)) checkersCheckUptoCard

/-- THE SECOND FORM's CARD OF 'drydocklaw12.OrdersOf'. -/
def ordersOfUptoCard : Claim7 := { stood := { row := ordersOfUptoRow, standIns := [], harness := (true, "0ddfc48829149171b4e658feef727c505e750daab091a79a6529d1dbabcc3d7c"), looks := false }, kinds := [], alts := [], laidByText := true, laidKinds := [.data, .data, .data], laidTests := true, laidLooks := .later }
def OrdersOfUptoCardSaid : Prop := Claim7.holds Tryz.pinned (.plain (OpenSpec.upto ordersOfSpec)) ordersOfUptoCard
end Rows
end Go.Proofs.YtekejcnphmnidaaGreatDoor
