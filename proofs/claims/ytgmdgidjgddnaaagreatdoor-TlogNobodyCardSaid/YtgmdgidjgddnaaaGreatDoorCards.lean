/-
  DERIVED. GIVEN WITH THE SEED: THE CARDS: each row of YtgmdgidjgddnaaaGreatDoorRows.lean that lists a variable, with what it lists TIED to the program's text (the seventh form; the later family's looks); each row that meets fmt, with fmt's text TOLD by the authors' own Lean function (tested against real Go, not proved from fmt's source: count such statements apart). THE CARD IS WHAT COUNTS. Prove the row's statement (the work); the ties are given (YtgmdgidjgddnaaaGreatDoorTie.lean); close each card by the builder's one call (the guide's Derived/Test/ToyasCard.lean, 'card_holds'). Laid BY PROGRAM, IN A SANDBOX (cutbox-door.mjs). By AI agents, Wed Nov 11 2026. No macro, syntax, notation, axiom, sorry.
-/
import Derived.Test.YtgmdgidjgddnaaaGreatDoorRows
import GoSem.ClaimSeven
namespace Go.Proofs.YtgmdgidjgddnaaaGreatDoor
namespace Rows

/-- THE TIED CARD OF 'coppicelaw26.TlogNobody'. -/
def tlogNobodyCard : Claim7 := { stood := { row := tlogNobodyRow, standIns := [], harness := (true, "d4f5d312cc648dfe0e078e1166b457a1d3bdc72fcdfea8d240070e2747c66e36"), looks := true }, kinds := [], alts := [], laidByText := true, laidKinds := [.data, .data, .data, .data, .data, .data, .pinned], laidTests := true, laidLooks := .later }
def TlogNobodyCardSaid : Prop := Claim7.holds Tryz.pinned (.plain (OpenSpec.ofChange tlogNobodySpec)) tlogNobodyCard

/-- THE TIED CARD OF 'coppicelaw25.RecoveryNobody'. -/
def recoveryNobodyCard : Claim7 := { stood := { row := recoveryNobodyRow, standIns := [], harness := (true, "d4f5d312cc648dfe0e078e1166b457a1d3bdc72fcdfea8d240070e2747c66e36"), looks := true }, kinds := [], alts := [], laidByText := true, laidKinds := [.data, .data, .data, .data, .sentinel, .sentinel, .data, .data, .pinned], laidTests := true, laidLooks := .later }
def RecoveryNobodyCardSaid : Prop := Claim7.holds Tryz.pinned (.plain (OpenSpec.ofChange recoveryNobodySpec)) recoveryNobodyCard

/-- THE TIED CARD OF 'coppicelaw26.TlogValid'. -/
def tlogValidCard : Claim7 := { stood := { row := tlogValidRow, standIns := [], harness := (true, "d4f5d312cc648dfe0e078e1166b457a1d3bdc72fcdfea8d240070e2747c66e36"), looks := true }, kinds := [], alts := [], laidByText := true, laidKinds := [.data, .data, .data, .data, .sentinel, .sentinel, .data, .data, .pinned], laidTests := true, laidLooks := .later }
def TlogValidCardSaid : Prop := Claim7.holds Tryz.pinned (.plain (OpenSpec.ofChange tlogValidSpec)) tlogValidCard

/-- THE SECOND FORM's CARD OF 'coppicelaw26.TlogNobody'. -/
def tlogNobodyUptoCard : Claim7 := { stood := { row := tlogNobodyUptoRow, standIns := [], harness := (true, "d4f5d312cc648dfe0e078e1166b457a1d3bdc72fcdfea8d240070e2747c66e36"), looks := true }, kinds := [], alts := [], laidByText := true, laidKinds := [.data, .data, .data, .data, .data, .data, .pinned], laidTests := true, laidLooks := .later }
def TlogNobodyUptoCardSaid : Prop := Claim7.holds Tryz.pinned (.plain (OpenSpec.upto tlogNobodySpec)) tlogNobodyUptoCard

/-- THE SECOND FORM's CARD OF 'coppicelaw25.RecoveryNobody'. -/
def recoveryNobodyUptoCard : Claim7 := { stood := { row := recoveryNobodyUptoRow, standIns := [], harness := (true, "d4f5d312cc648dfe0e078e1166b457a1d3bdc72fcdfea8d240070e2747c66e36"), looks := true }, kinds := [], alts := [], laidByText := true, laidKinds := [.data, .data, .data, .data, .sentinel, .sentinel, .data, .data, .pinned], laidTests := true, laidLooks := .later }
def RecoveryNobodyUptoCardSaid : Prop := Claim7.holds Tryz.pinned (.plain (OpenSpec.upto recoveryNobodySpec)) recoveryNobodyUptoCard

/-- THE SECOND FORM's CARD OF 'coppicelaw26.TlogValid'. -/
def tlogValidUptoCard : Claim7 := { stood := { row := tlogValidUptoRow, standIns := [], harness := (true, "d4f5d312cc648dfe0e078e1166b457a1d3bdc72fcdfea8d240070e2747c66e36"), looks := true }, kinds := [], alts := [], laidByText := true, laidKinds := [.data, .data, .data, .data, .sentinel, .sentinel, .data, .data, .pinned], laidTests := true, laidLooks := .later }
def TlogValidUptoCardSaid : Prop := Claim7.holds Tryz.pinned (.plain (OpenSpec.upto tlogValidSpec)) tlogValidUptoCard
end Rows
end Go.Proofs.YtgmdgidjgddnaaaGreatDoor
