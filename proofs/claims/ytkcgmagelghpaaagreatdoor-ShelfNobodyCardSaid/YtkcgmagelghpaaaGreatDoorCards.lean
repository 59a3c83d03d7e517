/-
  DERIVED. GIVEN WITH THE SEED: THE CARDS: each row of YtkcgmagelghpaaaGreatDoorRows.lean that lists a variable, with what it lists TIED to the program's text (the seventh form; the later family's looks); each row that meets fmt, with fmt's text TOLD by the authors' own Lean function (tested against real Go, not proved from fmt's source: count such statements apart). THE CARD IS WHAT COUNTS. Prove the row's statement (the work); the ties are given (YtkcgmagelghpaaaGreatDoorTie.lean); close each card by the builder's one call (the guide's Derived/Test/ToyasCard.lean, 'card_holds'). Laid BY PROGRAM, IN A SANDBOX (cutbox-door.mjs). By AI agents, Wed Nov 11 2026. No macro, syntax, notation, axiom, sorry.
-/
import Derived.Test.YtkcgmagelghpaaaGreatDoorRows
import GoSem.ClaimSeven
namespace Go.Proofs.YtkcgmagelghpaaaGreatDoor
namespace Rows

/-- THE TIED CARD OF 'coppicelaw17.IntegrateNobody'. -/
def integrateNobodyCard : Claim7 := { stood := { row := integrateNobodyRow, standIns := [], harness := (true, "50fd668453253dad61e338dc8607f65e4b96efd30e9dfa7f35d1fae991625daa"), looks := true }, kinds := [], alts := [], laidByText := true, laidKinds := [.data, .data, .data, .data], laidTests := true, laidLooks := .later }
def IntegrateNobodyCardSaid : Prop := Claim7.holds Tryz.pinned (.plain (OpenSpec.ofChange integrateNobodySpec)) integrateNobodyCard

/-- THE TIED CARD OF 'coppicelaw13.JournalNobody'. -/
def journalNobodyCard : Claim7 := { stood := { row := journalNobodyRow, standIns := [], harness := (true, "50fd668453253dad61e338dc8607f65e4b96efd30e9dfa7f35d1fae991625daa"), looks := true }, kinds := [], alts := [], laidByText := true, laidKinds := [.data, .data, .data, .sentinel, .sentinel, .data], laidTests := true, laidLooks := .later }
def JournalNobodyCardSaid : Prop := Claim7.holds Tryz.pinned (.plain (OpenSpec.ofChange journalNobodySpec)) journalNobodyCard

/-- THE TIED CARD OF 'coppicelaw15.BundleNobody'. -/
def bundleNobodyCard : Claim7 := { stood := { row := bundleNobodyRow, standIns := [], harness := (true, "50fd668453253dad61e338dc8607f65e4b96efd30e9dfa7f35d1fae991625daa"), looks := true }, kinds := [], alts := [], laidByText := true, laidKinds := [.data, .data, .data, .sentinel, .sentinel], laidTests := true, laidLooks := .later }
def BundleNobodyCardSaid : Prop := Claim7.holds Tryz.pinned (.plain (OpenSpec.ofChange bundleNobodySpec)) bundleNobodyCard

/-- THE TIED CARD OF 'coppicelaw14.ShelfNobody'. -/
def shelfNobodyCard : Claim7 := { stood := { row := shelfNobodyRow, standIns := [], harness := (true, "50fd668453253dad61e338dc8607f65e4b96efd30e9dfa7f35d1fae991625daa"), looks := true }, kinds := [], alts := [], laidByText := true, laidKinds := [.data, .data, .data, .data, .sentinel, .sentinel, .pinned], laidTests := true, laidLooks := .later }
def ShelfNobodyCardSaid : Prop := Claim7.holds Tryz.pinned (.plain (OpenSpec.ofChange shelfNobodySpec)) shelfNobodyCard

/-- THE SECOND FORM's CARD OF 'coppicelaw17.IntegrateNobody'. -/
def integrateNobodyUptoCard : Claim7 := { stood := { row := integrateNobodyUptoRow, standIns := [], harness := (true, "50fd668453253dad61e338dc8607f65e4b96efd30e9dfa7f35d1fae991625daa"), looks := true }, kinds := [], alts := [], laidByText := true, laidKinds := [.data, .data, .data, .data], laidTests := true, laidLooks := .later }
def IntegrateNobodyUptoCardSaid : Prop := Claim7.holds Tryz.pinned (.plain (OpenSpec.upto integrateNobodySpec)) integrateNobodyUptoCard

/-- THE SECOND FORM's CARD OF 'coppicelaw13.JournalNobody'. -/
def journalNobodyUptoCard : Claim7 := { stood := { row := journalNobodyUptoRow, standIns := [], harness := (true, "50fd668453253dad61e338dc8607f65e4b96efd30e9dfa7f35d1fae991625daa"), looks := true }, kinds := [], alts := [], laidByText := true, laidKinds := [.data, .data, .data, .sentinel, .sentinel, .data], laidTests := true, laidLooks := .later }
def JournalNobodyUptoCardSaid : Prop := Claim7.holds Tryz.pinned (.plain (OpenSpec.upto journalNobodySpec)) journalNobodyUptoCard

/-- THE SECOND FORM's CARD OF 'coppicelaw15.BundleNobody'. -/
def bundleNobodyUptoCard : Claim7 := { stood := { row := bundleNobodyUptoRow, standIns := [], harness := (true, "50fd668453253dad61e338dc8607f65e4b96efd30e9dfa7f35d1fae991625daa"), looks := true }, kinds := [], alts := [], laidByText := true, laidKinds := [.data, .data, .data, .sentinel, .sentinel], laidTests := true, laidLooks := .later }
def BundleNobodyUptoCardSaid : Prop := Claim7.holds Tryz.pinned (.plain (OpenSpec.upto bundleNobodySpec)) bundleNobodyUptoCard

/-- THE SECOND FORM's CARD OF 'coppicelaw14.ShelfNobody'. -/
def shelfNobodyUptoCard : Claim7 := { stood := { row := shelfNobodyUptoRow, standIns := [], harness := (true, "50fd668453253dad61e338dc8607f65e4b96efd30e9dfa7f35d1fae991625daa"), looks := true }, kinds := [], alts := [], laidByText := true, laidKinds := [.data, .data, .data, .data, .sentinel, .sentinel, .pinned], laidTests := true, laidLooks := .later }
def ShelfNobodyUptoCardSaid : Prop := Claim7.holds Tryz.pinned (.plain (OpenSpec.upto shelfNobodySpec)) shelfNobodyUptoCard
end Rows
end Go.Proofs.YtkcgmagelghpaaaGreatDoor
