/-
  DERIVED. GIVEN WITH THE SEED: THE CARDS: each row of YtkcgmagelghpaaaDoorRows.lean that lists a variable, with what it lists TIED to the program's text (the seventh form; the later family's looks); each row that meets fmt, with fmt's text TOLD by the authors' own Lean function (tested against real Go, not proved from fmt's source: count such statements apart). THE CARD IS WHAT COUNTS. Prove the row's statement (the work); the ties are given (YtkcgmagelghpaaaDoorTie.lean); close each card by the builder's one call (the guide's Derived/Test/ToyasCard.lean, 'card_holds'). Laid BY PROGRAM, IN A SANDBOX (cutbox-door.mjs). By AI agents, Wed Nov 11 2026. No macro, syntax, notation, axiom, sorry.
-/
import Derived.Test.YtkcgmagelghpaaaDoorRows
import GoSem.ClaimSeven
namespace Go.Proofs.YtkcgmagelghpaaaDoor
namespace Rows

/-- THE TIED CARD OF 'coppicelaw13.JournalNames'. -/
def journalNamesCard : Claim7 := { stood := { row := journalNamesRow, standIns := [], harness := (true, "a46b535b1025731cb6bb871c0a26f281b890753e748841a12d9c5c649512c5ca"), looks := false }, kinds := [], alts := [], laidByText := true, laidKinds := [.data, .data, .data], laidTests := true, laidLooks := .later }
def JournalNamesCardSaid : Prop := Claim7.holds Tryd.pinned (.plain (OpenSpec.ofChange journalNamesSpec)) journalNamesCard

/-- THE TIED CARD OF 'coppicelaw15.BundleNames'. -/
def bundleNamesCard : Claim7 := { stood := { row := bundleNamesRow, standIns := [], harness := (true, "a46b535b1025731cb6bb871c0a26f281b890753e748841a12d9c5c649512c5ca"), looks := false }, kinds := [], alts := [], laidByText := true, laidKinds := [.data, .data, .data], laidTests := true, laidLooks := .later }
def BundleNamesCardSaid : Prop := Claim7.holds Tryd.pinned (.plain (OpenSpec.ofChange bundleNamesSpec)) bundleNamesCard

/-- THE TIED CARD OF 'coppicelaw14.ShelfNames'. -/
def shelfNamesCard : Claim7 := { stood := { row := shelfNamesRow, standIns := [], harness := (true, "a46b535b1025731cb6bb871c0a26f281b890753e748841a12d9c5c649512c5ca"), looks := false }, kinds := [], alts := [], laidByText := true, laidKinds := [.data, .data, .data], laidTests := true, laidLooks := .later }
def ShelfNamesCardSaid : Prop := Claim7.holds Tryd.pinned (.plain (OpenSpec.ofChange shelfNamesSpec)) shelfNamesCard

/-- THE SECOND FORM's CARD OF 'coppicelaw13.JournalNames'. -/
def journalNamesUptoCard : Claim7 := { stood := { row := journalNamesUptoRow, standIns := [], harness := (true, "a46b535b1025731cb6bb871c0a26f281b890753e748841a12d9c5c649512c5ca"), looks := false }, kinds := [], alts := [], laidByText := true, laidKinds := [.data, .data, .data], laidTests := true, laidLooks := .later }
def JournalNamesUptoCardSaid : Prop := Claim7.holds Tryd.pinned (.plain (OpenSpec.upto journalNamesSpec)) journalNamesUptoCard

/-- THE SECOND FORM's CARD OF 'coppicelaw15.BundleNames'. -/
def bundleNamesUptoCard : Claim7 := { stood := { row := bundleNamesUptoRow, standIns := [], harness := (true, "a46b535b1025731cb6bb871c0a26f281b890753e748841a12d9c5c649512c5ca"), looks := false }, kinds := [], alts := [], laidByText := true, laidKinds := [.data, .data, .data], laidTests := true, laidLooks := .later }
def BundleNamesUptoCardSaid : Prop := Claim7.holds Tryd.pinned (.plain (OpenSpec.upto bundleNamesSpec)) bundleNamesUptoCard

/-- THE SECOND FORM's CARD OF 'coppicelaw14.ShelfNames'. -/
def shelfNamesUptoCard : Claim7 := { stood := { row := shelfNamesUptoRow, standIns := [], harness := (true, "a46b535b1025731cb6bb871c0a26f281b890753e748841a12d9c5c649512c5ca"), looks := false }, kinds := [], alts := [], laidByText := true, laidKinds := [.data, .data, .data], laidTests := true, laidLooks := .later }
def ShelfNamesUptoCardSaid : Prop := Claim7.holds Tryd.pinned (.plain (OpenSpec.upto shelfNamesSpec)) shelfNamesUptoCard
end Rows
end Go.Proofs.YtkcgmagelghpaaaDoor
