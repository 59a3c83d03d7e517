/-
  DERIVED. GIVEN WITH THE SEED: THE CARDS: each row of YtjllkmkngjdjjaaDoorRows.lean that lists a variable, with what it lists TIED to the program's text (the seventh form; the later family's looks); each row that meets fmt, with fmt's text TOLD by the authors' own Lean function (tested against real Go, not proved from fmt's source: count such statements apart). THE CARD IS WHAT COUNTS. Prove the row's statement (the work); the ties are given (YtjllkmkngjdjjaaDoorTie.lean); close each card by the builder's one call (the guide's Derived/Test/ToyasCard.lean, 'card_holds'). Laid BY PROGRAM, IN A SANDBOX (cutbox-door.mjs). By AI agents, Wed Nov 11 2026. No macro, syntax, notation, axiom, sorry.
-/
import Derived.Test.YtjllkmkngjdjjaaDoorRows
import GoSem.ClaimSeven
namespace Go.Proofs.YtjllkmkngjdjjaaDoor
namespace Rows

/-- THE TIED CARD OF 'coppicelaw14.ShelfStays'. -/
def shelfStaysCard : Claim7 := { stood := { row := shelfStaysRow, standIns := [], harness := (true, "29b3fab921f9cc2dca9ad4194606e855c3db8a944b8f2fff1f505ab26e19e4c2"), looks := false }, kinds := [], alts := [], laidByText := true, laidKinds := [.data, .data, .data], laidTests := true, laidLooks := .later }
def ShelfStaysCardSaid : Prop := Claim7.holds Tryd.pinned (.plain (OpenSpec.ofChange shelfStaysSpec)) shelfStaysCard

/-- THE TIED CARD OF 'coppicelaw14.ShelfBack'. -/
def shelfBackCard : Claim7 := { stood := { row := shelfBackRow, standIns := [], harness := (true, "29b3fab921f9cc2dca9ad4194606e855c3db8a944b8f2fff1f505ab26e19e4c2"), looks := false }, kinds := [], alts := [], laidByText := true, laidKinds := [.data, .data, .data], laidTests := true, laidLooks := .later }
def ShelfBackCardSaid : Prop := Claim7.holds Tryd.pinned (.plain (OpenSpec.ofChange shelfBackSpec)) shelfBackCard

/-- THE SECOND FORM's CARD OF 'coppicelaw14.ShelfStays'. -/
def shelfStaysUptoCard : Claim7 := { stood := { row := shelfStaysUptoRow, standIns := [], harness := (true, "29b3fab921f9cc2dca9ad4194606e855c3db8a944b8f2fff1f505ab26e19e4c2"), looks := false }, kinds := [], alts := [], laidByText := true, laidKinds := [.data, .data, .data], laidTests := true, laidLooks := .later }
def ShelfStaysUptoCardSaid : Prop := Claim7.holds Tryd.pinned (.plain (OpenSpec.upto shelfStaysSpec)) shelfStaysUptoCard

/-- THE SECOND FORM's CARD OF 'coppicelaw14.ShelfBack'. -/
def shelfBackUptoCard : Claim7 := { stood := { row := shelfBackUptoRow, standIns := [], harness := (true, "29b3fab921f9cc2dca9ad4194606e855c3db8a944b8f2fff1f505ab26e19e4c2"), looks := false }, kinds := [], alts := [], laidByText := true, laidKinds := [.data, .data, .data], laidTests := true, laidLooks := .later }
def ShelfBackUptoCardSaid : Prop := Claim7.holds Tryd.pinned (.plain (OpenSpec.upto shelfBackSpec)) shelfBackUptoCard
end Rows
end Go.Proofs.YtjllkmkngjdjjaaDoor
