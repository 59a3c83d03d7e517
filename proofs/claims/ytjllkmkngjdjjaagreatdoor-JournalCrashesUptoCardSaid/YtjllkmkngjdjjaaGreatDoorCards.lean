/-
  DERIVED. GIVEN WITH THE SEED: THE CARDS: each row of YtjllkmkngjdjjaaGreatDoorRows.lean that lists a variable, with what it lists TIED to the program's text (the seventh form; the later family's looks); each row that meets fmt, with fmt's text TOLD by the authors' own Lean function (tested against real Go, not proved from fmt's source: count such statements apart). THE CARD IS WHAT COUNTS. Prove the row's statement (the work); the ties are given (YtjllkmkngjdjjaaGreatDoorTie.lean); close each card by the builder's one call (the guide's Derived/Test/ToyasCard.lean, 'card_holds'). Laid BY PROGRAM, IN A SANDBOX (cutbox-door.mjs). By AI agents, Wed Nov 11 2026. No macro, syntax, notation, axiom, sorry.
-/
import Derived.Test.YtjllkmkngjdjjaaGreatDoorRows
import GoSem.ClaimSeven
namespace Go.Proofs.YtjllkmkngjdjjaaGreatDoor
namespace Rows

/-- THE TIED CARD OF 'coppicelaw17.IntegrateTwice'. -/
def integrateTwiceCard : Claim7 := { stood := { row := integrateTwiceRow, standIns := [], harness := (true, "01b43ae05e016f0b0ec6b22025137fd280919195a28aae54ec0e6816273061f6"), looks := true }, kinds := [], alts := [], laidByText := true, laidKinds := [.data, .data, .data, .data], laidTests := true, laidLooks := .later }
def IntegrateTwiceCardSaid : Prop := Claim7.holds Tryz.pinned (.plain (OpenSpec.ofChange integrateTwiceSpec)) integrateTwiceCard

/-- THE TIED CARD OF 'coppicelaw17.IntegrateTree'. -/
def integrateTreeCard : Claim7 := { stood := { row := integrateTreeRow, standIns := [], harness := (true, "01b43ae05e016f0b0ec6b22025137fd280919195a28aae54ec0e6816273061f6"), looks := true }, kinds := [], alts := [], laidByText := true, laidKinds := [.data, .data, .data, .data], laidTests := true, laidLooks := .later }
def IntegrateTreeCardSaid : Prop := Claim7.holds Tryz.pinned (.plain (OpenSpec.ofChange integrateTreeSpec)) integrateTreeCard

/-- THE TIED CARD OF 'coppicelaw14.ShelfPower'. -/
def shelfPowerCard : Claim7 := { stood := { row := shelfPowerRow, standIns := [], harness := (true, "01b43ae05e016f0b0ec6b22025137fd280919195a28aae54ec0e6816273061f6"), looks := true }, kinds := [], alts := [], laidByText := true, laidKinds := [.data, .data, .data, .data, .sentinel, .sentinel, .pinned], laidTests := true, laidLooks := .later }
def ShelfPowerCardSaid : Prop := Claim7.holds Tryz.pinned (.plain (OpenSpec.ofChange shelfPowerSpec)) shelfPowerCard

/-- THE TIED CARD OF 'coppicelaw14.ShelfPlays'. -/
def shelfPlaysCard : Claim7 := { stood := { row := shelfPlaysRow, standIns := [], harness := (true, "01b43ae05e016f0b0ec6b22025137fd280919195a28aae54ec0e6816273061f6"), looks := true }, kinds := [], alts := [], laidByText := true, laidKinds := [.data, .data, .data, .data, .sentinel, .sentinel, .pinned], laidTests := true, laidLooks := .later }
def ShelfPlaysCardSaid : Prop := Claim7.holds Tryz.pinned (.plain (OpenSpec.ofChange shelfPlaysSpec)) shelfPlaysCard

/-- THE TIED CARD OF 'coppicelaw13.JournalPlays'. -/
def journalPlaysCard : Claim7 := { stood := { row := journalPlaysRow, standIns := [], harness := (true, "01b43ae05e016f0b0ec6b22025137fd280919195a28aae54ec0e6816273061f6"), looks := true }, kinds := [], alts := [], laidByText := true, laidKinds := [.data, .data, .data, .sentinel, .sentinel, .data], laidTests := true, laidLooks := .later }
def JournalPlaysCardSaid : Prop := Claim7.holds Tryz.pinned (.plain (OpenSpec.ofChange journalPlaysSpec)) journalPlaysCard

/-- THE TIED CARD OF 'coppicelaw13.JournalCrashes'. -/
def journalCrashesCard : Claim7 := { stood := { row := journalCrashesRow, standIns := [], harness := (true, "01b43ae05e016f0b0ec6b22025137fd280919195a28aae54ec0e6816273061f6"), looks := true }, kinds := [], alts := [], laidByText := true, laidKinds := [.data, .data, .data, .sentinel, .sentinel, .data], laidTests := true, laidLooks := .later }
def JournalCrashesCardSaid : Prop := Claim7.holds Tryz.pinned (.plain (OpenSpec.ofChange journalCrashesSpec)) journalCrashesCard

/-- THE TIED CARD OF 'coppicelaw13.JournalGoes'. -/
def journalGoesCard : Claim7 := { stood := { row := journalGoesRow, standIns := [], harness := (true, "01b43ae05e016f0b0ec6b22025137fd280919195a28aae54ec0e6816273061f6"), looks := true }, kinds := [], alts := [], laidByText := true, laidKinds := [.data, .data, .data, .sentinel, .sentinel, .data], laidTests := true, laidLooks := .later }
def JournalGoesCardSaid : Prop := Claim7.holds Tryz.pinned (.plain (OpenSpec.ofChange journalGoesSpec)) journalGoesCard

/-- THE TIED CARD OF 'coppicelaw15.BundleTrims'. -/
def bundleTrimsCard : Claim7 := { stood := { row := bundleTrimsRow, standIns := [], harness := (true, "01b43ae05e016f0b0ec6b22025137fd280919195a28aae54ec0e6816273061f6"), looks := true }, kinds := [], alts := [], laidByText := true, laidKinds := [.data, .data, .data, .sentinel, .sentinel], laidTests := true, laidLooks := .later }
def BundleTrimsCardSaid : Prop := Claim7.holds Tryz.pinned (.plain (OpenSpec.ofChange bundleTrimsSpec)) bundleTrimsCard

/-- THE TIED CARD OF 'coppicelaw15.BundlePower'. -/
def bundlePowerCard : Claim7 := { stood := { row := bundlePowerRow, standIns := [], harness := (true, "01b43ae05e016f0b0ec6b22025137fd280919195a28aae54ec0e6816273061f6"), looks := true }, kinds := [], alts := [], laidByText := true, laidKinds := [.data, .data, .data, .sentinel, .sentinel], laidTests := true, laidLooks := .later }
def BundlePowerCardSaid : Prop := Claim7.holds Tryz.pinned (.plain (OpenSpec.ofChange bundlePowerSpec)) bundlePowerCard

/-- THE SECOND FORM's CARD OF 'coppicelaw17.IntegrateTwice'. -/
def integrateTwiceUptoCard : Claim7 := { stood := { row := integrateTwiceUptoRow, standIns := [], harness := (true, "01b43ae05e016f0b0ec6b22025137fd280919195a28aae54ec0e6816273061f6"), looks := true }, kinds := [], alts := [], laidByText := true, laidKinds := [.data, .data, .data, .data], laidTests := true, laidLooks := .later }
def IntegrateTwiceUptoCardSaid : Prop := Claim7.holds Tryz.pinned (.plain (OpenSpec.upto integrateTwiceSpec)) integrateTwiceUptoCard

/-- THE SECOND FORM's CARD OF 'coppicelaw17.IntegrateTree'. -/
def integrateTreeUptoCard : Claim7 := { stood := { row := integrateTreeUptoRow, standIns := [], harness := (true, "01b43ae05e016f0b0ec6b22025137fd280919195a28aae54ec0e6816273061f6"), looks := true }, kinds := [], alts := [], laidByText := true, laidKinds := [.data, .data, .data, .data], laidTests := true, laidLooks := .later }
def IntegrateTreeUptoCardSaid : Prop := Claim7.holds Tryz.pinned (.plain (OpenSpec.upto integrateTreeSpec)) integrateTreeUptoCard

/-- THE SECOND FORM's CARD OF 'coppicelaw14.ShelfPower'. -/
def shelfPowerUptoCard : Claim7 := { stood := { row := shelfPowerUptoRow, standIns := [], harness := (true, "01b43ae05e016f0b0ec6b22025137fd280919195a28aae54ec0e6816273061f6"), looks := true }, kinds := [], alts := [], laidByText := true, laidKinds := [.data, .data, .data, .data, .sentinel, .sentinel, .pinned], laidTests := true, laidLooks := .later }
def ShelfPowerUptoCardSaid : Prop := Claim7.holds Tryz.pinned (.plain (OpenSpec.upto shelfPowerSpec)) shelfPowerUptoCard

/-- THE SECOND FORM's CARD OF 'coppicelaw14.ShelfPlays'. -/
def shelfPlaysUptoCard : Claim7 := { stood := { row := shelfPlaysUptoRow, standIns := [], harness := (true, "01b43ae05e016f0b0ec6b22025137fd280919195a28aae54ec0e6816273061f6"), looks := true }, kinds := [], alts := [], laidByText := true, laidKinds := [.data, .data, .data, .data, .sentinel, .sentinel, .pinned], laidTests := true, laidLooks := .later }
def ShelfPlaysUptoCardSaid : Prop := Claim7.holds Tryz.pinned (.plain (OpenSpec.upto shelfPlaysSpec)) shelfPlaysUptoCard

/-- THE SECOND FORM's CARD OF 'coppicelaw13.JournalPlays'. -/
def journalPlaysUptoCard : Claim7 := { stood := { row := journalPlaysUptoRow, standIns := [], harness := (true, "01b43ae05e016f0b0ec6b22025137fd280919195a28aae54ec0e6816273061f6"), looks := true }, kinds := [], alts := [], laidByText := true, laidKinds := [.data, .data, .data, .sentinel, .sentinel, .data], laidTests := true, laidLooks := .later }
def JournalPlaysUptoCardSaid : Prop := Claim7.holds Tryz.pinned (.plain (OpenSpec.upto journalPlaysSpec)) journalPlaysUptoCard

/-- THE SECOND FORM's CARD OF 'coppicelaw13.JournalCrashes'. -/
def journalCrashesUptoCard : Claim7 := { stood := { row := journalCrashesUptoRow, standIns := [], harness := (true, "01b43ae05e016f0b0ec6b22025137fd280919195a28aae54ec0e6816273061f6"), looks := true }, kinds := [], alts := [], laidByText := true, laidKinds := [.data, .data, .data, .sentinel, .sentinel, .data], laidTests := true, laidLooks := .later }
def JournalCrashesUptoCardSaid : Prop := Claim7.holds Tryz.pinned (.plain (OpenSpec.upto journalCrashesSpec)) journalCrashesUptoCard

/-- THE SECOND FORM's CARD OF 'coppicelaw13.JournalGoes'. -/
def journalGoesUptoCard : Claim7 := { stood := { row := journalGoesUptoRow, standIns := [], harness := (true, "01b43ae05e016f0b0ec6b22025137fd280919195a28aae54ec0e6816273061f6"), looks := true }, kinds := [], alts := [], laidByText := true, laidKinds := [.data, .data, .data, .sentinel, .sentinel, .data], laidTests := true, laidLooks := .later }
def JournalGoesUptoCardSaid : Prop := Claim7.holds Tryz.pinned (.plain (OpenSpec.upto journalGoesSpec)) journalGoesUptoCard

/-- THE SECOND FORM's CARD OF 'coppicelaw15.BundleTrims'. -/
def bundleTrimsUptoCard : Claim7 := { stood := { row := bundleTrimsUptoRow, standIns := [], harness := (true, "01b43ae05e016f0b0ec6b22025137fd280919195a28aae54ec0e6816273061f6"), looks := true }, kinds := [], alts := [], laidByText := true, laidKinds := [.data, .data, .data, .sentinel, .sentinel], laidTests := true, laidLooks := .later }
def BundleTrimsUptoCardSaid : Prop := Claim7.holds Tryz.pinned (.plain (OpenSpec.upto bundleTrimsSpec)) bundleTrimsUptoCard

/-- THE SECOND FORM's CARD OF 'coppicelaw15.BundlePower'. -/
def bundlePowerUptoCard : Claim7 := { stood := { row := bundlePowerUptoRow, standIns := [], harness := (true, "01b43ae05e016f0b0ec6b22025137fd280919195a28aae54ec0e6816273061f6"), looks := true }, kinds := [], alts := [], laidByText := true, laidKinds := [.data, .data, .data, .sentinel, .sentinel], laidTests := true, laidLooks := .later }
def BundlePowerUptoCardSaid : Prop := Claim7.holds Tryz.pinned (.plain (OpenSpec.upto bundlePowerSpec)) bundlePowerUptoCard
end Rows
end Go.Proofs.YtjllkmkngjdjjaaGreatDoor
