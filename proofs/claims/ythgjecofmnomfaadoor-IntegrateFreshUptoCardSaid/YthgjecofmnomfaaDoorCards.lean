/-
  DERIVED. GIVEN WITH THE SEED: THE CARDS: each row of YthgjecofmnomfaaDoorRows.lean that lists a variable, with what it lists TIED to the program's text (the seventh form; the later family's looks); each row that meets fmt, with fmt's text TOLD by the authors' own Lean function (tested against real Go, not proved from fmt's source: count such statements apart). THE CARD IS WHAT COUNTS. Prove the row's statement (the work); the ties are given (YthgjecofmnomfaaDoorTie.lean); close each card by the builder's one call (the guide's Derived/Test/ToyasCard.lean, 'card_holds'). Laid BY PROGRAM, IN A SANDBOX (cutbox-door.mjs). By AI agents, Wed Nov 11 2026. No macro, syntax, notation, axiom, sorry.
-/
import Derived.Test.YthgjecofmnomfaaDoorRows
import GoSem.ClaimSeven
namespace Go.Proofs.YthgjecofmnomfaaDoor
namespace Rows

/-- THE TIED CARD OF 'coppicelaw11.FrameSums'. -/
def frameSumsCard : Claim7 := { stood := { row := frameSumsRow, standIns := [], harness := (true, "29fbcbd5af6e0437ec142f56c768c1ede0605219391464fae4ea2a6d5b8254f0"), looks := false }, kinds := [], alts := [], laidByText := true, laidKinds := [.data], laidTests := true, laidLooks := .later }
def FrameSumsCardSaid : Prop := Claim7.holds Tryd.pinned (.plain (OpenSpec.ofChange frameSumsSpec)) frameSumsCard

/-- THE TIED CARD OF 'coppicelaw11.FrameReads'. -/
def frameReadsCard : Claim7 := { stood := { row := frameReadsRow, standIns := [], harness := (true, "29fbcbd5af6e0437ec142f56c768c1ede0605219391464fae4ea2a6d5b8254f0"), looks := false }, kinds := [], alts := [], laidByText := true, laidKinds := [.data], laidTests := true, laidLooks := .later }
def FrameReadsCardSaid : Prop := Claim7.holds Tryd.pinned (.plain (OpenSpec.ofChange frameReadsSpec)) frameReadsCard

/-- THE TIED CARD OF 'coppicelaw11.FramePuts'. -/
def framePutsCard : Claim7 := { stood := { row := framePutsRow, standIns := [], harness := (true, "29fbcbd5af6e0437ec142f56c768c1ede0605219391464fae4ea2a6d5b8254f0"), looks := false }, kinds := [], alts := [], laidByText := true, laidKinds := [.data], laidTests := true, laidLooks := .later }
def FramePutsCardSaid : Prop := Claim7.holds Tryd.pinned (.plain (OpenSpec.ofChange framePutsSpec)) framePutsCard

/-- THE TIED CARD OF 'coppicelaw11.FrameAlls'. -/
def frameAllsCard : Claim7 := { stood := { row := frameAllsRow, standIns := [], harness := (true, "29fbcbd5af6e0437ec142f56c768c1ede0605219391464fae4ea2a6d5b8254f0"), looks := false }, kinds := [], alts := [], laidByText := true, laidKinds := [.data], laidTests := true, laidLooks := .later }
def FrameAllsCardSaid : Prop := Claim7.holds Tryd.pinned (.plain (OpenSpec.ofChange frameAllsSpec)) frameAllsCard

/-- THE TIED CARD OF 'coppicelaw11.FrameTurned'. -/
def frameTurnedCard : Claim7 := { stood := { row := frameTurnedRow, standIns := [], harness := (true, "29fbcbd5af6e0437ec142f56c768c1ede0605219391464fae4ea2a6d5b8254f0"), looks := false }, kinds := [], alts := [], laidByText := true, laidKinds := [.data], laidTests := true, laidLooks := .later }
def FrameTurnedCardSaid : Prop := Claim7.holds Tryd.pinned (.plain (OpenSpec.ofChange frameTurnedSpec)) frameTurnedCard

/-- THE TIED CARD OF 'coppicelaw11.FrameBegins'. -/
def frameBeginsCard : Claim7 := { stood := { row := frameBeginsRow, standIns := [], harness := (true, "29fbcbd5af6e0437ec142f56c768c1ede0605219391464fae4ea2a6d5b8254f0"), looks := false }, kinds := [], alts := [], laidByText := true, laidKinds := [.data], laidTests := true, laidLooks := .later }
def FrameBeginsCardSaid : Prop := Claim7.holds Tryd.pinned (.plain (OpenSpec.ofChange frameBeginsSpec)) frameBeginsCard

/-- THE TIED CARD OF 'coppicelaw17.IntegrateFresh'. -/
def integrateFreshCard : Claim7 := { stood := { row := integrateFreshRow, standIns := [], harness := (true, "29fbcbd5af6e0437ec142f56c768c1ede0605219391464fae4ea2a6d5b8254f0"), looks := false }, kinds := [], alts := [], laidByText := true, laidKinds := [.data], laidTests := true, laidLooks := .later }
def IntegrateFreshCardSaid : Prop := Claim7.holds Tryd.pinned (.plain (OpenSpec.ofChange integrateFreshSpec)) integrateFreshCard

/-- THE SECOND FORM's CARD OF 'coppicelaw11.FrameSums'. -/
def frameSumsUptoCard : Claim7 := { stood := { row := frameSumsUptoRow, standIns := [], harness := (true, "29fbcbd5af6e0437ec142f56c768c1ede0605219391464fae4ea2a6d5b8254f0"), looks := false }, kinds := [], alts := [], laidByText := true, laidKinds := [.data], laidTests := true, laidLooks := .later }
def FrameSumsUptoCardSaid : Prop := Claim7.holds Tryd.pinned (.plain (OpenSpec.upto frameSumsSpec)) frameSumsUptoCard

/-- THE SECOND FORM's CARD OF 'coppicelaw11.FrameReads'. -/
def frameReadsUptoCard : Claim7 := { stood := { row := frameReadsUptoRow, standIns := [], harness := (true, "29fbcbd5af6e0437ec142f56c768c1ede0605219391464fae4ea2a6d5b8254f0"), looks := false }, kinds := [], alts := [], laidByText := true, laidKinds := [.data], laidTests := true, laidLooks := .later }
def FrameReadsUptoCardSaid : Prop := Claim7.holds Tryd.pinned (.plain (OpenSpec.upto frameReadsSpec)) frameReadsUptoCard

/-- THE SECOND FORM's CARD OF 'coppicelaw11.FramePuts'. -/
def framePutsUptoCard : Claim7 := { stood := { row := framePutsUptoRow, standIns := [], harness := (true, "29fbcbd5af6e0437ec142f56c768c1ede0605219391464fae4ea2a6d5b8254f0"), looks := false }, kinds := [], alts := [], laidByText := true, laidKinds := [.data], laidTests := true, laidLooks := .later }
def FramePutsUptoCardSaid : Prop := Claim7.holds Tryd.pinned (.plain (OpenSpec.upto framePutsSpec)) framePutsUptoCard

/-- THE SECOND FORM's CARD OF 'coppicelaw11.FrameAlls'. -/
def frameAllsUptoCard : Claim7 := { stood := { row := frameAllsUptoRow, standIns := [], harness := (true, "29fbcbd5af6e0437ec142f56c768c1ede0605219391464fae4ea2a6d5b8254f0"), looks := false }, kinds := [], alts := [], laidByText := true, laidKinds := [.data], laidTests := true, laidLooks := .later }
def FrameAllsUptoCardSaid : Prop := Claim7.holds Tryd.pinned (.plain (OpenSpec.upto frameAllsSpec)) frameAllsUptoCard

/-- THE SECOND FORM's CARD OF 'coppicelaw11.FrameTurned'. -/
def frameTurnedUptoCard : Claim7 := { stood := { row := frameTurnedUptoRow, standIns := [], harness := (true, "29fbcbd5af6e0437ec142f56c768c1ede0605219391464fae4ea2a6d5b8254f0"), looks := false }, kinds := [], alts := [], laidByText := true, laidKinds := [.data], laidTests := true, laidLooks := .later }
def FrameTurnedUptoCardSaid : Prop := Claim7.holds Tryd.pinned (.plain (OpenSpec.upto frameTurnedSpec)) frameTurnedUptoCard

/-- THE SECOND FORM's CARD OF 'coppicelaw11.FrameBegins'. -/
def frameBeginsUptoCard : Claim7 := { stood := { row := frameBeginsUptoRow, standIns := [], harness := (true, "29fbcbd5af6e0437ec142f56c768c1ede0605219391464fae4ea2a6d5b8254f0"), looks := false }, kinds := [], alts := [], laidByText := true, laidKinds := [.data], laidTests := true, laidLooks := .later }
def FrameBeginsUptoCardSaid : Prop := Claim7.holds Tryd.pinned (.plain (OpenSpec.upto frameBeginsSpec)) frameBeginsUptoCard

/-- THE SECOND FORM's CARD OF 'coppicelaw17.IntegrateFresh'. -/
def integrateFreshUptoCard : Claim7 := { stood := { row := integrateFreshUptoRow, standIns := [], harness := (true, "29fbcbd5af6e0437ec142f56c768c1ede0605219391464fae4ea2a6d5b8254f0"), looks := false }, kinds := [], alts := [], laidByText := true, laidKinds := [.data], laidTests := true, laidLooks := .later }
def IntegrateFreshUptoCardSaid : Prop := Claim7.holds Tryd.pinned (.plain (OpenSpec.upto integrateFreshSpec)) integrateFreshUptoCard
end Rows
end Go.Proofs.YthgjecofmnomfaaDoor
