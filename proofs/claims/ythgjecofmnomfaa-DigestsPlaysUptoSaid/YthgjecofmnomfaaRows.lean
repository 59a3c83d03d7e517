/-
  No cell of these rows narrows 'for every input' (looked for: loops, veiled, ifaces, maps, wideKeys, modest, calm, conditions, laid).
  DERIVED. THE GIVEN ROWS OF THIS SEAT. 5 by the template 'for every input the law returns true; each argument reads behind the call as it read before'; 0 by the template 'total and deterministic' (their statements: YthgjecofmnomfaaTotals.lean).
  GIVEN WITH THE SEED: the statements are not yours to turn. If you find one false, say at which input.
  Laid BY PROGRAM, IN A SANDBOX (cutbox-rows.mjs): the forced cells as the released guide's own fill.sh prints them over the translation a8844859fa058b3b… (all of the seat's roots in one cut). By AI agents, Wed Nov 11 2026. No macro, syntax, notation, axiom, sorry.
-/
import Derived.Test.YthgjecofmnomfaaChecked
import GoSem.Claim
import GoSem.ClaimJoined
import GoSem.ClaimMapViews
import Derived.JoinedTies
import Derived.KernelRfl
namespace Go.Proofs.Ythgjecofmnomfaa
/- THE CELL 'sum', in the pinned program and in every row, IS THE sha256 OF THE DUMP (.gsa) THAT YthgjecofmnomfaaProg.lean LOADS. Nothing in Lean hashes anything: it is a label: what it is worth is what the hold of that sum in a sandbox is worth. -/
noncomputable def Try.pinned : Pinned := { name := "ythgjecofmnomfaa", sum := "a8844859fa058b3b1740915339de5c6bb3f95c04e5f8b2e7252475bdab53e209", checked := Try.checked }
namespace Rows
def none {H : Type} : Left H := { results := [], args := [] }

/-- 'coppicelaw17.IntegrateAbove': WHATEVER THE INPUT: true; the input reads as it did. -/
def integrateAboveSpec : ChangeSpec := { name := "integrateAbove", fn := fun _ => fun
  | [d1, d2, d3] => { results := [.lit (.bool true)], args := [d1, d2, d3] }
  | _ => none }
def integrateAboveRow : OpenClaim := { program := "ythgjecofmnomfaa", sum := "a8844859fa058b3b1740915339de5c6bb3f95c04e5f8b2e7252475bdab53e209", func := "coppice/coppicelaw17.IntegrateAbove", spec := "integrateAbove", apart := false }
def IntegrateAboveSaid : Prop := integrateAboveRow.holds Try.pinned (OpenSpec.ofChange integrateAboveSpec)

/-- ITS FALSE NEIGHBOUR: 'it returns false'. Refute it at one input. -/
def integrateAboveWrong : ChangeSpec := { name := "integrateAbove", fn := fun _ => fun
  | [d1, d2, d3] => { results := [.lit (.bool false)], args := [d1, d2, d3] }
  | _ => none }
def IntegrateAboveWrongFalsely : Prop := integrateAboveRow.holds Try.pinned (OpenSpec.ofChange integrateAboveWrong)

/-- 'coppicelaw16.DigestsRuns': WHATEVER THE INPUT: true; the input reads as it did. -/
def digestsRunsSpec : ChangeSpec := { name := "digestsRuns", fn := fun _ => fun
  | [d] => { results := [.lit (.bool true)], args := [d] }
  | _ => none }
def digestsRunsRow : OpenClaim := { program := "ythgjecofmnomfaa", sum := "a8844859fa058b3b1740915339de5c6bb3f95c04e5f8b2e7252475bdab53e209", func := "coppice/coppicelaw16.DigestsRuns", spec := "digestsRuns", inPlace := ["internal/bytealg.Compare"], unfollowed := true, recurses := true, apart := false }
def DigestsRunsSaid : Prop := digestsRunsRow.holds Try.pinned (OpenSpec.ofChange digestsRunsSpec)

/-- ITS FALSE NEIGHBOUR: 'it returns false'. Refute it at one input. -/
def digestsRunsWrong : ChangeSpec := { name := "digestsRuns", fn := fun _ => fun
  | [d] => { results := [.lit (.bool false)], args := [d] }
  | _ => none }
def DigestsRunsWrongFalsely : Prop := digestsRunsRow.holds Try.pinned (OpenSpec.ofChange digestsRunsWrong)

/-- 'coppicelaw16.DigestsNobody': WHATEVER THE INPUT: true; the input reads as it did. -/
def digestsNobodySpec : ChangeSpec := { name := "digestsNobody", fn := fun _ => fun
  | [d] => { results := [.lit (.bool true)], args := [d] }
  | _ => none }
def digestsNobodyRow : OpenClaim := { program := "ythgjecofmnomfaa", sum := "a8844859fa058b3b1740915339de5c6bb3f95c04e5f8b2e7252475bdab53e209", func := "coppice/coppicelaw16.DigestsNobody", spec := "digestsNobody", inPlace := ["internal/bytealg.Compare"], unfollowed := true, recurses := true, apart := false }
def DigestsNobodySaid : Prop := digestsNobodyRow.holds Try.pinned (OpenSpec.ofChange digestsNobodySpec)

/-- ITS FALSE NEIGHBOUR: 'it returns false'. Refute it at one input. -/
def digestsNobodyWrong : ChangeSpec := { name := "digestsNobody", fn := fun _ => fun
  | [d] => { results := [.lit (.bool false)], args := [d] }
  | _ => none }
def DigestsNobodyWrongFalsely : Prop := digestsNobodyRow.holds Try.pinned (OpenSpec.ofChange digestsNobodyWrong)

/-- 'coppicelaw16.DigestsPlays': WHATEVER THE INPUT: true; the input reads as it did. -/
def digestsPlaysSpec : ChangeSpec := { name := "digestsPlays", fn := fun _ => fun
  | [d1, d2] => { results := [.lit (.bool true)], args := [d1, d2] }
  | _ => none }
def digestsPlaysRow : OpenClaim := { program := "ythgjecofmnomfaa", sum := "a8844859fa058b3b1740915339de5c6bb3f95c04e5f8b2e7252475bdab53e209", func := "coppice/coppicelaw16.DigestsPlays", spec := "digestsPlays", inPlace := ["internal/bytealg.Compare"], unfollowed := true, recurses := true, apart := false }
def DigestsPlaysSaid : Prop := digestsPlaysRow.holds Try.pinned (OpenSpec.ofChange digestsPlaysSpec)

/-- ITS FALSE NEIGHBOUR: 'it returns false'. Refute it at one input. -/
def digestsPlaysWrong : ChangeSpec := { name := "digestsPlays", fn := fun _ => fun
  | [d1, d2] => { results := [.lit (.bool false)], args := [d1, d2] }
  | _ => none }
def DigestsPlaysWrongFalsely : Prop := digestsPlaysRow.holds Try.pinned (OpenSpec.ofChange digestsPlaysWrong)

/-- 'coppicelaw16.DigestsOrder': WHATEVER THE INPUT: true; the input reads as it did. -/
def digestsOrderSpec : ChangeSpec := { name := "digestsOrder", fn := fun _ => fun
  | [d1, d2] => { results := [.lit (.bool true)], args := [d1, d2] }
  | _ => none }
def digestsOrderRow : OpenClaim := { program := "ythgjecofmnomfaa", sum := "a8844859fa058b3b1740915339de5c6bb3f95c04e5f8b2e7252475bdab53e209", func := "coppice/coppicelaw16.DigestsOrder", spec := "digestsOrder", inPlace := ["internal/bytealg.Compare"], unfollowed := true, recurses := true, apart := false }
def DigestsOrderSaid : Prop := digestsOrderRow.holds Try.pinned (OpenSpec.ofChange digestsOrderSpec)

/-- ITS FALSE NEIGHBOUR: 'it returns false'. Refute it at one input. -/
def digestsOrderWrong : ChangeSpec := { name := "digestsOrder", fn := fun _ => fun
  | [d1, d2] => { results := [.lit (.bool false)], args := [d1, d2] }
  | _ => none }
def DigestsOrderWrongFalsely : Prop := digestsOrderRow.holds Try.pinned (OpenSpec.ofChange digestsOrderWrong)

/- THE SECOND FORM. 'bulk': how many values and letters a reading holds, each counted each time it is reached (what is shared counts as often as it is met; a slice's spare places count too). A statement '..UptoSaid' is the law's where the arguments, and the package variables that the reading takes, are together of bulk at most 1048576: NARROWER than '..Said'. Prove '..Said' where nothing that the law and all that it calls make is longer than what came in: it says more and counts as full. Else prove '..UptoSaid'. A law counts once. -/
mutual
def uptoBulk {H : Type} : DataW H → Nat
  | .lit (.string bytes) => bytes.length + 1
  | .lit _ => 1
  | .nil => 1
  | .ptr d => uptoBulk d + 1
  | .slice elems spare => uptoBulkAll elems + uptoBulkAll spare + 1
  | .agg parts => uptoBulkAll parts + 1
  | .iface _ d => uptoBulk d + 1
  | .map entries => uptoBulkEntries entries + 1
  | .held _ => 1
def uptoBulkAll {H : Type} : List (DataW H) → Nat
  | [] => 0
  | d :: r => uptoBulk d + uptoBulkAll r
def uptoBulkEntries {H : Type} : List (Lit × DataW H) → Nat
  | [] => 0
  | x :: r => uptoBulkEntry x + uptoBulkEntries r
def uptoBulkEntry {H : Type} : Lit × DataW H → Nat
  | (.string bytes, d) => bytes.length + uptoBulk d + 1
  | (_, d) => uptoBulk d + 1
 end
def uptoSmall : (H : Type) → List (DataW H) → Bool := fun _ ds => decide (uptoBulkAll ds ≤ 1048576)
def OpenSpec.upto (s : _root_.Go.ChangeSpec) : _root_.Go.OpenSpec := { _root_.Go.OpenSpec.ofChange s with cond := some uptoSmall }

/-- 'coppicelaw17.IntegrateAbove', WHERE WHAT IT READS IS OF BULK AT MOST 1048576: true; the input reads as it did. -/
def integrateAboveUptoRow : OpenClaim := { program := "ythgjecofmnomfaa", sum := "a8844859fa058b3b1740915339de5c6bb3f95c04e5f8b2e7252475bdab53e209", func := "coppice/coppicelaw17.IntegrateAbove", spec := "integrateAbove", apart := false, narrowed := true }
def IntegrateAboveUptoSaid : Prop := integrateAboveUptoRow.holds Try.pinned (OpenSpec.upto integrateAboveSpec)

/-- 'coppicelaw16.DigestsRuns', WHERE WHAT IT READS IS OF BULK AT MOST 1048576: true; the input reads as it did. -/
def digestsRunsUptoRow : OpenClaim := { program := "ythgjecofmnomfaa", sum := "a8844859fa058b3b1740915339de5c6bb3f95c04e5f8b2e7252475bdab53e209", func := "coppice/coppicelaw16.DigestsRuns", spec := "digestsRuns", inPlace := ["internal/bytealg.Compare"], unfollowed := true, recurses := true, apart := false, narrowed := true }
def DigestsRunsUptoSaid : Prop := digestsRunsUptoRow.holds Try.pinned (OpenSpec.upto digestsRunsSpec)

/-- 'coppicelaw16.DigestsNobody', WHERE WHAT IT READS IS OF BULK AT MOST 1048576: true; the input reads as it did. -/
def digestsNobodyUptoRow : OpenClaim := { program := "ythgjecofmnomfaa", sum := "a8844859fa058b3b1740915339de5c6bb3f95c04e5f8b2e7252475bdab53e209", func := "coppice/coppicelaw16.DigestsNobody", spec := "digestsNobody", inPlace := ["internal/bytealg.Compare"], unfollowed := true, recurses := true, apart := false, narrowed := true }
def DigestsNobodyUptoSaid : Prop := digestsNobodyUptoRow.holds Try.pinned (OpenSpec.upto digestsNobodySpec)

/-- 'coppicelaw16.DigestsPlays', WHERE WHAT IT READS IS OF BULK AT MOST 1048576: true; the input reads as it did. -/
def digestsPlaysUptoRow : OpenClaim := { program := "ythgjecofmnomfaa", sum := "a8844859fa058b3b1740915339de5c6bb3f95c04e5f8b2e7252475bdab53e209", func := "coppice/coppicelaw16.DigestsPlays", spec := "digestsPlays", inPlace := ["internal/bytealg.Compare"], unfollowed := true, recurses := true, apart := false, narrowed := true }
def DigestsPlaysUptoSaid : Prop := digestsPlaysUptoRow.holds Try.pinned (OpenSpec.upto digestsPlaysSpec)

/-- 'coppicelaw16.DigestsOrder', WHERE WHAT IT READS IS OF BULK AT MOST 1048576: true; the input reads as it did. -/
def digestsOrderUptoRow : OpenClaim := { program := "ythgjecofmnomfaa", sum := "a8844859fa058b3b1740915339de5c6bb3f95c04e5f8b2e7252475bdab53e209", func := "coppice/coppicelaw16.DigestsOrder", spec := "digestsOrder", inPlace := ["internal/bytealg.Compare"], unfollowed := true, recurses := true, apart := false, narrowed := true }
def DigestsOrderUptoSaid : Prop := digestsOrderUptoRow.holds Try.pinned (OpenSpec.upto digestsOrderSpec)

end Rows
end Go.Proofs.Ythgjecofmnomfaa
