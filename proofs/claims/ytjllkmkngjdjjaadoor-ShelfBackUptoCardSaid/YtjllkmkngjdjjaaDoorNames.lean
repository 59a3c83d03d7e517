/- WALKS of the laws JournalNames and BundleNames. No statement of the seed is proved here. -/
import Derived.Test.YtjllkmkngjdjjaaDoorNamesA
namespace Go.Proofs.YtjllkmkngjdjjaaDoor
open Go.RowKit
set_option maxRecDepth 100000

def strLen : Value → Nat | .string s => s.size | _ => 0
def wordJ : List UInt8 := [106, 111, 117, 114, 110, 97, 108, 45]
/-- P13.1, P15.1: digits, with noughts ahead of them up to k places. -/
def padded (k n : Nat) : List UInt8 := List.replicate (k - (Lib.decDigits n).length) 48 ++ Lib.decDigits n

end Go.Proofs.YtjllkmkngjdjjaaDoor
