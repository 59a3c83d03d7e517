/- WALKS of the law BundleNames. No statement of the seed is proved here. -/
import Derived.Test.YtjllkmkngjdjjaaDoorNames
namespace Go.Proofs.YtjllkmkngjdjjaaDoor
open Go.RowKit
set_option maxRecDepth 100000

def wordL : List UInt8 := [108, 101, 97, 102, 47]
/-- P15.1. -/
def leafName (h n : Nat) : List UInt8 := wordL ++ Lib.decDigits h ++ [47] ++ padded 6 n

theorem str_tail (l m : List UInt8) : (⟨l.toArray⟩ ++ ⟨m.toArray⟩ : ByteArray) = ⟨(l ++ m).toArray⟩ := str_cat l m _ rfl

theorem tab_below {w w1 : World} (htab : Lib.TabIs Tryd.prog w "internal/strconv.uint64pow10" .u64 Lib.pow10Tab) (hb : Below w.heap.size w w1) : Lib.TabIs Tryd.prog w1 "internal/strconv.uint64pow10" .u64 Lib.pow10Tab :=
  Lib.tabBelow_of_tabIs htab w1 hb
end Go.Proofs.YtjllkmkngjdjjaaDoor
