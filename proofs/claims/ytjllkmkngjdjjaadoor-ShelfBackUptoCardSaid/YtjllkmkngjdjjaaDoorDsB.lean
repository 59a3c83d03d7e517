/- WORDS: a digest stored where it is new (blocks of XDigQ; written by pick.py). No statement of the seed is proved here. -/
import Derived.Test.YtjllkmkngjdjjaaDoorDsA
import Derived.Test.YtjllkmkngjdjjaaDoorWhole
import Derived.Deep.WholeRow
namespace Go.Proofs.YtjllkmkngjdjjaaDoor
open Go.RowKit
set_option maxRecDepth 100000
theorem store_digest_new (w : World) {d : List UInt8} (hd : d.length = 32) (z : Array Value) (hz : z.size = 32) :
    (Instr.storeAt 24 (.pointer (some ⟨w.heap.size, 0, none⟩)) (.agg (u8s d).toArray)).run Tryd.prog (w.alloc (.cells z 24)) = .ok () (w.alloc (.cells (u8s d).toArray 24)) := by
  have hs : (Tryd.prog.info? 24).map (·.size) = some 32 := by kernel_rfl
  refine run_storeAt_new w 24 z _ (by rw [hs]; simp [u8s_length, hd]) (by simp [u8s_length, hd, hz]) ?_
  rw [Array.all_eq_true]
  intro i hi
  exact u8s_one d _ (by simp)
theorem range_new (w : World) (d : List UInt8) : (w.alloc (.cells (u8s d).toArray 24)).rangeAt w.heap.size 0 (u8s d) := fun j u hu => by
  rw [Nat.zero_add, cell_of_row _ w.heap.size j _ _ (0, 0) (heap_alloc_new w _)]
  simpa using hu
end Go.Proofs.YtjllkmkngjdjjaaDoor
