/- WALKS of the law TlogNobody. No statement of the seed is proved here. -/
import Derived.Test.YtgmdgidjgddnaaaGreatDoorNob
import Derived.Test.YtgmdgidjgddnaaaGreatDoorPair
import Derived.Test.YtgmdgidjgddnaaaGreatDoorWhole
namespace Go.Proofs.YtgmdgidjgddnaaaGreatDoor
open Go.RowKit
set_option maxRecDepth 100000

/-- A log that no call made: nil, or one in which nothing was found. -/
def NoLog (w : World) (v : Value) : Prop := v = .pointer Option.none ∨ ∃ g, v = .pointer (some ⟨g, 0, Option.none⟩) ∧ w.cell? ⟨g, 0, Option.none⟩ = some (.pointer Option.none)
theorem NoLog.below {w w1 : World} {v : Value} (h : NoLog w v) (hb : Below w.heap.size w w1) : NoLog w1 v := by
  rcases h with h | ⟨g, h, hc⟩
  · exact .inl h
  · exact .inr ⟨g, h, cell_below hb hc⟩
theorem nolog_none (v : Value) (w : World) (h : NoLog w v) : Calls Tryz.prog 24 #[v] w fun e w' => e = .returned (.bool true) ∧ w = w' := by
  rcases h with rfl | ⟨g, rfl, hc⟩
  · go_enter Tryz.func24, Tryz.ntmps24
    go_wp2
    go_ret
    exact ⟨rfl, rfl⟩
  · go_enter Tryz.func24, Tryz.ntmps24
    go_wp2
    go_ret
    exact ⟨rfl, rfl⟩
def zeroCP : Array Value := #[.string ⟨#[]⟩, .int .i64 0, .int .u8 0, .int .u8 0, .int .u8 0, .int .u8 0, .int .u8 0, .int .u8 0, .int .u8 0, .int .u8 0, .int .u8 0, .int .u8 0, .int .u8 0, .int .u8 0, .int .u8 0, .int .u8 0, .int .u8 0, .int .u8 0, .int .u8 0, .int .u8 0, .int .u8 0, .int .u8 0, .int .u8 0, .int .u8 0, .int .u8 0, .int .u8 0, .int .u8 0, .int .u8 0, .int .u8 0, .int .u8 0, .int .u8 0, .int .u8 0, .int .u8 0, .int .u8 0]
theorem nolog_integrate (v : Value)  (w : World) (h : NoLog w v) : Calls Tryz.prog 6 #[v] w fun e w' => e = .returned (.tuple #[.int .i64 0, .int .i64 1]) ∧ Below w.heap.size w w' := by
  have bb := fun (o1 o2 : Obj) => below_then (below_alloc1 w o1) (below_alloc1 (w.alloc o1) o2)
  have b1 := fun (o1 : Obj) => below_alloc1 w o1
  have b0 := Below.refl w.heap.size w
  go_enter Tryz.func6, Tryz.ntmps6
  go_wp2_with (go_at_call 24; refine (nolog_none _ _ (by first | exact h | exact h.below (below_alloc1 _ _) | exact h.below (below_then (below_alloc1 _ _) (below_alloc1 _ _)))).mono ?_; rintro e w' ⟨rfl, rfl⟩)
  go_ret2
  exact ⟨rfl, by first | exact b0 | exact b1 _ | exact bb _ _⟩
theorem info_cp : (Tryz.prog.info? 35).map (·.size) = some zeroCP.size := by kernel_rfl
theorem zeroCP_one : zeroCP.all (·.oneCell') = true := by kernel_rfl
theorem nolog_publish (v : Value) (w : World) (h : NoLog w v) : Calls Tryz.prog 7 #[v] w fun e w' => e = .returned (.tuple #[.agg zeroCP, .int .i64 1]) ∧ Below w.heap.size w w' := by
  have b1 := below_alloc1 w (.cells zeroCP 35)
  have hn := heap_alloc_new w (.cells zeroCP 35)
  have hst := run_storeAt_new (P := Tryz.prog) w 35 zeroCP zeroCP info_cp rfl zeroCP_one
  go_enter Tryz.func7, Tryz.ntmps7
  go_wp2_with (first
    | (go_at_call 24; refine (nolog_none _ _ (h.below b1)).mono ?_; rintro e w' ⟨rfl, rfl⟩)
    | (refine wpList_store_run rfl 35 _ _ rfl _ _ rfl rfl _ hst ?_))
  refine bodyPost_ret (results_cell_tmp Tryz.results7 _ _ w.heap.size 35 zeroCP (0, 0) _ rfl hn Tryz.underlying35 rfl info_cp) rfl ⟨rfl, b1⟩
theorem nolog_checkpoint (v : Value) (w : World) (h : NoLog w v) : Calls Tryz.prog 8 #[v] w fun e w' => e = .returned (.tuple #[.agg zeroCP, .int .i64 1]) ∧ Below w.heap.size w w' := by
  have b1 := below_alloc1 w (.cells zeroCP 35)
  have hn := heap_alloc_new w (.cells zeroCP 35)
  have hst := run_storeAt_new (P := Tryz.prog) w 35 zeroCP zeroCP info_cp rfl zeroCP_one
  go_enter Tryz.func8, Tryz.ntmps8
  go_wp2_with (first
    | (go_at_call 24; refine (nolog_none _ _ (h.below b1)).mono ?_; rintro e w' ⟨rfl, rfl⟩)
    | (refine wpList_store_run rfl 35 _ _ rfl _ _ rfl rfl _ hst ?_))
  refine bodyPost_ret (results_cell_tmp Tryz.results8 _ _ w.heap.size 35 zeroCP (0, 0) _ rfl hn Tryz.underlying35 rfl info_cp) rfl ⟨rfl, b1⟩
theorem nolog_size (v : Value)  (w : World) (h : NoLog w v) : Calls Tryz.prog 9 #[v] w fun e w' => e = .returned (.tuple #[.int .i64 0, .int .i64 0]) ∧ Below w.heap.size w w' := by
  have bb := fun (o1 o2 : Obj) => below_then (below_alloc1 w o1) (below_alloc1 (w.alloc o1) o2)
  have b1 := fun (o1 : Obj) => below_alloc1 w o1
  have b0 := Below.refl w.heap.size w
  go_enter Tryz.func9, Tryz.ntmps9
  go_wp2_with (go_at_call 24; refine (nolog_none _ _ (by first | exact h | exact h.below (below_alloc1 _ _) | exact h.below (below_then (below_alloc1 _ _) (below_alloc1 _ _)))).mono ?_; rintro e w' ⟨rfl, rfl⟩)
  go_ret2
  exact ⟨rfl, by first | exact b0 | exact b1 _ | exact bb _ _⟩
theorem nolog_leaf (v : Value) (i : Int) (w : World) (h : NoLog w v) : Calls Tryz.prog 10 #[v, .int .i64 i] w fun e w' => e = .returned (.tuple #[.slice Option.none 0 0, .int .i64 1]) ∧ Below w.heap.size w w' := by
  have bb := fun (o1 o2 : Obj) => below_then (below_alloc1 w o1) (below_alloc1 (w.alloc o1) o2)
  have b1 := fun (o1 : Obj) => below_alloc1 w o1
  have b0 := Below.refl w.heap.size w
  go_enter Tryz.func10, Tryz.ntmps10
  go_wp2_with (go_at_call 24; refine (nolog_none _ _ (by first | exact h | exact h.below (below_alloc1 _ _) | exact h.below (below_then (below_alloc1 _ _) (below_alloc1 _ _)))).mono ?_; rintro e w' ⟨rfl, rfl⟩)
  go_ret2
  exact ⟨rfl, by first | exact b0 | exact b1 _ | exact bb _ _⟩
theorem nolog_where (v : Value) (x : Value) (w : World) (h : NoLog w v) : Calls Tryz.prog 11 #[v, x] w fun e w' => e = .returned (.tuple #[.int .i64 0, .bool false]) ∧ Below w.heap.size w w' := by
  have bb := fun (o1 o2 : Obj) => below_then (below_alloc1 w o1) (below_alloc1 (w.alloc o1) o2)
  have b1 := fun (o1 : Obj) => below_alloc1 w o1
  have b0 := Below.refl w.heap.size w
  go_enter Tryz.func11, Tryz.ntmps11
  go_wp2_with (go_at_call 24; refine (nolog_none _ _ (by first | exact h | exact h.below (below_alloc1 _ _) | exact h.below (below_then (below_alloc1 _ _) (below_alloc1 _ _)))).mono ?_; rintro e w' ⟨rfl, rfl⟩)
  go_ret2
  exact ⟨rfl, by first | exact b0 | exact b1 _ | exact bb _ _⟩
theorem nolog_inclusion (v : Value) (i n : Int) (w : World) (h : NoLog w v) : Calls Tryz.prog 12 #[v, .int .i64 i, .int .i64 n] w fun e w' => e = .returned (.tuple #[.slice Option.none 0 0, .int .i64 1]) ∧ Below w.heap.size w w' := by
  have bb := fun (o1 o2 : Obj) => below_then (below_alloc1 w o1) (below_alloc1 (w.alloc o1) o2)
  have b1 := fun (o1 : Obj) => below_alloc1 w o1
  have b0 := Below.refl w.heap.size w
  go_enter Tryz.func12, Tryz.ntmps12
  go_wp2_with (go_at_call 24; refine (nolog_none _ _ (by first | exact h | exact h.below (below_alloc1 _ _) | exact h.below (below_then (below_alloc1 _ _) (below_alloc1 _ _)))).mono ?_; rintro e w' ⟨rfl, rfl⟩)
  go_ret2
  exact ⟨rfl, by first | exact b0 | exact b1 _ | exact bb _ _⟩
theorem nolog_consistency (v : Value) (i n : Int) (w : World) (h : NoLog w v) : Calls Tryz.prog 13 #[v, .int .i64 i, .int .i64 n] w fun e w' => e = .returned (.tuple #[.slice Option.none 0 0, .int .i64 1]) ∧ Below w.heap.size w w' := by
  have bb := fun (o1 o2 : Obj) => below_then (below_alloc1 w o1) (below_alloc1 (w.alloc o1) o2)
  have b1 := fun (o1 : Obj) => below_alloc1 w o1
  have b0 := Below.refl w.heap.size w
  go_enter Tryz.func13, Tryz.ntmps13
  go_wp2_with (go_at_call 24; refine (nolog_none _ _ (by first | exact h | exact h.below (below_alloc1 _ _) | exact h.below (below_then (below_alloc1 _ _) (below_alloc1 _ _)))).mono ?_; rintro e w' ⟨rfl, rfl⟩)
  go_ret2
  exact ⟨rfl, by first | exact b0 | exact b1 _ | exact bb _ _⟩
theorem nolog_tile (v : Value) (ts : Array Value) (w : World) (h : NoLog w v) : Calls Tryz.prog 14 #[v, .agg ts] w fun e w' => e = .returned (.tuple #[.slice Option.none 0 0, .int .i64 1]) ∧ Below w.heap.size w w' := by
  have bb := fun (o1 o2 : Obj) => below_then (below_alloc1 w o1) (below_alloc1 (w.alloc o1) o2)
  have b1 := fun (o1 : Obj) => below_alloc1 w o1
  have b0 := Below.refl w.heap.size w
  go_enter Tryz.func14, Tryz.ntmps14
  go_wp2_with (go_at_call 24; refine (nolog_none _ _ (by first | exact h | exact h.below (below_alloc1 _ _) | exact h.below (below_then (below_alloc1 _ _) (below_alloc1 _ _)))).mono ?_; rintro e w' ⟨rfl, rfl⟩)
  go_ret2
  exact ⟨rfl, by first | exact b0 | exact b1 _ | exact bb _ _⟩
theorem nolog_add (v : Value) (x : Value) (w : World) (h : NoLog w v) : Calls Tryz.prog 15 #[v, x] w fun e w' => e = .returned (.int .i64 1) ∧ Below w.heap.size w w' := by
  have bb := fun (o1 o2 : Obj) => below_then (below_alloc1 w o1) (below_alloc1 (w.alloc o1) o2)
  have b1 := fun (o1 : Obj) => below_alloc1 w o1
  have b0 := Below.refl w.heap.size w
  go_enter Tryz.func15, Tryz.ntmps15
  go_wp2_with (go_at_call 24; refine (nolog_none _ _ (by first | exact h | exact h.below (below_alloc1 _ _) | exact h.below (below_then (below_alloc1 _ _) (below_alloc1 _ _)))).mono ?_; rintro e w' ⟨rfl, rfl⟩)
  go_ret
  exact ⟨rfl, by first | exact b0 | exact b1 _ | exact bb _ _⟩
end Go.Proofs.YtgmdgidjgddnaaaGreatDoor
