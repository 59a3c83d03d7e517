/- WALKS of the law IntegrateNobody. No statement of the seed is proved here. -/
import Derived.Test.YtkcgmagelghpaaaGreatDoorNob
import Derived.LoopN
import Derived.RangeFuncNested
import Derived.RangeFuncBound
import Derived.Shelf.Abstract
import Derived.Shelf.RegionOpen
import Derived.OwnWalkIn
import Derived.TacticsInMore
import Derived.LoopNIn
import Derived.LoopIn
namespace Go.Proofs.YtkcgmagelghpaaaGreatDoor
open Go.RowKit
set_option maxRecDepth 100000

theorem nob_iwrong (v h s l : Value) (w : World) (hd : NoDisk w v) : Calls Tryz.prog 25 #[v, h, s, l] w fun e w' => e = .returned (.int .i64 1) ∧ w = w' := by
  have K := Lib.hid (nodisk_sector v w hd)
  clear hd
  go_enter Tryz.func25, Tryz.ntmps25
  go_wp2_with (go_at_call 39; refine K.out.mono ?_; rintro e w' ⟨rfl, rfl⟩)
  go_ret
  exact ⟨rfl, rfl⟩
theorem nob_ilacks (v h s : Value) (w : World) (hd : NoDisk w v) : Calls Tryz.prog 27 #[v, h, s] w fun e w' => e = .returned (.int .i64 1) ∧ w = w' := by
  have K := Lib.hid (nodisk_sector v w hd)
  clear hd
  go_enter Tryz.func27, Tryz.ntmps27
  go_wp2_with (go_at_call 39; refine K.out.mono ?_; rintro e w' ⟨rfl, rfl⟩)
  go_ret
  exact ⟨rfl, rfl⟩
theorem nob_complete (v h s : Value) (w : World) (hd : NoDisk w v) : Calls Tryz.prog 8 #[v, h, s] w fun e w' => e = .returned (.int .i64 1) ∧ w = w' := by
  have K := Lib.hid (nob_ilacks v h s w hd)
  clear hd
  go_enter Tryz.func8, Tryz.ntmps8
  go_wp2_with (go_at_call 27; refine K.out.mono ?_; rintro e w' ⟨rfl, rfl⟩)
  go_ret
  exact ⟨rfl, rfl⟩
theorem NoDisk.below {w w1 : World} {v : Value} (h : NoDisk w v) (hb : Below w.heap.size w w1) : NoDisk w1 v := by
  rcases h with h | ⟨g, h, hc⟩
  · exact .inl h
  · exact .inr ⟨g, h, cell_below hb hc⟩
set_option maxHeartbeats 1000000 in
theorem nob_batch (v : Value) (h s : Int) (A : Option Addr) (n c : Nat) (w : World) (hd : NoDisk w v) : Calls Tryz.prog 7 #[v, .int .i64 h, .int .i64 s, .slice A n c] w fun e w' => e = .returned (.int .i64 1) ∧ Below w.heap.size w w' := by
  obtain ⟨p, rfl⟩ : ∃ p, v = .pointer p := by rcases hd with h | ⟨g, h, _⟩ <;> exact ⟨_, h⟩
  have hB : ∀ x, Below w.heap.size w ((((w.alloc (.cells #[.pointer p] 23)).alloc (.cells #[.int .i64 h] 3)).alloc (.cells #[.int .i64 s] 3)).alloc (.cells #[x] 29)) := fun _ => ((((Below.refl _ _).alloc (Nat.le_refl _) _).alloc (by simp) _).alloc (by simp; omega) _).alloc (by simp; omega) _
  refine (callsIn_wide (n := 9)).1 ?_
  refine callsIn_of_wp_marks Tryz.func7 rfl trivial ?_ rfl
  simp only [Tryz.ntmps7, List.size_toArray, List.length_cons, List.length_nil, Nat.reduceAdd, Nat.reduceSub, Array.replicate_succ, Array.replicate_zero, List.push_toArray, List.append_toArray, List.nil_append, List.cons_append]
  gi_wp2_with (refine ⟨trivial, ?_⟩; gi_at_call 25; refine (callsIn_wide.2 (nob_iwrong _ _ _ _ _ ?_)).mono ?_; (· exact hd.below (hB _)); rintro e w' ⟨rfl, rfl⟩)
  have hcl := new_cell (((w.alloc (.cells #[.pointer p] 23)).alloc (.cells #[.int .i64 h] 3)).alloc (.cells #[.int .i64 s] 3)) (.int .i64 1) 29
  simp only [World.size_alloc] at hcl
  refine ⟨.int .i64 1, ?_, rfl, hB _⟩
  simp [results, Tryz.f7, go_sem, hcl]

/-- What 'for _, d := range []*T{nil, {}}' lays ahead of its rounds. -/
theorem pair_cells (w : World) (z : Array Value) (t tp : TypeId) :
    Below w.heap.size w ((w.alloc (.cells z t)).alloc (.cells #[.pointer Option.none, .pointer (some ⟨w.heap.size, 0, Option.none⟩)] tp)) ∧
    (∀ (j : Nat) (x : Value), z[j]? = some x → ((w.alloc (.cells z t)).alloc (.cells #[.pointer Option.none, .pointer (some ⟨w.heap.size, 0, Option.none⟩)] tp)).cell? ⟨w.heap.size, j, Option.none⟩ = some x) ∧
    ((w.alloc (.cells z t)).alloc (.cells #[.pointer Option.none, .pointer (some ⟨w.heap.size, 0, Option.none⟩)] tp)).cell? ⟨w.heap.size + 1, 0, Option.none⟩ = some (.pointer Option.none) ∧
    ((w.alloc (.cells z t)).alloc (.cells #[.pointer Option.none, .pointer (some ⟨w.heap.size, 0, Option.none⟩)] tp)).cell? ⟨w.heap.size + 1, 1, Option.none⟩ = some (.pointer (some ⟨w.heap.size, 0, Option.none⟩)) := by
  have hn := heap_alloc_new (w.alloc (.cells z t)) (.cells #[.pointer Option.none, .pointer (some ⟨w.heap.size, 0, Option.none⟩)] tp)
  rw [World.size_alloc] at hn
  refine ⟨((Below.refl _ _).alloc (Nat.le_refl _) _).alloc (by simp) _, fun j x hx => ?_, cell_of_row _ (w.heap.size + 1) 0 _ _ (0, 0) hn, cell_of_row _ (w.heap.size + 1) 1 _ _ (0, 0) hn⟩
  refine cell_below (below_alloc1 _ _) ?_
  have h1 := heap_alloc_new w (.cells z t)
  have hj : j < z.size := (Array.getElem?_eq_some_iff.1 hx).1
  rw [cell_of_row _ w.heap.size j _ _ (0, 0) h1]
  exact hx

set_option maxHeartbeats 1000000 in
theorem integrateNobody_walk (h s : Int) (A : Option Addr) (n c : Nat) (w : World) : Calls Tryz.prog 3 #[.int .i64 h, .int .i64 s, .slice A n c] w fun e w' => e = .returned (.bool true) ∧ Below w.heap.size w w' := by
  obtain ⟨hB0, hc, hc1, hc2⟩ := pair_cells w #[.int .i64 0, .map Option.none, .slice Option.none 0 0] 27 23
  have hc0 := hc 1 (Value.map Option.none) rfl
  clear hc
  go_enter Tryz.func3, Tryz.ntmps3
  go_wp2
  generalize (w.alloc (.cells #[.int .i64 0, .map Option.none, .slice Option.none 0 0] 27)).alloc (.cells #[.pointer Option.none, .pointer (some ⟨w.heap.size, 0, Option.none⟩)] 23) = w1 at hB0 hc0 hc1 hc2 ⊢
  have tok1 : True := trivial
  refine wp_loop_rounds 3 ?_
  rw [rounds_succ]
  go_wp2_with (first
    | (go_at_call 7; refine (nob_batch _ h s _ _ _ _ (.inl rfl)).mono ?_; rintro e w2 ⟨rfl, hB2⟩; have hB2' := below_then (hB0.alloc hB0.size _) hB2; have hx1 := cell_below (below_then (below_alloc1 _ _) hB2) hc2; have hx0 := cell_below (below_then (below_alloc1 _ _) hB2) hc0)
    | (go_at_call 8; refine (nob_complete _ _ _ _ (.inl rfl)).mono ?_; rintro e w3 ⟨rfl, rfl⟩))
  rw [rounds_succ]
  go_wp2_with (first
    | (go_at_call 7; have _t := tok1; refine (nob_batch _ h s _ _ _ _ (.inr ⟨_, rfl, cell_below (below_alloc1 _ _) hx0⟩)).mono ?_; clear tok1; rintro e w4 ⟨rfl, hB4⟩; have hB4' := below_then (hB2'.alloc hB2'.size _) hB4; have hy0 := cell_below (below_then (below_alloc1 _ _) hB4) hx0)
    | (go_at_call 8; refine (nob_complete _ _ _ _ (.inr ⟨_, rfl, hy0⟩)).mono ?_; rintro e w5 ⟨rfl, rfl⟩))
  rw [rounds_succ]
  go_wp2
  go_ret
  exact ⟨rfl, hB4'⟩
end Go.Proofs.YtkcgmagelghpaaaGreatDoor
