/- WALKS of the law RecoveryNobody. No statement of the seed is proved here. -/
import Derived.Test.YtgmdgidjgddnaaaGreatDoorNob
import Derived.Test.YtgmdgidjgddnaaaGreatDoorPair
namespace Go.Proofs.YtgmdgidjgddnaaaGreatDoor
open Go.RowKit
set_option maxRecDepth 100000

theorem nob_rwrong (v h : Value) (w : World) (hd : NoDisk w v) : Calls Tryz.prog 46 #[v, h] w fun e w' => e = .returned (.int .i64 1) ∧ w = w' := by
  have K := Lib.hid (nodisk_sector v w hd)
  clear hd
  go_enter Tryz.func46, Tryz.ntmps46
  go_wp2_with (go_at_call 58; refine K.out.mono ?_; rintro e w' ⟨rfl, rfl⟩)
  go_ret
  exact ⟨rfl, rfl⟩
theorem nob_ropen (v h : Value) (w : World) (hd : NoDisk w v) : Calls Tryz.prog 16 #[v, h] w fun e w' => e = .returned (.tuple #[.pointer Option.none, .int .i64 1]) ∧ w = w' := by
  have K := Lib.hid (nob_rwrong v h w hd)
  clear hd
  go_enter Tryz.func16, Tryz.ntmps16
  go_wp2_with (go_at_call 46; refine K.out.mono ?_; rintro e w' ⟨rfl, rfl⟩)
  go_ret2
  exact ⟨rfl, rfl⟩
theorem nob_rcheck (v h : Value) (w : World) (hd : NoDisk w v) : Calls Tryz.prog 17 #[v, h] w fun e w' => e = .returned (.tuple #[.int .i64 0, .int .i64 1]) ∧ w = w' := by
  have K := Lib.hid (nob_rwrong v h w hd)
  clear hd
  go_enter Tryz.func17, Tryz.ntmps17
  go_wp2_with (go_at_call 46; refine K.out.mono ?_; rintro e w' ⟨rfl, rfl⟩)
  go_ret2
  exact ⟨rfl, rfl⟩
theorem recoveryNobody_walk (h : Int) (w : World) : Calls Tryz.prog 4 #[.int .i64 h] w fun e w' => e = .returned (.bool true) ∧ Below w.heap.size w w' := by
  obtain ⟨hB, hc, p0, p1⟩ := pair_cells w #[.int .i64 0, .map Option.none, .slice Option.none 0 0] 57 29
  have hm := hc 1 _ rfl
  clear hc
  go_enter Tryz.func4, Tryz.ntmps4
  go_wp2
  generalize (w.alloc (.cells #[.int .i64 0, .map Option.none, .slice Option.none 0 0] 57)).alloc (.cells #[.pointer Option.none, .pointer (some ⟨w.heap.size, 0, Option.none⟩)] 29) = w1 at hB hm p0 p1 ⊢
  refine wp_loop_rounds 3 ?_
  rw [rounds_succ]
  go_wp2_with (first
    | (go_at_call 16; refine (nob_ropen _ _ _ (.inl rfl)).mono ?_; rintro e w' ⟨rfl, rfl⟩)
    | (go_at_call 17; refine (nob_rcheck _ _ _ (.inl rfl)).mono ?_; rintro e w' ⟨rfl, rfl⟩))
  rw [rounds_succ]
  go_wp2_with (first
    | (go_at_call 16; refine (nob_ropen _ _ _ (.inr ⟨_, rfl, hm⟩)).mono ?_; rintro e w' ⟨rfl, rfl⟩)
    | (go_at_call 17; refine (nob_rcheck _ _ _ (.inr ⟨_, rfl, hm⟩)).mono ?_; rintro e w' ⟨rfl, rfl⟩))
  rw [rounds_succ]
  go_wp2
  go_ret
  exact ⟨rfl, hB⟩
end Go.Proofs.YtgmdgidjgddnaaaGreatDoor
