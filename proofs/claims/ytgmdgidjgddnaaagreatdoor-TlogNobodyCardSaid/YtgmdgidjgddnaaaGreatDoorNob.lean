/- WALKS of the calls without a disk: what every layer asks first. No statement of the seed is proved here. -/
import Derived.Test.YtgmdgidjgddnaaaGreatDoorLib
namespace Go.Proofs.YtgmdgidjgddnaaaGreatDoor
open Go.RowKit
set_option maxRecDepth 100000

/-- A disk that no call made: nil, or one without its map. -/
def NoDisk (w : World) (v : Value) : Prop := v = .pointer Option.none ∨ ∃ g, v = .pointer (some ⟨g, 0, Option.none⟩) ∧ w.cell? ⟨g, 1, Option.none⟩ = some (.map Option.none)

theorem nodisk_none (v : Value) (w : World) (h : NoDisk w v) : Calls Tryz.prog 68 #[v] w fun e w' => e = .returned (.bool true) ∧ w = w' := by
  rcases h with rfl | ⟨g, rfl, hc⟩
  · go_enter Tryz.func68, Tryz.ntmps68
    go_wp2
    go_ret
    exact ⟨rfl, rfl⟩
  · have hm := fun W => run_eql_map_nil (P := Tryz.prog) W 54 _ _ Option.none Tryz.underlying54
    go_enter Tryz.func68, Tryz.ntmps68
    go_wp2
    go_ret
    exact ⟨rfl, rfl⟩

theorem nodisk_sector (v : Value) (w : World) (h : NoDisk w v) : Calls Tryz.prog 58 #[v] w fun e w' => e = .returned (.int .i64 0) ∧ w = w' := by
  have K := Lib.hid (nodisk_none v w h)
  clear h
  go_enter Tryz.func58, Tryz.ntmps58
  go_wp2_with (go_at_call 68; refine K.out.mono ?_; rintro e w' ⟨rfl, rfl⟩)
  go_ret
  exact ⟨rfl, rfl⟩
end Go.Proofs.YtgmdgidjgddnaaaGreatDoor
