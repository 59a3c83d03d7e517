/- WALK of the law FrameReads: at any place of any bytes a frame is read as the document says, or not. -/
import Derived.Test.YthgjecofmnomfaaDoorFrameR
namespace Go.Proofs.YthgjecofmnomfaaDoor
open Go.RowKit
set_option maxRecDepth 100000

set_option maxHeartbeats 1000000 in
theorem frameReads_walk (at_ : Int) (v : Value) (l : List UInt8) (w : World) (hT : LaidF w) (hv : Bs w v l) (hl : l.length ≤ 140737488351232) :
    Calls Tryd.prog 4 #[v, .int .i64 at_] w fun e w' => e = .returned (.bool true) ∧ Below w.heap.size w w' := by
  obtain ⟨A, c, rfl, hlc, hc, hn⟩ := hv.form
  obtain ⟨m, q, x, hfr⟩ : ∃ m q x, frRead l at_ = (m, q, x) := ⟨_, _, _, rfl⟩
  have HF := Lib.hid hfr; clear hfr
  have tok1 : True := trivial
  have tok2 : True := trivial
  have tok3 : True := trivial
  have hB0 : Below w.heap.size w (w.alloc (.cells #[] 5)) := (Below.refl _ _).alloc (Nat.le_refl _) _
  go_enter Tryd.func4, Tryd.ntmps4
  go_wp2_with (first
    | (at_builtin; have _t := tok1; (refine app_u8 rfl _ _ rfl w.heap.size _ rfl [] (OwnB.zero w) _ rfl l (hv.below hB0) ?_ ?_ ?_); (· simp; omega); (· simp); clear tok1; intro v1 w1 ho1 hg1 _; have hB1 := below_grown hB0 hg1 (OwnB.zero w) (le_alloc (Nat.le_refl _) _); rw [List.nil_append] at ho1)
    | (at_builtin; have _t := tok2; (refine app_u8 rfl _ _ rfl w.heap.size _ rfl l (ho1.alloc _) _ rfl [90] (Bs.one _ _ _ rfl) ?_ ?_ ?_); (· simp; omega); (· have := hB1.size; simp; omega); clear tok2; intro v2 w2 ho2 hg2 _; have hB2 := below_grown (hB1.alloc hB1.size _) hg2 (ho1.alloc _) (le_alloc hB1.size _); obtain ⟨A2, c2, rfl, hl2, hc2, hn2⟩ := ho2.form_n (l.length + 1) (by simp); have hin : Bs w2 (.slice A2 l.length c2) l := ho2.bs.pre rfl; clear hg1 hg2 ho1)
    | (go_at_call 14; have _t := tok3; refine (read_callsR HF.out _ _ (hT.below hB2) hin (by omega)).mono ?_; clear tok3; rintro e w3 ⟨vx, rfl, hox, hBx⟩)
    | (go_at_call 14; refine (read_callsR HF.out _ _ (hT.below (below_then hB2 hBx)) (hin.below hBx) (by omega)).mono ?_; rintro e w4 ⟨vy, rfl, hoy, hBy⟩; have hB4 := below_then (below_then hB2 hBx) hBy)
    | (go_at_call 15; refine (rread_callsR HF.out _ _ (hv.below hB4)).mono ?_; rintro e w5 ⟨vz, rfl, hoz, hBz⟩; have hB5 := below_then hB4 hBz; have k1 := str_u8 ((hox.bs.below hBy).below hBz); have k2 := str_u8 hoz.bs; have k3 := str_u8 ((((ho2.bs.below hBx).below hBy)).below hBz); have k4 := str_u8 (hv.below hB5); have k5 := str_cat l [90] #[90] rfl)
    | (go_at_call 16; refine (spoil_calls _ m _ _ ((hox.below hBy).below hBz)).mono ?_; rintro e w6 ⟨rfl, ho6, hg6⟩; have hB6 := hB5.grown hg6 hB5.size (fun k hk => Nat.le_trans hB2.size (hox.lt k hk).1); have k6 := str_u8 ((hoy.below hBz).kept hg6 (own_apart hox hoy)).bs; have k7 := str_u8 (hoz.kept hg6 (own_apart hox (hoz.lower hBy.size))).bs; clear k1 k2 k3 k4)
    | (go_at_call 17; refine (names11_calls _).mono ?_; rintro e w7 ⟨rfl, rfl⟩))
  go_ret
  exact ⟨rfl, hB6⟩
end Go.Proofs.YthgjecofmnomfaaDoor
