/- WALK of the law FrameSums: any bytes have the document's sum, also behind others. -/
import Derived.Test.YthgjecofmnomfaaDoorFrameA
namespace Go.Proofs.YthgjecofmnomfaaDoor
open Go.RowKit

set_option maxHeartbeats 400000 in
set_option maxRecDepth 100000 in
theorem frameSums_walk (s : Nat) (hs : s < 4294967296) (v : Value) (l : List UInt8) (w : World) (hT : LaidF w) (hv : Bs w v l) (hl : l.length ≤ 140737488351232) :
    Calls Tryd.prog 3 #[.int .u32 s, v] w fun e w' => e = .returned (.bool true) ∧ Below w.heap.size w w' := by
  obtain ⟨A, c, rfl, hlc, hc, hn⟩ := hv.form
  go_enter Tryd.func3, Tryd.ntmps3
  have tok1 : True := trivial
  have tok2 : True := trivial
  have hB0 : Below w.heap.size w (w.alloc (.cells #[] 5)) := (Below.refl _ _).alloc (Nat.le_refl _) _
  go_wp2_with (first
    | (at_builtin; have _t := tok1; (refine app_u8 rfl _ _ rfl w.heap.size _ rfl [] (OwnB.zero w) _ rfl l (hv.below hB0) ?_ ?_ ?_); (· simp; omega); (· simp); clear tok1; intro v1 w1 ho1 hg1 _; have hB1 := below_grown hB0 hg1 (OwnB.zero w) (le_alloc (Nat.le_refl _) _); rw [List.nil_append] at ho1)
    | (at_builtin; have _t := tok2; (refine app_u8 rfl _ _ rfl w.heap.size _ rfl l (ho1.alloc _) _ rfl [90] (Bs.one _ _ _ rfl) ?_ ?_ ?_); (· simp; omega); (· have := hB1.size; simp; omega); clear tok2; intro v2 w2 ho2 hg2 _; have hB2 := below_grown (hB1.alloc hB1.size _) hg2 (ho1.alloc _) (le_alloc hB1.size _); obtain ⟨A2, c2, rfl, hl2, hc2, hn2⟩ := ho2.form_n (l.length + 1) (by simp); have k1 := str_u8 ho2.bs; have k2 := str_u8 (hv.below hB2); have k3 := str_cat l [90] #[90] rfl)
    | (go_at_call 10; refine (sum_calls _ l _ (hT.below hB2) (ho2.bs.pre rfl)).mono ?_; rintro e w' ⟨rfl, rfl⟩)
    | (go_at_call 11; refine (rsum_calls _ l _ (hv.below hB2)).mono ?_; rintro e w' ⟨rfl, rfl⟩)
    | (go_at_call 12; refine (extend_calls s hs _ l _ (hT.below hB2) (ho2.bs.pre rfl)).mono ?_; rintro e w' ⟨rfl, rfl⟩)
    | (go_at_call 13; refine (rextend_calls s hs _ l _ (hv.below hB2)).mono ?_; rintro e w' ⟨rfl, rfl⟩))
  go_ret
  exact ⟨rfl, hB2⟩
end Go.Proofs.YthgjecofmnomfaaDoor
