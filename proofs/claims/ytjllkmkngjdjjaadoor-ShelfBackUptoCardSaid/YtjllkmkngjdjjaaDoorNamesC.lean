/- WALKS of the law ShelfNames. No statement of the seed is proved here. -/
import Derived.Test.YtjllkmkngjdjjaaDoorNamesB
import Derived.Test.YtjllkmkngjdjjaaDoorNamesCM
namespace Go.Proofs.YtjllkmkngjdjjaaDoor
open Go.RowKit
set_option maxRecDepth 100000

theorem str_take (l : List UInt8) (k : Nat) : (⟨l.toArray⟩ : ByteArray).extract 0 k = ⟨(l.take k).toArray⟩ := by
  apply ByteArray.ext
  simp
theorem str_drop (l : List UInt8) (k : Nat) : (⟨l.toArray⟩ : ByteArray).extract k l.length = ⟨(l.drop k).toArray⟩ := by
  apply ByteArray.ext
  simp
  rw [List.take_of_length_le (by simp)]

/-- Of an index in full tiles of a height at a level: does it stand? -/
def standsT (lv h i : Nat) : Bool := decide (i * 2 ^ h + 2 ^ h - 1 < 281474976710656 / 2 ^ lv)
theorem nvalid (lv ix : Nat) (a b : Int) (ha : a = (lv : Int)) (hb : b = (ix : Int)) (h : lv ≤ 48) (hx : ix ≤ 9223372036854775807) (w : World) :
    Calls Tryd.prog 17 #[.agg #[.int .i64 a, .int .i64 b]] w fun e w' => e = .returned (.bool (decide (ix < 281474976710656 / 2 ^ lv))) ∧ Below w.heap.size w w' := by
  subst ha hb
  have q1 : decide (0 ≤ (lv : Int)) = true := by simp
  have q2 : decide ((lv : Int) ≤ 48) = true := by simp; omega
  have q3 : decide (0 ≤ (ix : Int)) = true := by simp
  by_cases hlt : ix < 281474976710656 / 2 ^ lv
  · have q4 : decide ((ix : Int) < 281474976710656 / 2 ^ lv) = true := by
      rw [decide_eq_true_iff]
      have : ((281474976710656 / 2 ^ lv : Nat) : Int) = 281474976710656 / 2 ^ lv := by simp
      omega
    have q5 : decide (ix < 281474976710656 / 2 ^ lv) = true := by simpa using hlt
    rw [q5]
    clear hlt
    go_enter Tryd.func17, Tryd.ntmps17
    go_wp2
    go_region_with fail
    all_goals go_wp2
    all_goals (go_ret; exact ⟨by first | rfl | simp, (below_alloc1 _ _).drew⟩)
  · have q4 : decide ((ix : Int) < 281474976710656 / 2 ^ lv) = false := by
      rw [decide_eq_false_iff_not]
      have : ((281474976710656 / 2 ^ lv : Nat) : Int) = 281474976710656 / 2 ^ lv := by simp
      omega
    have q5 : decide (ix < 281474976710656 / 2 ^ lv) = false := by simpa using hlt
    rw [q5]
    clear hlt
    go_enter Tryd.func17, Tryd.ntmps17
    go_wp2
    go_region_with fail
    all_goals go_wp2
    all_goals (go_ret; exact ⟨by first | rfl | simp, (below_alloc1 _ _).drew⟩)
end Go.Proofs.YtjllkmkngjdjjaaDoor
