/- WALKS: is a node one? Is a tile one? The program's and the reference's. No statement of the seed is proved here. -/
import Derived.Test.YtjllkmkngjdjjaaDoorLib
import Derived.Deep.QuietTactic
import Derived.BigQuiet
import Derived.Deep.RegionWith
import Derived.StillTailTactics
namespace Go.Proofs.YtjllkmkngjdjjaaDoor
open Go.RowKit
set_option maxRecDepth 100000

/-- P6.1. -/
def nodeV (lv ix : Int) : Bool := decide (0 ≤ lv ∧ lv ≤ 48 ∧ 0 ≤ ix ∧ ix < 281474976710656 / 2 ^ lv.toNat)
/-- P10.1. -/
def tileV (h l i wd : Int) : Bool := decide (1 ≤ h ∧ h ≤ 8 ∧ 0 ≤ l ∧ l * h ≤ 48 ∧ 0 ≤ i ∧ 1 ≤ wd ∧ wd ≤ 2 ^ h.toNat ∧ i * 2 ^ h.toNat + wd - 1 < 281474976710656 / 2 ^ (l * h).toNat)

/-- The tests one behind the other: the first that falls. -/
def Falls3 (a b c : Bool) : Prop := a = false ∨ (a = true ∧ b = false) ∨ (a = true ∧ b = true ∧ c = false)
theorem falls3 {a b c : Bool} (h : ¬ (a = true ∧ b = true ∧ c = true)) : Falls3 a b c := by
  unfold Falls3; cases a <;> cases b <;> cases c <;> simp_all

theorem nvalid_bad (a b : Int) (h : ¬ (0 ≤ a ∧ a ≤ 48 ∧ 0 ≤ b)) (w : World) :
    Calls Tryd.prog 17 #[.agg #[.int .i64 a, .int .i64 b]] w fun e w' => e = .returned (.bool false) ∧ Below w.heap.size w w' := by
  obtain ⟨b1, q1⟩ : ∃ b1, decide (0 ≤ a) = b1 := ⟨_, rfl⟩
  obtain ⟨b2, q2⟩ : ∃ b2, decide (a ≤ 48) = b2 := ⟨_, rfl⟩
  obtain ⟨b3, q3⟩ : ∃ b3, decide (0 ≤ b) = b3 := ⟨_, rfl⟩
  have hf : Falls3 b1 b2 b3 := falls3 (by rw [← q1, ← q2, ← q3]; simpa using h)
  clear h
  rcases hf with rfl | ⟨rfl, rfl⟩ | ⟨rfl, rfl, rfl⟩
  all_goals
    go_enter Tryd.func17, Tryd.ntmps17
    go_wp2
    go_quiet (fail)
    go_wp2
    go_ret
    exact ⟨rfl, below_drewN (below_alloc1 _ _) _⟩
theorem nvalid_in (lv : Nat) (hl : lv ≤ 48) (b : Int) (h0 : 0 ≤ b) (c : Bool) (q4 : decide (b < 281474976710656 / 2 ^ lv) = c) (w : World) :
    Calls Tryd.prog 17 #[.agg #[.int .i64 (lv : Int), .int .i64 b]] w fun e w' => e = .returned (.bool c) ∧ Below w.heap.size w w' := by
  have q1 : decide (0 ≤ (lv : Int)) = true := by simp
  have q2 : decide ((lv : Int) ≤ 48) = true := by simp; omega
  have q3 : decide (0 ≤ b) = true := by simpa using h0
  clear h0
  go_enter Tryd.func17, Tryd.ntmps17
  go_wp2
  go_quiet (fail)
  go_wp2
  go_ret
  exact ⟨rfl, below_drewN (below_alloc1 _ _) _⟩
theorem node_valid (a b : Int) (w : World) : Calls Tryd.prog 17 #[.agg #[.int .i64 a, .int .i64 b]] w fun e w' => e = .returned (.bool (nodeV a b)) ∧ Below w.heap.size w w' := by
  by_cases h : 0 ≤ a ∧ a ≤ 48 ∧ 0 ≤ b
  · obtain ⟨lv, rfl⟩ := Int.eq_ofNat_of_zero_le h.1
    refine nvalid_in lv (by omega) b h.2.2 _ ?_ w
    unfold nodeV
    rw [decide_eq_decide]
    constructor
    · intro hx; exact ⟨by omega, by omega, by omega, by simpa using hx⟩
    · intro hx; simpa using hx.2.2.2
  · have e : nodeV a b = false := by unfold nodeV; rw [decide_eq_false_iff_not]; omega
    rw [e]
    exact nvalid_bad a b h w
theorem height_bad (h : Int) (hb : h < 1 ∨ 8 < h) (w : World) : Calls Tryd.prog 37 #[.int .i64 h] w fun e w' => e = .returned (.bool false) ∧ w' = w := by
  by_cases h1 : h < 1
  · have q1 : decide (1 ≤ h) = false := by simpa using h1
    clear h1 hb
    go_enter Tryd.func37, Tryd.ntmps37
    go_wp2
    go_ret
    exact ⟨rfl, rfl⟩
  · have q1 : decide (1 ≤ h) = true := by simp; omega
    have q2 : decide (h ≤ 8) = false := by simp; omega
    clear h1 hb
    go_enter Tryd.func37, Tryd.ntmps37
    go_wp2
    go_ret
    exact ⟨rfl, rfl⟩
theorem height_ok (h : Int) (h1 : 1 ≤ h) (h8 : h ≤ 8) (w : World) : Calls Tryd.prog 37 #[.int .i64 h] w fun e w' => e = .returned (.bool true) ∧ w' = w := by
  have q1 : decide (1 ≤ h) = true := by simpa using h1
  have q2 : decide (h ≤ 8) = true := by simpa using h8
  clear h1 h8
  go_enter Tryd.func37, Tryd.ntmps37
  go_wp2
  go_ret
  exact ⟨rfl, rfl⟩
/-- The first of some tests that does not hold as it should. -/
def Falls : List Bool → Prop
  | [] => False
  | b :: r => b = true ∨ (b = false ∧ Falls r)
theorem tvalid_height (h l i wd : Int) (hb : h < 1 ∨ 8 < h) (w : World) :
    Calls Tryd.prog 29 #[.agg #[.int .i64 h, .int .i64 l, .int .i64 i, .int .i64 wd]] w fun e w' => e = .returned (.bool false) ∧ Below w.heap.size w w' := by
  go_enter Tryd.func29, Tryd.ntmps29
  go_wp2
  go_quiet ((go_at_call 37; exact Calls.quiet_of_same (height_bad _ hb _)))
  go_wp2
  go_ret
  exact ⟨rfl, below_drewN (below_alloc1 _ _) _⟩
set_option maxHeartbeats 1000000 in
theorem tvalid_bad (h : Nat) (l i wd : Int) (h1 : 1 ≤ h) (h8 : h ≤ 8) (hb : l < 0 ∨ (48 : Int) / h < l ∨ i < 0 ∨ 281474976710656 < i ∨ wd < 1 ∨ (2 : Int) ^ h < wd) (w : World) :
    Calls Tryd.prog 29 #[.agg #[.int .i64 (h : Int), .int .i64 l, .int .i64 i, .int .i64 wd]] w fun e w' => e = .returned (.bool false) ∧ Below w.heap.size w w' := by
  obtain ⟨b1, q1⟩ : ∃ b, decide (l < 0) = b := ⟨_, rfl⟩
  obtain ⟨b2, q2⟩ : ∃ b, decide ((48 : Int) / h < l) = b := ⟨_, rfl⟩
  obtain ⟨b3, q3⟩ : ∃ b, decide (i < 0) = b := ⟨_, rfl⟩
  obtain ⟨b4, q4⟩ : ∃ b, decide (281474976710656 < i) = b := ⟨_, rfl⟩
  obtain ⟨b5, q5⟩ : ∃ b, decide (wd < 1) = b := ⟨_, rfl⟩
  obtain ⟨b6, q6⟩ : ∃ b, decide ((2 : Int) ^ h < wd) = b := ⟨_, rfl⟩
  have hf : Falls [b1, b2, b3, b4, b5, b6] := by
    simp only [← q1, ← q2, ← q3, ← q4, ← q5, ← q6, Falls, decide_eq_true_eq, decide_eq_false_iff_not]
    omega
  have q0 : ((h : Int) == 0) = false := by simp; omega
  have ht : (48 : Int).tdiv h = 48 / h := Int.tdiv_eq_ediv_of_nonneg (by omega)
  have hd : (48 : Int) / h ≤ 48 := Int.ediv_le_self _ (by omega)
  have hd0 : 0 ≤ (48 : Int) / h := Int.ediv_nonneg (by omega) (by omega)
  have q2b : IntKind.i64.wrap ((48 : Int).tdiv h) = (48 : Int) / h := by rw [ht, IntKind.wrap_i64]; omega
  have hp : (2 : Int) ^ h ≤ 256 := by
    have := Nat.pow_le_pow_right (show 0 < 2 by omega) h8
    have e : ((2 ^ h : Nat) : Int) = 2 ^ h := by simp
    omega
  have hp0 : (0 : Int) ≤ 2 ^ h := Int.pow_nonneg (by omega)
  have q6b : IntKind.i64.wrap ((2 : Int) ^ h) = 2 ^ h := by rw [IntKind.wrap_i64]; omega
  clear hb hp hp0 hd hd0 ht
  simp only [Falls] at hf
  rcases hf with rfl | ⟨rfl, rfl | ⟨rfl, rfl | ⟨rfl, rfl | ⟨rfl, rfl | ⟨rfl, rfl | ⟨rfl, hf⟩⟩⟩⟩⟩⟩
  all_goals first | exact hf.elim | skip
  all_goals
    go_enter Tryd.func29, Tryd.ntmps29
    go_wp2
    go_quiet ((go_at_call 37; exact Calls.quiet_of_same (height_ok _ (by omega) (by omega) _)))
    go_wp2
    go_ret
    exact ⟨rfl, below_drewN (below_alloc1 _ _) _⟩
theorem le_div_iff (h : Nat) (h1 : 1 ≤ h) (l : Int) : (48 : Int) / h < l ↔ 48 < l * h := by
  have := @Int.lt_ediv_iff_mul_lt
  constructor
  · intro hx
    have := (Int.ediv_lt_iff_lt_mul (a := 48) (b := l) (c := (h : Int)) (by omega)).1 hx
    omega
  · intro hx
    exact (Int.ediv_lt_iff_lt_mul (a := 48) (b := l) (c := (h : Int)) (by omega)).2 hx
set_option maxHeartbeats 1000000 in
theorem tvalid_in (h : Nat) (l i wd : Int) (h1 : 1 ≤ h) (h8 : h ≤ 8) (hl : 0 ≤ l) (hl2 : l * h ≤ 48) (hi : 0 ≤ i) (hi2 : i ≤ 281474976710656) (hw : 1 ≤ wd) (hw2 : wd ≤ (2 : Int) ^ h) (w : World) :
    Calls Tryd.prog 29 #[.agg #[.int .i64 (h : Int), .int .i64 l, .int .i64 i, .int .i64 wd]] w fun e w' => e = .returned (.bool (nodeV (l * h) (i * 2 ^ h + wd - 1))) ∧ Below w.heap.size w w' := by
  have q1 : decide (l < 0) = false := by simpa using hl
  have q2 : decide ((48 : Int) / h < l) = false := by rw [decide_eq_false_iff_not, le_div_iff h h1]; omega
  have q3 : decide (i < 0) = false := by simpa using hi
  have q4 : decide (281474976710656 < i) = false := by simpa using hi2
  have q5 : decide (wd < 1) = false := by simpa using hw
  have q6 : decide ((2 : Int) ^ h < wd) = false := by simpa using hw2
  have q0 : ((h : Int) == 0) = false := by simp; omega
  have ht : (48 : Int).tdiv h = 48 / h := Int.tdiv_eq_ediv_of_nonneg (by omega)
  have hd : (48 : Int) / h ≤ 48 := Int.ediv_le_self _ (by omega)
  have hd0 : 0 ≤ (48 : Int) / h := Int.ediv_nonneg (by omega) (by omega)
  have q2b : IntKind.i64.wrap ((48 : Int).tdiv h) = (48 : Int) / h := by rw [ht, IntKind.wrap_i64]; omega
  have hp : (2 : Int) ^ h ≤ 256 := by
    have := Nat.pow_le_pow_right (show 0 < 2 by omega) h8
    have e : ((2 ^ h : Nat) : Int) = 2 ^ h := by simp
    omega
  have hp0 : (0 : Int) ≤ 2 ^ h := Int.pow_nonneg (by omega)
  have q6b : IntKind.i64.wrap ((2 : Int) ^ h) = 2 ^ h := by rw [IntKind.wrap_i64]; omega
  have hm0 : 0 ≤ i * 2 ^ h := Int.mul_nonneg hi hp0
  have hm1 : i * 2 ^ h ≤ 281474976710656 * 256 := Int.le_trans (Int.mul_le_mul_of_nonneg_right hi2 hp0) (Int.mul_le_mul_of_nonneg_left hp (by omega))
  have hlm : 0 ≤ l * h := Int.mul_nonneg hl (by omega)
  have u1 : IntKind.i64.wrap (l * h) = l * h := by rw [IntKind.wrap_i64]; omega
  have u2 : wrap64 (l * h) = l * h := by unfold wrap64; omega
  have v1 : IntKind.i64.wrap (i * 2 ^ h) = i * 2 ^ h := by rw [IntKind.wrap_i64]; omega
  have v2 : wrap64 (i * 2 ^ h) = i * 2 ^ h := by unfold wrap64; omega
  have s1 : wrap64 (i * 2 ^ h + wd) = i * 2 ^ h + wd := by unfold wrap64; omega
  have s2 : wrap64 (i * 2 ^ h + wd - 1) = i * 2 ^ h + wd - 1 := by unfold wrap64; omega
  have s3 : IntKind.i64.wrap (i * 2 ^ h + wd) = i * 2 ^ h + wd := by rw [IntKind.wrap_i64]; omega
  have s4 : IntKind.i64.wrap (i * 2 ^ h + wd - 1) = i * 2 ^ h + wd - 1 := by rw [IntKind.wrap_i64]; omega
  clear hm0 hm1 hlm hp hp0 hd hd0 ht hl hl2 hi hi2 hw hw2
  go_enter Tryd.func29, Tryd.ntmps29
  go_wp2
  go_quiet ((go_at_call 37; exact Calls.quiet_of_same (height_ok _ (by omega) (by omega) _)))
  go_wp2
  have hB : Below w.heap.size w ((w.alloc (.cells #[.int .i64 (h : Int), .int .i64 l, .int .i64 i, .int .i64 wd] 48)).drewN nq) := below_drewN (below_alloc1 _ _) _
  have hn := heap_alloc_new w (.cells #[.int .i64 (h : Int), .int .i64 l, .int .i64 i, .int .i64 wd] 48)
  have c0 : ((w.alloc (.cells #[.int .i64 (h : Int), .int .i64 l, .int .i64 i, .int .i64 wd] 48)).drewN nq).cell? ⟨w.heap.size, 0, none⟩ = some (.int .i64 (h : Int)) := cell_of_row _ w.heap.size 0 _ _ (0, 0) hn
  have c1 : ((w.alloc (.cells #[.int .i64 (h : Int), .int .i64 l, .int .i64 i, .int .i64 wd] 48)).drewN nq).cell? ⟨w.heap.size, 1, none⟩ = some (.int .i64 l) := cell_of_row _ w.heap.size 1 _ _ (0, 0) hn
  have c2 : ((w.alloc (.cells #[.int .i64 (h : Int), .int .i64 l, .int .i64 i, .int .i64 wd] 48)).drewN nq).cell? ⟨w.heap.size, 2, none⟩ = some (.int .i64 i) := cell_of_row _ w.heap.size 2 _ _ (0, 0) hn
  have c3 : ((w.alloc (.cells #[.int .i64 (h : Int), .int .i64 l, .int .i64 i, .int .i64 wd] 48)).drewN nq).cell? ⟨w.heap.size, 3, none⟩ = some (.int .i64 wd) := cell_of_row _ w.heap.size 3 _ _ (0, 0) hn
  clear hn
  generalize (w.alloc (.cells #[.int .i64 (h : Int), .int .i64 l, .int .i64 i, .int .i64 wd] 48)).drewN nq = W at hB c0 c1 c2 c3 ⊢
  go_still_tail 15, (by kernel_rfl)
  go_wp2_with (go_at_call 17; refine (node_valid _ _ _).mono ?_; rintro e w2 ⟨rfl, hB2⟩)
  go_ret
  exact ⟨rfl, hB.trans ((below_drewN (Below.refl _ W) 1).trans (hB2.mono hB.size))⟩
theorem le_div8 (h : Nat) (h1 : 1 ≤ h) (l : Int) : ¬ (48 : Int) / h < l ↔ l * h ≤ 48 := by rw [le_div_iff h h1]; omega
/-- The program's. -/
theorem tile_valid (h l i wd : Int) (w : World) :
    Calls Tryd.prog 29 #[.agg #[.int .i64 h, .int .i64 l, .int .i64 i, .int .i64 wd]] w fun e w' => e = .returned (.bool (tileV h l i wd)) ∧ Below w.heap.size w w' := by
  by_cases hh : h < 1 ∨ 8 < h
  · have e : tileV h l i wd = false := by unfold tileV; rw [decide_eq_false_iff_not]; omega
    rw [e]; exact tvalid_height h l i wd hh w
  · obtain ⟨n, rfl⟩ := Int.eq_ofNat_of_zero_le (show 0 ≤ h by omega)
    have hp0 : (1 : Int) ≤ 2 ^ n := Int.add_one_le_of_lt (Int.pow_pos (by omega))
    have hp : (2 : Int) ^ n ≤ 256 := by
      have := Nat.pow_le_pow_right (show 0 < 2 by omega) (show n ≤ 8 by omega)
      have e : ((2 ^ n : Nat) : Int) = 2 ^ n := by simp
      omega
    by_cases hb : l < 0 ∨ (48 : Int) / n < l ∨ i < 0 ∨ 281474976710656 < i ∨ wd < 1 ∨ (2 : Int) ^ n < wd
    · have e : tileV n l i wd = false := by
        unfold tileV
        rw [decide_eq_false_iff_not]
        rintro ⟨a1, a2, a3, a4, a5, a6, a7, a8⟩
        rw [Int.toNat_natCast] at a7 a8
        rcases hb with c | c | c | c | c | c
        · omega
        · rw [le_div_iff n (by omega)] at c; omega
        · omega
        · have : (281474976710656 : Int) / 2 ^ (l * n).toNat ≤ 281474976710656 := Int.ediv_le_self _ (by omega)
          have : i * 1 ≤ i * 2 ^ n := Int.mul_le_mul_of_nonneg_left hp0 (by omega)
          omega
        · omega
        · omega
      rw [e]; exact tvalid_bad n l i wd (by omega) (by omega) hb w
    · have hlm := (le_div8 n (by omega) l).1 (by omega)
      have e : tileV n l i wd = nodeV (l * n) (i * 2 ^ n + wd - 1) := by
        have hlm0 : 0 ≤ l * n := Int.mul_nonneg (by omega) (by omega)
        have him0 : 0 ≤ i * 2 ^ n := Int.mul_nonneg (by omega) (by omega)
        unfold tileV nodeV
        rw [decide_eq_decide, Int.toNat_natCast]
        constructor
        · rintro ⟨a1, a2, a3, a4, a5, a6, a7, a8⟩
          exact ⟨hlm0, a4, by omega, a8⟩
        · rintro ⟨a1, a2, a3, a4⟩
          exact ⟨by omega, by omega, by omega, by omega, by omega, by omega, by omega, a4⟩
      rw [e]; exact tvalid_in n l i wd (by omega) (by omega) (by omega) hlm (by omega) (by omega) (by omega) (by omega) w
/-! ### the reference's -/
end Go.Proofs.YtjllkmkngjdjjaaDoor
