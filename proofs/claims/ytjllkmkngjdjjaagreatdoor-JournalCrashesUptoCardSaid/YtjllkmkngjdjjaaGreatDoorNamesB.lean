/- WALKS: is a node one? Is a tile one? The program's and the reference's. No statement of the seed is proved here. WALKS of the law BundleNames. No statement of the seed is proved here. -/
import Derived.Test.YtjllkmkngjdjjaaGreatDoorUptoB
import Derived.Deep.QuietTactic
import Derived.BigQuiet
import Derived.Deep.RegionWith
import Derived.StillTailTactics
import Derived.Test.YtjllkmkngjdjjaaGreatDoorNames
namespace Go.Proofs.YtjllkmkngjdjjaaGreatDoor
open Go.RowKit
set_option maxRecDepth 100000

/-- P6.1. -/
def nodeV (lv ix : Int) : Bool := decide (0 ≤ lv ∧ lv ≤ 48 ∧ 0 ≤ ix ∧ ix < 281474976710656 / 2 ^ lv.toNat)
/-- P10.1. -/
def tileV (h l i wd : Int) : Bool := decide (1 ≤ h ∧ h ≤ 8 ∧ 0 ≤ l ∧ l * h ≤ 48 ∧ 0 ≤ i ∧ 1 ≤ wd ∧ wd ≤ 2 ^ h.toNat ∧ i * 2 ^ h.toNat + wd - 1 < 281474976710656 / 2 ^ (l * h).toNat)

/-- The tests one behind the other: the first that falls. -/
def Falls3 (a b c : Bool) : Prop := a = false ∨ (a = true ∧ b = false) ∨ (a = true ∧ b = true ∧ c = false)
theorem falls3 {a b c : Bool} (h : ¬ (a = true ∧ b = true ∧ c = true)) : Falls3 a b c := by
  unfold Falls3; cases a <;> cases b <;> cases c <;> simp_all

theorem nvalid_bad (a b : Int) (h : ¬ (0 ≤ a ∧ a ≤ 48 ∧ 0 ≤ b)) (w : World) :
    Calls Tryz.prog 77 #[.agg #[.int .i64 a, .int .i64 b]] w fun e w' => e = .returned (.bool false) ∧ Below w.heap.size w w' := by
  obtain ⟨b1, q1⟩ : ∃ b1, decide (0 ≤ a) = b1 := ⟨_, rfl⟩
  obtain ⟨b2, q2⟩ : ∃ b2, decide (a ≤ 48) = b2 := ⟨_, rfl⟩
  obtain ⟨b3, q3⟩ : ∃ b3, decide (0 ≤ b) = b3 := ⟨_, rfl⟩
  have hf : Falls3 b1 b2 b3 := falls3 (by rw [← q1, ← q2, ← q3]; simpa using h)
  clear h
  rcases hf with rfl | ⟨rfl, rfl⟩ | ⟨rfl, rfl, rfl⟩
  all_goals
    go_enter Tryz.func77, Tryz.ntmps77
    go_wp2
    go_quiet (fail)
    go_wp2
    go_ret
    exact ⟨rfl, below_drewN (below_alloc1 _ _) _⟩
theorem nvalid_in (lv : Nat) (hl : lv ≤ 48) (b : Int) (h0 : 0 ≤ b) (c : Bool) (q4 : decide (b < 281474976710656 / 2 ^ lv) = c) (w : World) :
    Calls Tryz.prog 77 #[.agg #[.int .i64 (lv : Int), .int .i64 b]] w fun e w' => e = .returned (.bool c) ∧ Below w.heap.size w w' := by
  have q1 : decide (0 ≤ (lv : Int)) = true := by simp
  have q2 : decide ((lv : Int) ≤ 48) = true := by simp; omega
  have q3 : decide (0 ≤ b) = true := by simpa using h0
  clear h0
  go_enter Tryz.func77, Tryz.ntmps77
  go_wp2
  go_quiet (fail)
  go_wp2
  go_ret
  exact ⟨rfl, below_drewN (below_alloc1 _ _) _⟩
theorem node_valid (a b : Int) (w : World) : Calls Tryz.prog 77 #[.agg #[.int .i64 a, .int .i64 b]] w fun e w' => e = .returned (.bool (nodeV a b)) ∧ Below w.heap.size w w' := by
  by_cases h : 0 ≤ a ∧ a ≤ 48 ∧ 0 ≤ b
  · obtain ⟨lv, rfl⟩ := Int.eq_ofNat_of_zero_le h.1
    refine nvalid_in lv (by omega) b h.2.2 _ ?_ w
    unfold nodeV
    rw [decide_eq_decide]
    constructor
    · intro hx; exact ⟨by omega, by omega, by omega, by simpa using hx⟩
    · intro hx; simpa using hx.2.2.2
  · have e : nodeV a b = false := by unfold nodeV; rw [decide_eq_false_iff_not]; omega
    rw [e]
    exact nvalid_bad a b h w
theorem rnvalid_bad (a b : Int) (h : ¬ (0 ≤ a ∧ a ≤ 48 ∧ 0 ≤ b)) (w : World) :
    Calls Tryz.prog 85 #[.agg #[.int .i64 a, .int .i64 b]] w fun e w' => e = .returned (.bool false) ∧ Below w.heap.size w w' := by
  obtain ⟨b1, q1⟩ : ∃ b1, decide (0 ≤ a) = b1 := ⟨_, rfl⟩
  obtain ⟨b2, q2⟩ : ∃ b2, decide (a ≤ 48) = b2 := ⟨_, rfl⟩
  obtain ⟨b3, q3⟩ : ∃ b3, decide (0 ≤ b) = b3 := ⟨_, rfl⟩
  have hf : Falls3 b1 b2 b3 := falls3 (by rw [← q1, ← q2, ← q3]; simpa using h)
  clear h
  rcases hf with rfl | ⟨rfl, rfl⟩ | ⟨rfl, rfl, rfl⟩
  all_goals
    go_enter Tryz.func85, Tryz.ntmps85
    go_wp2
    go_ret
    exact ⟨rfl, below_alloc1 _ _⟩
theorem rnvalid_in (lv : Nat) (hl : lv ≤ 48) (b : Int) (h0 : 0 ≤ b) (c : Bool) (q4 : decide (b < 281474976710656 / 2 ^ lv) = c) (w : World) :
    Calls Tryz.prog 85 #[.agg #[.int .i64 (lv : Int), .int .i64 b]] w fun e w' => e = .returned (.bool c) ∧ Below w.heap.size w w' := by
  have q1 : decide (0 ≤ (lv : Int)) = true := by simp
  have q2 : decide ((lv : Int) ≤ 48) = true := by simp; omega
  have q3 : decide (0 ≤ b) = true := by simpa using h0
  have q5 : IntKind.u64.wrap (lv : Int) = (lv : Int) := by rw [IntKind.wrap_u64]; omega
  clear h0
  go_enter Tryz.func85, Tryz.ntmps85
  go_wp2
  go_ret
  exact ⟨rfl, below_alloc1 _ _⟩
theorem rnode_valid (a b : Int) (w : World) : Calls Tryz.prog 85 #[.agg #[.int .i64 a, .int .i64 b]] w fun e w' => e = .returned (.bool (nodeV a b)) ∧ Below w.heap.size w w' := by
  by_cases h : 0 ≤ a ∧ a ≤ 48 ∧ 0 ≤ b
  · obtain ⟨lv, rfl⟩ := Int.eq_ofNat_of_zero_le h.1
    refine rnvalid_in lv (by omega) b h.2.2 _ ?_ w
    unfold nodeV
    rw [decide_eq_decide]
    constructor
    · intro hx; exact ⟨by omega, by omega, by omega, by simpa using hx⟩
    · intro hx; simpa using hx.2.2.2
  · have e : nodeV a b = false := by unfold nodeV; rw [decide_eq_false_iff_not]; omega
    rw [e]
    exact rnvalid_bad a b h w

theorem height_bad (h : Int) (hb : h < 1 ∨ 8 < h) (w : World) : Calls Tryz.prog 147 #[.int .i64 h] w fun e w' => e = .returned (.bool false) ∧ w' = w := by
  by_cases h1 : h < 1
  · have q1 : decide (1 ≤ h) = false := by simpa using h1
    clear h1 hb
    go_enter Tryz.func147, Tryz.ntmps147
    go_wp2
    go_ret
    exact ⟨rfl, rfl⟩
  · have q1 : decide (1 ≤ h) = true := by simp; omega
    have q2 : decide (h ≤ 8) = false := by simp; omega
    clear h1 hb
    go_enter Tryz.func147, Tryz.ntmps147
    go_wp2
    go_ret
    exact ⟨rfl, rfl⟩
theorem height_ok (h : Int) (h1 : 1 ≤ h) (h8 : h ≤ 8) (w : World) : Calls Tryz.prog 147 #[.int .i64 h] w fun e w' => e = .returned (.bool true) ∧ w' = w := by
  have q1 : decide (1 ≤ h) = true := by simpa using h1
  have q2 : decide (h ≤ 8) = true := by simpa using h8
  clear h1 h8
  go_enter Tryz.func147, Tryz.ntmps147
  go_wp2
  go_ret
  exact ⟨rfl, rfl⟩
theorem rheight_bad (h : Int) (hb : h < 1 ∨ 8 < h) (w : World) : Calls Tryz.prog 142 #[.int .i64 h] w fun e w' => e = .returned (.bool false) ∧ w' = w := by
  by_cases h1 : h < 1
  · have q1 : decide (1 ≤ h) = false := by simpa using h1
    clear h1 hb
    go_enter Tryz.func142, Tryz.ntmps142
    go_wp2
    go_ret
    exact ⟨rfl, rfl⟩
  · have q1 : decide (1 ≤ h) = true := by simp; omega
    have q2 : decide (h ≤ 8) = false := by simp; omega
    clear h1 hb
    go_enter Tryz.func142, Tryz.ntmps142
    go_wp2
    go_ret
    exact ⟨rfl, rfl⟩
theorem rheight_ok (h : Int) (h1 : 1 ≤ h) (h8 : h ≤ 8) (w : World) : Calls Tryz.prog 142 #[.int .i64 h] w fun e w' => e = .returned (.bool true) ∧ w' = w := by
  have q1 : decide (1 ≤ h) = true := by simpa using h1
  have q2 : decide (h ≤ 8) = true := by simpa using h8
  clear h1 h8
  go_enter Tryz.func142, Tryz.ntmps142
  go_wp2
  go_ret
  exact ⟨rfl, rfl⟩
/-- The first of some tests that does not hold as it should. -/
def Falls : List Bool → Prop
  | [] => False
  | b :: r => b = true ∨ (b = false ∧ Falls r)
theorem tvalid_height (h l i wd : Int) (hb : h < 1 ∨ 8 < h) (w : World) :
    Calls Tryz.prog 94 #[.agg #[.int .i64 h, .int .i64 l, .int .i64 i, .int .i64 wd]] w fun e w' => e = .returned (.bool false) ∧ Below w.heap.size w w' := by
  go_enter Tryz.func94, Tryz.ntmps94
  go_wp2
  go_quiet ((go_at_call 147; exact Calls.quiet_of_same (height_bad _ hb _)))
  go_wp2
  go_ret
  exact ⟨rfl, below_drewN (below_alloc1 _ _) _⟩
set_option maxHeartbeats 1000000 in
theorem tvalid_bad (h : Nat) (l i wd : Int) (h1 : 1 ≤ h) (h8 : h ≤ 8) (hb : l < 0 ∨ (48 : Int) / h < l ∨ i < 0 ∨ 281474976710656 < i ∨ wd < 1 ∨ (2 : Int) ^ h < wd) (w : World) :
    Calls Tryz.prog 94 #[.agg #[.int .i64 (h : Int), .int .i64 l, .int .i64 i, .int .i64 wd]] w fun e w' => e = .returned (.bool false) ∧ Below w.heap.size w w' := by
  obtain ⟨b1, q1⟩ : ∃ b, decide (l < 0) = b := ⟨_, rfl⟩
  obtain ⟨b2, q2⟩ : ∃ b, decide ((48 : Int) / h < l) = b := ⟨_, rfl⟩
  obtain ⟨b3, q3⟩ : ∃ b, decide (i < 0) = b := ⟨_, rfl⟩
  obtain ⟨b4, q4⟩ : ∃ b, decide (281474976710656 < i) = b := ⟨_, rfl⟩
  obtain ⟨b5, q5⟩ : ∃ b, decide (wd < 1) = b := ⟨_, rfl⟩
  obtain ⟨b6, q6⟩ : ∃ b, decide ((2 : Int) ^ h < wd) = b := ⟨_, rfl⟩
  have hf : Falls [b1, b2, b3, b4, b5, b6] := by
    simp only [← q1, ← q2, ← q3, ← q4, ← q5, ← q6, Falls, decide_eq_true_eq, decide_eq_false_iff_not]
    omega
  have q0 : ((h : Int) == 0) = false := by simp; omega
  have ht : (48 : Int).tdiv h = 48 / h := Int.tdiv_eq_ediv_of_nonneg (by omega)
  have hd : (48 : Int) / h ≤ 48 := Int.ediv_le_self _ (by omega)
  have hd0 : 0 ≤ (48 : Int) / h := Int.ediv_nonneg (by omega) (by omega)
  have q2b : IntKind.i64.wrap ((48 : Int).tdiv h) = (48 : Int) / h := by rw [ht, IntKind.wrap_i64]; omega
  have hp : (2 : Int) ^ h ≤ 256 := by
    have := Nat.pow_le_pow_right (show 0 < 2 by omega) h8
    have e : ((2 ^ h : Nat) : Int) = 2 ^ h := by simp
    omega
  have hp0 : (0 : Int) ≤ 2 ^ h := Int.pow_nonneg (by omega)
  have q6b : IntKind.i64.wrap ((2 : Int) ^ h) = 2 ^ h := by rw [IntKind.wrap_i64]; omega
  clear hb hp hp0 hd hd0 ht
  simp only [Falls] at hf
  rcases hf with rfl | ⟨rfl, rfl | ⟨rfl, rfl | ⟨rfl, rfl | ⟨rfl, rfl | ⟨rfl, rfl | ⟨rfl, hf⟩⟩⟩⟩⟩⟩
  all_goals first | exact hf.elim | skip
  all_goals
    go_enter Tryz.func94, Tryz.ntmps94
    go_wp2
    go_quiet ((go_at_call 147; exact Calls.quiet_of_same (height_ok _ (by omega) (by omega) _)))
    go_wp2
    go_ret
    exact ⟨rfl, below_drewN (below_alloc1 _ _) _⟩
theorem le_div_iff (h : Nat) (h1 : 1 ≤ h) (l : Int) : (48 : Int) / h < l ↔ 48 < l * h := by
  have := @Int.lt_ediv_iff_mul_lt
  constructor
  · intro hx
    have := (Int.ediv_lt_iff_lt_mul (a := 48) (b := l) (c := (h : Int)) (by omega)).1 hx
    omega
  · intro hx
    exact (Int.ediv_lt_iff_lt_mul (a := 48) (b := l) (c := (h : Int)) (by omega)).2 hx
set_option maxHeartbeats 1000000 in
theorem tvalid_in (h : Nat) (l i wd : Int) (h1 : 1 ≤ h) (h8 : h ≤ 8) (hl : 0 ≤ l) (hl2 : l * h ≤ 48) (hi : 0 ≤ i) (hi2 : i ≤ 281474976710656) (hw : 1 ≤ wd) (hw2 : wd ≤ (2 : Int) ^ h) (w : World) :
    Calls Tryz.prog 94 #[.agg #[.int .i64 (h : Int), .int .i64 l, .int .i64 i, .int .i64 wd]] w fun e w' => e = .returned (.bool (nodeV (l * h) (i * 2 ^ h + wd - 1))) ∧ Below w.heap.size w w' := by
  have q1 : decide (l < 0) = false := by simpa using hl
  have q2 : decide ((48 : Int) / h < l) = false := by rw [decide_eq_false_iff_not, le_div_iff h h1]; omega
  have q3 : decide (i < 0) = false := by simpa using hi
  have q4 : decide (281474976710656 < i) = false := by simpa using hi2
  have q5 : decide (wd < 1) = false := by simpa using hw
  have q6 : decide ((2 : Int) ^ h < wd) = false := by simpa using hw2
  have q0 : ((h : Int) == 0) = false := by simp; omega
  have ht : (48 : Int).tdiv h = 48 / h := Int.tdiv_eq_ediv_of_nonneg (by omega)
  have hd : (48 : Int) / h ≤ 48 := Int.ediv_le_self _ (by omega)
  have hd0 : 0 ≤ (48 : Int) / h := Int.ediv_nonneg (by omega) (by omega)
  have q2b : IntKind.i64.wrap ((48 : Int).tdiv h) = (48 : Int) / h := by rw [ht, IntKind.wrap_i64]; omega
  have hp : (2 : Int) ^ h ≤ 256 := by
    have := Nat.pow_le_pow_right (show 0 < 2 by omega) h8
    have e : ((2 ^ h : Nat) : Int) = 2 ^ h := by simp
    omega
  have hp0 : (0 : Int) ≤ 2 ^ h := Int.pow_nonneg (by omega)
  have q6b : IntKind.i64.wrap ((2 : Int) ^ h) = 2 ^ h := by rw [IntKind.wrap_i64]; omega
  have hm0 : 0 ≤ i * 2 ^ h := Int.mul_nonneg hi hp0
  have hm1 : i * 2 ^ h ≤ 281474976710656 * 256 := Int.le_trans (Int.mul_le_mul_of_nonneg_right hi2 hp0) (Int.mul_le_mul_of_nonneg_left hp (by omega))
  have hlm : 0 ≤ l * h := Int.mul_nonneg hl (by omega)
  have u1 : IntKind.i64.wrap (l * h) = l * h := by rw [IntKind.wrap_i64]; omega
  have u2 : wrap64 (l * h) = l * h := by unfold wrap64; omega
  have v1 : IntKind.i64.wrap (i * 2 ^ h) = i * 2 ^ h := by rw [IntKind.wrap_i64]; omega
  have v2 : wrap64 (i * 2 ^ h) = i * 2 ^ h := by unfold wrap64; omega
  have s1 : wrap64 (i * 2 ^ h + wd) = i * 2 ^ h + wd := by unfold wrap64; omega
  have s2 : wrap64 (i * 2 ^ h + wd - 1) = i * 2 ^ h + wd - 1 := by unfold wrap64; omega
  have s3 : IntKind.i64.wrap (i * 2 ^ h + wd) = i * 2 ^ h + wd := by rw [IntKind.wrap_i64]; omega
  have s4 : IntKind.i64.wrap (i * 2 ^ h + wd - 1) = i * 2 ^ h + wd - 1 := by rw [IntKind.wrap_i64]; omega
  clear hm0 hm1 hlm hp hp0 hd hd0 ht hl hl2 hi hi2 hw hw2
  go_enter Tryz.func94, Tryz.ntmps94
  go_wp2
  go_quiet ((go_at_call 147; exact Calls.quiet_of_same (height_ok _ (by omega) (by omega) _)))
  go_wp2
  have hB : Below w.heap.size w ((w.alloc (.cells #[.int .i64 (h : Int), .int .i64 l, .int .i64 i, .int .i64 wd] 69)).drewN nq) := below_drewN (below_alloc1 _ _) _
  have hn := heap_alloc_new w (.cells #[.int .i64 (h : Int), .int .i64 l, .int .i64 i, .int .i64 wd] 69)
  have c0 : ((w.alloc (.cells #[.int .i64 (h : Int), .int .i64 l, .int .i64 i, .int .i64 wd] 69)).drewN nq).cell? ⟨w.heap.size, 0, none⟩ = some (.int .i64 (h : Int)) := cell_of_row _ w.heap.size 0 _ _ (0, 0) hn
  have c1 : ((w.alloc (.cells #[.int .i64 (h : Int), .int .i64 l, .int .i64 i, .int .i64 wd] 69)).drewN nq).cell? ⟨w.heap.size, 1, none⟩ = some (.int .i64 l) := cell_of_row _ w.heap.size 1 _ _ (0, 0) hn
  have c2 : ((w.alloc (.cells #[.int .i64 (h : Int), .int .i64 l, .int .i64 i, .int .i64 wd] 69)).drewN nq).cell? ⟨w.heap.size, 2, none⟩ = some (.int .i64 i) := cell_of_row _ w.heap.size 2 _ _ (0, 0) hn
  have c3 : ((w.alloc (.cells #[.int .i64 (h : Int), .int .i64 l, .int .i64 i, .int .i64 wd] 69)).drewN nq).cell? ⟨w.heap.size, 3, none⟩ = some (.int .i64 wd) := cell_of_row _ w.heap.size 3 _ _ (0, 0) hn
  clear hn
  generalize (w.alloc (.cells #[.int .i64 (h : Int), .int .i64 l, .int .i64 i, .int .i64 wd] 69)).drewN nq = W at hB c0 c1 c2 c3 ⊢
  go_still_tail 15, (by kernel_rfl)
  go_wp2_with (go_at_call 77; refine (node_valid _ _ _).mono ?_; rintro e w2 ⟨rfl, hB2⟩)
  go_ret
  exact ⟨rfl, hB.trans ((below_drewN (Below.refl _ W) 1).trans (hB2.mono hB.size))⟩
theorem le_div8 (h : Nat) (h1 : 1 ≤ h) (l : Int) : ¬ (48 : Int) / h < l ↔ l * h ≤ 48 := by rw [le_div_iff h h1]; omega
/-- The program's. -/
theorem tile_valid (h l i wd : Int) (w : World) :
    Calls Tryz.prog 94 #[.agg #[.int .i64 h, .int .i64 l, .int .i64 i, .int .i64 wd]] w fun e w' => e = .returned (.bool (tileV h l i wd)) ∧ Below w.heap.size w w' := by
  by_cases hh : h < 1 ∨ 8 < h
  · have e : tileV h l i wd = false := by unfold tileV; rw [decide_eq_false_iff_not]; omega
    rw [e]; exact tvalid_height h l i wd hh w
  · obtain ⟨n, rfl⟩ := Int.eq_ofNat_of_zero_le (show 0 ≤ h by omega)
    have hp0 : (1 : Int) ≤ 2 ^ n := Int.add_one_le_of_lt (Int.pow_pos (by omega))
    have hp : (2 : Int) ^ n ≤ 256 := by
      have := Nat.pow_le_pow_right (show 0 < 2 by omega) (show n ≤ 8 by omega)
      have e : ((2 ^ n : Nat) : Int) = 2 ^ n := by simp
      omega
    by_cases hb : l < 0 ∨ (48 : Int) / n < l ∨ i < 0 ∨ 281474976710656 < i ∨ wd < 1 ∨ (2 : Int) ^ n < wd
    · have e : tileV n l i wd = false := by
        unfold tileV
        rw [decide_eq_false_iff_not]
        rintro ⟨a1, a2, a3, a4, a5, a6, a7, a8⟩
        rw [Int.toNat_natCast] at a7 a8
        rcases hb with c | c | c | c | c | c
        · omega
        · rw [le_div_iff n (by omega)] at c; omega
        · omega
        · have : (281474976710656 : Int) / 2 ^ (l * n).toNat ≤ 281474976710656 := Int.ediv_le_self _ (by omega)
          have : i * 1 ≤ i * 2 ^ n := Int.mul_le_mul_of_nonneg_left hp0 (by omega)
          omega
        · omega
        · omega
      rw [e]; exact tvalid_bad n l i wd (by omega) (by omega) hb w
    · have hlm := (le_div8 n (by omega) l).1 (by omega)
      have e : tileV n l i wd = nodeV (l * n) (i * 2 ^ n + wd - 1) := by
        have hlm0 : 0 ≤ l * n := Int.mul_nonneg (by omega) (by omega)
        have him0 : 0 ≤ i * 2 ^ n := Int.mul_nonneg (by omega) (by omega)
        unfold tileV nodeV
        rw [decide_eq_decide, Int.toNat_natCast]
        constructor
        · rintro ⟨a1, a2, a3, a4, a5, a6, a7, a8⟩
          exact ⟨hlm0, a4, by omega, a8⟩
        · rintro ⟨a1, a2, a3, a4⟩
          exact ⟨by omega, by omega, by omega, by omega, by omega, by omega, by omega, a4⟩
      rw [e]; exact tvalid_in n l i wd (by omega) (by omega) (by omega) hlm (by omega) (by omega) (by omega) (by omega) w
/-! ### the reference's -/
theorem rfull (h : Nat) (h8 : h ≤ 8) (w : World) : Calls Tryz.prog 87 #[.int .i64 (h : Int)] w fun e w' => e = .returned (.int .i64 (2 ^ h)) ∧ w' = w := by
  have hp : (2 : Int) ^ h ≤ 256 := by
    have := Nat.pow_le_pow_right (show 0 < 2 by omega) h8
    have e : ((2 ^ h : Nat) : Int) = 2 ^ h := by simp
    omega
  have hp0 : (0 : Int) ≤ 2 ^ h := Int.pow_nonneg (by omega)
  have q6b : IntKind.i64.wrap ((2 : Int) ^ h) = 2 ^ h := by rw [IntKind.wrap_i64]; omega
  have q6c : wrap64 ((2 : Int) ^ h) = 2 ^ h := by unfold wrap64; omega
  have q5 : IntKind.u64.wrap (h : Int) = (h : Int) := by rw [IntKind.wrap_u64]; omega
  clear hp hp0
  go_enter Tryz.func87, Tryz.ntmps87
  go_wp2
  go_ret
  exact ⟨rfl, rfl⟩
theorem rtvalid_height (h l i wd : Int) (hb : h < 1 ∨ 8 < h) (w : World) :
    Calls Tryz.prog 97 #[.agg #[.int .i64 h, .int .i64 l, .int .i64 i, .int .i64 wd]] w fun e w' => e = .returned (.bool false) ∧ Below w.heap.size w w' := by
  go_enter Tryz.func97, Tryz.ntmps97
  go_wp2
  go_quiet ((go_at_call 142; exact Calls.quiet_of_same (rheight_bad _ hb _)))
  go_wp2
  go_ret
  exact ⟨rfl, below_drewN (below_alloc1 _ _) _⟩
set_option maxHeartbeats 1000000 in
theorem rtvalid_bad1 (h : Nat) (l i wd : Int) (h1 : 1 ≤ h) (h8 : h ≤ 8) (hb : l < 0 ∨ 48 < l ∨ i < 0 ∨ wd < 1 ∨ (2 : Int) ^ h < wd) (w : World) :
    Calls Tryz.prog 97 #[.agg #[.int .i64 (h : Int), .int .i64 l, .int .i64 i, .int .i64 wd]] w fun e w' => e = .returned (.bool false) ∧ Below w.heap.size w w' := by
  obtain ⟨b1, q1⟩ : ∃ b, decide (l < 0) = b := ⟨_, rfl⟩
  obtain ⟨b2, q2⟩ : ∃ b, decide (48 < l) = b := ⟨_, rfl⟩
  obtain ⟨b3, q3⟩ : ∃ b, decide (i < 0) = b := ⟨_, rfl⟩
  obtain ⟨b4, q4⟩ : ∃ b, decide (wd < 1) = b := ⟨_, rfl⟩
  obtain ⟨b5, q5⟩ : ∃ b, decide ((2 : Int) ^ h < wd) = b := ⟨_, rfl⟩
  have hf : Falls [b1, b2, b3, b4, b5] := by
    simp only [← q1, ← q2, ← q3, ← q4, ← q5, Falls, decide_eq_true_eq, decide_eq_false_iff_not]
    omega
  have q0 : ((h : Int) == 0) = false := by simp; omega
  have hp : (2 : Int) ^ h ≤ 256 := by
    have := Nat.pow_le_pow_right (show 0 < 2 by omega) h8
    have e : ((2 ^ h : Nat) : Int) = 2 ^ h := by simp
    omega
  have hp0 : (0 : Int) ≤ 2 ^ h := Int.pow_nonneg (by omega)
  have q6b : IntKind.i64.wrap ((2 : Int) ^ h) = 2 ^ h := by rw [IntKind.wrap_i64]; omega
  have q6c : IntKind.u64.wrap (h : Int) = (h : Int) := by rw [IntKind.wrap_u64]; omega
  clear hb hp hp0
  simp only [Falls] at hf
  rcases hf with rfl | ⟨rfl, rfl | ⟨rfl, rfl | ⟨rfl, rfl | ⟨rfl, rfl | ⟨rfl, hf⟩⟩⟩⟩⟩
  all_goals first | exact hf.elim | skip
  all_goals
    go_enter Tryz.func97, Tryz.ntmps97
    go_wp2
    go_quiet ((first | (go_at_call 142; exact Calls.quiet_of_same (rheight_ok _ (by omega) (by omega) _)) | (go_at_call 87; exact Calls.quiet_of_same (rfull h h8 _))))
    go_wp2
    go_ret
    exact ⟨rfl, below_drewN (below_alloc1 _ _) _⟩
set_option maxHeartbeats 1000000 in
theorem rtvalid_bad2 (h : Nat) (l i wd : Int) (h1 : 1 ≤ h) (h8 : h ≤ 8) (hl : 0 ≤ l) (hl48 : l ≤ 48) (hi : 0 ≤ i) (hw : 1 ≤ wd) (hw2 : wd ≤ (2 : Int) ^ h) (hb : 48 < l * h ∨ (281474976710656 : Int) / 2 ^ h < i) (w : World) :
    Calls Tryz.prog 97 #[.agg #[.int .i64 (h : Int), .int .i64 l, .int .i64 i, .int .i64 wd]] w fun e w' => e = .returned (.bool false) ∧ Below w.heap.size w w' := by
  have q1 : decide (l < 0) = false := by simpa using hl
  have q2 : decide (48 < l) = false := by simpa using hl48
  have q3 : decide (i < 0) = false := by simpa using hi
  have q4 : decide (wd < 1) = false := by simpa using hw
  have q5 : decide ((2 : Int) ^ h < wd) = false := by simpa using hw2
  obtain ⟨b6, q6⟩ : ∃ b, decide (48 < l * h) = b := ⟨_, rfl⟩
  obtain ⟨b7, q7⟩ : ∃ b, decide ((281474976710656 : Int) / 2 ^ h < i) = b := ⟨_, rfl⟩
  have hf : Falls [b6, b7] := by
    simp only [← q6, ← q7, Falls, decide_eq_true_eq, decide_eq_false_iff_not]
    omega
  have q0 : ((h : Int) == 0) = false := by simp; omega
  have hp : (2 : Int) ^ h ≤ 256 := by
    have := Nat.pow_le_pow_right (show 0 < 2 by omega) h8
    have e : ((2 ^ h : Nat) : Int) = 2 ^ h := by simp
    omega
  have hp0 : (0 : Int) ≤ 2 ^ h := Int.pow_nonneg (by omega)
  have q6b : IntKind.i64.wrap ((2 : Int) ^ h) = 2 ^ h := by rw [IntKind.wrap_i64]; omega
  have q6c : IntKind.u64.wrap (h : Int) = (h : Int) := by rw [IntKind.wrap_u64]; omega
  have hlm : 0 ≤ l * h := Int.mul_nonneg hl (by omega)
  have hlm2 : l * h ≤ 48 * 8 := Int.le_trans (Int.mul_le_mul_of_nonneg_right hl48 (by omega)) (Int.mul_le_mul_of_nonneg_left (by omega) (by omega))
  have u1 : IntKind.i64.wrap (l * h) = l * h := by rw [IntKind.wrap_i64]; omega
  have u2 : wrap64 (l * h) = l * h := by unfold wrap64; omega
  clear hb hp hp0 hlm hlm2 hl hl48 hi hw hw2
  simp only [Falls] at hf
  rcases hf with rfl | ⟨rfl, rfl | ⟨rfl, hf⟩⟩
  all_goals first | exact hf.elim | skip
  all_goals
    go_enter Tryz.func97, Tryz.ntmps97
    go_wp2
    go_quiet ((first | (go_at_call 142; exact Calls.quiet_of_same (rheight_ok _ (by omega) (by omega) _)) | (go_at_call 87; exact Calls.quiet_of_same (rfull h h8 _))))
    go_wp2
    go_ret
    exact ⟨rfl, below_drewN (below_alloc1 _ _) _⟩
set_option maxHeartbeats 1000000 in
theorem rtvalid_in (h : Nat) (l i wd : Int) (h1 : 1 ≤ h) (h8 : h ≤ 8) (hl : 0 ≤ l) (hl48 : l ≤ 48) (hi : 0 ≤ i) (hw : 1 ≤ wd) (hw2 : wd ≤ (2 : Int) ^ h) (hlh : l * h ≤ 48) (hih : i ≤ (281474976710656 : Int) / 2 ^ h) (w : World) :
    Calls Tryz.prog 97 #[.agg #[.int .i64 (h : Int), .int .i64 l, .int .i64 i, .int .i64 wd]] w fun e w' => e = .returned (.bool (nodeV (l * h) (i * 2 ^ h + wd - 1))) ∧ Below w.heap.size w w' := by
  have q1 : decide (l < 0) = false := by simpa using hl
  have q2 : decide (48 < l) = false := by simpa using hl48
  have q3 : decide (i < 0) = false := by simpa using hi
  have q4 : decide (wd < 1) = false := by simpa using hw
  have q5 : decide ((2 : Int) ^ h < wd) = false := by simpa using hw2
  have q6 : decide (48 < l * h) = false := by simpa using hlh
  have q7 : decide ((281474976710656 : Int) / 2 ^ h < i) = false := by simpa using hih
  have hi2 : i ≤ 281474976710656 := Int.le_trans hih (Int.ediv_le_self _ (by omega))
  have q0 : ((h : Int) == 0) = false := by simp; omega
  have hp : (2 : Int) ^ h ≤ 256 := by
    have := Nat.pow_le_pow_right (show 0 < 2 by omega) h8
    have e : ((2 ^ h : Nat) : Int) = 2 ^ h := by simp
    omega
  have hp0 : (0 : Int) ≤ 2 ^ h := Int.pow_nonneg (by omega)
  have q6b : IntKind.i64.wrap ((2 : Int) ^ h) = 2 ^ h := by rw [IntKind.wrap_i64]; omega
  have q6c : IntKind.u64.wrap (h : Int) = (h : Int) := by rw [IntKind.wrap_u64]; omega
  have hm0 : 0 ≤ i * 2 ^ h := Int.mul_nonneg hi hp0
  have hm1 : i * 2 ^ h ≤ 281474976710656 * 256 := Int.le_trans (Int.mul_le_mul_of_nonneg_right hi2 hp0) (Int.mul_le_mul_of_nonneg_left hp (by omega))
  have hlm : 0 ≤ l * h := Int.mul_nonneg hl (by omega)
  have u1 : IntKind.i64.wrap (l * h) = l * h := by rw [IntKind.wrap_i64]; omega
  have u2 : wrap64 (l * h) = l * h := by unfold wrap64; omega
  have v1 : IntKind.i64.wrap (i * 2 ^ h) = i * 2 ^ h := by rw [IntKind.wrap_i64]; omega
  have v2 : wrap64 (i * 2 ^ h) = i * 2 ^ h := by unfold wrap64; omega
  have s1 : wrap64 (i * 2 ^ h + wd) = i * 2 ^ h + wd := by unfold wrap64; omega
  have s2 : wrap64 (i * 2 ^ h + wd - 1) = i * 2 ^ h + wd - 1 := by unfold wrap64; omega
  have s3 : IntKind.i64.wrap (i * 2 ^ h + wd) = i * 2 ^ h + wd := by rw [IntKind.wrap_i64]; omega
  have s4 : IntKind.i64.wrap (i * 2 ^ h + wd - 1) = i * 2 ^ h + wd - 1 := by rw [IntKind.wrap_i64]; omega
  clear hm0 hm1 hlm hp hp0 hl hl48 hi hi2 hw hw2 hlh hih
  go_enter Tryz.func97, Tryz.ntmps97
  go_wp2
  go_quiet ((first | (go_at_call 142; exact Calls.quiet_of_same (rheight_ok _ (by omega) (by omega) _)) | (go_at_call 87; exact Calls.quiet_of_same (rfull h h8 _))))
  have hB : Below w.heap.size w ((w.alloc (.cells #[.int .i64 (h : Int), .int .i64 l, .int .i64 i, .int .i64 wd] 69)).drewN nq) := below_drewN (below_alloc1 _ _) _
  have hn := heap_alloc_new w (.cells #[.int .i64 (h : Int), .int .i64 l, .int .i64 i, .int .i64 wd] 69)
  have c0 : ((w.alloc (.cells #[.int .i64 (h : Int), .int .i64 l, .int .i64 i, .int .i64 wd] 69)).drewN nq).cell? ⟨w.heap.size, 0, none⟩ = some (.int .i64 (h : Int)) := cell_of_row _ w.heap.size 0 _ _ (0, 0) hn
  have c1 : ((w.alloc (.cells #[.int .i64 (h : Int), .int .i64 l, .int .i64 i, .int .i64 wd] 69)).drewN nq).cell? ⟨w.heap.size, 1, none⟩ = some (.int .i64 l) := cell_of_row _ w.heap.size 1 _ _ (0, 0) hn
  have c2 : ((w.alloc (.cells #[.int .i64 (h : Int), .int .i64 l, .int .i64 i, .int .i64 wd] 69)).drewN nq).cell? ⟨w.heap.size, 2, none⟩ = some (.int .i64 i) := cell_of_row _ w.heap.size 2 _ _ (0, 0) hn
  have c3 : ((w.alloc (.cells #[.int .i64 (h : Int), .int .i64 l, .int .i64 i, .int .i64 wd] 69)).drewN nq).cell? ⟨w.heap.size, 3, none⟩ = some (.int .i64 wd) := cell_of_row _ w.heap.size 3 _ _ (0, 0) hn
  clear hn
  generalize (w.alloc (.cells #[.int .i64 (h : Int), .int .i64 l, .int .i64 i, .int .i64 wd] 69)).drewN nq = W at hB c0 c1 c2 c3 ⊢
  go_wp2_with (go_at_call 85; refine (rnode_valid _ _ _).mono ?_; rintro e w2 ⟨rfl, hB2⟩)
  go_ret
  exact ⟨rfl, below_then hB hB2⟩
/-- The reference's. -/
theorem rtile_valid (h l i wd : Int) (w : World) :
    Calls Tryz.prog 97 #[.agg #[.int .i64 h, .int .i64 l, .int .i64 i, .int .i64 wd]] w fun e w' => e = .returned (.bool (tileV h l i wd)) ∧ Below w.heap.size w w' := by
  by_cases hh : h < 1 ∨ 8 < h
  · have e : tileV h l i wd = false := by unfold tileV; rw [decide_eq_false_iff_not]; omega
    rw [e]; exact rtvalid_height h l i wd hh w
  · obtain ⟨n, rfl⟩ := Int.eq_ofNat_of_zero_le (show 0 ≤ h by omega)
    have hp0 : (1 : Int) ≤ 2 ^ n := Int.add_one_le_of_lt (Int.pow_pos (by omega))
    by_cases hb : l < 0 ∨ 48 < l ∨ i < 0 ∨ wd < 1 ∨ (2 : Int) ^ n < wd
    · have e : tileV n l i wd = false := by
        unfold tileV
        rw [decide_eq_false_iff_not]
        rintro ⟨a1, a2, a3, a4, a5, a6, a7, a8⟩
        rw [Int.toNat_natCast] at a7 a8
        have : l * 1 ≤ l * n := Int.mul_le_mul_of_nonneg_left (by omega) a3
        omega
      rw [e]; exact rtvalid_bad1 n l i wd (by omega) (by omega) hb w
    · by_cases hb2 : 48 < l * n ∨ (281474976710656 : Int) / 2 ^ n < i
      · have e : tileV n l i wd = false := by
          unfold tileV
          rw [decide_eq_false_iff_not]
          rintro ⟨a1, a2, a3, a4, a5, a6, a7, a8⟩
          rw [Int.toNat_natCast] at a7 a8
          rcases hb2 with c | c
          · omega
          · have h1 : (281474976710656 : Int) / 2 ^ (l * n).toNat ≤ 281474976710656 := Int.ediv_le_self _ (by omega)
            have h2 := (Int.ediv_lt_iff_lt_mul (a := 281474976710656) (b := i) (c := (2 : Int) ^ n) (by omega)).1 c
            omega
        rw [e]; exact rtvalid_bad2 n l i wd (by omega) (by omega) (by omega) (by omega) (by omega) (by omega) (by omega) hb2 w
      · have e : tileV n l i wd = nodeV (l * n) (i * 2 ^ n + wd - 1) := by
          have hlm0 : 0 ≤ l * n := Int.mul_nonneg (by omega) (by omega)
          have him0 : 0 ≤ i * 2 ^ n := Int.mul_nonneg (by omega) (by omega)
          unfold tileV nodeV
          rw [decide_eq_decide, Int.toNat_natCast]
          constructor
          · rintro ⟨a1, a2, a3, a4, a5, a6, a7, a8⟩
            exact ⟨hlm0, a4, by omega, a8⟩
          · rintro ⟨a1, a2, a3, a4⟩
            exact ⟨by omega, by omega, by omega, by omega, by omega, by omega, by omega, a4⟩
        rw [e]; exact rtvalid_in n l i wd (by omega) (by omega) (by omega) (by omega) (by omega) (by omega) (by omega) (by omega) (by omega) w
end Go.Proofs.YtjllkmkngjdjjaaGreatDoor
namespace Go.Proofs.YtjllkmkngjdjjaaGreatDoor
open Go.RowKit
set_option maxRecDepth 100000

def wordL : List UInt8 := [108, 101, 97, 102, 47]
/-- P15.1. -/
def leafName (h n : Nat) : List UInt8 := wordL ++ Lib.decDigits h ++ [47] ++ padded 6 n

theorem str_tail (l m : List UInt8) : (⟨l.toArray⟩ ++ ⟨m.toArray⟩ : ByteArray) = ⟨(l ++ m).toArray⟩ := str_cat l m _ rfl

theorem folder_calls (h : Nat) (hh : h ≤ 8) (w : World) (htab : Lib.TabIs Tryz.prog w "internal/strconv.uint64pow10" .u64 Lib.pow10Tab) :
    Calls Tryz.prog 170 #[.int .i64 (h : Int)] w fun e w' => e = .returned (.string ⟨(wordL ++ Lib.decDigits h ++ [47]).toArray⟩) ∧ Below w.heap.size w w' := by
  have KI := Lib.hid (itoa_calls h h rfl (by omega) w htab)
  have hl := digits_le19 h (by omega)
  generalize Lib.decDigits h = d at KI hl ⊢
  clear htab
  go_enter Tryz.func170, Tryz.ntmps170
  go_wp2_with (go_at_call 137; refine KI.out.mono ?_; rintro e w1 ⟨rfl, hB1⟩)
  go_ret
  refine ⟨?_, hB1⟩
  rw [← str_tail, ← str_tail]
  rfl
theorem tab_below {w w1 : World} (htab : Lib.TabIs Tryz.prog w "internal/strconv.uint64pow10" .u64 Lib.pow10Tab) (hb : Below w.heap.size w w1) : Lib.TabIs Tryz.prog w1 "internal/strconv.uint64pow10" .u64 Lib.pow10Tab :=
  Lib.tabBelow_of_tabIs htab w1 hb
theorem bfile_calls (h n : Nat) (a : Int) (ha : a = (n : Int)) (hh : h ≤ 8) (hn : n ≤ 1048576) (w : World) (htab : Lib.TabIs Tryz.prog w "internal/strconv.uint64pow10" .u64 Lib.pow10Tab) :
    Calls Tryz.prog 118 #[.int .i64 (h : Int), .int .i64 a] w fun e w' => e = .returned (.string ⟨(leafName h n).toArray⟩) ∧ Below w.heap.size w w' := by
  subst ha
  have KI := Lib.hid (itoa_calls n n rfl (by omega) w htab)
  have KF := fun {w1 : World} (hb : Below w.heap.size w w1) => Lib.hid (folder_calls h hh w1 (tab_below htab hb))
  have HP : Hid (leafName h n = wordL ++ Lib.decDigits h ++ [47] ++ (List.replicate (6 - (Lib.decDigits n).length) 48 ++ Lib.decDigits n)) := rfl
  have hl := digits_le19 n (by omega)
  have hf : (wordL ++ Lib.decDigits h ++ [47]).length ≤ 30 := by have := digits_le19 h (by omega); simp [wordL]; omega
  generalize Lib.decDigits n = d at KI HP hl
  generalize wordL ++ Lib.decDigits h ++ [47] = f at KF HP hf
  clear htab
  go_enter Tryz.func118, Tryz.ntmps118
  go_wp2_with (first
    | (go_at_call 137; refine KI.out.mono ?_; rintro e w1 ⟨rfl, hB1⟩)
    | (go_at_call 170; refine (KF hB1).out.mono ?_; rintro e w2 ⟨rfl, hB2⟩)
    | (go_at_call 138; refine (noughts_calls (6 - d.length) _ ?_ (by omega) _).mono ?_; (· omega); rintro e w3 ⟨rfl, hB3⟩))
  go_ret
  refine ⟨?_, below_then (below_then hB1 hB2) hB3⟩
  rw [HP.out, ← List.append_assoc, ← str_tail, ← str_tail]
  simp
theorem bname_bad (h ix : Int) (hb : h < 1 ∨ 8 < h ∨ ix < 0 ∨ 1048576 ≤ ix) (w : World) : Calls Tryz.prog 113 #[.int .i64 h, .int .i64 ix] w fun e w' => e = .returned (.tuple #[.string ⟨#[]⟩, .int .i64 2]) ∧ w = w' := by
  go_enter Tryz.func113, Tryz.ntmps113
  go_wp2
  all_goals
    go_ret2
    exact ⟨rfl, rfl⟩
theorem bname_ok (h ix : Nat) (h1 : 1 ≤ h) (h8 : h ≤ 8) (hix : ix < 1048576) (w : World) (htab : Lib.TabIs Tryz.prog w "internal/strconv.uint64pow10" .u64 Lib.pow10Tab) :
    Calls Tryz.prog 113 #[.int .i64 (h : Int), .int .i64 (ix : Int)] w fun e w' => e = .returned (.tuple #[.string ⟨(leafName h (ix / 2 ^ h)).toArray⟩, .int .i64 0]) ∧ Below w.heap.size w w' := by
  go_enter Tryz.func113, Tryz.ntmps113
  go_wp2_with (first | (go_at_call 168; go_in) | (go_at_call 118; refine (bfile_calls h (ix / 2 ^ h) _ ?_ h8 ?_ _ htab).mono ?_; (· simp); (· exact Nat.le_trans (Nat.div_le_self _ _) (by omega)); rintro e w1 ⟨rfl, hB1⟩))
  go_ret2
  exact ⟨rfl, hB1⟩
end Go.Proofs.YtjllkmkngjdjjaaGreatDoor
