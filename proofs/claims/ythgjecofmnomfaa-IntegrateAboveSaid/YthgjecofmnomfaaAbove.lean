/- WALK of the law IntegrateAbove: for every height, level and number of leaves the program's count of a level's digests is the document's. No condition. -/
import Derived.Test.YthgjecofmnomfaaLib
namespace Go.Proofs.Ythgjecofmnomfaa
open Go.RowKit

def heightB (h : Int) : Bool := decide (1 ≤ h ∧ h ≤ 8)
theorem height_calls (h : Int) (w : World) : Calls Try.prog 21 #[.int .i64 h] w fun e w' => e = .returned (.bool (heightB h)) ∧ w = w' := by
  by_cases h1 : 1 ≤ h
  · by_cases h2 : h ≤ 8
    · have HB : Hid (heightB h = true) := decide_eq_true ⟨h1, h2⟩
      go_enter Try.func21, Try.ntmps21
      go_wp2
      go_ret
      exact ⟨by rw [HB.out]; rfl, rfl⟩
    · have HB : Hid (heightB h = false) := decide_eq_false (by omega)
      go_enter Try.func21, Try.ntmps21
      go_wp2
      go_ret
      exact ⟨by rw [HB.out]; rfl, rfl⟩
  · have HB : Hid (heightB h = false) := decide_eq_false (by omega)
    go_enter Try.func21, Try.ntmps21
    go_wp2
    go_ret
    exact ⟨by rw [HB.out]; rfl, rfl⟩
theorem rheight_calls (h : Int) (w : World) : Calls Try.prog 23 #[.int .i64 h] w fun e w' => e = .returned (.bool (heightB h)) ∧ w = w' := by
  by_cases h1 : 1 ≤ h
  · by_cases h2 : h ≤ 8
    · have HB : Hid (heightB h = true) := decide_eq_true ⟨h1, h2⟩
      go_enter Try.func23, Try.ntmps23
      go_wp2
      go_ret
      exact ⟨by rw [HB.out]; rfl, rfl⟩
    · have HB : Hid (heightB h = false) := decide_eq_false (by omega)
      go_enter Try.func23, Try.ntmps23
      go_wp2
      go_ret
      exact ⟨by rw [HB.out]; rfl, rfl⟩
  · have HB : Hid (heightB h = false) := decide_eq_false (by omega)
    go_enter Try.func23, Try.ntmps23
    go_wp2
    go_ret
    exact ⟨by rw [HB.out]; rfl, rfl⟩

/-- How many digests a level has over n leaves. -/
def overN (h l n : Nat) : Nat := n / 2 ^ (h * l)

theorem overN_big (h l n : Nat) (h1 : 1 ≤ h) (hl : 48 / h < l) (hn : n ≤ 1048576) : overN h l n = 0 := by
  unfold overN
  have h2 : 48 < h * (48 / h + 1) := by
    have := Nat.lt_mul_div_succ 48 (show 0 < h by omega)
    exact this
  have h3 : h * (48 / h + 1) ≤ h * l := Nat.mul_le_mul_left _ (by omega)
  refine Nat.div_eq_of_lt ?_
  refine Nat.lt_of_le_of_lt hn ?_
  refine Nat.lt_of_lt_of_le (show 1048576 < 2 ^ 41 by decide) (Nat.pow_le_pow_right (by omega) (by omega))
theorem overN_succ (h l n : Nat) : overN h (l + 1) n = overN h l n / 2 ^ h := by
  unfold overN
  rw [Nat.div_div_eq_div_mul, ← Nat.pow_add]
  congr 2

theorem over_calls (h l n : Nat) (h1 : 1 ≤ h) (h8 : h ≤ 8) (hn : n ≤ 1048576) (w : World) :
    Calls Try.prog 22 #[.int .i64 h, .int .i64 l, .int .i64 n] w fun e w' => e = .returned (.int .i64 (overN h l n : Nat)) ∧ w = w' := by
  have hd : (48 : Int) / (h : Int) = ((48 / h : Nat) : Int) := by simp
  have hd1 : 48 / h ≤ 48 := Nat.div_le_self _ _
  by_cases hc : 48 / h < l
  · have HO : Hid (overN h l n = 0) := overN_big h l n h1 hc hn
    generalize 48 / h = q at hd hd1 hc
    have hdd : decide ((q : Int) < (l : Int)) = true := by simpa using hc
    go_enter Try.func22, Try.ntmps22
    go_wp2
    go_ret
    exact ⟨by rw [HO.out]; rfl, rfl⟩
  · have hm : h * l ≤ h * (48 / h) := Nat.mul_le_mul_left _ (by omega)
    have hm2 : h * (48 / h) ≤ 48 := Nat.mul_div_le 48 h
    have hp : (h : Int) * (l : Int) = ((h * l : Nat) : Int) := by simp
    have hle : h * l ≤ 48 := by omega
    have HO : Hid (overN h l n = n / 2 ^ (h * l)) := rfl
    generalize 48 / h = q at hd hd1 hc
    generalize h * l = p at hp hle HO
    have hdd : decide ((q : Int) < (l : Int)) = false := by simpa using hc
    go_enter Try.func22, Try.ntmps22
    go_wp2
    go_ret
    refine ⟨?_, rfl⟩
    rw [HO.out]
    simp

theorem rover_calls (h l n : Nat) (h1 : 1 ≤ h) (h8 : h ≤ 8) (hl : l ≤ 9223372036854775807) (hn : n ≤ 1048576) (w : World) :
    Calls Try.prog 24 #[.int .i64 h, .int .i64 l, .int .i64 n] w fun e w' => e = .returned (.int .i64 (overN h l n : Nat)) ∧ w = w' := by
  have h0 : overN h 0 n = n := by simp [overN]
  have hu : IntKind.u64.wrap (h : Int) = (h : Int) := by rw [IntKind.wrap_u64]; omega
  go_enter Try.func24, Try.ntmps24
  go_wp2
  go_loop [2, 7] (fun m i => ∃ k q : Nat, k ≤ l ∧ i = .int .i64 k ∧ m = .int .i64 q ∧ q = overN h k n ∧ q ≤ 1048576) (fun m i => (intOf m).toNat)
  case atStart => exact ⟨0, n, by omega, rfl, rfl, h0.symm, hn⟩
  case round =>
    obtain ⟨k, q, hk, rfl, rfl, hq, hq1⟩ := hrel
    have HQ := Lib.hid hq; clear hq
    by_cases hlt : k < l
    · by_cases hp : 0 < q
      · have hs := overN_succ h k n
        rw [← HQ.out] at hs
        have hlt2 : q / 2 ^ h < q := Nat.div_lt_self hp (Nat.one_lt_two_pow (by omega))
        have HS := Lib.hid hs; clear hs
        have HD : (q : Int) / 2 ^ h = ((q / 2 ^ h : Nat) : Int) := by simp
        generalize q / 2 ^ h = r at HS hlt2 HD
        go_wp2
        go_round
        case rel => exact ⟨k + 1, r, by omega, by go_num, rfl, by rw [HS.out], by omega⟩
        case measure => simp [intOf]; omega
      · have hq0 : q = 0 := by omega
        subst hq0
        have HF : Hid (overN h l n = 0) := by
          have hs : ∀ d, overN h (k + d) n = 0 := by
            intro d
            induction d with
            | zero => exact HQ.out.symm
            | succ d ih => rw [← Nat.add_assoc, overN_succ, ih]; simp
          have := hs (l - k)
          rw [show k + (l - k) = l by omega] at this
          exact this
        go_wp2
        go_ret
        exact ⟨by rw [HF.out]; rfl, rfl⟩
    · have hkl : k = l := by omega
      subst hkl
      have HF : Hid (overN h k n = q) := HQ.out.symm
      go_wp2
      go_ret
      exact ⟨by rw [HF.out]; rfl, rfl⟩

/-- Above: the document's answer. -/
def aboveB (h l n : Int) : Bool := heightB h && (decide (0 ≤ l) && (decide (0 ≤ n) && decide (n ≤ 1048576)))
theorem aboveB_yes {h l n : Int} (hb : aboveB h l n = true) : heightB h = true ∧ 1 ≤ h ∧ h ≤ 8 ∧ 0 ≤ l ∧ 0 ≤ n ∧ n ≤ 1048576 := by
  simp [aboveB, heightB] at hb
  refine ⟨?_, by omega, by omega, by omega, by omega, by omega⟩
  simp [heightB]; omega
theorem heightB_yes {h : Int} (a : 1 ≤ h) (b : h ≤ 8) : heightB h = true := by simp [heightB, a, b]
theorem heightB_no {h : Int} (a : ¬ (1 ≤ h ∧ h ≤ 8)) : heightB h = false := by simp only [heightB]; exact decide_eq_false a

/-- Both answer alike: an error's number and how many. -/
theorem above_calls (h l n : Int) (hl : l ≤ 9223372036854775807) (w : World) :
    ∃ c b : Int, Calls Try.prog 8 #[.int .i64 h, .int .i64 l, .int .i64 n] w (fun e w' => e = .returned (.tuple #[.int .i64 c, .int .i64 b]) ∧ w = w') ∧
      Calls Try.prog 9 #[.int .i64 h, .int .i64 l, .int .i64 n] w (fun e w' => e = .returned (.tuple #[.int .i64 c, .int .i64 b]) ∧ w = w') := by
  by_cases hh : 1 ≤ h ∧ h ≤ 8
  · have hb := heightB_yes hh.1 hh.2
    have k1 := height_calls h w
    have k2 := rheight_calls h w
    rw [hb] at k1 k2
    have K1 := Lib.hid k1; clear k1
    have K2 := Lib.hid k2; clear k2
    by_cases h2 : 0 ≤ l
    · by_cases h3 : 0 ≤ n
      · by_cases h4 : n ≤ 1048576
        · obtain ⟨hN, rfl⟩ := Int.eq_ofNat_of_zero_le (show 0 ≤ h by omega)
          obtain ⟨lN, rfl⟩ := Int.eq_ofNat_of_zero_le h2
          obtain ⟨nN, rfl⟩ := Int.eq_ofNat_of_zero_le h3
          have K3 := Lib.hid (over_calls hN lN nN (by omega) (by omega) (by omega) w)
          have K4 := Lib.hid (rover_calls hN lN nN (by omega) (by omega) (by omega) (by omega) w)
          generalize overN hN lN nN = q at K3 K4
          clear hb
          refine ⟨q, 0, ?_, ?_⟩
          · go_enter Try.func8, Try.ntmps8
            go_wp2_with (first | (go_at_call 21; refine K1.out.mono ?_; rintro e w' ⟨rfl, rfl⟩) | (go_at_call 22; refine K3.out.mono ?_; rintro e w' ⟨rfl, rfl⟩))
            go_ret2
            exact ⟨rfl, rfl⟩
          · go_enter Try.func9, Try.ntmps9
            go_wp2_with (first | (go_at_call 23; refine K2.out.mono ?_; rintro e w' ⟨rfl, rfl⟩) | (go_at_call 24; refine K4.out.mono ?_; rintro e w' ⟨rfl, rfl⟩))
            go_ret2
            exact ⟨rfl, rfl⟩
        · clear hb
          refine ⟨0, 2, ?_, ?_⟩
          · go_enter Try.func8, Try.ntmps8
            go_wp2_with (first | (go_at_call 21; refine K1.out.mono ?_; rintro e w' ⟨rfl, rfl⟩))
            go_ret2
            exact ⟨rfl, rfl⟩
          · go_enter Try.func9, Try.ntmps9
            go_wp2_with (first | (go_at_call 23; refine K2.out.mono ?_; rintro e w' ⟨rfl, rfl⟩))
            go_ret2
            exact ⟨rfl, rfl⟩
      · clear hb
        refine ⟨0, 2, ?_, ?_⟩
        · go_enter Try.func8, Try.ntmps8
          go_wp2_with (first | (go_at_call 21; refine K1.out.mono ?_; rintro e w' ⟨rfl, rfl⟩))
          go_ret2
          exact ⟨rfl, rfl⟩
        · go_enter Try.func9, Try.ntmps9
          go_wp2_with (first | (go_at_call 23; refine K2.out.mono ?_; rintro e w' ⟨rfl, rfl⟩))
          go_ret2
          exact ⟨rfl, rfl⟩
    · clear hb
      refine ⟨0, 2, ?_, ?_⟩
      · go_enter Try.func8, Try.ntmps8
        go_wp2_with (first | (go_at_call 21; refine K1.out.mono ?_; rintro e w' ⟨rfl, rfl⟩))
        go_ret2
        exact ⟨rfl, rfl⟩
      · go_enter Try.func9, Try.ntmps9
        go_wp2_with (first | (go_at_call 23; refine K2.out.mono ?_; rintro e w' ⟨rfl, rfl⟩))
        go_ret2
        exact ⟨rfl, rfl⟩
  · have hb := heightB_no hh
    have k1 := height_calls h w
    have k2 := rheight_calls h w
    rw [hb] at k1 k2
    have K1 := Lib.hid k1; clear k1
    have K2 := Lib.hid k2; clear k2
    clear hb hh
    refine ⟨0, 2, ?_, ?_⟩
    · go_enter Try.func8, Try.ntmps8
      go_wp2_with (first | (go_at_call 21; refine K1.out.mono ?_; rintro e w' ⟨rfl, rfl⟩))
      go_ret2
      exact ⟨rfl, rfl⟩
    · go_enter Try.func9, Try.ntmps9
      go_wp2_with (first | (go_at_call 23; refine K2.out.mono ?_; rintro e w' ⟨rfl, rfl⟩))
      go_ret2
      exact ⟨rfl, rfl⟩

theorem names17_calls (w : World) : Calls Try.prog 10 #[] w fun e w' => e = .returned (.bool true) ∧ w = w' := by
  go_enter Try.func10, Try.ntmps10
  go_wp2
  go_ret
  exact ⟨rfl, rfl⟩

theorem integrateAbove_walk (h l n : Int) (hl : l ≤ 9223372036854775807) (w : World) :
    Calls Try.prog 3 #[.int .i64 h, .int .i64 l, .int .i64 n] w fun e w' => e = .returned (.bool true) ∧ Below w.heap.size w w' := by
  obtain ⟨c, b, k1, k2⟩ := above_calls h l n hl w
  have K1 := Lib.hid k1; clear k1
  have K2 := Lib.hid k2; clear k2
  go_enter Try.func3, Try.ntmps3
  go_wp2_with (first | (go_at_call 8; refine K1.out.mono ?_; rintro e w' ⟨rfl, rfl⟩) | (go_at_call 9; refine K2.out.mono ?_; rintro e w' ⟨rfl, rfl⟩) | (go_at_call 10; refine (names17_calls _).mono ?_; rintro e w' ⟨rfl, rfl⟩))
  go_ret
  exact ⟨rfl, Below.refl _ _⟩
end Go.Proofs.Ythgjecofmnomfaa
