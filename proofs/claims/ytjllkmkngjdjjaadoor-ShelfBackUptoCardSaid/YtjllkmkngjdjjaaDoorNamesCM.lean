/- PLAIN MATHEMATICS of a tile's path: groups of three digits, from the right or from the left. No program in sight. -/
import Derived.Test.YtjllkmkngjdjjaaDoorNames
namespace Go.Proofs.YtjllkmkngjdjjaaDoor

theorem digits_step (n : Nat) (h : 10 ≤ n) : Lib.decDigits n = Lib.decDigits (n / 10) ++ [UInt8.ofNat (48 + n % 10)] := by
  rw [Lib.decDigits, dif_neg (by omega)]
theorem digits_one (n : Nat) (h : n < 10) : Lib.decDigits n = [UInt8.ofNat (48 + n)] := by
  rw [Lib.decDigits, dif_pos h]
theorem padded3 (r : Nat) (h : r < 1000) : padded 3 r = [UInt8.ofNat (48 + r / 100), UInt8.ofNat (48 + r / 10 % 10), UInt8.ofNat (48 + r % 10)] := by
  unfold padded
  by_cases h1 : r < 10
  · rw [digits_one r h1, show r / 100 = 0 by omega, show r / 10 % 10 = 0 by omega, show r % 10 = r by omega]
    rfl
  · rw [digits_step r (by omega)]
    by_cases h2 : r < 100
    · rw [digits_one (r / 10) (by omega), show r / 100 = 0 by omega, show r / 10 % 10 = r / 10 by omega]
      rfl
    · rw [digits_step (r / 10) (by omega), digits_one (r / 10 / 10) (by omega), show r / 10 / 10 = r / 100 by omega]
      rfl
theorem padded3_length (r : Nat) (h : r < 1000) : (padded 3 r).length = 3 := by rw [padded3 r h]; rfl
theorem digits_three (n : Nat) (h : 1000 ≤ n) : Lib.decDigits n = Lib.decDigits (n / 1000) ++ padded 3 (n % 1000) := by
  rw [padded3 _ (Nat.mod_lt _ (by omega)), digits_step n (by omega), digits_step (n / 10) (by omega), digits_step (n / 10 / 10) (by omega)]
  rw [show n / 10 / 10 / 10 = n / 1000 by omega, show n % 1000 / 100 = n / 10 / 10 % 10 by omega, show n % 1000 / 10 % 10 = n / 10 % 10 by omega, show n % 1000 % 10 = n % 10 by omega]
  simp
/-- Digits, with noughts ahead, so many that their number is divisible by three. -/
def mult3 (n : Nat) : List UInt8 := List.replicate ((3 - (Lib.decDigits n).length % 3) % 3) 48 ++ Lib.decDigits n
theorem mult3_small (n : Nat) (h : n < 1000) : mult3 n = padded 3 n := by
  unfold mult3 padded
  have h1 := digits_pos n
  have h2 := digits_le 2 n (by omega)
  congr 2
  omega
theorem mult3_step (n : Nat) (h : 1000 ≤ n) : mult3 n = mult3 (n / 1000) ++ padded 3 (n % 1000) := by
  unfold mult3
  have hl : (Lib.decDigits n).length = (Lib.decDigits (n / 1000)).length + 3 := by
    rw [digits_three n h, List.length_append, padded3_length _ (Nat.mod_lt _ (by omega))]
  rw [hl, Nat.add_mod_right, digits_three n h, List.append_assoc]
/-- Groups of three, each but the last with x ahead and / behind. -/
def cut3 (s : List UInt8) : List UInt8 := if h : 3 < s.length then 120 :: s.take 3 ++ 47 :: cut3 (s.drop 3) else s
termination_by s.length
decreasing_by simp; omega
theorem cut3_short (s : List UInt8) (h : s.length ≤ 3) : cut3 s = s := by rw [cut3, dif_neg (by omega)]
theorem cut3_long (p t : List UInt8) (hp : p.length = 3) (ht : 1 ≤ t.length) : cut3 (p ++ t) = 120 :: p ++ 47 :: cut3 t := by
  rw [cut3, dif_pos (by simp; omega)]
  rw [← hp, List.take_left, List.drop_left]
theorem cut3_le : ∀ (k : Nat) (s : List UInt8), s.length ≤ k → (cut3 s).length ≤ 2 * s.length := by
  intro k
  induction k with
  | zero => intro s h; rw [cut3_short s (by omega)]; omega
  | succ k ih =>
    intro s h
    rw [cut3]
    split
    · have := ih (s.drop 3) (by simp; omega)
      simp only [List.length_append, List.length_cons, List.length_take, List.length_drop] at this ⊢
      omega
    · omega
/-- Groups of three, from the right. -/
def groups (n : Nat) : List UInt8 := if h : n = 0 then [] else groups (n / 1000) ++ (120 :: padded 3 (n % 1000) ++ [47])
termination_by n
decreasing_by omega
theorem groups_zero : groups 0 = [] := by rw [groups]; rfl
theorem groups_step (n : Nat) (h : 0 < n) : groups n = groups (n / 1000) ++ (120 :: padded 3 (n % 1000) ++ [47]) := by rw [groups, dif_neg (by omega)]
def pathL (i : Nat) : List UInt8 := groups (i / 1000) ++ padded 3 (i % 1000)
theorem cut3_groups : ∀ (k n : Nat) (t : List UInt8), n ≤ k → 0 < n → 1 ≤ t.length → cut3 (mult3 n ++ t) = groups n ++ cut3 t := by
  intro k
  induction k with
  | zero => intro n t h1 h2; omega
  | succ k ih =>
    intro n t h1 h2 ht
    by_cases hs : n < 1000
    · rw [mult3_small n hs, cut3_long _ _ (padded3_length n hs) ht, groups_step n h2, show n / 1000 = 0 by omega, groups_zero, show n % 1000 = n by omega]
      simp
    · rw [mult3_step n (by omega), List.append_assoc, ih (n / 1000) _ (by omega) (by omega) (by simp; omega), cut3_long _ _ (padded3_length _ (Nat.mod_lt _ (by omega))) ht, groups_step n h2]
      simp
theorem cut3_mult3 (i : Nat) : cut3 (mult3 i) = pathL i := by
  unfold pathL
  by_cases hs : i < 1000
  · rw [mult3_small i hs, cut3_short _ (by rw [padded3_length i hs]; omega), show i / 1000 = 0 by omega, groups_zero, show i % 1000 = i by omega]
    rfl
  · rw [mult3_step i (by omega), cut3_groups (i / 1000) _ _ (Nat.le_refl _) (by omega) (by rw [padded3_length _ (Nat.mod_lt _ (by omega))]; omega), cut3_short _ (by rw [padded3_length _ (Nat.mod_lt _ (by omega))]; omega)]
theorem mult3_le (i : Nat) (h : i ≤ 9223372036854775807) : (mult3 i).length ≤ 21 := by
  have := digits_le19 i h
  unfold mult3
  rw [List.length_append, List.length_replicate]
  omega
theorem pathL_le (i : Nat) (h : i ≤ 9223372036854775807) : (pathL i).length ≤ 42 := by
  rw [← cut3_mult3]
  have := cut3_le _ (mult3 i) (Nat.le_refl _)
  have := mult3_le i h
  omega
end Go.Proofs.YtjllkmkngjdjjaaDoor
