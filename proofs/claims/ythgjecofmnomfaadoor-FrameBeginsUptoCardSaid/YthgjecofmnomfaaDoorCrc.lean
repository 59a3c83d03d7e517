/- PLAIN MATHEMATICS of the sums (CRC-32) of layer 11: the table's half steps are four bit steps each. No program in sight; no statement of the seed is proved here. -/
import GoSem.Core.View
namespace Go.Proofs.YthgjecofmnomfaaDoor

def tab : List Nat := [0, 498536548, 997073096, 651767980, 1994146192, 1802195444, 1303535960, 1342533948, 3988292384, 4027552580, 3604390888, 3412177804, 2607071920, 2262029012, 2685067896, 3183342108]
/-- Half a byte's step of the register, by the table. -/
def half (r : Nat) : Nat := (r / 16) ^^^ (tab[r % 16]?.getD 0)
/-- A bit's step. -/
def bit1 (r : Nat) : Nat := (r / 2) ^^^ (if r % 2 = 1 then 3988292384 else 0)
def byte1 (r x : Nat) : Nat := half (half (r ^^^ x))
def crc (r : Nat) (l : List UInt8) : Nat := l.foldl (fun r x => byte1 r x.toNat) r
def turn (r : Nat) : Nat := 4294967295 ^^^ r
/-- Extend. -/
def ext (s : Nat) (l : List UInt8) : Nat := turn (crc (turn s) l)

theorem tab_lt (k : Nat) : tab[k]?.getD 0 < 4294967296 := by
  by_cases h : k < 16
  · have : ∀ j, j < 16 → tab[j]?.getD 0 < 4294967296 := by decide
    exact this k h
  · have : tab[k]? = none := by
      apply List.getElem?_eq_none
      show 16 ≤ k
      omega
    rw [this]; decide
theorem half_lt (r : Nat) (h : r < 4294967296) : half r < 4294967296 := Nat.xor_lt_two_pow (n := 32) (by omega) (tab_lt _)
theorem xor_lt {a b : Nat} (ha : a < 4294967296) (hb : b < 4294967296) : a ^^^ b < 4294967296 := Nat.xor_lt_two_pow (n := 32) ha hb
theorem byte1_lt (r x : Nat) (h : r < 4294967296) (hx : x < 256) : byte1 r x < 4294967296 := half_lt _ (half_lt _ (xor_lt h (by omega)))
theorem crc_lt (l : List UInt8) : ∀ r, r < 4294967296 → crc r l < 4294967296 := by
  induction l with
  | nil => intro r h; exact h
  | cons x l ih => intro r h; exact ih _ (byte1_lt _ _ h x.toNat_lt)
theorem turn_lt (r : Nat) (h : r < 4294967296) : turn r < 4294967296 := xor_lt (by decide) h
theorem ext_lt (s : Nat) (l : List UInt8) (h : s < 4294967296) : ext s l < 4294967296 := turn_lt _ (crc_lt _ _ (turn_lt _ h))
theorem crc_snoc (r : Nat) (l : List UInt8) (x : UInt8) : crc r (l ++ [x]) = byte1 (crc r l) x.toNat := by simp [crc]

theorem xor_half (a b : Nat) : (a ^^^ b) / 2 = a / 2 ^^^ b / 2 := by
  apply Nat.eq_of_testBit_eq
  intro i
  simp [Nat.testBit_div_two, Nat.testBit_xor]
theorem xor_odd (a b : Nat) : (a ^^^ b) % 2 = (a % 2 + b % 2) % 2 := by
  have h := Nat.xor_mod_two_pow (a := a) (b := b) (n := 1)
  simp only [Nat.pow_one] at h
  rw [h]
  rcases Nat.mod_two_eq_zero_or_one a with ha | ha <;> rcases Nat.mod_two_eq_zero_or_one b with hb | hb <;> rw [ha, hb] <;> decide
/-- A bit's step is linear. -/
theorem bit1_xor (a b : Nat) : bit1 (a ^^^ b) = bit1 a ^^^ bit1 b := by
  unfold bit1
  rw [xor_half, xor_odd]
  generalize a / 2 = p
  generalize b / 2 = q
  rcases Nat.mod_two_eq_zero_or_one a with ha | ha <;> rcases Nat.mod_two_eq_zero_or_one b with hb | hb <;> rw [ha, hb]
  · simp
  · simp [Nat.xor_assoc]
  · simp only [show (1 + 0) % 2 = 1 from rfl, if_true, show ¬ (0 = 1) by decide, if_false, Nat.xor_zero]
    rw [Nat.xor_assoc, Nat.xor_comm q, ← Nat.xor_assoc]
  · simp only [show (1 + 1) % 2 = 0 from rfl, if_true, show ¬ (0 = 1) by decide, if_false, Nat.xor_zero]
    rw [Nat.xor_assoc, ← Nat.xor_assoc 3988292384, Nat.xor_comm 3988292384 q, Nat.xor_assoc q, Nat.xor_self, Nat.xor_zero]
theorem bit1_even (q : Nat) : bit1 (2 * q) = q := by unfold bit1; simp
/-- Four bit steps are one by the table. -/
theorem half_bits (r : Nat) : half r = bit1 (bit1 (bit1 (bit1 r))) := by
  have e : r = (16 * (r / 16)) ^^^ (r % 16) := by
    have h := Nat.two_pow_add_eq_or_of_lt (i := 4) (b := r % 16) (by omega) (r / 16)
    have h2 : 16 * (r / 16) ||| r % 16 = 16 * (r / 16) ^^^ r % 16 := by
      apply Nat.eq_of_testBit_eq
      intro i
      rw [Nat.testBit_or, Nat.testBit_xor]
      by_cases hi : i < 4
      · have : (16 * (r / 16)).testBit i = false := by
          rw [show 16 * (r / 16) = 2 ^ 4 * (r / 16) from rfl, Nat.testBit_two_pow_mul]
          simp; omega
        rw [this]; simp
      · have : (r % 16).testBit i = false := by
          exact Nat.testBit_lt_two_pow (Nat.lt_of_lt_of_le (show r % 16 < 2 ^ 4 by omega) (Nat.pow_le_pow_right (by omega) (by omega)))
        rw [this]; simp
    rw [← h2, show 16 * (r / 16) = 2 ^ 4 * (r / 16) from rfl, ← h]
    omega
  have hk : r % 16 < 16 := Nat.mod_lt _ (by omega)
  unfold half
  conv => rhs; rw [e]
  rw [bit1_xor, bit1_xor, bit1_xor, bit1_xor]
  rw [show 16 * (r / 16) = 2 * (2 * (2 * (2 * (r / 16)))) by omega, bit1_even, bit1_even, bit1_even, bit1_even]
  congr 1
  generalize r % 16 = k at hk
  have : ∀ j, j < 16 → tab[j]?.getD 0 = bit1 (bit1 (bit1 (bit1 j))) := by decide
  exact this k hk
/-- n bit steps. -/
def bitsN : Nat → Nat → Nat
  | 0, r => r
  | n + 1, r => bit1 (bitsN n r)
theorem byte1_bits (r x : Nat) : byte1 r x = bitsN 8 (r ^^^ x) := by
  unfold byte1
  rw [half_bits (half _), half_bits]
  rfl
theorem bit1_lt (r : Nat) (h : r < 4294967296) : bit1 r < 4294967296 := by
  unfold bit1
  split
  · exact xor_lt (by omega) (by decide)
  · exact xor_lt (by omega) (by decide)
theorem bitsN_lt (n : Nat) : ∀ r, r < 4294967296 → bitsN n r < 4294967296 := by
  induction n with
  | zero => intro r h; exact h
  | succ n ih => intro r h; exact bit1_lt _ (ih _ h)
end Go.Proofs.YthgjecofmnomfaaDoor
