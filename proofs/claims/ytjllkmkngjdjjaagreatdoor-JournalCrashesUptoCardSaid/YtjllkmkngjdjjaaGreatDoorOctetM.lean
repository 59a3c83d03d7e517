/- PLAIN MATHEMATICS of the sums (CRC-32) of layer 11: the table's half steps are four bit steps each. No program in sight; no statement of the seed is proved here. WALKS of the sums: frame.Sum, frame.Extend and the reference's: each computes 'ext' of XCrc. No statement of the seed is proved here. PLAIN MATHEMATICS of numbers of several bytes, the highest first (layer 1). No program in sight. -/
import GoSem.Core.View
import Derived.Test.YtjllkmkngjdjjaaGreatDoorUptoB
namespace Go.Proofs.YtjllkmkngjdjjaaGreatDoor

def tab : List Nat := [0, 498536548, 997073096, 651767980, 1994146192, 1802195444, 1303535960, 1342533948, 3988292384, 4027552580, 3604390888, 3412177804, 2607071920, 2262029012, 2685067896, 3183342108]
/-- Half a byte's step of the register, by the table. -/
def half (r : Nat) : Nat := (r / 16) ^^^ (tab[r % 16]?.getD 0)
/-- A bit's step. -/
def bit1 (r : Nat) : Nat := (r / 2) ^^^ (if r % 2 = 1 then 3988292384 else 0)
def byte1 (r x : Nat) : Nat := half (half (r ^^^ x))
def crc (r : Nat) (l : List UInt8) : Nat := l.foldl (fun r x => byte1 r x.toNat) r
def turn (r : Nat) : Nat := 4294967295 ^^^ r
/-- Extend. -/
def ext (s : Nat) (l : List UInt8) : Nat := turn (crc (turn s) l)

theorem tab_lt (k : Nat) : tab[k]?.getD 0 < 4294967296 := by
  by_cases h : k < 16
  · have : ∀ j, j < 16 → tab[j]?.getD 0 < 4294967296 := by decide
    exact this k h
  · have : tab[k]? = none := by
      apply List.getElem?_eq_none
      show 16 ≤ k
      omega
    rw [this]; decide
theorem half_lt (r : Nat) (h : r < 4294967296) : half r < 4294967296 := Nat.xor_lt_two_pow (n := 32) (by omega) (tab_lt _)
theorem xor_lt {a b : Nat} (ha : a < 4294967296) (hb : b < 4294967296) : a ^^^ b < 4294967296 := Nat.xor_lt_two_pow (n := 32) ha hb
theorem byte1_lt (r x : Nat) (h : r < 4294967296) (hx : x < 256) : byte1 r x < 4294967296 := half_lt _ (half_lt _ (xor_lt h (by omega)))
theorem crc_lt (l : List UInt8) : ∀ r, r < 4294967296 → crc r l < 4294967296 := by
  induction l with
  | nil => intro r h; exact h
  | cons x l ih => intro r h; exact ih _ (byte1_lt _ _ h x.toNat_lt)
theorem turn_lt (r : Nat) (h : r < 4294967296) : turn r < 4294967296 := xor_lt (by decide) h
theorem ext_lt (s : Nat) (l : List UInt8) (h : s < 4294967296) : ext s l < 4294967296 := turn_lt _ (crc_lt _ _ (turn_lt _ h))
theorem crc_snoc (r : Nat) (l : List UInt8) (x : UInt8) : crc r (l ++ [x]) = byte1 (crc r l) x.toNat := by simp [crc]

theorem xor_half (a b : Nat) : (a ^^^ b) / 2 = a / 2 ^^^ b / 2 := by
  apply Nat.eq_of_testBit_eq
  intro i
  simp [Nat.testBit_div_two, Nat.testBit_xor]
theorem xor_odd (a b : Nat) : (a ^^^ b) % 2 = (a % 2 + b % 2) % 2 := by
  have h := Nat.xor_mod_two_pow (a := a) (b := b) (n := 1)
  simp only [Nat.pow_one] at h
  rw [h]
  rcases Nat.mod_two_eq_zero_or_one a with ha | ha <;> rcases Nat.mod_two_eq_zero_or_one b with hb | hb <;> rw [ha, hb] <;> decide
/-- A bit's step is linear. -/
theorem bit1_xor (a b : Nat) : bit1 (a ^^^ b) = bit1 a ^^^ bit1 b := by
  unfold bit1
  rw [xor_half, xor_odd]
  generalize a / 2 = p
  generalize b / 2 = q
  rcases Nat.mod_two_eq_zero_or_one a with ha | ha <;> rcases Nat.mod_two_eq_zero_or_one b with hb | hb <;> rw [ha, hb]
  · simp
  · simp [Nat.xor_assoc]
  · simp only [show (1 + 0) % 2 = 1 from rfl, if_true, show ¬ (0 = 1) by decide, if_false, Nat.xor_zero]
    rw [Nat.xor_assoc, Nat.xor_comm q, ← Nat.xor_assoc]
  · simp only [show (1 + 1) % 2 = 0 from rfl, if_true, show ¬ (0 = 1) by decide, if_false, Nat.xor_zero]
    rw [Nat.xor_assoc, ← Nat.xor_assoc 3988292384, Nat.xor_comm 3988292384 q, Nat.xor_assoc q, Nat.xor_self, Nat.xor_zero]
theorem bit1_even (q : Nat) : bit1 (2 * q) = q := by unfold bit1; simp
/-- Four bit steps are one by the table. -/
theorem half_bits (r : Nat) : half r = bit1 (bit1 (bit1 (bit1 r))) := by
  have e : r = (16 * (r / 16)) ^^^ (r % 16) := by
    have h := Nat.two_pow_add_eq_or_of_lt (i := 4) (b := r % 16) (by omega) (r / 16)
    have h2 : 16 * (r / 16) ||| r % 16 = 16 * (r / 16) ^^^ r % 16 := by
      apply Nat.eq_of_testBit_eq
      intro i
      rw [Nat.testBit_or, Nat.testBit_xor]
      by_cases hi : i < 4
      · have : (16 * (r / 16)).testBit i = false := by
          rw [show 16 * (r / 16) = 2 ^ 4 * (r / 16) from rfl, Nat.testBit_two_pow_mul]
          simp; omega
        rw [this]; simp
      · have : (r % 16).testBit i = false := by
          exact Nat.testBit_lt_two_pow (Nat.lt_of_lt_of_le (show r % 16 < 2 ^ 4 by omega) (Nat.pow_le_pow_right (by omega) (by omega)))
        rw [this]; simp
    rw [← h2, show 16 * (r / 16) = 2 ^ 4 * (r / 16) from rfl, ← h]
    omega
  have hk : r % 16 < 16 := Nat.mod_lt _ (by omega)
  unfold half
  conv => rhs; rw [e]
  rw [bit1_xor, bit1_xor, bit1_xor, bit1_xor]
  rw [show 16 * (r / 16) = 2 * (2 * (2 * (2 * (r / 16)))) by omega, bit1_even, bit1_even, bit1_even, bit1_even]
  congr 1
  generalize r % 16 = k at hk
  have : ∀ j, j < 16 → tab[j]?.getD 0 = bit1 (bit1 (bit1 (bit1 j))) := by decide
  exact this k hk
/-- n bit steps. -/
def bitsN : Nat → Nat → Nat
  | 0, r => r
  | n + 1, r => bit1 (bitsN n r)
theorem byte1_bits (r x : Nat) : byte1 r x = bitsN 8 (r ^^^ x) := by
  unfold byte1
  rw [half_bits (half _), half_bits]
  rfl
theorem bit1_lt (r : Nat) (h : r < 4294967296) : bit1 r < 4294967296 := by
  unfold bit1
  split
  · exact xor_lt (by omega) (by decide)
  · exact xor_lt (by omega) (by decide)
theorem bitsN_lt (n : Nat) : ∀ r, r < 4294967296 → bitsN n r < 4294967296 := by
  induction n with
  | zero => intro r h; exact h
  | succ n ih => intro r h; exact bit1_lt _ (ih _ h)
end Go.Proofs.YtjllkmkngjdjjaaGreatDoor
namespace Go.Proofs.YtjllkmkngjdjjaaGreatDoor
open Go.RowKit

/-- The table of package frame lies as the program's text says. -/
structure LaidF (w : World) : Prop where
  tab : ∀ i, i < 16 → w.cell? ⟨0, i, none⟩ = some (.int .u32 ((tab[i]?.getD 0 : Nat) : Int))
theorem LaidF.below {w w1 : World} (h : LaidF w) (hb : Below w.heap.size w w1) : LaidF w1 :=
  ⟨fun i hi => (hb.cell (World.block_lt_of_cell? w _ (h.tab i hi))).trans (h.tab i hi)⟩

theorem half_facts (w : World) (h : LaidF w) (r : Nat) (hr : r < 4294967296) :
    bits .and .u32 (r : Int) 15 = ((r % 16 : Nat) : Int) ∧ r % 16 < 16 ∧ w.cell? ⟨0, r % 16, none⟩ = some (.int .u32 ((tab[r % 16]?.getD 0 : Nat) : Int)) ∧
      bits .xor .u32 ((r : Int) / 16) ((tab[r % 16]?.getD 0 : Nat) : Int) = (half r : Int) := by
  have hm : r % 16 < 16 := Nat.mod_lt _ (by omega)
  refine ⟨?_, hm, h.tab _ hm, ?_⟩
  · have := u32_and_nat r 15 hr (by decide)
    rw [nat_mask4] at this
    exact this
  · have e : ((r : Int) / 16) = ((r / 16 : Nat) : Int) := by simp
    rw [e]
    exact u32_xor_nat _ _ (by omega) (tab_lt _)

theorem turn_int (r : Nat) (hr : r < 4294967296) : bits .xor .u32 IntKind.u32.max (r : Int) = (turn r : Int) := by
  have := u32_xor_nat 4294967295 r (by decide) hr
  simpa [turn, IntKind.max, IntKind.bits, IntKind.signed] using this

set_option maxHeartbeats 400000 in
theorem extend_calls (s : Nat) (hs : s < 4294967296) (v : Value) (l : List UInt8) (w : World) (hT : LaidF w) (hv : Bs w v l) :
    Calls Tryz.prog 162 #[.int .u32 s, v] w fun e w' => e = .returned (.int .u32 (ext s l : Nat)) ∧ w = w' := by
  obtain ⟨A, c, rfl, hlc, hc, hn⟩ := hv.form
  have ht := turn_int s hs
  have hl := turn_lt s hs
  have HE : Hid (ext s l = turn (crc (turn s) l)) := rfl
  generalize turn s = t at ht hl HE
  go_enter Tryz.func162, Tryz.ntmps162
  go_wp2
  go_loop [5, 7, 12] (fun r _ i => ∃ k : Nat, k ≤ l.length ∧ i = .int .i64 k ∧ r = .int .u32 (crc t (l.take k) : Nat)) (fun _ _ i => l.length - (intOf i).toNat)
  case atStart => exact ⟨0, by omega, rfl, rfl⟩
  case round =>
    obtain ⟨k, hk, rfl, rfl⟩ := hrel
    have hq := crc_lt (l.take k) t hl
    by_cases hlt : k < l.length
    · obtain ⟨ad, rfl, hcell⟩ := hv.at_ k hlt
      have hx : (l[k].toNat) < 256 := UInt8.toNat_lt _
      have HS : Hid (crc t (l.take (k + 1)) = byte1 (crc t (l.take k)) l[k].toNat) := by rw [take_succ_get l k hlt]; exact crc_snoc _ _ _
      generalize l[k].toNat = x at hcell hx HS
      generalize crc t (l.take k) = q at hq HS
      have hqx := xor_lt hq (show x < 4294967296 by omega)
      obtain ⟨a1, a2, a3, a4⟩ := half_facts w hT (q ^^^ x) hqx
      obtain ⟨b1, b2, b3, b4⟩ := half_facts w hT (half (q ^^^ x)) (half_lt _ hqx)
      clear hT hv
      have e0 : bits .xor .u32 (q : Int) (x : Int) = ((q ^^^ x : Nat) : Int) := u32_xor_nat _ _ hq (by omega)
      go_wp2
      go_round
      case rel => exact ⟨k + 1, by omega, by go_num, by rw [HS.out]; rfl⟩
      case measure => simp [intOf]; omega
    · have hk' : k = l.length := by omega
      subst hk'
      rw [List.take_length] at hq ⊢
      have h2 := turn_int _ hq
      have h3 := HE.out
      generalize crc t l = q at h2 h3
      clear hT hv
      go_wp2
      go_ret
      exact ⟨rfl, rfl⟩

theorem bit_int (r : Nat) (hr : r < 4294967296) : bits .and .u32 (r : Int) 1 = ((r % 2 : Nat) : Int) ∧ bits .xor .u32 ((r : Int) / 2) 3988292384 = ((r / 2 ^^^ 3988292384 : Nat) : Int) := by
  constructor
  · have := u32_and_nat r 1 hr (by decide)
    rw [nat_mask1] at this
    exact this
  · have e : ((r : Int) / 2) = ((r / 2 : Nat) : Int) := by simp
    rw [e]
    exact u32_xor_nat _ 3988292384 (by omega) (by decide)

set_option maxHeartbeats 400000 in
theorem rextend_calls (s : Nat) (hs : s < 4294967296) (v : Value) (l : List UInt8) (w : World) (hv : Bs w v l) :
    Calls Tryz.prog 165 #[.int .u32 s, v] w fun e w' => e = .returned (.int .u32 (ext s l : Nat)) ∧ w = w' := by
  obtain ⟨A, c, rfl, hlc, hc, hn⟩ := hv.form
  have ht := turn_int s hs
  have hl := turn_lt s hs
  have HE : Hid (ext s l = turn (crc (turn s) l)) := rfl
  generalize turn s = t at ht hl HE
  go_enter Tryz.func165, Tryz.ntmps165
  go_wp2
  go_loop [5, 6, 7, 8] (fun r i _ _ => ∃ k : Nat, k ≤ l.length ∧ i = .int .i64 k ∧ r = .int .u32 (crc t (l.take k) : Nat)) (fun _ i _ _ => l.length - (intOf i).toNat)
  case atStart => exact ⟨0, by omega, rfl, rfl⟩
  case round =>
    obtain ⟨k, hk, rfl, rfl⟩ := hrel
    have hq := crc_lt (l.take k) t hl
    by_cases hlt : k < l.length
    · obtain ⟨ad, rfl, hcell⟩ := hv.at_ k hlt
      have hx : (l[k].toNat) < 256 := UInt8.toNat_lt _
      have HS : Hid (crc t (l.take (k + 1)) = bitsN 8 (crc t (l.take k) ^^^ l[k].toNat)) := by rw [take_succ_get l k hlt, crc_snoc]; exact byte1_bits _ _
      generalize l[k].toNat = x at hcell hx HS
      generalize crc t (l.take k) = q at hq HS
      have hqx := xor_lt hq (show x < 4294967296 by omega)
      clear hv
      have e0 : bits .xor .u32 (q : Int) (x : Int) = ((q ^^^ x : Nat) : Int) := u32_xor_nat _ _ hq (by omega)
      go_wp2
      go_loop [5, 7, 8] (fun r j _ => ∃ m : Nat, m ≤ 8 ∧ j = .int .i64 m ∧ r = .int .u32 (bitsN m (q ^^^ x) : Nat)) (fun _ j _ => 8 - (intOf j).toNat)
      case atStart => exact ⟨0, by omega, rfl, rfl⟩
      case round =>
        obtain ⟨m, hm, rfl, rfl⟩ := hrel
        by_cases hlt2 : m < 8
        · have hy := bitsN_lt m _ hqx
          have HB : Hid (bitsN (m + 1) (q ^^^ x) = bit1 (bitsN m (q ^^^ x))) := rfl
          generalize bitsN m (q ^^^ x) = y at hy HB
          obtain ⟨f1, f2⟩ := bit_int y hy
          have hp := Nat.mod_two_eq_zero_or_one y
          have HP : Hid (bit1 y = y / 2 ^^^ (if y % 2 = 1 then 3988292384 else 0)) := rfl
          generalize y % 2 = p at f1 hp HP
          rcases hp with rfl | rfl
          · go_wp2
            go_round
            case rel => exact ⟨m + 1, by omega, by go_num, by rw [HB.out, HP.out]; simp⟩
            case measure => simp [intOf]; omega
          · go_wp2
            go_round
            case rel => exact ⟨m + 1, by omega, by go_num, by rw [HB.out, HP.out]; simp⟩
            case measure => simp [intOf]; omega
        · have hm8 : m = 8 := by omega
          subst hm8
          go_wp2
          go_round
          case rel => exact ⟨k + 1, by omega, by go_num, by rw [HS.out]⟩
          case measure => simp [intOf]; omega
    · have hk' : k = l.length := by omega
      subst hk'
      rw [List.take_length] at hq ⊢
      have h2 := turn_int _ hq
      have h3 := HE.out
      generalize crc t l = q at h2 h3
      clear hv
      go_wp2
      go_ret
      exact ⟨rfl, rfl⟩

theorem sum_calls (v : Value) (l : List UInt8) (w : World) (hT : LaidF w) (hv : Bs w v l) :
    Calls Tryz.prog 163 #[v] w fun e w' => e = .returned (.int .u32 (ext 0 l : Nat)) ∧ w = w' := by
  go_enter Tryz.func163, Tryz.ntmps163
  go_wp2_with (go_at_call 162; refine (extend_calls 0 (by decide) _ l _ hT hv).mono ?_; rintro e w' ⟨rfl, rfl⟩)
  go_ret
  exact ⟨rfl, rfl⟩
theorem rsum_calls (v : Value) (l : List UInt8) (w : World) (hv : Bs w v l) :
    Calls Tryz.prog 166 #[v] w fun e w' => e = .returned (.int .u32 (ext 0 l : Nat)) ∧ w = w' := by
  go_enter Tryz.func166, Tryz.ntmps166
  go_wp2_with (go_at_call 165; refine (rextend_calls 0 (by decide) _ l _ hv).mono ?_; rintro e w' ⟨rfl, rfl⟩)
  go_ret
  exact ⟨rfl, rfl⟩
end Go.Proofs.YtjllkmkngjdjjaaGreatDoor
namespace Go.Proofs.YtjllkmkngjdjjaaGreatDoor
theorem snoc_ind {α : Type} {P : List α → Prop} (h0 : P []) (h1 : ∀ l x, P l → P (l ++ [x])) : ∀ l, P l := by
  have key : ∀ l : List α, P l.reverse := by
    intro l
    induction l with
    | nil => exact h0
    | cons x l ih => rw [List.reverse_cons]; exact h1 _ _ ih
  intro l
  have := key l.reverse
  rwa [List.reverse_reverse] at this
/-- n bytes of a number, the highest first. -/
def be : Nat → Nat → List UInt8
  | 0, _ => []
  | n + 1, v => UInt8.ofNat (v / 256 ^ n % 256) :: be n v
def beNat (l : List UInt8) : Nat := l.foldl (fun v x => v * 256 + x.toNat) 0
theorem be_length (n v : Nat) : (be n v).length = n := by
  induction n with
  | zero => rfl
  | succ n ih => simp [be, ih]
theorem be_snoc (n : Nat) : ∀ v, be (n + 1) v = be n (v / 256) ++ [UInt8.ofNat (v % 256)] := by
  induction n with
  | zero => intro v; simp [be]
  | succ n ih =>
    intro v
    have h1 : v / 256 ^ (n + 1) = v / 256 / 256 ^ n := by rw [Nat.pow_succ, Nat.mul_comm, Nat.div_div_eq_div_mul]
    show UInt8.ofNat (v / 256 ^ (n + 1) % 256) :: be (n + 1) v = _
    rw [ih, h1]
    rfl
theorem beNat_snoc (l : List UInt8) (x : UInt8) : beNat (l ++ [x]) = beNat l * 256 + x.toNat := by simp [beNat]
theorem beNat_lt (l : List UInt8) : beNat l < 256 ^ l.length := by
  have key : ∀ (l : List UInt8) (v k : Nat), v < 256 ^ k → l.foldl (fun v x => v * 256 + x.toNat) v < 256 ^ (k + l.length) := by
    intro l
    induction l with
    | nil => intro v k h; exact h
    | cons x l ih =>
      intro v k h
      have hx := x.toNat_lt
      have := ih (v * 256 + x.toNat) (k + 1) (by rw [Nat.pow_succ]; omega)
      rw [List.foldl_cons, List.length_cons, show k + (l.length + 1) = k + 1 + l.length by omega]
      exact this
  have := key l 0 0 (by simp)
  rw [Nat.zero_add] at this
  exact this
theorem beNat_be (n : Nat) : ∀ v, v < 256 ^ n → beNat (be n v) = v := by
  induction n with
  | zero => intro v h; simp at h; subst h; rfl
  | succ n ih =>
    intro v h
    rw [be_snoc, beNat_snoc, ih (v / 256) (by rw [Nat.pow_succ, Nat.mul_comm] at h; exact Nat.div_lt_of_lt_mul h), UInt8.toNat_ofNat', Nat.mod_mod_of_dvd _ (by decide)]
    have := Nat.mod_lt v (show 0 < 256 by decide)
    omega
theorem be_beNat (l : List UInt8) : be l.length (beNat l) = l := by
  refine snoc_ind (P := fun l => be l.length (beNat l) = l) rfl ?_ l
  intro l x ih
  · rw [List.length_append, List.length_singleton, be_snoc, beNat_snoc]
    have hx := x.toNat_lt
    rw [show (beNat l * 256 + x.toNat) / 256 = beNat l by omega, ih, show (beNat l * 256 + x.toNat) % 256 = x.toNat by omega, UInt8.ofNat_toNat]
end Go.Proofs.YtjllkmkngjdjjaaGreatDoor
