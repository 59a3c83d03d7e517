/- PLAIN MATHEMATICS of FrameTurned: the sum of bytes is another one if one byte is another one; a frame so changed is not read. No statement of the seed is proved here. -/
import Derived.Test.YthgjecofmnomfaaDoorFrameP
namespace Go.Proofs.YthgjecofmnomfaaDoor
set_option maxRecDepth 100000

theorem xor_cancel {a b c : Nat} (h : a ^^^ b = a ^^^ c) : b = c := by
  have := congrArg (fun z => a ^^^ z) h
  simpa [← Nat.xor_assoc, Nat.xor_self] using this
theorem xor_zero_eq {a b : Nat} (h : a ^^^ b = 0) : a = b := by
  have : a ^^^ b = a ^^^ a := by rw [h, Nat.xor_self]
  exact (xor_cancel this).symm
theorem bit1_inj {a b : Nat} (ha : a < 4294967296) (hb : b < 4294967296) (h : bit1 a = bit1 b) : a = b := by
  apply xor_zero_eq
  have hc := xor_lt ha hb
  have h0 : bit1 (a ^^^ b) = 0 := by rw [bit1_xor, h, Nat.xor_self]
  generalize a ^^^ b = c at hc h0
  unfold bit1 at h0
  split at h0
  · have := xor_zero_eq h0; omega
  · rw [Nat.xor_zero] at h0; omega
theorem bitsN_inj (n : Nat) : ∀ {a b : Nat}, a < 4294967296 → b < 4294967296 → bitsN n a = bitsN n b → a = b := by
  induction n with
  | zero => intro a b _ _ h; exact h
  | succ n ih => intro a b ha hb h; exact ih ha hb (bit1_inj (bitsN_lt n _ ha) (bitsN_lt n _ hb) h)
theorem byte1_inj {r q x y : Nat} (hr : r < 4294967296) (hq : q < 4294967296) (hx : x < 256) (hy : y < 256) (h : byte1 r x = byte1 q y) : r ^^^ x = q ^^^ y := by
  rw [byte1_bits, byte1_bits] at h
  exact bitsN_inj 8 (xor_lt hr (by omega)) (xor_lt hq (by omega)) h
theorem crc_inj (l : List UInt8) : ∀ {r q : Nat}, r < 4294967296 → q < 4294967296 → crc r l = crc q l → r = q := by
  induction l with
  | nil => intro r q _ _ h; exact h
  | cons x l ih =>
    intro r q hr hq h
    have := byte1_inj hr hq x.toNat_lt x.toNat_lt (ih (byte1_lt _ _ hr x.toNat_lt) (byte1_lt _ _ hq x.toNat_lt) h)
    rw [Nat.xor_comm r, Nat.xor_comm q] at this
    exact xor_cancel this
theorem crc_set (l : List UInt8) : ∀ (r j : Nat) (y : UInt8) (hj : j < l.length), r < 4294967296 → crc r (l.set j y) = crc r l → y = l[j] := by
  induction l with
  | nil => intro r j y hj; exact absurd hj (by simp)
  | cons x l ih =>
    intro r j y hj hr h
    cases j with
    | zero =>
      have h2 := byte1_inj hr hr y.toNat_lt x.toNat_lt (crc_inj l (byte1_lt _ _ hr y.toNat_lt) (byte1_lt _ _ hr x.toNat_lt) h)
      exact UInt8.toNat_inj.1 (xor_cancel h2)
    | succ j => exact ih _ j y (by simpa using hj) (byte1_lt _ _ hr x.toNat_lt) h
theorem ext_set {s : Nat} (hs : s < 4294967296) (l : List UInt8) (j : Nat) (y : UInt8) (hj : j < l.length) (h : ext s (l.set j y) = ext s l) : y = l[j] :=
  crc_set l _ j y hj (turn_lt _ hs) (xor_cancel h)

theorem frRead_form (h4 s4 d : List UInt8) (hh : h4.length = 4) (hs : s4.length = 4) (hn : beNat h4 = d.length) (hd : d.length ≤ 1048576) (hne : beNat s4 ≠ ext (ext 0 h4) d) : frRead (h4 ++ s4 ++ d) 0 = ([], 0, 110) := by
  have hl : (h4 ++ s4 ++ d).length = 8 + d.length := by simp; omega
  have e1 : ((h4 ++ s4 ++ d).drop 0).take 4 = h4 := by rw [List.drop_zero, List.append_assoc, ← hh, List.take_left]
  have e2 : ((h4 ++ s4 ++ d).drop 4).take 4 = s4 := by rw [List.append_assoc, ← hh, List.drop_left, hh, ← hs, List.take_left]
  have e3 : ((h4 ++ s4 ++ d).drop 8).take d.length = d := by rw [show 8 = (h4 ++ s4).length by simp; omega, List.drop_left, List.take_length]
  unfold frRead
  rw [show (0 : Int).toNat = 0 from rfl, Nat.zero_add, Nat.zero_add, e1, e2, hn, e3, hl]
  rw [if_neg (by omega), if_neg (by omega), if_neg (by omega), if_neg (by omega), if_pos hne]

theorem frRead_turned (d : List UInt8) (hd : d.length ≤ 1048576) (k : Nat) (y : UInt8) (h4 : 4 ≤ k) (hk : k < (fr d).length) (hy : y ≠ (fr d)[k]) : frRead ((fr d).set k y) 0 = ([], 0, 110) := by
  have hl := fr_length d
  have hb4 : (be 4 d.length).length = 4 := be_length _ _
  have hbn : beNat (be 4 d.length) = d.length := beNat_be 4 _ (by omega)
  have hx : ext (ext 0 (be 4 d.length)) d < 4294967296 := ext_lt _ _ (ext_lt _ _ (by omega))
  have hbs : (be 4 (ext (ext 0 (be 4 d.length)) d)).length = 4 := be_length _ _
  have hbx : beNat (be 4 (ext (ext 0 (be 4 d.length)) d)) = ext (ext 0 (be 4 d.length)) d := beNat_be 4 _ (by omega)
  have he0 := ext_lt 0 (be 4 d.length) (by omega)
  have hf : fr d = be 4 d.length ++ be 4 (ext (ext 0 (be 4 d.length)) d) ++ d := rfl
  generalize be 4 d.length = hd4 at *
  generalize hq : be 4 (ext (ext 0 hd4) d) = s4 at *
  have hget : (fr d)[k]? = some (fr d)[k] := List.getElem?_eq_getElem hk
  generalize (fr d)[k] = z at hy hget
  rw [hf] at hget ⊢
  by_cases h8 : k < 8
  · rw [List.append_assoc, List.set_append_right _ _ (by omega), List.set_append_left _ _ (by omega), ← List.append_assoc]
    refine frRead_form _ _ _ hb4 (by simp [hbs]) hbn hd ?_
    intro e
    rw [← hbx] at e
    have e2 := congrArg (be 4) e
    rw [show be 4 (beNat (s4.set (k - hd4.length) y)) = s4.set (k - hd4.length) y by have := be_beNat (s4.set (k - hd4.length) y); rwa [List.length_set, hbs] at this,
      show be 4 (beNat s4) = s4 by have := be_beNat s4; rwa [hbs] at this] at e2
    have e3 : (s4.set (k - hd4.length) y)[k - hd4.length]? = s4[k - hd4.length]? := by rw [e2]
    rw [List.getElem?_set_self (by omega)] at e3
    rw [List.append_assoc, List.getElem?_append_right (by omega), List.getElem?_append_left (by omega), ← e3] at hget
    exact hy (by simpa using hget)
  · rw [List.set_append_right _ _ (by simp; omega)]
    refine frRead_form _ _ _ hb4 hbs (by simp [hbn]) (by simpa using hd) ?_
    intro e
    rw [hbx] at e
    have e3 := ext_set he0 d _ y (by simp; omega) e.symm
    rw [List.getElem?_append_right (by simp; omega), List.getElem?_eq_getElem (by simp; omega)] at hget
    exact hy (e3.trans (by simpa using hget))
end Go.Proofs.YthgjecofmnomfaaDoor
