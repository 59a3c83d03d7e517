/- WALKS of the sums: frame.Sum, frame.Extend and the reference's: each computes 'ext' of XCrc. No statement of the seed is proved here. -/
import Derived.Test.YthgjecofmnomfaaDoorLib
import Derived.Test.YthgjecofmnomfaaDoorCrc
namespace Go.Proofs.YthgjecofmnomfaaDoor
open Go.RowKit

/-- The table of package frame lies as the program's text says. -/
structure LaidF (w : World) : Prop where
  tab : ∀ i, i < 16 → w.cell? ⟨0, i, none⟩ = some (.int .u32 ((tab[i]?.getD 0 : Nat) : Int))
theorem LaidF.below {w w1 : World} (h : LaidF w) (hb : Below w.heap.size w w1) : LaidF w1 :=
  ⟨fun i hi => (hb.cell (World.block_lt_of_cell? w _ (h.tab i hi))).trans (h.tab i hi)⟩

theorem half_facts (w : World) (h : LaidF w) (r : Nat) (hr : r < 4294967296) :
    bits .and .u32 (r : Int) 15 = ((r % 16 : Nat) : Int) ∧ r % 16 < 16 ∧ w.cell? ⟨0, r % 16, none⟩ = some (.int .u32 ((tab[r % 16]?.getD 0 : Nat) : Int)) ∧
      bits .xor .u32 ((r : Int) / 16) ((tab[r % 16]?.getD 0 : Nat) : Int) = (half r : Int) := by
  have hm : r % 16 < 16 := Nat.mod_lt _ (by omega)
  refine ⟨?_, hm, h.tab _ hm, ?_⟩
  · have := u32_and_nat r 15 hr (by decide)
    rw [nat_mask4] at this
    exact this
  · have e : ((r : Int) / 16) = ((r / 16 : Nat) : Int) := by simp
    rw [e]
    exact u32_xor_nat _ _ (by omega) (tab_lt _)

theorem turn_int (r : Nat) (hr : r < 4294967296) : bits .xor .u32 IntKind.u32.max (r : Int) = (turn r : Int) := by
  have := u32_xor_nat 4294967295 r (by decide) hr
  simpa [turn, IntKind.max, IntKind.bits, IntKind.signed] using this

set_option maxHeartbeats 400000 in
theorem extend_calls (s : Nat) (hs : s < 4294967296) (v : Value) (l : List UInt8) (w : World) (hT : LaidF w) (hv : Bs w v l) :
    Calls Tryd.prog 12 #[.int .u32 s, v] w fun e w' => e = .returned (.int .u32 (ext s l : Nat)) ∧ w = w' := by
  obtain ⟨A, c, rfl, hlc, hc, hn⟩ := hv.form
  have ht := turn_int s hs
  have hl := turn_lt s hs
  have HE : Hid (ext s l = turn (crc (turn s) l)) := rfl
  generalize turn s = t at ht hl HE
  go_enter Tryd.func12, Tryd.ntmps12
  go_wp2
  go_loop [5, 7, 12] (fun r _ i => ∃ k : Nat, k ≤ l.length ∧ i = .int .i64 k ∧ r = .int .u32 (crc t (l.take k) : Nat)) (fun _ _ i => l.length - (intOf i).toNat)
  case atStart => exact ⟨0, by omega, rfl, rfl⟩
  case round =>
    obtain ⟨k, hk, rfl, rfl⟩ := hrel
    have hq := crc_lt (l.take k) t hl
    by_cases hlt : k < l.length
    · obtain ⟨ad, rfl, hcell⟩ := hv.at_ k hlt
      have hx : (l[k].toNat) < 256 := UInt8.toNat_lt _
      have HS : Hid (crc t (l.take (k + 1)) = byte1 (crc t (l.take k)) l[k].toNat) := by rw [take_succ_get l k hlt]; exact crc_snoc _ _ _
      generalize l[k].toNat = x at hcell hx HS
      generalize crc t (l.take k) = q at hq HS
      have hqx := xor_lt hq (show x < 4294967296 by omega)
      obtain ⟨a1, a2, a3, a4⟩ := half_facts w hT (q ^^^ x) hqx
      obtain ⟨b1, b2, b3, b4⟩ := half_facts w hT (half (q ^^^ x)) (half_lt _ hqx)
      clear hT hv
      have e0 : bits .xor .u32 (q : Int) (x : Int) = ((q ^^^ x : Nat) : Int) := u32_xor_nat _ _ hq (by omega)
      go_wp2
      go_round
      case rel => exact ⟨k + 1, by omega, by go_num, by rw [HS.out]; rfl⟩
      case measure => simp [intOf]; omega
    · have hk' : k = l.length := by omega
      subst hk'
      rw [List.take_length] at hq ⊢
      have h2 := turn_int _ hq
      have h3 := HE.out
      generalize crc t l = q at h2 h3
      clear hT hv
      go_wp2
      go_ret
      exact ⟨rfl, rfl⟩

theorem bit_int (r : Nat) (hr : r < 4294967296) : bits .and .u32 (r : Int) 1 = ((r % 2 : Nat) : Int) ∧ bits .xor .u32 ((r : Int) / 2) 3988292384 = ((r / 2 ^^^ 3988292384 : Nat) : Int) := by
  constructor
  · have := u32_and_nat r 1 hr (by decide)
    rw [nat_mask1] at this
    exact this
  · have e : ((r : Int) / 2) = ((r / 2 : Nat) : Int) := by simp
    rw [e]
    exact u32_xor_nat _ 3988292384 (by omega) (by decide)

set_option maxHeartbeats 400000 in
theorem rextend_calls (s : Nat) (hs : s < 4294967296) (v : Value) (l : List UInt8) (w : World) (hv : Bs w v l) :
    Calls Tryd.prog 13 #[.int .u32 s, v] w fun e w' => e = .returned (.int .u32 (ext s l : Nat)) ∧ w = w' := by
  obtain ⟨A, c, rfl, hlc, hc, hn⟩ := hv.form
  have ht := turn_int s hs
  have hl := turn_lt s hs
  have HE : Hid (ext s l = turn (crc (turn s) l)) := rfl
  generalize turn s = t at ht hl HE
  go_enter Tryd.func13, Tryd.ntmps13
  go_wp2
  go_loop [5, 6, 7, 8] (fun r i _ _ => ∃ k : Nat, k ≤ l.length ∧ i = .int .i64 k ∧ r = .int .u32 (crc t (l.take k) : Nat)) (fun _ i _ _ => l.length - (intOf i).toNat)
  case atStart => exact ⟨0, by omega, rfl, rfl⟩
  case round =>
    obtain ⟨k, hk, rfl, rfl⟩ := hrel
    have hq := crc_lt (l.take k) t hl
    by_cases hlt : k < l.length
    · obtain ⟨ad, rfl, hcell⟩ := hv.at_ k hlt
      have hx : (l[k].toNat) < 256 := UInt8.toNat_lt _
      have HS : Hid (crc t (l.take (k + 1)) = bitsN 8 (crc t (l.take k) ^^^ l[k].toNat)) := by rw [take_succ_get l k hlt, crc_snoc]; exact byte1_bits _ _
      generalize l[k].toNat = x at hcell hx HS
      generalize crc t (l.take k) = q at hq HS
      have hqx := xor_lt hq (show x < 4294967296 by omega)
      clear hv
      have e0 : bits .xor .u32 (q : Int) (x : Int) = ((q ^^^ x : Nat) : Int) := u32_xor_nat _ _ hq (by omega)
      go_wp2
      go_loop [5, 7, 8] (fun r j _ => ∃ m : Nat, m ≤ 8 ∧ j = .int .i64 m ∧ r = .int .u32 (bitsN m (q ^^^ x) : Nat)) (fun _ j _ => 8 - (intOf j).toNat)
      case atStart => exact ⟨0, by omega, rfl, rfl⟩
      case round =>
        obtain ⟨m, hm, rfl, rfl⟩ := hrel
        by_cases hlt2 : m < 8
        · have hy := bitsN_lt m _ hqx
          have HB : Hid (bitsN (m + 1) (q ^^^ x) = bit1 (bitsN m (q ^^^ x))) := rfl
          generalize bitsN m (q ^^^ x) = y at hy HB
          obtain ⟨f1, f2⟩ := bit_int y hy
          have hp := Nat.mod_two_eq_zero_or_one y
          have HP : Hid (bit1 y = y / 2 ^^^ (if y % 2 = 1 then 3988292384 else 0)) := rfl
          generalize y % 2 = p at f1 hp HP
          rcases hp with rfl | rfl
          · go_wp2
            go_round
            case rel => exact ⟨m + 1, by omega, by go_num, by rw [HB.out, HP.out]; simp⟩
            case measure => simp [intOf]; omega
          · go_wp2
            go_round
            case rel => exact ⟨m + 1, by omega, by go_num, by rw [HB.out, HP.out]; simp⟩
            case measure => simp [intOf]; omega
        · have hm8 : m = 8 := by omega
          subst hm8
          go_wp2
          go_round
          case rel => exact ⟨k + 1, by omega, by go_num, by rw [HS.out]⟩
          case measure => simp [intOf]; omega
    · have hk' : k = l.length := by omega
      subst hk'
      rw [List.take_length] at hq ⊢
      have h2 := turn_int _ hq
      have h3 := HE.out
      generalize crc t l = q at h2 h3
      clear hv
      go_wp2
      go_ret
      exact ⟨rfl, rfl⟩

theorem sum_calls (v : Value) (l : List UInt8) (w : World) (hT : LaidF w) (hv : Bs w v l) :
    Calls Tryd.prog 10 #[v] w fun e w' => e = .returned (.int .u32 (ext 0 l : Nat)) ∧ w = w' := by
  go_enter Tryd.func10, Tryd.ntmps10
  go_wp2_with (go_at_call 12; refine (extend_calls 0 (by decide) _ l _ hT hv).mono ?_; rintro e w' ⟨rfl, rfl⟩)
  go_ret
  exact ⟨rfl, rfl⟩
theorem rsum_calls (v : Value) (l : List UInt8) (w : World) (hv : Bs w v l) :
    Calls Tryd.prog 11 #[v] w fun e w' => e = .returned (.int .u32 (ext 0 l : Nat)) ∧ w = w' := by
  go_enter Tryd.func11, Tryd.ntmps11
  go_wp2_with (go_at_call 13; refine (rextend_calls 0 (by decide) _ l _ hv).mono ?_; rintro e w' ⟨rfl, rfl⟩)
  go_ret
  exact ⟨rfl, rfl⟩
end Go.Proofs.YthgjecofmnomfaaDoor
