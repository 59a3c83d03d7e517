/- WALKS of layer 1 and of slices.Clone, Grow, Concat at []byte. No statement of the seed is proved here. -/
import Derived.Test.YtjllkmkngjdjjaaGreatDoorUptoB
import Derived.Test.YtjllkmkngjdjjaaGreatDoorOctetM
namespace Go.Proofs.YtjllkmkngjdjjaaGreatDoor
open Go.RowKit
set_option maxRecDepth 100000

set_option maxHeartbeats 400000 in
theorem clone_calls (v : Value) (l : List UInt8) (w : World) (hv : Bs w v l) (hl : l.length ≤ 150000000000000) :
    Calls Tryz.prog 96 #[v] w fun e w' => ∃ v', e = .returned v' ∧ OwnB w' w.heap.size v' l ∧ Below w.heap.size w w' := by
  obtain ⟨A, c, rfl, hlc, hcm, hA0, hcell⟩ := hv
  have hv : Bs w (.slice A l.length c) l := ⟨A, c, rfl, hlc, hcm, hA0, hcell⟩
  cases A with
  | none =>
    have hc0 := hA0 rfl
    subst hc0
    have hl0 : l = [] := List.eq_nil_of_length_eq_zero (by omega)
    subst hl0
    have kk := fun (w : World) => Lib.run_eql_slice_nil (P := Tryz.prog) w 35 5 Option.none 0 0 0 0 Tryz.underlying35
    go_enter Tryz.func96, Tryz.ntmps96
    go_wp2
    go_ret
    exact ⟨_, rfl, OwnB.nil _ _, Below.refl _ _⟩
  | some ad =>
    have kk := fun (w : World) => Lib.run_eql_slice_nil (P := Tryz.prog) w 35 5 (some ad) l.length c 0 0 Tryz.underlying35
    have hB0 : Below w.heap.size w (w.alloc (.cells #[] 5)) := (Below.refl _ _).alloc (Nat.le_refl _) _
    have tok1 : True := trivial
    go_enter Tryz.func96, Tryz.ntmps96
    go_wp2_with (at_builtin; have _t := tok1; (refine app_u8 rfl _ _ rfl w.heap.size _ rfl [] (OwnB.zero w) _ rfl l (hv.below hB0) ?_ ?_ ?_); (· simp; omega); (· simp); clear tok1; intro v1 w1 ho1 hg1 _; have hB1 := below_grown hB0 hg1 (OwnB.zero w) (le_alloc (Nat.le_refl _) _); rw [List.nil_append] at ho1)
    go_ret
    exact ⟨_, rfl, ho1, hB1⟩

/-- Where a number of n bytes can't be read: the error. -/
theorem room_bad (v : Value) (l : List UInt8) (at_ n : Int) (w : World) (hv : Bs w v l) (h : at_ < 0 ∨ (l.length : Int) < at_) :
    Calls Tryz.prog 129 #[v, .int .i64 at_, .int .i64 n] w fun e w' => e = .returned (.int .i64 2) ∧ w = w' := by
  obtain ⟨A, c, rfl, hlc, hc, hn⟩ := hv.form
  clear hv
  by_cases h0 : at_ < 0
  · clear h
    go_enter Tryz.func129, Tryz.ntmps129
    go_wp2
    go_ret
    exact ⟨rfl, rfl⟩
  · have h1 : (l.length : Int) < at_ := by omega
    clear h
    go_enter Tryz.func129, Tryz.ntmps129
    go_wp2
    go_ret
    exact ⟨rfl, rfl⟩
theorem room_short (v : Value) (l : List UInt8) (at_ : Nat) (n : Int) (w : World) (hv : Bs w v l) (h1 : at_ ≤ l.length) (h2 : (l.length : Int) - at_ < n) :
    Calls Tryz.prog 129 #[v, .int .i64 at_, .int .i64 n] w fun e w' => e = .returned (.int .i64 10) ∧ w = w' := by
  obtain ⟨A, c, rfl, hlc, hc, hn⟩ := hv.form
  clear hv
  go_enter Tryz.func129, Tryz.ntmps129
  go_wp2
  go_ret
  exact ⟨rfl, rfl⟩
theorem room_ok (v : Value) (l : List UInt8) (at_ n : Nat) (w : World) (hv : Bs w v l) (h1 : at_ + n ≤ l.length) :
    Calls Tryz.prog 129 #[v, .int .i64 at_, .int .i64 n] w fun e w' => e = .returned (.int .i64 0) ∧ w = w' := by
  obtain ⟨A, c, rfl, hlc, hc, hn⟩ := hv.form
  clear hv
  go_enter Tryz.func129, Tryz.ntmps129
  go_wp2
  go_ret
  exact ⟨rfl, rfl⟩

theorem get_bad (v : Value) (l : List UInt8) (at_ n : Int) (w : World) (hv : Bs w v l) (h : at_ < 0 ∨ (l.length : Int) < at_) :
    Calls Tryz.prog 218 #[v, .int .i64 at_, .int .i64 n] w fun e w' => e = .returned (.tuple #[.int .u64 0, .int .i64 0, .int .i64 2]) ∧ w = w' := by
  have K := Lib.hid (room_bad v l at_ n w hv h)
  clear hv h
  go_enter Tryz.func218, Tryz.ntmps218
  go_wp2_with (go_at_call 129; refine K.out.mono ?_; rintro e w' ⟨rfl, rfl⟩)
  go_ret3
  exact ⟨rfl, rfl⟩
theorem get_short (v : Value) (l : List UInt8) (at_ : Nat) (n : Int) (w : World) (hv : Bs w v l) (h1 : at_ ≤ l.length) (h2 : (l.length : Int) - at_ < n) :
    Calls Tryz.prog 218 #[v, .int .i64 at_, .int .i64 n] w fun e w' => e = .returned (.tuple #[.int .u64 0, .int .i64 0, .int .i64 10]) ∧ w = w' := by
  have K := Lib.hid (room_short v l at_ n w hv h1 h2)
  clear hv h1 h2
  go_enter Tryz.func218, Tryz.ntmps218
  go_wp2_with (go_at_call 129; refine K.out.mono ?_; rintro e w' ⟨rfl, rfl⟩)
  go_ret3
  exact ⟨rfl, rfl⟩

theorem shl8_or (v x : Nat) (hv : v < 72057594037927936) (hx : x < 256) : bits .or .u64 ((v : Int) * 256) (x : Int) = ((v * 256 + x : Nat) : Int) := by
  have h := u64_or_nat (v * 256) x (by omega) (by omega)
  rw [nat_join 8 (v * 256) x (by omega) (by omega)] at h
  rw [← h]
  simp

set_option maxHeartbeats 400000 in
theorem get_ok (v : Value) (l : List UInt8) (at_ n : Nat) (w : World) (hv : Bs w v l) (h1 : at_ + n ≤ l.length) (h8 : n ≤ 8) :
    Calls Tryz.prog 218 #[v, .int .i64 at_, .int .i64 n] w fun e w' => e = .returned (.tuple #[.int .u64 (beNat ((l.drop at_).take n) : Nat), .int .i64 (at_ + n : Nat), .int .i64 0]) ∧ w = w' := by
  have K := Lib.hid (room_ok v l at_ n w hv h1)
  obtain ⟨A, c, rfl, hlc, hc, hn⟩ := hv.form
  obtain ⟨A', c', hsl, hbs⟩ := hv.sub at_ n h1
  have hm : ((l.drop at_).take n).length = n := by simp; omega
  generalize (l.drop at_).take n = m at hbs hm
  clear hv
  go_enter Tryz.func218, Tryz.ntmps218
  go_wp2_with (go_at_call 129; refine K.out.mono ?_; rintro e w' ⟨rfl, rfl⟩)
  go_loop [6, 11, 26] (fun r _ i => ∃ k : Nat, k ≤ n ∧ i = .int .i64 k ∧ r = .int .u64 (beNat (m.take k) : Nat)) (fun _ _ i => n - (intOf i).toNat)
  case atStart => exact ⟨0, by omega, rfl, rfl⟩
  case round =>
    obtain ⟨k, hk, rfl, rfl⟩ := hrel
    by_cases hlt : k < n
    · obtain ⟨ad, rfl, hcell⟩ := hbs.at_ k (by omega)
      have hx : (m[k]'(by omega)).toNat < 256 := UInt8.toNat_lt _
      have hq : beNat (m.take k) < 72057594037927936 := by
        have := beNat_lt (m.take k)
        rw [List.length_take, Nat.min_eq_left (by omega)] at this
        have h7 : 256 ^ k ≤ 256 ^ 7 := Nat.pow_le_pow_right (by omega) (by omega)
        exact Nat.lt_of_lt_of_le this h7
      have HS : Hid (beNat (m.take (k + 1)) = beNat (m.take k) * 256 + (m[k]'(by omega)).toNat) := by rw [take_succ_get m k (by omega)]; exact beNat_snoc _ _
      generalize (m[k]'(by omega)).toNat = x at hcell hx HS
      generalize beNat (m.take k) = q at hq HS
      have e0 := shl8_or q x hq hx
      clear hbs
      go_wp2
      go_round
      case rel => exact ⟨k + 1, by omega, by go_num, by rw [HS.out]; simp⟩
      case measure => simp [intOf]; omega
    · have hk' : k = n := by omega
      subst hk'
      have hmk : m.take k = m := List.take_of_length_le (by omega)
      rw [hmk]
      clear hbs hmk
      go_wp2
      go_ret3
      exact ⟨rfl, rfl⟩

/-- coppiceref01.Read -/
theorem rget_bad (v : Value) (l : List UInt8) (at_ n : Int) (w : World) (hv : Bs w v l) (h : at_ < 0 ∨ (l.length : Int) < at_) :
    Calls Tryz.prog 216 #[v, .int .i64 at_, .int .i64 n] w fun e w' => e = .returned (.tuple #[.int .u64 0, .int .i64 0, .int .i64 2]) ∧ w = w' := by
  obtain ⟨A, c, rfl, hlc, hc, hn⟩ := hv.form
  clear hv
  by_cases h0 : at_ < 0
  · clear h
    go_enter Tryz.func216, Tryz.ntmps216
    go_wp2
    go_ret3
    exact ⟨rfl, rfl⟩
  · have h1 : (l.length : Int) < at_ := by omega
    clear h
    go_enter Tryz.func216, Tryz.ntmps216
    go_wp2
    go_ret3
    exact ⟨rfl, rfl⟩
theorem rget_short (v : Value) (l : List UInt8) (at_ : Nat) (n : Int) (w : World) (hv : Bs w v l) (h1 : at_ ≤ l.length) (h2 : (l.length : Int) - at_ < n) :
    Calls Tryz.prog 216 #[v, .int .i64 at_, .int .i64 n] w fun e w' => e = .returned (.tuple #[.int .u64 0, .int .i64 0, .int .i64 10]) ∧ w = w' := by
  obtain ⟨A, c, rfl, hlc, hc, hn⟩ := hv.form
  clear hv
  go_enter Tryz.func216, Tryz.ntmps216
  go_wp2
  go_ret3
  exact ⟨rfl, rfl⟩
set_option maxHeartbeats 400000 in
theorem rget_ok (v : Value) (l : List UInt8) (at_ n : Nat) (w : World) (hv : Bs w v l) (h1 : at_ + n ≤ l.length) (h8 : n ≤ 8) :
    Calls Tryz.prog 216 #[v, .int .i64 at_, .int .i64 n] w fun e w' => e = .returned (.tuple #[.int .u64 (beNat ((l.drop at_).take n) : Nat), .int .i64 (at_ + n : Nat), .int .i64 0]) ∧ w = w' := by
  obtain ⟨A, c, rfl, hlc, hc, hn⟩ := hv.form
  have hmk : ∀ k, (hk : k < n) → ((l.drop at_).take n)[k]? = some (l[at_ + k]'(by omega)) := fun k hk => by rw [List.getElem?_take, if_pos hk, List.getElem?_drop, List.getElem?_eq_getElem]
  have hm : ((l.drop at_).take n).length = n := by simp; omega
  generalize (l.drop at_).take n = m at hm hmk
  go_enter Tryz.func216, Tryz.ntmps216
  go_wp2
  go_loop [9, 10] (fun r i => ∃ k : Nat, k ≤ n ∧ i = .int .i64 k ∧ r = .int .u64 (beNat (m.take k) : Nat)) (fun _ i => n - (intOf i).toNat)
  case atStart => exact ⟨0, by omega, rfl, rfl⟩
  case round =>
    obtain ⟨k, hk, rfl, rfl⟩ := hrel
    by_cases hlt : k < n
    · obtain ⟨ad, rfl, hcell⟩ := hv.at_ (at_ + k) (by omega)
      have hx : (l[at_ + k]'(by omega)).toNat < 256 := UInt8.toNat_lt _
      have hq : beNat (m.take k) < 72057594037927936 := by
        have := beNat_lt (m.take k)
        rw [List.length_take, Nat.min_eq_left (by omega)] at this
        have h7 : 256 ^ k ≤ 256 ^ 7 := Nat.pow_le_pow_right (by omega) (by omega)
        exact Nat.lt_of_lt_of_le this h7
      have HS : Hid (beNat (m.take (k + 1)) = beNat (m.take k) * 256 + (l[at_ + k]'(by omega)).toNat) := by rw [take_succ_get m k (by omega), (List.getElem?_eq_some_iff.1 (hmk k hlt)).2]; exact beNat_snoc _ _
      generalize (l[at_ + k]'(by omega)).toNat = x at hcell hx HS
      generalize beNat (m.take k) = q at hq HS
      have e1 : IntKind.u64.wrap ((q : Int) * 256) = (q : Int) * 256 := by rw [IntKind.wrap_u64]; omega
      have e2 : IntKind.u64.wrap ((q : Int) * 256 + (x : Int)) = (q : Int) * 256 + (x : Int) := by rw [IntKind.wrap_u64]; omega
      clear hv hmk
      go_wp2
      go_round
      case rel => exact ⟨k + 1, by omega, by go_num, by rw [HS.out]; simp⟩
      case measure => simp [intOf]; omega
    · have hk' : k = n := by omega
      subst hk'
      have hmk : m.take k = m := List.take_of_length_le (by omega)
      rw [hmk]
      clear hv hmk
      go_wp2
      go_ret3
      exact ⟨rfl, rfl⟩

theorem uint32_bad (v : Value) (l : List UInt8) (at_ : Int) (w : World) (hv : Bs w v l) (h : at_ < 0 ∨ (l.length : Int) < at_) :
    Calls Tryz.prog 215 #[v, .int .i64 at_] w fun e w' => e = .returned (.tuple #[.int .u32 0, .int .i64 0, .int .i64 2]) ∧ w = w' := by
  have K := Lib.hid (get_bad v l at_ 4 w hv h)
  clear hv h
  go_enter Tryz.func215, Tryz.ntmps215
  go_wp2_with (go_at_call 218; refine K.out.mono ?_; rintro e w' ⟨rfl, rfl⟩)
  go_ret3
  exact ⟨rfl, rfl⟩
theorem uint32_short (v : Value) (l : List UInt8) (at_ : Nat) (w : World) (hv : Bs w v l) (h1 : at_ ≤ l.length) (h2 : l.length < at_ + 4) :
    Calls Tryz.prog 215 #[v, .int .i64 at_] w fun e w' => e = .returned (.tuple #[.int .u32 0, .int .i64 0, .int .i64 10]) ∧ w = w' := by
  have K := Lib.hid (get_short v l at_ 4 w hv h1 (by omega))
  clear hv h1 h2
  go_enter Tryz.func215, Tryz.ntmps215
  go_wp2_with (go_at_call 218; refine K.out.mono ?_; rintro e w' ⟨rfl, rfl⟩)
  go_ret3
  exact ⟨rfl, rfl⟩
theorem uint32_ok (v : Value) (l : List UInt8) (at_ : Nat) (w : World) (hv : Bs w v l) (h1 : at_ + 4 ≤ l.length) :
    Calls Tryz.prog 215 #[v, .int .i64 at_] w fun e w' => e = .returned (.tuple #[.int .u32 (beNat ((l.drop at_).take 4) : Nat), .int .i64 (at_ + 4 : Nat), .int .i64 0]) ∧ w = w' := by
  have K := Lib.hid (get_ok v l at_ 4 w hv h1 (by omega))
  have hq : beNat ((l.drop at_).take 4) < 4294967296 := by
    have := beNat_lt ((l.drop at_).take 4)
    rw [List.length_take, List.length_drop, Nat.min_eq_left (by omega)] at this
    exact this
  generalize beNat ((l.drop at_).take 4) = q at K hq
  have e1 : IntKind.u32.wrap (q : Int) = (q : Int) := by rw [IntKind.wrap_u32]; omega
  clear hv
  go_enter Tryz.func215, Tryz.ntmps215
  go_wp2_with (go_at_call 218; refine K.out.mono ?_; rintro e w' ⟨rfl, rfl⟩)
  go_ret3
  exact ⟨rfl, rfl⟩

theorem byte_of (v k : Nat) :
    IntKind.u8.wrap ((v : Int) / 2 ^ (8 * k)) = ((UInt8.ofNat (v / 256 ^ k % 256)).toNat : Int) := by
  have h2 : (2 : Int) ^ (8 * k) = ((256 ^ k : Nat) : Int) := by
    rw [show (256 : Nat) = 2 ^ 8 from rfl, ← Nat.pow_mul]
    simp
  rw [IntKind.wrap_u8', UInt8.toNat_ofNat', Nat.mod_mod_of_dvd _ (by decide), h2]
  simp

set_option maxHeartbeats 800000 in
/-- put: n bytes of a number behind others. -/
theorem put_calls (v : Value) (l : List UInt8) (x n : Nat) (w : World) (hv : Bs w v l) (hn8 : n ≤ 8) (hl : l.length ≤ 140737490000000) :
    Calls Tryz.prog 169 #[v, .int .u64 x, .int .i64 n] w fun e w' => ∃ v', e = .returned v' ∧ OwnB w' w.heap.size v' (l ++ be n x) ∧ Below w.heap.size w w' := by
  have K := Lib.hid (clone_calls v l w hv (by omega))
  clear hv
  go_enter Tryz.func169, Tryz.ntmps169
  go_wp2_with (go_at_call 96; refine K.out.mono ?_; rintro e w1 ⟨v1, rfl, ho1, hB1⟩)
  go_loopw [7, 8] (fun r i wr => ∃ (k : Nat) (v2 : Value) (acc : List UInt8), k ≤ n ∧ i = .int .i64 ((k : Int) - 1) ∧ r = v2 ∧ OwnB wr w.heap.size v2 (l ++ acc) ∧ acc ++ be k x = be n x ∧ acc.length = n - k ∧ Below w.heap.size w wr) (fun _ i _ => (intOf i + 1).toNat)
  case atStart => exact ⟨n, v1, [], Nat.le_refl _, rfl, rfl, by simpa using ho1, by simp, by simp, hB1⟩
  case round =>
    obtain ⟨k, v2, acc, hk, rfl, rfl, ho, hacc, hal, hB⟩ := hrel
    have HA := Lib.hid hacc; clear hacc
    by_cases h0 : k = 0
    · subst h0
      go_wp2
      go_ret
      refine ⟨_, rfl, ?_, hB⟩
      have := HA.out
      simp only [be, List.append_nil] at this
      rw [← this]
      exact ho
    · obtain ⟨j, rfl⟩ : ∃ j, k = j + 1 := ⟨k - 1, by omega⟩
      have hb := byte_of x j
      have HS : Hid (acc ++ [UInt8.ofNat (x / 256 ^ j % 256)] ++ be j x = be n x) := by
        have := HA.out
        simp only [be] at this
        rw [← this]
        simp [Hid]
      generalize UInt8.ofNat (x / 256 ^ j % 256) = y at hb HS
      have tok1 : True := trivial
      have hj8 : IntKind.i64.wrap (8 * (j : Int)) = 8 * (j : Int) := by have := IntWalk.i64_in (8 * (j : Int)) (by omega); exact this
      go_wp2_with (at_builtin; have _t := tok1; (refine app_u8 rfl _ _ rfl w.heap.size _ rfl (l ++ acc) (ho.alloc _) _ rfl [y] (Bs.one _ _ _ rfl) ?_ ?_ ?_); (· simp; omega); (· exact le_alloc hB.size _); clear tok1; intro v3 w3 ho3 hg3 _; have hB3 := below_grown (hB.alloc hB.size _) hg3 (ho.alloc _) (le_alloc hB.size _))
      go_roundw
      case rel => exact ⟨j, v3, acc ++ [y], by omega, by go_num, rfl, by rw [← List.append_assoc]; exact ho3, HS.out, by simp; omega, hB3⟩
      case measure => simp [intOf]

theorem putUint32_calls (v : Value) (l : List UInt8) (x : Nat) (w : World) (hv : Bs w v l) (hx : x < 4294967296) (hl : l.length ≤ 140737490000000) :
    Calls Tryz.prog 161 #[v, .int .u32 x] w fun e w' => ∃ v', e = .returned v' ∧ OwnB w' w.heap.size v' (l ++ be 4 x) ∧ Below w.heap.size w w' := by
  have K := Lib.hid (put_calls v l x 4 w hv (by omega) hl)
  have e1 : IntKind.u64.wrap (x : Int) = (x : Int) := by rw [IntKind.wrap_u64]; omega
  clear hv
  go_enter Tryz.func161, Tryz.ntmps161
  go_wp2_with (go_at_call 169; refine K.out.mono ?_; rintro e w1 ⟨v1, rfl, ho1, hB1⟩)
  go_ret
  exact ⟨_, rfl, ho1, hB1⟩

theorem byte_mod (v : Nat) : IntKind.u8.wrap (v : Int) = ((UInt8.ofNat (v % 256)).toNat : Int) := by
  rw [IntKind.wrap_u8', UInt8.toNat_ofNat', Nat.mod_mod_of_dvd _ (by decide)]
  simp

theorem OwnB.zeros (w : World) (n : Nat) (hn : n ≤ maxLen) : OwnB (w.alloc (.cells (Array.replicate n (.int .u8 0)) 5)) w.heap.size (.slice (some ⟨w.heap.size, 0, none⟩) n n) (List.replicate n 0) := by
  refine ⟨by simp [u8s], .inr ⟨w.heap.size, n, _, by simp, Nat.le_refl _, heap_alloc_new w _, by simp, hn, by simp, by simp [u8s]⟩⟩

set_option maxHeartbeats 800000 in
theorem number4_calls (x : Nat) (w : World) (hx : x < 18446744073709551616) :
    Calls Tryz.prog 164 #[.int .u64 x, .int .i64 4] w fun e w' => ∃ v', e = .returned v' ∧ OwnB w' w.heap.size v' (be 4 x) ∧ Below w.heap.size w w' := by
  have hmk : ∀ W : World, (Instr.makeSlice 35 (.int .i64 4) (.int .i64 4)).run Tryz.prog W = .ok (.slice (some ⟨W.heap.size, 0, none⟩) 4 4) (W.alloc (.cells (Array.replicate 4 (.int .u8 0)) 5)) := fun _ => by kernel_rfl
  have ho0 := OwnB.zeros w 4 (by unfold maxLen; omega)
  have hB0 : Below w.heap.size w (w.alloc (.cells (Array.replicate 4 (.int .u8 0)) 5)) := (Below.refl _ _).alloc (Nat.le_refl _) _
  go_enter Tryz.func164, Tryz.ntmps164
  go_wp2
  go_loopw [0, 6] (fun q i wr => ∃ (k y : Nat) (t : List UInt8), k ≤ 4 ∧ i = .int .i64 ((k : Int) - 1) ∧ q = .int .u64 (y : Nat) ∧ y < 18446744073709551616 ∧ t.length = 4 - k ∧ be k y ++ t = be 4 x ∧
      OwnB wr w.heap.size (.slice (some ⟨w.heap.size, 0, none⟩) 4 4) (List.replicate k 0 ++ t) ∧ Below w.heap.size w wr) (fun _ i _ => (intOf i + 1).toNat)
  case atStart => exact ⟨4, x, [], Nat.le_refl _, rfl, rfl, hx, rfl, by simp, ho0, hB0⟩
  case round =>
    obtain ⟨k, y, t, hk, rfl, rfl, hy, ht, hbe, ho, hB⟩ := hrel
    have HB := Lib.hid hbe; clear hbe
    have HT := Lib.hid ht; clear ht
    clear ho0 hmk hB0
    by_cases h0 : k = 0
    · subst h0
      go_wp2
      go_ret
      refine ⟨_, rfl, ?_, hB⟩
      have h := HB.out
      rw [show be 0 y = [] from rfl, List.nil_append] at h
      rw [← h]
      exact ho
    · obtain ⟨j, rfl⟩ : ∃ j, k = j + 1 := ⟨k - 1, by omega⟩
      obtain ⟨g, hg, hg1, hg2, _, hcell, hfr, hset⟩ := ho.block (by have := HT.out; simp; omega)
      cases hg
      have hc1 := hcell j (by have := HT.out; simp; omega)
      have hf1 := hfr j
      have ho2 := hset j (UInt8.ofNat (y % 256)) (by have := HT.out; simp; omega)
      have hb := byte_mod y
      have HS : Hid (be j (y / 256) ++ (UInt8.ofNat (y % 256) :: t) = be 4 x) := by
        rw [← HB.out, be_snoc]; simp [Hid]
      have HL : Hid ((List.replicate (j + 1) (0 : UInt8) ++ t).set j (UInt8.ofNat (y % 256)) = List.replicate j 0 ++ (UInt8.ofNat (y % 256) :: t)) := by
        unfold Hid
        rw [List.replicate_succ', List.append_assoc, List.set_append_right _ _ (by simp)]
        simp
      generalize UInt8.ofNat (y % 256) = z at hb HS HL ho2
      have hB2 : Below w.heap.size w (wr.setCell ⟨w.heap.size, j, none⟩ (.int .u8 (z.toNat : Int))) := hB.setCell (p := ⟨w.heap.size, j, none⟩) (Nat.le_refl _) _
      clear hcell hfr hset hg2
      go_wp2
      go_roundw
      case rel => exact ⟨j, y / 256, z :: t, by omega, by go_num, by go_num, by omega, by have := HT.out; simp; omega, HS.out, by rw [← HL.out]; exact ho2, hB2⟩
      case measure => simp [intOf]

/-- append(nil, make([]byte, n)...) -/
theorem run_grow_nil (w : World) (n : Nat) (h0 : 0 < n) (hn : n ≤ 200000000000000) :
    (Builtin.append_ #[35, 3] 35 #[.slice Option.none 0 0, .int .i64 (n : Int)]).run Tryz.prog w =
      .ok (.slice (some ⟨w.heap.size, 0, none⟩) n (grownCap w n 0 5)) (w.drew.alloc (.cells (Builtin.zeroCells #[.int .u8 0] n ++ Builtin.zeroCells #[.int .u8 0] (grownCap w n 0 5 - n)) 5)) := by
  obtain ⟨i0, hi0, hz, hsz, hby⟩ := info_parts info_u8
  have hw : IntKind.i64.wrap (n : Int) = (n : Int) := IntWalk.i64_in _ (by omega)
  have h1 : ¬ ((n : Int) < 0) := by omega
  have h2 : ¬ (281474976710656 < (n : Int)) := by omega
  have hn0 : n ≠ 0 := by omega
  have h63 : ¬ (9223372036854775807 < (n : Int)) := by omega
  have h48 : ¬ (281474976710656 < Builtin.nextslicecap n 0) := by rw [nextslicecap_zero h0]; omega
  have hzc : (Value.int IntKind.u8 0).cells = #[.int .u8 0] := rfl
  simp [Builtin.append_, run_underlying Tryz.underlying35, run_underlying Tryz.underlying3, sizeOf, typeInfo, zeroValue, hi0, hz, hsz, hby, hw, h2, hn0, h63, h48, Question.forced, run_firstCells_none, newRow, grownCap, asInt, asIntOf, hzc]
  intro h
  exact absurd h h1

theorem grow_calls (n : Nat) (w : World) (hn : n ≤ 200000000000000) :
    Calls Tryz.prog 179 #[.slice Option.none 0 0, .int .i64 n] w fun e w' => ∃ v', e = .returned v' ∧ OwnB w' w.heap.size v' [] ∧ Below w.heap.size w w' := by
  by_cases h0 : n = 0
  · subst h0
    go_enter Tryz.func179, Tryz.ntmps179
    go_wp2
    go_ret
    exact ⟨_, rfl, OwnB.nil _ _, Below.refl _ _⟩
  · have hgr := fun w => run_grow_nil w n (by omega) hn
    have hge := grownCap_ge w n 0 5
    have hcm := grownCap_le_maxLen w n 0 5 (by unfold maxLen; omega)
    generalize hc : grownCap w n 0 5 = c at hge hcm
    have hgr1 := hgr w
    rw [hc] at hgr1
    have hB : Below w.heap.size w (w.drew.alloc (.cells (Builtin.zeroCells #[.int .u8 0] n ++ Builtin.zeroCells #[.int .u8 0] (c - n)) 5)) := ((Below.refl _ _).drew).alloc (Nat.le_refl _) _
    have ho : OwnB (w.drew.alloc (.cells (Builtin.zeroCells #[.int .u8 0] n ++ Builtin.zeroCells #[.int .u8 0] (c - n)) 5)) w.heap.size (.slice (some ⟨w.heap.size, 0, none⟩) 0 c) [] :=
      ⟨by simp [u8s], .inr ⟨w.heap.size, c, _, rfl, Nat.le_refl _, heap_alloc_new w.drew _, Nat.zero_le _, hcm, by simp [size_zeroCells]; omega, by simp [u8s]⟩⟩
    generalize Builtin.zeroCells #[.int .u8 0] n ++ Builtin.zeroCells #[.int .u8 0] (c - n) = cs at hgr1 hB ho
    clear hgr hc
    unfold maxLen at hcm
    have HR := Lib.hid hgr1; clear hgr1
    go_enter Tryz.func179, Tryz.ntmps179
    go_wp2_with (at_builtin; refine wpList_append_run _ rfl _ _ _ rfl _ _ rfl rfl _ _ HR.out ?_)
    go_ret
    exact ⟨_, rfl, ho, hB⟩

/-- Several []byte, one behind the other. -/
def BsAll (w : World) (vs : List Value) (ls : List (List UInt8)) : Prop := vs.length = ls.length ∧ ∀ (k : Nat) v l, vs[k]? = some v → ls[k]? = some l → Bs w v l
theorem BsAll.below {w w1 : World} {vs : List Value} {ls : List (List UInt8)} (h : BsAll w vs ls) (hb : Below w.heap.size w w1) : BsAll w1 vs ls :=
  ⟨h.1, fun k v l h1 h2 => (h.2 k v l h1 h2).below hb⟩
theorem BsAll.nil (w : World) : BsAll w [] [] := ⟨rfl, fun k v l h => by simp at h⟩
theorem BsAll.cons {w : World} {v : Value} {l : List UInt8} {vs : List Value} {ls : List (List UInt8)} (h : Bs w v l) (hr : BsAll w vs ls) : BsAll w (v :: vs) (l :: ls) := by
  refine ⟨by simp [hr.1], fun k v' l' h1 h2 => ?_⟩
  cases k with
  | zero => simp at h1 h2; subst h1 h2; exact h
  | succ k => exact hr.2 k v' l' (by simpa using h1) (by simpa using h2)
theorem flat_take_succ (ls : List (List UInt8)) (k : Nat) (h : k < ls.length) : (ls.take (k + 1)).flatten = (ls.take k).flatten ++ ls[k] := by
  rw [List.take_succ_eq_append_getElem h, List.flatten_append]; simp
theorem flat_take_le (ls : List (List UInt8)) (k : Nat) : (ls.take k).flatten.length ≤ ls.flatten.length := by
  have : ls.flatten = (ls.take k).flatten ++ (ls.drop k).flatten := by rw [← List.flatten_append, List.take_append_drop]
  rw [this, List.length_append]
  omega

set_option maxHeartbeats 800000 in
theorem concat_calls (A : Option Addr) (n c : Nat) (vs : List Value) (ls : List (List UInt8)) (w : World) (hv : Row w (.slice A n c) n vs) (hn : vs.length = n) (hls : BsAll w vs ls) (hl : ls.flatten.length ≤ 150000000000000) :
    Calls Tryz.prog 126 #[.slice A n c] w fun e w' => ∃ v', e = .returned v' ∧ OwnB w' w.heap.size v' ls.flatten ∧ Below w.heap.size w w' := by
  obtain ⟨hlen, hel⟩ := hls
  have hmx : n ≤ 9223372036854775807 := by have := hv.len; unfold maxLen at this; omega
  go_enter Tryz.func126, Tryz.ntmps126
  go_wp2
  go_loop [3, 5, 11] (fun r _ i => ∃ k : Nat, k ≤ n ∧ i = .int .i64 k ∧ r = .int .i64 ((ls.take k).flatten.length : Nat)) (fun _ _ i => n - (intOf i).toNat)
  case atStart => exact ⟨0, by omega, rfl, by simp⟩
  case round =>
    obtain ⟨k, hk, rfl, rfl⟩ := hrel
    by_cases hlt : k < n
    · have hkv : vs[k]? = some (vs[k]'(by omega)) := List.getElem?_eq_getElem _
      have hkl : ls[k]? = some (ls[k]'(by omega)) := List.getElem?_eq_getElem _
      obtain ⟨ad, rfl, hcell⟩ := hv.at_ k hkv
      obtain ⟨A2, c2, hform, _, _, _⟩ := (hel k _ _ hkv hkl).form
      rw [hform] at hcell
      have hb := flat_take_le ls (k + 1)
      have HS : Hid ((ls.take (k + 1)).flatten.length = (ls.take k).flatten.length + (ls[k]'(by omega)).length) := by rw [flat_take_succ ls k (by omega), List.length_append]; rfl
      rw [HS.out] at hb
      generalize (ls[k]'(by omega)).length = m at hcell HS hb
      generalize (ls.take k).flatten.length = q at HS hb
      generalize ls.flatten.length = tot at hl hb
      clear hform hkl hkv hv hel
      go_wp2
      go_round
      case rel => exact ⟨k + 1, by omega, by go_num, by rw [HS.out]; simp⟩
      case measure => simp [intOf]; omega
    · have hk' : k = n := by omega
      subst hk'
      have hfull : ls.take k = ls := List.take_of_length_le (by omega)
      rw [hfull]
      have KG := Lib.hid (grow_calls ls.flatten.length w (by omega))
      have HN : Hid (ls.flatten.length ≤ 150000000000000) := hl
      clear hl
      generalize ls.flatten.length = tot at KG ⊢
      go_wp2_with (go_at_call 179; refine KG.out.mono ?_; rintro e w1 ⟨v1, rfl, ho1, hB1⟩)
      go_loopw [6, 8, 27] (fun r _ i wr => ∃ j : Nat, j ≤ k ∧ i = .int .i64 j ∧ OwnB wr w.heap.size r (ls.take j).flatten ∧ Below w.heap.size w wr) (fun _ _ i _ => k - (intOf i).toNat)
      case atStart => exact ⟨0, by omega, rfl, by simpa using ho1, hB1⟩
      case round =>
        obtain ⟨j, hj, rfl, ho, hB⟩ := hrel
        clear ho1 hB1
        by_cases hlt2 : j < k
        · have hkv : vs[j]? = some (vs[j]'(by omega)) := List.getElem?_eq_getElem _
          have hkl : ls[j]? = some (ls[j]'(by omega)) := List.getElem?_eq_getElem _
          obtain ⟨ad, rfl, hcell⟩ := hv.at_ j hkv
          have hcell2 := (hB.cell (World.block_lt_of_cell? w _ hcell)).trans hcell
          have hb2 := (hel j _ _ hkv hkl).below hB
          have hb := flat_take_le ls (j + 1)
          have HS : Hid ((ls.take (j + 1)).flatten = (ls.take j).flatten ++ (ls[j]'(by omega))) := flat_take_succ ls j (by omega)
          rw [HS.out, List.length_append] at hb
          generalize (ls[j]'(by omega)) = m at hb2 HS hb
          generalize (vs[j]'(by omega)) = x at hcell2 hb2
          have tok1 : True := trivial
          clear hcell hfull hkl hkv hel hv
          go_wp2_with (at_builtin; have _t := tok1; (refine app_u8 rfl _ _ rfl w.heap.size _ rfl _ ho _ rfl m hb2 ?_ ?_ ?_); (· have := HN.out; omega); (· exact hB.size); clear tok1; intro v3 w3 ho3 hg3 _; have hB3 := below_grown hB hg3 ho hB.size)
          go_roundw
          case rel => exact ⟨j + 1, by omega, by go_num, by rw [HS.out]; exact ho3, hB3⟩
          case measure => simp [intOf]; omega
        · have hj' : j = k := by omega
          subst hj'
          rw [hfull] at ho
          clear hel hv hfull
          go_wp2
          go_ret
          exact ⟨_, rfl, ho, hB⟩
end Go.Proofs.YtjllkmkngjdjjaaGreatDoor
