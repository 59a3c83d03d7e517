/- WALKS of the schedules: hash.Schedule and the reference's. No statement of the seed is proved here. -/
import Derived.Test.YthgjecofmnomfaaDoorArr
import Derived.Test.YthgjecofmnomfaaDoorShaA
import Derived.Test.YthgjecofmnomfaaDoorOctet
import Derived.Test.YthgjecofmnomfaaDoorDigM
namespace Go.Proofs.YthgjecofmnomfaaDoor
open Go.RowKit
set_option maxRecDepth 100000
def word4 (blk : List UInt8) (t : Nat) : Int := (beNat ((blk.drop (4 * t)).take 4) : Nat)
def nextW (a b c d : Int) : Int :=
  (bits .xor .u32 (bits .xor .u32 (rorI a 17) (rorI a 19)) (a / 1024) + c + bits .xor .u32 (bits .xor .u32 (rorI b 7) (rorI b 18)) (b / 8) + d) % 4294967296
def sched (blk : List UInt8) : Nat → List Int
  | 0 => []
  | t + 1 => sched blk t ++ [if t < 16 then word4 blk t else nextW ((sched blk t)[t - 2]?.getD 0) ((sched blk t)[t - 15]?.getD 0) ((sched blk t)[t - 7]?.getD 0) ((sched blk t)[t - 16]?.getD 0)]
theorem sched_length (blk : List UInt8) : ∀ t, (sched blk t).length = t
  | 0 => rfl
  | t + 1 => by simp [sched, sched_length blk t]
/-- What lies in the array when t words are made. -/
def half64 (blk : List UInt8) (t : Nat) : List Int := sched blk t ++ List.replicate (64 - t) 0
theorem half64_length (blk : List UInt8) (t : Nat) (h : t ≤ 64) : (half64 blk t).length = 64 := by
  simp [half64, sched_length]; omega
theorem half64_get (blk : List UInt8) (t j : Nat) (hj : j < t) : (u32s (half64 blk t))[j]? = some (.int .u32 ((sched blk t)[j]?.getD 0)) := by
  have hl := sched_length blk t
  rw [u32s, List.getElem?_map, half64, List.getElem?_append_left (by omega), List.getElem?_eq_getElem (by omega)]
  rfl
theorem half64_set (blk : List UInt8) (t : Nat) (h : t < 64) (x : Int) (hx : x = if t < 16 then word4 blk t else nextW ((sched blk t)[t - 2]?.getD 0) ((sched blk t)[t - 15]?.getD 0) ((sched blk t)[t - 7]?.getD 0) ((sched blk t)[t - 16]?.getD 0)) :
    (u32s (half64 blk t)).set t (.int .u32 x) = u32s (half64 blk (t + 1)) := by
  rw [u32s_set]
  congr 1
  have hl := sched_length blk t
  unfold half64
  rw [List.set_append_right _ _ (by omega), hl, Nat.sub_self, show 64 - t = (64 - (t + 1)) + 1 by omega, List.replicate_succ, List.set_cons_zero]
  simp [sched, hx]
theorem info_64w : (Tryd.prog.info? 132).map (·.size) = some 64 := by kernel_rfl
theorem slice_64 (g n : Nat) (l : Int) (hl : l = (n : Int)) (hn : n < 64) (w : World) : (Instr.sliceAt 127 (.pointer (some ⟨g, 0, none⟩)) (some (.int .i64 l)) none none).run Tryd.prog w = .ok (.slice (some ⟨g, n, none⟩) (64 - n) (64 - n)) w := by
  have he : Tryd.prog.elem 127 = 5 := by kernel_rfl
  have ha : Tryd.prog.arrayLen 127 = 64 := by kernel_rfl
  have hu : Tryd.prog.underlying 127 = some (.array (Tryd.prog.arrayLen 127) (Tryd.prog.elem 127)) := by kernel_rfl
  obtain ⟨i, hi, hs⟩ : ∃ i, Tryd.prog.info? 5 = some i ∧ i.size = 1 := by
    obtain ⟨i, hi, hs⟩ := Option.map_eq_some_iff.1 info_u8
    exact ⟨i, hi, by have := congrArg (fun q => q.2.1) hs; simpa using this⟩
  have hz : (sizeOf 5).run Tryd.prog w = .ok 1 w := by rw [run_sizeOf _ hi]; simp [Program.cellsOf, hi, hs]
  subst hl
  rw [run_sliceAt_array_l (ht := hu) (h0 := by omega) (h1 := by rw [ha]; omega), he, hz]
  simp only [Result.andThen_ok, slicedAt, ha, Int.toNat_natCast, Nat.mul_one]
  rw [if_neg (by omega), show (⟨g, 0, none⟩ : Addr).add n = ⟨g, n, none⟩ from add_plain g n]
theorem or4m (a b c d : UInt8) : bits .or .u32 (bits .or .u32 (bits .or .u32 ((a.toNat : Int) * 16777216) ((b.toNat : Int) * 65536)) ((c.toNat : Int) * 256)) (d.toNat : Int) = ((((a.toNat * 256 + b.toNat) * 256 + c.toNat) * 256 + d.toNat : Nat) : Int) := by
  have ha := UInt8.toNat_lt a
  have hb := UInt8.toNat_lt b
  have hc := UInt8.toNat_lt c
  have hd := UInt8.toNat_lt d
  have e1 : bits .or .u32 ((a.toNat : Int) * 16777216) ((b.toNat : Int) * 65536) = ((a.toNat * 16777216 + b.toNat * 65536 : Nat) : Int) := by
    have h := u32_or_nat (a.toNat * 16777216) (b.toNat * 65536) (by omega) (by omega)
    rw [nat_join 24 (a.toNat * 16777216) (b.toNat * 65536) (by omega) (by omega)] at h
    rw [← h]; simp
  have e2 : bits .or .u32 ((a.toNat * 16777216 + b.toNat * 65536 : Nat) : Int) ((c.toNat : Int) * 256) = ((a.toNat * 16777216 + b.toNat * 65536 + c.toNat * 256 : Nat) : Int) := by
    have h := u32_or_nat (a.toNat * 16777216 + b.toNat * 65536) (c.toNat * 256) (by omega) (by omega)
    rw [nat_join 16 (a.toNat * 16777216 + b.toNat * 65536) (c.toNat * 256) (by omega) (by omega)] at h
    rw [← h]; simp
  have h := u32_or_nat (a.toNat * 16777216 + b.toNat * 65536 + c.toNat * 256) d.toNat (by omega) (by omega)
  rw [nat_join 8 (a.toNat * 16777216 + b.toNat * 65536 + c.toNat * 256) d.toNat (by omega) (by omega)] at h
  rw [e1, e2, h]
  congr 1
  omega
theorem or4 (a b c d : UInt8) : bits .or .u32 (bits .or .u32 (bits .or .u32 ((a.toNat : Int) % 4294967296 * 16777216 % 4294967296) ((b.toNat : Int) % 4294967296 * 65536 % 4294967296)) ((c.toNat : Int) % 4294967296 * 256 % 4294967296)) ((d.toNat : Int) % 4294967296) = ((((a.toNat * 256 + b.toNat) * 256 + c.toNat) * 256 + d.toNat : Nat) : Int) := by
  have ha := UInt8.toNat_lt a
  have hb := UInt8.toNat_lt b
  have hc := UInt8.toNat_lt c
  have hd := UInt8.toNat_lt d
  rw [← or4m a b c d]
  congr 1
  · congr 1
    · congr 1 <;> omega
    · omega
  · omega
theorem word4_eq (blk : List UInt8) (t : Nat) (h : 4 * t + 3 < blk.length) : word4 blk t = ((((blk[4 * t].toNat * 256 + blk[4 * t + 1].toNat) * 256 + blk[4 * t + 2].toNat) * 256 + blk[4 * t + 3].toNat : Nat) : Int) := by
  have e : (blk.drop (4 * t)).take 4 = [blk[4 * t], blk[4 * t + 1], blk[4 * t + 2], blk[4 * t + 3]] := by
    apply List.ext_getElem?
    intro i
    by_cases h4 : i < 4
    · rw [List.getElem?_take, if_pos h4, List.getElem?_drop, List.getElem?_eq_getElem (by omega)]
      match i, h4 with
      | 0, _ => rfl
      | 1, _ => rfl
      | 2, _ => rfl
      | 3, _ => rfl
    · rw [List.getElem?_eq_none (by simp; omega), List.getElem?_eq_none (by simp; omega)]
  unfold word4
  rw [e]
  simp [beNat]
theorem word4_get (blk : List UInt8) (t : Nat) (h : 4 * t + 3 < blk.length) : ((((((blk[4 * t]?.getD 0).toNat * 256 + (blk[4 * t + 1]?.getD 0).toNat) * 256 + (blk[4 * t + 2]?.getD 0).toNat) * 256 + (blk[4 * t + 3]?.getD 0).toNat : Nat) : Int)) = word4 blk t := by
  rw [word4_eq blk t h, List.getElem?_eq_getElem (show 4 * t < blk.length by omega), List.getElem?_eq_getElem (show 4 * t + 1 < blk.length by omega), List.getElem?_eq_getElem (show 4 * t + 2 < blk.length by omega), List.getElem?_eq_getElem (show 4 * t + 3 < blk.length by omega)]
  rfl
structure SchAt (W : World) (blk : List UInt8) (q n t : Nat) (w : World) : Prop where
  bel : Below W.heap.size W w
  size : w.heap.size = W.heap.size + n
  blkA : Arr w W.heap.size (u8s blk)
  arr : Arr w (W.heap.size + q) (u32s (half64 blk t))
  res : q ≠ 1 → Arr w (W.heap.size + 1) (u32s (List.replicate 64 0))
theorem SchAt.put {W : World} {blk : List UInt8} {q n t : Nat} {w : World} (h : SchAt W blk q n t w) (nq : Nat) (hq : 1 ≤ q) (ht : t < 64) {x : Int} (hx : x = if t < 16 then word4 blk t else nextW ((sched blk t)[t - 2]?.getD 0) ((sched blk t)[t - 15]?.getD 0) ((sched blk t)[t - 7]?.getD 0) ((sched blk t)[t - 16]?.getD 0)) :
    SchAt W blk q n (t + 1) ((w.drewN nq).setCell ⟨W.heap.size + q, t, none⟩ (.int .u32 x)) := by
  have hb : Below w.heap.size w (w.drewN nq) := below_drewN (Below.refl _ _) nq
  have hbW : Below W.heap.size W (w.drewN nq) := below_drewN h.bel nq
  refine ⟨hbW.setCell (show W.heap.size ≤ W.heap.size + q by omega) _, ?_, (h.blkA.below hb).apart (by omega) _ _, ?_, fun h1 => ((h.res h1).below hb).apart (by omega) _ _⟩
  · simp [h.size]
  · rw [← half64_set blk t ht x hx]
    exact (h.arr.below hb).set _ _
theorem SchAt.put0 {W : World} {blk : List UInt8} {q n t : Nat} {w : World} (h : SchAt W blk q n t w) (hq : 1 ≤ q) (ht : t < 64) {x : Int} (hx : x = if t < 16 then word4 blk t else nextW ((sched blk t)[t - 2]?.getD 0) ((sched blk t)[t - 15]?.getD 0) ((sched blk t)[t - 7]?.getD 0) ((sched blk t)[t - 16]?.getD 0)) :
    SchAt W blk q n (t + 1) (w.setCell ⟨W.heap.size + q, t, none⟩ (.int .u32 x)) := by
  refine ⟨h.bel.setCell (show W.heap.size ≤ W.heap.size + q by omega) _, ?_, h.blkA.apart (by omega) _ _, ?_, fun h1 => (h.res h1).apart (by omega) _ _⟩
  · simp [h.size]
  · rw [← half64_set blk t ht x hx]
    exact h.arr.set _ _
theorem SchAt.slot {W : World} {blk : List UInt8} {q n t : Nat} {w : World} (h : SchAt W blk q n t w) (ht : t < 64) : w.cell? ⟨W.heap.size + q, t, none⟩ = some (.int .u32 0) ∧ w.frozen? ⟨W.heap.size + q, t, none⟩ = false :=
  ⟨h.arr.cell (by rw [u32s, List.getElem?_map, half64, List.getElem?_append_right (by rw [sched_length]; omega), sched_length, Nat.sub_self, List.getElem?_replicate, if_pos (by omega)]; rfl),
    h.arr.frozen (by rw [u32s_length, half64_length _ _ (by omega)]; omega)⟩
theorem SchAt.word {W : World} {blk : List UInt8} {q n t : Nat} {w : World} (h : SchAt W blk q n t w) (j : Nat) (hj : j < t) : w.cell? ⟨W.heap.size + q, j, none⟩ = some (.int .u32 ((sched blk t)[j]?.getD 0)) := h.arr.cell (half64_get blk t j hj)
set_option maxHeartbeats 1000000 in
theorem schedule_calls (blk : List UInt8) (h64 : blk.length = 64) (W : World) :
    Calls Tryd.prog 85 #[.agg (u8s blk).toArray] W fun e w' => e = .returned (.agg (u32s (sched blk 64)).toArray) ∧ Below W.heap.size W w' := by
  have hb0 := below_alloc1 W (.cells (u8s blk).toArray 127)
  have hs0 : (W.alloc (.cells (u8s blk).toArray 127)).heap.size = W.heap.size + 1 := by simp
  have hq := Arr.new (W.alloc (.cells (u8s blk).toArray 127)) (u32s (half64 blk 0)) 132
  rw [hs0] at hq
  have H0 := Lib.hid (SchAt.mk (blk := blk) (q := 1) (n := 2) (t := 0) (hb0.alloc (by rw [hs0]; omega) (.cells (u32s (half64 blk 0)).toArray 132)) (by simp) ((Arr.new W (u8s blk) 127).below (below_alloc1 _ (.cells (u32s (half64 blk 0)).toArray 132))) hq (fun h => absurd rfl h))
  clear hb0 hs0 hq
  go_enter Tryd.func85, Tryd.ntmps85
  go_wp2
  go_loopw [3, 8] (fun _ i wr => ∃ t : Nat, t ≤ 16 ∧ i = .int .i64 (t : Int) ∧ Hid (SchAt W blk 1 2 t wr)) (fun _ i _ => 16 - (intOf i).toNat)
  case atStart => exact ⟨0, by omega, rfl, H0⟩
  case round =>
    obtain ⟨t, ht, rfl, HA⟩ := hrel
    by_cases hlt : t < 16
    · have hsl := slice_64 W.heap.size (4 * t) (4 * (t : Int)) (by omega) (by omega) wr
      have hby : ∀ j, j < 4 → wr.cell? ⟨W.heap.size, 4 * t + j, none⟩ = some (.int .u8 ((blk[4 * t + j]?.getD 0).toNat : Int)) := fun j hj => by
        have := HA.out.blkA.cell (i := 4 * t + j) (u8s_get blk _ (by omega))
        rw [this, List.getElem?_eq_getElem (by omega)]
        rfl
      have c0 := hby 0 (by omega)
      have c1 := hby 1 (by omega)
      have c2 := hby 2 (by omega)
      have c3 := hby 3 (by omega)
      rw [Nat.add_zero] at c0
      obtain ⟨hcl, hfr⟩ := HA.out.slot (by omega)
      have HOR := Lib.hid ((or4 (blk[4 * t]?.getD 0) (blk[4 * t + 1]?.getD 0) (blk[4 * t + 2]?.getD 0) (blk[4 * t + 3]?.getD 0)).trans (word4_get blk t (by omega)))
      clear hby
      generalize blk[4 * t]?.getD 0 = x0 at *
      generalize blk[4 * t + 1]?.getD 0 = x1 at *
      generalize blk[4 * t + 2]?.getD 0 = x2 at *
      generalize blk[4 * t + 3]?.getD 0 = x3 at *
      go_wp2
      refine wp_region_quiet_tail 24 (by kernel_rfl) (by kernel_rfl) ?_
      simp only [List.take_succ_cons, List.take_zero, List.drop_succ_cons, List.drop_zero]
      repeat (go_big_quiet_step (fail))
      refine wpQuiet_nil ?_
      intro _ hw'; obtain ⟨nq, hw''⟩ := hw'; subst hw''
      go_wp2
      go_roundw
      case rel => exact ⟨t + 1, by omega, by go_num, Lib.hid (HA.out.put nq (by omega) (by omega) (by rw [HOR.out, if_pos hlt]))⟩
      case measure => simp [intOf]; omega
    · obtain rfl : t = 16 := by omega
      go_wp2
      clear H0
      go_loopw [5, 6, 7] (fun i _ _ wr => ∃ t : Nat, 16 ≤ t ∧ t ≤ 64 ∧ i = .int .i64 (t : Int) ∧ Hid (SchAt W blk 1 2 t wr)) (fun i _ _ _ => 64 - (intOf i).toNat)
      case atStart => exact ⟨16, by omega, by omega, rfl, HA⟩
      case round =>
        obtain ⟨t, h16, ht, rfl, HB⟩ := hrel
        clear HA
        by_cases hlt : t < 64
        · have c2 := HB.out.word (t - 2) (by omega)
          have c15 := HB.out.word (t - 15) (by omega)
          have c7 := HB.out.word (t - 7) (by omega)
          have c16 := HB.out.word (t - 16) (by omega)
          obtain ⟨hcl, hfr⟩ := HB.out.slot hlt
          obtain ⟨a, ha⟩ : ∃ a, (sched blk t)[t - 2]?.getD 0 = a := ⟨_, rfl⟩
          obtain ⟨b, hb⟩ : ∃ a, (sched blk t)[t - 15]?.getD 0 = a := ⟨_, rfl⟩
          obtain ⟨c, hc⟩ : ∃ a, (sched blk t)[t - 7]?.getD 0 = a := ⟨_, rfl⟩
          obtain ⟨d, hd⟩ : ∃ a, (sched blk t)[t - 16]?.getD 0 = a := ⟨_, rfl⟩
          rw [ha] at c2
          rw [hb] at c15
          rw [hc] at c7
          rw [hd] at c16
          have HN := Lib.hid (And.intro ha (And.intro hb (And.intro hc hd)))
          clear ha hb hc hd
          have i2 : ((t : Int) - 2).toNat = t - 2 := by omega
          have i15 : ((t : Int) - 15).toNat = t - 15 := by omega
          have i7 : ((t : Int) - 7).toNat = t - 7 := by omega
          have i16 : ((t : Int) - 16).toNat = t - 16 := by omega
          go_wp2
          refine wp_region_litC (C := fun w' => ∃ n, w' = wr.drewN n) ⟨1, rfl⟩ (by kernel_rfl) (by kernel_rfl) ?_
          repeat (go_big_quiet_step (fail))
          refine wpQuiet_nil ?_
          intro _ hw'; obtain ⟨nr, hw''⟩ := hw'; subst hw''
          go_wp2
          refine wp_region_quiet_tail 29 (by kernel_rfl) (by kernel_rfl) ?_
          simp only [List.take_succ_cons, List.take_zero, List.drop_succ_cons, List.drop_zero]
          repeat (go_big_quiet_step (fail))
          refine wpQuiet_call (by rfl) 86 #[.int .u32 a, .int .i64 (17 : Nat)] (.int .u32 (rorI a 17)) (fun w' hw => by go_simp) (fun w' hw => (ror_calls a 17 w' (by omega) (by omega)).mono fun _ _ ⟨h1, h2⟩ => ⟨h1, by rw [h2]; exact hw⟩) ?_
          simp only [Act.put, List.setIfInBounds_toArray, List.set_cons_zero, List.set_cons_succ]
          repeat (go_big_quiet_step (fail))
          refine wpQuiet_call (by rfl) 86 #[.int .u32 a, .int .i64 (19 : Nat)] (.int .u32 (rorI a 19)) (fun w' hw => by go_simp) (fun w' hw => (ror_calls a 19 w' (by omega) (by omega)).mono fun _ _ ⟨h1, h2⟩ => ⟨h1, by rw [h2]; exact hw⟩) ?_
          simp only [Act.put, List.setIfInBounds_toArray, List.set_cons_zero, List.set_cons_succ]
          repeat (go_big_quiet_step (fail))
          refine wpQuiet_call (by rfl) 86 #[.int .u32 b, .int .i64 (7 : Nat)] (.int .u32 (rorI b 7)) (fun w' hw => by go_simp) (fun w' hw => (ror_calls b 7 w' (by omega) (by omega)).mono fun _ _ ⟨h1, h2⟩ => ⟨h1, by rw [h2]; exact hw⟩) ?_
          simp only [Act.put, List.setIfInBounds_toArray, List.set_cons_zero, List.set_cons_succ]
          repeat (go_big_quiet_step (fail))
          refine wpQuiet_call (by rfl) 86 #[.int .u32 b, .int .i64 (18 : Nat)] (.int .u32 (rorI b 18)) (fun w' hw => by go_simp) (fun w' hw => (ror_calls b 18 w' (by omega) (by omega)).mono fun _ _ ⟨h1, h2⟩ => ⟨h1, by rw [h2]; exact hw⟩) ?_
          simp only [Act.put, List.setIfInBounds_toArray, List.set_cons_zero, List.set_cons_succ]
          repeat (go_big_quiet_step (fail))
          refine wpQuiet_nil ?_
          intro _ hw'; obtain ⟨nq, hw''⟩ := hw'; subst hw''
          go_wp2
          go_roundw
          case rel => exact ⟨t + 1, by omega, by omega, by go_num, Lib.hid (HB.out.put (nr + nq) (by omega) hlt (x := nextW a b c d) (by rw [if_neg (by omega), HN.out.1, HN.out.2.1, HN.out.2.2.1, HN.out.2.2.2]))⟩
          case measure => simp [intOf]; omega
        · obtain rfl : t = 64 := by omega
          have HL := Lib.hid (HB.out.arr.load (P := Tryd.prog) (ty := 132) Tryd.underlying132 rfl (by rw [u32s_length, half64_length _ _ (by omega)]; exact info_64w))
          have HS := Lib.hid (HB.out.arr.store (P := Tryd.prog) (ty := 132) (u32s (half64 blk 64)) rfl (by rw [u32s_length, half64_length _ _ (by omega)]; exact info_64w) (u32s_one _))
          have HR := Lib.hid (And.intro (below_setCells HB.out.bel (W.heap.size + 1) 0 (by omega) (u32s (half64 blk 64))) (HB.out.arr.put (u32s (half64 blk 64)) rfl))
          have e64 : half64 blk 64 = sched blk 64 := by simp [half64]
          have l64 : (u32s (half64 blk 64)).length = 64 := by rw [u32s_length, half64_length _ _ (by omega)]
          clear HB
          rw [e64] at HL HS HR l64
          clear e64
          obtain ⟨L, hL⟩ : ∃ L, sched blk 64 = L := ⟨_, rfl⟩
          rw [hL] at HL HS HR l64
          have HLL := Lib.hid hL
          clear hL
          go_wp2_with (first
            | (refine wpList_load_run rfl 132 _ rfl _ _ rfl HL.out ?_; simp only [Act.put, List.setIfInBounds_toArray, List.set_cons_zero, List.set_cons_succ])
            | (refine wpList_store_run rfl 132 _ _ rfl _ _ rfl rfl _ HS.out ?_; simp only [Act.put]))
          refine bodyPost_ret (results_arr Tryd.results85 _ HR.out.2 rfl Tryd.underlying132 rfl (by rw [l64]; exact info_64w)) rfl ⟨by rw [HLL.out], HR.out.1⟩
theorem slice_all64 (g : Nat) (w : World) : (Instr.sliceAt 127 (.pointer (some ⟨g, 0, none⟩)) none none none).run Tryd.prog w = .ok (.slice (some ⟨g, 0, none⟩) 64 64) w := by
  have he : Tryd.prog.elem 127 = 5 := by kernel_rfl
  have ha : Tryd.prog.arrayLen 127 = 64 := by kernel_rfl
  have hu : Tryd.prog.underlying 127 = some (.array (Tryd.prog.arrayLen 127) (Tryd.prog.elem 127)) := by kernel_rfl
  obtain ⟨i, hi, hs⟩ : ∃ i, Tryd.prog.info? 5 = some i ∧ i.size = 1 := by
    obtain ⟨i, hi, hs⟩ := Option.map_eq_some_iff.1 info_u8
    exact ⟨i, hi, by have := congrArg (fun q => q.2.1) hs; simpa using this⟩
  have hz : (sizeOf 5).run Tryd.prog w = .ok 1 w := by rw [run_sizeOf _ hi]; simp [Program.cellsOf, hi, hs]
  rw [run_sliceAt_array_all (ht := hu), he, hz]
  simp only [Result.andThen_ok, slicedAt, ha]
  rw [if_neg (by omega), show (⟨g, 0, none⟩ : Addr).add (0 * 1) = ⟨g, 0, none⟩ from add_plain g 0]
theorem Arr.bs {w : World} {g : Nat} {l : List UInt8} (h : Arr w g (u8s l)) (n : Nat) (hn : l.length = n) (hm : n ≤ maxLen) : Bs w (.slice (some ⟨g, 0, none⟩) n n) l :=
  ⟨_, n, by rw [hn], by rw [hn]; exact Nat.le_refl _, hm, by simp, fun j u hu => ⟨⟨g, 0, none⟩, rfl, by rw [add_plain]; exact h.cell hu⟩⟩
theorem word4_lt (blk : List UInt8) (t : Nat) : beNat ((blk.drop (4 * t)).take 4) < 4294967296 := by
  have h := beNat_lt ((blk.drop (4 * t)).take 4)
  have h2 : 256 ^ ((blk.drop (4 * t)).take 4).length ≤ 256 ^ 4 := Nat.pow_le_pow_right (by omega) (by simp; omega)
  omega
set_option maxHeartbeats 1000000 in
theorem rschedule_calls (blk : List UInt8) (h64 : blk.length = 64) (W : World) :
    Calls Tryd.prog 81 #[.agg (u8s blk).toArray] W fun e w' => e = .returned (.agg (u32s (sched blk 64)).toArray) ∧ Below W.heap.size W w' := by
  have hb0 := below_alloc1 W (.cells (u8s blk).toArray 127)
  have hs0 : (W.alloc (.cells (u8s blk).toArray 127)).heap.size = W.heap.size + 1 := by simp
  have hr := Arr.new (W.alloc (.cells (u8s blk).toArray 127)) (u32s (List.replicate 64 0)) 132
  have hp := (Arr.new W (u8s blk) 127).below (below_alloc1 _ (.cells (u32s (List.replicate 64 0)).toArray 132))
  have hb1 := hb0.alloc (by rw [hs0]; omega) (.cells (u32s (List.replicate 64 0)).toArray 132)
  have hs1 : ((W.alloc (.cells (u8s blk).toArray 127)).alloc (.cells (u32s (List.replicate 64 0)).toArray 132)).heap.size = W.heap.size + 2 := by simp
  rw [hs0] at hr
  have hq := Arr.new ((W.alloc (.cells (u8s blk).toArray 127)).alloc (.cells (u32s (List.replicate 64 0)).toArray 132)) (u32s (half64 blk 0)) 132
  rw [hs1] at hq
  have H0 := Lib.hid (SchAt.mk (blk := blk) (q := 2) (n := 3) (t := 0) (hb1.alloc (by rw [hs1]; omega) (.cells (u32s (half64 blk 0)).toArray 132)) (by simp) (hp.below (below_alloc1 _ (.cells (u32s (half64 blk 0)).toArray 132))) hq (fun _ => hr.below (below_alloc1 _ _)))
  clear hb0 hs0 hr hp hb1 hs1 hq
  go_enter Tryd.func81, Tryd.ntmps81
  go_wp2
  go_loopw [4, 5, 6, 7, 8, 9] (fun i _ _ _ _ _ wr => ∃ t : Nat, t ≤ 64 ∧ i = .int .i64 (t : Int) ∧ Hid (SchAt W blk 2 3 t wr)) (fun i _ _ _ _ _ _ => 64 - (intOf i).toNat)
  case atStart => exact ⟨0, by omega, rfl, H0⟩
  case round =>
    obtain ⟨t, ht, rfl, HB⟩ := hrel
    clear H0
    by_cases hlt : t < 64
    · obtain ⟨hcl, hfr⟩ := HB.out.slot hlt
      by_cases h16 : t < 16
      · have hsl := slice_all64 W.heap.size wr
        have K := Lib.hid (rget_ok (.slice (some ⟨W.heap.size, 0, none⟩) 64 64) blk (4 * t) 4 wr (HB.out.blkA.bs 64 h64 (by unfold maxLen; omega)) (by omega) (by omega))
        have hlw := word4_lt blk t
        obtain ⟨x, hx⟩ : ∃ x, beNat ((blk.drop (4 * t)).take 4) = x := ⟨_, rfl⟩
        have HW := Lib.hid (show word4 blk t = (x : Int) by unfold word4; rw [hx])
        rw [hx] at K hlw
        clear hx
        go_wp2_with (go_at_call 36; refine K.out.mono ?_; rintro e w' ⟨rfl, rfl⟩)
        go_roundw
        case rel => exact ⟨t + 1, by omega, by go_num, Lib.hid (HB.out.put0 (by omega) hlt (x := (x : Int)) (by rw [if_pos h16, HW.out]))⟩
        case measure => simp [intOf]; omega
      · have c2 := HB.out.word (t - 2) (by omega)
        have c15 := HB.out.word (t - 15) (by omega)
        have c7 := HB.out.word (t - 7) (by omega)
        have c16 := HB.out.word (t - 16) (by omega)
        obtain ⟨a, ha⟩ : ∃ a, (sched blk t)[t - 2]?.getD 0 = a := ⟨_, rfl⟩
        obtain ⟨b, hb⟩ : ∃ a, (sched blk t)[t - 15]?.getD 0 = a := ⟨_, rfl⟩
        obtain ⟨c, hc⟩ : ∃ a, (sched blk t)[t - 7]?.getD 0 = a := ⟨_, rfl⟩
        obtain ⟨d, hd⟩ : ∃ a, (sched blk t)[t - 16]?.getD 0 = a := ⟨_, rfl⟩
        rw [ha] at c2
        rw [hb] at c15
        rw [hc] at c7
        rw [hd] at c16
        have HN := Lib.hid (And.intro ha (And.intro hb (And.intro hc hd)))
        clear ha hb hc hd
        have i2 : ((t : Int) - 2).toNat = t - 2 := by omega
        have i15 : ((t : Int) - 15).toNat = t - 15 := by omega
        have i7 : ((t : Int) - 7).toNat = t - 7 := by omega
        have i16 : ((t : Int) - 16).toNat = t - 16 := by omega
        go_wp2
        refine wp_region_quiet_tail 29 (by kernel_rfl) (by kernel_rfl) ?_
        simp only [List.take_succ_cons, List.take_zero, List.drop_succ_cons, List.drop_zero]
        repeat (go_big_quiet_step (fail))
        refine wpQuiet_call (by rfl) 83 #[.int .u32 a, .int .u64 (17 : Nat)] (.int .u32 (rorI a 17)) (fun w' hw => by go_simp) (fun w' hw => (rrot_calls a 17 w' (by omega) (by omega)).mono fun _ _ ⟨h1, h2⟩ => ⟨h1, by rw [h2]; exact hw⟩) ?_
        simp only [Act.put, List.setIfInBounds_toArray, List.set_cons_zero, List.set_cons_succ]
        repeat (go_big_quiet_step (fail))
        refine wpQuiet_call (by rfl) 83 #[.int .u32 a, .int .u64 (19 : Nat)] (.int .u32 (rorI a 19)) (fun w' hw => by go_simp) (fun w' hw => (rrot_calls a 19 w' (by omega) (by omega)).mono fun _ _ ⟨h1, h2⟩ => ⟨h1, by rw [h2]; exact hw⟩) ?_
        simp only [Act.put, List.setIfInBounds_toArray, List.set_cons_zero, List.set_cons_succ]
        repeat (go_big_quiet_step (fail))
        refine wpQuiet_call (by rfl) 83 #[.int .u32 b, .int .u64 (7 : Nat)] (.int .u32 (rorI b 7)) (fun w' hw => by go_simp) (fun w' hw => (rrot_calls b 7 w' (by omega) (by omega)).mono fun _ _ ⟨h1, h2⟩ => ⟨h1, by rw [h2]; exact hw⟩) ?_
        simp only [Act.put, List.setIfInBounds_toArray, List.set_cons_zero, List.set_cons_succ]
        repeat (go_big_quiet_step (fail))
        refine wpQuiet_call (by rfl) 83 #[.int .u32 b, .int .u64 (18 : Nat)] (.int .u32 (rorI b 18)) (fun w' hw => by go_simp) (fun w' hw => (rrot_calls b 18 w' (by omega) (by omega)).mono fun _ _ ⟨h1, h2⟩ => ⟨h1, by rw [h2]; exact hw⟩) ?_
        simp only [Act.put, List.setIfInBounds_toArray, List.set_cons_zero, List.set_cons_succ]
        repeat (go_big_quiet_step (fail))
        refine wpQuiet_nil ?_
        intro _ hw'; obtain ⟨nq, hw''⟩ := hw'; subst hw''
        go_wp2
        go_roundw
        case rel => exact ⟨t + 1, by omega, by go_num, Lib.hid (HB.out.put nq (by omega) hlt (x := nextW a b c d) (by rw [if_neg (by omega), HN.out.1, HN.out.2.1, HN.out.2.2.1, HN.out.2.2.2]))⟩
        case measure => simp [intOf]; omega
    · obtain rfl : t = 64 := by omega
      have HL := Lib.hid (HB.out.arr.load (P := Tryd.prog) (ty := 132) Tryd.underlying132 rfl (by rw [u32s_length, half64_length _ _ (by omega)]; exact info_64w))
      have HS := Lib.hid ((HB.out.res (by omega)).store (P := Tryd.prog) (ty := 132) (u32s (half64 blk 64)) (by rw [u32s_length, u32s_length, half64_length _ _ (by omega), List.length_replicate]) (by rw [u32s_length, List.length_replicate]; exact info_64w) (u32s_one _))
      have HR := Lib.hid (And.intro (below_setCells HB.out.bel (W.heap.size + 1) 0 (by omega) (u32s (half64 blk 64))) ((HB.out.res (by omega)).put (u32s (half64 blk 64)) (by rw [u32s_length, u32s_length, half64_length _ _ (by omega), List.length_replicate])))
      have e64 : half64 blk 64 = sched blk 64 := by simp [half64]
      have l64 : (u32s (half64 blk 64)).length = 64 := by rw [u32s_length, half64_length _ _ (by omega)]
      clear HB
      rw [e64] at HL HS HR l64
      clear e64
      obtain ⟨L, hL⟩ : ∃ L, sched blk 64 = L := ⟨_, rfl⟩
      rw [hL] at HL HS HR l64
      have HLL := Lib.hid hL
      clear hL
      go_wp2_with (first
        | (refine wpList_load_run rfl 132 _ rfl _ _ rfl HL.out ?_; simp only [Act.put, List.setIfInBounds_toArray, List.set_cons_zero, List.set_cons_succ])
        | (refine wpList_store_run rfl 132 _ _ rfl _ _ rfl rfl _ HS.out ?_; simp only [Act.put]))
      refine bodyPost_ret (results_arr Tryd.results81 _ HR.out.2 rfl Tryd.underlying132 rfl (by rw [l64]; exact info_64w)) rfl ⟨by rw [HLL.out], HR.out.1⟩
attribute [irreducible] sched half64
end Go.Proofs.YthgjecofmnomfaaDoor
