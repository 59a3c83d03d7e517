/- WALKS of the reference's Words and Digest. No statement of the seed is proved here. -/
import Derived.Test.YthgjecofmnomfaaDoorShaF
import Derived.Test.YthgjecofmnomfaaDoorFloat
namespace Go.Proofs.YthgjecofmnomfaaDoor
open Go.RowKit
set_option maxRecDepth 100000
def wordsOf (s : S8) : List UInt8 := (s.l.map fun x => be 4 x.toNat).flatten
theorem wordsOf_length (s : S8) : (wordsOf s).length = 32 := by simp [wordsOf, S8.l, be_length]
def Rng (s : S8) : Prop := ∀ x ∈ s.l, 0 ≤ x ∧ x < 4294967296
theorem addW_rng (x y : Int) : 0 ≤ addW x y ∧ addW x y < 4294967296 := by unfold addW; omega
theorem compress_rng (s : S8) (blk : List UInt8) : Rng (compress s blk) := by
  rw [compress_eq s blk _ _ rfl rfl]
  intro x hx
  simp only [S8.l, List.mem_cons, List.not_mem_nil, or_false] at hx
  rcases hx with rfl | rfl | rfl | rfl | rfl | rfl | rfl | rfl <;> exact addW_rng _ _
theorem overN_rng (s : S8) (l : List UInt8) (hs : Rng s) : ∀ k, Rng (overN s l k)
  | 0 => by rw [overN_zero]; exact hs
  | k + 1 => by rw [overN_succ]; exact compress_rng _ _
theorem over_rng (s : S8) (l : List UInt8) (hs : Rng s) : Rng (over s l) := overN_rng s l hs _
theorem Arr.grown {w w1 : World} {g : Nat} {cs : List Value} (h : Arr w g cs) (hc : 0 < cs.length) {row : Option Nat} (hg : w.grownBy w1 row) (hne : row ≠ some g) : Arr w1 g cs := by
  have hlt := h.lt hc
  have hb := hg.block g hlt (fun e => hne e.symm)
  have hcell : ∀ j, w1.cell? ⟨g, j, none⟩ = w.cell? ⟨g, j, none⟩ := fun j => by simp only [World.cell?, hb]
  have hfr : ∀ j, w1.frozen? ⟨g, j, none⟩ = w.frozen? ⟨g, j, none⟩ := fun j => by simp only [World.frozen?, hb]
  exact ⟨fun j v hv => by rw [hcell]; exact h.rng j v hv, fun j hj => by rw [hcell, hfr]; exact h.thr j hj⟩
set_option maxHeartbeats 2000000 in
theorem rwords_calls (s : S8) (hr : Rng s) (W : World) :
    Calls Tryd.prog 69 #[.agg (u32s s.l).toArray] W fun e w' => ∃ v', e = .returned v' ∧ OwnB w' (W.heap.size + 1) v' (wordsOf s) ∧ Below W.heap.size W w' := by
  have H0 := Lib.hid (And.intro (Arr.new W (u32s s.l) 115) (below_alloc1 W (.cells (u32s s.l).toArray 115)))
  have z0 : (W.alloc (.cells (u32s s.l).toArray 115)).heap.size = W.heap.size + 1 := by simp
  have HZ := Lib.hid z0
  go_enter Tryd.func69, Tryd.ntmps69
  go_wp2
  go_loopw [3, 4] (fun r i wr => ∃ (k : Nat) (v : Value), k ≤ 8 ∧ i = .int .i64 (k : Int) ∧ v = r ∧ Hid (OwnB wr (W.heap.size + 1) v ((s.l.map fun x => be 4 x.toNat).take k).flatten ∧ Arr wr W.heap.size (u32s s.l) ∧ Below W.heap.size W wr)) (fun _ i _ => 8 - (intOf i).toNat)
  case atStart => exact ⟨0, _, by omega, rfl, rfl, OwnB.nil _ _, H0.out.1, H0.out.2⟩
  case round =>
    obtain ⟨k, v, hk, rfl, rfl, HB⟩ := hrel
    clear H0 HZ z0
    by_cases hlt : k < 8
    · have hc := HB.out.2.1.cell (S8.get s k hlt)
      have hx := hr (s.l[k]?.getD 0) (by rw [List.getElem?_eq_getElem (show k < s.l.length from hlt)]; exact List.getElem_mem _)
      have HT := Lib.hid (show ((s.l.map fun x => be 4 x.toNat).take (k + 1)).flatten = ((s.l.map fun x => be 4 x.toNat).take k).flatten ++ be 4 (s.l[k]?.getD 0).toNat by
        rw [flat_take_succ _ k (by simp; exact hlt)]
        rw [List.getElem?_eq_getElem (show k < s.l.length from hlt)]
        simp)
      generalize s.l[k]?.getD 0 = x at *
      obtain ⟨n, rfl⟩ : ∃ n : Nat, x = (n : Int) := ⟨x.toNat, by omega⟩
      have hn : n < 4294967296 := by omega
      have ew : IntKind.u64.wrap (n : Int) = (n : Int) := by rw [IntKind.wrap_u64]; omega
      rw [Int.toNat_natCast] at HT
      have tok1 : True := trivial
      have hfl : ((s.l.map fun x => be 4 x.toNat).take k).flatten.length ≤ 32 := by
        have := flat_take_le (s.l.map fun x => be 4 x.toNat) k
        have h2 := wordsOf_length s
        unfold wordsOf at h2
        omega
      have HFL := Lib.hid hfl
      clear hfl hx
      generalize ((s.l.map fun x => be 4 x.toNat).take k).flatten = acc at *
      have hws : W.heap.size < wr.heap.size := HB.out.2.1.lt (by simp [u32s, S8.l])
      have hvne : v.ownBlock ≠ some W.heap.size := fun e => by have := (HB.out.1.lt _ e).1; omega
      go_wp2_with (first
        | (go_at_call 39; refine (number4_calls n wr (by omega)).mono ?_; rintro e w3 ⟨v3, rfl, ho3, hB3⟩; have HO3 := Lib.hid ho3; have HBB := Lib.hid (HB.out.2.2.trans (hB3.mono HB.out.2.2.size)); have HOB := Lib.hid (HB.out.1.below hB3); have HAB := Lib.hid (HB.out.2.1.below hB3); have hs3 := hB3.size; clear ho3 hB3)
        | (at_builtin; have _t := tok1; (refine app_u8 rfl _ _ rfl (W.heap.size + 1) _ rfl acc HOB.out _ rfl (be 4 n) HO3.out.bs ?_ ?_ ?_); (· have := HFL.out; simp [be_length]; omega); (· omega); clear tok1; intro v4 w4 ho4 hg4 _; have HB4 := Lib.hid (show OwnB w4 (W.heap.size + 1) v4 (acc ++ be 4 n) ∧ Arr w4 W.heap.size (u32s s.l) ∧ Below W.heap.size W w4 from ⟨ho4, HAB.out.grown (by simp [u32s, S8.l]) hg4 hvne, below_grown HBB.out hg4 (HOB.out.lower (by omega)) HBB.out.size⟩); clear ho4 hg4))
      go_roundw
      case rel => exact ⟨k + 1, _, by omega, by go_num, rfl, Lib.hid (by rw [HT.out]; exact HB4.out)⟩
      case measure => simp [intOf]; omega
    · obtain rfl : k = 8 := by omega
      go_wp2
      go_ret
      exact ⟨_, rfl, HB.out.1, HB.out.2.2⟩
/-- 32 bytes while they come in. -/
def part32 (b : List UInt8) (i : Nat) : List UInt8 := b.take i ++ List.replicate (32 - i) 0
theorem part32_length (b : List UInt8) (i : Nat) (hb : b.length = 32) (hi : i ≤ 32) : (part32 b i).length = 32 := by simp [part32]; omega
theorem part32_end (b : List UInt8) (hb : b.length = 32) : part32 b 32 = b := by unfold part32; rw [List.take_of_length_le (by omega)]; simp
theorem part32_set (b : List UInt8) (i : Nat) (hb : b.length = 32) (hi : i < 32) : (u8s (part32 b i)).set i (.int .u8 ((b[i]'(by omega)).toNat : Int)) = u8s (part32 b (i + 1)) := by
  have e : part32 b (i + 1) = (part32 b i).set i (b[i]'(by omega)) := by
    unfold part32
    rw [take_succ_get b i (by omega), List.set_append_right _ _ (by simp; omega), List.length_take, Nat.min_eq_left (by omega), Nat.sub_self, show 32 - i = (32 - (i + 1)) + 1 by omega, List.replicate_succ, List.set_cons_zero, List.append_assoc, List.singleton_append]
  rw [e]
  simp [u8s, List.map_set]
theorem info_32b : (Tryd.prog.info? 62).map (·.size) = some 32 := by kernel_rfl
set_option maxHeartbeats 2000000 in
theorem rdigest_calls (v : Value) (b : List UInt8) (hb : b.length = 32) (W : World) (hv : Bs W v b) :
    Calls Tryd.prog 68 #[v, .int .i64 0] W fun e w' => e = .returned (.tuple #[.agg (u8s b).toArray, .int .i64 32, .int .i64 0]) ∧ Below W.heap.size W w' := by
  obtain ⟨A, c, rfl, h1, h2, h3⟩ := hv.form_n 32 hb
  have HV := Lib.hid hv
  clear hv
  have b0 := below_alloc1 W (.cells (u8s (List.replicate 32 0)).toArray 62)
  have z0 : (W.alloc (.cells (u8s (List.replicate 32 0)).toArray 62)).heap.size = W.heap.size + 1 := by simp
  have a0 := (Arr.new W (u8s (List.replicate 32 0)) 62).below (below_alloc1 _ (.cells (u8s (part32 b 0)).toArray 62))
  have a1 := Arr.new (W.alloc (.cells (u8s (List.replicate 32 0)).toArray 62)) (u8s (part32 b 0)) 62
  rw [z0] at a1
  have H0 := Lib.hid (And.intro (b0.alloc (by rw [z0]; omega) (.cells (u8s (part32 b 0)).toArray 62)) (And.intro a0 a1))
  clear b0 z0 a0 a1
  go_enter Tryd.func68, Tryd.ntmps68
  go_wp2
  go_loopw [8] (fun i wr => ∃ j : Nat, j ≤ 32 ∧ i = .int .i64 (j : Int) ∧ Hid (Below W.heap.size W wr ∧ Arr wr W.heap.size (u8s (List.replicate 32 0)) ∧ Arr wr (W.heap.size + 1) (u8s (part32 b j)))) (fun i _ => 32 - (intOf i).toNat)
  case atStart => exact ⟨0, by omega, rfl, H0.out⟩
  case round =>
    obtain ⟨j, hj, rfl, HD⟩ := hrel
    clear H0
    by_cases hjl : j < 32
    · obtain ⟨ad, rfl, hcell⟩ := (HV.out.below HD.out.1).at_ j (by omega)
      obtain ⟨u, hu⟩ := Option.isSome_iff_exists.1 (HD.out.2.2.rng.isSome j (by rw [u8s_length, part32_length b j hb hj]; omega))
      rw [Nat.zero_add] at hu
      have hf := HD.out.2.2.frozen (i := j) (by rw [u8s_length, part32_length b j hb hj]; omega)
      have HS := Lib.hid (part32_set b j hb hjl)
      generalize b[j] = x at *
      go_wp2
      go_roundw
      case rel => exact ⟨j + 1, by omega, by go_num, Lib.hid ⟨HD.out.1.setCell (show W.heap.size ≤ W.heap.size + 1 by omega) _, HD.out.2.1.apart (by omega) _ _, by rw [← HS.out]; exact HD.out.2.2.set j _⟩⟩
      case measure => simp [intOf]; omega
    · obtain rfl : j = 32 := by omega
      rw [part32_end b hb] at HD
      have HL := Lib.hid (HD.out.2.2.load (P := Tryd.prog) (ty := 62) Tryd.underlying62 rfl (by rw [u8s_length, hb]; exact info_32b))
      have HST := Lib.hid (HD.out.2.1.store (P := Tryd.prog) (ty := 62) (u8s b) (by rw [u8s_length, hb]; rfl) info_32b (u8s_one _))
      have HR := Lib.hid (And.intro (below_setCells HD.out.1 W.heap.size 0 (Nat.le_refl _) (u8s b)) (HD.out.2.1.put (u8s b) (by rw [u8s_length, hb]; rfl)))
      go_wp2_with (first
        | (refine wpList_load_run rfl 62 _ rfl _ _ rfl HL.out ?_; simp only [Act.put, List.setIfInBounds_toArray, List.set_cons_zero, List.set_cons_succ])
        | (refine wpList_store_run rfl 62 _ _ rfl _ _ rfl rfl _ HST.out ?_; simp only [Act.put]))
      refine bodyPost_ret (results_arr3 Tryd.results68 _ HR.out.2 rfl Tryd.underlying62 rfl (by rw [u8s_length, hb]; exact info_32b)) rfl ⟨rfl, HR.out.1⟩
end Go.Proofs.YthgjecofmnomfaaDoor
