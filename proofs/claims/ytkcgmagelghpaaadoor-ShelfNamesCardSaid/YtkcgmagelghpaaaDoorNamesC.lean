/- WALKS of the law ShelfNames. No statement of the seed is proved here. -/
import Derived.Test.YtkcgmagelghpaaaDoorNamesB
import Derived.Test.YtkcgmagelghpaaaDoorNamesCM
namespace Go.Proofs.YtkcgmagelghpaaaDoor
open Go.RowKit
set_option maxRecDepth 100000

theorem str_take (l : List UInt8) (k : Nat) : (⟨l.toArray⟩ : ByteArray).extract 0 k = ⟨(l.take k).toArray⟩ := by
  apply ByteArray.ext
  simp
theorem str_drop (l : List UInt8) (k : Nat) : (⟨l.toArray⟩ : ByteArray).extract k l.length = ⟨(l.drop k).toArray⟩ := by
  apply ByteArray.ext
  simp
  rw [List.take_of_length_le (by simp)]

/-- The reference's path of an index. -/
theorem rindex_calls (i : Nat) (hi : i ≤ 9223372036854775807) (w : World) : Calls Tryd.prog 37 #[.int .i64 (i : Int)] w fun e w' => e = .returned (.string ⟨(pathL i).toArray⟩) ∧ Below w.heap.size w w' := by
  have KI := Lib.hid (digits_calls i i rfl hi w)
  have HP : Hid (mult3 i = List.replicate ((3 - (Lib.decDigits i).length % 3) % 3) 48 ++ Lib.decDigits i) := rfl
  have hl := digits_le19 i hi
  have HC := Lib.hid (cut3_mult3 i)
  have hm := mult3_le i hi
  generalize Lib.decDigits i = d at KI HP hl
  go_enter Tryd.func37, Tryd.ntmps37
  go_wp2_with (go_at_call 17; refine KI.out.mono ?_; rintro e w1 ⟨rfl, hB1⟩)
  go_loop [3] (fun s => ∃ j, j ≤ (3 - d.length % 3) % 3 ∧ s = .string ⟨(List.replicate j 48 ++ d).toArray⟩) (fun s => 40 - strLen s)
  case atStart => exact ⟨0, by omega, by simp⟩
  case round =>
    obtain ⟨j, hj, rfl⟩ := hrel
    have hq : (List.replicate j 48 ++ d).length = j + d.length := by simp
    have hn : List.replicate (j + 1) 48 ++ d = 48 :: (List.replicate j 48 ++ d) := by rw [List.replicate_succ]; rfl
    have HN := Lib.hid hn; clear hn
    have hfin : (j + d.length) % 3 = 0 → List.replicate j 48 ++ d = mult3 i := fun h => by
      rw [HP.out]
      congr 2
      omega
    have HF := Lib.hid hfin; clear hfin
    generalize List.replicate j 48 ++ d = l at HN HF hq
    by_cases hlt : l.length % 3 = 0
    · have hs := HF.out (by omega)
      clear HF HN hq
      subst hs
      have HL := Lib.hid hm; clear hm
      have ht : (((mult3 i).length : Int) % 3 != 0) = false := by simp; omega
      go_wp2
      go_loop [3, 4] (fun s o => ∃ out l, o = .string ⟨out.toArray⟩ ∧ s = .string ⟨l.toArray⟩ ∧ out ++ cut3 l = pathL i ∧ out.length + 2 * l.length ≤ 60) (fun s _ => strLen s)
      case atStart => exact ⟨[], mult3 i, rfl, rfl, HC.out, by have := HL.out; simp; omega⟩
      case round =>
        obtain ⟨out, l, rfl, rfl, hx, hb⟩ := hrel
        by_cases h3 : 3 < l.length
        · have hp : (l.take 3).length = 3 := by simp; omega
          have ht3 : (l.drop 3).length = l.length - 3 := by simp
          have hc : cut3 l = 120 :: l.take 3 ++ 47 :: cut3 (l.drop 3) := by
            conv => lhs; rw [← List.take_append_drop 3 l]
            exact cut3_long _ _ hp (by omega)
          rw [hc] at hx
          have HX := Lib.hid hx; clear hx hc
          have hx1 := str_take l 3
          have hx2 := str_drop l 3
          generalize l.take 3 = p at hp HX hx1
          generalize l.drop 3 = t at ht3 HX hx2
          have hlq : l.toArray.size = l.length := by simp
          go_wp2
          go_round
          case rel =>
            refine ⟨out ++ [120] ++ p ++ [47], t, ?_, rfl, ?_, ?_⟩
            · rw [← str_tail, ← str_tail, ← str_tail]
            · rw [← HX.out]; simp
            · simp; omega
          case measure =>
            show t.toArray.size < l.toArray.size
            simp
            omega
        · rw [cut3_short l (by omega)] at hx
          have HX := Lib.hid hx; clear hx
          go_wp2
          go_ret
          exact ⟨by rw [← HX.out, ← str_tail]; rfl, hB1⟩
    · have e1 : (⟨#[48]⟩ ++ ⟨l.toArray⟩ : ByteArray) = ⟨(48 :: l).toArray⟩ := str_cat [48] l _ rfl
      have ht : ((l.length : Int) % 3 != 0) = true := by simp; omega
      go_wp2
      go_round
      case rel => exact ⟨j + 1, by omega, by rw [HN.out, ← e1]⟩
      case measure =>
        show 40 - (48 :: l).toArray.size < 40 - l.toArray.size
        simp
        omega
/-- Of an index in full tiles of a height at a level: does it stand? -/
def standsT (lv h i : Nat) : Bool := decide (i * 2 ^ h + 2 ^ h - 1 < 281474976710656 / 2 ^ lv)
theorem nvalid (lv ix : Nat) (a b : Int) (ha : a = (lv : Int)) (hb : b = (ix : Int)) (h : lv ≤ 48) (hx : ix ≤ 9223372036854775807) (w : World) :
    Calls Tryd.prog 45 #[.agg #[.int .i64 a, .int .i64 b]] w fun e w' => e = .returned (.bool (decide (ix < 281474976710656 / 2 ^ lv))) ∧ Below w.heap.size w w' := by
  subst ha hb
  have q1 : decide (0 ≤ (lv : Int)) = true := by simp
  have q2 : decide ((lv : Int) ≤ 48) = true := by simp; omega
  have q3 : decide (0 ≤ (ix : Int)) = true := by simp
  by_cases hlt : ix < 281474976710656 / 2 ^ lv
  · have q4 : decide ((ix : Int) < 281474976710656 / 2 ^ lv) = true := by
      rw [decide_eq_true_iff]
      have : ((281474976710656 / 2 ^ lv : Nat) : Int) = 281474976710656 / 2 ^ lv := by simp
      omega
    have q5 : decide (ix < 281474976710656 / 2 ^ lv) = true := by simpa using hlt
    rw [q5]
    clear hlt
    go_enter Tryd.func45, Tryd.ntmps45
    go_wp2
    go_region_with fail
    all_goals go_wp2
    all_goals (go_ret; exact ⟨by first | rfl | simp, (below_alloc1 _ _).drew⟩)
  · have q4 : decide ((ix : Int) < 281474976710656 / 2 ^ lv) = false := by
      rw [decide_eq_false_iff_not]
      have : ((281474976710656 / 2 ^ lv : Nat) : Int) = 281474976710656 / 2 ^ lv := by simp
      omega
    have q5 : decide (ix < 281474976710656 / 2 ^ lv) = false := by simpa using hlt
    rw [q5]
    clear hlt
    go_enter Tryd.func45, Tryd.ntmps45
    go_wp2
    go_region_with fail
    all_goals go_wp2
    all_goals (go_ret; exact ⟨by first | rfl | simp, (below_alloc1 _ _).drew⟩)
end Go.Proofs.YtkcgmagelghpaaaDoor
