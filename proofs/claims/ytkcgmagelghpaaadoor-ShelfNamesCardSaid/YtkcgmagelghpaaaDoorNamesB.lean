/- WALKS of the law BundleNames. No statement of the seed is proved here. -/
import Derived.Test.YtkcgmagelghpaaaDoorNames
namespace Go.Proofs.YtkcgmagelghpaaaDoor
open Go.RowKit
set_option maxRecDepth 100000

def wordL : List UInt8 := [108, 101, 97, 102, 47]
/-- P15.1. -/
def leafName (h n : Nat) : List UInt8 := wordL ++ Lib.decDigits h ++ [47] ++ padded 6 n

theorem str_tail (l m : List UInt8) : (⟨l.toArray⟩ ++ ⟨m.toArray⟩ : ByteArray) = ⟨(l ++ m).toArray⟩ := str_cat l m _ rfl

theorem folder_calls (h : Nat) (hh : h ≤ 8) (w : World) (htab : Lib.TabIs Tryd.prog w "internal/strconv.uint64pow10" .u64 Lib.pow10Tab) :
    Calls Tryd.prog 34 #[.int .i64 (h : Int)] w fun e w' => e = .returned (.string ⟨(wordL ++ Lib.decDigits h ++ [47]).toArray⟩) ∧ Below w.heap.size w w' := by
  have KI := Lib.hid (itoa_calls h h rfl (by omega) w htab)
  have hl := digits_le19 h (by omega)
  generalize Lib.decDigits h = d at KI hl ⊢
  clear htab
  go_enter Tryd.func34, Tryd.ntmps34
  go_wp2_with (go_at_call 15; refine KI.out.mono ?_; rintro e w1 ⟨rfl, hB1⟩)
  go_ret
  refine ⟨?_, hB1⟩
  rw [← str_tail, ← str_tail]
  rfl
theorem tab_below {w w1 : World} (htab : Lib.TabIs Tryd.prog w "internal/strconv.uint64pow10" .u64 Lib.pow10Tab) (hb : Below w.heap.size w w1) : Lib.TabIs Tryd.prog w1 "internal/strconv.uint64pow10" .u64 Lib.pow10Tab :=
  Lib.tabBelow_of_tabIs htab w1 hb
theorem bfile_calls (h n : Nat) (a : Int) (ha : a = (n : Int)) (hh : h ≤ 8) (hn : n ≤ 1048576) (w : World) (htab : Lib.TabIs Tryd.prog w "internal/strconv.uint64pow10" .u64 Lib.pow10Tab) :
    Calls Tryd.prog 19 #[.int .i64 (h : Int), .int .i64 a] w fun e w' => e = .returned (.string ⟨(leafName h n).toArray⟩) ∧ Below w.heap.size w w' := by
  subst ha
  have KI := Lib.hid (itoa_calls n n rfl (by omega) w htab)
  have KF := fun {w1 : World} (hb : Below w.heap.size w w1) => Lib.hid (folder_calls h hh w1 (tab_below htab hb))
  have HP : Hid (leafName h n = wordL ++ Lib.decDigits h ++ [47] ++ (List.replicate (6 - (Lib.decDigits n).length) 48 ++ Lib.decDigits n)) := rfl
  have hl := digits_le19 n (by omega)
  have hf : (wordL ++ Lib.decDigits h ++ [47]).length ≤ 30 := by have := digits_le19 h (by omega); simp [wordL]; omega
  generalize Lib.decDigits n = d at KI HP hl
  generalize wordL ++ Lib.decDigits h ++ [47] = f at KF HP hf
  clear htab
  go_enter Tryd.func19, Tryd.ntmps19
  go_wp2_with (first
    | (go_at_call 15; refine KI.out.mono ?_; rintro e w1 ⟨rfl, hB1⟩)
    | (go_at_call 34; refine (KF hB1).out.mono ?_; rintro e w2 ⟨rfl, hB2⟩)
    | (go_at_call 16; refine (noughts_calls (6 - d.length) _ ?_ (by omega) _).mono ?_; (· omega); rintro e w3 ⟨rfl, hB3⟩))
  go_ret
  refine ⟨?_, below_then (below_then hB1 hB2) hB3⟩
  rw [HP.out, ← List.append_assoc, ← str_tail, ← str_tail]
  simp
theorem rbfile_calls (h n : Nat) (a : Int) (ha : a = (n : Int)) (hh : h ≤ 8) (hn : n ≤ 1048576) (w : World) :
    Calls Tryd.prog 21 #[.int .i64 (h : Int), .int .i64 a] w fun e w' => e = .returned (.string ⟨(leafName h n).toArray⟩) ∧ Below w.heap.size w w' := by
  subst ha
  have KI := Lib.hid (digits_calls n n rfl (by omega) w)
  have KH := fun w1 => Lib.hid (digits_calls h h rfl (by omega) w1)
  have HP : Hid (leafName h n = wordL ++ Lib.decDigits h ++ [47] ++ (List.replicate (6 - (Lib.decDigits n).length) 48 ++ Lib.decDigits n)) := rfl
  have hl := digits_le19 n (by omega)
  have hf := digits_le19 h (by omega)
  generalize Lib.decDigits n = d at KI HP hl
  generalize Lib.decDigits h = f at KH HP hf
  have tok1 : True := trivial
  go_enter Tryd.func21, Tryd.ntmps21
  go_wp2_with (go_at_call 17; have _t := tok1; refine KI.out.mono ?_; clear tok1; rintro e w1 ⟨rfl, hB1⟩)
  go_loop [5] (fun s => ∃ j, j ≤ 6 - d.length ∧ s = .string ⟨(List.replicate j 48 ++ d).toArray⟩) (fun s => 6 - strLen s)
  case atStart => exact ⟨0, by omega, by simp⟩
  case round =>
    obtain ⟨j, hj, rfl⟩ := hrel
    have hq : (List.replicate j 48 ++ d).length = j + d.length := by simp
    have hn : List.replicate (j + 1) 48 ++ d = 48 :: (List.replicate j 48 ++ d) := by rw [List.replicate_succ]; rfl
    have HN := Lib.hid hn; clear hn
    have hfin : j + d.length = 6 ∨ 6 ≤ j + d.length → leafName h n = wordL ++ f ++ [47] ++ (List.replicate j 48 ++ d) := fun h => by
      rw [HP.out]
      congr 3
      omega
    have HF := Lib.hid hfin; clear hfin
    generalize List.replicate j 48 ++ d = l at HN HF hq
    by_cases hlt : l.length < 6
    · have e1 : (⟨#[48]⟩ ++ ⟨l.toArray⟩ : ByteArray) = ⟨(48 :: l).toArray⟩ := str_cat [48] l _ rfl
      go_wp2
      go_round
      case rel => exact ⟨j + 1, by omega, by rw [HN.out, ← e1]⟩
      case measure =>
        show 6 - (48 :: l).toArray.size < 6 - l.toArray.size
        simp
        omega
    · have hl20 : l.length ≤ 40 := by omega
      go_wp2_with (go_at_call 17; refine (KH _).out.mono ?_; rintro e w2 ⟨rfl, hB2⟩)
      go_ret
      refine ⟨?_, below_then hB1 hB2⟩
      rw [HF.out (.inr (by omega)), ← str_tail, ← str_tail, ← str_tail]
      rfl

theorem bname_bad (h ix : Int) (hb : h < 1 ∨ 8 < h ∨ ix < 0 ∨ 1048576 ≤ ix) (w : World) : Calls Tryd.prog 9 #[.int .i64 h, .int .i64 ix] w fun e w' => e = .returned (.tuple #[.string ⟨#[]⟩, .int .i64 2]) ∧ w = w' := by
  go_enter Tryd.func9, Tryd.ntmps9
  go_wp2
  all_goals
    go_ret2
    exact ⟨rfl, rfl⟩
theorem rbname_bad (h ix : Int) (hb : h < 1 ∨ 8 < h ∨ ix < 0 ∨ 1048576 ≤ ix) (w : World) : Calls Tryd.prog 10 #[.int .i64 h, .int .i64 ix] w fun e w' => e = .returned (.tuple #[.string ⟨#[]⟩, .int .i64 2]) ∧ w = w' := by
  go_enter Tryd.func10, Tryd.ntmps10
  go_wp2
  all_goals
    go_ret2
    exact ⟨rfl, rfl⟩
theorem bname_ok (h ix : Nat) (h1 : 1 ≤ h) (h8 : h ≤ 8) (hix : ix < 1048576) (w : World) (htab : Lib.TabIs Tryd.prog w "internal/strconv.uint64pow10" .u64 Lib.pow10Tab) :
    Calls Tryd.prog 9 #[.int .i64 (h : Int), .int .i64 (ix : Int)] w fun e w' => e = .returned (.tuple #[.string ⟨(leafName h (ix / 2 ^ h)).toArray⟩, .int .i64 0]) ∧ Below w.heap.size w w' := by
  go_enter Tryd.func9, Tryd.ntmps9
  go_wp2_with (first | (go_at_call 18; go_in) | (go_at_call 19; refine (bfile_calls h (ix / 2 ^ h) _ ?_ h8 ?_ _ htab).mono ?_; (· simp); (· exact Nat.le_trans (Nat.div_le_self _ _) (by omega)); rintro e w1 ⟨rfl, hB1⟩))
  go_ret2
  exact ⟨rfl, hB1⟩
theorem rbname_ok (h ix : Nat) (h1 : 1 ≤ h) (h8 : h ≤ 8) (hix : ix < 1048576) (w : World)  :
    Calls Tryd.prog 10 #[.int .i64 (h : Int), .int .i64 (ix : Int)] w fun e w' => e = .returned (.tuple #[.string ⟨(leafName h (ix / 2 ^ h)).toArray⟩, .int .i64 0]) ∧ Below w.heap.size w w' := by
  go_enter Tryd.func10, Tryd.ntmps10
  go_wp2_with (first | (go_at_call 20; go_in) | (go_at_call 21; refine (rbfile_calls h (ix / 2 ^ h) _ ?_ h8 ?_ _).mono ?_; (· simp); (· exact Nat.le_trans (Nat.div_le_self _ _) (by omega)); rintro e w1 ⟨rfl, hB1⟩))
  go_ret2
  exact ⟨rfl, hB1⟩
theorem names15 (w : World) : Calls Tryd.prog 11 #[] w fun e w' => e = .returned (.bool true) ∧ w = w' := by
  go_enter Tryd.func11, Tryd.ntmps11
  go_wp2
  go_ret
  exact ⟨rfl, rfl⟩
theorem bundleNames_walk (h ix : Int) (w : World) (htab : Lib.TabIs Tryd.prog w "internal/strconv.uint64pow10" .u64 Lib.pow10Tab) :
    Calls Tryd.prog 4 #[.int .i64 h, .int .i64 ix] w fun e w' => e = .returned (.bool true) ∧ Below w.heap.size w w' := by
  by_cases hb : h < 1 ∨ 8 < h ∨ ix < 0 ∨ 1048576 ≤ ix
  · have K1 := Lib.hid (bname_bad h ix hb w)
    have K2 := Lib.hid (rbname_bad h ix hb w)
    have K3 := Lib.hid (names15 w)
    clear hb htab
    go_enter Tryd.func4, Tryd.ntmps4
    go_wp2_with (first
      | (go_at_call 9; refine K1.out.mono ?_; rintro e w1 ⟨rfl, rfl⟩)
      | (go_at_call 10; refine K2.out.mono ?_; rintro e w2 ⟨rfl, rfl⟩)
      | (go_at_call 11; refine K3.out.mono ?_; rintro e w3 ⟨rfl, rfl⟩))
    go_ret
    exact ⟨rfl, Below.refl _ _⟩
  · obtain ⟨n, rfl⟩ := Int.eq_ofNat_of_zero_le (show 0 ≤ h by omega)
    obtain ⟨m, rfl⟩ := Int.eq_ofNat_of_zero_le (show 0 ≤ ix by omega)
    have K1 := Lib.hid (bname_ok n m (by omega) (by omega) (by omega) w htab)
    have K2 := fun w1 => Lib.hid (rbname_ok n m (by omega) (by omega) (by omega) w1)
    clear hb htab
    generalize leafName n (m / 2 ^ n) = l at K1 K2
    go_enter Tryd.func4, Tryd.ntmps4
    go_wp2_with (first
      | (go_at_call 9; refine K1.out.mono ?_; rintro e w1 ⟨rfl, hB1⟩)
      | (go_at_call 10; refine (K2 _).out.mono ?_; rintro e w2 ⟨rfl, hB2⟩)
      | (go_at_call 11; refine (names15 _).mono ?_; rintro e w3 ⟨rfl, rfl⟩))
    go_ret
    exact ⟨rfl, below_then hB1 hB2⟩
end Go.Proofs.YtkcgmagelghpaaaDoor
