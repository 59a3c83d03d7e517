/- WALKS of the reference's Digits, and what the names are made of. No statement of the seed is proved here. -/
import Derived.Test.YtkcgmagelghpaaaDoorLib
import Derived.Test.YtkcgmagelghpaaaDoorShelf
import Derived.Lib.ItoaNum
import Derived.Lib.AppendIntMem
namespace Go.Proofs.YtkcgmagelghpaaaDoor
open Go.RowKit
set_option maxRecDepth 100000

theorem digits_le : ∀ (k n : Nat), n < 10 ^ (k + 1) → (Lib.decDigits n).length ≤ k + 1 := by
  intro k
  induction k with
  | zero => intro n h; rw [Lib.decDigits, dif_pos (by omega)]; simp
  | succ k ih =>
    intro n h
    rw [Lib.decDigits]
    split
    · simp
    · have := ih (n / 10) (by rw [Nat.pow_succ] at h; omega)
      simp; omega
theorem digits_le19 (n : Nat) (h : n ≤ 9223372036854775807) : (Lib.decDigits n).length ≤ 19 := digits_le 18 n (by omega)
theorem digits_pos (n : Nat) : 1 ≤ (Lib.decDigits n).length := by
  rw [Lib.decDigits]; split <;> simp

theorem digit_calls (n : Nat) (a : Int) (ha : a = (n : Int)) (hn : n < 10) (w : World) : Calls Tryd.prog 17 #[.int .i64 a] w fun e w' => e = .returned (.string ⟨(Lib.decDigits n).toArray⟩) ∧ Below w.heap.size w w' := by
  have hc : n = 0 ∨ n = 1 ∨ n = 2 ∨ n = 3 ∨ n = 4 ∨ n = 5 ∨ n = 6 ∨ n = 7 ∨ n = 8 ∨ n = 9 := by omega
  have hd : Lib.decDigits n = [UInt8.ofNat (48 + n)] := by rw [Lib.decDigits, dif_pos hn]
  rw [hd]
  clear hd hn
  subst ha
  rcases hc with rfl | rfl | rfl | rfl | rfl | rfl | rfl | rfl | rfl | rfl
  all_goals
    go_enter Tryd.func17, Tryd.ntmps17
    go_wp2
    go_ret
    exact ⟨rfl, Below.refl _ _⟩
theorem digits_calls : ∀ (n : Nat) (a : Int), a = (n : Int) → n ≤ 9223372036854775807 → ∀ w, Calls Tryd.prog 17 #[.int .i64 a] w fun e w' => e = .returned (.string ⟨(Lib.decDigits n).toArray⟩) ∧ Below w.heap.size w w' := by
  intro n
  induction n using Nat.strongRecOn with
  | _ n ih =>
    intro a ha hn w
    by_cases h : n < 10
    · exact digit_calls n a ha h w
    · have ih1 := ih (n / 10) (by omega)
      have ih2 := ih (n % 10) (by omega)
      subst ha
      have l1 := digits_le19 (n / 10) (by omega)
      have l2 := digits_le19 (n % 10) (by omega)
      have HD : Hid (Lib.decDigits n = Lib.decDigits (n / 10) ++ Lib.decDigits (n % 10)) := by
        have e : Lib.decDigits (n % 10) = [UInt8.ofNat (48 + n % 10)] := by rw [Lib.decDigits, dif_pos (by omega)]
        unfold Hid
        rw [e, Lib.decDigits, dif_neg h]
      generalize Lib.decDigits (n / 10) = d1 at ih1 l1 HD
      generalize Lib.decDigits (n % 10) = d2 at ih2 l2 HD
      have tok1 : True := trivial
      go_enter Tryd.func17, Tryd.ntmps17
      go_wp2_with (first
        | (go_at_call 17; have _t := tok1; refine (ih1 _ ?_ ?_ _).mono ?_; (· omega); (· omega); clear tok1; rintro e w1 ⟨rfl, hB1⟩)
        | (go_at_call 17; refine (ih2 _ ?_ ?_ _).mono ?_; (· omega); (· omega); rintro e w2 ⟨rfl, hB2⟩))
      go_ret
      refine ⟨?_, below_then hB1 hB2⟩
      rw [HD.out]
      rw [← str_cat _ _ _ rfl]
      rfl
theorem itoa_nat (n : Nat) : Lib.itoa (n : Int) = Lib.decDigits n := by
  unfold Lib.itoa
  rw [if_neg (by omega)]
  rfl
theorem itoa_calls (n : Nat) (a : Int) (ha : a = (n : Int)) (hn : n ≤ 9223372036854775807) (w : World) (htab : Lib.TabIs Tryd.prog w "internal/strconv.uint64pow10" .u64 Lib.pow10Tab) :
    Calls Tryd.prog 15 #[.int .i64 a] w fun e w' => e = .returned (.string ⟨(Lib.decDigits n).toArray⟩) ∧ Below w.heap.size w w' := by
  subst ha
  refine (Tryd.strconv_Itoa n (by omega) (by omega) w htab).mono ?_
  rintro e w' ⟨rfl, k, os, rfl⟩
  rw [itoa_nat]
  exact ⟨rfl, Lib.below_grow _ _ (Nat.le_refl _) _ _⟩
theorem noughts_calls (c : Nat) (a : Int) (ha : a = (c : Int)) (hc : c ≤ 100) (w : World) :
    Calls Tryd.prog 16 #[.string ⟨#[48]⟩, .int .i64 a] w fun e w' => e = .returned (.string ⟨(List.replicate c 48).toArray⟩) ∧ Below w.heap.size w w' := by
  subst ha
  have e : Lib.repeatL [48] c = List.replicate c 48 := by
    clear hc
    induction c with
    | zero => rfl
    | succ c ih => rw [Lib.repeatL, ih]; rfl
  refine (Tryd.strings_Repeat ⟨#[48]⟩ c w (by omega) (by show 1 * c ≤ _; omega)).mono ?_
  rintro e' w' ⟨rfl, hb⟩
  exact ⟨by rw [← e], hb⟩
end Go.Proofs.YtkcgmagelghpaaaDoor
