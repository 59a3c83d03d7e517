/- WALKS of the laws JournalNames and BundleNames. No statement of the seed is proved here. -/
import Derived.Test.YtkcgmagelghpaaaDoorNamesA
namespace Go.Proofs.YtkcgmagelghpaaaDoor
open Go.RowKit
set_option maxRecDepth 100000

def strLen : Value → Nat | .string s => s.size | _ => 0
def wordJ : List UInt8 := [106, 111, 117, 114, 110, 97, 108, 45]
/-- P13.1, P15.1: digits, with noughts ahead of them up to k places. -/
def padded (k n : Nat) : List UInt8 := List.replicate (k - (Lib.decDigits n).length) 48 ++ Lib.decDigits n

theorem jname_bad (g : Int) (h : g < 1 ∨ 2147483647 < g) (w : World) : Calls Tryd.prog 6 #[.int .i64 g] w fun e w' => e = .returned (.tuple #[.string ⟨#[]⟩, .int .i64 2]) ∧ w = w' := by
  by_cases h1 : g < 1
  · go_enter Tryd.func6, Tryd.ntmps6
    go_wp2
    go_ret2
    exact ⟨rfl, rfl⟩
  · have h2 : 2147483647 < g := by omega
    go_enter Tryd.func6, Tryd.ntmps6
    go_wp2
    go_ret2
    exact ⟨rfl, rfl⟩
theorem rjname_bad (g : Int) (h : g < 1 ∨ 2147483647 < g) (w : World) : Calls Tryd.prog 7 #[.int .i64 g] w fun e w' => e = .returned (.tuple #[.string ⟨#[]⟩, .int .i64 2]) ∧ w = w' := by
  by_cases h1 : g < 1
  · go_enter Tryd.func7, Tryd.ntmps7
    go_wp2
    go_ret2
    exact ⟨rfl, rfl⟩
  · have h2 : 2147483647 < g := by omega
    go_enter Tryd.func7, Tryd.ntmps7
    go_wp2
    go_ret2
    exact ⟨rfl, rfl⟩
theorem jname_ok (g : Nat) (h1 : 1 ≤ g) (h2 : g ≤ 2147483647) (w : World) (htab : Lib.TabIs Tryd.prog w "internal/strconv.uint64pow10" .u64 Lib.pow10Tab) :
    Calls Tryd.prog 6 #[.int .i64 g] w fun e w' => e = .returned (.tuple #[.string ⟨(wordJ ++ padded 6 g).toArray⟩, .int .i64 0]) ∧ Below w.heap.size w w' := by
  have KI := Lib.hid (itoa_calls g g rfl (by omega) w htab)
  have HP : Hid (padded 6 g = List.replicate (6 - (Lib.decDigits g).length) 48 ++ Lib.decDigits g) := rfl
  have hl := digits_le19 g (by omega)
  generalize Lib.decDigits g = d at KI HP hl
  clear htab
  go_enter Tryd.func6, Tryd.ntmps6
  go_wp2_with (first
    | (go_at_call 15; refine KI.out.mono ?_; rintro e w1 ⟨rfl, hB1⟩)
    | (go_at_call 16; refine (noughts_calls (6 - d.length) _ ?_ (by omega) _).mono ?_; (· omega); rintro e w2 ⟨rfl, hB2⟩))
  go_ret2
  refine ⟨?_, below_then hB1 hB2⟩
  rw [HP.out]
  have e1 := str_cat wordJ (List.replicate (6 - d.length) 48) (Array.replicate (6 - d.length) 48) (by simp)
  have e2 := str_cat (wordJ ++ List.replicate (6 - d.length) 48) d _ rfl
  rw [List.append_assoc] at e2
  rw [← e2, ← e1]
  rfl
theorem rjname_ok (g : Nat) (h1 : 1 ≤ g) (h2 : g ≤ 2147483647) (w : World) :
    Calls Tryd.prog 7 #[.int .i64 g] w fun e w' => e = .returned (.tuple #[.string ⟨(wordJ ++ padded 6 g).toArray⟩, .int .i64 0]) ∧ Below w.heap.size w w' := by
  have KI := Lib.hid (digits_calls g g rfl (by omega) w)
  have HP : Hid (padded 6 g = List.replicate (6 - (Lib.decDigits g).length) 48 ++ Lib.decDigits g) := rfl
  have hl := digits_le19 g (by omega)
  generalize Lib.decDigits g = d at KI HP hl
  go_enter Tryd.func7, Tryd.ntmps7
  go_wp2_with (go_at_call 17; refine KI.out.mono ?_; rintro e w1 ⟨rfl, hB1⟩)
  go_loop [4] (fun s => ∃ j, j ≤ 6 - d.length ∧ s = .string ⟨(List.replicate j 48 ++ d).toArray⟩) (fun s => 6 - strLen s)
  case atStart => exact ⟨0, by omega, by simp⟩
  case round =>
    obtain ⟨j, hj, rfl⟩ := hrel
    have hq : (List.replicate j 48 ++ d).length = j + d.length := by simp
    have hn : List.replicate (j + 1) 48 ++ d = 48 :: (List.replicate j 48 ++ d) := by rw [List.replicate_succ]; rfl
    have HN := Lib.hid hn; clear hn
    have hfin : j + d.length = 6 ∨ 6 ≤ j + d.length → List.replicate j 48 ++ d = padded 6 g := fun h => by
      rw [HP.out]
      congr 2
      omega
    have HF := Lib.hid hfin; clear hfin
    generalize List.replicate j 48 ++ d = l at HN HF hq
    by_cases hlt : l.length < 6
    · have e1 : (⟨#[48]⟩ ++ ⟨l.toArray⟩ : ByteArray) = ⟨(48 :: l).toArray⟩ := str_cat [48] l _ rfl
      go_wp2
      go_round
      case rel => exact ⟨j + 1, by omega, by rw [HN.out, ← e1]⟩
      case measure =>
        show 6 - (48 :: l).toArray.size < 6 - l.toArray.size
        simp
        omega
    · go_wp2
      go_ret2
      refine ⟨?_, hB1⟩
      rw [← HF.out (.inr (by omega)), ← str_cat wordJ l _ rfl]
      rfl

theorem names13 (w : World) : Calls Tryd.prog 8 #[] w fun e w' => e = .returned (.bool true) ∧ w = w' := by
  go_enter Tryd.func8, Tryd.ntmps8
  go_wp2
  go_ret
  exact ⟨rfl, rfl⟩

theorem journalNames_walk (g : Int) (w : World) (htab : Lib.TabIs Tryd.prog w "internal/strconv.uint64pow10" .u64 Lib.pow10Tab) :
    Calls Tryd.prog 3 #[.int .i64 g] w fun e w' => e = .returned (.bool true) ∧ Below w.heap.size w w' := by
  by_cases hb : g < 1 ∨ 2147483647 < g
  · have K1 := Lib.hid (jname_bad g hb w)
    have K2 := Lib.hid (rjname_bad g hb w)
    have K3 := Lib.hid (names13 w)
    clear hb htab
    go_enter Tryd.func3, Tryd.ntmps3
    go_wp2_with (first
      | (go_at_call 6; refine K1.out.mono ?_; rintro e w1 ⟨rfl, rfl⟩)
      | (go_at_call 7; refine K2.out.mono ?_; rintro e w2 ⟨rfl, rfl⟩)
      | (go_at_call 8; refine K3.out.mono ?_; rintro e w3 ⟨rfl, rfl⟩))
    go_ret
    exact ⟨rfl, Below.refl _ _⟩
  · obtain ⟨n, rfl⟩ := Int.eq_ofNat_of_zero_le (show 0 ≤ g by omega)
    have K1 := Lib.hid (jname_ok n (by omega) (by omega) w htab)
    have K2 := fun w1 => Lib.hid (rjname_ok n (by omega) (by omega) w1)
    clear hb htab
    generalize wordJ ++ padded 6 n = l at K1 K2
    go_enter Tryd.func3, Tryd.ntmps3
    go_wp2_with (first
      | (go_at_call 6; refine K1.out.mono ?_; rintro e w1 ⟨rfl, hB1⟩)
      | (go_at_call 7; refine (K2 _).out.mono ?_; rintro e w2 ⟨rfl, hB2⟩)
      | (go_at_call 8; refine (names13 _).mono ?_; rintro e w3 ⟨rfl, rfl⟩))
    trace_state
    go_ret
    exact ⟨rfl, below_then hB1 hB2⟩
end Go.Proofs.YtkcgmagelghpaaaDoor
