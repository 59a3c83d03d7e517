/- WALK of the law ShelfNames: any tile's file has the document's name, or none. -/
import Derived.Test.YtjllkmkngjdjjaaDoorTileP
namespace Go.Proofs.YtjllkmkngjdjjaaDoor
open Go.RowKit
set_option maxRecDepth 100000

/-- The answer of a name's function. -/
def nameV (h l i : Int) : Value := if 1 ≤ h ∧ h ≤ 8 ∧ tileV h l i (2 ^ h.toNat) = true then .tuple #[.string ⟨(tpath h.toNat l.toNat i.toNat (2 ^ h.toNat)).toArray⟩, .int .i64 0] else .tuple #[.string ⟨#[]⟩, .int .i64 2]
theorem nameV_bad1 {h l i : Int} (hb : h < 1 ∨ 8 < h) : nameV h l i = .tuple #[.string ⟨#[]⟩, .int .i64 2] := by unfold nameV; rw [if_neg (by omega)]
theorem nameV_bad2 {h : Nat} {l i : Int} (hv : tileV h l i (2 ^ h) = false) : nameV h l i = .tuple #[.string ⟨#[]⟩, .int .i64 2] := by
  unfold nameV; rw [Int.toNat_natCast, hv, if_neg (by simp)]
theorem nameV_ok {h l i : Nat} (h1 : 1 ≤ h) (h8 : h ≤ 8) (hv : tileV h l i (2 ^ h) = true) : nameV h l i = .tuple #[.string ⟨(tpath h l i (2 ^ h)).toArray⟩, .int .i64 0] := by
  unfold nameV; rw [Int.toNat_natCast, hv, if_pos ⟨by omega, by omega, rfl⟩]; rfl
theorem tileV_nat {h l i wd : Int} (hv : tileV h l i wd = true) : 0 ≤ h ∧ 0 ≤ l ∧ 0 ≤ i ∧ 0 ≤ wd := by
  unfold tileV at hv; rw [decide_eq_true_eq] at hv; omega

theorem full_bad (h l i : Int) (hb : h < 1 ∨ 8 < h) (w : World) : Calls Tryd.prog 23 #[.int .i64 h, .int .i64 l, .int .i64 i] w fun e w' => e = .returned (.agg #[.int .i64 0, .int .i64 0, .int .i64 0, .int .i64 0]) ∧ Below w.heap.size w w' := by
  have hB := below_alloc1 w (.cells #[.int .i64 0, .int .i64 0, .int .i64 0, .int .i64 0] 48)
  rcases hb with hb | hb
  · go_enter Tryd.func23, Tryd.ntmps23
    go_wp2
    exact bodyPost_ret (v := .agg #[.int .i64 0, .int .i64 0, .int .i64 0, .int .i64 0]) (by simp [results, Tryd.results23, go_sem]) rfl ⟨rfl, hB⟩
  · have h1 : ¬ h < 1 := by omega
    go_enter Tryd.func23, Tryd.ntmps23
    go_wp2
    exact bodyPost_ret (v := .agg #[.int .i64 0, .int .i64 0, .int .i64 0, .int .i64 0]) (by simp [results, Tryd.results23, go_sem]) rfl ⟨rfl, hB⟩
theorem full_ok (h : Nat) (l i : Int) (h1 : 1 ≤ h) (h8 : h ≤ 8) (w : World) : Calls Tryd.prog 23 #[.int .i64 (h : Int), .int .i64 l, .int .i64 i] w fun e w' => e = .returned (.agg #[.int .i64 (h : Int), .int .i64 l, .int .i64 i, .int .i64 (2 ^ h)]) ∧ Below w.heap.size w w' := by
  have hp : (2 : Int) ^ h ≤ 256 := by
    have := Nat.pow_le_pow_right (show 0 < 2 by omega) h8
    have e : ((2 ^ h : Nat) : Int) = 2 ^ h := by simp
    omega
  have hp0 : (0 : Int) ≤ 2 ^ h := Int.pow_nonneg (by omega)
  have q6b : IntKind.i64.wrap ((2 : Int) ^ h) = 2 ^ h := by rw [IntKind.wrap_i64]; omega
  have q6c : wrap64 ((2 : Int) ^ h) = 2 ^ h := by unfold wrap64; omega
  have hB := below_alloc1 w (.cells #[.int .i64 (h : Int), .int .i64 l, .int .i64 i, .int .i64 (2 ^ h)] 48)
  clear hp hp0
  go_enter Tryd.func23, Tryd.ntmps23
  go_wp2
  exact bodyPost_ret (v := .agg #[.int .i64 (h : Int), .int .i64 l, .int .i64 i, .int .i64 (2 ^ h)]) (by simp [results, Tryd.results23, go_sem]) rfl ⟨rfl, hB⟩
theorem pow_cast (h : Nat) : ((2 ^ h : Nat) : Int) = 2 ^ h := by simp
theorem sname (h l i : Int) (w : World) (htab : Lib.TabIs Tryd.prog w "internal/strconv.uint64pow10" .u64 Lib.pow10Tab) :
    Calls Tryd.prog 9 #[.int .i64 h, .int .i64 l, .int .i64 i] w fun e w' => e = .returned (nameV h l i) ∧ Below w.heap.size w w' := by
  by_cases hb : h < 1 ∨ 8 < h
  · rw [nameV_bad1 hb]
    have K1 := Lib.hid (full_bad h l i hb w)
    have K2 := fun w1 => Lib.hid (path_bad 0 0 0 0 (by decide) w1)
    clear hb htab
    go_enter Tryd.func9, Tryd.ntmps9
    go_wp2_with (first
      | (go_at_call 23; refine K1.out.mono ?_; rintro e w1 ⟨rfl, hB1⟩)
      | (go_at_call 22; refine (K2 _).out.mono ?_; rintro e w2 ⟨rfl, hB2⟩))
    go_ret2
    exact ⟨rfl, below_then hB1 hB2⟩
  · obtain ⟨n, rfl⟩ := Int.eq_ofNat_of_zero_le (show 0 ≤ h by omega)
    have K1 := Lib.hid (full_ok n l i (by omega) (by omega) w)
    by_cases hv : tileV n l i (2 ^ n) = true
    · obtain ⟨-, a2, a3, -⟩ := tileV_nat hv
      obtain ⟨l, rfl⟩ := Int.eq_ofNat_of_zero_le a2
      obtain ⟨i, rfl⟩ := Int.eq_ofNat_of_zero_le a3
      rw [nameV_ok (by omega) (by omega) hv]
      have K2 := fun {w1 : World} (hb : Below w.heap.size w w1) => Lib.hid (path_ok n l i (2 ^ n) (by rw [pow_cast]; exact hv) w1 (tab_below htab hb))
      rw [pow_cast] at K2
      generalize tpath n l i (2 ^ n) = p at K2
      clear hb htab hv
      go_enter Tryd.func9, Tryd.ntmps9
      go_wp2_with (first
        | (go_at_call 23; refine K1.out.mono ?_; rintro e w1 ⟨rfl, hB1⟩)
        | (go_at_call 22; refine (K2 hB1).out.mono ?_; rintro e w2 ⟨rfl, hB2⟩))
      go_ret2
      exact ⟨rfl, below_then hB1 hB2⟩
    · rw [nameV_bad2 (by simpa using hv)]
      have K2 := fun w1 => Lib.hid (path_bad n l i (2 ^ n) (by simpa using hv) w1)
      clear hb htab hv
      go_enter Tryd.func9, Tryd.ntmps9
      go_wp2_with (first
        | (go_at_call 23; refine K1.out.mono ?_; rintro e w1 ⟨rfl, hB1⟩)
        | (go_at_call 22; refine (K2 _).out.mono ?_; rintro e w2 ⟨rfl, hB2⟩))
      go_ret2
      exact ⟨rfl, below_then hB1 hB2⟩
theorem nameV_form (h l i : Int) : ∃ (s : List UInt8) (x : Int), nameV h l i = .tuple #[.string ⟨s.toArray⟩, .int .i64 x] := by
  unfold nameV
  split
  · exact ⟨_, _, rfl⟩
  · exact ⟨[], _, rfl⟩
end Go.Proofs.YtjllkmkngjdjjaaDoor
