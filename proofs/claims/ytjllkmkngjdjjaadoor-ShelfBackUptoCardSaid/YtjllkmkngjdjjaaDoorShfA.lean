/- WALKS of package shelf: bytes, wrong. No statement of the seed is proved here. -/
import Derived.Test.YtjllkmkngjdjjaaDoorDskG
import Derived.Test.YtjllkmkngjdjjaaDoorTileI
import Derived.Test.YtjllkmkngjdjjaaDoorNamesD
namespace Go.Proofs.YtjllkmkngjdjjaaDoor
open Go.RowKit Go.Shelf
set_option maxRecDepth 100000
abbrev TabW (w : World) : Prop := Lib.TabIs Tryd.prog w "internal/strconv.uint64pow10" .u64 Lib.pow10Tab
/-- The file of a full tile. -/
def sFile (s : DSt) (h lv i : Nat) : Option (List UInt8) := if tileV h lv i (2 ^ h) = true then s.fs (tname h lv i) else none
def Few (s : DSt) : Prop := ∀ n l, s.fs n = some l → l.length ≤ 100000000000000
theorem name_fits {h lv i : Nat} (hv : tileV h lv i (2 ^ h) = true) : nameOk (tname h lv i) = true := by
  have := tpath_len h lv i hv
  unfold nameOk
  simp
  exact this
theorem shl32 (h : Nat) (h8 : h ≤ 8) : ((32 * 2 ^ h : Nat) : Int) ≤ 8192 := by
  have : h = 0 ∨ h = 1 ∨ h = 2 ∨ h = 3 ∨ h = 4 ∨ h = 5 ∨ h = 6 ∨ h = 7 ∨ h = 8 := by omega
  rcases this with rfl | rfl | rfl | rfl | rfl | rfl | rfl | rfl | rfl <;> decide
theorem sbytes_bad (x : DT) (s : DSt) (W : World) (B : Nat) (hx : x.At s W B) (hT : TabW W) (h lv i : Nat) (h1 : 1 ≤ h) (h8 : h ≤ 8) (hno : tileV h lv i (2 ^ h) = false) :
    Calls Tryd.prog 30 #[.pointer (some ⟨x.p, 0, none⟩), .int .i64 (h : Int), .int .i64 (lv : Int), .int .i64 (i : Int)] W fun e w' => e = .returned (.tuple #[.slice none 0 0, .bool false]) ∧ Below W.heap.size W w' := by
  have K := Lib.hid (sname h lv i W hT)
  rw [nameV_bad2 hno] at K
  clear hx hT
  go_enter Tryd.func30, Tryd.ntmps30
  go_wp2_with (first | (go_at_call 9; refine K.out.mono ?_; rintro e w1 ⟨rfl, hB1⟩))
  go_ret2
  exact ⟨rfl, hB1⟩
theorem sbytes_none (x : DT) (s : DSt) (W : World) (B : Nat) (hx : x.At s W B) (hT : TabW W) (h lv i : Nat) (h1 : 1 ≤ h) (h8 : h ≤ 8) (hv : tileV h lv i (2 ^ h) = true) (hno : s.fs (tname h lv i) = none) :
    Calls Tryd.prog 30 #[.pointer (some ⟨x.p, 0, none⟩), .int .i64 (h : Int), .int .i64 (lv : Int), .int .i64 (i : Int)] W fun e w' => e = .returned (.tuple #[.slice none 0 0, .bool false]) ∧ Below W.heap.size W w' := by
  have K := Lib.hid (sname h lv i W hT)
  rw [nameV_ok h1 h8 hv] at K
  have hd : dWrong s (tname h lv i) true = 121 := by
    unfold dWrong
    rw [name_fits hv, hno]
    rfl
  have KR := Lib.hid (fun w (hb : Below W.heap.size W w) k => dread_bad x s (tname h lv i) 0 k w B (hx.below hb) (by rw [hd]; decide))
  rw [hd] at KR
  unfold tname at KR
  clear hx hT
  go_enter Tryd.func30, Tryd.ntmps30
  go_wp2_with (first | (go_at_call 9; refine K.out.mono ?_; rintro e w1 ⟨rfl, hB1⟩) | (go_at_call 38; refine (KR.out _ hB1 _).mono ?_; rintro e w2 ⟨rfl, rfl⟩))
  go_ret2
  exact ⟨rfl, hB1⟩
theorem cutB_zero (l : List UInt8) (k : Nat) : cutB l 0 k = l.take k := by
  unfold cutB
  rw [List.drop_zero, Nat.sub_zero]
  by_cases h : k ≤ l.length
  · rw [Nat.min_eq_left h]
  · rw [Nat.min_eq_right (by omega), List.take_length, List.take_of_length_le (by omega)]
theorem sbytes_some (x : DT) (s : DSt) (W : World) (B : Nat) (hx : x.At s W B) (hT : TabW W) (h lv i : Nat) (h1 : 1 ≤ h) (h8 : h ≤ 8) (hv : tileV h lv i (2 ^ h) = true) (l : List UInt8) (hl : s.fs (tname h lv i) = some l) (hfew : Few s) :
    Calls Tryd.prog 30 #[.pointer (some ⟨x.p, 0, none⟩), .int .i64 (h : Int), .int .i64 (lv : Int), .int .i64 (i : Int)] W fun e w' => ∃ v, e = .returned (.tuple #[v, .bool true]) ∧ OwnB w' W.heap.size v (l.take (32 * 2 ^ h)) ∧ Below W.heap.size W w' := by
  have K := Lib.hid (sname h lv i W hT)
  rw [nameV_ok h1 h8 hv] at K
  have hd : dWrong s (tname h lv i) true = 0 := by
    unfold dWrong
    rw [name_fits hv, hl]
    rfl
  have h32 := shl32 h h8
  have hw : wrap64 (32 * 2 ^ h) = ((32 * 2 ^ h : Nat) : Int) := by
    rw [show (32 * 2 ^ h : Int) = ((32 * 2 ^ h : Nat) : Int) by push_cast; rfl]
    unfold wrap64
    omega
  generalize hk : 32 * 2 ^ h = k at *
  have KR := fun w (hb : Below W.heap.size W w) => dread_ok x s (tname h lv i) l 0 k w B (hx.below hb) hd hl (by omega) (by omega) (hfew _ _ hl)
  simp only [cutB_zero] at KR
  rw [show ((0 : Nat) : Int) = 0 from rfl] at KR
  unfold tname at KR
  have KR := Lib.hid KR
  clear hx hT
  go_enter Tryd.func30, Tryd.ntmps30
  go_wp2_with (first | (go_at_call 9; refine K.out.mono ?_; rintro e w1 ⟨rfl, hB1⟩) | (go_at_call 38; refine (KR.out _ hB1).mono ?_; rintro e w2 ⟨v2, rfl, ho2, hB2⟩))
  go_ret2
  exact ⟨_, rfl, ho2.lower hB1.size, below_then hB1 hB2⟩
theorem swrong_ok (x : DT) (s : DSt) (W : World) (B : Nat) (hx : x.At s W B) (h lv : Nat) (h1 : 1 ≤ h) (h8 : h ≤ 8) (hv : tileV h lv 0 (2 ^ h) = true) (hs : s.sec ≠ 0) :
    Calls Tryd.prog 16 #[.pointer (some ⟨x.p, 0, none⟩), .int .i64 (h : Int), .int .i64 (lv : Int)] W fun e w' => e = .returned (.int .i64 0) ∧ Below W.heap.size W w' := by
  have K := Lib.hid (dsector_calls x s W B hx)
  have KF := Lib.hid (full_ok h lv 0 h1 h8 W)
  have KV := Lib.hid (fun w => tile_valid h lv 0 (2 ^ h) w)
  rw [hv] at KV
  have g1 : ((s.sec : Int) == 0) = false := by simp; omega
  clear hx
  go_enter Tryd.func16, Tryd.ntmps16
  go_wp2_with (first | (go_at_call 28; refine K.out.mono ?_; rintro e w1 ⟨rfl, rfl⟩) | (go_at_call 23; refine KF.out.mono ?_; rintro e w2 ⟨rfl, hB2⟩) | (go_at_call 29; refine (KV.out _).mono ?_; rintro e w3 ⟨rfl, hB3⟩))
  go_ret
  exact ⟨rfl, below_then hB2 hB3⟩
end Go.Proofs.YtjllkmkngjdjjaaDoor
