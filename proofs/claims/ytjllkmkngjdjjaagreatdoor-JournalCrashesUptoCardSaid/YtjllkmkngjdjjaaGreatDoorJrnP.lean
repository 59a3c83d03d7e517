/- WALK of the law ShelfNames: any tile's file has the document's name, or none. WALKS of package shelf: bytes, wrong. No statement of the seed is proved here. WALKS of journal.Add, journal.Clear. No statement of the seed is proved here. PLAIN LAWS OF A JOURNAL'S FILE NAMES. No statement of the seed is proved here. -/
import Derived.Test.YtjllkmkngjdjjaaGreatDoorTileI
import Derived.Test.YtjllkmkngjdjjaaGreatDoorDskH
import Derived.Test.YtjllkmkngjdjjaaGreatDoorDsB
import Derived.Test.YtjllkmkngjdjjaaGreatDoorNames
import Derived.Test.YtjllkmkngjdjjaaGreatDoorFrameP
import Derived.Test.YtjllkmkngjdjjaaGreatDoorDskC
namespace Go.Proofs.YtjllkmkngjdjjaaGreatDoor
open Go.RowKit
set_option maxRecDepth 100000

/-- The answer of a name's function. -/
def nameV (h l i : Int) : Value := if 1 ≤ h ∧ h ≤ 8 ∧ tileV h l i (2 ^ h.toNat) = true then .tuple #[.string ⟨(tpath h.toNat l.toNat i.toNat (2 ^ h.toNat)).toArray⟩, .int .i64 0] else .tuple #[.string ⟨#[]⟩, .int .i64 2]
theorem nameV_bad1 {h l i : Int} (hb : h < 1 ∨ 8 < h) : nameV h l i = .tuple #[.string ⟨#[]⟩, .int .i64 2] := by unfold nameV; rw [if_neg (by omega)]
theorem nameV_bad2 {h : Nat} {l i : Int} (hv : tileV h l i (2 ^ h) = false) : nameV h l i = .tuple #[.string ⟨#[]⟩, .int .i64 2] := by
  unfold nameV; rw [Int.toNat_natCast, hv, if_neg (by simp)]
theorem nameV_ok {h l i : Nat} (h1 : 1 ≤ h) (h8 : h ≤ 8) (hv : tileV h l i (2 ^ h) = true) : nameV h l i = .tuple #[.string ⟨(tpath h l i (2 ^ h)).toArray⟩, .int .i64 0] := by
  unfold nameV; rw [Int.toNat_natCast, hv, if_pos ⟨by omega, by omega, rfl⟩]; rfl
theorem tileV_nat {h l i wd : Int} (hv : tileV h l i wd = true) : 0 ≤ h ∧ 0 ≤ l ∧ 0 ≤ i ∧ 0 ≤ wd := by
  unfold tileV at hv; rw [decide_eq_true_eq] at hv; omega

theorem full_bad (h l i : Int) (hb : h < 1 ∨ 8 < h) (w : World) : Calls Tryz.prog 127 #[.int .i64 h, .int .i64 l, .int .i64 i] w fun e w' => e = .returned (.agg #[.int .i64 0, .int .i64 0, .int .i64 0, .int .i64 0]) ∧ Below w.heap.size w w' := by
  have hB := below_alloc1 w (.cells #[.int .i64 0, .int .i64 0, .int .i64 0, .int .i64 0] 69)
  rcases hb with hb | hb
  · go_enter Tryz.func127, Tryz.ntmps127
    go_wp2
    exact bodyPost_ret (v := .agg #[.int .i64 0, .int .i64 0, .int .i64 0, .int .i64 0]) (by simp [results, Tryz.results127, go_sem]) rfl ⟨rfl, hB⟩
  · have h1 : ¬ h < 1 := by omega
    go_enter Tryz.func127, Tryz.ntmps127
    go_wp2
    exact bodyPost_ret (v := .agg #[.int .i64 0, .int .i64 0, .int .i64 0, .int .i64 0]) (by simp [results, Tryz.results127, go_sem]) rfl ⟨rfl, hB⟩
theorem full_ok (h : Nat) (l i : Int) (h1 : 1 ≤ h) (h8 : h ≤ 8) (w : World) : Calls Tryz.prog 127 #[.int .i64 (h : Int), .int .i64 l, .int .i64 i] w fun e w' => e = .returned (.agg #[.int .i64 (h : Int), .int .i64 l, .int .i64 i, .int .i64 (2 ^ h)]) ∧ Below w.heap.size w w' := by
  have hp : (2 : Int) ^ h ≤ 256 := by
    have := Nat.pow_le_pow_right (show 0 < 2 by omega) h8
    have e : ((2 ^ h : Nat) : Int) = 2 ^ h := by simp
    omega
  have hp0 : (0 : Int) ≤ 2 ^ h := Int.pow_nonneg (by omega)
  have q6b : IntKind.i64.wrap ((2 : Int) ^ h) = 2 ^ h := by rw [IntKind.wrap_i64]; omega
  have q6c : wrap64 ((2 : Int) ^ h) = 2 ^ h := by unfold wrap64; omega
  have hB := below_alloc1 w (.cells #[.int .i64 (h : Int), .int .i64 l, .int .i64 i, .int .i64 (2 ^ h)] 69)
  clear hp hp0
  go_enter Tryz.func127, Tryz.ntmps127
  go_wp2
  exact bodyPost_ret (v := .agg #[.int .i64 (h : Int), .int .i64 l, .int .i64 i, .int .i64 (2 ^ h)]) (by simp [results, Tryz.results127, go_sem]) rfl ⟨rfl, hB⟩
theorem pow_cast (h : Nat) : ((2 ^ h : Nat) : Int) = 2 ^ h := by simp
theorem sname (h l i : Int) (w : World) (htab : Lib.TabIs Tryz.prog w "internal/strconv.uint64pow10" .u64 Lib.pow10Tab) :
    Calls Tryz.prog 74 #[.int .i64 h, .int .i64 l, .int .i64 i] w fun e w' => e = .returned (nameV h l i) ∧ Below w.heap.size w w' := by
  by_cases hb : h < 1 ∨ 8 < h
  · rw [nameV_bad1 hb]
    have K1 := Lib.hid (full_bad h l i hb w)
    have K2 := fun w1 => Lib.hid (path_bad 0 0 0 0 (by decide) w1)
    clear hb htab
    go_enter Tryz.func74, Tryz.ntmps74
    go_wp2_with (first
      | (go_at_call 127; refine K1.out.mono ?_; rintro e w1 ⟨rfl, hB1⟩)
      | (go_at_call 72; refine (K2 _).out.mono ?_; rintro e w2 ⟨rfl, hB2⟩))
    go_ret2
    exact ⟨rfl, below_then hB1 hB2⟩
  · obtain ⟨n, rfl⟩ := Int.eq_ofNat_of_zero_le (show 0 ≤ h by omega)
    have K1 := Lib.hid (full_ok n l i (by omega) (by omega) w)
    by_cases hv : tileV n l i (2 ^ n) = true
    · obtain ⟨-, a2, a3, -⟩ := tileV_nat hv
      obtain ⟨l, rfl⟩ := Int.eq_ofNat_of_zero_le a2
      obtain ⟨i, rfl⟩ := Int.eq_ofNat_of_zero_le a3
      rw [nameV_ok (by omega) (by omega) hv]
      have K2 := fun {w1 : World} (hb : Below w.heap.size w w1) => Lib.hid (path_ok n l i (2 ^ n) (by rw [pow_cast]; exact hv) w1 (tab_below htab hb))
      rw [pow_cast] at K2
      generalize tpath n l i (2 ^ n) = p at K2
      clear hb htab hv
      go_enter Tryz.func74, Tryz.ntmps74
      go_wp2_with (first
        | (go_at_call 127; refine K1.out.mono ?_; rintro e w1 ⟨rfl, hB1⟩)
        | (go_at_call 72; refine (K2 hB1).out.mono ?_; rintro e w2 ⟨rfl, hB2⟩))
      go_ret2
      exact ⟨rfl, below_then hB1 hB2⟩
    · rw [nameV_bad2 (by simpa using hv)]
      have K2 := fun w1 => Lib.hid (path_bad n l i (2 ^ n) (by simpa using hv) w1)
      clear hb htab hv
      go_enter Tryz.func74, Tryz.ntmps74
      go_wp2_with (first
        | (go_at_call 127; refine K1.out.mono ?_; rintro e w1 ⟨rfl, hB1⟩)
        | (go_at_call 72; refine (K2 _).out.mono ?_; rintro e w2 ⟨rfl, hB2⟩))
      go_ret2
      exact ⟨rfl, below_then hB1 hB2⟩
theorem rsname (h l i : Int) (w : World) :
    Calls Tryz.prog 86 #[.int .i64 h, .int .i64 l, .int .i64 i] w fun e w' => e = .returned (nameV h l i) ∧ Below w.heap.size w w' := by
  by_cases hb : h < 1 ∨ 8 < h
  · rw [nameV_bad1 hb]
    have K1 := Lib.hid (rheight_bad h hb w)
    clear hb
    go_enter Tryz.func86, Tryz.ntmps86
    go_wp2_with (go_at_call 142; refine K1.out.mono ?_; rintro e w1 ⟨rfl, rfl⟩)
    go_ret2
    exact ⟨rfl, Below.refl _ _⟩
  · obtain ⟨n, rfl⟩ := Int.eq_ofNat_of_zero_le (show 0 ≤ h by omega)
    have K1 := fun w1 => Lib.hid (rheight_ok n (by omega) (by omega) w1)
    have K3 := fun w1 => Lib.hid (rfull n (by omega) w1)
    by_cases hv : tileV n l i (2 ^ n) = true
    · obtain ⟨-, a2, a3, -⟩ := tileV_nat hv
      obtain ⟨l, rfl⟩ := Int.eq_ofNat_of_zero_le a2
      obtain ⟨i, rfl⟩ := Int.eq_ofNat_of_zero_le a3
      rw [nameV_ok (by omega) (by omega) hv]
      have K2 := fun w1 => Lib.hid (rpath_ok n l i (2 ^ n) (by rw [pow_cast]; exact hv) w1)
      rw [pow_cast] at K2
      generalize tpath n l i (2 ^ n) = p at K2
      clear hb hv
      go_enter Tryz.func86, Tryz.ntmps86
      go_wp2_with (first
        | (go_at_call 142; refine (K1 _).out.mono ?_; rintro e w1 ⟨rfl, rfl⟩)
        | (go_at_call 87; refine (K3 _).out.mono ?_; rintro e w1 ⟨rfl, rfl⟩)
        | (go_at_call 143; refine (K2 _).out.mono ?_; rintro e w2 ⟨rfl, hB2⟩))
      go_ret2
      exact ⟨rfl, hB2⟩
    · rw [nameV_bad2 (by simpa using hv)]
      have K2 := fun w1 => Lib.hid (rpath_bad n l i (2 ^ n) (by simpa using hv) w1)
      clear hb hv
      go_enter Tryz.func86, Tryz.ntmps86
      go_wp2_with (first
        | (go_at_call 142; refine (K1 _).out.mono ?_; rintro e w1 ⟨rfl, rfl⟩)
        | (go_at_call 87; refine (K3 _).out.mono ?_; rintro e w1 ⟨rfl, rfl⟩)
        | (go_at_call 143; refine (K2 _).out.mono ?_; rintro e w2 ⟨rfl, hB2⟩))
      go_ret2
      exact ⟨rfl, hB2⟩
theorem names14 (w : World) : Calls Tryz.prog 28 #[] w fun e w' => e = .returned (.bool true) ∧ w = w' := by
  go_enter Tryz.func28, Tryz.ntmps28
  go_wp2
  go_ret
  exact ⟨rfl, rfl⟩
theorem nameV_form (h l i : Int) : ∃ (s : List UInt8) (x : Int), nameV h l i = .tuple #[.string ⟨s.toArray⟩, .int .i64 x] := by
  unfold nameV
  split
  · exact ⟨_, _, rfl⟩
  · exact ⟨[], _, rfl⟩
end Go.Proofs.YtjllkmkngjdjjaaGreatDoor
namespace Go.Proofs.YtjllkmkngjdjjaaGreatDoor
open Go.RowKit Go.Shelf
set_option maxRecDepth 100000
abbrev TabW (w : World) : Prop := Lib.TabIs Tryz.prog w "internal/strconv.uint64pow10" .u64 Lib.pow10Tab
/-- The file of a full tile. -/
def sFile (s : DSt) (h lv i : Nat) : Option (List UInt8) := if tileV h lv i (2 ^ h) = true then s.fs (tname h lv i) else none
def Few (s : DSt) : Prop := ∀ n l, s.fs n = some l → l.length ≤ 100000000000000
theorem name_fits {h lv i : Nat} (hv : tileV h lv i (2 ^ h) = true) : nameOk (tname h lv i) = true := by
  have := tpath_len h lv i hv
  unfold nameOk
  simp
  exact this
theorem shl32 (h : Nat) (h8 : h ≤ 8) : ((32 * 2 ^ h : Nat) : Int) ≤ 8192 := by
  have : h = 0 ∨ h = 1 ∨ h = 2 ∨ h = 3 ∨ h = 4 ∨ h = 5 ∨ h = 6 ∨ h = 7 ∨ h = 8 := by omega
  rcases this with rfl | rfl | rfl | rfl | rfl | rfl | rfl | rfl | rfl <;> decide
theorem sbytes_bad (x : DT) (s : DSt) (W : World) (B : Nat) (hx : x.At s W B) (hT : TabW W) (h lv i : Nat) (h1 : 1 ≤ h) (h8 : h ≤ 8) (hno : tileV h lv i (2 ^ h) = false) :
    Calls Tryz.prog 95 #[.pointer (some ⟨x.p, 0, none⟩), .int .i64 (h : Int), .int .i64 (lv : Int), .int .i64 (i : Int)] W fun e w' => e = .returned (.tuple #[.slice none 0 0, .bool false]) ∧ Below W.heap.size W w' := by
  have K := Lib.hid (sname h lv i W hT)
  rw [nameV_bad2 hno] at K
  clear hx hT
  go_enter Tryz.func95, Tryz.ntmps95
  go_wp2_with (first | (go_at_call 74; refine K.out.mono ?_; rintro e w1 ⟨rfl, hB1⟩))
  go_ret2
  exact ⟨rfl, hB1⟩
theorem sbytes_none (x : DT) (s : DSt) (W : World) (B : Nat) (hx : x.At s W B) (hT : TabW W) (h lv i : Nat) (h1 : 1 ≤ h) (h8 : h ≤ 8) (hv : tileV h lv i (2 ^ h) = true) (hno : s.fs (tname h lv i) = none) :
    Calls Tryz.prog 95 #[.pointer (some ⟨x.p, 0, none⟩), .int .i64 (h : Int), .int .i64 (lv : Int), .int .i64 (i : Int)] W fun e w' => e = .returned (.tuple #[.slice none 0 0, .bool false]) ∧ Below W.heap.size W w' := by
  have K := Lib.hid (sname h lv i W hT)
  rw [nameV_ok h1 h8 hv] at K
  have hd : dWrong s (tname h lv i) true = 121 := by
    unfold dWrong
    rw [name_fits hv, hno]
    rfl
  have KR := Lib.hid (fun w (hb : Below W.heap.size W w) k => dread_bad x s (tname h lv i) 0 k w B (hx.below hb) (by rw [hd]; decide))
  rw [hd] at KR
  unfold tname at KR
  clear hx hT
  go_enter Tryz.func95, Tryz.ntmps95
  go_wp2_with (first | (go_at_call 74; refine K.out.mono ?_; rintro e w1 ⟨rfl, hB1⟩) | (go_at_call 100; refine (KR.out _ hB1 _).mono ?_; rintro e w2 ⟨rfl, rfl⟩))
  go_ret2
  exact ⟨rfl, hB1⟩
theorem cutB_zero (l : List UInt8) (k : Nat) : cutB l 0 k = l.take k := by
  unfold cutB
  rw [List.drop_zero, Nat.sub_zero]
  by_cases h : k ≤ l.length
  · rw [Nat.min_eq_left h]
  · rw [Nat.min_eq_right (by omega), List.take_length, List.take_of_length_le (by omega)]
theorem sbytes_some (x : DT) (s : DSt) (W : World) (B : Nat) (hx : x.At s W B) (hT : TabW W) (h lv i : Nat) (h1 : 1 ≤ h) (h8 : h ≤ 8) (hv : tileV h lv i (2 ^ h) = true) (l : List UInt8) (hl : s.fs (tname h lv i) = some l) (hfew : Few s) :
    Calls Tryz.prog 95 #[.pointer (some ⟨x.p, 0, none⟩), .int .i64 (h : Int), .int .i64 (lv : Int), .int .i64 (i : Int)] W fun e w' => ∃ v, e = .returned (.tuple #[v, .bool true]) ∧ OwnB w' W.heap.size v (l.take (32 * 2 ^ h)) ∧ Below W.heap.size W w' := by
  have K := Lib.hid (sname h lv i W hT)
  rw [nameV_ok h1 h8 hv] at K
  have hd : dWrong s (tname h lv i) true = 0 := by
    unfold dWrong
    rw [name_fits hv, hl]
    rfl
  have h32 := shl32 h h8
  have hw : wrap64 (32 * 2 ^ h) = ((32 * 2 ^ h : Nat) : Int) := by
    rw [show (32 * 2 ^ h : Int) = ((32 * 2 ^ h : Nat) : Int) by push_cast; rfl]
    unfold wrap64
    omega
  generalize hk : 32 * 2 ^ h = k at *
  have KR := fun w (hb : Below W.heap.size W w) => dread_ok x s (tname h lv i) l 0 k w B (hx.below hb) hd hl (by omega) (by omega) (hfew _ _ hl)
  simp only [cutB_zero] at KR
  rw [show ((0 : Nat) : Int) = 0 from rfl] at KR
  unfold tname at KR
  have KR := Lib.hid KR
  clear hx hT
  go_enter Tryz.func95, Tryz.ntmps95
  go_wp2_with (first | (go_at_call 74; refine K.out.mono ?_; rintro e w1 ⟨rfl, hB1⟩) | (go_at_call 100; refine (KR.out _ hB1).mono ?_; rintro e w2 ⟨v2, rfl, ho2, hB2⟩))
  go_ret2
  exact ⟨_, rfl, ho2.lower hB1.size, below_then hB1 hB2⟩
theorem swrong_ok (x : DT) (s : DSt) (W : World) (B : Nat) (hx : x.At s W B) (h lv : Nat) (h1 : 1 ≤ h) (h8 : h ≤ 8) (hv : tileV h lv 0 (2 ^ h) = true) (hs : s.sec ≠ 0) :
    Calls Tryz.prog 64 #[.pointer (some ⟨x.p, 0, none⟩), .int .i64 (h : Int), .int .i64 (lv : Int)] W fun e w' => e = .returned (.int .i64 0) ∧ Below W.heap.size W w' := by
  have K := Lib.hid (dsector_calls x s W B hx)
  have KF := Lib.hid (full_ok h lv 0 h1 h8 W)
  have KV := Lib.hid (fun w => tile_valid h lv 0 (2 ^ h) w)
  rw [hv] at KV
  have g1 : ((s.sec : Int) == 0) = false := by simp; omega
  clear hx
  go_enter Tryz.func64, Tryz.ntmps64
  go_wp2_with (first | (go_at_call 93; refine K.out.mono ?_; rintro e w1 ⟨rfl, rfl⟩) | (go_at_call 127; refine KF.out.mono ?_; rintro e w2 ⟨rfl, hB2⟩) | (go_at_call 94; refine (KV.out _).mono ?_; rintro e w3 ⟨rfl, hB3⟩))
  go_ret
  exact ⟨rfl, below_then hB2 hB3⟩
end Go.Proofs.YtjllkmkngjdjjaaGreatDoor
namespace Go.Proofs.YtjllkmkngjdjjaaGreatDoor
open Go.RowKit Go.Shelf
set_option maxRecDepth 100000
/-- The name of a generation's file. -/
def jnm (g : Nat) : ByteArray := ⟨(wordJ ++ padded 6 g).toArray⟩
theorem jnm_size (g : Nat) (h : g ≤ 2147483647) : 1 ≤ (jnm g).size ∧ (jnm g).size ≤ 128 := by
  have h1 := digits_le19 g (by omega)
  have e : (jnm g).size = (wordJ ++ padded 6 g).length := by simp [jnm, ByteArray.size]
  rw [e]
  unfold padded wordJ
  simp only [List.length_append, List.length_cons, List.length_nil, List.length_replicate]
  omega
theorem jnm_ok (g : Nat) (h : g ≤ 2147483647) : nameOk (jnm g) = true := by
  have := jnm_size g h
  unfold nameOk
  simp
  omega
/-- The file that some leaves make. -/
def jfile (ls : List (List UInt8)) : List UInt8 := (ls.map fr).flatten
theorem jfile_snoc (ls : List (List UInt8)) (m : List UInt8) : jfile (ls ++ [m]) = jfile ls ++ fr m := by simp [jfile]
/-- A journal over its disk. -/
structure JD (j : JT) (x : DT) (s : DSt) (g : Nat) (ls : List (List UInt8)) (W : World) (B : Nat) : Prop where
  ja : j.At x.p g ls W B
  xa : x.At s W B
  sep : ∀ k, j.Has k → ¬ x.Has k
theorem JD.below {j : JT} {x : DT} {s : DSt} {g : Nat} {ls : List (List UInt8)} {W W' : World} {B : Nat} (h : JD j x s g ls W B) (hb : Below W.heap.size W W') : JD j x s g ls W' B := ⟨h.ja.below hb, h.xa.below hb, h.sep⟩
/-- What a call of a journal does to the heap. -/
structure JStep (j : JT) (x : DT) (W : World) (j' : JT) (y : DT) (w' : World) : Prop where
  p : y.p = x.p
  jp : j'.p = j.p
  os : w'.os = W.os
  tape : w'.tape = W.tape
  output : w'.output = W.output
  size : W.heap.size ≤ w'.heap.size
  block : ∀ k, k < W.heap.size → ¬ x.Mut k → ¬ j.Has k → w'.heap[k]? = W.heap[k]?
  has : ∀ k, j'.Has k → j.Has k ∨ W.heap.size ≤ k
  mu : ∀ k, y.Mut k → x.Mut k ∨ W.heap.size ≤ k
  us : ∀ u ∈ y.us, u ∈ x.us ∨ ∀ k, u.ownBlock = some k → W.heap.size ≤ k
theorem bs_step {w w' : World} {v : Value} {m : List UInt8} (h : Bs w v m) (hs : ∀ k, k < w.heap.size → v.ownBlock = some k → w'.heap[k]? = w.heap[k]?) : Bs w' v m := by
  obtain ⟨A, c, rfl, h1, h2, h3, h4⟩ := h
  refine ⟨A, c, rfl, h1, h2, h3, fun j u hu => ?_⟩
  obtain ⟨ad, ha, hc⟩ := h4 j u hu
  subst ha
  refine ⟨ad, rfl, (mods_cell (hs _ (World.block_lt_of_cell? w _ hc) ?_)).trans hc⟩
  rw [addr_blk]
  rfl
theorem bs_step0 {w w' : World} {v : Value} {m : List UInt8} (h : Bs w v m) (hs : 0 < m.length → ∀ k, k < w.heap.size → v.ownBlock = some k → w'.heap[k]? = w.heap[k]?) : Bs w' v m := by
  by_cases h0 : 0 < m.length
  · exact bs_step h (hs h0)
  · obtain ⟨A, c, e, h1, h2, h3, h4⟩ := h
    have hm : m = [] := List.eq_nil_of_length_eq_zero (by omega)
    subst hm
    exact ⟨A, c, e, h1, h2, h3, fun j u hu => by simp [u8s] at hu⟩
/-- The journal's leaves have grown. -/
theorem JT.At.add {j : JT} {pd g : Nat} {ls : List (List UInt8)} {w w1 : World} {B : Nat} (h : j.At pd g ls w B) {m : List UInt8} {u vl' : Value} (hB : B ≤ w.heap.size) (hu : OwnB w B u m) (hun : ∀ k, u.ownBlock = some k → ¬ j.Has k)
    (ho : w1.ownsRow B 35 1 vl' (ls.length + 1) (j.us ++ [u])) (hg : (w.alloc (.cells #[u] 35)).grownBy w1 j.vl.ownBlock) (hat : vl'.ownBlock = j.vl.ownBlock ∨ vl'.ownBlock = some (w.heap.size + 1)) :
    (JT.mk j.p vl' (j.us ++ [u])).At pd g (ls ++ [m]) (w1.setCell ⟨j.p, 2, none⟩ vl') B := by
  have hp : j.p < w.heap.size := h.lt (.inl rfl)
  have hz : (w.alloc (.cells #[u] 35)).heap.size = w.heap.size + 1 := by simp
  have e1 : ∀ k, k < w.heap.size → j.vl.ownBlock ≠ some k → w1.heap[k]? = w.heap[k]? := fun k hk hne => by
    rw [hg.block k (by omega) (fun e => hne e.symm)]
    exact (below_alloc1 w _).block k hk
  have e2 : ∀ k, k ≠ j.p → (w1.setCell ⟨j.p, 2, none⟩ vl').heap[k]? = w1.heap[k]? := fun k hk => Below.heap_setCell _ _ _ _ hk
  have hp1 := e1 j.p hp h.vp
  have hvp : vl'.ownBlock ≠ some j.p := fun e => by
    rcases hat with h1 | h1
    · exact h.vp (by rw [← h1]; exact e)
    · rw [h1] at e; have := Option.some.inj e; omega
  have hc2 := (mods_cell (a := ⟨j.p, 2, none⟩) hp1).trans h.c2
  have hus : ∀ z ∈ j.us ++ [u], ∀ k, z.ownBlock = some k → k < w.heap.size ∧ k ≠ j.p ∧ j.vl.ownBlock ≠ some k := fun z hz k hk => by
    rcases List.mem_append.1 hz with h1 | h1
    · obtain ⟨q, -, hq, ha⟩ := h.us h1
      exact ⟨(hq.lt k hk).2, fun e => h.up z h1 (by rw [← e]; exact hk), fun e => ha k hk e⟩
    · simp at h1
      subst h1
      exact ⟨(hu.lt k hk).2, fun e => hun k hk (.inl e), fun e => hun k hk (.inr (.inl e))⟩
  have hk : ∀ z ∈ j.us ++ [u], ∀ k, z.ownBlock = some k → (w1.setCell ⟨j.p, 2, none⟩ vl').heap[k]? = w.heap[k]? := fun z hz k hk => by
    obtain ⟨a, b, c⟩ := hus z hz k hk
    exact (e2 k b).trans (e1 k a c)
  have hap : ∀ z ∈ j.us ++ [u], Apart z vl' := fun z hz k hk hk' => by
    obtain ⟨a, b, c⟩ := hus z hz k hk
    rcases hat with h1 | h1
    · exact c (by rw [← h1]; exact hk')
    · rw [h1] at hk'; have := Option.some.inj hk'; omega
  refine ⟨h.low, ?_, ?_, set_cell hc2 _, ?_, ?_, ?_, ?_, hvp, fun z hz e => (hus z hz _ e).2.1 rfl⟩
  · exact (World.cell?_setCell_other w1 _ _ _ (by simp)).trans ((mods_cell (a := ⟨j.p, 0, none⟩) hp1).trans h.c0)
  · exact (World.cell?_setCell_other w1 _ _ _ (by simp)).trans ((mods_cell (a := ⟨j.p, 1, none⟩) hp1).trans h.c1)
  · exact set_frozen ((mods_frozen (a := ⟨j.p, 1, none⟩) hp1).trans h.f1) _
  · exact set_frozen ((mods_frozen (a := ⟨j.p, 2, none⟩) hp1).trans h.f2) _
  · rw [List.length_append]
    exact mods_owns ho fun k hk => e2 k (fun e => hvp (by rw [← e]; exact hk))
  · have hb := (h.parts.snoc (u := u) (m := m) hu (S := [j.vl]) (fun s hs k hk => by
      simp at hs; subst hs; exact (hus u (by simp) k hk).2.2))
    refine ⟨hb.1, fun i z hi => ?_⟩
    obtain ⟨q, hq, hoq, -⟩ := hb.2 i z hi
    have hz := List.mem_of_getElem? hi
    exact ⟨q, hq, mods_owns hoq (hk z hz), fun s hs => by simp at hs; subst hs; exact hap z hz⟩
/-- The slots of Add's last region. -/
def frJ (a0 : Act) (p : Nat) (v x y z : Value) : Act := { a0 with tmps := (((((((a0.tmps.setIfInBounds 40 (.pointer (some ⟨p, 0, none⟩))).setIfInBounds 41 (.pointer (some ⟨p, 0, none⟩))).setIfInBounds 42 (.pointer (some ⟨p, 0, none⟩))).setIfInBounds 43 (.pointer (some ⟨p, 2, none⟩))).setIfInBounds 45 v).setIfInBounds 44 x).setIfInBounds 46 y).setIfInBounds 47 z }
/-- What stands there: b: the leaves' row has been read; k: how many of clone and slice are done. -/
def KJ (p : Nat) (v vl : Value) (m : List UInt8) (w4 : World) (a0 : Act) (b : Bool) : Nat → Act → World → Prop
  | 0, a, w => Below w4.heap.size w4 w ∧ a = frJ a0 p v (if b then vl else undef) undef undef
  | 1, a, w => Below w4.heap.size w4 w ∧ ∃ A5 c5, a = frJ a0 p v (if b then vl else undef) (.slice A5 m.length c5) undef ∧ OwnB w w4.heap.size (.slice A5 m.length c5) m
  | _, a, w => ∃ w5 A5 c5, w = w5.alloc (.cells #[.slice A5 m.length c5] 35) ∧ Below w4.heap.size w4 w5 ∧ a = frJ a0 p v (if b then vl else undef) (.slice A5 m.length c5) (.slice (some ⟨w5.heap.size, 0, none⟩) 1 1) ∧ OwnB w5 w4.heap.size (.slice A5 m.length c5) m
section
variable {P : Program} {Q : Exit → Act → World → Prop} {S : World → Prop}
/-- The law of a floating operation, for what is said of the goal's own slots. -/
theorem wp_region_floatA {id : Nat} {a : Act} {w : World} {l : List Oper} (S : World → Prop) (Kf : Act → Bool → Nat → Act → World → Prop) (tk cs : List Nat) (f : Nat) (n : Nat) (hm : P.follows .mixedOrders = true)
    (hB : (Region.noSelect l.toArray && takeB .any l.toArray tk (Array.replicate l.toArray.size false) && floatB .any l.toArray f cs (setAll tk (Array.replicate l.toArray.size false)) &&
      takeB .any l.toArray [] (setAll cs (setAll tk (Array.replicate l.toArray.size false))) && takeB .any l.toArray [] ((setAll cs (setAll tk (Array.replicate l.toArray.size false))).setIfInBounds f true) && decide (tk.length + (cs.length + (0 + n) + 1) = l.toArray.size) &&
      decide (Region.ready .any l.toArray (setAll [] (setAll cs (setAll tk (Array.replicate l.toArray.size false)))) = [f]) && decide (([] : List Nat).contains f = false)) = true)
    (hQ : ∀ c a a' w, Q (.panic c) a w → Q (.panic c) a' w) (hS : S w.drew) (hs : floatSteps P l.toArray Q S (Kf a) f 0 cs)
    (h : wpTkS P l.toArray S (fun a' => Kf a false 0 a' w.drew) (opsL l tk) a)
    (he : ∀ b a1 w1, Kf a b cs.length a1 w1 → Kf a b (cs.length + 1) a1 w1)
    (hf : ∀ a1 w1, Kf a false (cs.length + 1) a1 w1 → wpOp P l.toArray Q f (fun a' w' => S w' ∧ Kf a true (cs.length + 1) a' w') a1 w1)
    (hz : ∀ a1 w1, S w1 → Kf a true (cs.length + 1) a1 w1 → wpAnyH P .any l.toArray Q S n ((setAll [] (setAll cs (setAll tk (Array.replicate l.toArray.size false)))).setIfInBounds f true) a1 w1) : (Code.region id l.toArray true).wp P Q a w :=
  wp_region_float S (Kf a) tk cs f [] n hm hB hQ hS hs h he hf hz
end
/-- Add's end. -/
theorem jadd_end {j : JT} {x y : DT} {s s' : DSt} {g : Nat} {ls : List (List UInt8)} {m : List UInt8} {W w3 w4 w5 w6 : World} {B : Nat} (hJ : JD j x s g ls W B) (hB : B ≤ W.heap.size) (hb3 : Below W.heap.size W w3) (hy : y.At s' w4 B) (hs4 : DStep x w3 y w4) (hb : Below w4.heap.size w4 w5) (hj5 : j.At x.p g ls w5 B)
    {u v' : Value} (ho : OwnB w5 w4.heap.size u m) (ho6 : w6.ownsRow B 35 1 v' (ls.length + 1) (j.us ++ [u])) (hg6 : (w5.alloc (.cells #[u] 35)).grownBy w6 j.vl.ownBlock) (hat6 : v'.ownBlock = j.vl.ownBlock ∨ v'.ownBlock = some (w5.heap.size + 1)) :
    ∃ (j' : JT) (y : DT), JD j' y s' g (ls ++ [m]) (w6.setCell ⟨j.p, 2, none⟩ v') B ∧ JStep j x W j' y (w6.setCell ⟨j.p, 2, none⟩ v') := by
  have z3 := hb3.size
  have z4 := hs4.size
  have z5 := hb.size
  have hold : ∀ k, j.Has k → k < W.heap.size := fun k hk => hJ.ja.lt hk
  have hyl : ∀ k, y.Has k → k < w4.heap.size := fun k hk => hy.lt hk
  have hyo : ∀ k, y.Has k → x.Has k ∨ W.heap.size ≤ k := fun k hk => by
    rcases hk with hk | ⟨z, hz, hk⟩
    · rcases hs4.has k hk with h | h
      · exact .inl (.inl h)
      · exact .inr (by omega)
    · rcases hs4.us z hz with h | h | h
      · exact .inl (.inr ⟨z, h, hk⟩)
      · subst h; cases hk
      · exact .inr (Nat.le_trans z3 (h k hk))
  have hyj : ∀ k, y.Has k → ¬ j.Has k := fun k hk hj => by
    rcases hyo k hk with h | h
    · exact hJ.sep k hj h
    · have := hold k hj; omega
  have hun : ∀ k, u.ownBlock = some k → w4.heap.size ≤ k := fun k hk => (ho.lt k hk).1
  have hsame : ∀ k, k < w4.heap.size → ¬ j.Has k → (w6.setCell ⟨j.p, 2, none⟩ v').heap[k]? = w4.heap[k]? := fun k hk hj => by
    rw [Below.heap_setCell _ _ _ _ (fun e => hj (.inl e)), hg6.block k (by simp; omega) (fun e => hj (.inr (.inl e.symm))), (below_alloc1 w5 _).block k (by omega)]
    exact hb.block k hk
  have hA := hj5.add (w1 := w6) (by omega) (ho.lower (by omega)) (fun k hk hj => by have := hun k hk; have := hold k hj; omega) ho6 hg6 hat6
  refine ⟨⟨j.p, v', j.us ++ [u]⟩, y, ⟨?_, hy.kept fun k hk => hsame k (hyl k hk) (hyj k hk), ?_⟩, ?_⟩
  · rw [hs4.p]; exact hA
  · intro k hk hk2
    have hl := hyl k hk2
    have hj := hyj k hk2
    rcases hk with rfl | hk | ⟨z, hz, hk⟩
    · exact hj (.inl rfl)
    · rcases hat6 with h | h
      · exact hj (.inr (.inl (by rw [← h]; exact hk)))
      · rw [h] at hk; have := Option.some.inj hk; omega
    · rcases List.mem_append.1 hz with h | h
      · exact hj (.inr (.inr ⟨z, h, hk⟩))
      · simp at h; subst h; have := hun k hk; omega
  · refine ⟨hs4.p, rfl, ?_, ?_, ?_, ?_, ?_, ?_, ?_, ?_⟩
    · exact (grown_setCell w6 j.p 2 v').os.trans (hg6.os.trans (hb.os.trans (hs4.os.trans hb3.os)))
    · exact (grown_setCell w6 j.p 2 v').tape.trans (hg6.tape.trans (hb.tape.trans (hs4.tape.trans hb3.tape)))
    · exact (grown_setCell w6 j.p 2 v').output.trans (hg6.output.trans (hb.output.trans (hs4.output.trans hb3.output)))
    · rw [World.size_setCell]; have := hg6.size; simp at this; omega
    · intro k hk hm hj
      rw [hsame k (by omega) hj, hs4.block k (by omega) hm]
      exact hb3.block k hk
    · intro k hk
      rcases hk with rfl | hk | ⟨z, hz, hk⟩
      · exact .inl (.inl rfl)
      · rcases hat6 with h | h
        · exact .inl (.inr (.inl (by rw [← h]; exact hk)))
        · rw [h] at hk; have := Option.some.inj hk; exact .inr (by omega)
      · rcases List.mem_append.1 hz with h | h
        · exact .inl (.inr (.inr ⟨z, h, hk⟩))
        · simp at h; subst h; have := hun k hk; exact .inr (by omega)
    · intro k hk
      rcases hs4.has k hk with h | h
      · exact .inl h
      · exact .inr (by omega)
    · intro z hz
      rcases hs4.us z hz with h | h | h
      · exact .inl h
      · subst h; exact .inr fun k hk => (by cases hk)
      · exact .inr fun k hk => Nat.le_trans z3 (h k hk)

set_option maxHeartbeats 2000000 in
theorem jadd_calls (j : JT) (x : DT) (s : DSt) (g : Nat) (ls : List (List UInt8)) (W : World) (B : Nat) (hJ : JD j x s g ls W B) (hB : B ≤ W.heap.size) (hT : TabW W) (hF : LaidF W) (h1 : 1 ≤ g) (h2 : g ≤ 2147483647) (v : Value) (m : List UInt8) (hv : Bs W v m) (hvx : 0 < m.length → ∀ k, v.ownBlock = some k → ¬ x.Mut k) (hm : m.length ≤ 65535)
    (f : List UInt8) (hf : s.fs (jnm g) = some f) (hfl : f.length ≤ 90000000000000) (hr : s.raws.length ≤ 990000000000) (hn : ls.length ≤ 90000000) :
    Calls Tryz.prog 43 #[.pointer (some ⟨j.p, 0, none⟩), v] W fun e w' => e = .returned (.int .i64 0) ∧ ∃ (j' : JT) (y : DT), JD j' y (s.runs (appR s (jnm g) (fr m))) g (ls ++ [m]) w' B ∧ JStep j x W j' y w' := by
  have KN := Lib.hid (jnone_calls j x.p g ls W B hJ.ja)
  have KM := jname_ok g h1 h2 W hT
  have hfr := fr_length m
  have KP := Lib.hid (fun w (hw : Below W.heap.size W w) => fput_calls (.slice none 0 0) v [] m w (LaidF.below hF hw) (OwnB.nil w 0).bs (hv.below hw) (by omega) (by simp))
  obtain ⟨A, c, rfl, -, -, -⟩ := hv.form
  have c0 := hJ.ja.c0
  have c1 := hJ.ja.c1
  have g1 : decide ((m.length : Int) > 65535) = false := by rw [decide_eq_false_iff_not]; omega
  have g2 : decide ((65535 : Int) < (m.length : Int)) = false := by rw [decide_eq_false_iff_not]; omega
  have g3 : decide (65535 < m.length) = false := by rw [decide_eq_false_iff_not]; omega
  have hd : dWrong s (jnm g) true = 0 := by unfold dWrong; rw [jnm_ok g h2, hf]; rfl
  have KA := Lib.hid (fun w va (hw : Below W.heap.size W w) (hb : Bs w va (fr m)) (hap : ∀ k, va.ownBlock = some k → ¬ x.Mut k) => dappend_calls x s (jnm g) va (fr m) w B (hJ.xa.below hw) (Nat.le_trans hB hw.size) hb hap (fun l hl => by rw [hf] at hl; cases hl; omega) (by omega))
  unfold dAppend at KA
  rw [hd, if_pos rfl] at KA
  have KM := Lib.hid (show Calls Tryz.prog 102 #[.int .i64 (g : Int)] W fun e w' => e = .returned (.tuple #[.string (jnm g), .int .i64 0]) ∧ Below W.heap.size W w' from KM)
  generalize jnm g = nm at *
  have HJ := Lib.hid hJ
  have HM := Lib.hid (And.intro hm hn)
  clear hJ hT hF hfl hr hn hm hfr
  go_enter Tryz.func43, Tryz.ntmps43
  go_wp2_with (first
    | (go_at_call 108; refine KN.out.mono ?_; rintro e w1 ⟨rfl, rfl⟩)
    | (go_at_call 102; refine KM.out.mono ?_; rintro e w2 ⟨rfl, hB2⟩; have d0 := cell_below hB2 c0)
    | (go_at_call 109; refine (KP.out _ hB2).mono ?_; rintro e w3 ⟨v3, rfl, ho3, hB3⟩; have hb23 := below_then hB2 hB3; have e0 := cell_below hB3 d0)
    | (go_at_call 79; refine (KA.out _ _ hb23 ho3.bs (fun k hk hm => absurd (HJ.out.xa.lt (.inl hm)) (Nat.not_lt.2 (Nat.le_trans hB2.size (ho3.lt k hk).1)))).mono ?_; rintro e w4 ⟨rfl, y, hy, hs4⟩))
  have hb3 : Below W.heap.size W w3 := hb23
  have hj4 : j.At x.p g ls w4 B := (HJ.out.ja.below hb3).kept fun k hk => hs4.block k (Nat.lt_of_lt_of_le (HJ.out.ja.lt hk) hb3.size) (fun e => HJ.out.sep k hk (.inl e))
  have hv4 : Bs w4 (.slice A m.length c) m := bs_step0 (hv.below hb3) fun h0 k hk1 hk => hs4.block k hk1 (hvx h0 k hk)
  have c2 := hj4.c2
  have f2 := hj4.f2
  have HJ4 := Lib.hid hj4
  have HV4 := Lib.hid hv4
  refine wp_region_noPanic ?_
  refine wp_region_floatA (fun _ => True) (KJ j.p (.slice A m.length c) j.vl m w4) [0, 1, 2, 3, 5] [6, 7] 4 4 (by kernel_rfl) (by kernel_rfl) (fun _ _ _ _ h => h) trivial ⟨?_, ?_, ?_, ?_, trivial⟩ ?_ (fun _ _ _ h => h) ?_ ?_
  · rintro b a w ⟨hb, rfl⟩
    refine wpOp_walk rfl ?_
    cases b
    all_goals
      simp only [frJ, Bool.false_eq_true, if_false, if_true]
      go_wp2_with (first
        | (go_at_call 96; refine (bclone_calls _ m _ (HV4.out.below hb) (Nat.le_trans HM.out.1 (by decide))).mono ?_; rintro e w5 ⟨v5, rfl, ho5, hB5⟩; obtain ⟨A5, c5, rfl, -, -, -⟩ := ho5.form))
      exact ⟨trivial, below_then hb hB5, A5, c5, (by simp only [frJ, Bool.false_eq_true, if_false, if_true, List.setIfInBounds_toArray, List.set_cons_zero, List.set_cons_succ]), ho5.lower' hb.size⟩
  · rintro a w ⟨hb, rfl⟩
    refine wpOp_walk rfl ?_
    simp only [frJ, Bool.false_eq_true, if_false, if_true]
    have c22 := cell_below hb c2
    go_wp2
    exact ⟨trivial, hb, (by simp only [frJ, Bool.false_eq_true, if_false, if_true, List.setIfInBounds_toArray, List.set_cons_zero, List.set_cons_succ])⟩
  · rintro b a w ⟨hb, A5, c5, rfl, ho⟩
    refine wpOp_walk rfl ?_
    cases b
    all_goals
      simp only [frJ, Bool.false_eq_true, if_false, if_true]
      go_wp2
      exact ⟨trivial, w, A5, c5, rfl, hb, (by simp only [frJ, Bool.false_eq_true, if_false, if_true, List.setIfInBounds_toArray, List.set_cons_zero, List.set_cons_succ]), ho⟩
  · rintro a w ⟨hb, A5, c5, rfl, ho⟩
    refine wpOp_walk rfl ?_
    simp only [frJ, Bool.false_eq_true, if_false, if_true]
    have c22 := cell_below hb c2
    go_wp2
    exact ⟨trivial, hb, A5, c5, (by simp only [frJ, Bool.false_eq_true, if_false, if_true, List.setIfInBounds_toArray, List.set_cons_zero, List.set_cons_succ]), ho⟩
  · simp only [opsL, List.getElem?_cons_zero, List.getElem?_cons_succ, Option.toList_some, List.singleton_append]
    refine takesS_run rfl (.pointer (some ⟨j.p, 0, none⟩)) (fun w' hw => op_move _ rfl _ (by rfl) w') ?_
    simp only [Act.put, List.setIfInBounds_toArray, List.set_cons_zero, List.set_cons_succ]
    refine takesS_run rfl (.pointer (some ⟨j.p, 0, none⟩)) (fun w' hw => op_move _ rfl _ (by rfl) w') ?_
    simp only [Act.put, List.setIfInBounds_toArray, List.set_cons_zero, List.set_cons_succ]
    refine takesS_run rfl (.pointer (some ⟨j.p, 0, none⟩)) (fun w' hw => by go_simp) ?_
    simp only [Act.put, List.setIfInBounds_toArray, List.set_cons_zero, List.set_cons_succ]
    refine takesS_run rfl (.pointer (some ⟨j.p, 2, none⟩)) (fun w' hw => by go_simp) ?_
    simp only [Act.put, List.setIfInBounds_toArray, List.set_cons_zero, List.set_cons_succ]
    refine takesS_run rfl (.slice A m.length c) (fun w' hw => op_move _ rfl _ (by rfl) w') ?_
    simp only [Act.put, List.setIfInBounds_toArray, List.set_cons_zero, List.set_cons_succ]
    exact ⟨below_drew1 _, (by simp only [frJ, Bool.false_eq_true, if_false, if_true, List.setIfInBounds_toArray, List.set_cons_zero, List.set_cons_succ])⟩
  · rintro a w ⟨w5, A5, c5, rfl, hb, rfl, ho⟩
    refine wpOp_walk rfl ?_
    simp only [frJ, Bool.false_eq_true, if_false, if_true]
    have c22 := cell_below (hb.alloc hb.size (.cells #[.slice A5 m.length c5] 35)) c2
    go_wp2
    exact ⟨trivial, w5, A5, c5, rfl, hb, (by simp only [frJ, Bool.false_eq_true, if_false, if_true, List.setIfInBounds_toArray, List.set_cons_zero, List.set_cons_succ]), ho⟩
  · rintro a w - ⟨w5, A5, c5, rfl, hb, rfl, ho⟩
    refine held_of_rowS _ rfl [8, 9, 10, 11] _ _ _ (by kernel_rfl) ?_
    simp only [wpRowS, opsL, List.getElem?_cons_zero, List.getElem?_cons_succ, Option.toList_some, List.singleton_append, List.append_nil]
    simp only [frJ, Bool.false_eq_true, if_false, if_true, List.setIfInBounds_toArray, List.set_cons_zero, List.set_cons_succ]
    have hj5 := HJ4.out.below hb
    have hB4 : B ≤ w5.heap.size := Nat.le_trans hB (Nat.le_trans hb3.size (Nat.le_trans hs4.size hb.size))
    refine app_row rfl _ _ 22 35 rfl under_lists info_bs rfl (by omega) B j.vl rfl ls.length j.us hj5.row (.slice A5 m.length c5) rfl rfl ?_ hB4 ?_
    · have := HM.out.2; omega
    intro v' w6 ho6 hg6 hat6
    obtain ⟨A6, c6, rfl, -⟩ := owns_form ho6
    have hp4 : j.p < w5.heap.size := hj5.lt (.inl rfl)
    have hp6 : w6.heap[j.p]? = w5.heap[j.p]? := (hg6.block j.p (by simp; omega) (fun e => hj5.vp e.symm)).trans ((below_alloc1 w5 _).block j.p hp4)
    have c26 := (mods_cell (a := ⟨j.p, 2, none⟩) hp6).trans hj5.c2
    have f26 := (mods_frozen (a := ⟨j.p, 2, none⟩) hp6).trans hj5.f2
    refine wpList_done trivial ?_
    go_wp2
    refine norm_done trivial ?_
    go_wp2
    refine norm_done trivial ?_
    go_wp2
    refine norm_done trivial (noPanic_normal ?_)
    rename_i Kx hKx
    refine hKx _ _ ?_
    go_wp2
    go_ret
    exact ⟨rfl, jadd_end HJ.out hB hb3 hy hs4 hb hj5 ho ho6 hg6 hat6⟩
end Go.Proofs.YtjllkmkngjdjjaaGreatDoor
namespace Go.Proofs.YtjllkmkngjdjjaaGreatDoor
open Go.RowKit Go.Shelf
theorem parse_app : ∀ (xs : List UInt8) (acc u : Nat) (d : UInt8), Lib.parseUint10 acc xs = .ok u → 48 ≤ d.toNat → d.toNat ≤ 57 → u < 1844674407370955162 → u * 10 + (d.toNat - 48) < 18446744073709551616 → Lib.parseUint10 acc (xs ++ [d]) = .ok (u * 10 + (d.toNat - 48))
  | [], acc, u, d, h, h1, h2, h3, h4 => by
    simp only [Lib.parseUint10] at h
    injection h with h
    subst h
    simp only [List.nil_append, Lib.parseUint10]
    rw [if_pos ⟨h1, h2⟩, if_neg (by omega), if_neg (by omega)]
  | c :: r, acc, u, d, h, h1, h2, h3, h4 => by
    simp only [List.cons_append, Lib.parseUint10] at h ⊢
    split at h
    · rename_i hc
      rw [if_pos hc]
      split at h
      · cases h
      · rename_i hc2
        rw [if_neg hc2]
        split at h
        · cases h
        · rename_i hc3
          rw [if_neg hc3]
          exact parse_app r _ u d h h1 h2 h3 h4
    · cases h
theorem digit_nat (k : Nat) (h : k < 10) : (UInt8.ofNat (48 + k)).toNat = 48 + k := by
  simp
  omega
theorem parse_digits (n : Nat) (hn : n ≤ 9223372036854775807) : Lib.parseUint10 0 (Lib.decDigits n) = .ok n := by
  induction n using Nat.strongRecOn with
  | _ n ih =>
    rw [Lib.decDigits]
    split
    · rename_i h
      have e := digit_nat n h
      simp only [Lib.parseUint10, e]
      rw [if_pos (by omega), if_neg (by omega), if_neg (by omega)]
      congr 1
      omega
    · rename_i h
      have e := digit_nat (n % 10) (by omega)
      have := parse_app _ 0 _ (UInt8.ofNat (48 + n % 10)) (ih (n / 10) (by omega) (by omega)) (by omega) (by omega) (by omega) (by omega)
      rw [this, e]
      congr 1
      omega
theorem parse_zeros (l : List UInt8) : ∀ (k : Nat), Lib.parseUint10 0 (List.replicate k 48 ++ l) = Lib.parseUint10 0 l
  | 0 => rfl
  | k + 1 => by
    rw [List.replicate_succ, List.cons_append, Lib.parseUint10, if_pos (by decide), if_neg (by decide), if_neg (by decide)]
    exact parse_zeros l k
theorem digits_mem (n : Nat) : ∀ c ∈ Lib.decDigits n, 48 ≤ c.toNat ∧ c.toNat ≤ 57 := by
  induction n using Nat.strongRecOn with
  | _ n ih =>
    rw [Lib.decDigits]
    split
    · rename_i h
      intro c hc
      rw [List.mem_singleton.1 hc, digit_nat n h]
      omega
    · rename_i h
      intro c hc
      rcases List.mem_append.1 hc with hc | hc
      · exact ih (n / 10) (by omega) c hc
      · rw [List.mem_singleton.1 hc, digit_nat (n % 10) (by omega)]
        omega
theorem padded_mem (k n : Nat) : ∀ c ∈ padded k n, 48 ≤ c.toNat ∧ c.toNat ≤ 57 := by
  intro c hc
  rcases List.mem_append.1 hc with hc | hc
  · have := List.eq_of_mem_replicate hc
    subst this
    decide
  · exact digits_mem n c hc
theorem atoi_padded (k n : Nat) (hn : n ≤ 9223372036854775807) : Lib.atoiAll (padded k n) = .ok (n : Int) := by
  have hp : Lib.parseUint10 0 (padded k n) = .ok n := by
    unfold padded
    rw [parse_zeros, parse_digits n hn]
  have hne : padded k n ≠ [] := by
    have := digits_pos n
    intro e
    have := congrArg List.length e
    unfold padded at this
    rw [List.length_append, List.length_nil] at this
    omega
  have hm := padded_mem k n
  generalize padded k n = l at hp hne hm
  cases l with
  | nil => exact absurd rfl hne
  | cons c r =>
    have hc := hm c (by simp)
    have h0 : ¬ c.toNat = 43 := by omega
    have h2 : ¬ c.toNat = 45 := by omega
    have hpm : Lib.parseMag (c :: r) = .ok n := by
      unfold Lib.parseMag
      rw [if_neg (by simp)]
      exact hp
    have h3 : ¬ 9223372036854775808 ≤ n := by omega
    simp only [Lib.atoiAll, h0, h2, or_self, if_false, hpm, not_false_eq_true, true_and, false_and, h3]
theorem jnm_inj {g g' : Nat} (h1 : g ≤ 2147483647) (h2 : g' ≤ 2147483647) (h : jnm g = jnm g') : g = g' := by
  unfold jnm at h
  have h3 := congrArg (fun x => x.data.toList) h
  simp at h3
  have a := atoi_padded 6 g (by omega)
  rw [h3, atoi_padded 6 g' (by omega)] at a
  injection a with a
  omega
end Go.Proofs.YtjllkmkngjdjjaaGreatDoor
