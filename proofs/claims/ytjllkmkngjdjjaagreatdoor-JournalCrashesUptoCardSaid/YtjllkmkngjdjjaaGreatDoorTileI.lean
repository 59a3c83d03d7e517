/- PLAIN MATHEMATICS of a tile's path: groups of three digits, from the right or from the left. No program in sight. WALKS of the law ShelfNames. No statement of the seed is proved here. WALKS: a tile's path, the program's and the reference's. No statement of the seed is proved here. A TILE's PATH TELLS ITS INDEX. No statement of the seed is proved here. -/
import Derived.Test.YtjllkmkngjdjjaaGreatDoorNames
import Derived.Test.YtjllkmkngjdjjaaGreatDoorNamesB
import Derived.Deep.RegionHeld3
namespace Go.Proofs.YtjllkmkngjdjjaaGreatDoor

theorem digits_step (n : Nat) (h : 10 ≤ n) : Lib.decDigits n = Lib.decDigits (n / 10) ++ [UInt8.ofNat (48 + n % 10)] := by
  rw [Lib.decDigits, dif_neg (by omega)]
theorem digits_one (n : Nat) (h : n < 10) : Lib.decDigits n = [UInt8.ofNat (48 + n)] := by
  rw [Lib.decDigits, dif_pos h]
theorem padded3 (r : Nat) (h : r < 1000) : padded 3 r = [UInt8.ofNat (48 + r / 100), UInt8.ofNat (48 + r / 10 % 10), UInt8.ofNat (48 + r % 10)] := by
  unfold padded
  by_cases h1 : r < 10
  · rw [digits_one r h1, show r / 100 = 0 by omega, show r / 10 % 10 = 0 by omega, show r % 10 = r by omega]
    rfl
  · rw [digits_step r (by omega)]
    by_cases h2 : r < 100
    · rw [digits_one (r / 10) (by omega), show r / 100 = 0 by omega, show r / 10 % 10 = r / 10 by omega]
      rfl
    · rw [digits_step (r / 10) (by omega), digits_one (r / 10 / 10) (by omega), show r / 10 / 10 = r / 100 by omega]
      rfl
theorem padded3_length (r : Nat) (h : r < 1000) : (padded 3 r).length = 3 := by rw [padded3 r h]; rfl
theorem digits_three (n : Nat) (h : 1000 ≤ n) : Lib.decDigits n = Lib.decDigits (n / 1000) ++ padded 3 (n % 1000) := by
  rw [padded3 _ (Nat.mod_lt _ (by omega)), digits_step n (by omega), digits_step (n / 10) (by omega), digits_step (n / 10 / 10) (by omega)]
  rw [show n / 10 / 10 / 10 = n / 1000 by omega, show n % 1000 / 100 = n / 10 / 10 % 10 by omega, show n % 1000 / 10 % 10 = n / 10 % 10 by omega, show n % 1000 % 10 = n % 10 by omega]
  simp
/-- Digits, with noughts ahead, so many that their number is divisible by three. -/
def mult3 (n : Nat) : List UInt8 := List.replicate ((3 - (Lib.decDigits n).length % 3) % 3) 48 ++ Lib.decDigits n
theorem mult3_small (n : Nat) (h : n < 1000) : mult3 n = padded 3 n := by
  unfold mult3 padded
  have h1 := digits_pos n
  have h2 := digits_le 2 n (by omega)
  congr 2
  omega
theorem mult3_step (n : Nat) (h : 1000 ≤ n) : mult3 n = mult3 (n / 1000) ++ padded 3 (n % 1000) := by
  unfold mult3
  have hl : (Lib.decDigits n).length = (Lib.decDigits (n / 1000)).length + 3 := by
    rw [digits_three n h, List.length_append, padded3_length _ (Nat.mod_lt _ (by omega))]
  rw [hl, Nat.add_mod_right, digits_three n h, List.append_assoc]
/-- Groups of three, each but the last with x ahead and / behind. -/
def cut3 (s : List UInt8) : List UInt8 := if h : 3 < s.length then 120 :: s.take 3 ++ 47 :: cut3 (s.drop 3) else s
termination_by s.length
decreasing_by simp; omega
theorem cut3_short (s : List UInt8) (h : s.length ≤ 3) : cut3 s = s := by rw [cut3, dif_neg (by omega)]
theorem cut3_long (p t : List UInt8) (hp : p.length = 3) (ht : 1 ≤ t.length) : cut3 (p ++ t) = 120 :: p ++ 47 :: cut3 t := by
  rw [cut3, dif_pos (by simp; omega)]
  rw [← hp, List.take_left, List.drop_left]
theorem cut3_le : ∀ (k : Nat) (s : List UInt8), s.length ≤ k → (cut3 s).length ≤ 2 * s.length := by
  intro k
  induction k with
  | zero => intro s h; rw [cut3_short s (by omega)]; omega
  | succ k ih =>
    intro s h
    rw [cut3]
    split
    · have := ih (s.drop 3) (by simp; omega)
      simp only [List.length_append, List.length_cons, List.length_take, List.length_drop] at this ⊢
      omega
    · omega
/-- Groups of three, from the right. -/
def groups (n : Nat) : List UInt8 := if h : n = 0 then [] else groups (n / 1000) ++ (120 :: padded 3 (n % 1000) ++ [47])
termination_by n
decreasing_by omega
theorem groups_zero : groups 0 = [] := by rw [groups]; rfl
theorem groups_step (n : Nat) (h : 0 < n) : groups n = groups (n / 1000) ++ (120 :: padded 3 (n % 1000) ++ [47]) := by rw [groups, dif_neg (by omega)]
def pathL (i : Nat) : List UInt8 := groups (i / 1000) ++ padded 3 (i % 1000)
theorem cut3_groups : ∀ (k n : Nat) (t : List UInt8), n ≤ k → 0 < n → 1 ≤ t.length → cut3 (mult3 n ++ t) = groups n ++ cut3 t := by
  intro k
  induction k with
  | zero => intro n t h1 h2; omega
  | succ k ih =>
    intro n t h1 h2 ht
    by_cases hs : n < 1000
    · rw [mult3_small n hs, cut3_long _ _ (padded3_length n hs) ht, groups_step n h2, show n / 1000 = 0 by omega, groups_zero, show n % 1000 = n by omega]
      simp
    · rw [mult3_step n (by omega), List.append_assoc, ih (n / 1000) _ (by omega) (by omega) (by simp; omega), cut3_long _ _ (padded3_length _ (Nat.mod_lt _ (by omega))) ht, groups_step n h2]
      simp
theorem cut3_mult3 (i : Nat) : cut3 (mult3 i) = pathL i := by
  unfold pathL
  by_cases hs : i < 1000
  · rw [mult3_small i hs, cut3_short _ (by rw [padded3_length i hs]; omega), show i / 1000 = 0 by omega, groups_zero, show i % 1000 = i by omega]
    rfl
  · rw [mult3_step i (by omega), cut3_groups (i / 1000) _ _ (Nat.le_refl _) (by omega) (by rw [padded3_length _ (Nat.mod_lt _ (by omega))]; omega), cut3_short _ (by rw [padded3_length _ (Nat.mod_lt _ (by omega))]; omega)]
theorem mult3_le (i : Nat) (h : i ≤ 9223372036854775807) : (mult3 i).length ≤ 21 := by
  have := digits_le19 i h
  unfold mult3
  rw [List.length_append, List.length_replicate]
  omega
theorem pathL_le (i : Nat) (h : i ≤ 9223372036854775807) : (pathL i).length ≤ 42 := by
  rw [← cut3_mult3]
  have := cut3_le _ (mult3 i) (Nat.le_refl _)
  have := mult3_le i h
  omega
end Go.Proofs.YtjllkmkngjdjjaaGreatDoor
namespace Go.Proofs.YtjllkmkngjdjjaaGreatDoor
open Go.RowKit
set_option maxRecDepth 100000

theorem str_take (l : List UInt8) (k : Nat) : (⟨l.toArray⟩ : ByteArray).extract 0 k = ⟨(l.take k).toArray⟩ := by
  apply ByteArray.ext
  simp
theorem str_drop (l : List UInt8) (k : Nat) : (⟨l.toArray⟩ : ByteArray).extract k l.length = ⟨(l.drop k).toArray⟩ := by
  apply ByteArray.ext
  simp
  rw [List.take_of_length_le (by simp)]

/-- The reference's path of an index. -/
theorem rindex_calls (i : Nat) (hi : i ≤ 9223372036854775807) (w : World) : Calls Tryz.prog 195 #[.int .i64 (i : Int)] w fun e w' => e = .returned (.string ⟨(pathL i).toArray⟩) ∧ Below w.heap.size w w' := by
  have KI := Lib.hid (digits_calls i i rfl hi w)
  have HP : Hid (mult3 i = List.replicate ((3 - (Lib.decDigits i).length % 3) % 3) 48 ++ Lib.decDigits i) := rfl
  have hl := digits_le19 i hi
  have HC := Lib.hid (cut3_mult3 i)
  have hm := mult3_le i hi
  generalize Lib.decDigits i = d at KI HP hl
  go_enter Tryz.func195, Tryz.ntmps195
  go_wp2_with (go_at_call 159; refine KI.out.mono ?_; rintro e w1 ⟨rfl, hB1⟩)
  go_loop [3] (fun s => ∃ j, j ≤ (3 - d.length % 3) % 3 ∧ s = .string ⟨(List.replicate j 48 ++ d).toArray⟩) (fun s => 40 - strLen s)
  case atStart => exact ⟨0, by omega, by simp⟩
  case round =>
    obtain ⟨j, hj, rfl⟩ := hrel
    have hq : (List.replicate j 48 ++ d).length = j + d.length := by simp
    have hn : List.replicate (j + 1) 48 ++ d = 48 :: (List.replicate j 48 ++ d) := by rw [List.replicate_succ]; rfl
    have HN := Lib.hid hn; clear hn
    have hfin : (j + d.length) % 3 = 0 → List.replicate j 48 ++ d = mult3 i := fun h => by
      rw [HP.out]
      congr 2
      omega
    have HF := Lib.hid hfin; clear hfin
    generalize List.replicate j 48 ++ d = l at HN HF hq
    by_cases hlt : l.length % 3 = 0
    · have hs := HF.out (by omega)
      clear HF HN hq
      subst hs
      have HL := Lib.hid hm; clear hm
      have ht : (((mult3 i).length : Int) % 3 != 0) = false := by simp; omega
      go_wp2
      go_loop [3, 4] (fun s o => ∃ out l, o = .string ⟨out.toArray⟩ ∧ s = .string ⟨l.toArray⟩ ∧ out ++ cut3 l = pathL i ∧ out.length + 2 * l.length ≤ 60) (fun s _ => strLen s)
      case atStart => exact ⟨[], mult3 i, rfl, rfl, HC.out, by have := HL.out; simp; omega⟩
      case round =>
        obtain ⟨out, l, rfl, rfl, hx, hb⟩ := hrel
        by_cases h3 : 3 < l.length
        · have hp : (l.take 3).length = 3 := by simp; omega
          have ht3 : (l.drop 3).length = l.length - 3 := by simp
          have hc : cut3 l = 120 :: l.take 3 ++ 47 :: cut3 (l.drop 3) := by
            conv => lhs; rw [← List.take_append_drop 3 l]
            exact cut3_long _ _ hp (by omega)
          rw [hc] at hx
          have HX := Lib.hid hx; clear hx hc
          have hx1 := str_take l 3
          have hx2 := str_drop l 3
          generalize l.take 3 = p at hp HX hx1
          generalize l.drop 3 = t at ht3 HX hx2
          have hlq : l.toArray.size = l.length := by simp
          go_wp2
          go_round
          case rel =>
            refine ⟨out ++ [120] ++ p ++ [47], t, ?_, rfl, ?_, ?_⟩
            · rw [← str_tail, ← str_tail, ← str_tail]
            · rw [← HX.out]; simp
            · simp; omega
          case measure =>
            show t.toArray.size < l.toArray.size
            simp
            omega
        · rw [cut3_short l (by omega)] at hx
          have HX := Lib.hid hx; clear hx
          go_wp2
          go_ret
          exact ⟨by rw [← HX.out, ← str_tail]; rfl, hB1⟩
    · have e1 : (⟨#[48]⟩ ++ ⟨l.toArray⟩ : ByteArray) = ⟨(48 :: l).toArray⟩ := str_cat [48] l _ rfl
      have ht : ((l.length : Int) % 3 != 0) = true := by simp; omega
      go_wp2
      go_round
      case rel => exact ⟨j + 1, by omega, by rw [HN.out, ← e1]⟩
      case measure =>
        show 40 - (48 :: l).toArray.size < 40 - l.toArray.size
        simp
        omega
/-- Of an index in full tiles of a height at a level: does it stand? -/
def standsT (lv h i : Nat) : Bool := decide (i * 2 ^ h + 2 ^ h - 1 < 281474976710656 / 2 ^ lv)
theorem nvalid (lv ix : Nat) (a b : Int) (ha : a = (lv : Int)) (hb : b = (ix : Int)) (h : lv ≤ 48) (hx : ix ≤ 9223372036854775807) (w : World) :
    Calls Tryz.prog 77 #[.agg #[.int .i64 a, .int .i64 b]] w fun e w' => e = .returned (.bool (decide (ix < 281474976710656 / 2 ^ lv))) ∧ Below w.heap.size w w' := by
  subst ha hb
  have q1 : decide (0 ≤ (lv : Int)) = true := by simp
  have q2 : decide ((lv : Int) ≤ 48) = true := by simp; omega
  have q3 : decide (0 ≤ (ix : Int)) = true := by simp
  by_cases hlt : ix < 281474976710656 / 2 ^ lv
  · have q4 : decide ((ix : Int) < 281474976710656 / 2 ^ lv) = true := by
      rw [decide_eq_true_iff]
      have : ((281474976710656 / 2 ^ lv : Nat) : Int) = 281474976710656 / 2 ^ lv := by simp
      omega
    have q5 : decide (ix < 281474976710656 / 2 ^ lv) = true := by simpa using hlt
    rw [q5]
    clear hlt
    go_enter Tryz.func77, Tryz.ntmps77
    go_wp2
    go_region_with fail
    all_goals go_wp2
    all_goals (go_ret; exact ⟨by first | rfl | simp, (below_alloc1 _ _).drew⟩)
  · have q4 : decide ((ix : Int) < 281474976710656 / 2 ^ lv) = false := by
      rw [decide_eq_false_iff_not]
      have : ((281474976710656 / 2 ^ lv : Nat) : Int) = 281474976710656 / 2 ^ lv := by simp
      omega
    have q5 : decide (ix < 281474976710656 / 2 ^ lv) = false := by simpa using hlt
    rw [q5]
    clear hlt
    go_enter Tryz.func77, Tryz.ntmps77
    go_wp2
    go_region_with fail
    all_goals go_wp2
    all_goals (go_ret; exact ⟨by first | rfl | simp, (below_alloc1 _ _).drew⟩)
end Go.Proofs.YtjllkmkngjdjjaaGreatDoor
namespace Go.Proofs.YtjllkmkngjdjjaaGreatDoor
open Go.RowKit
set_option maxRecDepth 100000

def tileW : List UInt8 := [116, 105, 108, 101, 47]
def partW : List UInt8 := [46, 112, 47]
/-- P10.1. -/
def tpath (h l i wd : Nat) : List UInt8 := tileW ++ Lib.decDigits h ++ [47] ++ Lib.decDigits l ++ [47] ++ pathL i ++ (if wd < 2 ^ h then partW ++ Lib.decDigits wd else [])

theorem path_bad (h l i wd : Int) (hv : tileV h l i wd = false) (w : World) :
    Calls Tryz.prog 72 #[.agg #[.int .i64 h, .int .i64 l, .int .i64 i, .int .i64 wd]] w fun e w' => e = .returned (.tuple #[.string ⟨#[]⟩, .int .i64 2]) ∧ Below w.heap.size w w' := by
  have K := fun w1 => Lib.hid (tile_valid h l i wd w1)
  rw [hv] at K
  clear hv
  have hb := below_alloc1 w (.cells #[.int .i64 h, .int .i64 l, .int .i64 i, .int .i64 wd] 69)
  go_enter Tryz.func72, Tryz.ntmps72
  go_wp2_with (go_at_call 94; refine (K _).out.mono ?_; rintro e w1 ⟨rfl, hB1⟩)
  go_ret2
  exact ⟨rfl, below_then hb hB1⟩
/-- A block that holds just these cells. -/
def Box (w : World) (b : Nat) (cs : Array Value) : Prop := ∃ t, w.heap[b]? = some (.cells cs t)
theorem Box.new (w : World) (cs : Array Value) (t : TypeId) : Box (w.alloc (.cells cs t)) w.heap.size cs := ⟨t, heap_alloc_new w _⟩
theorem Box.below {w w1 : World} {b : Nat} {cs : Array Value} (h : Box w b cs) (hb : Below w.heap.size w w1) : Box w1 b cs := by
  obtain ⟨t, h⟩ := h
  exact ⟨t, (hb.block b (Array.getElem?_eq_some_iff.1 h).1).trans h⟩
theorem Box.cell {w : World} {b : Nat} {cs : Array Value} (h : Box w b cs) (j : Nat) {v : Value} (hv : cs[j]? = some v) : w.cell? ⟨b, j, none⟩ = some v := by
  obtain ⟨t, h⟩ := h
  rw [cell_of_row _ b j _ _ (0, 0) h]
  exact hv
theorem Box.four {w : World} {b : Nat} {x0 x1 x2 x3 : Value} (h : Box w b #[x0, x1, x2, x3]) :
    w.cell? ⟨b, 0, none⟩ = some x0 ∧ w.cell? ⟨b, 1, none⟩ = some x1 ∧ w.cell? ⟨b, 2, none⟩ = some x2 ∧ w.cell? ⟨b, 3, none⟩ = some x3 :=
  ⟨h.cell 0 rfl, h.cell 1 rfl, h.cell 2 rfl, h.cell 3 rfl⟩
theorem padded3_eq (n : Nat) : padded 3 n = List.replicate (3 - (Lib.decDigits n).length) 48 ++ Lib.decDigits n := rfl
theorem digits3 (n : Nat) (h : n < 1000) : (Lib.decDigits n).length ≤ 3 := digits_le 2 n h
theorem tileV_small (h l i wd : Nat) (hv : tileV h l i wd = true) : i ≤ 281474976710656 ∧ h ≤ 8 ∧ l ≤ 48 ∧ wd ≤ 256 := by
  unfold tileV at hv
  rw [decide_eq_true_eq] at hv
  obtain ⟨a1, a2, a3, a4, a5, a6, a7, a8⟩ := hv
  rw [Int.toNat_natCast] at a7 a8
  have hp0 : (1 : Int) ≤ 2 ^ h := Int.add_one_le_of_lt (Int.pow_pos (by omega))
  have hp : (2 : Int) ^ h ≤ 256 := by
    have := Nat.pow_le_pow_right (show 0 < 2 by omega) (show h ≤ 8 by omega)
    have e : ((2 ^ h : Nat) : Int) = 2 ^ h := by simp
    omega
  have h1 : (281474976710656 : Int) / 2 ^ ((l : Int) * h).toNat ≤ 281474976710656 := Int.ediv_le_self _ (by omega)
  have h2 : (i : Int) * 1 ≤ i * 2 ^ h := Int.mul_le_mul_of_nonneg_left hp0 (by omega)
  have h3 : (l : Int) * 1 ≤ l * h := Int.mul_le_mul_of_nonneg_left (by omega) (by omega)
  omega
theorem cat_run (x y : List UInt8) (n m : Nat) (hx : x.length ≤ n) (hy : y.length ≤ m) (hn : n ≤ 8388608) (hm : m ≤ 8388608) :
    ∃ s, Hid (s = x ++ y) ∧ s.length ≤ n + m ∧ ∀ w, (Op.stringOp .add ⟨x.toArray⟩ ⟨y.toArray⟩).run Tryz.prog w = .ok (.string ⟨s.toArray⟩) w :=
  ⟨x ++ y, rfl, by simp; omega, fun w => run_string_add_lists w x y (by omega) (by omega)⟩
set_option maxHeartbeats 2000000 in
theorem path_ok (h l i wd : Nat) (hv : tileV h l i wd = true) (w : World) (htab : Lib.TabIs Tryz.prog w "internal/strconv.uint64pow10" .u64 Lib.pow10Tab) :
    Calls Tryz.prog 72 #[.agg #[.int .i64 (h : Int), .int .i64 (l : Int), .int .i64 (i : Int), .int .i64 (wd : Int)]] w fun e w' => e = .returned (.tuple #[.string ⟨(tpath h l i wd).toArray⟩, .int .i64 0]) ∧ Below w.heap.size w w' := by
  have K := fun w1 => Lib.hid (tile_valid h l i wd w1)
  rw [hv] at K
  obtain ⟨hi, h8, hl8, hw8⟩ := tileV_small h l i wd hv
  have hb := below_alloc1 w (.cells #[.int .i64 h, .int .i64 l, .int .i64 i, .int .i64 wd] 69)
  have hx := Box.new w #[.int .i64 h, .int .i64 l, .int .i64 i, .int .i64 wd] 69
  have tok1 : True := trivial
  have tok2 : True := trivial
  have hd3 := digits3 (i % 1000) (Nat.mod_lt _ (by omega))
  have HP := Lib.hid (padded3_eq (i % 1000))
  have KI := fun {w1 : World} (hb : Below w.heap.size w w1) => Lib.hid (itoa_calls (i % 1000) _ rfl (by omega) w1 (tab_below htab hb))
  generalize Lib.decDigits (i % 1000) = d at hd3 HP KI
  go_enter Tryz.func72, Tryz.ntmps72
  go_wp2_with (first
    | (go_at_call 94; refine (K _).out.mono ?_; rintro e w1 ⟨rfl, hB1⟩; have hx1 := hx.below hB1; obtain ⟨c0, c1, c2, c3⟩ := hx1.four; have hb1 := below_then hb hB1)
    | (go_at_call 137; have _t := tok1; refine (KI hb1).out.mono ?_; clear tok1; rintro e w2 ⟨rfl, hB2⟩; have hx2 := hx1.below hB2; have hb2 := below_then hb1 hB2)
    | (go_at_call 138; refine (noughts_calls (3 - d.length) _ ?_ (by omega) _).mono ?_; (· omega); rintro e w3 ⟨rfl, hB3⟩; have hx3 := hx2.below hB3; obtain ⟨f0, f1, f2, f3⟩ := hx3.four; have hb3 := below_then hb2 hB3)
    | fail)
  have HG : Hid (groups (i / 1000) ++ (List.replicate (3 - d.length) 48 ++ d) = pathL i) := by rw [← HP.out]; rfl
  have hpl := pathL_le i (by omega)
  have e1 : (⟨Array.replicate (3 - d.length) 48⟩ ++ ⟨d.toArray⟩ : ByteArray) = ⟨(List.replicate (3 - d.length) 48 ++ d).toArray⟩ := by rw [← str_tail]; simp
  rw [e1]
  clear e1 hx hb hb1 hb2 hx1 hx2 c0 c1 c2 c3 f0 f1 f2 f3 hd3 HP KI hB1 hB2 hB3
  generalize List.replicate (3 - d.length) 48 ++ d = a0 at HG
  generalize hN : i / 1000 = n0 at HG
  have hN2 : (i : Int) / 1000 = (n0 : Int) := by omega
  have HN := Lib.hid hN; clear hN
  rw [hN2]
  clear hN2
  go_loopw [4, 5] (fun s m wr => ∃ (n : Nat) (a : List UInt8), n ≤ 281474976710656 ∧ m = .int .i64 (n : Int) ∧ s = .string ⟨a.toArray⟩ ∧ groups n ++ a = pathL i ∧ Box wr w.heap.size #[.int .i64 (h : Int), .int .i64 (l : Int), .int .i64 (i : Int), .int .i64 (wd : Int)] ∧ Below w.heap.size w wr) (fun _ m _ => (intOf m).toNat)
  case atStart => exact ⟨n0, a0, by have := HN.out; omega, rfl, rfl, HG.out, hx3, hb3⟩
  case round =>
    obtain ⟨n, a, hn, rfl, rfl, hg, hxr, hbr⟩ := hrel
    have hal : a.length ≤ 42 := by
      have := congrArg List.length hg
      rw [List.length_append] at this
      omega
    have HG2 := Lib.hid hg; clear hg
    clear HG hx3 hb3 K
    by_cases hlt : 0 < n
    · have hd3 := digits3 (n % 1000) (Nat.mod_lt _ (by omega))
      have HP := Lib.hid (padded3_eq (n % 1000))
      have KI := Lib.hid (itoa_calls (n % 1000) _ rfl (by omega) wr (tab_below htab hbr))
      have HS := Lib.hid (groups_step n hlt)
      generalize Lib.decDigits (n % 1000) = d at hd3 HP KI
      go_wp2_with (first
        | (go_at_call 137; refine KI.out.mono ?_; rintro e w2 ⟨rfl, hB2⟩; have hx2 := hxr.below hB2; have hb2 := below_then hbr hB2)
        | (go_at_call 138; refine (noughts_calls (3 - d.length) _ ?_ (by omega) _).mono ?_; (· omega); rintro e w3 ⟨rfl, hB3⟩; have hx3 := hx2.below hB3; have hb3 := below_then hb2 hB3)
        | fail)
      go_roundw
      case rel =>
        refine ⟨n / 1000, 120 :: (List.replicate (3 - d.length) 48 ++ d) ++ 47 :: a, by omega, by go_num, ?_, ?_, hx3, hb3⟩
        · have e0 : (⟨Array.replicate (3 - d.length) 48⟩ : ByteArray) = ⟨(List.replicate (3 - d.length) 48).toArray⟩ := by simp
          have e2 : (⟨#[120]⟩ : ByteArray) = ⟨[120].toArray⟩ := rfl
          have e3 : (⟨#[47]⟩ : ByteArray) = ⟨[47].toArray⟩ := rfl
          rw [e0, e2, e3, str_tail, str_tail, str_tail, str_tail]
          simp
        · rw [← HG2.out, HS.out, ← HP.out]; simp
      case measure => simp [intOf]; omega
    · have hn0 : n = 0 := by omega
      subst hn0
      have hg2 := HG2.out
      rw [groups_zero, List.nil_append] at hg2
      subst hg2
      clear HG2
      have KH := fun {w1 : World} (hb : Below w.heap.size w w1) => Lib.hid (itoa_calls h _ rfl (by omega) w1 (tab_below htab hb))
      have KL := fun {w1 : World} (hb : Below w.heap.size w w1) => Lib.hid (itoa_calls l _ rfl (by omega) w1 (tab_below htab hb))
      have HT : Hid (tpath h l i wd = tileW ++ Lib.decDigits h ++ [47] ++ Lib.decDigits l ++ [47] ++ pathL i ++ (if wd < 2 ^ h then partW ++ Lib.decDigits wd else [])) := rfl
      have hdh := digits3 h (by omega)
      have hdl := digits3 l (by omega)
      generalize Lib.decDigits h = dh at KH HT hdh
      generalize Lib.decDigits l = dl at KL HT hdl
      generalize pathL i = pi at HT hpl hal
      have hp : (2 : Int) ^ h ≤ 256 := by
        have := Nat.pow_le_pow_right (show 0 < 2 by omega) h8
        have e : ((2 ^ h : Nat) : Int) = 2 ^ h := by simp
        omega
      have hp0 : (0 : Int) ≤ 2 ^ h := Int.pow_nonneg (by omega)
      have q6b : IntKind.i64.wrap ((2 : Int) ^ h) = 2 ^ h := by rw [IntKind.wrap_i64]; omega
      obtain ⟨c0, c1, c2, c3⟩ := hxr.four
      have HTAB := Lib.hid htab; clear htab
      obtain ⟨s1, hs1, n1, k1⟩ := cat_run [116, 105, 108, 101, 47] dh 5 3 (by simp) (by omega) (by omega) (by omega)
      obtain ⟨s2, hs2, n2, k2⟩ := cat_run s1 [47] _ 1 n1 (by simp) (by omega) (by omega)
      obtain ⟨s3, hs3, n3, k3⟩ := cat_run s2 dl _ 3 n2 (by omega) (by omega) (by omega)
      obtain ⟨s4, hs4, n4, k4⟩ := cat_run s3 [47] _ 1 n3 (by simp) (by omega) (by omega)
      obtain ⟨s5, hs5, n5, k5⟩ := cat_run s4 pi _ 42 n4 (by omega) (by omega) (by omega)
      go_wp2_with fail
      go_region_held3 (fun w' => w'.cell? ⟨w.heap.size, 0, none⟩ = some (.int .i64 (h : Int)) ∧ w'.cell? ⟨w.heap.size, 1, none⟩ = some (.int .i64 (l : Int))) (go_keep)
        (first
          | (go_at_call 137; have _t := tok2; refine (KH (w1 := wr.drew) (hbr.drew)).out.mono ?_; clear tok2; rintro e w2 ⟨rfl, hB2⟩; have hb2 := hbr.drew.trans (hB2.mono hbr.size); obtain ⟨f0, f1, f2, f3⟩ := (hxr.below ((Below.refl _ _).drew.trans hB2)).four)
          | (go_at_call 137; refine (KL hb2).out.mono ?_; rintro e w3 ⟨rfl, hB3⟩; have hb3 := below_then hb2 hB3; obtain ⟨g0, g1, g2, g3⟩ := ((hxr.below ((Below.refl _ _).drew.trans hB2)).below hB3).four))
      have HT5 : Hid (tpath h l i wd = s5 ++ (if wd < 2 ^ h then partW ++ Lib.decDigits wd else [])) := by rw [HT.out, hs5.out, hs4.out, hs3.out, hs2.out, hs1.out]; rfl
      clear HT k1 k2 k3 k4 k5 hs1 hs2 hs3 hs4 hs5
      go_wp2_with fail
      have hb4 : ∀ n, Below w.heap.size w (w3.drewN n) := fun n => below_drewN hb3 n
      by_cases hw : wd < 2 ^ h
      · have HT6 : Hid (tpath h l i wd = s5 ++ (partW ++ Lib.decDigits wd)) := by rw [HT5.out, if_pos hw]; rfl
        have qw : decide ((wd : Int) < 2 ^ h) = true := by
          rw [decide_eq_true_eq]
          have e : ((2 ^ h : Nat) : Int) = 2 ^ h := by simp
          omega
        clear HT5 hp hp0 hw
        go_quiet (fail)
        have KW := Lib.hid (itoa_calls wd _ rfl (by omega) (w3.drewN nq) (tab_below HTAB.out (hb4 nq)))
        have hdw := digits3 wd (by omega)
        generalize Lib.decDigits wd = dw at KW HT6 hdw
        go_wp2_with (go_at_call 137; refine KW.out.mono ?_; rintro e w5 ⟨rfl, hB5⟩)
        go_ret2
        refine ⟨?_, below_then (hb4 nq) hB5⟩
        rw [HT6.out, ← str_tail, ← str_tail]
        first | rfl | (congr 4)
      · have HT6 : Hid (tpath h l i wd = s5) := by rw [HT5.out, if_neg hw, List.append_nil]; rfl
        have qw : decide ((wd : Int) < 2 ^ h) = false := by
          rw [decide_eq_false_iff_not]
          have e : ((2 ^ h : Nat) : Int) = 2 ^ h := by simp
          omega
        clear HT5 hp hp0 hw
        go_quiet (fail)
        go_wp2
        go_ret2
        exact ⟨by rw [HT6.out]; rfl, hb4 nq⟩
theorem rpath_bad (h l i wd : Int) (hv : tileV h l i wd = false) (w : World) :
    Calls Tryz.prog 143 #[.agg #[.int .i64 h, .int .i64 l, .int .i64 i, .int .i64 wd]] w fun e w' => e = .returned (.tuple #[.string ⟨#[]⟩, .int .i64 2]) ∧ Below w.heap.size w w' := by
  have K := fun w1 => Lib.hid (rtile_valid h l i wd w1)
  rw [hv] at K
  clear hv
  have hb := below_alloc1 w (.cells #[.int .i64 h, .int .i64 l, .int .i64 i, .int .i64 wd] 69)
  go_enter Tryz.func143, Tryz.ntmps143
  go_wp2_with (go_at_call 97; refine (K _).out.mono ?_; rintro e w1 ⟨rfl, hB1⟩)
  go_ret2
  exact ⟨rfl, below_then hb hB1⟩
theorem rfull_n (h : Nat) (h8 : h ≤ 8) (a : Int) (ha : a = (h : Int)) (w : World) : Calls Tryz.prog 87 #[.int .i64 a] w fun e w' => e = .returned (.int .i64 (2 ^ h)) ∧ w = w' := by
  subst ha; exact (rfull h h8 w).mono fun _ _ ⟨a, b⟩ => ⟨a, b.symm⟩
set_option maxHeartbeats 2000000 in
theorem rpath_ok (h l i wd : Nat) (hv : tileV h l i wd = true) (w : World) :
    Calls Tryz.prog 143 #[.agg #[.int .i64 (h : Int), .int .i64 (l : Int), .int .i64 (i : Int), .int .i64 (wd : Int)]] w fun e w' => e = .returned (.tuple #[.string ⟨(tpath h l i wd).toArray⟩, .int .i64 0]) ∧ Below w.heap.size w w' := by
  have K := fun w1 => Lib.hid (rtile_valid h l i wd w1)
  rw [hv] at K
  obtain ⟨hi, h8, hl8, hw8⟩ := tileV_small h l i wd hv
  have hb := below_alloc1 w (.cells #[.int .i64 h, .int .i64 l, .int .i64 i, .int .i64 wd] 69)
  have hx := Box.new w #[.int .i64 h, .int .i64 l, .int .i64 i, .int .i64 wd] 69
  have hpl := pathL_le i (by omega)
  have KH := fun w1 => Lib.hid (digits_calls h _ rfl (by omega) w1)
  have KL := fun w1 => Lib.hid (digits_calls l _ rfl (by omega) w1)
  have KI := fun w1 => Lib.hid (rindex_calls i (by omega) w1)
  have HT : Hid (tpath h l i wd = tileW ++ Lib.decDigits h ++ [47] ++ Lib.decDigits l ++ [47] ++ pathL i ++ (if wd < 2 ^ h then partW ++ Lib.decDigits wd else [])) := rfl
  have hdh := digits3 h (by omega)
  have hdl := digits3 l (by omega)
  generalize Lib.decDigits h = dh at KH HT hdh
  generalize Lib.decDigits l = dl at KL HT hdl
  generalize pathL i = pi at HT hpl KI
  obtain ⟨s1, hs1, n1, k1⟩ := cat_run [116, 105, 108, 101, 47] dh 5 3 (by simp) (by omega) (by omega) (by omega)
  obtain ⟨s2, hs2, n2, k2⟩ := cat_run s1 [47] _ 1 n1 (by simp) (by omega) (by omega)
  obtain ⟨s3, hs3, n3, k3⟩ := cat_run s2 dl _ 3 n2 (by omega) (by omega) (by omega)
  obtain ⟨s4, hs4, n4, k4⟩ := cat_run s3 [47] _ 1 n3 (by simp) (by omega) (by omega)
  obtain ⟨s5, hs5, n5, k5⟩ := cat_run s4 pi _ 42 n4 (by omega) (by omega) (by omega)
  have HT5 : Hid (tpath h l i wd = s5 ++ (if wd < 2 ^ h then partW ++ Lib.decDigits wd else [])) := by rw [HT.out, hs5.out, hs4.out, hs3.out, hs2.out, hs1.out]; rfl
  clear HT hs1 hs2 hs3 hs4 hs5
  have tok2 : True := trivial
  go_enter Tryz.func143, Tryz.ntmps143
  go_wp2_with (go_at_call 97; refine (K _).out.mono ?_; rintro e w1 ⟨rfl, hB1⟩; have hx1 := hx.below hB1; obtain ⟨c0, c1, c2, c3⟩ := hx1.four; have hb1 := below_then hb hB1)
  go_region_held3 (fun w' => w'.cell? ⟨w.heap.size, 0, none⟩ = some (.int .i64 (h : Int)) ∧ w'.cell? ⟨w.heap.size, 1, none⟩ = some (.int .i64 (l : Int)) ∧ w'.cell? ⟨w.heap.size, 2, none⟩ = some (.int .i64 (i : Int))) (go_keep)
    (first
      | (go_at_call 159; have _t := tok2; refine (KH w1.drew).out.mono ?_; clear tok2; rintro e w2 ⟨rfl, hB2⟩; have hb2 := hb1.drew.trans (hB2.mono hb1.size); have hx2 := hx1.below ((Below.refl _ _).drew.trans hB2); obtain ⟨f0, f1, f2, f3⟩ := hx2.four)
      | (go_at_call 159; refine (KL w2).out.mono ?_; rintro e w3 ⟨rfl, hB3⟩; have hb3 := below_then hb2 hB3; have hx3 := hx2.below hB3; obtain ⟨g0, g1, g2, g3⟩ := hx3.four)
      | (go_at_call 195; refine (KI w3).out.mono ?_; rintro e w4 ⟨rfl, hB4⟩; have hb4 := below_then hb3 hB4; have hx4 := hx3.below hB4; obtain ⟨j0, j1, j2, j3⟩ := hx4.four))
  clear c0 c1 c2 c3 f0 f1 f2 f3 g0 g1 g2 g3 k1 k2 k3 k4 k5
  go_wp2_with fail
  have hb5 : ∀ n, Below w.heap.size w (w4.drewN n) := fun n => below_drewN hb4 n
  by_cases hw : wd < 2 ^ h
  · have HT6 : Hid (tpath h l i wd = s5 ++ (partW ++ Lib.decDigits wd)) := by rw [HT5.out, if_pos hw]; rfl
    have qw : decide ((wd : Int) < 2 ^ h) = true := by
      rw [decide_eq_true_eq]
      have e : ((2 ^ h : Nat) : Int) = 2 ^ h := by simp
      omega
    clear HT5 hw
    go_quiet ((go_at_call 87; exact Calls.quiet_of_same (rfull h h8 _)))
    have KW := Lib.hid (digits_calls wd _ rfl (by omega) (w4.drewN nq))
    have hdw := digits3 wd (by omega)
    generalize Lib.decDigits wd = dw at KW HT6 hdw
    go_wp2_with (go_at_call 159; refine KW.out.mono ?_; rintro e w5 ⟨rfl, hB5⟩)
    go_ret2
    refine ⟨?_, below_then (hb5 nq) hB5⟩
    rw [HT6.out, ← List.append_assoc, ← str_tail, ← str_tail]
    rfl
  · have HT6 : Hid (tpath h l i wd = s5) := by rw [HT5.out, if_neg hw, List.append_nil]; rfl
    have qw : decide ((wd : Int) < 2 ^ h) = false := by
      rw [decide_eq_false_iff_not]
      have e : ((2 ^ h : Nat) : Int) = 2 ^ h := by simp
      omega
    clear HT5 hw
    go_quiet ((go_at_call 87; exact Calls.quiet_of_same (rfull h h8 _)))
    go_wp2
    go_ret2
    exact ⟨by rw [HT6.out]; rfl, hb5 nq⟩
end Go.Proofs.YtjllkmkngjdjjaaGreatDoor
namespace Go.Proofs.YtjllkmkngjdjjaaGreatDoor
open Go.RowKit
theorem padded3_inj {a b : Nat} (ha : a < 1000) (hb : b < 1000) (h : padded 3 a = padded 3 b) : a = b := by
  rw [padded3 a ha, padded3 b hb] at h
  simp only [List.cons.injEq, and_true] at h
  obtain ⟨h1, h2, h3⟩ := h
  have k1 := congrArg UInt8.toNat h1
  have k2 := congrArg UInt8.toNat h2
  have k3 := congrArg UInt8.toNat h3
  simp only [UInt8.toNat_ofNat'] at k1 k2 k3
  omega
theorem groups_inj : ∀ (k n m : Nat), n ≤ k → groups n = groups m → n = m
  | 0, n, m, hn, h => by
    have : n = 0 := by omega
    subst this
    rcases Nat.eq_zero_or_pos m with e | e
    · exact e.symm
    · rw [groups_zero, groups_step m e] at h
      have := congrArg List.length h
      simp at this
  | k + 1, n, m, hn, h => by
    rcases Nat.eq_zero_or_pos n with e | e
    · subst e
      rcases Nat.eq_zero_or_pos m with e | e
      · exact e.symm
      · rw [groups_zero, groups_step m e] at h
        have := congrArg List.length h
        simp at this
    · rcases Nat.eq_zero_or_pos m with e2 | e2
      · subst e2
        rw [groups_zero, groups_step n e] at h
        have := congrArg List.length h
        simp at this
      · rw [groups_step n e, groups_step m e2] at h
        have l1 := padded3_length (n % 1000) (Nat.mod_lt _ (by omega))
        have l2 := padded3_length (m % 1000) (Nat.mod_lt _ (by omega))
        obtain ⟨h1, h2⟩ := List.append_inj' h (by simp [l1, l2])
        have h3 := groups_inj k (n / 1000) (m / 1000) (by omega) h1
        simp only [List.cons_append, List.cons.injEq, true_and] at h2
        have h4 := padded3_inj (Nat.mod_lt n (by omega)) (Nat.mod_lt m (by omega)) (List.append_cancel_right h2)
        omega
theorem pathL_inj {i j : Nat} (h : pathL i = pathL j) : i = j := by
  unfold pathL at h
  have l1 := padded3_length (i % 1000) (Nat.mod_lt _ (by omega))
  have l2 := padded3_length (j % 1000) (Nat.mod_lt _ (by omega))
  obtain ⟨h1, h2⟩ := List.append_inj' h (by rw [l1, l2])
  have h3 := groups_inj _ _ _ (Nat.le_refl _) h1
  have h4 := padded3_inj (Nat.mod_lt i (by omega)) (Nat.mod_lt j (by omega)) h2
  omega
/-- The name of a full tile's file. -/
def tname (h l i : Nat) : ByteArray := ⟨(tpath h l i (2 ^ h)).toArray⟩
theorem tname_inj {h l i j : Nat} (e : tname h l i = tname h l j) : i = j := by
  unfold tname tpath at e
  have e2 := congrArg (fun b => b.data.toList) e
  simp only [Nat.lt_irrefl, if_false, List.append_nil] at e2
  exact pathL_inj (List.append_cancel_left e2)
theorem tpath_len (h l i : Nat) (hv : tileV h l i (2 ^ h) = true) : 1 ≤ (tname h l i).size ∧ (tname h l i).size ≤ 128 := by
  obtain ⟨a, b, c, d⟩ := tileV_small h l i (2 ^ h) (by simpa using hv)
  have e : (tname h l i).size = (tpath h l i (2 ^ h)).length := by unfold tname; rw [show (ByteArray.mk (tpath h l i (2 ^ h)).toArray).size = (tpath h l i (2 ^ h)).toArray.size from rfl, List.size_toArray]
  rw [e]
  unfold tpath
  have p1 := pathL_le i (by omega)
  have p2 := digits_le19 h (by omega)
  have p3 := digits_le19 l (by omega)
  simp only [Nat.lt_irrefl, if_false, List.append_nil, List.length_append, List.length_singleton]
  have : tileW.length = 5 := rfl
  omega
end Go.Proofs.YtjllkmkngjdjjaaGreatDoor
