/- WALKS: a tile's path, the program's and the reference's. No statement of the seed is proved here. -/
import Derived.Test.YtjllkmkngjdjjaaDoorTileV
import Derived.Test.YtjllkmkngjdjjaaDoorNamesC
import Derived.Deep.RegionHeld3
namespace Go.Proofs.YtjllkmkngjdjjaaDoor
open Go.RowKit
set_option maxRecDepth 100000

def tileW : List UInt8 := [116, 105, 108, 101, 47]
def partW : List UInt8 := [46, 112, 47]
/-- P10.1. -/
def tpath (h l i wd : Nat) : List UInt8 := tileW ++ Lib.decDigits h ++ [47] ++ Lib.decDigits l ++ [47] ++ pathL i ++ (if wd < 2 ^ h then partW ++ Lib.decDigits wd else [])

theorem path_bad (h l i wd : Int) (hv : tileV h l i wd = false) (w : World) :
    Calls Tryd.prog 22 #[.agg #[.int .i64 h, .int .i64 l, .int .i64 i, .int .i64 wd]] w fun e w' => e = .returned (.tuple #[.string ⟨#[]⟩, .int .i64 2]) ∧ Below w.heap.size w w' := by
  have K := fun w1 => Lib.hid (tile_valid h l i wd w1)
  rw [hv] at K
  clear hv
  have hb := below_alloc1 w (.cells #[.int .i64 h, .int .i64 l, .int .i64 i, .int .i64 wd] 48)
  go_enter Tryd.func22, Tryd.ntmps22
  go_wp2_with (go_at_call 29; refine (K _).out.mono ?_; rintro e w1 ⟨rfl, hB1⟩)
  go_ret2
  exact ⟨rfl, below_then hb hB1⟩
/-- A block that holds just these cells. -/
def Box (w : World) (b : Nat) (cs : Array Value) : Prop := ∃ t, w.heap[b]? = some (.cells cs t)
theorem Box.new (w : World) (cs : Array Value) (t : TypeId) : Box (w.alloc (.cells cs t)) w.heap.size cs := ⟨t, heap_alloc_new w _⟩
theorem Box.below {w w1 : World} {b : Nat} {cs : Array Value} (h : Box w b cs) (hb : Below w.heap.size w w1) : Box w1 b cs := by
  obtain ⟨t, h⟩ := h
  exact ⟨t, (hb.block b (Array.getElem?_eq_some_iff.1 h).1).trans h⟩
theorem Box.cell {w : World} {b : Nat} {cs : Array Value} (h : Box w b cs) (j : Nat) {v : Value} (hv : cs[j]? = some v) : w.cell? ⟨b, j, none⟩ = some v := by
  obtain ⟨t, h⟩ := h
  rw [cell_of_row _ b j _ _ (0, 0) h]
  exact hv
theorem Box.four {w : World} {b : Nat} {x0 x1 x2 x3 : Value} (h : Box w b #[x0, x1, x2, x3]) :
    w.cell? ⟨b, 0, none⟩ = some x0 ∧ w.cell? ⟨b, 1, none⟩ = some x1 ∧ w.cell? ⟨b, 2, none⟩ = some x2 ∧ w.cell? ⟨b, 3, none⟩ = some x3 :=
  ⟨h.cell 0 rfl, h.cell 1 rfl, h.cell 2 rfl, h.cell 3 rfl⟩
theorem padded3_eq (n : Nat) : padded 3 n = List.replicate (3 - (Lib.decDigits n).length) 48 ++ Lib.decDigits n := rfl
theorem digits3 (n : Nat) (h : n < 1000) : (Lib.decDigits n).length ≤ 3 := digits_le 2 n h
theorem tileV_small (h l i wd : Nat) (hv : tileV h l i wd = true) : i ≤ 281474976710656 ∧ h ≤ 8 ∧ l ≤ 48 ∧ wd ≤ 256 := by
  unfold tileV at hv
  rw [decide_eq_true_eq] at hv
  obtain ⟨a1, a2, a3, a4, a5, a6, a7, a8⟩ := hv
  rw [Int.toNat_natCast] at a7 a8
  have hp0 : (1 : Int) ≤ 2 ^ h := Int.add_one_le_of_lt (Int.pow_pos (by omega))
  have hp : (2 : Int) ^ h ≤ 256 := by
    have := Nat.pow_le_pow_right (show 0 < 2 by omega) (show h ≤ 8 by omega)
    have e : ((2 ^ h : Nat) : Int) = 2 ^ h := by simp
    omega
  have h1 : (281474976710656 : Int) / 2 ^ ((l : Int) * h).toNat ≤ 281474976710656 := Int.ediv_le_self _ (by omega)
  have h2 : (i : Int) * 1 ≤ i * 2 ^ h := Int.mul_le_mul_of_nonneg_left hp0 (by omega)
  have h3 : (l : Int) * 1 ≤ l * h := Int.mul_le_mul_of_nonneg_left (by omega) (by omega)
  omega
theorem cat_run (x y : List UInt8) (n m : Nat) (hx : x.length ≤ n) (hy : y.length ≤ m) (hn : n ≤ 8388608) (hm : m ≤ 8388608) :
    ∃ s, Hid (s = x ++ y) ∧ s.length ≤ n + m ∧ ∀ w, (Op.stringOp .add ⟨x.toArray⟩ ⟨y.toArray⟩).run Tryd.prog w = .ok (.string ⟨s.toArray⟩) w :=
  ⟨x ++ y, rfl, by simp; omega, fun w => run_string_add_lists w x y (by omega) (by omega)⟩
set_option maxHeartbeats 2000000 in
theorem path_ok (h l i wd : Nat) (hv : tileV h l i wd = true) (w : World) (htab : Lib.TabIs Tryd.prog w "internal/strconv.uint64pow10" .u64 Lib.pow10Tab) :
    Calls Tryd.prog 22 #[.agg #[.int .i64 (h : Int), .int .i64 (l : Int), .int .i64 (i : Int), .int .i64 (wd : Int)]] w fun e w' => e = .returned (.tuple #[.string ⟨(tpath h l i wd).toArray⟩, .int .i64 0]) ∧ Below w.heap.size w w' := by
  have K := fun w1 => Lib.hid (tile_valid h l i wd w1)
  rw [hv] at K
  obtain ⟨hi, h8, hl8, hw8⟩ := tileV_small h l i wd hv
  have hb := below_alloc1 w (.cells #[.int .i64 h, .int .i64 l, .int .i64 i, .int .i64 wd] 48)
  have hx := Box.new w #[.int .i64 h, .int .i64 l, .int .i64 i, .int .i64 wd] 48
  have tok1 : True := trivial
  have tok2 : True := trivial
  have hd3 := digits3 (i % 1000) (Nat.mod_lt _ (by omega))
  have HP := Lib.hid (padded3_eq (i % 1000))
  have KI := fun {w1 : World} (hb : Below w.heap.size w w1) => Lib.hid (itoa_calls (i % 1000) _ rfl (by omega) w1 (tab_below htab hb))
  generalize Lib.decDigits (i % 1000) = d at hd3 HP KI
  go_enter Tryd.func22, Tryd.ntmps22
  go_wp2_with (first
    | (go_at_call 29; refine (K _).out.mono ?_; rintro e w1 ⟨rfl, hB1⟩; have hx1 := hx.below hB1; obtain ⟨c0, c1, c2, c3⟩ := hx1.four; have hb1 := below_then hb hB1)
    | (go_at_call 33; have _t := tok1; refine (KI hb1).out.mono ?_; clear tok1; rintro e w2 ⟨rfl, hB2⟩; have hx2 := hx1.below hB2; have hb2 := below_then hb1 hB2)
    | (go_at_call 34; refine (noughts_calls (3 - d.length) _ ?_ (by omega) _).mono ?_; (· omega); rintro e w3 ⟨rfl, hB3⟩; have hx3 := hx2.below hB3; obtain ⟨f0, f1, f2, f3⟩ := hx3.four; have hb3 := below_then hb2 hB3)
    | fail)
  have HG : Hid (groups (i / 1000) ++ (List.replicate (3 - d.length) 48 ++ d) = pathL i) := by rw [← HP.out]; rfl
  have hpl := pathL_le i (by omega)
  have e1 : (⟨Array.replicate (3 - d.length) 48⟩ ++ ⟨d.toArray⟩ : ByteArray) = ⟨(List.replicate (3 - d.length) 48 ++ d).toArray⟩ := by rw [← str_tail]; simp
  rw [e1]
  clear e1 hx hb hb1 hb2 hx1 hx2 c0 c1 c2 c3 f0 f1 f2 f3 hd3 HP KI hB1 hB2 hB3
  generalize List.replicate (3 - d.length) 48 ++ d = a0 at HG
  generalize hN : i / 1000 = n0 at HG
  have hN2 : (i : Int) / 1000 = (n0 : Int) := by omega
  have HN := Lib.hid hN; clear hN
  rw [hN2]
  clear hN2
  go_loopw [4, 5] (fun s m wr => ∃ (n : Nat) (a : List UInt8), n ≤ 281474976710656 ∧ m = .int .i64 (n : Int) ∧ s = .string ⟨a.toArray⟩ ∧ groups n ++ a = pathL i ∧ Box wr w.heap.size #[.int .i64 (h : Int), .int .i64 (l : Int), .int .i64 (i : Int), .int .i64 (wd : Int)] ∧ Below w.heap.size w wr) (fun _ m _ => (intOf m).toNat)
  case atStart => exact ⟨n0, a0, by have := HN.out; omega, rfl, rfl, HG.out, hx3, hb3⟩
  case round =>
    obtain ⟨n, a, hn, rfl, rfl, hg, hxr, hbr⟩ := hrel
    have hal : a.length ≤ 42 := by
      have := congrArg List.length hg
      rw [List.length_append] at this
      omega
    have HG2 := Lib.hid hg; clear hg
    clear HG hx3 hb3 K
    by_cases hlt : 0 < n
    · have hd3 := digits3 (n % 1000) (Nat.mod_lt _ (by omega))
      have HP := Lib.hid (padded3_eq (n % 1000))
      have KI := Lib.hid (itoa_calls (n % 1000) _ rfl (by omega) wr (tab_below htab hbr))
      have HS := Lib.hid (groups_step n hlt)
      generalize Lib.decDigits (n % 1000) = d at hd3 HP KI
      go_wp2_with (first
        | (go_at_call 33; refine KI.out.mono ?_; rintro e w2 ⟨rfl, hB2⟩; have hx2 := hxr.below hB2; have hb2 := below_then hbr hB2)
        | (go_at_call 34; refine (noughts_calls (3 - d.length) _ ?_ (by omega) _).mono ?_; (· omega); rintro e w3 ⟨rfl, hB3⟩; have hx3 := hx2.below hB3; have hb3 := below_then hb2 hB3)
        | fail)
      go_roundw
      case rel =>
        refine ⟨n / 1000, 120 :: (List.replicate (3 - d.length) 48 ++ d) ++ 47 :: a, by omega, by go_num, ?_, ?_, hx3, hb3⟩
        · have e0 : (⟨Array.replicate (3 - d.length) 48⟩ : ByteArray) = ⟨(List.replicate (3 - d.length) 48).toArray⟩ := by simp
          have e2 : (⟨#[120]⟩ : ByteArray) = ⟨[120].toArray⟩ := rfl
          have e3 : (⟨#[47]⟩ : ByteArray) = ⟨[47].toArray⟩ := rfl
          rw [e0, e2, e3, str_tail, str_tail, str_tail, str_tail]
          simp
        · rw [← HG2.out, HS.out, ← HP.out]; simp
      case measure => simp [intOf]; omega
    · have hn0 : n = 0 := by omega
      subst hn0
      have hg2 := HG2.out
      rw [groups_zero, List.nil_append] at hg2
      subst hg2
      clear HG2
      have KH := fun {w1 : World} (hb : Below w.heap.size w w1) => Lib.hid (itoa_calls h _ rfl (by omega) w1 (tab_below htab hb))
      have KL := fun {w1 : World} (hb : Below w.heap.size w w1) => Lib.hid (itoa_calls l _ rfl (by omega) w1 (tab_below htab hb))
      have HT : Hid (tpath h l i wd = tileW ++ Lib.decDigits h ++ [47] ++ Lib.decDigits l ++ [47] ++ pathL i ++ (if wd < 2 ^ h then partW ++ Lib.decDigits wd else [])) := rfl
      have hdh := digits3 h (by omega)
      have hdl := digits3 l (by omega)
      generalize Lib.decDigits h = dh at KH HT hdh
      generalize Lib.decDigits l = dl at KL HT hdl
      generalize pathL i = pi at HT hpl hal
      have hp : (2 : Int) ^ h ≤ 256 := by
        have := Nat.pow_le_pow_right (show 0 < 2 by omega) h8
        have e : ((2 ^ h : Nat) : Int) = 2 ^ h := by simp
        omega
      have hp0 : (0 : Int) ≤ 2 ^ h := Int.pow_nonneg (by omega)
      have q6b : IntKind.i64.wrap ((2 : Int) ^ h) = 2 ^ h := by rw [IntKind.wrap_i64]; omega
      obtain ⟨c0, c1, c2, c3⟩ := hxr.four
      have HTAB := Lib.hid htab; clear htab
      obtain ⟨s1, hs1, n1, k1⟩ := cat_run [116, 105, 108, 101, 47] dh 5 3 (by simp) (by omega) (by omega) (by omega)
      obtain ⟨s2, hs2, n2, k2⟩ := cat_run s1 [47] _ 1 n1 (by simp) (by omega) (by omega)
      obtain ⟨s3, hs3, n3, k3⟩ := cat_run s2 dl _ 3 n2 (by omega) (by omega) (by omega)
      obtain ⟨s4, hs4, n4, k4⟩ := cat_run s3 [47] _ 1 n3 (by simp) (by omega) (by omega)
      obtain ⟨s5, hs5, n5, k5⟩ := cat_run s4 pi _ 42 n4 (by omega) (by omega) (by omega)
      go_wp2_with fail
      go_region_held3 (fun w' => w'.cell? ⟨w.heap.size, 0, none⟩ = some (.int .i64 (h : Int)) ∧ w'.cell? ⟨w.heap.size, 1, none⟩ = some (.int .i64 (l : Int))) (go_keep)
        (first
          | (go_at_call 33; have _t := tok2; refine (KH (w1 := wr.drew) (hbr.drew)).out.mono ?_; clear tok2; rintro e w2 ⟨rfl, hB2⟩; have hb2 := hbr.drew.trans (hB2.mono hbr.size); obtain ⟨f0, f1, f2, f3⟩ := (hxr.below ((Below.refl _ _).drew.trans hB2)).four)
          | (go_at_call 33; refine (KL hb2).out.mono ?_; rintro e w3 ⟨rfl, hB3⟩; have hb3 := below_then hb2 hB3; obtain ⟨g0, g1, g2, g3⟩ := ((hxr.below ((Below.refl _ _).drew.trans hB2)).below hB3).four))
      have HT5 : Hid (tpath h l i wd = s5 ++ (if wd < 2 ^ h then partW ++ Lib.decDigits wd else [])) := by rw [HT.out, hs5.out, hs4.out, hs3.out, hs2.out, hs1.out]; rfl
      clear HT k1 k2 k3 k4 k5 hs1 hs2 hs3 hs4 hs5
      go_wp2_with fail
      have hb4 : ∀ n, Below w.heap.size w (w3.drewN n) := fun n => below_drewN hb3 n
      by_cases hw : wd < 2 ^ h
      · have HT6 : Hid (tpath h l i wd = s5 ++ (partW ++ Lib.decDigits wd)) := by rw [HT5.out, if_pos hw]; rfl
        have qw : decide ((wd : Int) < 2 ^ h) = true := by
          rw [decide_eq_true_eq]
          have e : ((2 ^ h : Nat) : Int) = 2 ^ h := by simp
          omega
        clear HT5 hp hp0 hw
        go_quiet (fail)
        have KW := Lib.hid (itoa_calls wd _ rfl (by omega) (w3.drewN nq) (tab_below HTAB.out (hb4 nq)))
        have hdw := digits3 wd (by omega)
        generalize Lib.decDigits wd = dw at KW HT6 hdw
        go_wp2_with (go_at_call 33; refine KW.out.mono ?_; rintro e w5 ⟨rfl, hB5⟩)
        go_ret2
        refine ⟨?_, below_then (hb4 nq) hB5⟩
        rw [HT6.out, ← str_tail, ← str_tail]
        first | rfl | (congr 4)
      · have HT6 : Hid (tpath h l i wd = s5) := by rw [HT5.out, if_neg hw, List.append_nil]; rfl
        have qw : decide ((wd : Int) < 2 ^ h) = false := by
          rw [decide_eq_false_iff_not]
          have e : ((2 ^ h : Nat) : Int) = 2 ^ h := by simp
          omega
        clear HT5 hp hp0 hw
        go_quiet (fail)
        go_wp2
        go_ret2
        exact ⟨by rw [HT6.out]; rfl, hb4 nq⟩
end Go.Proofs.YtjllkmkngjdjjaaDoor
