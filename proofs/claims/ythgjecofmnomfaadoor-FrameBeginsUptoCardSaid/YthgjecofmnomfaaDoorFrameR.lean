/- WALKS of frame.Read, the reference's Read, and what the laws use beside them. No statement of the seed is proved here. -/
import Derived.Test.YthgjecofmnomfaaDoorFrameA
import Derived.Test.YthgjecofmnomfaaDoorOctet
namespace Go.Proofs.YthgjecofmnomfaaDoor
open Go.RowKit
set_option maxRecDepth 100000

/-- What is read at a place: the data, the place behind the frame, the error. -/
def frRead (l : List UInt8) (at_ : Int) : List UInt8 × Int × Int :=
  if at_ < 0 ∨ (l.length : Int) < at_ then ([], 0, 2) else
  if (l.length : Int) - at_ < 8 then ([], 0, 111) else
  if 1048576 < beNat ((l.drop at_.toNat).take 4) then ([], 0, 3) else
  if (l.length : Int) - at_ - 8 < beNat ((l.drop at_.toNat).take 4) then ([], 0, 111) else
  if beNat ((l.drop (at_.toNat + 4)).take 4) ≠ ext (ext 0 ((l.drop at_.toNat).take 4)) ((l.drop (at_.toNat + 8)).take (beNat ((l.drop at_.toNat).take 4))) then ([], 0, 110) else
  ((l.drop (at_.toNat + 8)).take (beNat ((l.drop at_.toNat).take 4)), at_ + 8 + beNat ((l.drop at_.toNat).take 4), 0)

theorem uint32_okI (v : Value) (l : List UInt8) (at_ : Nat) (a : Int) (ha : a = (at_ : Int)) (w : World) (hv : Bs w v l) (h1 : at_ + 4 ≤ l.length) :
    Calls Tryd.prog 34 #[v, .int .i64 a] w fun e w' => e = .returned (.tuple #[.int .u32 (beNat ((l.drop at_).take 4) : Nat), .int .i64 (at_ + 4 : Nat), .int .i64 0]) ∧ w = w' := by
  subst ha; exact uint32_ok v l at_ w hv h1
theorem uint32_shortI (v : Value) (l : List UInt8) (at_ : Nat) (a : Int) (ha : a = (at_ : Int)) (w : World) (hv : Bs w v l) (h1 : at_ ≤ l.length) (h2 : l.length < at_ + 4) :
    Calls Tryd.prog 34 #[v, .int .i64 a] w fun e w' => e = .returned (.tuple #[.int .u32 0, .int .i64 0, .int .i64 10]) ∧ w = w' := by
  subst ha; exact uint32_short v l at_ w hv h1 h2

/-- What every case's walk comes to. -/
def ReadsAs (l : List UInt8) (at_ : Int) (w : World) (e : Ending) (w' : World) : Prop :=
  ∃ v', e = .returned (.tuple #[v', .int .i64 (frRead l at_).2.1, .int .i64 (frRead l at_).2.2]) ∧ OwnB w' w.heap.size v' (frRead l at_).1 ∧ Below w.heap.size w w'
theorem readsAs_bad {l : List UInt8} {at_ : Int} {w : World} {x : Int} (h : frRead l at_ = ([], 0, x)) : ReadsAs l at_ w (.returned (.tuple #[.slice Option.none 0 0, .int .i64 0, .int .i64 x])) w := by
  unfold ReadsAs
  rw [h]
  exact ⟨_, rfl, OwnB.nil _ _, Below.refl _ _⟩
theorem readsAs_ok {l m : List UInt8} {at_ q : Int} {w w' : World} {v : Value} (h : frRead l at_ = (m, q, 0)) (ho : OwnB w' w.heap.size v m) (hB : Below w.heap.size w w') : ReadsAs l at_ w (.returned (.tuple #[v, .int .i64 q, .int .i64 0])) w' := by
  unfold ReadsAs
  rw [h]
  exact ⟨_, rfl, ho, hB⟩

theorem read_arg (v : Value) (l : List UInt8) (at_ : Int) (w : World) (hv : Bs w v l) (h : at_ < 0 ∨ (l.length : Int) < at_) :
    Calls Tryd.prog 14 #[v, .int .i64 at_] w (ReadsAs l at_ w) := by
  have K := Lib.hid (uint32_bad v l at_ w hv h)
  have HR : Hid (frRead l at_ = ([], 0, 2)) := by unfold frRead Hid; rw [if_pos h]
  clear hv h
  go_enter Tryd.func14, Tryd.ntmps14
  go_wp2_with (go_at_call 34; refine K.out.mono ?_; rintro e w' ⟨rfl, rfl⟩)
  go_ret3
  exact readsAs_bad HR.out
theorem read_torn1 (v : Value) (l : List UInt8) (at_ : Nat) (w : World) (hv : Bs w v l) (h1 : at_ ≤ l.length) (h2 : l.length < at_ + 4) (hl : l.length ≤ 150000000000000) :
    Calls Tryd.prog 14 #[v, .int .i64 at_] w (ReadsAs l at_ w) := by
  obtain ⟨A, c, rfl, hlc, hc, hn⟩ := hv.form
  have K := Lib.hid (uint32_short _ l at_ w hv h1 h2)
  have K2 := Lib.hid (uint32_shortI _ l l.length (l.length : Int) rfl w hv (Nat.le_refl _) (by omega))
  have HR : Hid (frRead l at_ = ([], 0, 111)) := by unfold frRead Hid; rw [if_neg (by omega), if_pos (by omega)]
  have tok1 : True := trivial
  clear hv
  go_enter Tryd.func14, Tryd.ntmps14
  go_wp2_with (first | (go_at_call 34; have _t := tok1; refine K.out.mono ?_; clear tok1; rintro e w' ⟨rfl, rfl⟩) | (go_at_call 34; refine K2.out.mono ?_; rintro e w' ⟨rfl, rfl⟩))
  go_ret3
  exact readsAs_bad HR.out

theorem read_torn2 (v : Value) (l : List UInt8) (at_ : Nat) (w : World) (hv : Bs w v l) (h1 : at_ + 4 ≤ l.length) (h2 : l.length < at_ + 8) :
    Calls Tryd.prog 14 #[v, .int .i64 at_] w (ReadsAs l at_ w) := by
  obtain ⟨A, c, rfl, hlc, hc, hn⟩ := hv.form
  have K := Lib.hid (uint32_ok _ l at_ w hv h1)
  have K2 := Lib.hid (uint32_shortI _ l (at_ + 4) ((at_ : Int) + 4) (by omega) w hv (by omega) (by omega))
  have HR : Hid (frRead l at_ = ([], 0, 111)) := by unfold frRead Hid; rw [if_neg (by omega), if_pos (by omega)]
  generalize beNat ((l.drop at_).take 4) = q at K
  have tok1 : True := trivial
  clear hv
  go_enter Tryd.func14, Tryd.ntmps14
  go_wp2_with (first | (go_at_call 34; have _t := tok1; refine K.out.mono ?_; clear tok1; rintro e w' ⟨rfl, rfl⟩) | (go_at_call 34; refine K2.out.mono ?_; rintro e w' ⟨rfl, rfl⟩))
  go_ret3
  exact readsAs_bad HR.out
theorem read_big (v : Value) (l : List UInt8) (at_ : Nat) (w : World) (hv : Bs w v l) (h1 : at_ + 8 ≤ l.length) (h2 : 1048576 < beNat ((l.drop at_).take 4)) :
    Calls Tryd.prog 14 #[v, .int .i64 at_] w (ReadsAs l at_ w) := by
  obtain ⟨A, c, rfl, hlc, hc, hn⟩ := hv.form
  have K := Lib.hid (uint32_ok _ l at_ w hv (by omega))
  have K2 := Lib.hid (uint32_okI _ l (at_ + 4) ((at_ : Int) + 4) (by omega) w hv (by omega))
  have HR : Hid (frRead l at_ = ([], 0, 3)) := by
    unfold frRead Hid
    rw [if_neg (by omega), if_neg (by omega), show (at_ : Int).toNat = at_ from rfl, if_pos h2]
  generalize beNat ((l.drop at_).take 4) = q at K h2
  generalize beNat ((l.drop (at_ + 4)).take 4) = q2 at K2
  have tok1 : True := trivial
  clear hv
  go_enter Tryd.func14, Tryd.ntmps14
  go_wp2_with (first | (go_at_call 34; have _t := tok1; refine K.out.mono ?_; clear tok1; rintro e w' ⟨rfl, rfl⟩) | (go_at_call 34; refine K2.out.mono ?_; rintro e w' ⟨rfl, rfl⟩))
  go_ret3
  exact readsAs_bad HR.out
theorem beNat4_lt (l : List UInt8) : beNat (l.take 4) < 4294967296 := by
  have h := beNat_lt (l.take 4)
  have h2 : 256 ^ (l.take 4).length ≤ 256 ^ 4 := Nat.pow_le_pow_right (by omega) (by rw [List.length_take]; omega)
  exact Nat.lt_of_lt_of_le h h2
theorem read_torn3 (v : Value) (l : List UInt8) (at_ : Nat) (w : World) (hv : Bs w v l) (h1 : at_ + 8 ≤ l.length) (h2 : ¬ 1048576 < beNat ((l.drop at_).take 4)) (h3 : (l.length : Int) - at_ - 8 < beNat ((l.drop at_).take 4)) :
    Calls Tryd.prog 14 #[v, .int .i64 at_] w (ReadsAs l at_ w) := by
  obtain ⟨A, c, rfl, hlc, hc, hn⟩ := hv.form
  have K := Lib.hid (uint32_ok _ l at_ w hv (by omega))
  have K2 := Lib.hid (uint32_okI _ l (at_ + 4) ((at_ : Int) + 4) (by omega) w hv (by omega))
  have HR : Hid (frRead l at_ = ([], 0, 111)) := by
    unfold frRead Hid
    rw [if_neg (by omega), if_neg (by omega), show (at_ : Int).toNat = at_ from rfl, if_neg h2, if_pos h3]
  generalize beNat ((l.drop at_).take 4) = q at K h2 h3
  generalize beNat ((l.drop (at_ + 4)).take 4) = q2 at K2
  have tok1 : True := trivial
  clear hv
  go_enter Tryd.func14, Tryd.ntmps14
  go_wp2_with (first | (go_at_call 34; have _t := tok1; refine K.out.mono ?_; clear tok1; rintro e w' ⟨rfl, rfl⟩) | (go_at_call 34; refine K2.out.mono ?_; rintro e w' ⟨rfl, rfl⟩))
  go_ret3
  exact readsAs_bad HR.out

set_option maxHeartbeats 800000 in
theorem read_last (v : Value) (l : List UInt8) (at_ : Nat) (w : World) (hT : LaidF w) (hv : Bs w v l) (h1 : at_ + 8 ≤ l.length) (h2 : ¬ 1048576 < beNat ((l.drop at_).take 4)) (h3 : ¬ (l.length : Int) - at_ - 8 < beNat ((l.drop at_).take 4)) :
    Calls Tryd.prog 14 #[v, .int .i64 at_] w (ReadsAs l at_ w) := by
  obtain ⟨A, c, rfl, hlc, hc, hn⟩ := hv.form
  have K := Lib.hid (uint32_ok _ l at_ w hv (by omega))
  have K2 := Lib.hid (uint32_okI _ l (at_ + 4) ((at_ : Int) + 4) (by omega) w hv (by omega))
  have hs1 := hv.subI at_ 4 (at_ : Int) ((at_ : Int) + 4) rfl rfl (by omega)
  have hs2 := hv.subI (at_ + 8) (beNat ((l.drop at_).take 4)) ((at_ : Int) + 4 + 4) ((at_ : Int) + 4 + 4 + (beNat ((l.drop at_).take 4) : Nat)) (by omega) (by omega) (by omega)
  have h2s := beNat4_lt (l.drop (at_ + 4))
  have HR : Hid (frRead l at_ = if beNat ((l.drop (at_ + 4)).take 4) ≠ ext (ext 0 ((l.drop at_).take 4)) ((l.drop (at_ + 8)).take (beNat ((l.drop at_).take 4))) then ([], 0, 110) else
      ((l.drop (at_ + 8)).take (beNat ((l.drop at_).take 4)), (at_ : Int) + 8 + beNat ((l.drop at_).take 4), 0)) := by
    unfold frRead Hid
    rw [if_neg (by omega), if_neg (by omega), show (at_ : Int).toNat = at_ from rfl, if_neg h2, if_neg h3]
  have hdl : ((l.drop (at_ + 8)).take (beNat ((l.drop at_).take 4))).length ≤ 150000000000000 := by rw [List.length_take, List.length_drop]; omega
  generalize (l.drop (at_ + 8)).take (beNat ((l.drop at_).take 4)) = data at HR hs2 hdl
  generalize hq : beNat ((l.drop at_).take 4) = q at K h2 h3 HR hs2
  clear hq
  generalize (l.drop at_).take 4 = hd at HR hs1
  generalize beNat ((l.drop (at_ + 4)).take 4) = s at K2 HR h2s
  obtain ⟨A1, c1, hsl1, hb1⟩ := hs1
  obtain ⟨A2, c2, hsl2, hb2⟩ := hs2
  have hw1 : IntKind.i64.wrap (q : Int) = (q : Int) := IntWalk.i64_in _ (by omega)
  have KS := Lib.hid (sum_calls _ hd w hT hb1)
  have he0 := ext_lt 0 hd (by omega)
  have KE := Lib.hid (extend_calls (ext 0 hd) he0 _ data w hT hb2)
  have KC := Lib.hid (clone_calls _ data w hb2 hdl)
  generalize ext 0 hd = s0 at KS KE HR
  generalize ext s0 data = s1 at KE HR
  clear hv hT hb1 hb2 he0
  by_cases hs : s = s1
  · subst hs
    have HR2 : Hid (frRead l at_ = (data, (at_ : Int) + 8 + q, 0)) := by have := HR.out; simpa [Hid] using this
    clear HR
    have tok1 : True := trivial
    go_enter Tryd.func14, Tryd.ntmps14
    go_wp2_with (first | (go_at_call 34; have _t := tok1; refine K.out.mono ?_; clear tok1; rintro e w' ⟨rfl, rfl⟩) | (go_at_call 34; refine K2.out.mono ?_; rintro e w' ⟨rfl, rfl⟩) | (go_at_call 10; refine KS.out.mono ?_; rintro e w' ⟨rfl, rfl⟩) | (go_at_call 12; refine KE.out.mono ?_; rintro e w' ⟨rfl, rfl⟩) | (go_at_call 35; refine KC.out.mono ?_; rintro e w1 ⟨v1, rfl, ho1, hB1⟩))
    go_ret3
    exact readsAs_ok (by rw [HR2.out]; congr 2) ho1 hB1
  · have HR2 : Hid (frRead l at_ = ([], 0, 110)) := by have := HR.out; simpa [Hid, hs] using this
    clear HR
    have hs' : ((s : Int) == (s1 : Int)) = false := by simp; omega
    have hs2 : ((s : Int) != (s1 : Int)) = true := by simp; omega
    clear hs
    have tok1 : True := trivial
    go_enter Tryd.func14, Tryd.ntmps14
    go_wp2_with (first | (go_at_call 34; have _t := tok1; refine K.out.mono ?_; clear tok1; rintro e w' ⟨rfl, rfl⟩) | (go_at_call 34; refine K2.out.mono ?_; rintro e w' ⟨rfl, rfl⟩) | (go_at_call 10; refine KS.out.mono ?_; rintro e w' ⟨rfl, rfl⟩) | (go_at_call 12; refine KE.out.mono ?_; rintro e w' ⟨rfl, rfl⟩) | (go_at_call 35; refine KC.out.mono ?_; rintro e w1 ⟨v1, rfl, ho1, hB1⟩))
    go_ret3
    exact readsAs_bad HR2.out

theorem read_calls (v : Value) (l : List UInt8) (at_ : Int) (w : World) (hT : LaidF w) (hv : Bs w v l) (hl : l.length ≤ 150000000000000) :
    Calls Tryd.prog 14 #[v, .int .i64 at_] w (ReadsAs l at_ w) := by
  by_cases h0 : at_ < 0 ∨ (l.length : Int) < at_
  · exact read_arg v l at_ w hv h0
  · obtain ⟨n, rfl⟩ := Int.eq_ofNat_of_zero_le (show 0 ≤ at_ by omega)
    by_cases h1 : l.length < n + 4
    · exact read_torn1 v l n w hv (by omega) h1 hl
    · by_cases h2 : l.length < n + 8
      · exact read_torn2 v l n w hv (by omega) h2
      · by_cases h3 : 1048576 < beNat ((l.drop n).take 4)
        · exact read_big v l n w hv (by omega) h3
        · by_cases h4 : (l.length : Int) - n - 8 < beNat ((l.drop n).take 4)
          · exact read_torn3 v l n w hv (by omega) h3 h4
          · exact read_last v l n w hT hv (by omega) h3 h4

/-! ### the reference's -/
theorem rget_okI (v : Value) (l : List UInt8) (at_ : Nat) (a : Int) (ha : a = (at_ : Int)) (w : World) (hv : Bs w v l) (h1 : at_ + 4 ≤ l.length) :
    Calls Tryd.prog 36 #[v, .int .i64 a, .int .i64 4] w fun e w' => e = .returned (.tuple #[.int .u64 (beNat ((l.drop at_).take 4) : Nat), .int .i64 (at_ + 4 : Nat), .int .i64 0]) ∧ w = w' := by
  subst ha; exact rget_ok v l at_ 4 w hv h1 (by omega)
theorem rread_arg (v : Value) (l : List UInt8) (at_ : Int) (w : World) (hv : Bs w v l) (h : at_ < 0 ∨ (l.length : Int) < at_) :
    Calls Tryd.prog 15 #[v, .int .i64 at_] w (ReadsAs l at_ w) := by
  obtain ⟨A, c, rfl, hlc, hc, hn⟩ := hv.form
  have HR : Hid (frRead l at_ = ([], 0, 2)) := by unfold frRead Hid; rw [if_pos h]
  clear hv
  by_cases h0 : at_ < 0
  · clear h
    go_enter Tryd.func15, Tryd.ntmps15
    go_wp2
    go_ret3
    exact readsAs_bad HR.out
  · have h1 : (l.length : Int) < at_ := by omega
    clear h
    go_enter Tryd.func15, Tryd.ntmps15
    go_wp2
    go_ret3
    exact readsAs_bad HR.out
theorem rread_torn (v : Value) (l : List UInt8) (at_ : Nat) (w : World) (hv : Bs w v l) (h1 : at_ ≤ l.length) (h2 : l.length < at_ + 8) :
    Calls Tryd.prog 15 #[v, .int .i64 at_] w (ReadsAs l at_ w) := by
  obtain ⟨A, c, rfl, hlc, hc, hn⟩ := hv.form
  have HR : Hid (frRead l at_ = ([], 0, 111)) := by unfold frRead Hid; rw [if_neg (by omega), if_pos (by omega)]
  clear hv
  go_enter Tryd.func15, Tryd.ntmps15
  go_wp2
  go_ret3
  exact readsAs_bad HR.out
theorem rread_big (v : Value) (l : List UInt8) (at_ : Nat) (w : World) (hv : Bs w v l) (h1 : at_ + 8 ≤ l.length) (h2 : 1048576 < beNat ((l.drop at_).take 4)) :
    Calls Tryd.prog 15 #[v, .int .i64 at_] w (ReadsAs l at_ w) := by
  obtain ⟨A, c, rfl, hlc, hc, hn⟩ := hv.form
  have K := Lib.hid (rget_okI _ l at_ (at_ : Int) rfl w hv (by omega))
  have K2 := Lib.hid (rget_okI _ l (at_ + 4) ((at_ : Int) + 4) (by omega) w hv (by omega))
  have HR : Hid (frRead l at_ = ([], 0, 3)) := by
    unfold frRead Hid
    rw [if_neg (by omega), if_neg (by omega), show (at_ : Int).toNat = at_ from rfl, if_pos h2]
  generalize beNat ((l.drop at_).take 4) = q at K h2
  generalize beNat ((l.drop (at_ + 4)).take 4) = q2 at K2
  have tok1 : True := trivial
  clear hv
  go_enter Tryd.func15, Tryd.ntmps15
  go_wp2_with (first | (go_at_call 36; have _t := tok1; refine K.out.mono ?_; clear tok1; rintro e w' ⟨rfl, rfl⟩) | (go_at_call 36; refine K2.out.mono ?_; rintro e w' ⟨rfl, rfl⟩))
  go_ret3
  exact readsAs_bad HR.out
theorem rread_torn3 (v : Value) (l : List UInt8) (at_ : Nat) (w : World) (hv : Bs w v l) (h1 : at_ + 8 ≤ l.length) (h2 : ¬ 1048576 < beNat ((l.drop at_).take 4)) (h3 : (l.length : Int) - at_ - 8 < beNat ((l.drop at_).take 4)) :
    Calls Tryd.prog 15 #[v, .int .i64 at_] w (ReadsAs l at_ w) := by
  obtain ⟨A, c, rfl, hlc, hc, hn⟩ := hv.form
  have K := Lib.hid (rget_okI _ l at_ (at_ : Int) rfl w hv (by omega))
  have K2 := Lib.hid (rget_okI _ l (at_ + 4) ((at_ : Int) + 4) (by omega) w hv (by omega))
  have HR : Hid (frRead l at_ = ([], 0, 111)) := by
    unfold frRead Hid
    rw [if_neg (by omega), if_neg (by omega), show (at_ : Int).toNat = at_ from rfl, if_neg h2, if_pos h3]
  generalize beNat ((l.drop at_).take 4) = q at K h2 h3
  generalize beNat ((l.drop (at_ + 4)).take 4) = q2 at K2
  have hw1 : IntKind.i64.wrap (q : Int) = (q : Int) := IntWalk.i64_in _ (by omega)
  have tok1 : True := trivial
  clear hv
  go_enter Tryd.func15, Tryd.ntmps15
  go_wp2_with (first | (go_at_call 36; have _t := tok1; refine K.out.mono ?_; clear tok1; rintro e w' ⟨rfl, rfl⟩) | (go_at_call 36; refine K2.out.mono ?_; rintro e w' ⟨rfl, rfl⟩))
  go_ret3
  exact readsAs_bad HR.out

set_option maxHeartbeats 800000 in
theorem rread_last (v : Value) (l : List UInt8) (at_ : Nat) (w : World) (hv : Bs w v l) (h1 : at_ + 8 ≤ l.length) (h2 : ¬ 1048576 < beNat ((l.drop at_).take 4)) (h3 : ¬ (l.length : Int) - at_ - 8 < beNat ((l.drop at_).take 4)) :
    Calls Tryd.prog 15 #[v, .int .i64 at_] w (ReadsAs l at_ w) := by
  obtain ⟨A, c, rfl, hlc, hc, hn⟩ := hv.form
  have K := Lib.hid (rget_okI _ l at_ (at_ : Int) rfl w hv (by omega))
  have K2 := Lib.hid (rget_okI _ l (at_ + 4) ((at_ : Int) + 4) (by omega) w hv (by omega))
  have hs1 := hv.subI at_ 4 (at_ : Int) ((at_ : Int) + 4) rfl rfl (by omega)
  have hs2 := hv.subI (at_ + 8) (beNat ((l.drop at_).take 4)) ((at_ : Int) + 8) ((at_ : Int) + 8 + (beNat ((l.drop at_).take 4) : Nat)) (by omega) (by omega) (by omega)
  have h2s := beNat4_lt (l.drop (at_ + 4))
  have HR : Hid (frRead l at_ = if beNat ((l.drop (at_ + 4)).take 4) ≠ ext (ext 0 ((l.drop at_).take 4)) ((l.drop (at_ + 8)).take (beNat ((l.drop at_).take 4))) then ([], 0, 110) else
      ((l.drop (at_ + 8)).take (beNat ((l.drop at_).take 4)), (at_ : Int) + 8 + beNat ((l.drop at_).take 4), 0)) := by
    unfold frRead Hid
    rw [if_neg (by omega), if_neg (by omega), show (at_ : Int).toNat = at_ from rfl, if_neg h2, if_neg h3]
  have hdn : ((l.drop (at_ + 8)).take (beNat ((l.drop at_).take 4))).length = beNat ((l.drop at_).take 4) := by rw [List.length_take, List.length_drop]; omega
  generalize (l.drop (at_ + 8)).take (beNat ((l.drop at_).take 4)) = data at HR hs2 hdn
  generalize hq : beNat ((l.drop at_).take 4) = q at K h2 h3 HR hs2 hdn
  clear hq
  generalize (l.drop at_).take 4 = hd at HR hs1
  generalize beNat ((l.drop (at_ + 4)).take 4) = s at K2 HR h2s
  obtain ⟨A1, c1, hsl1, hb1⟩ := hs1
  obtain ⟨A2, c2, hsl2, hb2⟩ := hs2
  have hw1 : IntKind.i64.wrap (q : Int) = (q : Int) := IntWalk.i64_in _ (by omega)
  have hw2 : IntKind.u32.wrap (s : Int) = (s : Int) := by rw [IntKind.wrap_u32]; omega
  have KS := Lib.hid (rsum_calls _ hd w hb1)
  have he0 := ext_lt 0 hd (by omega)
  have KE := Lib.hid (rextend_calls (ext 0 hd) he0 _ data w hb2)
  have hdl : data.length ≤ 150000000000000 := by omega
  have HDN := Lib.hid hdn; clear hdn
  generalize ext 0 hd = s0 at KS KE HR
  generalize ext s0 data = s1 at KE HR
  clear hv hb1 he0
  by_cases hs : s = s1
  · subst hs
    have HR2 : Hid (frRead l at_ = (data, (at_ : Int) + 8 + q, 0)) := by have := HR.out; simpa [Hid] using this
    clear HR
    have tok1 : True := trivial
    have tok2 : True := trivial
    have hB0 : Below w.heap.size w (w.alloc (.cells #[] 5)) := (Below.refl _ _).alloc (Nat.le_refl _) _
    go_enter Tryd.func15, Tryd.ntmps15
    go_wp2_with (first | (go_at_call 36; have _t := tok1; refine K.out.mono ?_; clear tok1; rintro e w' ⟨rfl, rfl⟩) | (go_at_call 36; refine K2.out.mono ?_; rintro e w' ⟨rfl, rfl⟩) | (go_at_call 11; refine KS.out.mono ?_; rintro e w' ⟨rfl, rfl⟩) | (go_at_call 13; refine KE.out.mono ?_; rintro e w' ⟨rfl, rfl⟩) | (at_builtin; have _t := tok2; (refine app_u8 rfl _ _ rfl w.heap.size _ rfl [] (OwnB.zero w) _ rfl data (hb2.below hB0) ?_ ?_ ?_); (· simp; omega); (· simp); clear tok2; intro v1 w1 ho1 hg1 _; have hB1 := below_grown hB0 hg1 (OwnB.zero w) (le_alloc (Nat.le_refl _) _); rw [List.nil_append] at ho1))
    go_ret3
    exact readsAs_ok (by rw [HR2.out]) ho1 hB1
  · have HR2 : Hid (frRead l at_ = ([], 0, 110)) := by have := HR.out; simpa [Hid, hs] using this
    clear HR
    have hs' : ((s : Int) == (s1 : Int)) = false := by simp; omega
    have hs2 : ((s : Int) != (s1 : Int)) = true := by simp; omega
    clear hs
    have tok1 : True := trivial
    go_enter Tryd.func15, Tryd.ntmps15
    go_wp2_with (first | (go_at_call 36; have _t := tok1; refine K.out.mono ?_; clear tok1; rintro e w' ⟨rfl, rfl⟩) | (go_at_call 36; refine K2.out.mono ?_; rintro e w' ⟨rfl, rfl⟩) | (go_at_call 11; refine KS.out.mono ?_; rintro e w' ⟨rfl, rfl⟩) | (go_at_call 13; refine KE.out.mono ?_; rintro e w' ⟨rfl, rfl⟩))
    go_ret3
    exact readsAs_bad HR2.out
theorem rread_calls (v : Value) (l : List UInt8) (at_ : Int) (w : World) (hv : Bs w v l) :
    Calls Tryd.prog 15 #[v, .int .i64 at_] w (ReadsAs l at_ w) := by
  by_cases h0 : at_ < 0 ∨ (l.length : Int) < at_
  · exact rread_arg v l at_ w hv h0
  · obtain ⟨n, rfl⟩ := Int.eq_ofNat_of_zero_le (show 0 ≤ at_ by omega)
    by_cases h2 : l.length < n + 8
    · exact rread_torn v l n w hv (by omega) h2
    · by_cases h3 : 1048576 < beNat ((l.drop n).take 4)
      · exact rread_big v l n w hv (by omega) h3
      · by_cases h4 : (l.length : Int) - n - 8 < beNat ((l.drop n).take 4)
        · exact rread_torn3 v l n w hv (by omega) h3 h4
        · exact rread_last v l n w hv (by omega) h3 h4

/-! ### what the laws use beside them -/
theorem names11_calls (w : World) : Calls Tryd.prog 17 #[] w fun e w' => e = .returned (.bool true) ∧ w = w' := by
  go_enter Tryd.func17, Tryd.ntmps17
  go_wp2
  go_ret
  exact ⟨rfl, rfl⟩
theorem bump (x : UInt8) : IntKind.u8.wrap ((x.toNat : Int) + 1) = ((x + 1).toNat : Int) := by
  rw [IntKind.wrap_u8', UInt8.toNat_add]
  simp

set_option maxHeartbeats 800000 in
/-- spoil: every byte is another one; no other block turns. -/
theorem spoil_calls (v : Value) (l : List UInt8) (B : Nat) (w : World) (ho : OwnB w B v l) :
    Calls Tryd.prog 16 #[v] w fun e w' => e = .returned (.tuple #[]) ∧ OwnB w' B v (l.map (· + 1)) ∧ w.grownBy w' v.ownBlock := by
  obtain ⟨A, c, rfl, hlc, hc, hn⟩ := ho.form
  go_enter Tryd.func16, Tryd.ntmps16
  go_wp2
  go_loopw [2] (fun i wr => ∃ k : Nat, k ≤ l.length ∧ i = .int .i64 k ∧ OwnB wr B (.slice A l.length c) ((l.take k).map (· + 1) ++ l.drop k) ∧ w.grownBy wr (Value.slice A l.length c).ownBlock) (fun i _ => l.length - (intOf i).toNat)
  case atStart => exact ⟨0, by omega, rfl, by simpa using ho, grown_refl _ _⟩
  case round =>
    obtain ⟨k, hk, rfl, hok, hgr⟩ := hrel
    by_cases hlt : k < l.length
    · have hlen : ((l.take k).map (· + 1) ++ l.drop k).length = l.length := by simp; omega
      obtain ⟨g, rfl, hg1, hg2, -, hcell, hfr, hset⟩ := hok.block (by rw [hlen]; omega)
      have hc1 := hcell k (by rw [hlen]; exact hlt)
      have hx : ((l.take k).map (· + 1) ++ l.drop k)[k]'(by rw [hlen]; exact hlt) = l[k] := by
        rw [List.getElem_append_right (by simp; omega)]
        simp [Nat.min_eq_left hk]
      rw [hx] at hc1
      have hf1 := hfr k
      have ho2 := hset k (l[k] + 1) (by rw [hlen]; exact hlt)
      have hb := bump l[k]
      have HL : Hid (((l.take k).map (· + 1) ++ l.drop k).set k (l[k] + 1) = (l.take (k + 1)).map (· + 1) ++ l.drop (k + 1)) := by
        unfold Hid
        rw [List.set_append_right _ _ (by simp; omega), take_succ_get l k hlt, List.map_append, List.append_assoc]
        congr 1
        have : (l.drop k) = l[k] :: l.drop (k + 1) := List.drop_eq_getElem_cons hlt
        rw [this, show k - ((l.take k).map (· + 1)).length = 0 by simp; omega]
        rfl
      generalize l[k] + 1 = z at hb HL ho2
      generalize l[k] = y at hc1 hb
      have hg3 : w.grownBy (wr.setCell ⟨g, k, none⟩ (.int .u8 (z.toNat : Int))) (some g) := grown_trans hgr (grown_setCell wr g k _)
      clear hcell hfr hset ho hx hlen
      go_wp2
      go_roundw
      case rel => exact ⟨k + 1, by omega, by go_num, by rw [← HL.out]; exact ho2, hg3⟩
      case measure => simp [intOf]; omega
    · have hk' : k = l.length := by omega
      subst hk'
      rw [List.take_length, List.drop_length, List.append_nil] at hok
      clear ho
      go_wp2
      go_end0
      exact ⟨rfl, hok, hgr⟩

theorem read_callsR {l m : List UInt8} {at_ q x : Int} (hfr : frRead l at_ = (m, q, x)) (v : Value) (w : World) (hT : LaidF w) (hv : Bs w v l) (hl : l.length ≤ 150000000000000) :
    Calls Tryd.prog 14 #[v, .int .i64 at_] w fun e w' => ∃ v', e = .returned (.tuple #[v', .int .i64 q, .int .i64 x]) ∧ OwnB w' w.heap.size v' m ∧ Below w.heap.size w w' := by
  have h := read_calls v l at_ w hT hv hl
  unfold ReadsAs at h
  rw [hfr] at h
  exact h
theorem rread_callsR {l m : List UInt8} {at_ q x : Int} (hfr : frRead l at_ = (m, q, x)) (v : Value) (w : World) (hv : Bs w v l) :
    Calls Tryd.prog 15 #[v, .int .i64 at_] w fun e w' => ∃ v', e = .returned (.tuple #[v', .int .i64 q, .int .i64 x]) ∧ OwnB w' w.heap.size v' m ∧ Below w.heap.size w w' := by
  have h := rread_calls v l at_ w hv
  unfold ReadsAs at h
  rw [hfr] at h
  exact h
end Go.Proofs.YthgjecofmnomfaaDoor
