/- WALKS of frame.Read, the reference's Read, and what the laws use beside them. No statement of the seed is proved here. WALKS of frame.Put, Cost and the reference's Frame. No statement of the seed is proved here. -/
import Derived.Test.YtjllkmkngjdjjaaGreatDoorOctetM
import Derived.Test.YtjllkmkngjdjjaaGreatDoorOctet
namespace Go.Proofs.YtjllkmkngjdjjaaGreatDoor
open Go.RowKit
set_option maxRecDepth 100000

/-- What is read at a place: the data, the place behind the frame, the error. -/
def frRead (l : List UInt8) (at_ : Int) : List UInt8 × Int × Int :=
  if at_ < 0 ∨ (l.length : Int) < at_ then ([], 0, 2) else
  if (l.length : Int) - at_ < 8 then ([], 0, 111) else
  if 1048576 < beNat ((l.drop at_.toNat).take 4) then ([], 0, 3) else
  if (l.length : Int) - at_ - 8 < beNat ((l.drop at_.toNat).take 4) then ([], 0, 111) else
  if beNat ((l.drop (at_.toNat + 4)).take 4) ≠ ext (ext 0 ((l.drop at_.toNat).take 4)) ((l.drop (at_.toNat + 8)).take (beNat ((l.drop at_.toNat).take 4))) then ([], 0, 110) else
  ((l.drop (at_.toNat + 8)).take (beNat ((l.drop at_.toNat).take 4)), at_ + 8 + beNat ((l.drop at_.toNat).take 4), 0)

theorem uint32_okI (v : Value) (l : List UInt8) (at_ : Nat) (a : Int) (ha : a = (at_ : Int)) (w : World) (hv : Bs w v l) (h1 : at_ + 4 ≤ l.length) :
    Calls Tryz.prog 215 #[v, .int .i64 a] w fun e w' => e = .returned (.tuple #[.int .u32 (beNat ((l.drop at_).take 4) : Nat), .int .i64 (at_ + 4 : Nat), .int .i64 0]) ∧ w = w' := by
  subst ha; exact uint32_ok v l at_ w hv h1
theorem uint32_shortI (v : Value) (l : List UInt8) (at_ : Nat) (a : Int) (ha : a = (at_ : Int)) (w : World) (hv : Bs w v l) (h1 : at_ ≤ l.length) (h2 : l.length < at_ + 4) :
    Calls Tryz.prog 215 #[v, .int .i64 a] w fun e w' => e = .returned (.tuple #[.int .u32 0, .int .i64 0, .int .i64 10]) ∧ w = w' := by
  subst ha; exact uint32_short v l at_ w hv h1 h2

/-- What every case's walk comes to. -/
def ReadsAs (l : List UInt8) (at_ : Int) (w : World) (e : Ending) (w' : World) : Prop :=
  ∃ v', e = .returned (.tuple #[v', .int .i64 (frRead l at_).2.1, .int .i64 (frRead l at_).2.2]) ∧ OwnB w' w.heap.size v' (frRead l at_).1 ∧ Below w.heap.size w w'
theorem readsAs_bad {l : List UInt8} {at_ : Int} {w : World} {x : Int} (h : frRead l at_ = ([], 0, x)) : ReadsAs l at_ w (.returned (.tuple #[.slice Option.none 0 0, .int .i64 0, .int .i64 x])) w := by
  unfold ReadsAs
  rw [h]
  exact ⟨_, rfl, OwnB.nil _ _, Below.refl _ _⟩
theorem readsAs_ok {l m : List UInt8} {at_ q : Int} {w w' : World} {v : Value} (h : frRead l at_ = (m, q, 0)) (ho : OwnB w' w.heap.size v m) (hB : Below w.heap.size w w') : ReadsAs l at_ w (.returned (.tuple #[v, .int .i64 q, .int .i64 0])) w' := by
  unfold ReadsAs
  rw [h]
  exact ⟨_, rfl, ho, hB⟩

theorem read_arg (v : Value) (l : List UInt8) (at_ : Int) (w : World) (hv : Bs w v l) (h : at_ < 0 ∨ (l.length : Int) < at_) :
    Calls Tryz.prog 157 #[v, .int .i64 at_] w (ReadsAs l at_ w) := by
  have K := Lib.hid (uint32_bad v l at_ w hv h)
  have HR : Hid (frRead l at_ = ([], 0, 2)) := by unfold frRead Hid; rw [if_pos h]
  clear hv h
  go_enter Tryz.func157, Tryz.ntmps157
  go_wp2_with (go_at_call 215; refine K.out.mono ?_; rintro e w' ⟨rfl, rfl⟩)
  go_ret3
  exact readsAs_bad HR.out
theorem read_torn1 (v : Value) (l : List UInt8) (at_ : Nat) (w : World) (hv : Bs w v l) (h1 : at_ ≤ l.length) (h2 : l.length < at_ + 4) (hl : l.length ≤ 150000000000000) :
    Calls Tryz.prog 157 #[v, .int .i64 at_] w (ReadsAs l at_ w) := by
  obtain ⟨A, c, rfl, hlc, hc, hn⟩ := hv.form
  have K := Lib.hid (uint32_short _ l at_ w hv h1 h2)
  have K2 := Lib.hid (uint32_shortI _ l l.length (l.length : Int) rfl w hv (Nat.le_refl _) (by omega))
  have HR : Hid (frRead l at_ = ([], 0, 111)) := by unfold frRead Hid; rw [if_neg (by omega), if_pos (by omega)]
  have tok1 : True := trivial
  clear hv
  go_enter Tryz.func157, Tryz.ntmps157
  go_wp2_with (first | (go_at_call 215; have _t := tok1; refine K.out.mono ?_; clear tok1; rintro e w' ⟨rfl, rfl⟩) | (go_at_call 215; refine K2.out.mono ?_; rintro e w' ⟨rfl, rfl⟩))
  go_ret3
  exact readsAs_bad HR.out

theorem read_torn2 (v : Value) (l : List UInt8) (at_ : Nat) (w : World) (hv : Bs w v l) (h1 : at_ + 4 ≤ l.length) (h2 : l.length < at_ + 8) :
    Calls Tryz.prog 157 #[v, .int .i64 at_] w (ReadsAs l at_ w) := by
  obtain ⟨A, c, rfl, hlc, hc, hn⟩ := hv.form
  have K := Lib.hid (uint32_ok _ l at_ w hv h1)
  have K2 := Lib.hid (uint32_shortI _ l (at_ + 4) ((at_ : Int) + 4) (by omega) w hv (by omega) (by omega))
  have HR : Hid (frRead l at_ = ([], 0, 111)) := by unfold frRead Hid; rw [if_neg (by omega), if_pos (by omega)]
  generalize beNat ((l.drop at_).take 4) = q at K
  have tok1 : True := trivial
  clear hv
  go_enter Tryz.func157, Tryz.ntmps157
  go_wp2_with (first | (go_at_call 215; have _t := tok1; refine K.out.mono ?_; clear tok1; rintro e w' ⟨rfl, rfl⟩) | (go_at_call 215; refine K2.out.mono ?_; rintro e w' ⟨rfl, rfl⟩))
  go_ret3
  exact readsAs_bad HR.out
theorem read_big (v : Value) (l : List UInt8) (at_ : Nat) (w : World) (hv : Bs w v l) (h1 : at_ + 8 ≤ l.length) (h2 : 1048576 < beNat ((l.drop at_).take 4)) :
    Calls Tryz.prog 157 #[v, .int .i64 at_] w (ReadsAs l at_ w) := by
  obtain ⟨A, c, rfl, hlc, hc, hn⟩ := hv.form
  have K := Lib.hid (uint32_ok _ l at_ w hv (by omega))
  have K2 := Lib.hid (uint32_okI _ l (at_ + 4) ((at_ : Int) + 4) (by omega) w hv (by omega))
  have HR : Hid (frRead l at_ = ([], 0, 3)) := by
    unfold frRead Hid
    rw [if_neg (by omega), if_neg (by omega), show (at_ : Int).toNat = at_ from rfl, if_pos h2]
  generalize beNat ((l.drop at_).take 4) = q at K h2
  generalize beNat ((l.drop (at_ + 4)).take 4) = q2 at K2
  have tok1 : True := trivial
  clear hv
  go_enter Tryz.func157, Tryz.ntmps157
  go_wp2_with (first | (go_at_call 215; have _t := tok1; refine K.out.mono ?_; clear tok1; rintro e w' ⟨rfl, rfl⟩) | (go_at_call 215; refine K2.out.mono ?_; rintro e w' ⟨rfl, rfl⟩))
  go_ret3
  exact readsAs_bad HR.out
theorem beNat4_lt (l : List UInt8) : beNat (l.take 4) < 4294967296 := by
  have h := beNat_lt (l.take 4)
  have h2 : 256 ^ (l.take 4).length ≤ 256 ^ 4 := Nat.pow_le_pow_right (by omega) (by rw [List.length_take]; omega)
  exact Nat.lt_of_lt_of_le h h2
theorem read_torn3 (v : Value) (l : List UInt8) (at_ : Nat) (w : World) (hv : Bs w v l) (h1 : at_ + 8 ≤ l.length) (h2 : ¬ 1048576 < beNat ((l.drop at_).take 4)) (h3 : (l.length : Int) - at_ - 8 < beNat ((l.drop at_).take 4)) :
    Calls Tryz.prog 157 #[v, .int .i64 at_] w (ReadsAs l at_ w) := by
  obtain ⟨A, c, rfl, hlc, hc, hn⟩ := hv.form
  have K := Lib.hid (uint32_ok _ l at_ w hv (by omega))
  have K2 := Lib.hid (uint32_okI _ l (at_ + 4) ((at_ : Int) + 4) (by omega) w hv (by omega))
  have HR : Hid (frRead l at_ = ([], 0, 111)) := by
    unfold frRead Hid
    rw [if_neg (by omega), if_neg (by omega), show (at_ : Int).toNat = at_ from rfl, if_neg h2, if_pos h3]
  generalize beNat ((l.drop at_).take 4) = q at K h2 h3
  generalize beNat ((l.drop (at_ + 4)).take 4) = q2 at K2
  have tok1 : True := trivial
  clear hv
  go_enter Tryz.func157, Tryz.ntmps157
  go_wp2_with (first | (go_at_call 215; have _t := tok1; refine K.out.mono ?_; clear tok1; rintro e w' ⟨rfl, rfl⟩) | (go_at_call 215; refine K2.out.mono ?_; rintro e w' ⟨rfl, rfl⟩))
  go_ret3
  exact readsAs_bad HR.out

set_option maxHeartbeats 800000 in
theorem read_last (v : Value) (l : List UInt8) (at_ : Nat) (w : World) (hT : LaidF w) (hv : Bs w v l) (h1 : at_ + 8 ≤ l.length) (h2 : ¬ 1048576 < beNat ((l.drop at_).take 4)) (h3 : ¬ (l.length : Int) - at_ - 8 < beNat ((l.drop at_).take 4)) :
    Calls Tryz.prog 157 #[v, .int .i64 at_] w (ReadsAs l at_ w) := by
  obtain ⟨A, c, rfl, hlc, hc, hn⟩ := hv.form
  have K := Lib.hid (uint32_ok _ l at_ w hv (by omega))
  have K2 := Lib.hid (uint32_okI _ l (at_ + 4) ((at_ : Int) + 4) (by omega) w hv (by omega))
  have hs1 := hv.subI at_ 4 (at_ : Int) ((at_ : Int) + 4) rfl rfl (by omega)
  have hs2 := hv.subI (at_ + 8) (beNat ((l.drop at_).take 4)) ((at_ : Int) + 4 + 4) ((at_ : Int) + 4 + 4 + (beNat ((l.drop at_).take 4) : Nat)) (by omega) (by omega) (by omega)
  have h2s := beNat4_lt (l.drop (at_ + 4))
  have HR : Hid (frRead l at_ = if beNat ((l.drop (at_ + 4)).take 4) ≠ ext (ext 0 ((l.drop at_).take 4)) ((l.drop (at_ + 8)).take (beNat ((l.drop at_).take 4))) then ([], 0, 110) else
      ((l.drop (at_ + 8)).take (beNat ((l.drop at_).take 4)), (at_ : Int) + 8 + beNat ((l.drop at_).take 4), 0)) := by
    unfold frRead Hid
    rw [if_neg (by omega), if_neg (by omega), show (at_ : Int).toNat = at_ from rfl, if_neg h2, if_neg h3]
  have hdl : ((l.drop (at_ + 8)).take (beNat ((l.drop at_).take 4))).length ≤ 150000000000000 := by rw [List.length_take, List.length_drop]; omega
  generalize (l.drop (at_ + 8)).take (beNat ((l.drop at_).take 4)) = data at HR hs2 hdl
  generalize hq : beNat ((l.drop at_).take 4) = q at K h2 h3 HR hs2
  clear hq
  generalize (l.drop at_).take 4 = hd at HR hs1
  generalize beNat ((l.drop (at_ + 4)).take 4) = s at K2 HR h2s
  obtain ⟨A1, c1, hsl1, hb1⟩ := hs1
  obtain ⟨A2, c2, hsl2, hb2⟩ := hs2
  have hw1 : IntKind.i64.wrap (q : Int) = (q : Int) := IntWalk.i64_in _ (by omega)
  have KS := Lib.hid (sum_calls _ hd w hT hb1)
  have he0 := ext_lt 0 hd (by omega)
  have KE := Lib.hid (extend_calls (ext 0 hd) he0 _ data w hT hb2)
  have KC := Lib.hid (clone_calls _ data w hb2 hdl)
  generalize ext 0 hd = s0 at KS KE HR
  generalize ext s0 data = s1 at KE HR
  clear hv hT hb1 hb2 he0
  by_cases hs : s = s1
  · subst hs
    have HR2 : Hid (frRead l at_ = (data, (at_ : Int) + 8 + q, 0)) := by have := HR.out; simpa [Hid] using this
    clear HR
    have tok1 : True := trivial
    go_enter Tryz.func157, Tryz.ntmps157
    go_wp2_with (first | (go_at_call 215; have _t := tok1; refine K.out.mono ?_; clear tok1; rintro e w' ⟨rfl, rfl⟩) | (go_at_call 215; refine K2.out.mono ?_; rintro e w' ⟨rfl, rfl⟩) | (go_at_call 163; refine KS.out.mono ?_; rintro e w' ⟨rfl, rfl⟩) | (go_at_call 162; refine KE.out.mono ?_; rintro e w' ⟨rfl, rfl⟩) | (go_at_call 96; refine KC.out.mono ?_; rintro e w1 ⟨v1, rfl, ho1, hB1⟩))
    go_ret3
    exact readsAs_ok (by rw [HR2.out]; congr 2) ho1 hB1
  · have HR2 : Hid (frRead l at_ = ([], 0, 110)) := by have := HR.out; simpa [Hid, hs] using this
    clear HR
    have hs' : ((s : Int) == (s1 : Int)) = false := by simp; omega
    have hs2 : ((s : Int) != (s1 : Int)) = true := by simp; omega
    clear hs
    have tok1 : True := trivial
    go_enter Tryz.func157, Tryz.ntmps157
    go_wp2_with (first | (go_at_call 215; have _t := tok1; refine K.out.mono ?_; clear tok1; rintro e w' ⟨rfl, rfl⟩) | (go_at_call 215; refine K2.out.mono ?_; rintro e w' ⟨rfl, rfl⟩) | (go_at_call 163; refine KS.out.mono ?_; rintro e w' ⟨rfl, rfl⟩) | (go_at_call 162; refine KE.out.mono ?_; rintro e w' ⟨rfl, rfl⟩) | (go_at_call 96; refine KC.out.mono ?_; rintro e w1 ⟨v1, rfl, ho1, hB1⟩))
    go_ret3
    exact readsAs_bad HR2.out

theorem read_calls (v : Value) (l : List UInt8) (at_ : Int) (w : World) (hT : LaidF w) (hv : Bs w v l) (hl : l.length ≤ 150000000000000) :
    Calls Tryz.prog 157 #[v, .int .i64 at_] w (ReadsAs l at_ w) := by
  by_cases h0 : at_ < 0 ∨ (l.length : Int) < at_
  · exact read_arg v l at_ w hv h0
  · obtain ⟨n, rfl⟩ := Int.eq_ofNat_of_zero_le (show 0 ≤ at_ by omega)
    by_cases h1 : l.length < n + 4
    · exact read_torn1 v l n w hv (by omega) h1 hl
    · by_cases h2 : l.length < n + 8
      · exact read_torn2 v l n w hv (by omega) h2
      · by_cases h3 : 1048576 < beNat ((l.drop n).take 4)
        · exact read_big v l n w hv (by omega) h3
        · by_cases h4 : (l.length : Int) - n - 8 < beNat ((l.drop n).take 4)
          · exact read_torn3 v l n w hv (by omega) h3 h4
          · exact read_last v l n w hT hv (by omega) h3 h4

/-! ### the reference's -/
theorem rget_okI (v : Value) (l : List UInt8) (at_ : Nat) (a : Int) (ha : a = (at_ : Int)) (w : World) (hv : Bs w v l) (h1 : at_ + 4 ≤ l.length) :
    Calls Tryz.prog 216 #[v, .int .i64 a, .int .i64 4] w fun e w' => e = .returned (.tuple #[.int .u64 (beNat ((l.drop at_).take 4) : Nat), .int .i64 (at_ + 4 : Nat), .int .i64 0]) ∧ w = w' := by
  subst ha; exact rget_ok v l at_ 4 w hv h1 (by omega)
theorem rread_arg (v : Value) (l : List UInt8) (at_ : Int) (w : World) (hv : Bs w v l) (h : at_ < 0 ∨ (l.length : Int) < at_) :
    Calls Tryz.prog 160 #[v, .int .i64 at_] w (ReadsAs l at_ w) := by
  obtain ⟨A, c, rfl, hlc, hc, hn⟩ := hv.form
  have HR : Hid (frRead l at_ = ([], 0, 2)) := by unfold frRead Hid; rw [if_pos h]
  clear hv
  by_cases h0 : at_ < 0
  · clear h
    go_enter Tryz.func160, Tryz.ntmps160
    go_wp2
    go_ret3
    exact readsAs_bad HR.out
  · have h1 : (l.length : Int) < at_ := by omega
    clear h
    go_enter Tryz.func160, Tryz.ntmps160
    go_wp2
    go_ret3
    exact readsAs_bad HR.out
theorem rread_torn (v : Value) (l : List UInt8) (at_ : Nat) (w : World) (hv : Bs w v l) (h1 : at_ ≤ l.length) (h2 : l.length < at_ + 8) :
    Calls Tryz.prog 160 #[v, .int .i64 at_] w (ReadsAs l at_ w) := by
  obtain ⟨A, c, rfl, hlc, hc, hn⟩ := hv.form
  have HR : Hid (frRead l at_ = ([], 0, 111)) := by unfold frRead Hid; rw [if_neg (by omega), if_pos (by omega)]
  clear hv
  go_enter Tryz.func160, Tryz.ntmps160
  go_wp2
  go_ret3
  exact readsAs_bad HR.out
theorem rread_big (v : Value) (l : List UInt8) (at_ : Nat) (w : World) (hv : Bs w v l) (h1 : at_ + 8 ≤ l.length) (h2 : 1048576 < beNat ((l.drop at_).take 4)) :
    Calls Tryz.prog 160 #[v, .int .i64 at_] w (ReadsAs l at_ w) := by
  obtain ⟨A, c, rfl, hlc, hc, hn⟩ := hv.form
  have K := Lib.hid (rget_okI _ l at_ (at_ : Int) rfl w hv (by omega))
  have K2 := Lib.hid (rget_okI _ l (at_ + 4) ((at_ : Int) + 4) (by omega) w hv (by omega))
  have HR : Hid (frRead l at_ = ([], 0, 3)) := by
    unfold frRead Hid
    rw [if_neg (by omega), if_neg (by omega), show (at_ : Int).toNat = at_ from rfl, if_pos h2]
  generalize beNat ((l.drop at_).take 4) = q at K h2
  generalize beNat ((l.drop (at_ + 4)).take 4) = q2 at K2
  have tok1 : True := trivial
  clear hv
  go_enter Tryz.func160, Tryz.ntmps160
  go_wp2_with (first | (go_at_call 216; have _t := tok1; refine K.out.mono ?_; clear tok1; rintro e w' ⟨rfl, rfl⟩) | (go_at_call 216; refine K2.out.mono ?_; rintro e w' ⟨rfl, rfl⟩))
  go_ret3
  exact readsAs_bad HR.out
theorem rread_torn3 (v : Value) (l : List UInt8) (at_ : Nat) (w : World) (hv : Bs w v l) (h1 : at_ + 8 ≤ l.length) (h2 : ¬ 1048576 < beNat ((l.drop at_).take 4)) (h3 : (l.length : Int) - at_ - 8 < beNat ((l.drop at_).take 4)) :
    Calls Tryz.prog 160 #[v, .int .i64 at_] w (ReadsAs l at_ w) := by
  obtain ⟨A, c, rfl, hlc, hc, hn⟩ := hv.form
  have K := Lib.hid (rget_okI _ l at_ (at_ : Int) rfl w hv (by omega))
  have K2 := Lib.hid (rget_okI _ l (at_ + 4) ((at_ : Int) + 4) (by omega) w hv (by omega))
  have HR : Hid (frRead l at_ = ([], 0, 111)) := by
    unfold frRead Hid
    rw [if_neg (by omega), if_neg (by omega), show (at_ : Int).toNat = at_ from rfl, if_neg h2, if_pos h3]
  generalize beNat ((l.drop at_).take 4) = q at K h2 h3
  generalize beNat ((l.drop (at_ + 4)).take 4) = q2 at K2
  have hw1 : IntKind.i64.wrap (q : Int) = (q : Int) := IntWalk.i64_in _ (by omega)
  have tok1 : True := trivial
  clear hv
  go_enter Tryz.func160, Tryz.ntmps160
  go_wp2_with (first | (go_at_call 216; have _t := tok1; refine K.out.mono ?_; clear tok1; rintro e w' ⟨rfl, rfl⟩) | (go_at_call 216; refine K2.out.mono ?_; rintro e w' ⟨rfl, rfl⟩))
  go_ret3
  exact readsAs_bad HR.out

set_option maxHeartbeats 800000 in
theorem rread_last (v : Value) (l : List UInt8) (at_ : Nat) (w : World) (hv : Bs w v l) (h1 : at_ + 8 ≤ l.length) (h2 : ¬ 1048576 < beNat ((l.drop at_).take 4)) (h3 : ¬ (l.length : Int) - at_ - 8 < beNat ((l.drop at_).take 4)) :
    Calls Tryz.prog 160 #[v, .int .i64 at_] w (ReadsAs l at_ w) := by
  obtain ⟨A, c, rfl, hlc, hc, hn⟩ := hv.form
  have K := Lib.hid (rget_okI _ l at_ (at_ : Int) rfl w hv (by omega))
  have K2 := Lib.hid (rget_okI _ l (at_ + 4) ((at_ : Int) + 4) (by omega) w hv (by omega))
  have hs1 := hv.subI at_ 4 (at_ : Int) ((at_ : Int) + 4) rfl rfl (by omega)
  have hs2 := hv.subI (at_ + 8) (beNat ((l.drop at_).take 4)) ((at_ : Int) + 8) ((at_ : Int) + 8 + (beNat ((l.drop at_).take 4) : Nat)) (by omega) (by omega) (by omega)
  have h2s := beNat4_lt (l.drop (at_ + 4))
  have HR : Hid (frRead l at_ = if beNat ((l.drop (at_ + 4)).take 4) ≠ ext (ext 0 ((l.drop at_).take 4)) ((l.drop (at_ + 8)).take (beNat ((l.drop at_).take 4))) then ([], 0, 110) else
      ((l.drop (at_ + 8)).take (beNat ((l.drop at_).take 4)), (at_ : Int) + 8 + beNat ((l.drop at_).take 4), 0)) := by
    unfold frRead Hid
    rw [if_neg (by omega), if_neg (by omega), show (at_ : Int).toNat = at_ from rfl, if_neg h2, if_neg h3]
  have hdn : ((l.drop (at_ + 8)).take (beNat ((l.drop at_).take 4))).length = beNat ((l.drop at_).take 4) := by rw [List.length_take, List.length_drop]; omega
  generalize (l.drop (at_ + 8)).take (beNat ((l.drop at_).take 4)) = data at HR hs2 hdn
  generalize hq : beNat ((l.drop at_).take 4) = q at K h2 h3 HR hs2 hdn
  clear hq
  generalize (l.drop at_).take 4 = hd at HR hs1
  generalize beNat ((l.drop (at_ + 4)).take 4) = s at K2 HR h2s
  obtain ⟨A1, c1, hsl1, hb1⟩ := hs1
  obtain ⟨A2, c2, hsl2, hb2⟩ := hs2
  have hw1 : IntKind.i64.wrap (q : Int) = (q : Int) := IntWalk.i64_in _ (by omega)
  have hw2 : IntKind.u32.wrap (s : Int) = (s : Int) := by rw [IntKind.wrap_u32]; omega
  have KS := Lib.hid (rsum_calls _ hd w hb1)
  have he0 := ext_lt 0 hd (by omega)
  have KE := Lib.hid (rextend_calls (ext 0 hd) he0 _ data w hb2)
  have hdl : data.length ≤ 150000000000000 := by omega
  have HDN := Lib.hid hdn; clear hdn
  generalize ext 0 hd = s0 at KS KE HR
  generalize ext s0 data = s1 at KE HR
  clear hv hb1 he0
  by_cases hs : s = s1
  · subst hs
    have HR2 : Hid (frRead l at_ = (data, (at_ : Int) + 8 + q, 0)) := by have := HR.out; simpa [Hid] using this
    clear HR
    have tok1 : True := trivial
    have tok2 : True := trivial
    have hB0 : Below w.heap.size w (w.alloc (.cells #[] 5)) := (Below.refl _ _).alloc (Nat.le_refl _) _
    go_enter Tryz.func160, Tryz.ntmps160
    go_wp2_with (first | (go_at_call 216; have _t := tok1; refine K.out.mono ?_; clear tok1; rintro e w' ⟨rfl, rfl⟩) | (go_at_call 216; refine K2.out.mono ?_; rintro e w' ⟨rfl, rfl⟩) | (go_at_call 166; refine KS.out.mono ?_; rintro e w' ⟨rfl, rfl⟩) | (go_at_call 165; refine KE.out.mono ?_; rintro e w' ⟨rfl, rfl⟩) | (at_builtin; have _t := tok2; (refine app_u8 rfl _ _ rfl w.heap.size _ rfl [] (OwnB.zero w) _ rfl data (hb2.below hB0) ?_ ?_ ?_); (· simp; omega); (· simp); clear tok2; intro v1 w1 ho1 hg1 _; have hB1 := below_grown hB0 hg1 (OwnB.zero w) (le_alloc (Nat.le_refl _) _); rw [List.nil_append] at ho1))
    go_ret3
    exact readsAs_ok (by rw [HR2.out]) ho1 hB1
  · have HR2 : Hid (frRead l at_ = ([], 0, 110)) := by have := HR.out; simpa [Hid, hs] using this
    clear HR
    have hs' : ((s : Int) == (s1 : Int)) = false := by simp; omega
    have hs2 : ((s : Int) != (s1 : Int)) = true := by simp; omega
    clear hs
    have tok1 : True := trivial
    go_enter Tryz.func160, Tryz.ntmps160
    go_wp2_with (first | (go_at_call 216; have _t := tok1; refine K.out.mono ?_; clear tok1; rintro e w' ⟨rfl, rfl⟩) | (go_at_call 216; refine K2.out.mono ?_; rintro e w' ⟨rfl, rfl⟩) | (go_at_call 166; refine KS.out.mono ?_; rintro e w' ⟨rfl, rfl⟩) | (go_at_call 165; refine KE.out.mono ?_; rintro e w' ⟨rfl, rfl⟩))
    go_ret3
    exact readsAs_bad HR2.out
theorem rread_calls (v : Value) (l : List UInt8) (at_ : Int) (w : World) (hv : Bs w v l) :
    Calls Tryz.prog 160 #[v, .int .i64 at_] w (ReadsAs l at_ w) := by
  by_cases h0 : at_ < 0 ∨ (l.length : Int) < at_
  · exact rread_arg v l at_ w hv h0
  · obtain ⟨n, rfl⟩ := Int.eq_ofNat_of_zero_le (show 0 ≤ at_ by omega)
    by_cases h2 : l.length < n + 8
    · exact rread_torn v l n w hv (by omega) h2
    · by_cases h3 : 1048576 < beNat ((l.drop n).take 4)
      · exact rread_big v l n w hv (by omega) h3
      · by_cases h4 : (l.length : Int) - n - 8 < beNat ((l.drop n).take 4)
        · exact rread_torn3 v l n w hv (by omega) h3 h4
        · exact rread_last v l n w hv (by omega) h3 h4

/-! ### what the laws use beside them -/
theorem bump (x : UInt8) : IntKind.u8.wrap ((x.toNat : Int) + 1) = ((x + 1).toNat : Int) := by
  rw [IntKind.wrap_u8', UInt8.toNat_add]
  simp

theorem read_callsR {l m : List UInt8} {at_ q x : Int} (hfr : frRead l at_ = (m, q, x)) (v : Value) (w : World) (hT : LaidF w) (hv : Bs w v l) (hl : l.length ≤ 150000000000000) :
    Calls Tryz.prog 157 #[v, .int .i64 at_] w fun e w' => ∃ v', e = .returned (.tuple #[v', .int .i64 q, .int .i64 x]) ∧ OwnB w' w.heap.size v' m ∧ Below w.heap.size w w' := by
  have h := read_calls v l at_ w hT hv hl
  unfold ReadsAs at h
  rw [hfr] at h
  exact h
theorem rread_callsR {l m : List UInt8} {at_ q x : Int} (hfr : frRead l at_ = (m, q, x)) (v : Value) (w : World) (hv : Bs w v l) :
    Calls Tryz.prog 160 #[v, .int .i64 at_] w fun e w' => ∃ v', e = .returned (.tuple #[v', .int .i64 q, .int .i64 x]) ∧ OwnB w' w.heap.size v' m ∧ Below w.heap.size w w' := by
  have h := rread_calls v l at_ w hv
  unfold ReadsAs at h
  rw [hfr] at h
  exact h
end Go.Proofs.YtjllkmkngjdjjaaGreatDoor
namespace Go.Proofs.YtjllkmkngjdjjaaGreatDoor
open Go.RowKit
set_option maxRecDepth 100000

/-- A frame with data. -/
def fr (data : List UInt8) : List UInt8 := be 4 data.length ++ be 4 (ext (ext 0 (be 4 data.length)) data) ++ data
theorem fr_length (data : List UInt8) : (fr data).length = 8 + data.length := by simp [fr, be_length]; omega

theorem put_big (vb vd : Value) (d : List UInt8) (w : World) (hd : Bs w vd d) (h : 1048576 < d.length) :
    Calls Tryz.prog 109 #[vb, vd] w fun e w' => e = .returned (.tuple #[.slice Option.none 0 0, .int .i64 3]) ∧ w = w' := by
  obtain ⟨A, c, rfl, hlc, hc, hn⟩ := hd.form
  clear hd
  go_enter Tryz.func109, Tryz.ntmps109
  go_wp2
  go_ret2
  exact ⟨rfl, rfl⟩

set_option maxHeartbeats 1000000 in
theorem fput_calls (vb vd : Value) (b d : List UInt8) (w : World) (hT : LaidF w) (hb : Bs w vb b) (hd : Bs w vd d) (h : d.length ≤ 1048576) (hbl : b.length ≤ 140737490000000) :
    Calls Tryz.prog 109 #[vb, vd] w fun e w' => ∃ v', e = .returned (.tuple #[v', .int .i64 0]) ∧ OwnB w' w.heap.size v' (b ++ fr d) ∧ Below w.heap.size w w' := by
  obtain ⟨A, c, rfl, hlc, hc, hn⟩ := hd.form
  obtain ⟨Ab, cb, rfl, hlcb, hcb, hnb⟩ := hb.form
  have hw1 : IntKind.u32.wrap (d.length : Int) = (d.length : Int) := by rw [IntKind.wrap_u32]; omega
  have hnil : Bs w (.slice Option.none 0 0) [] := (OwnB.nil w 0).bs
  have KP := Lib.hid (putUint32_calls _ [] d.length w hnil (by omega) (by simp))
  have HF : Hid (fr d = be 4 d.length ++ be 4 (ext (ext 0 (be 4 d.length)) d) ++ d) := rfl
  have hl4 : (be 4 d.length).length = 4 := be_length _ _
  rw [List.nil_append] at KP
  generalize be 4 d.length = hd4 at KP HF hl4
  have hs0 := ext_lt 0 hd4 (by omega)
  have hs1 := ext_lt (ext 0 hd4) d hs0
  have HS0 : Hid (ext 0 hd4 = ext 0 hd4) := rfl
  generalize hq0 : ext 0 hd4 = s0 at hs0 hs1 HF
  generalize hq1 : ext s0 d = s1 at hs1 HF
  have HQ0 := Lib.hid hq0; clear hq0 HS0
  have HQ1 := Lib.hid hq1; clear hq1
  have HL4 := Lib.hid hl4; clear hl4
  have tok1 : True := trivial
  go_enter Tryz.func109, Tryz.ntmps109
  go_wp2_with (first
    | (go_at_call 161; have _t := tok1; refine KP.out.mono ?_; clear tok1; rintro e w1 ⟨v1, rfl, ho1, hB1⟩)
    | (go_at_call 163; refine (sum_calls _ hd4 _ (hT.below hB1) ho1.bs).mono ?_; rw [HQ0.out]; rintro e w2 ⟨rfl, rfl⟩)
    | (go_at_call 162; refine (extend_calls s0 hs0 _ d _ (hT.below hB1) (hd.below hB1)).mono ?_; rw [HQ1.out]; rintro e w2 ⟨rfl, rfl⟩)
    | (go_at_call 161; refine (putUint32_calls _ hd4 s1 _ ho1.bs hs1 ?_).mono ?_; (· rw [HL4.out]; omega); rintro e w3 ⟨v3, rfl, ho3, hB3⟩; have hB13 := below_then hB1 hB3; obtain ⟨A3, c3, rfl, hl3, hc3, hn3⟩ := ho3.form_n 8 (by rw [List.length_append, be_length, HL4.out]))
    | (go_at_call 126; have hB4 := hB13.alloc hB13.size (.cells #[.slice Ab b.length cb, .slice A3 8 c3, .slice A d.length c] 35); refine (concat_calls _ 3 3 [.slice Ab b.length cb, .slice A3 8 c3, .slice A d.length c] [b, hd4 ++ be 4 s1, d] _ (Row.new w3 _ _ 3 3 (Nat.le_refl _) (by unfold maxLen; omega)) rfl (.cons (hb.below hB4) (.cons (ho3.bs.below ((Below.refl _ _).alloc (Nat.le_refl _) _)) (.cons (hd.below hB4) (.nil _)))) ?_).mono ?_; (· simp [be_length]; have := HL4.out; omega); rintro e w5 ⟨v5, rfl, ho5, hB5⟩))
  go_ret2
  refine ⟨_, rfl, ?_, below_then hB4 hB5⟩
  rw [HF.out]
  simp only [List.flatten_cons, List.flatten_nil, List.append_nil] at ho5
  exact ho5.lower hB4.size

set_option maxHeartbeats 1000000 in
theorem rframe_calls (vd : Value) (d : List UInt8) (w : World) (hd : Bs w vd d) (h : d.length ≤ 1048576) :
    Calls Tryz.prog 111 #[vd] w fun e w' => ∃ v', e = .returned v' ∧ OwnB w' w.heap.size v' (fr d) ∧ Below w.heap.size w w' := by
  obtain ⟨A, c, rfl, hlc, hc, hn⟩ := hd.form
  have hw1 : IntKind.u64.wrap (d.length : Int) = (d.length : Int) := by rw [IntKind.wrap_u64]; omega
  have KP := Lib.hid (number4_calls d.length w (by omega))
  have HF : Hid (fr d = be 4 d.length ++ be 4 (ext (ext 0 (be 4 d.length)) d) ++ d) := rfl
  have hl4 : (be 4 d.length).length = 4 := be_length _ _
  generalize be 4 d.length = hd4 at KP HF hl4
  have hs0 := ext_lt 0 hd4 (by omega)
  have hs1 := ext_lt (ext 0 hd4) d hs0
  generalize hq0 : ext 0 hd4 = s0 at hs0 hs1 HF
  generalize hq1 : ext s0 d = s1 at hs1 HF
  have HQ0 := Lib.hid hq0; clear hq0
  have HQ1 := Lib.hid hq1; clear hq1
  have HL4 := Lib.hid hl4; clear hl4
  have hw2 : IntKind.u64.wrap (s1 : Int) = (s1 : Int) := by rw [IntKind.wrap_u64]; omega
  have tok1 : True := trivial
  have tok2 : True := trivial
  go_enter Tryz.func111, Tryz.ntmps111
  go_wp2_with (first
    | (go_at_call 164; have _t := tok1; refine KP.out.mono ?_; clear tok1; rintro e w1 ⟨v1, rfl, ho1, hB1⟩)
    | (go_at_call 166; refine (rsum_calls _ hd4 _ ho1.bs).mono ?_; rw [HQ0.out]; rintro e w2 ⟨rfl, rfl⟩)
    | (go_at_call 165; refine (rextend_calls s0 hs0 _ d _ (hd.below hB1)).mono ?_; rw [HQ1.out]; rintro e w2 ⟨rfl, rfl⟩)
    | (go_at_call 164; refine (number4_calls s1 _ ?_).mono ?_; (· omega); rintro e w3 ⟨v3, rfl, ho3, hB3⟩; have hB13 := below_then hB1 hB3)
    | (at_builtin; have _t := tok2; (refine app_u8 rfl _ _ rfl w.heap.size _ rfl hd4 (ho1.below hB3) _ rfl (be 4 s1) ho3.bs ?_ ?_ ?_); (· simp [be_length]; have := HL4.out; omega); (· exact hB13.size); clear tok2; intro v4 w4 ho4 hg4 _; have hB4 := below_grown hB13 hg4 (ho1.below hB3) hB13.size)
    | (at_builtin; (refine app_u8 rfl _ _ rfl w.heap.size _ rfl (hd4 ++ be 4 s1) ho4 _ rfl d (hd.below hB4) ?_ ?_ ?_); (· simp [be_length]; have := HL4.out; omega); (· exact hB4.size); intro v5 w5 ho5 hg5 _; have hB5 := below_grown hB4 hg5 ho4 hB4.size))
  go_ret
  refine ⟨_, rfl, ?_, hB5⟩
  rw [HF.out]
  exact ho5
end Go.Proofs.YtjllkmkngjdjjaaGreatDoor
