/- WALKS of frame.Put, Cost and the reference's Frame. No statement of the seed is proved here. -/
import Derived.Test.YthgjecofmnomfaaDoorFrameR
namespace Go.Proofs.YthgjecofmnomfaaDoor
open Go.RowKit
set_option maxRecDepth 100000

/-- A frame with data. -/
def fr (data : List UInt8) : List UInt8 := be 4 data.length ++ be 4 (ext (ext 0 (be 4 data.length)) data) ++ data
theorem fr_length (data : List UInt8) : (fr data).length = 8 + data.length := by simp [fr, be_length]; omega

theorem cost_calls (n : Int) (h0 : -9223372036854775808 ≤ n) (h1 : n ≤ 9223372036854775807) (w : World) :
    Calls Tryd.prog 19 #[.int .i64 n] w fun e w' => e = .returned (.tuple #[.int .i64 (if n < 0 then 0 else if 1048576 < n then 0 else 8 + n), .int .i64 (if n < 0 then 2 else if 1048576 < n then 3 else 0)]) ∧ w = w' := by
  by_cases c1 : n < 0
  · rw [if_pos c1, if_pos c1]
    go_enter Tryd.func19, Tryd.ntmps19
    go_wp2
    go_ret2
    exact ⟨rfl, rfl⟩
  · rw [if_neg c1, if_neg c1]
    by_cases c2 : 1048576 < n
    · rw [if_pos c2, if_pos c2]
      go_enter Tryd.func19, Tryd.ntmps19
      go_wp2
      go_ret2
      exact ⟨rfl, rfl⟩
    · rw [if_neg c2, if_neg c2]
      go_enter Tryd.func19, Tryd.ntmps19
      go_wp2
      go_ret2
      exact ⟨rfl, rfl⟩

theorem put_big (vb vd : Value) (d : List UInt8) (w : World) (hd : Bs w vd d) (h : 1048576 < d.length) :
    Calls Tryd.prog 18 #[vb, vd] w fun e w' => e = .returned (.tuple #[.slice Option.none 0 0, .int .i64 3]) ∧ w = w' := by
  obtain ⟨A, c, rfl, hlc, hc, hn⟩ := hd.form
  clear hd
  go_enter Tryd.func18, Tryd.ntmps18
  go_wp2
  go_ret2
  exact ⟨rfl, rfl⟩

set_option maxHeartbeats 1000000 in
theorem fput_calls (vb vd : Value) (b d : List UInt8) (w : World) (hT : LaidF w) (hb : Bs w vb b) (hd : Bs w vd d) (h : d.length ≤ 1048576) (hbl : b.length ≤ 140737490000000) :
    Calls Tryd.prog 18 #[vb, vd] w fun e w' => ∃ v', e = .returned (.tuple #[v', .int .i64 0]) ∧ OwnB w' w.heap.size v' (b ++ fr d) ∧ Below w.heap.size w w' := by
  obtain ⟨A, c, rfl, hlc, hc, hn⟩ := hd.form
  obtain ⟨Ab, cb, rfl, hlcb, hcb, hnb⟩ := hb.form
  have hw1 : IntKind.u32.wrap (d.length : Int) = (d.length : Int) := by rw [IntKind.wrap_u32]; omega
  have hnil : Bs w (.slice Option.none 0 0) [] := (OwnB.nil w 0).bs
  have KP := Lib.hid (putUint32_calls _ [] d.length w hnil (by omega) (by simp))
  have HF : Hid (fr d = be 4 d.length ++ be 4 (ext (ext 0 (be 4 d.length)) d) ++ d) := rfl
  have hl4 : (be 4 d.length).length = 4 := be_length _ _
  rw [List.nil_append] at KP
  generalize be 4 d.length = hd4 at KP HF hl4
  have hs0 := ext_lt 0 hd4 (by omega)
  have hs1 := ext_lt (ext 0 hd4) d hs0
  have HS0 : Hid (ext 0 hd4 = ext 0 hd4) := rfl
  generalize hq0 : ext 0 hd4 = s0 at hs0 hs1 HF
  generalize hq1 : ext s0 d = s1 at hs1 HF
  have HQ0 := Lib.hid hq0; clear hq0 HS0
  have HQ1 := Lib.hid hq1; clear hq1
  have HL4 := Lib.hid hl4; clear hl4
  have tok1 : True := trivial
  go_enter Tryd.func18, Tryd.ntmps18
  go_wp2_with (first
    | (go_at_call 37; have _t := tok1; refine KP.out.mono ?_; clear tok1; rintro e w1 ⟨v1, rfl, ho1, hB1⟩)
    | (go_at_call 10; refine (sum_calls _ hd4 _ (hT.below hB1) ho1.bs).mono ?_; rw [HQ0.out]; rintro e w2 ⟨rfl, rfl⟩)
    | (go_at_call 12; refine (extend_calls s0 hs0 _ d _ (hT.below hB1) (hd.below hB1)).mono ?_; rw [HQ1.out]; rintro e w2 ⟨rfl, rfl⟩)
    | (go_at_call 37; refine (putUint32_calls _ hd4 s1 _ ho1.bs hs1 ?_).mono ?_; (· rw [HL4.out]; omega); rintro e w3 ⟨v3, rfl, ho3, hB3⟩; have hB13 := below_then hB1 hB3; obtain ⟨A3, c3, rfl, hl3, hc3, hn3⟩ := ho3.form_n 8 (by rw [List.length_append, be_length, HL4.out]))
    | (go_at_call 38; have hB4 := hB13.alloc hB13.size (.cells #[.slice Ab b.length cb, .slice A3 8 c3, .slice A d.length c] 23); refine (concat_calls _ 3 3 [.slice Ab b.length cb, .slice A3 8 c3, .slice A d.length c] [b, hd4 ++ be 4 s1, d] _ (Row.new w3 _ _ 3 3 (Nat.le_refl _) (by unfold maxLen; omega)) rfl (.cons (hb.below hB4) (.cons (ho3.bs.below ((Below.refl _ _).alloc (Nat.le_refl _) _)) (.cons (hd.below hB4) (.nil _)))) ?_).mono ?_; (· simp [be_length]; have := HL4.out; omega); rintro e w5 ⟨v5, rfl, ho5, hB5⟩))
  go_ret2
  refine ⟨_, rfl, ?_, below_then hB4 hB5⟩
  rw [HF.out]
  simp only [List.flatten_cons, List.flatten_nil, List.append_nil] at ho5
  exact ho5.lower hB4.size

set_option maxHeartbeats 1000000 in
theorem rframe_calls (vd : Value) (d : List UInt8) (w : World) (hd : Bs w vd d) (h : d.length ≤ 1048576) :
    Calls Tryd.prog 20 #[vd] w fun e w' => ∃ v', e = .returned v' ∧ OwnB w' w.heap.size v' (fr d) ∧ Below w.heap.size w w' := by
  obtain ⟨A, c, rfl, hlc, hc, hn⟩ := hd.form
  have hw1 : IntKind.u64.wrap (d.length : Int) = (d.length : Int) := by rw [IntKind.wrap_u64]; omega
  have KP := Lib.hid (number4_calls d.length w (by omega))
  have HF : Hid (fr d = be 4 d.length ++ be 4 (ext (ext 0 (be 4 d.length)) d) ++ d) := rfl
  have hl4 : (be 4 d.length).length = 4 := be_length _ _
  generalize be 4 d.length = hd4 at KP HF hl4
  have hs0 := ext_lt 0 hd4 (by omega)
  have hs1 := ext_lt (ext 0 hd4) d hs0
  generalize hq0 : ext 0 hd4 = s0 at hs0 hs1 HF
  generalize hq1 : ext s0 d = s1 at hs1 HF
  have HQ0 := Lib.hid hq0; clear hq0
  have HQ1 := Lib.hid hq1; clear hq1
  have HL4 := Lib.hid hl4; clear hl4
  have hw2 : IntKind.u64.wrap (s1 : Int) = (s1 : Int) := by rw [IntKind.wrap_u64]; omega
  have tok1 : True := trivial
  have tok2 : True := trivial
  go_enter Tryd.func20, Tryd.ntmps20
  go_wp2_with (first
    | (go_at_call 39; have _t := tok1; refine KP.out.mono ?_; clear tok1; rintro e w1 ⟨v1, rfl, ho1, hB1⟩)
    | (go_at_call 11; refine (rsum_calls _ hd4 _ ho1.bs).mono ?_; rw [HQ0.out]; rintro e w2 ⟨rfl, rfl⟩)
    | (go_at_call 13; refine (rextend_calls s0 hs0 _ d _ (hd.below hB1)).mono ?_; rw [HQ1.out]; rintro e w2 ⟨rfl, rfl⟩)
    | (go_at_call 39; refine (number4_calls s1 _ ?_).mono ?_; (· omega); rintro e w3 ⟨v3, rfl, ho3, hB3⟩; have hB13 := below_then hB1 hB3)
    | (at_builtin; have _t := tok2; (refine app_u8 rfl _ _ rfl w.heap.size _ rfl hd4 (ho1.below hB3) _ rfl (be 4 s1) ho3.bs ?_ ?_ ?_); (· simp [be_length]; have := HL4.out; omega); (· exact hB13.size); clear tok2; intro v4 w4 ho4 hg4 _; have hB4 := below_grown hB13 hg4 (ho1.below hB3) hB13.size)
    | (at_builtin; (refine app_u8 rfl _ _ rfl w.heap.size _ rfl (hd4 ++ be 4 s1) ho4 _ rfl d (hd.below hB4) ?_ ?_ ?_); (· simp [be_length]; have := HL4.out; omega); (· exact hB4.size); intro v5 w5 ho5 hg5 _; have hB5 := below_grown hB4 hg5 ho4 hB4.size))
  go_ret
  refine ⟨_, rfl, ?_, hB5⟩
  rw [HF.out]
  exact ho5
end Go.Proofs.YthgjecofmnomfaaDoor
