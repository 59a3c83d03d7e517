/- WALK of the law FramePuts: any data are framed behind any bytes as the document says, or refused. -/
import Derived.Test.YthgjecofmnomfaaDoorFrameP
import Derived.Deep.RegionWith
namespace Go.Proofs.YthgjecofmnomfaaDoor
open Go.RowKit
set_option maxRecDepth 100000

def costC (n : Int) : Int := if n < 0 then 0 else if 1048576 < n then 0 else 8 + n
def costE (n : Int) : Int := if n < 0 then 2 else if 1048576 < n then 3 else 0
theorem cost_three (n : Int) (h0 : -9223372036854775808 ≤ n) (h1 : n ≤ 9223372036854775807) :
    (n < 0 ∧ costC n = 0 ∧ costE n = 2) ∨ (0 ≤ n ∧ 1048576 < n ∧ costC n = 0 ∧ costE n = 3) ∨ (0 ≤ n ∧ n ≤ 1048576 ∧ costC n = 8 + n ∧ costE n = 0) := by
  unfold costC costE
  by_cases c1 : n < 0
  · simp [c1]
  · by_cases c2 : 1048576 < n
    · right; left; simp [c1, c2]; omega
    · right; right; simp [c1, c2]; omega

set_option maxHeartbeats 2000000 in
theorem framePuts_big (n : Int) (h0 : -9223372036854775808 ≤ n) (h1 : n ≤ 9223372036854775807) (v vd : Value) (l d : List UInt8) (w : World) (hv : Bs w v l) (hl : l.length ≤ 140737488351232) (hd : Bs w vd d) (hbig : 1048576 < d.length) :
    Calls Tryd.prog 5 #[v, vd, .int .i64 n] w fun e w' => e = .returned (.bool true) ∧ Below w.heap.size w w' := by
  obtain ⟨A, c, rfl, hlc, hc, hn⟩ := hv.form
  obtain ⟨Ad, cd, rfl, hlcd, hcd, hnd⟩ := hd.form
  have hB0 : Below w.heap.size w (w.alloc (.cells #[] 5)) := (Below.refl _ _).alloc (Nat.le_refl _) _
  have KC := Lib.hid (fun w => cost_calls n h0 h1 w)
  have hb : decide ((1048576 : Int) < (d.length : Int)) = true := decide_eq_true (by omega)
  rcases cost_three n h0 h1 with ⟨a1, a2, a3⟩ | ⟨a0, a1, a2, a3⟩ | ⟨a0, a1, a2, a3⟩
  all_goals
    have H2 := Lib.hid a2
    have H3 := Lib.hid a3
    clear a2 a3
    have tok1 : True := trivial
    have tok2 : True := trivial
    have tok3 : True := trivial
    go_enter Tryd.func5, Tryd.ntmps5
    go_wp2_with (first
      | (at_builtin; have _t := tok1; (refine app_u8 rfl _ _ rfl w.heap.size _ rfl [] (OwnB.zero w) _ rfl l (hv.below hB0) ?_ ?_ ?_); (· simp; omega); (· simp); clear tok1; intro v1 w1 ho1 hg1 _; have hB1 := below_grown hB0 hg1 (OwnB.zero w) (le_alloc (Nat.le_refl _) _); rw [List.nil_append] at ho1)
      | (at_builtin; have _t := tok2; (refine app_u8 rfl _ _ rfl w.heap.size _ rfl l (ho1.alloc _) _ rfl [90] (Bs.one _ _ _ rfl) ?_ ?_ ?_); (· simp; omega); (· have := hB1.size; simp; omega); clear tok2; intro v2 w2 ho2 hg2 _; have hB2 := below_grown (hB1.alloc hB1.size _) hg2 (ho1.alloc _) (le_alloc hB1.size _); obtain ⟨A2, c2, rfl, hl2, hc2, hn2⟩ := ho2.form_n (l.length + 1) (by simp); have hin : Bs w2 (.slice A2 l.length c2) l := ho2.bs.pre rfl; clear hg1 hg2 ho1; have k3 := str_u8 ho2.bs; have k4 := str_u8 (hv.below hB2); have k5 := str_cat l [90] #[90] rfl)
      | (go_at_call 18; refine (put_big _ _ d _ (hd.below hB2) hbig).mono ?_; rintro e w3 ⟨rfl, rfl⟩)
      | (go_at_call 19; refine (KC.out _).mono ?_; rw [show (if n < 0 then (0 : Int) else if 1048576 < n then 0 else 8 + n) = _ from H2.out, show (if n < 0 then (2 : Int) else if 1048576 < n then 3 else 0) = _ from H3.out]; rintro e w3 ⟨rfl, rfl⟩)
      | (go_at_call 17; refine (names11_calls _).mono ?_; rintro e w7 ⟨rfl, rfl⟩))
    go_ret
    exact ⟨rfl, hB2⟩

set_option maxHeartbeats 4000000 in
theorem framePuts_small (n : Int) (h0 : -9223372036854775808 ≤ n) (h1 : n ≤ 9223372036854775807) (v vd : Value) (l d : List UInt8) (w : World) (hT : LaidF w) (hv : Bs w v l) (hl : l.length ≤ 140737488351232) (hd : Bs w vd d) (hsm : d.length ≤ 1048576) :
    Calls Tryd.prog 5 #[v, vd, .int .i64 n] w fun e w' => e = .returned (.bool true) ∧ Below w.heap.size w w' := by
  obtain ⟨A, c, rfl, hlc, hc, hn⟩ := hv.form
  obtain ⟨Ad, cd, rfl, hlcd, hcd, hnd⟩ := hd.form
  have hB0 : Below w.heap.size w (w.alloc (.cells #[] 5)) := (Below.refl _ _).alloc (Nat.le_refl _) _
  have KC := Lib.hid (fun w => cost_calls n h0 h1 w)
  have hfl : (fr d).length ≤ 1048584 := by rw [fr_length]; omega
  have hb : decide ((1048576 : Int) < (d.length : Int)) = false := decide_eq_false (by omega)
  rcases cost_three n h0 h1 with ⟨a1, a2, a3⟩ | ⟨a0, a1, a2, a3⟩ | ⟨a0, a1, a2, a3⟩
  all_goals
    have H2 := Lib.hid a2
    have H3 := Lib.hid a3
    clear a2 a3
    have tok1 : True := trivial
    have tok2 : True := trivial
    have tok3 : True := trivial
    go_enter Tryd.func5, Tryd.ntmps5
    go_wp2_with (first
      | (at_builtin; have _t := tok1; (refine app_u8 rfl _ _ rfl w.heap.size _ rfl [] (OwnB.zero w) _ rfl l (hv.below hB0) ?_ ?_ ?_); (· simp; omega); (· simp); clear tok1; intro v1 w1 ho1 hg1 _; have hB1 := below_grown hB0 hg1 (OwnB.zero w) (le_alloc (Nat.le_refl _) _); rw [List.nil_append] at ho1)
      | (at_builtin; have _t := tok2; (refine app_u8 rfl _ _ rfl w.heap.size _ rfl l (ho1.alloc _) _ rfl [90] (Bs.one _ _ _ rfl) ?_ ?_ ?_); (· simp; omega); (· have := hB1.size; simp; omega); clear tok2; intro v2 w2 ho2 hg2 _; have hB2 := below_grown (hB1.alloc hB1.size _) hg2 (ho1.alloc _) (le_alloc hB1.size _); obtain ⟨A2, c2, rfl, hl2, hc2, hn2⟩ := ho2.form_n (l.length + 1) (by simp); have hin : Bs w2 (.slice A2 l.length c2) l := ho2.bs.pre rfl; clear hg1 hg2 ho1)
      | (go_at_call 18; have _t := tok3; refine (fput_calls _ _ l d _ (hT.below hB2) hin (hd.below hB2) hsm ?_).mono ?_; (· omega); clear tok3; rintro e w3 ⟨vx, rfl, hox, hBx⟩; have hB3 := below_then hB2 hBx)
      | (go_at_call 18; refine (fput_calls _ _ l d _ (hT.below hB3) (hin.below hBx) (hd.below hB3) hsm ?_).mono ?_; (· omega); rintro e w4 ⟨vy, rfl, hoy, hBy⟩; have hB4 := below_then hB3 hBy; have k3 := str_u8 ((ho2.bs.below hBx).below hBy); have k4 := str_u8 (hv.below hB4); have k5 := str_cat l [90] #[90] rfl)
      | (go_at_call 19; refine (KC.out _).mono ?_; rw [show (if n < 0 then (0 : Int) else if 1048576 < n then 0 else 8 + n) = _ from H2.out, show (if n < 0 then (2 : Int) else if 1048576 < n then 3 else 0) = _ from H3.out]; rintro e w5 ⟨rfl, rfl⟩)
      | (go_at_call 17; refine (names11_calls _).mono ?_; rintro e w7 ⟨rfl, rfl⟩))
    have hBd : Below w4.heap.size w4 w4.drew := (Below.refl _ _).drew
    have hBD := below_then hB4 hBd
    have k8 := str_u8 (hv.below hBD)
    have k11 := str_cat l (fr d) (fr d).toArray rfl
    clear k3 k4 KC
    go_region_with (go_at_call 20; refine (rframe_calls _ d _ (hd.below hBD) hsm).mono ?_; rintro e w5 ⟨vz, rfl, hoz, hBz⟩; have hB5 := below_then hBD hBz; have k6 := str_u8 hoz.bs; have k7 := str_u8 (hv.below hB5); have k9 := str_u8 (((hox.bs.below hBy).below hBd).below hBz); have hox5 := ((hox.below hBy).below hBd).below hBz; have hoy5 := (hoy.below hBd).below hBz)
    all_goals
      go_wp2_with (go_at_call 16; refine (spoil_calls _ _ _ _ hox5).mono ?_; rintro e w6 ⟨rfl, ho6, hg6⟩; have hB6 := hB5.grown hg6 hB5.size (fun k hk => Nat.le_trans hB2.size (hox5.lt k hk).1); have k10 := str_u8 (hoy5.kept hg6 (own_apart hox hoy)).bs)
      go_ret
      exact ⟨rfl, hB6⟩

theorem framePuts_walk (n : Int) (h0 : -9223372036854775808 ≤ n) (h1 : n ≤ 9223372036854775807) (v : Value) (l : List UInt8) (vd : Value) (d : List UInt8) (w : World) (hT : LaidF w) (hv : Bs w v l) (hl : l.length ≤ 140737488351232) (hd : Bs w vd d) (_hdl : d.length ≤ 140737488351232) :
    Calls Tryd.prog 5 #[v, vd, .int .i64 n] w fun e w' => e = .returned (.bool true) ∧ Below w.heap.size w w' := by
  by_cases h : d.length ≤ 1048576
  · exact framePuts_small n h0 h1 v vd l d w hT hv hl hd h
  · exact framePuts_big n h0 h1 v vd l d w hv hl hd (by omega)
end Go.Proofs.YthgjecofmnomfaaDoor
