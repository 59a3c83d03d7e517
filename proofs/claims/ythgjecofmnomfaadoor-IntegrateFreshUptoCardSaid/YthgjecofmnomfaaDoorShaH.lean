/- WALKS of the reference's End, Sum and Leaf. No statement of the seed is proved here. -/
import Derived.Test.YthgjecofmnomfaaDoorShaG
import Derived.Deep.RegionHeld3
import Derived.Deep.AppendLies
import Derived.Great.BuildSlice
namespace Go.Proofs.YthgjecofmnomfaaDoor
open Go.RowKit
set_option maxRecDepth 100000
/-- The variable's memory, if it has come up: apart from what is written to. -/
def Fl (B : Nat) (b : Bool) (x own : Value) (w : World) : Prop := b = true → ∃ p, x = .pointer (some ⟨p, 0, none⟩) ∧ B ≤ p ∧ Arr w p (u8s (List.replicate 32 0)) ∧ own.ownBlock ≠ some p
theorem Fl.below {B : Nat} {b : Bool} {x o o' : Value} {w w' : World} (h : Fl B b x o w) (hb : Below w.heap.size w w') (ho : o'.ownBlock = o.ownBlock ∨ o'.ownBlock = Option.none ∨ ∃ k, o'.ownBlock = some k ∧ w.heap.size ≤ k) : Fl B b x o' w' := fun e => by
  obtain ⟨p, rfl, h1, h2, h3⟩ := h e
  have hlt := h2.lt (by simp [u8s])
  refine ⟨p, rfl, h1, h2.below hb, fun e2 => ?_⟩
  rcases ho with ho | ho | ⟨k, ho, hk⟩
  · exact h3 (by rw [← ho]; exact e2)
  · rw [ho] at e2; cases e2
  · rw [ho] at e2; cases e2; omega
theorem Fl.grown {B : Nat} {b : Bool} {x o o' : Value} {w w' : World} (h : Fl B b x o w) (hg : w.grownBy w' o.ownBlock) (ho : o'.ownBlock = o.ownBlock ∨ o'.ownBlock = some w.heap.size) : Fl B b x o' w' := fun e => by
  obtain ⟨p, rfl, h1, h2, h3⟩ := h e
  have hlt := h2.lt (by simp [u8s])
  refine ⟨p, rfl, h1, h2.grown (by simp [u8s]) hg h3, fun e2 => ?_⟩
  rcases ho with ho | ho
  · exact h3 (by rw [← ho]; exact e2)
  · rw [ho] at e2; cases e2; omega
theorem Fl.make {B : Nat} {o : Value} {w : World} (hB : B ≤ w.heap.size) (ho : ∀ k, o.ownBlock = some k → k < w.heap.size) : Fl B true (.pointer (some ⟨w.heap.size, 0, none⟩)) o (w.alloc (.cells (u8s (List.replicate 32 0)).toArray 62)) := fun _ =>
  ⟨_, rfl, hB, Arr.new w _ _, fun e => by have := ho _ e; omega⟩
theorem run_op_ld {P : Program} {o : Oper} {ρ : Operand → Value} (ty : TypeId) (x : Operand) (ho : o.op = .load ty x) (p v : Value) (hx : ρ x = p) (w : World) (hr : (Instr.loadAt ty p).run P w = .ok v w) : (execOp ρ o).run P w = .ok (.value v) w := by
  unfold execOp
  simp only [ho, hx, Sem.run_bind, Sem.run_pure, hr, Result.andThen_ok]
def frE (s0 : S8) (n bW : Nat) (v vp x9 t17 t19 t21 t23 t24 t25 t26 t27 t28 t29 : Value) : Act :=
  { tmps := #[.agg (u32s s0.l).toArray, .int .i64 (n : Int), v, .pointer (some ⟨bW, 0, none⟩), undef, undef, .pointer (some ⟨bW + 1, 0, none⟩), vp, .int .i64 0, x9, undef, undef, .tuple #[vp, .int .i64 0], .int .i64 (n : Int), .tuple #[vp, .int .i64 0], vp, .int .i64 0, t17, .agg (u32s s0.l).toArray, t19, v, t21, vp, t23, t24, t25, t26, t27, t28, t29, undef], defers := [] }
def KE (s0 : S8) (n bW : Nat) (v vp : Value) (l : List UInt8) (w1 : World) (b : Bool) : Nat → Act → World → Prop
  | 0, a, w => Below w1.heap.size w1 w ∧ ∃ x, a = frE s0 n bW v vp x undef undef undef undef undef undef undef undef undef undef ∧ Fl w1.heap.size b x undef w
  | 1, a, w => Below w1.heap.size w1 w ∧ ∃ x y, a = frE s0 n bW v vp x undef y undef undef undef undef undef undef undef undef ∧ OwnB w w1.heap.size y [] ∧ Fl w1.heap.size b x y w
  | 2, a, w => Below w1.heap.size w1 w ∧ ∃ x y z, a = frE s0 n bW v vp x undef y z undef undef undef undef undef undef undef ∧ OwnB w w1.heap.size z l ∧ Fl w1.heap.size b x z w
  | 3, a, w => Below w1.heap.size w1 w ∧ ∃ x y z u, a = frE s0 n bW v vp x undef y z u undef undef undef undef undef undef ∧ Bs w u (l ++ pad n) ∧ Fl w1.heap.size b x undef w
  | 4, a, w => Below w1.heap.size w1 w ∧ ∃ x y z u, a = frE s0 n bW v vp x undef y z u (.agg (u32s (over s0 (l ++ pad n)).l).toArray) undef undef undef undef undef ∧ Fl w1.heap.size b x undef w
  | 5, a, w => Below w1.heap.size w1 w ∧ ∃ x y z u t, a = frE s0 n bW v vp x undef y z u (.agg (u32s (over s0 (l ++ pad n)).l).toArray) t undef undef undef undef ∧ Bs w t (wordsOf (over s0 (l ++ pad n))) ∧ Fl w1.heap.size b x undef w
  | 6, a, w => Below w1.heap.size w1 w ∧ ∃ x y z u t, a = frE s0 n bW v vp x undef y z u (.agg (u32s (over s0 (l ++ pad n)).l).toArray) t (.tuple #[.agg (u8s (wordsOf (over s0 (l ++ pad n)))).toArray, .int .i64 32, .int .i64 0]) undef undef undef ∧ Fl w1.heap.size b x undef w
  | _, a, w => Below w1.heap.size w1 w ∧ ∃ x y z u t, a = frE s0 n bW v vp x (.tuple #[.agg (u8s (wordsOf (over s0 (l ++ pad n)))).toArray, .int .i64 32, .int .i64 0]) y z u (.agg (u32s (over s0 (l ++ pad n)).l).toArray) t (.tuple #[.agg (u8s (wordsOf (over s0 (l ++ pad n)))).toArray, .int .i64 32, .int .i64 0]) (.agg (u8s (wordsOf (over s0 (l ++ pad n)))).toArray) (.int .i64 32) (.int .i64 0) ∧ Fl w1.heap.size b x undef w
set_option maxHeartbeats 4000000 in
theorem rend_calls (s0 : S8) (hr : Rng s0) (v : Value) (l : List UInt8) (n : Nat) (hn : n ≤ 140737490000000) (hl : l.length ≤ n) (W : World) (hv : Bs W v l) :
    Calls Tryd.prog 64 #[.agg (u32s s0.l).toArray, .int .i64 (n : Int), v] W fun e w' => e = .returned (.agg (u8s (wordsOf (over s0 (l ++ pad n)))).toArray) ∧ Below W.heap.size W w' := by
  have b0 := below_alloc1 W (.cells (u32s s0.l).toArray 115)
  have z0 : (W.alloc (.cells (u32s s0.l).toArray 115)).heap.size = W.heap.size + 1 := by simp
  have a0 := (Arr.new W (u32s s0.l) 115).below (below_alloc1 _ (.cells (u8s (List.replicate 32 0)).toArray 62))
  have a1 := Arr.new (W.alloc (.cells (u32s s0.l).toArray 115)) (u8s (List.replicate 32 0)) 62
  have z1 : ((W.alloc (.cells (u32s s0.l).toArray 115)).alloc (.cells (u8s (List.replicate 32 0)).toArray 62)).heap.size = W.heap.size + 2 := by simp
  rw [z0] at a1
  have H0 := Lib.hid (And.intro (b0.alloc (by rw [z0]; omega) (.cells (u8s (List.replicate 32 0)).toArray 62)) (And.intro a0 (And.intro a1 z1)))
  have HV := Lib.hid hv
  clear b0 z0 a0 a1 z1 hv
  go_enter Tryd.func64, Tryd.ntmps64
  go_wp2_with (go_at_call 67; refine (rpadding_calls n _ hn).mono ?_; rintro e w1 ⟨vp, rfl, hop, hB1⟩; have HP := Lib.hid (And.intro hop hB1); clear hop hB1)
  have hw1 : W.heap.size + 2 ≤ w1.heap.size := Nat.le_trans (Nat.le_of_eq H0.out.2.2.2.symm) HP.out.2.size
  have HL := Lib.hid (fun w' (hb : Below w1.heap.size w1 w') => (((H0.out.2.1.below HP.out.2).below hb).load (P := Tryd.prog) (ty := 115) Tryd.underlying115 rfl info_8w))
  have HBS := Lib.hid (fun w' (hb : Below w1.heap.size w1 w') => (And.intro (((HV.out.below H0.out.1).below HP.out.2).below hb) (HP.out.1.bs.below hb)))
  have HLO := Lib.hid (show (l ++ pad n).length ≤ 150000000000000 by rw [List.length_append, pad_length]; omega)
  have HRO := Lib.hid (over_rng s0 (l ++ pad n) hr)
  refine wp_region_noPanic ?_
  refine wp_region_float (fun w' => Below w1.heap.size w1 w') (KE s0 n W.heap.size v vp l w1) [0, 2, 4] [1, 3, 5, 6, 7, 8] 13 [9, 10, 11, 12] 3 (by kernel_rfl) (by kernel_rfl) (fun _ _ _ _ h => h) (below_drew1 w1) ⟨?_, ?_, ?_, ?_, ?_, ?_, ?_, ?_, ?_, ?_, ?_, ?_, trivial⟩ ?_ ?_ ?_ ?_
  · rintro b a w ⟨hb, x, rfl, hF⟩
    refine wpOp_walk rfl ?_
    simp only [frE]
    go_wp2
    exact ⟨hb.alloc hb.size _, hb.alloc hb.size _, x, _, rfl, (OwnB.zero w).lower' hb.size, hF.below (below_alloc1 w _) (.inr (.inr ⟨_, rfl, Nat.le_refl _⟩))⟩
  · rintro a w ⟨hb, x, rfl, hF⟩
    refine wpOp_walk rfl ?_
    simp only [frE]
    go_wp2
    exact ⟨hb.alloc hb.size _, hb.alloc hb.size _, _, rfl, Fl.make hb.size (fun k e => by cases e)⟩
  · rintro b a w ⟨hb, x, y, rfl, ho, hF⟩
    refine wpOp_walk rfl ?_
    simp only [frE]
    refine app_u8 rfl _ _ rfl w1.heap.size _ rfl [] ho _ rfl l (HBS.out w hb).1 (by have := HLO.out; simp at this ⊢; omega) hb.size ?_
    intro v' w' ho' hg' hw'
    have hb' := below_grown hb hg' ho hb.size
    exact ⟨hb', hb', x, y, v', rfl, ho', hF.grown hg' hw'⟩
  · rintro a w ⟨hb, x, y, rfl, ho, hF⟩
    refine wpOp_walk rfl ?_
    simp only [frE]
    go_wp2
    exact ⟨hb.alloc hb.size _, hb.alloc hb.size _, _, _, rfl, ho.alloc _, Fl.make hb.size (fun k e => (ho.lt k e).2)⟩
  · rintro b a w ⟨hb, x, y, z, rfl, ho, hF⟩
    refine wpOp_walk rfl ?_
    simp only [frE]
    refine app_u8 rfl _ _ rfl w1.heap.size _ rfl l ho _ rfl (pad n) (HBS.out w hb).2 (by have := HLO.out; simp at this ⊢; omega) hb.size ?_
    intro v' w' ho' hg' hw'
    have hb' := below_grown hb hg' ho hb.size
    exact ⟨hb', hb', x, y, z, v', rfl, ho'.bs, (hF.grown hg' hw').below (Below.refl _ _) (.inr (.inl rfl))⟩
  · rintro a w ⟨hb, x, y, z, rfl, ho, hF⟩
    refine wpOp_walk rfl ?_
    simp only [frE]
    go_wp2
    exact ⟨hb.alloc hb.size _, hb.alloc hb.size _, _, _, _, rfl, ho.alloc _, Fl.make hb.size (fun k e => (ho.lt k e).2)⟩
  · rintro b a w ⟨hb, x, y, z, u, rfl, hbs, hF⟩
    refine wpOp_walk rfl ?_
    simp only [frE]
    go_wp2_with (go_at_call 70; refine (rover_calls s0 _ (l ++ pad n) _ hbs).mono ?_; rintro e w2 ⟨rfl, hB2⟩; have HB2 := Lib.hid hB2; clear hB2)
    have hb' := hb.trans (HB2.out.mono hb.size)
    exact ⟨hb', hb', x, y, z, u, rfl, hF.below HB2.out (.inl rfl)⟩
  · rintro a w ⟨hb, x, y, z, u, rfl, hbs, hF⟩
    refine wpOp_walk rfl ?_
    simp only [frE]
    go_wp2
    exact ⟨hb.alloc hb.size _, hb.alloc hb.size _, _, _, _, _, rfl, hbs.below (below_alloc1 w _), Fl.make hb.size (fun k e => by cases e)⟩
  · rintro b a w ⟨hb, x, y, z, u, rfl, hF⟩
    refine wpOp_walk rfl ?_
    simp only [frE]
    go_wp2_with (go_at_call 69; refine (rwords_calls _ HRO.out _).mono ?_; rintro e w2 ⟨t, rfl, ho2, hB2⟩; have HB2 := Lib.hid (And.intro hB2 ho2); clear hB2 ho2)
    have hb' := hb.trans (HB2.out.1.mono hb.size)
    exact ⟨hb', hb', x, y, z, u, t, rfl, HB2.out.2.bs, hF.below HB2.out.1 (.inl rfl)⟩
  · rintro a w ⟨hb, x, y, z, u, rfl, hF⟩
    refine wpOp_walk rfl ?_
    simp only [frE]
    go_wp2
    exact ⟨hb.alloc hb.size _, hb.alloc hb.size _, _, _, _, _, rfl, Fl.make hb.size (fun k e => by cases e)⟩
  · rintro b a w ⟨hb, x, y, z, u, t, rfl, hbs, hF⟩
    refine wpOp_walk rfl ?_
    simp only [frE]
    go_wp2_with (go_at_call 68; refine (rdigest_calls _ _ (wordsOf_length _) _ hbs).mono ?_; rintro e w2 ⟨rfl, hB2⟩; have HB2 := Lib.hid hB2; clear hB2)
    have hb' := hb.trans (HB2.out.mono hb.size)
    exact ⟨hb', hb', x, y, z, u, t, rfl, hF.below HB2.out (.inl rfl)⟩
  · rintro a w ⟨hb, x, y, z, u, t, rfl, hbs, hF⟩
    refine wpOp_walk rfl ?_
    simp only [frE]
    go_wp2
    exact ⟨hb.alloc hb.size _, hb.alloc hb.size _, _, _, _, _, _, rfl, hbs.below (below_alloc1 w _), Fl.make hb.size (fun k e => by cases e)⟩
  · simp only [opsL, List.getElem?_cons_zero, List.getElem?_cons_succ, Option.toList_some, List.singleton_append]
    refine takesS_run rfl (.agg (u32s s0.l).toArray) (fun w' hw => run_op_ld _ _ rfl _ _ (by rfl) w' (HL.out w' hw)) ?_
    simp only [Act.put, List.setIfInBounds_toArray, List.set_cons_zero, List.set_cons_succ]
    refine takesS_run rfl v (fun w' hw => by go_simp) ?_
    simp only [Act.put, List.setIfInBounds_toArray, List.set_cons_zero, List.set_cons_succ]
    refine takesS_run rfl vp (fun w' hw => by go_simp) ?_
    simp only [Act.put, List.setIfInBounds_toArray, List.set_cons_zero, List.set_cons_succ]
    exact ⟨below_drew1 w1, undef, rfl, fun e => by cases e⟩
  · rintro b a w ⟨hb, x, y, z, u, t, rfl, hF⟩
    simp only [opsL, List.getElem?_cons_zero, List.getElem?_cons_succ, Option.toList_some, List.singleton_append, frE]
    refine takesS_run rfl (.tuple #[.agg (u8s (wordsOf (over s0 (l ++ pad n)))).toArray, .int .i64 32, .int .i64 0]) (fun w' hw => by go_simp) ?_
    simp only [Act.put, List.setIfInBounds_toArray, List.set_cons_zero, List.set_cons_succ]
    refine takesS_run rfl (.agg (u8s (wordsOf (over s0 (l ++ pad n)))).toArray) (fun w' hw => by go_simp) ?_
    simp only [Act.put, List.setIfInBounds_toArray, List.set_cons_zero, List.set_cons_succ]
    refine takesS_run rfl (.int .i64 32) (fun w' hw => by go_simp) ?_
    simp only [Act.put, List.setIfInBounds_toArray, List.set_cons_zero, List.set_cons_succ]
    refine takesS_run rfl (.int .i64 0) (fun w' hw => by go_simp) ?_
    simp only [Act.put, List.setIfInBounds_toArray, List.set_cons_zero, List.set_cons_succ]
    exact ⟨hb, x, y, z, u, t, rfl, hF⟩
  · rintro a w ⟨hb, x, y, z, u, t, rfl, hF⟩
    refine wpOp_walk rfl ?_
    simp only [frE]
    go_wp2
    exact ⟨hb.alloc hb.size _, hb.alloc hb.size _, _, _, _, _, _, rfl, Fl.make hb.size (fun k e => by cases e)⟩
  · rintro a w - ⟨hb, x, y, z, u, t, rfl, hF⟩
    obtain ⟨p, rfl, hp1, hp2, -⟩ := hF rfl
    have HD := Lib.hid (wordsOf_length (over s0 (l ++ pad n)))
    obtain ⟨d, hdd⟩ : ∃ d, wordsOf (over s0 (l ++ pad n)) = d := ⟨_, rfl⟩
    rw [hdd] at HD
    have HDD := Lib.hid hdd
    have HST := Lib.hid (hp2.store (P := Tryd.prog) (ty := 62) (u8s d) (by rw [u8s_length, HD.out]; rfl) info_32b (u8s_one _))
    have HPP := Lib.hid (And.intro (below_setCells hb p 0 hp1 (u8s d)) (hp2.put (u8s d) (by rw [u8s_length, HD.out]; rfl)))
    clear hF hp2
    refine wpAnyH_one (i := 14) (by kernel_rfl) (wpOp_walk rfl ?_)
    simp only [frE, hdd]
    clear hdd
    refine wpList_store_run rfl 62 _ _ rfl _ _ rfl rfl _ HST.out ?_
    refine ⟨HPP.out.1, wpAnyH_one (i := 15) (by kernel_rfl) (wpOp_walk rfl ?_)⟩
    simp only [Act.put]
    go_wp2
    refine ⟨HPP.out.1, wpAnyH_one (i := 16) (by kernel_rfl) (wpOp_walk rfl ?_)⟩
    go_wp2
    refine ⟨HPP.out.1, by kernel_rfl, ?_⟩
    simp only [NoPanic]
    have HA := Lib.hid (((H0.out.2.2.1.below HP.out.2).below HPP.out.1))
    have HL9 := Lib.hid (HPP.out.2.load (P := Tryd.prog) (ty := 62) Tryd.underlying62 rfl (by rw [u8s_length, HD.out]; exact info_32b))
    have HS9 := Lib.hid (HA.out.store (P := Tryd.prog) (ty := 62) (u8s d) (by rw [u8s_length, HD.out]; rfl) info_32b (u8s_one _))
    have HBW := Lib.hid ((H0.out.1.trans (HP.out.2.mono H0.out.1.size)).trans (HPP.out.1.mono (by omega)))
    have HR := Lib.hid (And.intro (below_setCells HBW.out (W.heap.size + 1) 0 (by omega) (u8s d)) (HA.out.put (u8s d) (by rw [u8s_length, HD.out]; rfl)))
    go_wp2_with (first
      | (refine wpList_load_run rfl 62 _ rfl _ _ rfl HL9.out ?_; simp only [Act.put, List.setIfInBounds_toArray, List.set_cons_zero, List.set_cons_succ])
      | (refine wpList_store_run rfl 62 _ _ rfl _ _ rfl rfl _ HS9.out ?_; simp only [Act.put]))
    refine bodyPost_ret (results_arr Tryd.results64 _ HR.out.2 rfl Tryd.underlying62 rfl (by rw [u8s_length, HD.out]; exact info_32b)) rfl ⟨by rw [HDD.out], HR.out.1⟩
end Go.Proofs.YthgjecofmnomfaaDoor
