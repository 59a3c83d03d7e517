/- THE ITERATOR frame.All: its contract. No statement of the seed is proved here. -/
import Derived.Test.YthgjecofmnomfaaDoorFrameM
import Derived.Test.YthgjecofmnomfaaDoorIter
namespace Go.Proofs.YthgjecofmnomfaaDoor
open Go.RowKit Go.Shelf
attribute [local go_sem] Oper.semAt_some
set_option maxRecDepth 100000

/-- A round is handed the place behind a frame and its data, in new memory. -/
def HandF (x : Nat × List UInt8) (args : Array Value) (W0 W1 : World) : Prop := ∃ v, args = #[.int .i64 (x.1 : Int), v] ∧ OwnB W1 W0.heap.size v x.2
/-- What the iterator reads. -/
def ReadF (bx : Nat) (v : Value) (l : List UInt8) (W : World) : Prop := W.cell? ⟨bx, 0, none⟩ = some v ∧ Bs W v l ∧ LaidF W

set_option maxHeartbeats 2000000 in
theorem all_iter (n : Nat) (h1 : 1 ≤ n) (bx : Nat) (v : Value) (l : List UInt8) (hl : l.length ≤ 150000000000000) :
    Iter Fence.wide n Tryd.prog 40 #[.pointer (some ⟨bx, 0, none⟩)] (allF l 0) HandF (ReadF bx v l) := by
  intro lp J Jx W hJR hJ0 hY
  refine callsIn_of_wp Tryd.func40 rfl trivial ?_ rfl
  simp only [Tryd.ntmps40, List.size_toArray, List.length_cons, List.length_nil, Nat.reduceAdd, Nat.reduceSub, Array.replicate_succ, Array.replicate_zero, List.push_toArray, List.append_toArray, List.nil_append, List.cons_append]
  have hR0 := (hJR [] W hJ0).2.1
  obtain ⟨A, c, rfl, hlc, hc, hn⟩ := hR0.form
  clear hR0
  gi_wp2
  gi_loopw [3, 4, 5, 6] (fun p _ _ _ wr => ∃ (pre rest : List (Nat × List UInt8)) (W0 : World), p = .int .i64 (endF 0 pre : Nat) ∧ allF l 0 = pre ++ rest ∧ J pre W0 ∧ Below W0.heap.size W0 wr) (fun p _ _ _ _ => l.length - (intOf p).toNat)
  case atStart => exact ⟨[], allF l 0, W, rfl, rfl, hJ0, Below.refl _ _⟩
  case round =>
    obtain ⟨pre, rest, W0, rfl, hx, hJ, hb⟩ := hrel
    obtain ⟨r1, r2, r3⟩ := hJR pre W0 hJ
    have hcell := (hb.cell (World.block_lt_of_cell? W0 _ r1)).trans r1
    have hbs := r2.below hb
    have hT := r3.below hb
    clear r1 r2 r3
    have hrest := allF_pre l pre rest 0 hx
    have hle := endF_le l pre rest hx
    have HE : Hid (∀ x : Nat × List UInt8, endF 0 (pre ++ [x]) = x.1) := endF_snoc 0 pre
    have HX := Lib.hid hx; clear hx
    generalize endF 0 pre = q at hrest hle
    by_cases hlt : q < l.length
    · obtain ⟨m, nx, y, hfr⟩ : ∃ m nx y, frRead l (q : Int) = (m, nx, y) := ⟨_, _, _, rfl⟩
      have KR := Lib.hid (read_callsR hfr (.slice A l.length c) wr hT hbs hl)
      by_cases hy : y = 0
      · subst hy
        obtain ⟨a1, a2, _⟩ := frRead_ok hfr
        rw [allF_ok hfr] at hrest
        clear hfr hbs hT
        subst a2
        rw [Int.toNat_natCast] at hrest
        have HR := Lib.hid hrest; clear hrest
        generalize hnq : q + 8 + m.length = nq at *
        have HT := Lib.hid hnq; clear hnq
        gi_wp2_with (first
          | (refine ⟨trivial, ?_⟩; gi_at_call 14; refine (callsIn_wide.2 KR.out).mono ?_; rintro e w1 ⟨v1, rfl, ho1, hB1⟩; have hbb : Below W0.heap.size W0 w1 := below_then hb hB1; obtain ⟨fn, tmps, assign, body, hy, hR⟩ := hY pre (nq, m) (allF l nq) #[.int .i64 (nq : Int), v1] W0 w1 (by rw [HX.out, HR.out]) hJ hbb ⟨v1, rfl, ho1.lower hb.size⟩))
        refine hR.mono ?_
        rintro e W3 (⟨rfl, hJ3⟩ | ⟨rfl, hJx3⟩)
        · gi_wp2
          go_roundw
          case rel => exact ⟨pre ++ [(nq, m)], allF l nq, W3, by rw [HE.out], by rw [HX.out, HR.out]; simp, hJ3, Below.refl _ _⟩
          case measure => have := HT.out; simp [intOf]; omega
        · gi_wp2
          refine bodyPost_ret (results_none rfl _ _ _) rfl ?_
          exact ⟨⟨_, rfl⟩, W3, Below.refl _ _, .inr ⟨_, hJx3⟩⟩
      · rw [allF_bad (fun c => hy (by have := c.2; rw [hfr] at this; exact this))] at hrest
        have HR := Lib.hid hrest; clear hrest
        have hy1 : (y != 0) = true := by simpa using hy
        have hy2 : (y == 0) = false := by simpa using hy
        clear hfr hbs hT hy
        gi_wp2_with (first
          | (refine ⟨trivial, ?_⟩; gi_at_call 14; refine (callsIn_wide.2 KR.out).mono ?_; rintro e w1 ⟨v1, rfl, ho1, hB1⟩; have hbb : Below W0.heap.size W0 w1 := below_then hb hB1))
        refine ⟨fun _ h => (by cases h), ?_⟩
        gi_wp2
        refine bodyPost_ret (results_none rfl _ _ _) rfl ?_
        exact ⟨⟨_, rfl⟩, W0, hbb, .inl (by rw [HX.out, HR.out]; simpa using hJ)⟩
    · rw [allF_bad (fun c => hlt c.1)] at hrest
      have HR := Lib.hid hrest; clear hrest
      clear hbs hT
      gi_wp2
      go_end0
      exact ⟨⟨_, rfl⟩, W0, hb, .inl (by rw [HX.out, HR.out]; simpa using hJ)⟩

theorem allv_calls (v : Value) (w : World) (A : Option Addr) (n c : Nat) (hv : v = .slice A n c) :
    Calls Tryd.prog 24 #[v] w fun e w' => e = .returned (.func (.func 40) #[] #[.pointer (some ⟨w.heap.size, 0, none⟩)]) ∧ w' = w.alloc (.cells #[v] 23) := by
  subst hv
  go_enter Tryd.func24, Tryd.ntmps24
  go_wp2
  go_ret
  exact ⟨rfl, rfl⟩

/-- The error at a place: none at the end. -/
def errAt (l : List UInt8) (at_ : Nat) : Int := if at_ = l.length then 0 else (frRead l at_).2.2
theorem errAt_end {l : List UInt8} : errAt l l.length = 0 := by simp [errAt]

set_option maxHeartbeats 2000000 in
theorem whole_calls (v : Value) (l : List UInt8) (w : World) (hT : LaidF w) (hv : Bs w v l) (hl : l.length ≤ 150000000000000) :
    Calls Tryd.prog 22 #[v] w fun e w' => e = .returned (.tuple #[.int .i64 (endF 0 (allF l 0) : Nat), .int .i64 (errAt l (endF 0 (allF l 0)))]) ∧ Below w.heap.size w w' := by
  obtain ⟨A, c, rfl, hlc, hc, hn⟩ := hv.form
  have hle := endF_le l (allF l 0) [] (by simp)
  generalize hq : endF 0 (allF l 0) = q at hle ⊢
  have HQ := Lib.hid hq; clear hq
  generalize he : errAt l q = er
  have HE := Lib.hid he; clear he
  refine (callsIn_wide (n := 9)).1 ?_
  refine callsIn_of_wp_marks Tryd.func22 rfl trivial ?_ rfl
  simp only [Tryd.ntmps22, List.size_toArray, List.length_cons, List.length_nil, Nat.reduceAdd, Nat.reduceSub, Array.replicate_succ, Array.replicate_zero, List.push_toArray, List.append_toArray, List.nil_append, List.cons_append]
  gi_wp2_with (refine ⟨trivial, ?_⟩; gi_at_call 24; refine (callsIn_wide.2 (allv_calls _ _ A l.length c rfl)).mono ?_; rintro e w1 ⟨rfl, rfl⟩)
  have hBx : Below w.heap.size w ((w.alloc (.cells #[.int .i64 0] 3)).alloc (.cells #[.slice A l.length c] 23)) := ((Below.refl _ _).alloc (Nat.le_refl _) _).alloc (by simp) _
  have hn0 := new_cell w (.int .i64 0) 3
  have hb1 := below_alloc1 (w.alloc (.cells #[.int .i64 0] 3)) (.cells #[.slice A l.length c] 23)
  have hc0 := cell_below hb1 hn0
  have hf0 := frozen_below hb1 hn0 (new_frozen w _ _ 0)
  have hc1 := new_cell (w.alloc (.cells #[.int .i64 0] 3)) (.slice A l.length c) 23
  rw [World.size_alloc] at hc1
  clear hn0 hb1
  have hsz : ((w.alloc (.cells #[.int .i64 0] 3)).alloc (.cells #[.slice A l.length c] 23)).heap.size = w.heap.size + 2 := by simp
  generalize (w.alloc (.cells #[.int .i64 0] 3)).alloc (.cells #[.slice A l.length c] 23) = wa at hBx hc0 hf0 hc1 hsz ⊢
  refine wpIn_range rfl (by omega) (gf := 40) (lb := #[.pointer (some ⟨w.heap.size + 1, 0, none⟩)]) rfl trivial (enters_of Tryd.func40 (by kernel_rfl) rfl)
    (all_iter 8 (by omega) (w.heap.size + 1) _ l hl) (by rintro x args W0 W1 ⟨v, rfl, _⟩; rfl)
    (fun pre W => W.cell? ⟨w.heap.size, 0, none⟩ = some (.int .i64 (endF 0 pre : Nat)) ∧ W.frozen? ⟨w.heap.size, 0, none⟩ = false ∧ W.cell? ⟨w.heap.size + 1, 0, none⟩ = some (.slice A l.length c) ∧ Below w.heap.size w W)
    (fun _ _ => False)
    (fun s X Y row h hg hr => ⟨turn_cell hg (fun r e => (hr r e).2) h.1, turn_frozen hg (fun r e => (hr r e).2) h.1 h.2.1, turn_cell hg (fun r e => (hr r e).2) h.2.2.1, turn_below hg hr hBx.size h.2.2.2.size h.2.2.2⟩)
    (fun _ _ _ _ h _ _ => h) (fun pre W h => ⟨h.2.2.1, hv.below h.2.2.2, hT.below h.2.2.2⟩) ⟨hc0, hf0, hc1, hBx⟩
    (fun x a' W0 W1 => ∃ v', a' = { tmps := #[.slice A l.length c, undef, .int .i64 0, .int .i64 0, .pointer (some ⟨w.heap.size, 0, none⟩), .int .i64 (x.1 : Int), undef, undef, undef, .slice A l.length c, .func (.func 40) #[] #[.pointer (some ⟨w.heap.size + 1, 0, none⟩)], .int .i64 (x.1 : Int), v', undef, undef, undef, undef, undef, undef, undef, undef, undef, undef, undef, undef, undef, undef, undef], defers := [] })
    (fun _ _ _ _ _ _ _ h _ _ _ => h) ?assign ?body ?done ?stop
  case assign =>
    rintro lp x args W0 W1 K _ _ ⟨v', rfl, _⟩ hK
    gi_wp2
    exact hK _ _ (Below.refl _ _) ⟨v', rfl⟩
  case body =>
    rintro lp pre x rest a' W0 W1 _ _ _ ⟨c0, f0, c1, b1⟩ hb ⟨v', rfl⟩
    have d0 := cell_below hb c0
    have d1 := cell_below hb c1
    have g0 := frozen_below hb c0 f0
    have bb := below_then b1 hb
    clear c0 c1 f0 hc0 hc1 hf0
    gi_wp2
    exact ⟨(KeepsOthers.setCell _ _ _).from _, by rw [endF_snoc]; exact set_cell d0 _, set_frozen g0 _, set_other d1 (by simp) _, bb.setCell (p := ⟨w.heap.size, 0, none⟩) (Nat.le_refl _) _⟩
  case done =>
    rintro D W0 W hD ⟨c0, f0, c1, b1⟩ hb hK
    have d0 := cell_below hb c0
    have bb := below_then b1 hb
    clear c0 f0 c1 hc0 hf0 hc1
    rw [HQ.out] at d0
    by_cases hql : q = l.length
    · have her : er = 0 := by rw [← HE.out, hql]; exact errAt_end
      subst hql her
      gi_wp2
      refine ⟨by simp, .inl ⟨_, _, rfl, run_takeDeferred hK, ?_⟩⟩
      exact ⟨_, results_tmp2 rfl _ _ _, rfl, bb.trans (belowK_b (w := w) (Nat.le_refl _) W D _ _ (by omega) hK rfl rfl)⟩
    · obtain ⟨m, nx, y, hfr⟩ : ∃ m nx y, frRead l (q : Int) = (m, nx, y) := ⟨_, _, _, rfl⟩
      have her : er = y := by
        rw [← HE.out]
        unfold errAt
        rw [if_neg hql, hfr]
      subst her
      have KR := Lib.hid (read_callsR hfr (.slice A l.length c) W (hT.below bb) (hv.below bb) hl)
      have hql2 : ((q : Int) == (l.length : Int)) = false := by simp; omega
      clear hfr hql
      gi_wp2_with (refine ⟨trivial, ?_⟩; gi_at_call 14; refine (callsIn_wide.2 KR.out).mono ?_; rintro e w1 ⟨v1, rfl, ho1, hB1⟩; have d1 := cell_below hB1 d0)
      have hK1 := (hB1.block D (Array.getElem?_eq_some_iff.1 hK).1).trans hK
      refine ⟨by simp, .inl ⟨_, _, rfl, run_takeDeferred hK1, ?_⟩⟩
      exact ⟨_, results_tmp2 rfl _ _ _, rfl, (below_then bb hB1).trans (belowK_b (w := w) (Nat.le_refl _) w1 D _ _ (by omega) hK1 rfl rfl)⟩
  case stop =>
    rintro D c' W0 W _ h
    exact h.elim
end Go.Proofs.YthgjecofmnomfaaDoor

