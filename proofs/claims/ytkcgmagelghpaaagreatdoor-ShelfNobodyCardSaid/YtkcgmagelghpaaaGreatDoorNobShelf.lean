/- WALKS of the law ShelfNobody. No statement of the seed is proved here. -/
import Derived.Test.YtkcgmagelghpaaaGreatDoorNobBundle
import Derived.Deep.MidRow
namespace Go.Proofs.YtkcgmagelghpaaaGreatDoor
open Go.RowKit
set_option maxRecDepth 100000

theorem nob_swrong (v h l : Value) (w : World) (hd : NoDisk w v) : Calls Tryz.prog 58 #[v, h, l] w fun e w' => e = .returned (.int .i64 1) ∧ w = w' := by
  have K := Lib.hid (nodisk_sector v w hd)
  clear hd
  go_enter Tryz.func58, Tryz.ntmps58
  go_wp2_with (go_at_call 39; refine K.out.mono ?_; rintro e w' ⟨rfl, rfl⟩)
  go_ret
  exact ⟨rfl, rfl⟩
theorem nob_scount (v h l : Value) (w : World) (hd : NoDisk w v) : Calls Tryz.prog 21 #[v, h, l] w fun e w' => e = .returned (.tuple #[.int .i64 0, .int .i64 1]) ∧ w = w' := by
  have K := Lib.hid (nob_swrong v h l w hd)
  clear hd
  go_enter Tryz.func21, Tryz.ntmps21
  go_wp2_with (go_at_call 58; refine K.out.mono ?_; rintro e w' ⟨rfl, rfl⟩)
  go_ret2
  exact ⟨rfl, rfl⟩
theorem nob_strim (v h l n : Value) (w : World) (hd : NoDisk w v) : Calls Tryz.prog 24 #[v, h, l, n] w fun e w' => e = .returned (.int .i64 1) ∧ w = w' := by
  have K := Lib.hid (nob_swrong v h l w hd)
  clear hd
  go_enter Tryz.func24, Tryz.ntmps24
  go_wp2_with (go_at_call 58; refine K.out.mono ?_; rintro e w' ⟨rfl, rfl⟩)
  go_ret
  exact ⟨rfl, rfl⟩
theorem nob_sput (v h l n : Value) (xs : Array Value) (w : World) (hd : NoDisk w v) : Calls Tryz.prog 23 #[v, h, l, n, .agg xs] w fun e w' => e = .returned (.int .i64 1) ∧ Below w.heap.size w w' := by
  go_enter Tryz.func23, Tryz.ntmps23
  go_wp2_with (go_at_call 58; refine (nob_swrong _ _ _ _ (hd.below (below_alloc1 _ _))).mono ?_; rintro e w' ⟨rfl, rfl⟩)
  go_ret
  exact ⟨rfl, below_alloc1 _ _⟩
theorem nob_sread (v : Value) (ts : Array Value) (w : World) (hd : NoDisk w v) : Calls Tryz.prog 20 #[v, .agg ts] w fun e w' => e = .returned (.tuple #[.slice Option.none 0 0, .int .i64 1]) ∧ Below w.heap.size w w' := by
  go_enter Tryz.func20, Tryz.ntmps20
  go_wp2_with (go_at_call 39; refine (nodisk_sector _ _ (hd.below (below_alloc1 _ _))).mono ?_; rintro e w' ⟨rfl, rfl⟩)
  go_ret2
  exact ⟨rfl, below_alloc1 _ _⟩
theorem nob_sall (v : Value) (h l : Int) (w : World) (hd : NoDisk w v) : Calls Tryz.prog 22 #[v, .int .i64 h, .int .i64 l] w fun e w' => e = .returned (.func (.func 60) #[] #[.pointer (some ⟨w.heap.size, 0, Option.none⟩), .pointer (some ⟨w.heap.size + 1, 0, Option.none⟩), .pointer (some ⟨w.heap.size + 1 + 1, 0, Option.none⟩)]) ∧
    Below w.heap.size w w' ∧ w'.cell? ⟨w.heap.size, 0, Option.none⟩ = some v ∧ w'.cell? ⟨w.heap.size + 1, 0, Option.none⟩ = some (.int .i64 h) ∧ w'.cell? ⟨w.heap.size + 1 + 1, 0, Option.none⟩ = some (.int .i64 l) := by
  obtain ⟨p, rfl⟩ : ∃ p, v = .pointer p := by rcases hd with h | ⟨g, h, _⟩ <;> exact ⟨_, h⟩
  have c1 := new_cell (w.alloc (.cells #[.pointer p] 23)) (.int .i64 h) 3
  have c2 := new_cell ((w.alloc (.cells #[.pointer p] 23)).alloc (.cells #[.int .i64 h] 3)) (.int .i64 l) 3
  simp only [World.size_alloc] at c1 c2
  go_enter Tryz.func22, Tryz.ntmps22
  go_wp2
  go_ret
  exact ⟨rfl, (((Below.refl _ _).alloc (Nat.le_refl _) _).alloc (by simp) _).alloc (by simp; omega) _, cell_below (below_alloc1 _ _) (cell_below (below_alloc1 _ _) (new_cell w _ _)), cell_below (below_alloc1 _ _) c1, c2⟩
theorem nob_siter (n : Nat) (h1 : 1 ≤ n) (bx by_ bz : Nat) (v : Value) (h l : Int) :
    IterNone Fence.wide n Tryz.prog 60 #[.pointer (some ⟨bx, 0, Option.none⟩), .pointer (some ⟨by_, 0, Option.none⟩), .pointer (some ⟨bz, 0, Option.none⟩)] (fun W => W.cell? ⟨bx, 0, Option.none⟩ = some v ∧ W.cell? ⟨by_, 0, Option.none⟩ = some (.int .i64 h) ∧ W.cell? ⟨bz, 0, Option.none⟩ = some (.int .i64 l) ∧ NoDisk W v) := by
  rintro lp W ⟨hc, hch, hcl, hj⟩
  obtain ⟨p, rfl⟩ : ∃ p, v = .pointer p := by rcases hj with h | ⟨g, h, _⟩ <;> exact ⟨_, h⟩
  have K := Lib.hid (nob_swrong _ (.int .i64 h) (.int .i64 l) W hj)
  clear hj
  refine callsIn_of_wp_marks Tryz.func60 rfl trivial ?_ rfl
  simp only [Tryz.ntmps60, List.size_toArray, List.length_cons, List.length_nil, Nat.reduceAdd, Nat.reduceSub, Array.replicate_succ, Array.replicate_zero, List.push_toArray, List.append_toArray, List.nil_append, List.cons_append]
  refine wpIn_scope_straight ?_
  gi_wp2_with (refine ⟨trivial, ?_⟩; gi_at_call 58; refine (callsIn_wide.2 K.out).mono ?_; rintro e w' ⟨rfl, rfl⟩)
  rw [Exit.noGoto_ret]
  exact ⟨_, results_none rfl _ _ _, ⟨_, rfl⟩, Below.refl _ _⟩
/-- A load whose run is known, in a fenced walk. -/
theorem wpListIn_load_run {F : Fence} {n : Nat} {P : Program} {w : World} {ops : Array Oper} {rest : List Oper} {o : Oper} {a : Act} {Q : Exit → Act → World → Prop} (hg : o.guard = Option.none) (ty : TypeId) (x : Operand) (ho : o.op = .load ty x)
    (p v : Value) (hx : a.eval x = p) (hr : (Instr.loadAt ty p).run P w = .ok v w) (h : wpListIn F n P ops Q rest (a.put o.dst v) w) : wpListIn F n P ops Q (o :: rest) a w := by
  refine wpListIn_plain hg fun K' hK' => ?_
  unfold Oper.wpIn
  refine ⟨by simp [Oper.about, ho], ?_⟩
  rw [Oper.semAt_plain F _ _ (by rw [ho]; intro c hc'; cases hc')]
  simp [execOp, ho, hx, hr, Result.andThen]
  exact hK' _ _ h
theorem digest_load (w : World) (b o : Nat) (xs : Array Value) (hxs : xs.size = 32) (hx : ∀ j x, xs[j]? = some x → w.cell? ⟨b, o + j, Option.none⟩ = some x) :
    (Instr.loadAt 57 (.pointer (some ⟨b, o, Option.none⟩))).run Tryz.prog w = .ok (.agg xs) w := by
  have h := run_loadAt_mid (P := Tryz.prog) w b o 57 xs.toList _ (fun j v hv => hx j v (by simpa using hv)) Tryz.underlying57 rfl (by
    have : (Tryz.prog.info? 57).map (·.size) = some 32 := by kernel_rfl
    rw [this, Array.length_toList, hxs])
  simpa using h
structure SFacts (W : World) (g d : Nat) (h l ix wd : Int) (xs : Array Value) : Prop where
  c1 : W.cell? ⟨g, 1, Option.none⟩ = some (.int .i64 h)
  c2 : W.cell? ⟨g, 2, Option.none⟩ = some (.int .i64 l)
  c3 : W.cell? ⟨g, 3, Option.none⟩ = some (.int .i64 ix)
  c6 : W.cell? ⟨g, 37, Option.none⟩ = some (.int .i64 wd)
  x : ∀ j x, xs[j]? = some x → W.cell? ⟨g, 5 + j, Option.none⟩ = some x
  m : W.cell? ⟨d, 1, Option.none⟩ = some (.map Option.none)
  p0 : W.cell? ⟨d + 1, 0, Option.none⟩ = some (.pointer Option.none)
  p1 : W.cell? ⟨d + 1, 1, Option.none⟩ = some (.pointer (some ⟨d, 0, Option.none⟩))
theorem SFacts.below {W W' : World} {g d : Nat} {h l ix wd : Int} {xs : Array Value} (f : SFacts W g d h l ix wd xs) (hb : Below W.heap.size W W') : SFacts W' g d h l ix wd xs :=
  ⟨cell_below hb f.c1, cell_below hb f.c2, cell_below hb f.c3, cell_below hb f.c6, fun j x hx => cell_below hb (f.x j x hx), cell_below hb f.m, cell_below hb f.p0, cell_below hb f.p1⟩

set_option maxHeartbeats 2000000 in
theorem shelfNobody_walk (cs : Array Value) (hn : cs.size = 38) (h l ix wd : Int) (e1 : cs[1]? = some (.int .i64 h)) (e2 : cs[2]? = some (.int .i64 l)) (e3 : cs[3]? = some (.int .i64 ix)) (e6 : cs[37]? = some (.int .i64 wd)) (w : World) : Calls Tryz.prog 6 #[.agg cs] w fun e w' => e = .returned (.bool true) ∧ Below w.heap.size w w' := by
  have ha : ∀ (j : Nat) (x : Value), cs[j]? = some x → (w.alloc (.cells cs 59)).cell? ⟨w.heap.size, j, Option.none⟩ = some x := fun j x hx => by
    rw [cell_of_row _ w.heap.size j _ _ (0, 0) (heap_alloc_new w _)]; exact hx
  obtain ⟨hB0, hc, hc1, hc2⟩ := pair_cells (w.alloc (.cells cs 59)) #[.int .i64 0, .map Option.none, .slice Option.none 0 0] 27 23
  have hF : SFacts _ w.heap.size (w.heap.size + 1) h l ix wd (cs.extract 5 37) := ⟨cell_below hB0 (ha 1 _ e1), cell_below hB0 (ha 2 _ e2), cell_below hB0 (ha 3 _ e3), cell_below hB0 (ha 37 _ e6), fun j x hx => cell_below hB0 (ha (5 + j) x (by
      rw [Array.getElem?_extract] at hx
      split at hx
      · exact hx
      · cases hx)), by rw [← World.size_alloc]; exact hc 1 _ rfl, by rw [← World.size_alloc]; exact hc1, by rw [← World.size_alloc]; exact hc2⟩
  have hxs : (cs.extract 5 37).size = 32 := by simp; omega
  have hB : Below w.heap.size w _ := below_then (below_alloc1 w _) hB0
  clear hc ha hc1 hc2 hB0 e1 e2 e3 e6 hn
  simp only [World.size_alloc] at hF hB
  refine (callsIn_wide (n := 9)).1 ?_
  refine callsIn_of_wp_marks Tryz.func6 rfl trivial ?_ rfl
  simp only [Tryz.ntmps6, List.size_toArray, List.length_cons, List.length_nil, Nat.reduceAdd, Nat.reduceSub, Array.replicate_succ, Array.replicate_zero, List.push_toArray, List.append_toArray, List.nil_append, List.cons_append]
  gi_wp2
  generalize ((w.alloc (.cells cs 59)).alloc (.cells #[.int .i64 0, .map Option.none, .slice Option.none 0 0] 27)).alloc (.cells #[.pointer Option.none, .pointer (some ⟨w.heap.size + 1, 0, Option.none⟩)] 23) = w1 at hF hB ⊢
  have hfn := fun f cs bs W => eql_func_nil (P := Tryz.prog) 65 _ _ _ Tryz.underlying65 f cs bs W
  refine wpIn_loop_rounds 3 ?_
  rw [roundsIn_succ]
  have hFa := hF
  obtain ⟨f1a, f2a, f3a, f6a, fxa, fma, fp0a, fp1a⟩ := hFa
  have toka : True := trivial
  gi_wp2_with (first
    | (refine ⟨trivial, ?_⟩; gi_at_call 20; refine (callsIn_wide.2 (nob_sread _ _ _ (.inl rfl))).mono ?_; rintro e w2a ⟨rfl, hb2a⟩; have hGa := hF.below hb2a; have hG2a := hGa; obtain ⟨g1a, g2a, g3a, g6a, gxa, gma, gp0a, gp1a⟩ := hG2a; have hB2a := below_then hB hb2a; have hna := new_cell w2a (.int .i64 0) 3)
    | (refine ⟨trivial, ?_⟩; gi_at_call 21; refine (callsIn_wide.2 (nob_scount _ _ _ _ (.inl rfl))).mono ?_; rintro e w3a ⟨rfl, rfl⟩; have i1a := fun o => cell_below (below_alloc1 w2a o) g1a; have i2a := fun o => cell_below (below_alloc1 w2a o) g2a)
    | (refine ⟨trivial, ?_⟩; gi_at_call 22; have _t := toka; refine (callsIn_wide.2 (nob_sall _ _ _ _ (.inl rfl))).mono ?_; clear toka; rintro e w4a ⟨rfl, hb4a, hq0a, hq1a, hq2a⟩; have k1a := cell_below hb4a (i1a _); have k2a := cell_below hb4a (i2a _); have hn4a := cell_below hb4a hna; have hHa := hGa.below (below_then (below_alloc1 _ _) hb4a); have hB4a := below_then hB2a (below_then (below_alloc1 _ _) hb4a))
    | (refine ⟨trivial, ?_⟩; gi_at_call 22; refine (callsIn_wide.2 (nob_sall _ _ _ _ (.inl rfl))).mono ?_; rintro e w5a ⟨rfl, hb5a, hr0a, hr1a, hr2a⟩; have hJa := hHa.below hb5a; have hn5a := cell_below hb5a hn4a; have hB5a := below_then hB4a hb5a))
  refine wpIn_range_none rfl (by omega) (gf := 60) (lb := #[.pointer (some ⟨w4a.heap.size, 0, Option.none⟩), .pointer (some ⟨w4a.heap.size + 1, 0, Option.none⟩), .pointer (some ⟨w4a.heap.size + 1 + 1, 0, Option.none⟩)]) rfl trivial (enters_of Tryz.func60 (by kernel_rfl) rfl)
    (nob_siter 8 (by omega) (w4a.heap.size) (w4a.heap.size + 1) (w4a.heap.size + 1 + 1) (.pointer Option.none) h l) (fun W' hb => ⟨cell_below hb hr0a, cell_below hb hr1a, cell_below hb hr2a, (.inl rfl)⟩) ?_
  intro Da w6a hDa hb6a hKa
  have hn6a := cell_below hb6a hn5a
  have hMa := hJa.below hb6a
  have hM2a := hMa
  have hB6a := below_then hB5a hb6a
  have hZa : Below w1.heap.size w1 w6a := below_then hb2a (below_then (below_then (below_alloc1 _ _) hb4a) (below_then hb5a hb6a))
  have hDla := (Array.getElem?_eq_some_iff.1 hKa).1
  have hs5a := hB5a.size
  obtain ⟨m1a, m2a, m3a, m6a, mxa, mma, mp0a, mp1a⟩ := hM2a
  have hlda := digest_load w6a w.heap.size 5 (cs.extract 5 37) hxs mxa
  clear mxa fxa gxa
  gi_wp2_with (first
    | (refine wpListIn_load_run rfl 57 _ rfl _ _ rfl hlda ?_)
    | (refine ⟨trivial, ?_⟩; gi_at_call 23; refine (callsIn_wide.2 (nob_sput _ _ _ _ _ _ (.inl rfl))).mono ?_; rintro e w7a ⟨rfl, hb7a⟩; have hn7a := cell_below hb7a hn6a; have hOa := hMa.below hb7a; have hO2a := hOa; have hB7a := below_then hB6a hb7a; have hK7a := mark_below hb7a hKa; obtain ⟨o1a, o2a, o3a, o6a, oxa, oma, op0a, op1a⟩ := hO2a; clear oxa)
    | (refine ⟨trivial, ?_⟩; gi_at_call 24; refine (callsIn_wide.2 (nob_strim _ _ _ _ _ (.inl rfl))).mono ?_; rintro e w8a ⟨rfl, rfl⟩))
  rw [roundsIn_succ]
  have hFb := hOa
  obtain ⟨f1b, f2b, f3b, f6b, fxb, fmb, fp0b, fp1b⟩ := hFb
  have tokb : True := trivial
  gi_wp2_with (first
    | (refine ⟨trivial, ?_⟩; gi_at_call 20; refine (callsIn_wide.2 (nob_sread _ _ _ (.inr ⟨_, rfl, hOa.m⟩))).mono ?_; rintro e w2b ⟨rfl, hb2b⟩; have hGb := hOa.below hb2b; have hG2b := hGb; obtain ⟨g1b, g2b, g3b, g6b, gxb, gmb, gp0b, gp1b⟩ := hG2b; have hB2b := below_then hB7a hb2b; have hnb := new_cell w2b (.int .i64 0) 3)
    | (refine ⟨trivial, ?_⟩; gi_at_call 21; refine (callsIn_wide.2 (nob_scount _ _ _ _ (.inr ⟨_, rfl, hGb.m⟩))).mono ?_; rintro e w3b ⟨rfl, rfl⟩; have i1b := fun o => cell_below (below_alloc1 w2b o) g1b; have i2b := fun o => cell_below (below_alloc1 w2b o) g2b)
    | (refine ⟨trivial, ?_⟩; gi_at_call 22; have _t := tokb; refine (callsIn_wide.2 (nob_sall _ _ _ _ (.inr ⟨_, rfl, (hGb.below (below_alloc1 _ _)).m⟩))).mono ?_; clear tokb; rintro e w4b ⟨rfl, hb4b, hq0b, hq1b, hq2b⟩; have k1b := cell_below hb4b (i1b _); have k2b := cell_below hb4b (i2b _); have hn4b := cell_below hb4b hnb; have hHb := hGb.below (below_then (below_alloc1 _ _) hb4b); have hB4b := below_then hB2b (below_then (below_alloc1 _ _) hb4b))
    | (refine ⟨trivial, ?_⟩; gi_at_call 22; refine (callsIn_wide.2 (nob_sall _ _ _ _ (.inr ⟨_, rfl, hHb.m⟩))).mono ?_; rintro e w5b ⟨rfl, hb5b, hr0b, hr1b, hr2b⟩; have hJb := hHb.below hb5b; have hn5b := cell_below hb5b hn4b; have hB5b := below_then hB4b hb5b))
  refine wpIn_range_none rfl (by omega) (gf := 60) (lb := #[.pointer (some ⟨w4b.heap.size, 0, Option.none⟩), .pointer (some ⟨w4b.heap.size + 1, 0, Option.none⟩), .pointer (some ⟨w4b.heap.size + 1 + 1, 0, Option.none⟩)]) rfl trivial (enters_of Tryz.func60 (by kernel_rfl) rfl)
    (nob_siter 8 (by omega) (w4b.heap.size) (w4b.heap.size + 1) (w4b.heap.size + 1 + 1) (.pointer (some ⟨w.heap.size + 1, 0, Option.none⟩)) h l) (fun W' hb => ⟨cell_below hb hr0b, cell_below hb hr1b, cell_below hb hr2b, (.inr ⟨_, rfl, (hJb.below hb).m⟩)⟩) ?_
  intro Db w6b hDb hb6b hKb
  have hn6b := cell_below hb6b hn5b
  have hMb := hJb.below hb6b
  have hM2b := hMb
  have hB6b := below_then hB5b hb6b
  have hZb : Below w7a.heap.size w7a w6b := below_then hb2b (below_then (below_then (below_alloc1 _ _) hb4b) (below_then hb5b hb6b))
  have hDlb := (Array.getElem?_eq_some_iff.1 hKb).1
  have hs5b := hB5b.size
  obtain ⟨m1b, m2b, m3b, m6b, mxb, mmb, mp0b, mp1b⟩ := hM2b
  have hldb := digest_load w6b w.heap.size 5 (cs.extract 5 37) hxs mxb
  clear mxb fxb gxb
  gi_wp2_with (first
    | (refine wpListIn_load_run rfl 57 _ rfl _ _ rfl hldb ?_)
    | (refine ⟨trivial, ?_⟩; gi_at_call 23; refine (callsIn_wide.2 (nob_sput _ _ _ _ _ _ (.inr ⟨_, rfl, hMb.m⟩))).mono ?_; rintro e w7b ⟨rfl, hb7b⟩; have hn7b := cell_below hb7b hn6b; have hOb := hMb.below hb7b; have hO2b := hOb; have hB7b := below_then hB6b hb7b; have hK7b := mark_below hb7b hKb; obtain ⟨o1b, o2b, o3b, o6b, oxb, omb, op0b, op1b⟩ := hO2b; clear oxb)
    | (refine ⟨trivial, ?_⟩; gi_at_call 24; refine (callsIn_wide.2 (nob_strim _ _ _ _ _ (.inr ⟨_, rfl, hOb.m⟩))).mono ?_; rintro e w8b ⟨rfl, rfl⟩))
  rw [roundsIn_succ]
  gi_wp2
  have hz0 : Below w7a.heap.size w7a w7b := below_then hZb hb7b
  have hk1 := mark_below hz0 hK7a
  have hz1 := hb7a.size
  have hz3 : w7a.heap.size ≤ w5b.heap.size := (below_then hb2b (below_then (below_then (below_alloc1 _ _) hb4b) hb5b)).size
  have hk1' : (w7b.putObj Db (.deferred Option.none)).heap[Da]? = some (.deferred (some [])) := (World.putObj_heap_other (by omega)).trans hk1
  refine ⟨by simp, .inl ⟨_, _, rfl, run_takeDeferred hK7b, ?_⟩⟩
  refine ⟨by simp, .inl ⟨_, _, rfl, run_takeDeferred hk1', ?_⟩⟩
  exact ⟨_, results_tmp rfl _ _ _, rfl, (hB7b.trans (belowK_b (w := w) (Nat.le_refl _) w7b Db _ _ (by omega) hK7b rfl rfl)).trans (belowK_b (w := w) (Nat.le_refl _) _ Da _ _ (by omega) hk1' rfl rfl)⟩
end Go.Proofs.YtkcgmagelghpaaaGreatDoor
