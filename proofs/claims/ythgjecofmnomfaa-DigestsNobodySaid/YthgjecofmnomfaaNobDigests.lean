/- WALKS of the law DigestsNobody. No statement of the seed is proved here. -/
import Derived.Test.YthgjecofmnomfaaPair
namespace Go.Proofs.Ythgjecofmnomfaa
open Go.RowKit
set_option maxRecDepth 100000

/-- An index that no call made. -/
def NoIndex (w : World) (v : Value) : Prop := v = .pointer Option.none ∨ ∃ g, v = .pointer (some ⟨g, 0, Option.none⟩) ∧ w.cell? ⟨g, 0, Option.none⟩ = some (.bool false)
theorem NoIndex.below {w w1 : World} {v : Value} (h : NoIndex w v) (hb : Below w.heap.size w w1) : NoIndex w1 v := by
  rcases h with h | ⟨g, h, hc⟩
  · exact .inl h
  · exact .inr ⟨g, h, cell_below hb hc⟩
theorem nob_none (v : Value) (w : World) (h : NoIndex w v) : Calls Try.prog 25 #[v] w fun e w' => e = .returned (.bool true) ∧ w = w' := by
  rcases h with rfl | ⟨g, rfl, hc⟩
  · go_enter Try.func25, Try.ntmps25
    go_wp2
    go_ret
    exact ⟨rfl, rfl⟩
  · go_enter Try.func25, Try.ntmps25
    go_wp2
    go_ret
    exact ⟨rfl, rfl⟩
theorem nob_runs (v : Value) (w : World) (h : NoIndex w v) : Calls Try.prog 14 #[v] w fun e w' => e = .returned (.slice Option.none 0 0) ∧ w = w' := by
  have K := Lib.hid (nob_none v w h)
  clear h
  go_enter Try.func14, Try.ntmps14
  go_wp2_with (go_at_call 25; refine K.out.mono ?_; rintro e w' ⟨rfl, rfl⟩)
  go_ret
  exact ⟨rfl, rfl⟩
theorem nob_len (v : Value) (w : World) (h : NoIndex w v) : Calls Try.prog 15 #[v] w fun e w' => e = .returned (.int .i64 0) ∧ w = w' := by
  have K := Lib.hid (nob_runs v w h)
  clear h
  go_enter Try.func15, Try.ntmps15
  go_wp2_with (go_at_call 14; refine K.out.mono ?_; rintro e w' ⟨rfl, rfl⟩)
  refine wp_loop_rounds 1 ?_
  rw [rounds_succ]
  go_wp2
  go_ret
  exact ⟨rfl, rfl⟩
theorem nob_clone (v : Value) (w : World) (h : NoIndex w v) : Calls Try.prog 17 #[v] w fun e w' => e = .returned (.pointer Option.none) ∧ w = w' := by
  have K := Lib.hid (nob_none v w h)
  clear h
  go_enter Try.func17, Try.ntmps17
  go_wp2_with (go_at_call 25; refine K.out.mono ?_; rintro e w' ⟨rfl, rfl⟩)
  go_ret
  exact ⟨rfl, rfl⟩
theorem nob_add (v p : Value) (xs : Array Value) (w : World) (h : NoIndex w v) : Calls Try.prog 12 #[v, .agg xs, p] w fun e w' => e = .returned (.int .i64 1) ∧ Below w.heap.size w w' := by
  go_enter Try.func12, Try.ntmps12
  go_wp2_with (go_at_call 25; refine (nob_none _ _ (h.below (below_alloc1 _ _))).mono ?_; rintro e w' ⟨rfl, rfl⟩)
  go_ret
  exact ⟨rfl, below_alloc1 _ _⟩
theorem nob_find (v : Value) (xs : Array Value) (w : World) (h : NoIndex w v) : Calls Try.prog 13 #[v, .agg xs] w fun e w' => e = .returned (.tuple #[.int .i64 0, .bool false]) ∧ Below w.heap.size w w' := by
  go_enter Try.func13, Try.ntmps13
  go_wp2
  go_step3
  go_wp2_with (go_at_call 25; refine (nob_none _ _ (h.below (below_alloc1 _ _))).mono ?_; rintro e w' ⟨rfl, rfl⟩)
  rw [Exit.noGoto_ret]
  go_ret2
  exact ⟨rfl, below_alloc1 _ _⟩
theorem nob_all (v : Value) (w : World) (h : NoIndex w v) : Calls Try.prog 16 #[v] w fun e w' => e = .returned (.func (.func 31) #[] #[.pointer (some ⟨w.heap.size, 0, Option.none⟩)]) ∧ Below w.heap.size w w' ∧ w'.cell? ⟨w.heap.size, 0, Option.none⟩ = some v := by
  obtain ⟨p, rfl⟩ : ∃ p, v = .pointer p := by rcases h with h | ⟨g, h, _⟩ <;> exact ⟨_, h⟩
  go_enter Try.func16, Try.ntmps16
  go_wp2
  go_ret
  exact ⟨rfl, below_alloc1 _ _, new_cell _ _ _⟩
theorem nob_iter (n : Nat) (h1 : 1 ≤ n) (bx : Nat) (v : Value) :
    IterNone Fence.wide n Try.prog 31 #[.pointer (some ⟨bx, 0, Option.none⟩)] (fun W => W.cell? ⟨bx, 0, Option.none⟩ = some v ∧ NoIndex W v) := by
  rintro l W ⟨hc, hj⟩
  obtain ⟨p, rfl⟩ : ∃ p, v = .pointer p := by rcases hj with h | ⟨g, h, _⟩ <;> exact ⟨_, h⟩
  have K := Lib.hid (nob_none _ W hj)
  clear hj
  refine callsIn_of_wp Try.func31 rfl trivial ?_ rfl
  simp only [Try.ntmps31, List.size_toArray, List.length_cons, List.length_nil, Nat.reduceAdd, Nat.reduceSub, Array.replicate_succ, Array.replicate_zero, List.push_toArray, List.append_toArray, List.nil_append, List.cons_append]
  gi_wp2_with (refine ⟨trivial, ?_⟩; gi_at_call 25; refine (callsIn_wide.2 K.out).mono ?_; rintro e w' ⟨rfl, rfl⟩)
  refine bodyPost_ret (results_none rfl _ _ _) rfl ?_
  exact ⟨⟨_, rfl⟩, Below.refl _ _⟩
theorem digest_load (w : World) (b o : Nat) (xs : Array Value) (hxs : xs.size = 32) (hx : ∀ j x, xs[j]? = some x → w.cell? ⟨b, o + j, Option.none⟩ = some x) :
    (Instr.loadAt 34 (.pointer (some ⟨b, o, Option.none⟩))).run Try.prog w = .ok (.agg xs) w := by
  have h := run_loadAt_mid (P := Try.prog) w b o 34 xs.toList _ (fun j v hv => hx j v (by simpa using hv)) Try.underlying34 rfl (by
    have : (Try.prog.info? 34).map (·.size) = some 32 := by kernel_rfl
    rw [this, Array.length_toList, hxs])
  simpa using h
structure DFacts (W : World) (g d : Nat) (pl : Int) (xs : Array Value) : Prop where
  x : ∀ j x, xs[j]? = some x → W.cell? ⟨g, 0 + j, Option.none⟩ = some x
  p : W.cell? ⟨g, 32, Option.none⟩ = some (.int .i64 pl)
  m : W.cell? ⟨d, 0, Option.none⟩ = some (.bool false)
  p0 : W.cell? ⟨d + 1, 0, Option.none⟩ = some (.pointer Option.none)
  p1 : W.cell? ⟨d + 1, 1, Option.none⟩ = some (.pointer (some ⟨d, 0, Option.none⟩))
theorem DFacts.below {W W' : World} {g d : Nat} {pl : Int} {xs : Array Value} (f : DFacts W g d pl xs) (hb : Below W.heap.size W W') : DFacts W' g d pl xs :=
  ⟨fun j x hx => cell_below hb (f.x j x hx), cell_below hb f.p, cell_below hb f.m, cell_below hb f.p0, cell_below hb f.p1⟩

set_option maxHeartbeats 2000000 in
theorem digestsNobody_walk (cs : Array Value) (hn : cs.size = 34) (pl : Int) (e1 : cs[32]? = some (.int .i64 pl)) (w : World) : Calls Try.prog 5 #[.agg cs] w fun e w' => e = .returned (.bool true) ∧ Below w.heap.size w w' := by
  have ha : ∀ (j : Nat) (x : Value), cs[j]? = some x → (w.alloc (.cells cs 42)).cell? ⟨w.heap.size, j, Option.none⟩ = some x := fun j x hx => by
    rw [cell_of_row _ w.heap.size j _ _ (0, 0) (heap_alloc_new w _)]; exact hx
  obtain ⟨hB0, hc, hc1, hc2⟩ := pair_cells (w.alloc (.cells cs 42)) #[.bool false, .slice Option.none 0 0] 45 30
  have hF : DFacts _ w.heap.size (w.heap.size + 1) pl (cs.extract 0 32) := ⟨fun j x hx => cell_below hB0 (ha (0 + j) x (by
      rw [Array.getElem?_extract] at hx
      split at hx
      · exact hx
      · cases hx)), cell_below hB0 (ha 32 _ e1), by rw [← World.size_alloc]; exact hc 0 _ rfl, by rw [← World.size_alloc]; exact hc1, by rw [← World.size_alloc]; exact hc2⟩
  have hxs : (cs.extract 0 32).size = 32 := by simp; omega
  have hB : Below w.heap.size w _ := below_then (below_alloc1 w _) hB0
  clear hc ha hc1 hc2 hB0 e1 hn
  simp only [World.size_alloc] at hF hB
  refine (callsIn_wide (n := 9)).1 ?_
  refine callsIn_of_wp_marks Try.func5 rfl trivial ?_ rfl
  simp only [Try.ntmps5, List.size_toArray, List.length_cons, List.length_nil, Nat.reduceAdd, Nat.reduceSub, Array.replicate_succ, Array.replicate_zero, List.push_toArray, List.append_toArray, List.nil_append, List.cons_append]
  gi_wp2
  generalize ((w.alloc (.cells cs 42)).alloc (.cells #[.bool false, .slice Option.none 0 0] 45)).alloc (.cells #[.pointer Option.none, .pointer (some ⟨w.heap.size + 1, 0, Option.none⟩)] 30) = w1 at hF hB ⊢
  have hfn := fun f cs bs W => eql_func_nil (P := Try.prog) 48 _ _ _ Try.underlying48 f cs bs W
  refine wpIn_loop_rounds 3 ?_
  rw [roundsIn_succ]
  have hFa := hF
  obtain ⟨fxa, fpa, fma, fp0a, fp1a⟩ := hFa
  clear fxa
  have toka : True := trivial
  have hna := new_cell w1 (.int .i64 0) 3
  gi_wp2_with (first
    | (refine ⟨trivial, ?_⟩; gi_at_call 16; have _t := toka; refine (callsIn_wide.2 (nob_all _ _ (.inl rfl))).mono ?_; clear toka; rintro e w4a ⟨rfl, hb4a, hq0a⟩; have hn4a := cell_below hb4a hna; have hHa := hF.below (below_then (below_alloc1 _ _) hb4a))
    | (refine ⟨trivial, ?_⟩; gi_at_call 16; refine (callsIn_wide.2 (nob_all _ _ (.inl rfl))).mono ?_; rintro e w5a ⟨rfl, hb5a, hr0a⟩; have hJa := hHa.below hb5a; have hn5a := cell_below hb5a hn4a; have hB5a : Below w1.heap.size w1 w5a := below_then (below_then (below_alloc1 _ _) hb4a) hb5a))
  refine wpIn_range_none rfl (by omega) (gf := 31) (lb := #[.pointer (some ⟨w4a.heap.size, 0, Option.none⟩)]) rfl trivial (enters_of Try.func31 (by kernel_rfl) rfl)
    (nob_iter 8 (by omega) (w4a.heap.size) (.pointer Option.none)) (fun W' hb => ⟨cell_below hb hr0a, (.inl rfl)⟩) ?_
  intro Da w6a hDa hb6a hKa
  have hn6a := cell_below hb6a hn5a
  have hMa := hJa.below hb6a
  have hZa : Below w1.heap.size w1 w6a := below_then hB5a hb6a
  have hDla := (Array.getElem?_eq_some_iff.1 hKa).1
  have hs5a := hB5a.size
  have hld6a := digest_load w6a w.heap.size 0 (cs.extract 0 32) hxs hMa.x
  have mpa := hMa.p
  gi_wp2_with (first
    | (refine wpListIn_load_run rfl 34 _ rfl _ _ rfl hld6a ?_)
    | (refine ⟨trivial, ?_⟩; gi_at_call 13; refine (callsIn_wide.2 (nob_find _ _ _ (.inl rfl))).mono ?_; rintro e w7a ⟨rfl, hb7a⟩; have hn7a := cell_below hb7a hn6a; have hOa := hMa.below hb7a; have hld7a := digest_load w7a w.heap.size 0 (cs.extract 0 32) hxs hOa.x; have opa := hOa.p)
    | (refine wpListIn_load_run rfl 34 _ rfl _ _ rfl hld7a ?_)
    | (refine ⟨trivial, ?_⟩; gi_at_call 12; refine (callsIn_wide.2 (nob_add _ _ _ _ (.inl rfl))).mono ?_; rintro e w8a ⟨rfl, hb8a⟩; have hn8a := cell_below hb8a hn7a; have hUa := hOa.below hb8a; have up0a := hUa.p0; have up1a := hUa.p1)
    | (refine ⟨trivial, ?_⟩; gi_at_call 15; refine (callsIn_wide.2 (nob_len _ _ (.inl rfl))).mono ?_; rintro e w9a ⟨rfl, rfl⟩)
    | (refine ⟨trivial, ?_⟩; gi_at_call 14; refine (callsIn_wide.2 (nob_runs _ _ (.inl rfl))).mono ?_; rintro e w9a ⟨rfl, rfl⟩)
    | (refine ⟨trivial, ?_⟩; gi_at_call 17; refine (callsIn_wide.2 (nob_clone _ _ (.inl rfl))).mono ?_; rintro e w9a ⟨rfl, rfl⟩))
  have hVa : Below w1.heap.size w1 w8a := below_then (below_then hZa hb7a) hb8a
  have hLa := mark_below (below_then hb7a hb8a) hKa
  rw [roundsIn_succ]
  have hFb := hUa
  obtain ⟨fxb, fpb, fmb, fp0b, fp1b⟩ := hFb
  clear fxb
  have tokb : True := trivial
  have hnb := new_cell w8a (.int .i64 0) 3
  gi_wp2_with (first
    | (refine ⟨trivial, ?_⟩; gi_at_call 16; have _t := tokb; refine (callsIn_wide.2 (nob_all _ _ (.inr ⟨_, rfl, (hUa.below (below_alloc1 _ _)).m⟩))).mono ?_; clear tokb; rintro e w4b ⟨rfl, hb4b, hq0b⟩; have hn4b := cell_below hb4b hnb; have hHb := hUa.below (below_then (below_alloc1 _ _) hb4b))
    | (refine ⟨trivial, ?_⟩; gi_at_call 16; refine (callsIn_wide.2 (nob_all _ _ (.inr ⟨_, rfl, hHb.m⟩))).mono ?_; rintro e w5b ⟨rfl, hb5b, hr0b⟩; have hJb := hHb.below hb5b; have hn5b := cell_below hb5b hn4b; have hB5b : Below w8a.heap.size w8a w5b := below_then (below_then (below_alloc1 _ _) hb4b) hb5b))
  refine wpIn_range_none rfl (by omega) (gf := 31) (lb := #[.pointer (some ⟨w4b.heap.size, 0, Option.none⟩)]) rfl trivial (enters_of Try.func31 (by kernel_rfl) rfl)
    (nob_iter 8 (by omega) (w4b.heap.size) (.pointer (some ⟨w.heap.size + 1, 0, Option.none⟩))) (fun W' hb => ⟨cell_below hb hr0b, (.inr ⟨_, rfl, (hJb.below hb).m⟩)⟩) ?_
  intro Db w6b hDb hb6b hKb
  have hn6b := cell_below hb6b hn5b
  have hMb := hJb.below hb6b
  have hZb : Below w8a.heap.size w8a w6b := below_then hB5b hb6b
  have hDlb := (Array.getElem?_eq_some_iff.1 hKb).1
  have hs5b := hB5b.size
  have hld6b := digest_load w6b w.heap.size 0 (cs.extract 0 32) hxs hMb.x
  have mpb := hMb.p
  gi_wp2_with (first
    | (refine wpListIn_load_run rfl 34 _ rfl _ _ rfl hld6b ?_)
    | (refine ⟨trivial, ?_⟩; gi_at_call 13; refine (callsIn_wide.2 (nob_find _ _ _ (.inr ⟨_, rfl, hMb.m⟩))).mono ?_; rintro e w7b ⟨rfl, hb7b⟩; have hn7b := cell_below hb7b hn6b; have hOb := hMb.below hb7b; have hld7b := digest_load w7b w.heap.size 0 (cs.extract 0 32) hxs hOb.x; have opb := hOb.p)
    | (refine wpListIn_load_run rfl 34 _ rfl _ _ rfl hld7b ?_)
    | (refine ⟨trivial, ?_⟩; gi_at_call 12; refine (callsIn_wide.2 (nob_add _ _ _ _ (.inr ⟨_, rfl, hOb.m⟩))).mono ?_; rintro e w8b ⟨rfl, hb8b⟩; have hn8b := cell_below hb8b hn7b; have hUb := hOb.below hb8b; have up0b := hUb.p0; have up1b := hUb.p1)
    | (refine ⟨trivial, ?_⟩; gi_at_call 15; refine (callsIn_wide.2 (nob_len _ _ (.inr ⟨_, rfl, hUb.m⟩))).mono ?_; rintro e w9b ⟨rfl, rfl⟩)
    | (refine ⟨trivial, ?_⟩; gi_at_call 14; refine (callsIn_wide.2 (nob_runs _ _ (.inr ⟨_, rfl, hUb.m⟩))).mono ?_; rintro e w9b ⟨rfl, rfl⟩)
    | (refine ⟨trivial, ?_⟩; gi_at_call 17; refine (callsIn_wide.2 (nob_clone _ _ (.inr ⟨_, rfl, hUb.m⟩))).mono ?_; rintro e w9b ⟨rfl, rfl⟩))
  have hVb : Below w8a.heap.size w8a w8b := below_then (below_then hZb hb7b) hb8b
  have hLb := mark_below (below_then hb7b hb8b) hKb
  rw [roundsIn_succ]
  gi_wp2
  have hBa := below_then hB hVa
  have hBb := below_then hBa hVb
  have hq := hBa.size
  have hq2 : w8a.heap.size ≤ w5b.heap.size := hs5b
  have hDa8 : Da < w8a.heap.size := (Array.getElem?_eq_some_iff.1 hLa).1
  have hq3 := hB.size
  exact leaves_two (w := w) (mark_below hVb hLa) hLb (by omega) (by omega) (by omega) hBb (fun W' => results_tmp rfl _ _ _) (fun W' hb => ⟨rfl, hb⟩)
end Go.Proofs.Ythgjecofmnomfaa
