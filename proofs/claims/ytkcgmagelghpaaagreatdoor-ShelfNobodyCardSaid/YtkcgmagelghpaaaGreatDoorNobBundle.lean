/- WALKS of the law BundleNobody. No statement of the seed is proved here. -/
import Derived.Test.YtkcgmagelghpaaaGreatDoorNobJournal
namespace Go.Proofs.YtkcgmagelghpaaaGreatDoor
open Go.RowKit
set_option maxRecDepth 100000

theorem nob_bwrong (v h : Value) (w : World) (hd : NoDisk w v) : Calls Tryz.prog 50 #[v, h] w fun e w' => e = .returned (.int .i64 1) ∧ w = w' := by
  have K := Lib.hid (nodisk_sector v w hd)
  clear hd
  go_enter Tryz.func50, Tryz.ntmps50
  go_wp2_with (go_at_call 39; refine K.out.mono ?_; rintro e w' ⟨rfl, rfl⟩)
  go_ret
  exact ⟨rfl, rfl⟩
theorem nob_bcount (v h : Value) (w : World) (hd : NoDisk w v) : Calls Tryz.prog 16 #[v, h] w fun e w' => e = .returned (.tuple #[.int .i64 0, .int .i64 1]) ∧ w = w' := by
  have K := Lib.hid (nob_bwrong v h w hd)
  clear hd
  go_enter Tryz.func16, Tryz.ntmps16
  go_wp2_with (go_at_call 50; refine K.out.mono ?_; rintro e w' ⟨rfl, rfl⟩)
  go_ret2
  exact ⟨rfl, rfl⟩
theorem nob_btrim (v h n : Value) (w : World) (hd : NoDisk w v) : Calls Tryz.prog 19 #[v, h, n] w fun e w' => e = .returned (.int .i64 1) ∧ w = w' := by
  have K := Lib.hid (nob_bwrong v h w hd)
  clear hd
  go_enter Tryz.func19, Tryz.ntmps19
  go_wp2_with (go_at_call 50; refine K.out.mono ?_; rintro e w' ⟨rfl, rfl⟩)
  go_ret
  exact ⟨rfl, rfl⟩
theorem nob_bput (v h n l : Value) (w : World) (hd : NoDisk w v) : Calls Tryz.prog 18 #[v, h, n, l] w fun e w' => e = .returned (.int .i64 1) ∧ w = w' := by
  have K := Lib.hid (nodisk_sector v w hd)
  clear hd
  go_enter Tryz.func18, Tryz.ntmps18
  go_wp2_with (go_at_call 39; refine K.out.mono ?_; rintro e w' ⟨rfl, rfl⟩)
  go_ret
  exact ⟨rfl, rfl⟩
theorem nob_bread (v h n : Value) (w : World) (hd : NoDisk w v) : Calls Tryz.prog 15 #[v, h, n] w fun e w' => e = .returned (.tuple #[.slice Option.none 0 0, .int .i64 1]) ∧ Below w.heap.size w w' := by
  go_enter Tryz.func15, Tryz.ntmps15
  go_wp2_with (go_at_call 39; refine (nodisk_sector _ _ (hd.below (((Below.refl _ _).alloc (Nat.le_refl _) _).alloc (by simp) _))).mono ?_; rintro e w' ⟨rfl, rfl⟩)
  have c1 := new_cell (w.alloc (.cells #[.slice Option.none 0 0] 22)) (.int .i64 1) 29
  have c0 := cell_below (below_alloc1 (w.alloc (.cells #[.slice Option.none 0 0] 22)) (.cells #[.int .i64 1] 29)) (new_cell w (.slice Option.none 0 0) 22)
  simp only [World.size_alloc] at c1
  refine bodyPost_ret (v := .tuple #[.slice Option.none 0 0, .int .i64 1]) ?_ rfl ⟨rfl, ((Below.refl _ _).alloc (Nat.le_refl _) _).alloc (by simp) _⟩
  simp [results, go_sem, c0, c1]
theorem nob_ball (v : Value) (h : Int) (w : World) (hd : NoDisk w v) : Calls Tryz.prog 17 #[v, .int .i64 h] w fun e w' => e = .returned (.func (.func 52) #[] #[.pointer (some ⟨w.heap.size, 0, Option.none⟩), .pointer (some ⟨w.heap.size + 1, 0, Option.none⟩)]) ∧
    Below w.heap.size w w' ∧ w'.cell? ⟨w.heap.size, 0, Option.none⟩ = some v ∧ w'.cell? ⟨w.heap.size + 1, 0, Option.none⟩ = some (.int .i64 h) := by
  obtain ⟨p, rfl⟩ : ∃ p, v = .pointer p := by rcases hd with h | ⟨g, h, _⟩ <;> exact ⟨_, h⟩
  have c1 := new_cell (w.alloc (.cells #[.pointer p] 23)) (.int .i64 h) 3
  simp only [World.size_alloc] at c1
  go_enter Tryz.func17, Tryz.ntmps17
  go_wp2
  go_ret
  exact ⟨rfl, ((Below.refl _ _).alloc (Nat.le_refl _) _).alloc (by simp) _, cell_below (below_alloc1 _ _) (new_cell w _ _), c1⟩
theorem nob_biter (n : Nat) (h1 : 1 ≤ n) (bx by_ : Nat) (v : Value) (h : Int) :
    IterNone Fence.wide n Tryz.prog 52 #[.pointer (some ⟨bx, 0, Option.none⟩), .pointer (some ⟨by_, 0, Option.none⟩)] (fun W => W.cell? ⟨bx, 0, Option.none⟩ = some v ∧ W.cell? ⟨by_, 0, Option.none⟩ = some (.int .i64 h) ∧ NoDisk W v) := by
  rintro l W ⟨hc, hch, hj⟩
  obtain ⟨p, rfl⟩ : ∃ p, v = .pointer p := by rcases hj with h | ⟨g, h, _⟩ <;> exact ⟨_, h⟩
  have K := Lib.hid (nob_bwrong _ (.int .i64 h) W hj)
  clear hj
  refine callsIn_of_wp Tryz.func52 rfl trivial ?_ rfl
  simp only [Tryz.ntmps52, List.size_toArray, List.length_cons, List.length_nil, Nat.reduceAdd, Nat.reduceSub, Array.replicate_succ, Array.replicate_zero, List.push_toArray, List.append_toArray, List.nil_append, List.cons_append]
  gi_wp2_with (refine ⟨trivial, ?_⟩; gi_at_call 50; refine (callsIn_wide.2 K.out).mono ?_; rintro e w' ⟨rfl, rfl⟩)
  refine bodyPost_ret (results_none rfl _ _ _) rfl ?_
  exact ⟨⟨_, rfl⟩, Below.refl _ _⟩

theorem array5 {α : Type} {cs : Array α} (h : cs.size = 5) : ∃ c0 c1 c2 c3 c4, cs = #[c0, c1, c2, c3, c4] := by
  obtain ⟨l⟩ := cs
  match l, h with
  | [c0, c1, c2, c3, c4], _ => exact ⟨c0, c1, c2, c3, c4, rfl⟩

/-- What a round reads of what lay there ahead of it. -/
structure BFacts (W : World) (g d : Nat) (h ix : Int) (x4 : Value) : Prop where
  c1 : W.cell? ⟨g, 1, Option.none⟩ = some (.int .i64 h)
  c2 : W.cell? ⟨g, 2, Option.none⟩ = some (.int .i64 ix)
  c4 : W.cell? ⟨g, 4, Option.none⟩ = some x4
  m : W.cell? ⟨d, 1, Option.none⟩ = some (.map Option.none)
  p0 : W.cell? ⟨d + 1, 0, Option.none⟩ = some (.pointer Option.none)
  p1 : W.cell? ⟨d + 1, 1, Option.none⟩ = some (.pointer (some ⟨d, 0, Option.none⟩))
theorem BFacts.below {W W' : World} {g d : Nat} {h ix : Int} {x4 : Value} (f : BFacts W g d h ix x4) (hb : Below W.heap.size W W') : BFacts W' g d h ix x4 :=
  ⟨cell_below hb f.c1, cell_below hb f.c2, cell_below hb f.c4, cell_below hb f.m, cell_below hb f.p0, cell_below hb f.p1⟩

set_option maxHeartbeats 1000000 in
theorem bundleNobody_walk (cs : Array Value) (hn : cs.size = 5) (h ix : Int) (e1 : cs[1]? = some (.int .i64 h)) (e2 : cs[2]? = some (.int .i64 ix)) (w : World) : Calls Tryz.prog 5 #[.agg cs] w fun e w' => e = .returned (.bool true) ∧ Below w.heap.size w w' := by
  obtain ⟨x0, x1, x2, x3, x4, rfl⟩ := array5 hn
  obtain rfl : x1 = .int .i64 h := by simpa using e1
  obtain rfl : x2 = .int .i64 ix := by simpa using e2
  clear hn e1 e2
  have ha : ∀ (j : Nat) (x : Value), #[x0, .int .i64 h, .int .i64 ix, x3, x4][j]? = some x → (w.alloc (.cells #[x0, .int .i64 h, .int .i64 ix, x3, x4] 48)).cell? ⟨w.heap.size, j, Option.none⟩ = some x := fun j x hx => by
    rw [cell_of_row _ w.heap.size j _ _ (0, 0) (heap_alloc_new w _)]; exact hx
  obtain ⟨hB0, hc, hc1, hc2⟩ := pair_cells (w.alloc (.cells #[x0, .int .i64 h, .int .i64 ix, x3, x4] 48)) #[.int .i64 0, .map Option.none, .slice Option.none 0 0] 27 23
  have hF : BFacts _ w.heap.size (w.heap.size + 1) h ix x4 := ⟨cell_below hB0 (ha 1 _ rfl), cell_below hB0 (ha 2 _ rfl), cell_below hB0 (ha 4 _ rfl), by rw [← World.size_alloc]; exact hc 1 _ rfl, by rw [← World.size_alloc]; exact hc1, by rw [← World.size_alloc]; exact hc2⟩
  have hB : Below w.heap.size w _ := below_then (below_alloc1 w _) hB0
  clear hc ha hc1 hc2 hB0
  simp only [World.size_alloc] at hF hB
  refine (callsIn_wide (n := 9)).1 ?_
  refine callsIn_of_wp_marks Tryz.func5 rfl trivial ?_ rfl
  simp only [Tryz.ntmps5, List.size_toArray, List.length_cons, List.length_nil, Nat.reduceAdd, Nat.reduceSub, Array.replicate_succ, Array.replicate_zero, List.push_toArray, List.append_toArray, List.nil_append, List.cons_append]
  gi_wp2
  generalize ((w.alloc (.cells #[x0, .int .i64 h, .int .i64 ix, x3, x4] 48)).alloc (.cells #[.int .i64 0, .map Option.none, .slice Option.none 0 0] 27)).alloc (.cells #[.pointer Option.none, .pointer (some ⟨w.heap.size + 1, 0, Option.none⟩)] 23) = w1 at hF hB ⊢
  have hfn := fun f cs bs W => eql_func_nil (P := Tryz.prog) 39 _ _ _ Tryz.underlying39 f cs bs W
  refine wpIn_loop_rounds 3 ?_
  rw [roundsIn_succ]
  have hFa := hF
  obtain ⟨f1a, f2a, f4a, fma, fp0a, fp1a⟩ := hFa
  have toka : True := trivial
  gi_wp2_with (first
    | (refine ⟨trivial, ?_⟩; gi_at_call 15; refine (callsIn_wide.2 (nob_bread _ _ _ _ (.inl rfl))).mono ?_; rintro e w2a ⟨rfl, hb2a⟩; have hGa := hF.below hb2a; have hG2a := hGa; obtain ⟨g1a, g2a, g4a, gma, gp0a, gp1a⟩ := hG2a; have hB2a := below_then hB hb2a; have hna := new_cell w2a (.int .i64 0) 3)
    | (refine ⟨trivial, ?_⟩; gi_at_call 16; refine (callsIn_wide.2 (nob_bcount _ _ _ (.inl rfl))).mono ?_; rintro e w3a ⟨rfl, rfl⟩; have i1a := fun o => cell_below (below_alloc1 w2a o) g1a; have i2a := fun o => cell_below (below_alloc1 w2a o) g2a)
    | (refine ⟨trivial, ?_⟩; gi_at_call 17; have _t := toka; refine (callsIn_wide.2 (nob_ball _ _ _ (.inl rfl))).mono ?_; clear toka; rintro e w4a ⟨rfl, hb4a, hq0a, hq1a⟩; have k1a := cell_below hb4a (i1a _); have k2a := cell_below hb4a (i2a _); have hn4a := cell_below hb4a hna; have hHa := hGa.below (below_then (below_alloc1 _ _) hb4a); have hB4a := below_then hB2a (below_then (below_alloc1 _ _) hb4a))
    | (refine ⟨trivial, ?_⟩; gi_at_call 17; refine (callsIn_wide.2 (nob_ball _ _ _ (.inl rfl))).mono ?_; rintro e w5a ⟨rfl, hb5a, hr0a, hr1a⟩; have hJa := hHa.below hb5a; have hn5a := cell_below hb5a hn4a; have hB5a := below_then hB4a hb5a))
  refine wpIn_range_none rfl (by omega) (gf := 52) (lb := #[.pointer (some ⟨w4a.heap.size, 0, Option.none⟩), .pointer (some ⟨w4a.heap.size + 1, 0, Option.none⟩)]) rfl trivial (enters_of Tryz.func52 (by kernel_rfl) rfl)
    (nob_biter 8 (by omega) (w4a.heap.size) (w4a.heap.size + 1) (.pointer Option.none) h) (fun W' hb => ⟨cell_below hb hr0a, cell_below hb hr1a, (.inl rfl)⟩) ?_
  intro Da w6a hDa hb6a hKa
  have hn6a := cell_below hb6a hn5a
  have hMa := hJa.below hb6a
  have hM2a := hMa
  have hB6a := below_then hB5a hb6a
  have hZa : Below w1.heap.size w1 w6a := below_then hb2a (below_then (below_then (below_alloc1 _ _) hb4a) (below_then hb5a hb6a))
  have hDla := (Array.getElem?_eq_some_iff.1 hKa).1
  have hs5a := hB5a.size
  obtain ⟨m1a, m2a, m4a, mma, mp0a, mp1a⟩ := hM2a
  gi_wp2_with (first
    | (refine ⟨trivial, ?_⟩; gi_at_call 18; refine (callsIn_wide.2 (nob_bput _ _ _ _ _ (.inl rfl))).mono ?_; rintro e w7a ⟨rfl, rfl⟩)
    | (refine ⟨trivial, ?_⟩; gi_at_call 19; refine (callsIn_wide.2 (nob_btrim _ _ _ _ (.inl rfl))).mono ?_; rintro e w8a ⟨rfl, rfl⟩))
  rw [roundsIn_succ]
  have hFb := hMa
  obtain ⟨f1b, f2b, f4b, fmb, fp0b, fp1b⟩ := hFb
  have tokb : True := trivial
  gi_wp2_with (first
    | (refine ⟨trivial, ?_⟩; gi_at_call 15; refine (callsIn_wide.2 (nob_bread _ _ _ _ (.inr ⟨_, rfl, hMa.m⟩))).mono ?_; rintro e w2b ⟨rfl, hb2b⟩; have hGb := hMa.below hb2b; have hG2b := hGb; obtain ⟨g1b, g2b, g4b, gmb, gp0b, gp1b⟩ := hG2b; have hB2b := below_then hB6a hb2b; have hnb := new_cell w2b (.int .i64 0) 3)
    | (refine ⟨trivial, ?_⟩; gi_at_call 16; refine (callsIn_wide.2 (nob_bcount _ _ _ (.inr ⟨_, rfl, hGb.m⟩))).mono ?_; rintro e w3b ⟨rfl, rfl⟩; have i1b := fun o => cell_below (below_alloc1 w2b o) g1b; have i2b := fun o => cell_below (below_alloc1 w2b o) g2b)
    | (refine ⟨trivial, ?_⟩; gi_at_call 17; have _t := tokb; refine (callsIn_wide.2 (nob_ball _ _ _ (.inr ⟨_, rfl, (hGb.below (below_alloc1 _ _)).m⟩))).mono ?_; clear tokb; rintro e w4b ⟨rfl, hb4b, hq0b, hq1b⟩; have k1b := cell_below hb4b (i1b _); have k2b := cell_below hb4b (i2b _); have hn4b := cell_below hb4b hnb; have hHb := hGb.below (below_then (below_alloc1 _ _) hb4b); have hB4b := below_then hB2b (below_then (below_alloc1 _ _) hb4b))
    | (refine ⟨trivial, ?_⟩; gi_at_call 17; refine (callsIn_wide.2 (nob_ball _ _ _ (.inr ⟨_, rfl, hHb.m⟩))).mono ?_; rintro e w5b ⟨rfl, hb5b, hr0b, hr1b⟩; have hJb := hHb.below hb5b; have hn5b := cell_below hb5b hn4b; have hB5b := below_then hB4b hb5b))
  refine wpIn_range_none rfl (by omega) (gf := 52) (lb := #[.pointer (some ⟨w4b.heap.size, 0, Option.none⟩), .pointer (some ⟨w4b.heap.size + 1, 0, Option.none⟩)]) rfl trivial (enters_of Tryz.func52 (by kernel_rfl) rfl)
    (nob_biter 8 (by omega) (w4b.heap.size) (w4b.heap.size + 1) (.pointer (some ⟨w.heap.size + 1, 0, Option.none⟩)) h) (fun W' hb => ⟨cell_below hb hr0b, cell_below hb hr1b, (.inr ⟨_, rfl, (hJb.below hb).m⟩)⟩) ?_
  intro Db w6b hDb hb6b hKb
  have hn6b := cell_below hb6b hn5b
  have hMb := hJb.below hb6b
  have hM2b := hMb
  have hB6b := below_then hB5b hb6b
  have hZb : Below w6a.heap.size w6a w6b := below_then hb2b (below_then (below_then (below_alloc1 _ _) hb4b) (below_then hb5b hb6b))
  have hDlb := (Array.getElem?_eq_some_iff.1 hKb).1
  have hs5b := hB5b.size
  obtain ⟨m1b, m2b, m4b, mmb, mp0b, mp1b⟩ := hM2b
  gi_wp2_with (first
    | (refine ⟨trivial, ?_⟩; gi_at_call 18; refine (callsIn_wide.2 (nob_bput _ _ _ _ _ (.inr ⟨_, rfl, hMb.m⟩))).mono ?_; rintro e w7b ⟨rfl, rfl⟩)
    | (refine ⟨trivial, ?_⟩; gi_at_call 19; refine (callsIn_wide.2 (nob_btrim _ _ _ _ (.inr ⟨_, rfl, hMb.m⟩))).mono ?_; rintro e w8b ⟨rfl, rfl⟩))
  rw [roundsIn_succ]
  gi_wp2
  have hk1 := mark_below hZb hKa
  have hz := hZb.size
  have hz2 := hb5b.size
  have hz3 : w6a.heap.size ≤ w5b.heap.size := (below_then hb2b (below_then (below_then (below_alloc1 _ _) hb4b) hb5b)).size
  have hk1' : (w6b.putObj Db (.deferred Option.none)).heap[Da]? = some (.deferred (some [])) := (World.putObj_heap_other (by omega)).trans hk1
  refine ⟨by simp, .inl ⟨_, _, rfl, run_takeDeferred hKb, ?_⟩⟩
  refine ⟨by simp, .inl ⟨_, _, rfl, run_takeDeferred hk1', ?_⟩⟩
  exact ⟨_, results_tmp rfl _ _ _, rfl, (hB6b.trans (belowK_b (w := w) (Nat.le_refl _) w6b Db _ _ (by omega) hKb rfl rfl)).trans (belowK_b (w := w) (Nat.le_refl _) _ Da _ _ (by omega) hk1' rfl rfl)⟩
end Go.Proofs.YtkcgmagelghpaaaGreatDoor
