/- WALK of the law TlogNobody. No statement of the seed is proved here. -/
import Derived.Test.YtgmdgidjgddnaaaGreatDoorNobTlog
namespace Go.Proofs.YtgmdgidjgddnaaaGreatDoor
open Go.RowKit
set_option maxRecDepth 100000

/-- What the law's walk holds: the act's cells (its box: block g), the two logs' (blocks d and d + 1). -/
structure TF (W : World) (g d : Nat) (v1 : Value) (a n : Int) (ts : Array Value) : Prop where
  c1 : W.cell? ⟨g, 1, Option.none⟩ = some v1
  c2 : W.cell? ⟨g, 2, Option.none⟩ = some (.int .i64 a)
  c3 : W.cell? ⟨g, 3, Option.none⟩ = some (.int .i64 n)
  t : ∀ j x, ts[j]? = some x → W.cell? ⟨g, 4 + j, Option.none⟩ = some x
  m : W.cell? ⟨d, 0, Option.none⟩ = some (.pointer Option.none)
  p0 : W.cell? ⟨d + 1, 0, Option.none⟩ = some (.pointer Option.none)
  p1 : W.cell? ⟨d + 1, 1, Option.none⟩ = some (.pointer (some ⟨d, 0, Option.none⟩))
theorem TF.below {W W' : World} {g d : Nat} {v1 : Value} {a n : Int} {ts : Array Value} (f : TF W g d v1 a n ts) (hb : Below W.heap.size W W') : TF W' g d v1 a n ts :=
  ⟨cell_below hb f.c1, cell_below hb f.c2, cell_below hb f.c3, fun j x hx => cell_below hb (f.t j x hx), cell_below hb f.m, cell_below hb f.p0, cell_below hb f.p1⟩
theorem tile_load (w : World) (b o : Nat) (xs : Array Value) (hxs : xs.size = 4) (hx : ∀ j x, xs[j]? = some x → w.cell? ⟨b, o + j, Option.none⟩ = some x) :
    (Instr.loadAt 24 (.pointer (some ⟨b, o, Option.none⟩))).run Tryz.prog w = .ok (.agg xs) w := by
  have h := run_loadAt_mid (P := Tryz.prog) w b o 24 xs.toList _ (fun j v hv => hx j v (by simpa using hv)) Tryz.underlying24 rfl (by
    have : (Tryz.prog.info? 24).map (·.size) = some 4 := by kernel_rfl
    rw [this, Array.length_toList, hxs])
  simpa using h
theorem cp_load (w : World) (b : Nat) (h : w.heap[b]? = some (.cells zeroCP 35)) :
    (Instr.loadAt 35 (.pointer (some ⟨b, 0, Option.none⟩))).run Tryz.prog w = .ok (.agg #[.string ⟨#[]⟩, .int .i64 0, .int .u8 0, .int .u8 0, .int .u8 0, .int .u8 0, .int .u8 0, .int .u8 0, .int .u8 0, .int .u8 0, .int .u8 0, .int .u8 0, .int .u8 0, .int .u8 0, .int .u8 0, .int .u8 0, .int .u8 0, .int .u8 0, .int .u8 0, .int .u8 0, .int .u8 0, .int .u8 0, .int .u8 0, .int .u8 0, .int .u8 0, .int .u8 0, .int .u8 0, .int .u8 0, .int .u8 0, .int .u8 0, .int .u8 0, .int .u8 0, .int .u8 0, .int .u8 0]) w := by
  simp only [Instr.loadAt, Instr.sureAddr, Sem.run_bind, Sem.run_pure, Result.andThen]
  exact run_loadVar_row w b 35 35 zeroCP (0, 0) _ h Tryz.underlying35 rfl info_cp
theorem cp_same (w : World) : (binOp .neq 35 (.agg #[.string ⟨#[]⟩, .int .i64 0, .int .u8 0, .int .u8 0, .int .u8 0, .int .u8 0, .int .u8 0, .int .u8 0, .int .u8 0, .int .u8 0, .int .u8 0, .int .u8 0, .int .u8 0, .int .u8 0, .int .u8 0, .int .u8 0, .int .u8 0, .int .u8 0, .int .u8 0, .int .u8 0, .int .u8 0, .int .u8 0, .int .u8 0, .int .u8 0, .int .u8 0, .int .u8 0, .int .u8 0, .int .u8 0, .int .u8 0, .int .u8 0, .int .u8 0, .int .u8 0, .int .u8 0, .int .u8 0]) (.agg #[.string ⟨#[]⟩, .int .i64 0, .int .u8 0, .int .u8 0, .int .u8 0, .int .u8 0, .int .u8 0, .int .u8 0, .int .u8 0, .int .u8 0, .int .u8 0, .int .u8 0, .int .u8 0, .int .u8 0, .int .u8 0, .int .u8 0, .int .u8 0, .int .u8 0, .int .u8 0, .int .u8 0, .int .u8 0, .int .u8 0, .int .u8 0, .int .u8 0, .int .u8 0, .int .u8 0, .int .u8 0, .int .u8 0, .int .u8 0, .int .u8 0, .int .u8 0, .int .u8 0, .int .u8 0, .int .u8 0])).run Tryz.prog w = .ok (.bool false) w := by kernel_rfl

set_option maxHeartbeats 4000000 in
theorem tlogNobody_walk (cs : Array Value) (hn : cs.size = 8) (a n : Int) (e2 : cs[2]? = some (.int .i64 a)) (e3 : cs[3]? = some (.int .i64 n)) (w : World) :
    Calls Tryz.prog 3 #[.agg cs] w fun e w' => e = .returned (.bool true) ∧ Below w.heap.size w w' := by
  have ha : ∀ (j : Nat) (x : Value), cs[j]? = some x → (w.alloc (.cells cs 26)).cell? ⟨w.heap.size, j, Option.none⟩ = some x := fun j x hx => by
    rw [cell_of_row _ w.heap.size j _ _ (0, 0) (heap_alloc_new w _)]; exact hx
  obtain ⟨v1, e1⟩ : ∃ v1, cs[1]? = some v1 := ⟨cs[1], Array.getElem?_eq_getElem (by omega)⟩
  obtain ⟨hB0, hc, hc1, hc2⟩ := pair_cells (w.alloc (.cells cs 26)) #[.pointer Option.none, .pointer Option.none, .string ⟨#[]⟩, .int .i64 0, .int .i64 0, .int .i64 0, .int .i64 0, .string ⟨#[]⟩, .int .i64 0, .int .u8 0, .int .u8 0, .int .u8 0, .int .u8 0, .int .u8 0, .int .u8 0, .int .u8 0, .int .u8 0, .int .u8 0, .int .u8 0, .int .u8 0, .int .u8 0, .int .u8 0, .int .u8 0, .int .u8 0, .int .u8 0, .int .u8 0, .int .u8 0, .int .u8 0, .int .u8 0, .int .u8 0, .int .u8 0, .int .u8 0, .int .u8 0, .int .u8 0, .int .u8 0, .int .u8 0, .int .u8 0, .int .u8 0, .int .u8 0, .int .u8 0, .int .u8 0] 37 27
  have hF0 : TF _ w.heap.size (w.heap.size + 1) v1 a n (cs.extract 4 8) := ⟨cell_below hB0 (ha 1 _ e1), cell_below hB0 (ha 2 _ e2), cell_below hB0 (ha 3 _ e3), fun j x hx => cell_below hB0 (ha (4 + j) x (by
      rw [Array.getElem?_extract] at hx
      split at hx
      · exact hx
      · cases hx)), by rw [← World.size_alloc]; exact hc 0 _ rfl, by rw [← World.size_alloc]; exact hc1, by rw [← World.size_alloc]; exact hc2⟩
  have hts : (cs.extract 4 8).size = 4 := by simp; omega
  have hB : Below w.heap.size w _ := below_then (below_alloc1 w _) hB0
  clear hc ha hc1 hc2 hB0 e1 e2 e3 hn
  simp only [World.size_alloc] at hF0 hB
  go_enter Tryz.func3, Tryz.ntmps3
  go_wp2
  generalize ((w.alloc (.cells cs 26)).alloc (.cells #[.pointer Option.none, .pointer Option.none, .string ⟨#[]⟩, .int .i64 0, .int .i64 0, .int .i64 0, .int .i64 0, .string ⟨#[]⟩, .int .i64 0, .int .u8 0, .int .u8 0, .int .u8 0, .int .u8 0, .int .u8 0, .int .u8 0, .int .u8 0, .int .u8 0, .int .u8 0, .int .u8 0, .int .u8 0, .int .u8 0, .int .u8 0, .int .u8 0, .int .u8 0, .int .u8 0, .int .u8 0, .int .u8 0, .int .u8 0, .int .u8 0, .int .u8 0, .int .u8 0, .int .u8 0, .int .u8 0, .int .u8 0, .int .u8 0, .int .u8 0, .int .u8 0, .int .u8 0, .int .u8 0, .int .u8 0, .int .u8 0] 37)).alloc (.cells #[.pointer Option.none, .pointer (some ⟨w.heap.size + 1, 0, Option.none⟩)] 27) = w0 at hF0 hB ⊢
  have hst := fun (W : World) => run_storeAt_new (P := Tryz.prog) W 35 zeroCP zeroCP info_cp rfl zeroCP_one
  have hcs := cp_same
  refine wp_loop_rounds 3 ?_
  rw [rounds_succ]
  have p0a := hF0.p0
  have p1a := hF0.p1
  go_wp2_with (first
    | (go_at_call 6; refine (nolog_integrate _ _ (.inl rfl)).mono ?_; rintro e w1a ⟨rfl, hb1a⟩; have hF1a := hF0.below hb1a; have hB1a := below_then hB hb1a)
    | (go_at_call 7; refine (nolog_publish _ _ (.inl rfl)).mono ?_; rintro e w2a ⟨rfl, hb2a⟩; have hF2a := hF1a.below hb2a; have hB2a := below_then hB1a hb2a; have k7 := heap_alloc_new w2a (.cells zeroCP 35))
    | (go_at_call 8; refine (nolog_checkpoint _ _ (.inl rfl)).mono ?_; rintro e w3a ⟨rfl, hb3a⟩; have hF3a := (hF2a.below (below_alloc1 _ _)).below hb3a; have hB3a := below_then (below_then hB2a (below_alloc1 _ _)) hb3a; have k7 := mark_below (below_alloc1 _ (.cells zeroCP 35)) (mark_below hb3a k7); have k9 := heap_alloc_new w3a (.cells zeroCP 35))
    | (go_at_call 9; refine (nolog_size _ _ (.inl rfl)).mono ?_; rintro e w4a ⟨rfl, hb4a⟩; have hF4a := (hF3a.below (below_alloc1 _ _)).below hb4a; have hB4a := below_then (below_then hB3a (below_alloc1 _ _)) hb4a; have k7 := mark_below hb4a k7; have k9 := mark_below hb4a k9; have qq := hF4a; obtain ⟨x13a, x23a, x33a, xt3a, -, -, -⟩ := qq)
    | (go_at_call 10; refine (nolog_leaf _ _ _ (.inl rfl)).mono ?_; rintro e w5a ⟨rfl, hb5a⟩; have hF5a := hF4a.below hb5a; have hB5a := below_then hB4a hb5a; have k7 := mark_below hb5a k7; have k9 := mark_below hb5a k9; have qq := hF5a; obtain ⟨x14a, x24a, x34a, xt4a, -, -, -⟩ := qq)
    | (go_at_call 11; refine (nolog_where _ _ _ (.inl rfl)).mono ?_; rintro e w6a ⟨rfl, hb6a⟩; have hF6a := hF5a.below hb6a; have hB6a := below_then hB5a hb6a; have k7 := mark_below hb6a k7; have k9 := mark_below hb6a k9; have qq := hF6a; obtain ⟨x15a, x25a, x35a, xt5a, -, -, -⟩ := qq)
    | (go_at_call 12; refine (nolog_inclusion _ _ _ _ (.inl rfl)).mono ?_; rintro e w7a ⟨rfl, hb7a⟩; have hF7a := hF6a.below hb7a; have hB7a := below_then hB6a hb7a; have k7 := mark_below hb7a k7; have k9 := mark_below hb7a k9; have qq := hF7a; obtain ⟨x16a, x26a, x36a, xt6a, -, -, -⟩ := qq)
    | (go_at_call 13; refine (nolog_consistency _ _ _ _ (.inl rfl)).mono ?_; rintro e w8a ⟨rfl, hb8a⟩; have hF8a := hF7a.below hb8a; have hB8a := below_then hB7a hb8a; have k7 := mark_below hb8a k7; have k9 := mark_below hb8a k9; have qq := hF8a; obtain ⟨x17a, x27a, x37a, xt7a, -, -, -⟩ := qq; have hlta := tile_load w8a w.heap.size 4 (cs.extract 4 8) hts hF8a.t)
    | (go_at_call 14; refine (nolog_tile _ _ _ (.inl rfl)).mono ?_; rintro e w9a ⟨rfl, hb9a⟩; have hF9a := hF8a.below hb9a; have hB9a := below_then hB8a hb9a; have k7 := mark_below hb9a k7; have k9 := mark_below hb9a k9; have qq := hF9a; obtain ⟨x18a, x28a, x38a, xt8a, -, -, -⟩ := qq)
    | (go_at_call 15; refine (nolog_add _ _ _ (.inl rfl)).mono ?_; rintro e w10a ⟨rfl, hb10a⟩; have hF10a := hF9a.below hb10a; have hB10a := below_then hB9a hb10a; have k7 := mark_below hb10a k7; have k9 := mark_below hb10a k9; have l7a := cp_load w10a _ k7; have l9a := cp_load w10a _ k9)
    | (refine wpList_store_run rfl 35 _ _ rfl _ _ rfl rfl _ (hst _) ?_)
    | (refine wpList_load_run rfl 24 _ rfl _ _ rfl hlta ?_)
    | (refine wpList_load_want (by rfl) 35 _ rfl _ _ rfl l7a ?_) | (refine wp_load_run 35 _ rfl _ _ rfl l7a ?_)
    | (refine wpList_load_want (by rfl) 35 _ rfl _ _ rfl l9a ?_) | (refine wp_load_run 35 _ rfl _ _ rfl l9a ?_))
  rw [rounds_succ]
  have p0b := hF10a.p0
  have p1b := hF10a.p1
  go_wp2_with (first
    | (go_at_call 6; refine (nolog_integrate _ _ (.inr ⟨_, rfl, hF10a.m⟩)).mono ?_; rintro e w1b ⟨rfl, hb1b⟩; have hF1b := hF10a.below hb1b; have hB1b := below_then hB10a hb1b)
    | (go_at_call 7; refine (nolog_publish _ _ (.inr ⟨_, rfl, hF1b.m⟩)).mono ?_; rintro e w2b ⟨rfl, hb2b⟩; have hF2b := hF1b.below hb2b; have hB2b := below_then hB1b hb2b; have k7 := heap_alloc_new w2b (.cells zeroCP 35))
    | (go_at_call 8; refine (nolog_checkpoint _ _ (.inr ⟨_, rfl, (hF2b.below (below_alloc1 _ _)).m⟩)).mono ?_; rintro e w3b ⟨rfl, hb3b⟩; have hF3b := (hF2b.below (below_alloc1 _ _)).below hb3b; have hB3b := below_then (below_then hB2b (below_alloc1 _ _)) hb3b; have k7 := mark_below (below_alloc1 _ (.cells zeroCP 35)) (mark_below hb3b k7); have k9 := heap_alloc_new w3b (.cells zeroCP 35))
    | (go_at_call 9; refine (nolog_size _ _ (.inr ⟨_, rfl, (hF3b.below (below_alloc1 _ _)).m⟩)).mono ?_; rintro e w4b ⟨rfl, hb4b⟩; have hF4b := (hF3b.below (below_alloc1 _ _)).below hb4b; have hB4b := below_then (below_then hB3b (below_alloc1 _ _)) hb4b; have k7 := mark_below hb4b k7; have k9 := mark_below hb4b k9; have qq := hF4b; obtain ⟨x13b, x23b, x33b, xt3b, -, -, -⟩ := qq)
    | (go_at_call 10; refine (nolog_leaf _ _ _ (.inr ⟨_, rfl, hF4b.m⟩)).mono ?_; rintro e w5b ⟨rfl, hb5b⟩; have hF5b := hF4b.below hb5b; have hB5b := below_then hB4b hb5b; have k7 := mark_below hb5b k7; have k9 := mark_below hb5b k9; have qq := hF5b; obtain ⟨x14b, x24b, x34b, xt4b, -, -, -⟩ := qq)
    | (go_at_call 11; refine (nolog_where _ _ _ (.inr ⟨_, rfl, hF5b.m⟩)).mono ?_; rintro e w6b ⟨rfl, hb6b⟩; have hF6b := hF5b.below hb6b; have hB6b := below_then hB5b hb6b; have k7 := mark_below hb6b k7; have k9 := mark_below hb6b k9; have qq := hF6b; obtain ⟨x15b, x25b, x35b, xt5b, -, -, -⟩ := qq)
    | (go_at_call 12; refine (nolog_inclusion _ _ _ _ (.inr ⟨_, rfl, hF6b.m⟩)).mono ?_; rintro e w7b ⟨rfl, hb7b⟩; have hF7b := hF6b.below hb7b; have hB7b := below_then hB6b hb7b; have k7 := mark_below hb7b k7; have k9 := mark_below hb7b k9; have qq := hF7b; obtain ⟨x16b, x26b, x36b, xt6b, -, -, -⟩ := qq)
    | (go_at_call 13; refine (nolog_consistency _ _ _ _ (.inr ⟨_, rfl, hF7b.m⟩)).mono ?_; rintro e w8b ⟨rfl, hb8b⟩; have hF8b := hF7b.below hb8b; have hB8b := below_then hB7b hb8b; have k7 := mark_below hb8b k7; have k9 := mark_below hb8b k9; have qq := hF8b; obtain ⟨x17b, x27b, x37b, xt7b, -, -, -⟩ := qq; have hltb := tile_load w8b w.heap.size 4 (cs.extract 4 8) hts hF8b.t)
    | (go_at_call 14; refine (nolog_tile _ _ _ (.inr ⟨_, rfl, hF8b.m⟩)).mono ?_; rintro e w9b ⟨rfl, hb9b⟩; have hF9b := hF8b.below hb9b; have hB9b := below_then hB8b hb9b; have k7 := mark_below hb9b k7; have k9 := mark_below hb9b k9; have qq := hF9b; obtain ⟨x18b, x28b, x38b, xt8b, -, -, -⟩ := qq)
    | (go_at_call 15; refine (nolog_add _ _ _ (.inr ⟨_, rfl, hF9b.m⟩)).mono ?_; rintro e w10b ⟨rfl, hb10b⟩; have hF10b := hF9b.below hb10b; have hB10b := below_then hB9b hb10b; have k7 := mark_below hb10b k7; have k9 := mark_below hb10b k9; have l7b := cp_load w10b _ k7; have l9b := cp_load w10b _ k9)
    | (refine wpList_store_run rfl 35 _ _ rfl _ _ rfl rfl _ (hst _) ?_)
    | (refine wpList_load_run rfl 24 _ rfl _ _ rfl hltb ?_)
    | (refine wpList_load_want (by rfl) 35 _ rfl _ _ rfl l7b ?_) | (refine wp_load_run 35 _ rfl _ _ rfl l7b ?_)
    | (refine wpList_load_want (by rfl) 35 _ rfl _ _ rfl l9b ?_) | (refine wp_load_run 35 _ rfl _ _ rfl l9b ?_))
  rw [rounds_succ]
  go_wp2
  go_ret
  exact ⟨rfl, hB10b⟩
end Go.Proofs.YtgmdgidjgddnaaaGreatDoor
