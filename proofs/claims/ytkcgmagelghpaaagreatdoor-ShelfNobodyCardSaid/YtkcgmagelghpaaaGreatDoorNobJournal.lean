/- WALKS of the law JournalNobody. No statement of the seed is proved here. -/
import Derived.Test.YtkcgmagelghpaaaGreatDoorNobIntegrate
import Derived.Test.YtkcgmagelghpaaaGreatDoorIterN
import Derived.WalkMore
namespace Go.Proofs.YtkcgmagelghpaaaGreatDoor
open Go.RowKit
set_option maxRecDepth 100000

/-- A journal that no call made: nil, or one without its disk. -/
def NoJournal (w : World) (v : Value) : Prop := v = .pointer Option.none ∨ ∃ g, v = .pointer (some ⟨g, 0, Option.none⟩) ∧ w.cell? ⟨g, 0, Option.none⟩ = some (.pointer Option.none) ∧ w.cell? ⟨g, 1, Option.none⟩ = some (.int .i64 0)
theorem NoJournal.below {w w1 : World} {v : Value} (h : NoJournal w v) (hb : Below w.heap.size w w1) : NoJournal w1 v := by
  rcases h with h | ⟨g, h, hc, hd⟩
  · exact .inl h
  · exact .inr ⟨g, h, cell_below hb hc, cell_below hb hd⟩

theorem nob_jnone (v : Value) (w : World) (h : NoJournal w v) : Calls Tryz.prog 31 #[v] w fun e w' => e = .returned (.bool true) ∧ w = w' := by
  rcases h with rfl | ⟨g, rfl, hc, hd⟩
  · go_enter Tryz.func31, Tryz.ntmps31
    go_wp2
    go_ret
    exact ⟨rfl, rfl⟩
  · go_enter Tryz.func31, Tryz.ntmps31
    go_wp2
    go_ret
    exact ⟨rfl, rfl⟩
theorem nob_jlen (v : Value) (w : World) (h : NoJournal w v) : Calls Tryz.prog 12 #[v] w fun e w' => e = .returned (.int .i64 0) ∧ w = w' := by
  have K := Lib.hid (nob_jnone v w h)
  clear h
  go_enter Tryz.func12, Tryz.ntmps12
  go_wp2_with (go_at_call 31; refine K.out.mono ?_; rintro e w' ⟨rfl, rfl⟩)
  go_ret
  exact ⟨rfl, rfl⟩
theorem nob_jgen (v : Value) (w : World) (h : NoJournal w v) : Calls Tryz.prog 13 #[v] w fun e w' => e = .returned (.int .i64 0) ∧ w = w' := by
  have K := Lib.hid (nob_jnone v w h)
  clear h
  go_enter Tryz.func13, Tryz.ntmps13
  go_wp2_with (go_at_call 31; refine K.out.mono ?_; rintro e w' ⟨rfl, rfl⟩)
  go_ret
  exact ⟨rfl, rfl⟩
theorem nob_jclear (v k : Value) (w : World) (h : NoJournal w v) : Calls Tryz.prog 11 #[v, k] w fun e w' => e = .returned (.int .i64 1) ∧ w = w' := by
  have K := Lib.hid (nob_jnone v w h)
  clear h
  go_enter Tryz.func11, Tryz.ntmps11
  go_wp2_with (go_at_call 31; refine K.out.mono ?_; rintro e w' ⟨rfl, rfl⟩)
  go_ret
  exact ⟨rfl, rfl⟩
theorem nob_jadd (v k : Value) (w : World) (h : NoJournal w v) : Calls Tryz.prog 10 #[v, k] w fun e w' => e = .returned (.int .i64 1) ∧ w = w' := by
  have K := Lib.hid (nob_jnone v w h)
  clear h
  go_enter Tryz.func10, Tryz.ntmps10
  go_wp2_with (go_at_call 31; refine K.out.mono ?_; rintro e w' ⟨rfl, rfl⟩)
  go_ret
  exact ⟨rfl, rfl⟩
theorem nob_jall (v : Value) (w : World) (h : NoJournal w v) : Calls Tryz.prog 9 #[v] w fun e w' => e = .returned (.func (.func 30) #[] #[.pointer (some ⟨w.heap.size, 0, Option.none⟩)]) ∧ w' = w.alloc (.cells #[v] 34) := by
  obtain ⟨p, rfl⟩ : ∃ p, v = .pointer p := by rcases h with h | ⟨g, h, _⟩ <;> exact ⟨_, h⟩
  go_enter Tryz.func9, Tryz.ntmps9
  go_wp2
  go_ret
  exact ⟨rfl, rfl⟩
theorem nob_jiter (n : Nat) (h1 : 1 ≤ n) (bx : Nat) (v : Value) :
    IterNone Fence.wide n Tryz.prog 30 #[.pointer (some ⟨bx, 0, Option.none⟩)] (fun W => W.cell? ⟨bx, 0, Option.none⟩ = some v ∧ NoJournal W v) := by
  rintro l W ⟨hc, hj⟩
  obtain ⟨p, rfl⟩ : ∃ p, v = .pointer p := by rcases hj with h | ⟨g, h, _⟩ <;> exact ⟨_, h⟩
  have K := Lib.hid (nob_jnone _ W hj)
  clear hj
  refine callsIn_of_wp Tryz.func30 rfl trivial ?_ rfl
  simp only [Tryz.ntmps30, List.size_toArray, List.length_cons, List.length_nil, Nat.reduceAdd, Nat.reduceSub, Array.replicate_succ, Array.replicate_zero, List.push_toArray, List.append_toArray, List.nil_append, List.cons_append]
  gi_wp2_with (refine ⟨trivial, ?_⟩; gi_at_call 31; refine (callsIn_wide.2 K.out).mono ?_; rintro e w' ⟨rfl, rfl⟩)
  refine bodyPost_ret (results_none rfl _ _ _) rfl ?_
  exact ⟨⟨_, rfl⟩, Below.refl _ _⟩
theorem nob_jopen (v : Value) (w : World) (h : NoDisk w v) : Calls Tryz.prog 14 #[v] w fun e w' => e = .returned (.tuple #[.pointer Option.none, .int .i64 1]) ∧ Below w.heap.size w w' := by
  obtain ⟨p, rfl⟩ : ∃ p, v = .pointer p := by rcases h with h | ⟨g, h, _⟩ <;> exact ⟨_, h⟩
  go_enter Tryz.func14, Tryz.ntmps14
  go_wp2
  go_step3
  go_wp2_with (go_at_call 39; refine (nodisk_sector _ _ (h.below (((Below.refl _ _).alloc (Nat.le_refl _) _).alloc (by simp) _))).mono ?_; rintro e w' ⟨rfl, rfl⟩)
  rw [Exit.noGoto_ret]
  have c1 := new_cell (w.alloc (.cells #[.pointer Option.none] 34)) (.int .i64 1) 29
  have c0 := cell_below (below_alloc1 (w.alloc (.cells #[.pointer Option.none] 34)) (.cells #[.int .i64 1] 29)) (new_cell w (.pointer Option.none) 34)
  simp only [World.size_alloc] at c1
  refine bodyPost_ret (v := .tuple #[.pointer Option.none, .int .i64 1]) ?_ rfl ⟨rfl, ((Below.refl _ _).alloc (Nat.le_refl _) _).alloc (by simp) _⟩
  simp [results, go_sem, c0, c1]

theorem equalIn_func_nil {P : Program} (d : Nat) (t : TypeId) (ps rs : Array TypeId) (vd : Bool) (h : P.underlying t = some (.func ps rs vd)) (f : Fn) (cs bs : Array Value) (w : World) :
    (Op.equalIn (d + 1) t (.func f cs bs) .nilFunc).run P w = .ok false w := by
  simp [Op.equalIn, run_underlying h]
theorem eql_func_nil {P : Program} (t : TypeId) (ps rs : Array TypeId) (vd : Bool) (h : P.underlying t = some (.func ps rs vd)) (f : Fn) (cs bs : Array Value) (w : World) :
    (binOp .eql t (.func f cs bs) .nilFunc).run P w = .ok (.bool false) w := by
  simp only [binOp]
  simp [Op.equal, Op.maxDepth, equalIn_func_nil 9999 t ps rs vd h f cs bs w]

set_option maxHeartbeats 1000000 in
theorem journalNobody_walk (k : Int) (A : Option Addr) (n c : Nat) (w : World) : Calls Tryz.prog 4 #[.slice A n c, .int .i64 k] w fun e w' => e = .returned (.bool true) ∧ Below w.heap.size w w' := by
  refine (callsIn_wide (n := 9)).1 ?_
  refine callsIn_of_wp_marks Tryz.func4 rfl trivial ?_ rfl
  simp only [Tryz.ntmps4, List.size_toArray, List.length_cons, List.length_nil, Nat.reduceAdd, Nat.reduceSub, Array.replicate_succ, Array.replicate_zero, List.push_toArray, List.append_toArray, List.nil_append, List.cons_append]
  obtain ⟨hB0, hc, hc1, hc2⟩ := pair_cells w #[.pointer Option.none, .int .i64 0, .slice Option.none 0 0] 36 34
  have hc0 := hc 0 (Value.pointer Option.none) rfl
  have hc3 := hc 1 (Value.int .i64 0) rfl
  clear hc
  gi_wp2
  generalize (w.alloc (.cells #[.pointer Option.none, .int .i64 0, .slice Option.none 0 0] 36)).alloc (.cells #[.pointer Option.none, .pointer (some ⟨w.heap.size, 0, Option.none⟩)] 34) = w1 at hB0 hc0 hc1 hc2 hc3 ⊢
  have hfn := fun f cs bs W => eql_func_nil (P := Tryz.prog) 39 _ _ _ Tryz.underlying39 f cs bs W
  have tok1 : True := trivial
  refine wpIn_loop_rounds 3 ?_
  rw [roundsIn_succ]
  gi_wp2_with (first
    | (refine ⟨trivial, ?_⟩; gi_at_call 9; have _t := tok1; refine (callsIn_wide.2 (nob_jall _ _ (.inl rfl))).mono ?_; clear tok1; rintro e w2 ⟨rfl, rfl⟩)
    | (refine ⟨trivial, ?_⟩; gi_at_call 9; refine (callsIn_wide.2 (nob_jall _ _ (.inl rfl))).mono ?_; rintro e w2 ⟨rfl, rfl⟩))
  have hB1 : Below w.heap.size w (((w1.alloc (.cells #[.int .i64 0] 3)).alloc (.cells #[.pointer Option.none] 34)).alloc (.cells #[.pointer Option.none] 34)) := ((hB0.alloc hB0.size _).alloc (by have := hB0.size; simp; omega) _).alloc (by have := hB0.size; simp; omega) _
  have hbb : Below w1.heap.size w1 (((w1.alloc (.cells #[.int .i64 0] 3)).alloc (.cells #[.pointer Option.none] 34)).alloc (.cells #[.pointer Option.none] 34)) := (((Below.refl _ _).alloc (Nat.le_refl _) _).alloc (by simp) _).alloc (by simp; omega) _
  have hcx := new_cell ((w1.alloc (.cells #[.int .i64 0] 3)).alloc (.cells #[.pointer Option.none] 34)) (.pointer Option.none) 34
  simp only [World.size_alloc] at hcx
  have hcn := cell_below (((Below.refl _ _).alloc (Nat.le_refl _) _).alloc (by simp) _ : Below (w1.alloc (.cells #[.int .i64 0] 3)).heap.size (w1.alloc (.cells #[.int .i64 0] 3)) (((w1.alloc (.cells #[.int .i64 0] 3)).alloc (.cells #[.pointer Option.none] 34)).alloc (.cells #[.pointer Option.none] 34))) (new_cell w1 (.int .i64 0) 3)
  generalize ((w1.alloc (.cells #[.int .i64 0] 3)).alloc (.cells #[.pointer Option.none] 34)).alloc (.cells #[.pointer Option.none] 34) = W at hB1 hbb hcx hcn ⊢
  refine wpIn_range_none rfl (by omega) (gf := 30) (lb := #[.pointer (some ⟨w1.heap.size + 1 + 1, 0, Option.none⟩)]) rfl trivial (enters_of Tryz.func30 (by kernel_rfl) rfl)
    (nob_jiter 8 (by omega) (w1.heap.size + 1 + 1) (.pointer Option.none)) (fun W' hb => ⟨cell_below hb hcx, .inl rfl⟩) ?_
  intro D W2 hD hb2 hK
  have hn2 := cell_below hb2 hcn
  have hb12 := below_then hbb hb2
  have hx0 := cell_below hb12 hc0
  have hx2 := cell_below hb12 hc2
  have hx3 := cell_below hb12 hc3
  have hB2 := below_then hB1 hb2
  gi_wp2_with (first
    | (refine ⟨trivial, ?_⟩; gi_at_call 10; refine (callsIn_wide.2 (nob_jadd _ _ _ (.inl rfl))).mono ?_; rintro e w2 ⟨rfl, rfl⟩)
    | (refine ⟨trivial, ?_⟩; gi_at_call 11; refine (callsIn_wide.2 (nob_jclear _ _ _ (.inl rfl))).mono ?_; rintro e w2 ⟨rfl, rfl⟩)
    | (refine ⟨trivial, ?_⟩; gi_at_call 12; refine (callsIn_wide.2 (nob_jlen _ _ (.inl rfl))).mono ?_; rintro e w2 ⟨rfl, rfl⟩)
    | (refine ⟨trivial, ?_⟩; gi_at_call 13; refine (callsIn_wide.2 (nob_jgen _ _ (.inl rfl))).mono ?_; rintro e w2 ⟨rfl, rfl⟩))
  rw [roundsIn_succ]
  have tok2 : True := trivial
  have hj2 : NoJournal W2 (.pointer (some ⟨w.heap.size, 0, Option.none⟩)) := .inr ⟨_, rfl, hx0, hx3⟩
  gi_wp2_with (first
    | (refine ⟨trivial, ?_⟩; gi_at_call 9; have _t := tok2; refine (callsIn_wide.2 (nob_jall _ _ (hj2.below (below_alloc1 _ _)))).mono ?_; clear tok2; rintro e w2 ⟨rfl, rfl⟩)
    | (refine ⟨trivial, ?_⟩; gi_at_call 9; refine (callsIn_wide.2 (nob_jall _ _ (hj2.below (((Below.refl _ _).alloc (Nat.le_refl _) _).alloc (by simp) _)))).mono ?_; rintro e w2 ⟨rfl, rfl⟩))
  have hbb2 : Below W2.heap.size W2 (((W2.alloc (.cells #[.int .i64 0] 3)).alloc (.cells #[(.pointer (some ⟨w.heap.size, 0, Option.none⟩))] 34)).alloc (.cells #[(.pointer (some ⟨w.heap.size, 0, Option.none⟩))] 34)) := (((Below.refl _ _).alloc (Nat.le_refl _) _).alloc (by simp) _).alloc (by simp; omega) _
  have hcx2 := new_cell ((W2.alloc (.cells #[.int .i64 0] 3)).alloc (.cells #[(.pointer (some ⟨w.heap.size, 0, Option.none⟩))] 34)) (.pointer (some ⟨w.heap.size, 0, Option.none⟩)) 34
  simp only [World.size_alloc] at hcx2
  have hcn2 := cell_below (((Below.refl _ _).alloc (Nat.le_refl _) _).alloc (by simp) _ : Below (W2.alloc (.cells #[.int .i64 0] 3)).heap.size (W2.alloc (.cells #[.int .i64 0] 3)) (((W2.alloc (.cells #[.int .i64 0] 3)).alloc (.cells #[(.pointer (some ⟨w.heap.size, 0, Option.none⟩))] 34)).alloc (.cells #[(.pointer (some ⟨w.heap.size, 0, Option.none⟩))] 34))) (new_cell W2 (.int .i64 0) 3)
  generalize ((W2.alloc (.cells #[.int .i64 0] 3)).alloc (.cells #[(.pointer (some ⟨w.heap.size, 0, Option.none⟩))] 34)).alloc (.cells #[(.pointer (some ⟨w.heap.size, 0, Option.none⟩))] 34) = W3 at hbb2 hcx2 hcn2 ⊢
  refine wpIn_range_none rfl (by omega) (gf := 30) (lb := #[.pointer (some ⟨W2.heap.size + 1 + 1, 0, Option.none⟩)]) rfl trivial (enters_of Tryz.func30 (by kernel_rfl) rfl)
    (nob_jiter 8 (by omega) (W2.heap.size + 1 + 1) (.pointer (some ⟨w.heap.size, 0, Option.none⟩))) (fun W' hb => ⟨cell_below hb hcx2, hj2.below (below_then hbb2 hb)⟩) ?_
  intro D2 W4 hD2 hb4 hK2
  have hn4 := cell_below hb4 hcn2
  have hb24 := below_then hbb2 hb4
  have hj4 := hj2.below hb24
  have hB4 := below_then hB2 hb24
  have hK4 := mark_below hb24 hK
  gi_wp2_with (first
    | (refine ⟨trivial, ?_⟩; gi_at_call 10; refine (callsIn_wide.2 (nob_jadd _ _ _ hj4)).mono ?_; rintro e w2 ⟨rfl, rfl⟩)
    | (refine ⟨trivial, ?_⟩; gi_at_call 11; refine (callsIn_wide.2 (nob_jclear _ _ _ hj4)).mono ?_; rintro e w2 ⟨rfl, rfl⟩)
    | (refine ⟨trivial, ?_⟩; gi_at_call 12; refine (callsIn_wide.2 (nob_jlen _ _ hj4)).mono ?_; rintro e w2 ⟨rfl, rfl⟩)
    | (refine ⟨trivial, ?_⟩; gi_at_call 13; refine (callsIn_wide.2 (nob_jgen _ _ hj4)).mono ?_; rintro e w2 ⟨rfl, rfl⟩))
  rw [roundsIn_succ]
  have tok3 : True := trivial
  gi_wp2_with (first
    | (refine ⟨trivial, ?_⟩; gi_at_call 14; have _t := tok3; refine (callsIn_wide.2 (nob_jopen _ _ (.inl rfl))).mono ?_; clear tok3; rintro e w5 ⟨rfl, hB5⟩)
    | (refine ⟨trivial, ?_⟩; gi_at_call 14; refine (callsIn_wide.2 (nob_jopen _ _ (.inr ⟨_, rfl, cell_of_row _ w5.heap.size 1 _ _ (0, 0) (heap_alloc_new w5 _)⟩))).mono ?_; rintro e w6 ⟨rfl, hB6⟩))
  have hB46 : Below W4.heap.size W4 w6 := below_then hB5 (below_then (below_alloc1 _ _) hB6)
  have hk2 := mark_below hB46 hK2
  have hk1 := mark_below hB46 hK4
  have hl1 := (Array.getElem?_eq_some_iff.1 hK).1
  have s1 := hbb2.size
  have s2 := hB1.size
  have hk1' : (w6.putObj D2 (.deferred Option.none)).heap[D]? = some (.deferred (some [])) := (World.putObj_heap_other (by omega)).trans hk1
  refine ⟨by simp, .inl ⟨_, _, rfl, run_takeDeferred hk2, ?_⟩⟩
  refine ⟨by simp, .inl ⟨_, _, rfl, run_takeDeferred hk1', ?_⟩⟩
  exact ⟨_, results_tmp rfl _ _ _, rfl, ((below_then hB4 hB46).trans (belowK_b (w := w) (Nat.le_refl _) w6 D2 _ _ (by have := hB2.size; omega) hk2 rfl rfl)).trans (belowK_b (w := w) (Nat.le_refl _) _ D _ _ (by omega) hk1' rfl rfl)⟩
end Go.Proofs.YtkcgmagelghpaaaGreatDoor
