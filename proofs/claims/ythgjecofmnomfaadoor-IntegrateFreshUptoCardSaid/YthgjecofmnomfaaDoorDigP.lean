/- WORDS for the law DigestsOrder: two indexes and a slice, side by side. No statement of the seed is proved here. -/
import Derived.Test.YthgjecofmnomfaaDoorDigO
import Derived.Test.YthgjecofmnomfaaDoorRun
namespace Go.Proofs.YthgjecofmnomfaaDoor
open Go.RowKit
set_option maxRecDepth 100000

/-- An index: its block, the row, the runs' values, the runs. -/
structure IxT where
  p : Nat
  vr : Value
  us : List Value
  rs : List (List Item)
def IxT.At (x : IxT) (w : World) (B : Nat) : Prop := Ix w B x.p x.vr x.us x.rs
/-- The blocks of an index. -/
def IxT.Has (x : IxT) (k : Nat) : Prop := k = x.p ∨ x.vr.ownBlock = some k ∨ ∃ u ∈ x.us, u.ownBlock = some k
def IxT.Step (x : IxT) (w : World) (y : IxT) (w' : World) : Prop := x.p = y.p ∧ Go.Proofs.YthgjecofmnomfaaDoor.Step w x.p x.vr x.us w' y.vr y.us
theorem IxT.At.lt {x : IxT} {w : World} {B : Nat} (h : x.At w B) {k : Nat} (hk : x.Has k) : k < w.heap.size := by
  rcases hk with rfl | hk | ⟨u, hu, hk⟩
  · exact Ix.lt h
  · exact owns_lt h.own k hk
  · obtain ⟨j, hj⟩ := List.mem_iff_getElem?.1 hu
    have hl : x.us.length = x.rs.length := by have := h.own.1; omega
    have hj' : j < x.rs.length := by rw [← hl]; exact (List.getElem?_eq_some_iff.1 hj).1
    obtain ⟨u', e1, e2, -⟩ := h.runs j hj'
    rw [hj] at e1; cases e1
    exact owns_lt e2 k hk
theorem IxT.At.ge {x : IxT} {w : World} {B : Nat} (h : x.At w B) {k : Nat} (hk : x.Has k) : B ≤ k := by
  rcases hk with rfl | hk | ⟨u, hu, hk⟩
  · exact h.low
  · exact owns_ge h.own k hk
  · obtain ⟨j, hj⟩ := List.mem_iff_getElem?.1 hu
    have hl : x.us.length = x.rs.length := by have := h.own.1; omega
    have hj' : j < x.rs.length := by rw [← hl]; exact (List.getElem?_eq_some_iff.1 hj).1
    obtain ⟨u', e1, e2, -⟩ := h.runs j hj'
    rw [hj] at e1; cases e1
    exact owns_ge e2 k hk
theorem IxT.At.kept {x : IxT} {w w' : World} {B : Nat} (h : x.At w B) (hs : ∀ k, x.Has k → w'.heap[k]? = w.heap[k]?) : x.At w' B :=
  Ix.kept h (hs _ (.inl rfl)) (fun k hk => hs k (.inr (.inl hk))) (fun u hu k hk => hs k (.inr (.inr ⟨u, hu, hk⟩)))
theorem IxT.At.below {x : IxT} {w w' : World} {B : Nat} (h : x.At w B) (hb : Below w.heap.size w w') : x.At w' B := h.kept fun k hk => hb.block k (h.lt hk)
theorem IxT.Step.has {x y : IxT} {w w' : World} (h : x.Step w y w') {k : Nat} (hk : y.Has k) : x.Has k ∨ w.heap.size ≤ k := by
  obtain ⟨hp, hs⟩ := h
  rcases hk with rfl | hk | ⟨u, hu, hk⟩
  · exact .inl (.inl hp.symm)
  · rcases hs.vr with e | ⟨q, e, hq⟩
    · exact .inl (.inr (.inl (by rw [← e]; exact hk)))
    · rw [e] at hk; cases hk; exact .inr hq
  · rcases hs.us u hu with e | e
    · exact .inl (.inr (.inr ⟨u, e, hk⟩))
    · exact .inr (e k hk)
theorem IxT.Step.same {x y : IxT} {w w' : World} (h : x.Step w y w') {k : Nat} (hk : k < w.heap.size) (hn : ¬ x.Has k) : w'.heap[k]? = w.heap[k]? :=
  h.2.block k hk (fun e => hn (.inl e)) (fun e => hn (.inr (.inl e)))
theorem IxT.Step.below {x y : IxT} {w w' w0 : World} {B : Nat} (h : x.Step w y w') (hx : x.At w B) (hb : Below B w0 w) (hB : B ≤ w.heap.size) : Below B w0 w' := Go.Proofs.YthgjecofmnomfaaDoor.Step.below h.2 hx hb hB
theorem IxT.Step.size {x y : IxT} {w w' : World} (h : x.Step w y w') : w.heap.size ≤ w'.heap.size := h.2.size
theorem isCells_of {w : World} {p o : Nat} {v : Value} (h : w.cell? ⟨p, o, none⟩ = some v) : ∃ ob : Obj, w.heap[p]? = some ob ∧ ob.isCells = true := by
  unfold World.cell? at h
  simp only at h
  split at h
  · rename_i c e f hc; exact ⟨_, hc, rfl⟩
  · cases h
theorem owns_cells {w : World} {B : Nat} {e : TypeId} {s n : Nat} {v : Value} {xs : List Value} (h : w.ownsRow B e s v n xs) {k : Nat} (hk : v.ownBlock = some k) : ∃ ob : Obj, w.heap[k]? = some ob ∧ ob.isCells = true := by
  rcases h with ⟨hl, ⟨rfl, hn⟩ | ⟨g, cap, cur, rfl, hb, hg, -⟩⟩
  · cases hk
  · cases hk; exact ⟨_, hg, rfl⟩
theorem IxT.At.cells {x : IxT} {w : World} {B : Nat} (h : x.At w B) {k : Nat} (hk : x.Has k) : ∃ ob : Obj, w.heap[k]? = some ob ∧ ob.isCells = true := by
  rcases hk with rfl | hk | ⟨u, hu, hk⟩
  · exact isCells_of h.c0
  · exact owns_cells h.own hk
  · obtain ⟨j, hj⟩ := List.mem_iff_getElem?.1 hu
    have hl : x.us.length = x.rs.length := by have := h.own.1; omega
    have hj' : j < x.rs.length := by rw [← hl]; exact (List.getElem?_eq_some_iff.1 hj).1
    obtain ⟨u', e1, e2, -⟩ := h.runs j hj'
    rw [hj] at e1; cases e1
    exact owns_cells e2 hk
/-- Adding to an index. -/
theorem addT (x : IxT) (B : Nat) (d : List UInt8) (place : Nat) (w : World) (hx : x.At w B) (hd : d.length = 32) (hB : B ≤ w.heap.size) (hs : x.rs.flatten.length + 1 ≤ 1000000) (hne : ∀ r ∈ x.rs, r ≠ []) :
    (findI x.rs.flatten d = none → Calls Tryd.prog 27 #[.pointer (some ⟨x.p, 0, none⟩), .agg (u8s d).toArray, .int .i64 (place : Int)] w fun e w' => e = .returned (.int .i64 0) ∧ ∃ y : IxT, y.rs = addRuns x.rs (d, (place : Int)) ∧ y.At w' B ∧ x.Step w y w') ∧
    (findI x.rs.flatten d ≠ none → Calls Tryd.prog 27 #[.pointer (some ⟨x.p, 0, none⟩), .agg (u8s d).toArray, .int .i64 (place : Int)] w fun e w' => e = .returned (.int .i64 120) ∧ Below w.heap.size w w') := by
  have K := add_calls x.p x.vr x.us x.rs B d place w hx hd hB hs hne
  refine ⟨fun hf => K.mono ?_, fun hf => K.mono ?_⟩
  · rintro e w' (⟨h1, -⟩ | ⟨-, rfl, vr', us', h2, h3⟩)
    · exact absurd hf h1
    · exact ⟨rfl, ⟨x.p, vr', us', addRuns x.rs (d, (place : Int))⟩, rfl, h2, rfl, h3⟩
  · rintro e w' (⟨-, rfl, h2⟩ | ⟨h1, -⟩)
    · exact ⟨rfl, h2⟩
    · exact absurd h1 hf
/-- Two indexes and a slice. -/
structure Ord3 (B : Nat) (a b : IxT) (vo : Value) (ds : List (List UInt8)) (w : World) : Prop where
  xa : a.At w B
  xb : b.At w B
  o : DsO w B vo ds
  ab : ∀ k, a.Has k → ¬ b.Has k
  ao : ∀ k, a.Has k → vo.ownBlock ≠ some k
  bo : ∀ k, b.Has k → vo.ownBlock ≠ some k
theorem DsO.kept {w w' : World} {B : Nat} {v : Value} {ds : List (List UInt8)} (h : DsO w B v ds) (hs : ∀ k, v.ownBlock = some k → w'.heap[k]? = w.heap[k]?) : DsO w' B v ds := ⟨owns_mods h.1 fun k hk _ => hs k hk, h.2⟩
theorem Ord3.kept {B : Nat} {a b : IxT} {vo : Value} {ds : List (List UInt8)} {w w' : World} (h : Ord3 B a b vo ds w) (hs : ∀ k, (a.Has k ∨ b.Has k ∨ vo.ownBlock = some k) → w'.heap[k]? = w.heap[k]?) : Ord3 B a b vo ds w' :=
  ⟨h.xa.kept fun k hk => hs k (.inl hk), h.xb.kept fun k hk => hs k (.inr (.inl hk)), h.o.kept fun k hk => hs k (.inr (.inr hk)), h.ab, h.ao, h.bo⟩
theorem Ord3.lt {B : Nat} {a b : IxT} {vo : Value} {ds : List (List UInt8)} {w : World} (h : Ord3 B a b vo ds w) {k : Nat} (hk : a.Has k ∨ b.Has k ∨ vo.ownBlock = some k) : k < w.heap.size := by
  rcases hk with hk | hk | hk
  · exact h.xa.lt hk
  · exact h.xb.lt hk
  · exact owns_lt h.o.1 k hk
theorem Ord3.ge {B : Nat} {a b : IxT} {vo : Value} {ds : List (List UInt8)} {w : World} (h : Ord3 B a b vo ds w) {k : Nat} (hk : a.Has k ∨ b.Has k ∨ vo.ownBlock = some k) : B ≤ k := by
  rcases hk with hk | hk | hk
  · exact h.xa.ge hk
  · exact h.xb.ge hk
  · exact owns_ge h.o.1 k hk
theorem Ord3.below {B : Nat} {a b : IxT} {vo : Value} {ds : List (List UInt8)} {w w' : World} (h : Ord3 B a b vo ds w) (hb : Below w.heap.size w w') : Ord3 B a b vo ds w' := h.kept fun k hk => hb.block k (h.lt hk)
theorem Ord3.stepA {B : Nat} {a b a' : IxT} {vo : Value} {ds : List (List UInt8)} {w w' : World} (h : Ord3 B a b vo ds w) (ha : a'.At w' B) (hs : a.Step w a' w') : Ord3 B a' b vo ds w' where
  xa := ha
  xb := h.xb.kept fun k hk => hs.same (h.xb.lt hk) (fun e => h.ab k e hk)
  o := h.o.kept fun k hk => hs.same (owns_lt h.o.1 k hk) (fun e => h.ao k e hk)
  ab := fun k hk hb => by
    rcases hs.has hk with e | e
    · exact h.ab k e hb
    · have := h.xb.lt hb; omega
  ao := fun k hk hb => by
    rcases hs.has hk with e | e
    · exact h.ao k e hb
    · have := owns_lt h.o.1 k hb; omega
  bo := h.bo
theorem Ord3.swap {B : Nat} {a b : IxT} {vo : Value} {ds : List (List UInt8)} {w : World} (h : Ord3 B a b vo ds w) : Ord3 B b a vo ds w := ⟨h.xb, h.xa, h.o, fun k hb ha => h.ab k ha hb, h.bo, h.ao⟩
theorem Ord3.grow {B : Nat} {a b : IxT} {vo vo' : Value} {ds ds' : List (List UInt8)} {w w' : World} {n : Nat} (h : Ord3 B a b vo ds w) (ho : DsO w' B vo' ds') (hg : w.grownBy w' vo.ownBlock) (hat : vo'.ownBlock = vo.ownBlock ∨ vo'.ownBlock = some n) (hn : w.heap.size ≤ n) : Ord3 B a b vo' ds' w' where
  xa := h.xa.kept fun k hk => hg.block k (h.xa.lt hk) (fun e => h.ao k hk e.symm)
  xb := h.xb.kept fun k hk => hg.block k (h.xb.lt hk) (fun e => h.bo k hk e.symm)
  o := ho
  ab := h.ab
  ao := fun k hk e => by
    rcases hat with h1 | h1
    · exact h.ao k hk (by rw [← h1]; exact e)
    · rw [h1] at e; cases e; have := h.xa.lt hk; omega
  bo := fun k hk e => by
    rcases hat with h1 | h1
    · exact h.bo k hk (by rw [← h1]; exact e)
    · rw [h1] at e; cases e; have := h.xb.lt hk; omega
theorem new_ixT (w : World) (B : Nat) (hB : B ≤ w.heap.size) : Calls Tryd.prog 26 #[] w fun e w' => e = .returned (.pointer (some ⟨w.heap.size, 0, none⟩)) ∧ (IxT.mk w.heap.size (.slice none 0 0) [] []).At w' B ∧ Below w.heap.size w w' :=
  (new_calls w).mono fun _ _ ⟨h1, h2⟩ => ⟨h1, h2 ▸ ⟨Ix.fresh w hB, below_alloc1 _ _⟩⟩
theorem IxT.fresh_has {q k : Nat} (h : (IxT.mk q (.slice none 0 0) [] []).Has k) : k = q := by
  rcases h with h | h | ⟨u, hu, -⟩
  · exact h
  · cases h
  · cases hu
theorem cloneT (x : IxT) (B : Nat) (w : World) (hx : x.At w B) (hB : B ≤ w.heap.size) (hne : ∀ r ∈ x.rs, r ≠ []) :
    Calls Tryd.prog 47 #[.pointer (some ⟨x.p, 0, none⟩)] w fun e w' => ∃ y : IxT, e = .returned (.pointer (some ⟨y.p, 0, none⟩)) ∧ y.rs = x.rs ∧ y.us = x.us ∧ w.heap.size ≤ y.p ∧ (∀ k, y.vr.ownBlock = some k → w.heap.size ≤ k) ∧ y.At w' B ∧ Below w.heap.size w w' :=
  (cloneIx_calls x.p x.vr x.us x.rs B w hx hB hne).mono fun _ _ ⟨q, vr2, h1, h2, h3, h4, h5⟩ => ⟨⟨q, vr2, x.us, x.rs⟩, h1, rfl, rfl, h2, h4, h3, h5⟩
theorem run_app_digest {w : World} (ty : TypeId) (B : Nat) (v : Value) (ds : List (List UInt8)) (hown : DsO w B v ds) (d : List UInt8) (hd : d.length = 32) (hn : ds.length + 1 ≤ 4000000) (hB : B ≤ w.heap.size) :
    ∃ v' w', (Builtin.append_ #[55, 55] ty #[v, .slice (some ⟨w.heap.size, 0, none⟩) 1 1]).run Tryd.prog (w.alloc (.cells (u8s d).toArray 63)) = .ok v' w' ∧ DsO w' B v' (ds ++ [d]) ∧
      (w.alloc (.cells (u8s d).toArray 63)).grownBy w' v.ownBlock ∧ (v'.ownBlock = v.ownBlock ∨ v'.ownBlock = some (w.heap.size + 1)) := by
  have ht : Tryd.prog.underlying 55 = some (.slice 63) := by kernel_rfl
  obtain ⟨i, hi, hq⟩ := Option.map_eq_some_iff.1 info_digest
  simp only [Prod.mk.injEq] at hq
  obtain ⟨q1, q2, q3⟩ := hq
  obtain ⟨z, hz, hzs⟩ := Option.map_eq_some_iff.1 q1
  have hl : (u8s d).length = 1 * 32 := by rw [u8s_length, hd]
  obtain ⟨v', w', e1, e2, e3, _, e5⟩ := run_append_own_at (P := Tryd.prog) (w.alloc (.cells (u8s d).toArray 63)) B 55 ty 63 i z 32 32 ht hi hz q2 q3 hzs (by omega) v ds.length (digsL ds) (World.ownsRow.alloc hown.1 _) ⟨w.heap.size, 0, none⟩ 1 1 (u8s d) hl (fun j u hu => by
    rw [add_plain, cell_of_row _ w.heap.size j _ _ (0, 0) (heap_alloc_new w _)]
    simpa using hu) (u8s_one d) (by unfold maxLen; omega) (by omega) (by simp; omega)
  refine ⟨v', w', e1, ⟨?_, fun e he => ?_⟩, e3, by simpa using e5⟩
  · rw [List.length_append, digsL_append, digsL_one]
    exact e2
  · rcases List.mem_append.1 he with he | he
    · exact hown.2 e he
    · simp at he; subst he; exact hd
theorem run_op_one_digest {w : World} {o : Oper} {ρ : Operand → Value} (x : Operand) (ho : o.op = .buildSlice 55 1 #[(0, x)]) (d : List UInt8) (hx : ρ x = .agg (u8s d).toArray) (hl : d.length = 32) :
    (execOp ρ o).run Tryd.prog w = .ok (.value (.slice (some ⟨w.heap.size, 0, none⟩) 1 1)) (w.alloc (.cells (u8s d).toArray 63)) := by
  obtain ⟨i, hi, hq⟩ := Option.map_eq_some_iff.1 info_digest
  simp only [Prod.mk.injEq] at hq
  obtain ⟨q1, q2, q3⟩ := hq
  obtain ⟨z, hz, hzs⟩ := Option.map_eq_some_iff.1 q1
  have hul : (u8s d).length = 32 := by rw [u8s_length, hl]
  have hf := Great.fill_whole (s := 32) (by omega) [.agg (u8s d).toArray] ((Array.range (1 * 32)).map (z.cells[· % z.cells.size]!)) (by simp [Value.cells, hul]) (by simp)
  unfold execOp
  simp only [ho, Sem.run_bind, Sem.run_pure]
  rw [run_buildSlice w 55 63 1 _ (u8s d).toArray i z (by kernel_rfl) hi hz (by rw [q2]; omega) (by rw [q2]; omega) (by rw [q2]; simpa [hx, Value.cells] using hf)]
  rfl
section
variable {F : Fence} {n : Nat} {w : World} {ops : Array Oper} {rest : List Oper} {o : Oper} {a : Act} {Q : Exit → Act → World → Prop}
theorem wpListIn_one_digest (hg : o.guard = none) (x : Operand) (ho : o.op = .buildSlice 55 1 #[(0, x)]) (d : List UInt8) (hx : a.eval x = .agg (u8s d).toArray) (hl : d.length = 32)
    (h : wpListIn F n Tryd.prog ops Q rest (a.put o.dst (.slice (some ⟨w.heap.size, 0, none⟩) 1 1)) (w.alloc (.cells (u8s d).toArray 63))) : wpListIn F n Tryd.prog ops Q (o :: rest) a w :=
  wpListIn_val hg (by rw [ho]; intro c hc; cases hc) (by simp [Oper.about, ho]) _ _ (run_op_one_digest x ho d hx hl) h
theorem wpListIn_app_digest (hgd : o.guard = none) (s x : Operand) (ho : o.op = .call { callee := .builtin .append, args := #[s, x], argTypes := #[55, 55] }) (B : Nat) (v : Value) (hs : a.eval s = v) (ds : List (List UInt8)) (hown : DsO w B v ds)
    (d : List UInt8) (hd : d.length = 32) (hx : a.eval x = .slice (some ⟨w.heap.size, 0, none⟩) 1 1) (hn : ds.length + 1 ≤ 4000000) (hB : B ≤ w.heap.size)
    (h : ∀ v' w', DsO w' B v' (ds ++ [d]) → (w.alloc (.cells (u8s d).toArray 63)).grownBy w' v.ownBlock → (v'.ownBlock = v.ownBlock ∨ v'.ownBlock = some (w.heap.size + 1)) → wpListIn F n Tryd.prog ops Q rest (a.put o.dst v') w') :
    wpListIn F n Tryd.prog ops Q (o :: rest) a (w.alloc (.cells (u8s d).toArray 63)) := by
  obtain ⟨v', w', h1, h2, h3, h4⟩ := run_app_digest o.type B v ds hown d hd hn hB
  exact wpListIn_val hgd (by rw [ho]; intro c hc; cases hc) (about_append s x _ ho) v' w' (run_op_append s x _ ho v _ hs hx v' w' h1) (h v' w' h2 h3 h4)
end
end Go.Proofs.YthgjecofmnomfaaDoor
