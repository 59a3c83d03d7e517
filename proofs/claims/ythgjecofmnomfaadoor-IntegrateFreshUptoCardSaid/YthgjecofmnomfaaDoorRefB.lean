/- WORDS for the reference's Add: a []Item that is made. No statement of the seed is proved here. -/
import Derived.Test.YthgjecofmnomfaaDoorRefA
import Derived.Test.YthgjecofmnomfaaDoorTree
namespace Go.Proofs.YthgjecofmnomfaaDoor
open Go.RowKit
set_option maxRecDepth 100000

theorem info_ritem : (Tryd.prog.info? 96).map (fun i => (i.zero.map (·.cells.size), i.size, i.bytes)) = some (some 33, 33, 40) := by kernel_rfl
theorem size_ritem : (Tryd.prog.info? 96).map (·.size) = some 33 := by kernel_rfl
theorem under_ritems : Tryd.prog.underlying 58 = some (.slice 96) := by kernel_rfl
theorem elem_ritems : Tryd.prog.elem 58 = 96 := by kernel_rfl
theorem cells_ritem (w : World) : (sizeOf 96).run Tryd.prog w = .ok 33 w := by
  obtain ⟨i, hi, hs⟩ := Option.map_eq_some_iff.1 size_ritem
  rw [run_sizeOf _ hi]; simp [Program.cellsOf, hi, hs]
/-- x[:k], x[k:]. -/
theorem RunV.takeK {w : World} {A : Option Addr} {n c : Nat} {xs : List Item} (h : RunV w (.slice A n c) xs) {k : Nat} (hk : k ≤ n) : RunV w (.slice A k c) (xs.take k) := by
  obtain ⟨A', c', e, h1, h2, h3, h4⟩ := h
  cases e
  have hl : (xs.take k).length = k := by simp; omega
  refine ⟨A, c, by rw [hl], by omega, h2, h3, fun ad ha => ⟨(h4 ad ha).1, fun j u hu => (h4 ad ha).2 j u ?_⟩⟩
  have e : itemsL xs = itemsL (xs.take k) ++ itemsL (xs.drop k) := by rw [← itemsL_append, List.take_append_drop]
  rw [e, List.getElem?_append_left (List.getElem?_eq_some_iff.1 hu).1]
  exact hu
theorem run_dropK {w : World} {A : Option Addr} {n c : Nat} {xs : List Item} (h : RunV w (.slice A n c) xs) (hw : Wid xs) {k : Nat} (hk : k ≤ n) :
    ∃ A' c', (∀ W : World, (Instr.sliceAt 58 (.slice A n c) (some (.int .i64 (k : Int))) none none).run Tryd.prog W = .ok (.slice A' (n - k) c') W) ∧ RunV w (.slice A' (n - k) c') (xs.drop k) := by
  obtain ⟨A0, c0, e, h1, h2, h3, h4⟩ := h
  cases e
  unfold maxLen at h2
  have hu : Tryd.prog.underlying 58 = some (.slice (Tryd.prog.elem 58)) := by rw [elem_ritems]; exact under_ritems
  refine ⟨if c = k then A else A.map (·.add (k * 33)), c - k, fun W => ?_, ?_⟩
  · rw [run_sliceAt_slice _ _ _ _ _ _ hu, run_slice_l (ht := hu) (h0 := by omega) (h1 := by omega), elem_ritems, cells_ritem]
    simp only [Result.andThen, sliced]
    have e1 : ((k : Int)).toNat = k := by omega
    rw [e1]
  · have hl : (xs.drop k).length = xs.length - k := by simp
    refine ⟨_, _, by rw [hl], by rw [hl]; omega, by unfold maxLen; omega, ?_, ?_⟩
    · intro hA
      cases A with
      | none => have := h3 rfl; omega
      | some ad => split at hA <;> cases hA
    · intro ad hA
      cases A with
      | none => split at hA <;> cases hA
      | some a0 =>
        obtain ⟨hs, hr⟩ := h4 _ rfl
        obtain ⟨g, o, sp⟩ := a0
        simp only at hs hr
        subst hs
        split at hA
        · rename_i hck
          cases hA
          refine ⟨rfl, fun j u hu => ?_⟩
          have : xs.drop k = [] := List.eq_nil_of_length_eq_zero (by rw [hl]; omega)
          rw [this] at hu
          simp [itemsL] at hu
        · simp only [Option.map_some, Option.some.injEq] at hA
          subst hA
          rw [Addr.add_mid]
          refine ⟨rfl, fun j u hu => ?_⟩
          have e : itemsL xs = itemsL (xs.take k) ++ itemsL (xs.drop k) := by rw [← itemsL_append, List.take_append_drop]
          have hlt : (itemsL (xs.take k)).length = k * 33 := by rw [itemsL_length _ (fun x hx => hw x (List.mem_of_mem_take hx))]; simp; omega
          have := hr (k * 33 + j) u (by rw [e, List.getElem?_append_right (by omega), hlt, Nat.add_sub_cancel_left]; exact hu)
          rwa [← Nat.add_assoc] at this
theorem run_takeK {A : Option Addr} {n c k : Nat} (hk : k ≤ n) (hn : n ≤ c) (W : World) : (Instr.sliceAt 58 (.slice A n c) none (some (.int .i64 (k : Int))) none).run Tryd.prog W = .ok (.slice A k c) W := by
  have hu : Tryd.prog.underlying 58 = some (.slice (Tryd.prog.elem 58)) := by rw [elem_ritems]; exact under_ritems
  rw [run_sliceAt_slice _ _ _ _ _ _ hu]
  rw [run_slice_h W 58 A n c hu .i64 k (by omega) (by omega)]
  have e1 : ((k : Int)).toNat = k := by omega
  have e2 : (A.map fun x => x.add 0) = A := by cases A <;> rfl
  rw [elem_ritems]
  simp [sliced, e1, Result.andThen, e2]
theorem run_appR_nil {w : World} {B : Nat} (ty : TypeId) (v : Value) (n : Nat) (xs : List Value) (hown : w.ownsRow B 96 33 v n xs) (c : Nat) :
    (Builtin.append_ #[58, 58] ty #[v, .slice none 0 c]).run Tryd.prog w = .ok v w := by
  obtain ⟨i, hi, hs⟩ := Option.map_eq_some_iff.1 size_ritem
  rcases hown.2 with ⟨rfl, rfl⟩ | ⟨g, cap, cur, rfl, _, _, hnc, _⟩
  · simp [Builtin.append_, run_underlying under_ritems, sizeOf, typeInfo, hi, Builtin.lenOf, Builtin.firstCells]
  · simp [Builtin.append_, run_underlying under_ritems, sizeOf, typeInfo, hi, Builtin.lenOf, Builtin.firstCells, hnc, storeCells]
theorem run_appR {w : World} {B : Nat} (ty : TypeId) (v : Value) (n : Nat) (xs : List Value) (hown : w.ownsRow B 96 33 v n xs) (u : Value) (ys : List Item) (hu : RunV w u ys) (wy : Wid ys) (hn : n + ys.length ≤ 4000000) (hB : B ≤ w.heap.size) :
    ∃ v' w', (Builtin.append_ #[58, 58] ty #[v, u]).run Tryd.prog w = .ok v' w' ∧ w'.ownsRow B 96 33 v' (n + ys.length) (xs ++ itemsL ys) ∧ w.grownBy w' v.ownBlock := by
  obtain ⟨i, hi, hq⟩ := Option.map_eq_some_iff.1 info_ritem
  simp only [Prod.mk.injEq] at hq
  obtain ⟨q1, q2, q3⟩ := hq
  obtain ⟨z, hz, hzs⟩ := Option.map_eq_some_iff.1 q1
  obtain ⟨A, c, rfl, h1, h2, h3, h4⟩ := hu
  cases A with
  | none =>
    have : ys = [] := List.eq_nil_of_length_eq_zero (by have := h3 rfl; omega)
    subst this
    exact ⟨v, w, run_appR_nil ty v n xs hown c, by simpa [itemsL] using hown, ⟨rfl, rfl, rfl, Nat.le_refl _, fun _ _ _ => rfl⟩⟩
  | some ad =>
    obtain ⟨g, o, sp⟩ := ad
    obtain ⟨hsp, hr⟩ := h4 _ rfl
    simp only at hsp hr
    subst hsp
    obtain ⟨v', w', e1, e2, e3, _, e5⟩ := run_append_own_at (P := Tryd.prog) w B 58 ty 96 i z 33 40 under_ritems hi hz q2 q3 hzs (by omega) v n xs hown ⟨g, o, none⟩ ys.length c (itemsL ys) (itemsL_length ys wy) (fun j u hu => by rw [Addr.add_mid]; exact hr j u hu) (itemsL_cells ys) (by unfold maxLen; omega) (by omega) hB
    exact ⟨v', w', e1, e2, e3⟩
theorem run_op_appR {w : World} {o : Oper} {ρ : Operand → Value} (s x : Operand) (ho : o.op = .call { callee := .builtin .append, args := #[s, x], argTypes := #[58, 58] }) {B : Nat} (v : Value) (hs : ρ s = v) (n : Nat) (xs : List Value) (hown : w.ownsRow B 96 33 v n xs)
    (u : Value) (ys : List Item) (hu : RunV w u ys) (wy : Wid ys) (hx : ρ x = u) (hn : n + ys.length ≤ 4000000) (hB : B ≤ w.heap.size) :
    ∃ v' w', (execOp ρ o).run Tryd.prog w = .ok (.value v') w' ∧ w'.ownsRow B 96 33 v' (n + ys.length) (xs ++ itemsL ys) ∧ w.grownBy w' v.ownBlock := by
  obtain ⟨v', w', h1, h2, h3⟩ := run_appR (w := w) o.type v n xs hown u ys hu wy hn hB
  exact ⟨v', w', run_op_append s x _ ho v u hs hx v' w' h1, h2, h3⟩
theorem run_op_none {w : World} {o : Oper} {ρ : Operand → Value} (ho : o.op = .buildSlice 58 0 #[]) : (execOp ρ o).run Tryd.prog w = .ok (.value (.slice (some ⟨w.heap.size, 0, none⟩) 0 0)) (w.alloc (.cells #[] 96)) := by
  obtain ⟨i, hi, hq⟩ := Option.map_eq_some_iff.1 info_ritem
  simp only [Prod.mk.injEq] at hq
  obtain ⟨q1, q2, q3⟩ := hq
  obtain ⟨z, hz, hzs⟩ := Option.map_eq_some_iff.1 q1
  unfold execOp
  simp only [ho, Sem.run_bind, Sem.run_pure]
  simp [Instr.buildSlice, run_underlying under_ritems, sizeOf, typeInfo, hi, newRow, Instr.fill]
  rw [show Array.range 0 = (#[] : Array Nat) from Array.eq_empty_of_size_eq_zero (by simp), Array.map_empty]
theorem own_none (w : World) {B : Nat} (hB : B ≤ w.heap.size) : (w.alloc (.cells #[] 96)).ownsRow B 96 33 (.slice (some ⟨w.heap.size, 0, none⟩) 0 0) 0 [] :=
  ⟨rfl, .inr ⟨w.heap.size, 0, #[], rfl, hB, heap_alloc_new w _, Nat.le_refl _, by unfold maxLen; omega, rfl, rfl⟩⟩
theorem run_op_one_ritem {w : World} {o : Oper} {ρ : Operand → Value} (x : Operand) (ho : o.op = .buildSlice 58 1 #[(0, x)]) (cs : List Value) (hx : ρ x = .agg cs.toArray) (hl : cs.length = 33) :
    (execOp ρ o).run Tryd.prog w = .ok (.value (.slice (some ⟨w.heap.size, 0, none⟩) 1 1)) (w.alloc (.cells cs.toArray 96)) := by
  obtain ⟨i, hi, hq⟩ := Option.map_eq_some_iff.1 info_ritem
  simp only [Prod.mk.injEq] at hq
  obtain ⟨q1, q2, q3⟩ := hq
  obtain ⟨z, hz, hzs⟩ := Option.map_eq_some_iff.1 q1
  have hf := Great.fill_whole (s := 33) (by omega) [.agg cs.toArray] ((Array.range (1 * 33)).map (z.cells[· % z.cells.size]!)) (by simp [Value.cells, hl]) (by simp)
  unfold execOp
  simp only [ho, Sem.run_bind, Sem.run_pure]
  rw [run_buildSlice w 58 96 1 _ cs.toArray i z under_ritems hi hz (by rw [q2]; omega) (by rw [q2]; omega) (by rw [q2]; simpa [hx, Value.cells] using hf)]
  rfl
theorem run_item_new (w : World) (y : Item) (t : TypeId) : RunV (w.alloc (.cells (itemL y).toArray t)) (.slice (some ⟨w.heap.size, 0, none⟩) 1 1) [y] := by
  refine ⟨_, 1, rfl, Nat.le_refl _, by unfold maxLen; omega, fun h => (by cases h), fun ad ha => ?_⟩
  cases ha
  refine ⟨rfl, fun j u hu => ?_⟩
  rw [itemsL_one] at hu
  rw [Nat.zero_add, cell_of_row _ w.heap.size j _ _ (0, 0) (heap_alloc_new w _)]
  simpa using hu
end Go.Proofs.YthgjecofmnomfaaDoor
