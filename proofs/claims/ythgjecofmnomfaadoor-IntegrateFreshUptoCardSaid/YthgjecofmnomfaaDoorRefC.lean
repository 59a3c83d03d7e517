/- WALK of the reference's Add. No statement of the seed is proved here. -/
import Derived.Test.YthgjecofmnomfaaDoorRefB
namespace Go.Proofs.YthgjecofmnomfaaDoor
open Go.RowKit
set_option maxRecDepth 100000

theorem cutAt_eq {l : List Item} {d : List UInt8} {k : Nat} (hk : k ≤ l.length) (h1 : ∀ q (hq : q < l.length), q < k → dval (l[q]'hq).1 < dval d) (h2 : ∀ (h : k < l.length), ¬ dval (l[k]'h).1 < dval d) : cutAt l d = k := by
  unfold cutAt
  have e : l = l.take k ++ l.drop k := (List.take_append_drop k l).symm
  have ht : (l.takeWhile fun x => decide (dval x.1 < dval d)) = l.take k := by
    conv => lhs; rw [e]
    rw [List.takeWhile_append_of_pos (by
      intro x hx
      obtain ⟨q, hq, rfl⟩ := List.getElem_of_mem hx
      have hq' : q < k ∧ q < l.length := by simp at hq; omega
      rw [List.getElem_take]
      simpa using h1 q hq'.2 hq'.1)]
    have : (l.drop k).takeWhile (fun x => decide (dval x.1 < dval d)) = [] := by
      cases hd : l.drop k with
      | nil => rfl
      | cons x r =>
        have hlt : k < l.length := by
          rcases Nat.lt_or_ge k l.length with h | h
          · exact h
          · rw [List.drop_eq_nil_of_le h] at hd; cases hd
        have hx : l[k] = x := by
          have := @List.getElem_cons_drop _ l k hlt
          rw [hd] at this
          exact (List.cons.inj this).1
        rw [List.takeWhile_cons, ← hx]
        simp [h2 hlt]
    rw [this, List.append_nil]
  rw [ht]
  simp; omega
theorem radd_neg (vi vn : Value) (items : List Item) (ns : List Nat) (d : List UInt8) (place : Int) (w : World) (h : RefV w vi vn items ns) (hp : place < 0) :
    Calls Tryd.prog 28 #[.agg #[vi, vn], .agg (u8s d).toArray, .int .i64 place] w fun e w' => e = .returned (.tuple #[.agg #[vi, vn], .int .i64 2]) ∧ Below w.heap.size w w' := by
  obtain ⟨A, c, rfl, a1, a2⟩ := h.itm.form
  obtain ⟨A2, c2, rfl, a3, a4⟩ := row_form h.runs
  go_enter Tryd.func28, Tryd.ntmps28
  go_wp2
  exact bodyPost_ret (v := .tuple #[.agg #[.slice A items.length c, .slice A2 ns.length c2], .int .i64 2]) (by simp [results, Tryd.results28, go_sem]) rfl ⟨rfl, below_then (below_then (below_alloc1 _ _) (below_alloc1 _ _)) (below_alloc1 _ _)⟩
/-- The boxes that Add begins with. -/
def boxesW (w : World) (vi vn : Value) (d : List UInt8) : World := ((w.alloc (.cells #[vi, vn] 60)).alloc (.cells (u8s d).toArray 63)).alloc (.cells #[.slice none 0 0, .slice none 0 0] 60)
structure AddBox (w : World) (vi vn : Value) (d : List UInt8) (W : World) : Prop where
  bel : Below w.heap.size w W
  b0 : W.cell? ⟨w.heap.size, 0, none⟩ = some vi
  b1 : W.cell? ⟨w.heap.size, 1, none⟩ = some vn
  dg : W.rangeAt (w.heap.size + 1) 0 (u8s d)
  r0 : W.cell? ⟨w.heap.size + 1 + 1, 0, none⟩ = some (.slice none 0 0)
  r1 : W.cell? ⟨w.heap.size + 1 + 1, 1, none⟩ = some (.slice none 0 0)
  f0 : W.frozen? ⟨w.heap.size + 1 + 1, 0, none⟩ = false
  f1 : W.frozen? ⟨w.heap.size + 1 + 1, 1, none⟩ = false
theorem addBox (w : World) (vi vn : Value) (d : List UInt8) : AddBox w vi vn d (boxesW w vi vn d) := by
  unfold boxesW
  have hb2 := below_alloc1 ((w.alloc (.cells #[vi, vn] 60)).alloc (.cells (u8s d).toArray 63)) (.cells #[.slice none 0 0, .slice none 0 0] 60)
  have hb1 := below_then (below_alloc1 (w.alloc (.cells #[vi, vn] 60)) (.cells (u8s d).toArray 63)) hb2
  have hn := heap_alloc_new ((w.alloc (.cells #[vi, vn] 60)).alloc (.cells (u8s d).toArray 63)) (.cells #[.slice none 0 0, .slice none 0 0] 60)
  have hf := fun j => new_frozen ((w.alloc (.cells #[vi, vn] 60)).alloc (.cells (u8s d).toArray 63)) #[.slice none 0 0, .slice none 0 0] 60 j
  simp only [World.size_alloc] at hn hf
  refine ⟨below_then (below_alloc1 _ _) hb1, cell_below hb1 (cell_of_row _ w.heap.size 0 _ _ (0, 0) (heap_alloc_new w _)), cell_below hb1 (cell_of_row _ w.heap.size 1 _ _ (0, 0) (heap_alloc_new w _)), ?_, cell_of_row _ _ 0 _ _ (0, 0) hn, cell_of_row _ _ 1 _ _ (0, 0) hn, hf 0, hf 1⟩
  have := rangeAt_below (range_new (w.alloc (.cells #[vi, vn] 60)) d) hb2
  rwa [World.size_alloc] at this
theorem AddBox.later {w W W' : World} {vi vn : Value} {d : List UInt8} (h : AddBox w vi vn d W) (hb : Below W.heap.size W W') : AddBox w vi vn d W' :=
  ⟨h.bel.trans (hb.mono h.bel.size), cell_below hb h.b0, cell_below hb h.b1, rangeAt_below h.dg hb, cell_below hb h.r0, cell_below hb h.r1, frozen_below hb h.r0 h.f0, frozen_below hb h.r1 h.f1⟩
theorem AddBox.put {w W : World} {vi vn : Value} {d : List UInt8} (h : AddBox w vi vn d W) (a b : Value) :
    ((W.setCell ⟨w.heap.size + 1 + 1, 0, none⟩ a).setCell ⟨w.heap.size + 1 + 1, 1, none⟩ b).cell? ⟨w.heap.size + 1 + 1, 0, none⟩ = some a ∧
    ((W.setCell ⟨w.heap.size + 1 + 1, 0, none⟩ a).setCell ⟨w.heap.size + 1 + 1, 1, none⟩ b).cell? ⟨w.heap.size + 1 + 1, 1, none⟩ = some b ∧
    Below w.heap.size w ((W.setCell ⟨w.heap.size + 1 + 1, 0, none⟩ a).setCell ⟨w.heap.size + 1 + 1, 1, none⟩ b) := by
  have h1 : (W.setCell ⟨w.heap.size + 1 + 1, 0, none⟩ a).cell? ⟨w.heap.size + 1 + 1, 1, none⟩ = some (.slice none 0 0) := (World.cell?_setCell_other W _ _ a (by simp)).trans h.r1
  refine ⟨(World.cell?_setCell_other _ _ _ b (by simp)).trans (set_cell h.r0 a), set_cell h1 b, (h.bel.setCell (p := ⟨w.heap.size + 1 + 1, 0, none⟩) (by show w.heap.size ≤ w.heap.size + 1 + 1; omega) _).setCell (p := ⟨w.heap.size + 1 + 1, 1, none⟩) (by show w.heap.size ≤ w.heap.size + 1 + 1; omega) _⟩
theorem radd_there (vi vn : Value) (items : List Item) (ns : List Nat) (d : List UInt8) (hd : d.length = 32) (place : Int) (w : World) (h : RefV w vi vn items ns) (hp : 0 ≤ place) (hf : findI items d ≠ none) :
    Calls Tryd.prog 28 #[.agg #[vi, vn], .agg (u8s d).toArray, .int .i64 place] w fun e w' => e = .returned (.tuple #[.agg #[vi, vn], .int .i64 120]) ∧ Below w.heap.size w w' := by
  obtain ⟨x, hx⟩ : ∃ x, findI items d = some x := Option.ne_none_iff_exists'.1 hf
  have hv : findV items d = (x.2, true) := by unfold findV; rw [hx]
  have hA := addBox w vi vn d
  have K := Lib.hid (rfind_calls vi vn items ns d hd _ (h.below hA.bel))
  rw [hv] at K
  have k0 := hA.b0
  have k1 := hA.b1
  have hld := load_digest hd hA.dg
  have HA := Lib.hid hA
  obtain ⟨A, c, rfl, a1, a2⟩ := h.itm.form
  obtain ⟨A2, c2, rfl, a3, a4⟩ := row_form h.runs
  unfold boxesW at *
  clear hf hx hv h hA
  go_enter Tryd.func28, Tryd.ntmps28
  go_wp2_with (first
    | (refine wpList_load_run rfl 63 _ rfl _ _ rfl hld ?_)
    | (go_at_call 45; refine K.out.mono ?_; rintro e w1 ⟨rfl, hB1⟩; have HA1 := Lib.hid (HA.out.later hB1); have q0 := HA1.out.b0; have q1 := HA1.out.b1; have q2 := HA1.out.r0; have q3 := HA1.out.r1; have q4 := HA1.out.f0; have q5 := HA1.out.f1))
  obtain ⟨z0, z1, zb⟩ := HA1.out.put (.slice A items.length c) (.slice A2 ns.length c2)
  exact bodyPost_ret (v := .tuple #[.agg #[.slice A items.length c, .slice A2 ns.length c2], .int .i64 120]) (by simp [results, Tryd.results28, go_sem, z0, z1]) rfl ⟨rfl, zb⟩
theorem natsL_row {w : World} {B : Nat} {v : Value} {ns : List Nat} (h : w.ownsRow B 3 1 v ns.length (natsL ns)) : Row w v ns.length (natsL ns) := Row.of_owns h
theorem build_ritem (d : List UInt8) (hd : d.length = 32) (pl : Int) : Tryd.prog.built 96 [(0, .agg (u8s d).toArray), (1, .int .i64 pl)] = some (itemL (d, pl)).toArray := by
  obtain _ | ⟨a0, d⟩ := d
  · simp at hd
  obtain _ | ⟨a1, d⟩ := d
  · simp at hd
  obtain _ | ⟨a2, d⟩ := d
  · simp at hd
  obtain _ | ⟨a3, d⟩ := d
  · simp at hd
  obtain _ | ⟨a4, d⟩ := d
  · simp at hd
  obtain _ | ⟨a5, d⟩ := d
  · simp at hd
  obtain _ | ⟨a6, d⟩ := d
  · simp at hd
  obtain _ | ⟨a7, d⟩ := d
  · simp at hd
  obtain _ | ⟨a8, d⟩ := d
  · simp at hd
  obtain _ | ⟨a9, d⟩ := d
  · simp at hd
  obtain _ | ⟨a10, d⟩ := d
  · simp at hd
  obtain _ | ⟨a11, d⟩ := d
  · simp at hd
  obtain _ | ⟨a12, d⟩ := d
  · simp at hd
  obtain _ | ⟨a13, d⟩ := d
  · simp at hd
  obtain _ | ⟨a14, d⟩ := d
  · simp at hd
  obtain _ | ⟨a15, d⟩ := d
  · simp at hd
  obtain _ | ⟨a16, d⟩ := d
  · simp at hd
  obtain _ | ⟨a17, d⟩ := d
  · simp at hd
  obtain _ | ⟨a18, d⟩ := d
  · simp at hd
  obtain _ | ⟨a19, d⟩ := d
  · simp at hd
  obtain _ | ⟨a20, d⟩ := d
  · simp at hd
  obtain _ | ⟨a21, d⟩ := d
  · simp at hd
  obtain _ | ⟨a22, d⟩ := d
  · simp at hd
  obtain _ | ⟨a23, d⟩ := d
  · simp at hd
  obtain _ | ⟨a24, d⟩ := d
  · simp at hd
  obtain _ | ⟨a25, d⟩ := d
  · simp at hd
  obtain _ | ⟨a26, d⟩ := d
  · simp at hd
  obtain _ | ⟨a27, d⟩ := d
  · simp at hd
  obtain _ | ⟨a28, d⟩ := d
  · simp at hd
  obtain _ | ⟨a29, d⟩ := d
  · simp at hd
  obtain _ | ⟨a30, d⟩ := d
  · simp at hd
  obtain _ | ⟨a31, d⟩ := d
  · simp at hd
  obtain _ | ⟨b, d⟩ := d
  · clear hd; kernel_rfl
  · simp at hd
theorem run_op_ritem {o : Oper} {ρ : Operand → Value} {w : World} (x y : Operand) (ho : o.op = .build 96 #[(0, x), (1, y)]) (d : List UInt8) (hd : d.length = 32) (pl : Int) (hx : ρ x = .agg (u8s d).toArray) (hy : ρ y = .int .i64 pl) : (execOp ρ o).run Tryd.prog w = .ok (.value (.agg (itemL (d, pl)).toArray)) w := by
  have hb : Tryd.prog.built 96 ((#[(0, x), (1, y)] : Array (Nat × Operand)).map fun (i, x) => (i, ρ x)).toList = some (itemL (d, pl)).toArray := by
    simpa [hx, hy] using build_ritem d hd pl
  unfold execOp
  simp only [ho, Sem.run_bind, run_build w 96 _ _ hb, Result.andThen_ok, Sem.run_pure]
theorem run_op_sliceH {o : Oper} {ρ : Operand → Value} {P : Program} {w : World} (t : TypeId) (x y : Operand) (ho : o.op = .slice t x none (some y) none) (u i v : Value) (hx : ρ x = u) (hy : ρ y = i) (hr : (Instr.sliceAt t u none (some i) none).run P w = .ok v w) : (execOp ρ o).run P w = .ok (.value v) w := by
  unfold execOp
  simp only [ho, hx, hy, Sem.run_bind, Sem.run_pure, Option.map_some, Option.map_none, hr, Result.andThen_ok]
theorem load_cell {P : Program} {w : World} {t : TypeId} {g o : Nat} {v : Value} {d : TypeDesc} (hu : P.underlying t = some d) (hd : (match d with | .struct _ | .array _ _ => false | _ => true) = true) (h : w.cell? ⟨g, o, none⟩ = some v) : (Instr.loadAt t (.pointer (some ⟨g, o, none⟩))).run P w = .ok v w := by
  have ha : (isAgg t).run P w = .ok false w := by
    unfold isAgg
    simp only [Sem.run_bind, run_underlying hu, Result.andThen_ok, Sem.run_pure]
    cases d <;> simp_all
  simp only [Instr.loadAt, Instr.sureAddr, Sem.run_bind, Sem.run_pure, Result.andThen_ok, loadVar, ha]
  simp [run_load, h]
theorem run_op_move {o : Oper} {ρ : Operand → Value} {P : Program} (x : Operand) (ho : o.op = .move x) (v : Value) (hx : ρ x = v) (w : World) : (execOp ρ o).run P w = .ok (.value v) w := by subst hx; unfold execOp; rw [ho]; rfl
theorem run_op_assign {o : Oper} {ρ : Operand → Value} {P : Program} (x : Operand) (ho : o.op = .assign x) (v : Value) (hx : ρ x = v) (w : World) : (execOp ρ o).run P w = .ok (.value v) w := by subst hx; unfold execOp; rw [ho]; rfl
theorem RunV.grown {w w1 : World} {g o n c : Nat} {xs : List Item} {row : Option Nat} (h : RunV w (.slice (some ⟨g, o, none⟩) n c) xs) (hg : w.grownBy w1 row) (hne : some g ≠ row) (hlt : g < w.heap.size) : RunV w1 (.slice (some ⟨g, o, none⟩) n c) xs := by
  obtain ⟨A, c', e, h1, h2, h3, h4⟩ := h
  cases e
  refine ⟨_, _, rfl, h1, h2, h3, fun ad ha => ?_⟩
  cases ha
  exact ⟨rfl, fun j u hu => (cell_mods (hg.block g hlt hne)).trans ((h4 _ rfl).2 j u hu)⟩
theorem run_op_sliceL {o : Oper} {ρ : Operand → Value} {P : Program} {w : World} (t : TypeId) (x y : Operand) (ho : o.op = .slice t x (some y) none none) (u i v : Value) (hx : ρ x = u) (hy : ρ y = i) (hr : (Instr.sliceAt t u (some i) none none).run P w = .ok v w) : (execOp ρ o).run P w = .ok (.value v) w := by
  unfold execOp
  simp only [ho, hx, hy, Sem.run_bind, Sem.run_pure, Option.map_some, Option.map_none, hr, Result.andThen_ok]
theorem natsL_one (ns : List Nat) : ∀ u ∈ natsL ns, u.oneCell' = true := fun u hu => by
  simp only [natsL, List.mem_map] at hu
  obtain ⟨x, _, rfl⟩ := hu
  rfl
theorem owns_addr {w : World} {B : Nat} {e : TypeId} {s n c : Nat} {A : Option Addr} {xs : List Value} (h : w.ownsRow B e s (.slice A n c) n xs) (hn : 0 < n) : ∃ g, A = some ⟨g, 0, none⟩ := by
  rcases h with ⟨hl, ⟨h1, h2⟩ | ⟨g, cap, cur, h1, -⟩⟩
  · cases h1; omega
  · cases h1; exact ⟨g, rfl⟩
theorem run_takeInt {A : Option Addr} {n c k : Nat} (hk : k ≤ n) (hn : n ≤ c) (W : World) : (Instr.sliceAt 42 (.slice A n c) none (some (.int .i64 (k : Int))) none).run Tryd.prog W = .ok (.slice A k c) W := by
  have hel : Tryd.prog.elem 42 = 3 := by kernel_rfl
  have hu : Tryd.prog.underlying 42 = some (.slice (Tryd.prog.elem 42)) := by rw [hel]; exact Tryd.underlying42
  rw [run_sliceAt_slice _ _ _ _ _ _ hu]
  rw [run_slice_h W 42 A n c hu .i64 k (by omega) (by omega)]
  have e1 : ((k : Int)).toNat = k := by omega
  have e2 : (A.map fun x => x.add 0) = A := by cases A <;> rfl
  rw [hel]
  obtain ⟨i, hi, hq⟩ := Option.map_eq_some_iff.1 info_int
  simp [sliced, e1, Result.andThen, e2, sizeOf, typeInfo, hi]
theorem run_op_one_int {w : World} {o : Oper} {ρ : Operand → Value} (x : Operand) (ho : o.op = .buildSlice 42 1 #[(0, x)]) (q : Int) (hx : ρ x = .int .i64 q) :
    (execOp ρ o).run Tryd.prog w = .ok (.value (.slice (some ⟨w.heap.size, 0, none⟩) 1 1)) (w.alloc (.cells #[.int .i64 q] 3)) := by
  obtain ⟨i, hi, hz, h1, h2⟩ := info_parts info_int
  have hf := Great.fill_whole (s := 1) (by omega) [.int .i64 q] ((Array.range (1 * 1)).map ((Value.int .i64 0).cells[· % (Value.int .i64 0).cells.size]!)) (by simp [Value.cells]) (by simp)
  unfold execOp
  simp only [ho, Sem.run_bind, Sem.run_pure]
  rw [run_buildSlice w 42 3 1 _ #[.int .i64 q] i (.int .i64 0) Tryd.underlying42 hi hz (by rw [h1]; omega) (by rw [h1]; omega) (by rw [h1]; simpa [hx, Value.cells] using hf)]
  rfl
theorem wp_cutR {P : Program} {c : Code} {Q : Exit → Act → World → Prop} {a : Act} {w : World} (R : Act → Act → World → Prop) (h : c.wp P (fun e a' w' => e = .normal ∧ R a a' w') a w) (hk : ∀ a' w', R a a' w' → Q .normal a' w') : c.wp P Q a w :=
  Code.wp_mono (fun _ a' w' ⟨he, hR⟩ => he ▸ hk a' w' hR) h
/-- What region 9 leaves: the items ahead of the place, and the new one. -/
def Reg9 (w : World) (v42 v43 v44 v45 v47 v48 v49 : Value) (xs : List Item) (a a' : Act) (w' : World) : Prop :=
  ∃ v41 v46 v50 v51, a' = (((((((((((a.put (some 41) v41).put (some 42) v42).put (some 43) v43).put (some 44) v44).put (some 45) v45).put (some 46) v46).put (some 47) v47).put (some 48) v48).put (some 49) v49).put (some 50) v50).put (some 51) v51).put (some 11) v51 ∧
    w'.ownsRow w.heap.size 96 33 v51 xs.length (itemsL xs) ∧ Below w.heap.size w w'
theorem insI_split {items : List Item} {x : Item} {k : Nat} (hk : cutAt items x.1 = k) : insI items x = (items.take k ++ [x]) ++ items.drop k := by
  unfold insI
  rw [hk]
  simp
theorem carryN_go {r m : Nat} {rr : List Nat} (h : r = m) : carryN (r :: rr) m = carryN rr (2 * m) := by rw [carryN, if_pos h]
theorem carryN_len : ∀ (rr : List Nat) (m : Nat), (carryN rr m).length ≤ rr.length + 1
  | [], m => by simp [carryN]
  | r :: rr, m => by
    unfold carryN
    split
    · have := carryN_len rr (2 * m); simp; omega
    · simp
/-- Where Add ends. -/
theorem radd_end {w wb wz : World} {vi vn : Value} {d : List UInt8} {xs : List Item} {ms : List Nat} {v57 v12 : Value} {n7 n8 B : Nat} (_ : AddBox w vi vn d wz) (hB : w.heap.size + 1 + 1 < B) (hz : Below wb.heap.size wb wz) (hB2 : B ≤ wb.heap.size)
    (h7 : wb.ownsRow B 96 33 v57 n7 (itemsL xs)) (hn7 : n7 = xs.length) (hw : Wid xs) (hl : xs.length ≤ 1000000) (h8 : wz.ownsRow wb.heap.size 3 1 v12 n8 (natsL ms)) (hn8 : n8 = ms.length) (hl8 : ms.length ≤ 1000000) :
    RefV ((wz.setCell ⟨w.heap.size + 1 + 1, 0, none⟩ v57).setCell ⟨w.heap.size + 1 + 1, 1, none⟩ v12) v57 v12 xs ms := by
  have hst : ∀ k, k ≠ w.heap.size + 1 + 1 → ((wz.setCell ⟨w.heap.size + 1 + 1, 0, none⟩ v57).setCell ⟨w.heap.size + 1 + 1, 1, none⟩ v12).heap[k]? = wz.heap[k]? := fun k hk => by
    rw [Below.heap_setCell _ _ _ _ hk, Below.heap_setCell _ _ _ _ hk]
  subst hn7 hn8
  have o7 := owns_mods (owns_below h7 hz) (w' := ((wz.setCell ⟨w.heap.size + 1 + 1, 0, none⟩ v57).setCell ⟨w.heap.size + 1 + 1, 1, none⟩ v12)) fun k hk _ => hst k (fun e => by have := owns_ge h7 k hk; omega)
  have o8 := owns_mods h8 (w' := ((wz.setCell ⟨w.heap.size + 1 + 1, 0, none⟩ v57).setCell ⟨w.heap.size + 1 + 1, 1, none⟩ v12)) fun k hk _ => hst k (fun e => by have := owns_ge h8 k hk; omega)
  exact ⟨RunV.of_owns o7, hw, Row.of_owns o8, hl, hl8⟩
set_option maxHeartbeats 2000000 in
theorem radd_new (vi vn : Value) (items : List Item) (ns : List Nat) (d : List UInt8) (hd : d.length = 32) (place : Int) (w : World) (h : RefV w vi vn items ns) (hp : 0 ≤ place) (hf : findI items d = none) (hi : items.length + 1 ≤ 1000000) (hsum : ns.sum + 1 ≤ 1000000) (hnl : ns.length + 1 ≤ 1000000) :
    Calls Tryd.prog 28 #[.agg #[vi, vn], .agg (u8s d).toArray, .int .i64 place] w fun e w' => ∃ vi' vn', e = .returned (.tuple #[.agg #[vi', vn'], .int .i64 0]) ∧ RefV w' vi' vn' (insI items (d, place)) (addN ns) ∧ (∀ k, vi'.ownBlock = some k → w.heap.size ≤ k) ∧ (∀ k, vn'.ownBlock = some k → w.heap.size ≤ k) ∧ Below w.heap.size w w' := by
  have hv : findV items d = (0, false) := by unfold findV; rw [hf]
  have hA := addBox w vi vn d
  have K := Lib.hid (rfind_calls vi vn items ns d hd _ (h.below hA.bel))
  rw [hv] at K
  have hld := load_digest hd hA.dg
  have HA := Lib.hid hA
  have HR := Lib.hid h
  obtain ⟨A, c, rfl, a1, a2⟩ := h.itm.form
  obtain ⟨A2, c2, rfl, a3, a4⟩ := row_form h.runs
  unfold boxesW at *
  clear hf hv h hA
  go_enter Tryd.func28, Tryd.ntmps28
  go_wp2_with (first
    | (refine wpList_load_run rfl 63 _ rfl _ _ rfl hld ?_)
    | (have k0 := HA.out.b0; have k1 := HA.out.b1; go_at_call 45; refine K.out.mono ?_; rintro e w1 ⟨rfl, hB1⟩; have HA1 := Lib.hid (HA.out.later hB1)))
  clear hB1 k0 k1 hld K HA
  have HR1 := Lib.hid (HR.out.below HA1.out.bel)
  clear HR
  go_loopw [10] (fun i wr => ∃ k : Nat, k ≤ items.length ∧ i = .int .i64 (k : Int) ∧ Hid (∀ q (hq : q < items.length), q < k → dval (items[q]'hq).1 < dval d) ∧ Below w1.heap.size w1 wr) (fun i _ => items.length - (intOf i).toNat)
  case atStart => exact ⟨0, by omega, rfl, Lib.hid (fun q _ h => by omega), Below.refl _ _⟩
  case round =>
    obtain ⟨k, hk, rfl, hlow, hBr⟩ := hrel
    have HX := Lib.hid (HA1.out.later hBr)
    have HRr := Lib.hid (HR1.out.below hBr)
    have x0 := HX.out.b0
    have x1 := HX.out.b1
    by_cases hlt : k < items.length
    case' pos =>
      obtain ⟨g, o, c3, e3, m1, m2, hra⟩ := HRr.out.itm.at_ HRr.out.wid k hlt
      cases e3
      have x32 := HRr.out.wid _ (List.getElem_mem hlt)
      have LA := Lib.hid (fun w' (hq : ∃ n, w' = wr.drewN n) => (show (Instr.loadAt 63 (.pointer (some ⟨g, o + k * 33, none⟩))).run Tryd.prog w' = .ok (.agg (u8s items[k].1).toArray) w' by obtain ⟨n, rfl⟩ := hq; exact load_digest x32 (range_digest x32 (rangeAt_drewN hra n))))
      have LB := Lib.hid (fun w' (hq : ∃ n, w' = wr.drewN n) => (show (Instr.loadAt 63 (.pointer (some ⟨w.heap.size + 1, 0, none⟩))).run Tryd.prog w' = .ok (.agg (u8s d).toArray) w' by obtain ⟨n, rfl⟩ := hq; exact load_digest hd (rangeAt_drewN HX.out.dg n)))
      have t1 : decide (k < items.length) = true := by simpa using hlt
      have j0 : (0 : Int) ≤ (k : Int) := Int.natCast_nonneg _
      have j1 : (k : Int) < (items.length : Int) := by omega
      have HLT := Lib.hid (fun (h : dval items[k].1 < dval d) q (hq : q < items.length) (hqk : q < k + 1) => (show dval (items[q]'hq).1 < dval d by
        rcases Nat.lt_or_ge q k with h' | h'
        · exact hlow.out q hq h'
        · have : q = k := by omega
          subst this; exact h))
      have HCUT := Lib.hid (fun (h : ¬ dval items[k].1 < dval d) => cutAt_eq hk hlow.out (fun _ => h))
      have KL := Lib.hid (fun nq => less_calls items[k].1 d x32 hd (wr.drewN nq))
      clear hra
      generalize items[k].1 = y at *
      obtain ⟨b, hbq⟩ : ∃ b, decide (dval y < dval d) = b := ⟨_, rfl⟩
      rw [hbq] at KL
      have HBQ := Lib.hid hbq; clear hbq
      go_wp2_with fail
      refine wp_region_quiet_tail 13 (by kernel_rfl) (by kernel_rfl) ?_
      simp only [List.take_succ_cons, List.take_zero, List.drop_succ_cons, List.drop_zero]
      go_big_quiet_step (fail)
      go_big_quiet_step (fail)
      go_big_quiet_step (fail)
      go_big_quiet_step (fail)
      go_big_quiet_step (fail)
      go_big_quiet_step (fail)
      go_big_quiet_step (fail)
      go_big_quiet_step (fail)
      go_big_quiet_step (fail)
      go_big_quiet_step (fail)
      go_big_quiet_step (fail)
      refine wpQuiet_run (by rfl) (.agg (u8s y).toArray) (fun w' hw => run_op_load _ _ rfl _ _ (by rfl) w' (LA.out w' hw)) ?_
      simp only [Act.put, List.setIfInBounds_toArray, List.set_cons_zero, List.set_cons_succ]
      refine wpQuiet_run (by rfl) (.agg (u8s d).toArray) (fun w' hw => run_op_load _ _ rfl _ _ (by rfl) w' (LB.out w' hw)) ?_
      simp only [Act.put, List.setIfInBounds_toArray, List.set_cons_zero, List.set_cons_succ]
      refine wpQuiet_nil ?_
      intro _ hw'; obtain ⟨nq, hw''⟩ := hw'; subst hw''
      have hBn := below_drewN hBr nq
      rcases b with _ | _
      rotate_left
      · go_wp2_with (first | (go_at_call 46; refine (KL.out nq).mono ?_; rintro e w4 ⟨rfl, hB4⟩))
        have hB5 := hBn.trans (hB4.mono hBn.size)
        go_roundw
        case rel => exact ⟨k + 1, by omega, by go_num, Lib.hid (HLT.out (by simpa using HBQ.out)), hB5⟩
        case measure => simp [intOf]; omega
      have hcut := Lib.hid (HCUT.out (by simpa using HBQ.out))
      go_wp2_with (first | (go_at_call 46; refine (KL.out nq).mono ?_; rintro e ww ⟨rfl, hB4⟩))
      have hB5 := hBn.trans (hB4.mono hBn.size)
      clear hB4 hBn LA LB t1 HLT HCUT KL HBQ hlow x32 HX HRr x0 x1 hlt j1
      generalize some (⟨g, o, none⟩ : Addr) = A at *
    case' neg =>
      have hkl : k = items.length := by omega
      have hcut := Lib.hid (cutAt_eq hk hlow.out (fun h => absurd h hlt))
      have t1 : decide (k < items.length) = false := by simpa using hlt
      have j0 : (0 : Int) ≤ (k : Int) := Int.natCast_nonneg _
      clear hkl
      go_wp2_with fail
      go_quiet (fail)
      have hB5 := below_drewN hBr nq
      generalize wr.drewN nq = ww at hB5 ⊢
      clear t1 hlow HX HRr x0 x1 hlt
      go_wp2_with fail
    all_goals
      have HX := Lib.hid (HA1.out.later hB5)
      have HRr := Lib.hid (HR1.out.below hB5)
      clear hBr
      have x0 := HX.out.b0
      have hwi := HRr.out.wid
      have hkc := Nat.le_trans hk a1
      have hrT := HRr.out.itm.takeK hk
      have hwT : Wid (items.take k) := fun x hx => hwi x (List.mem_of_mem_take hx)
      have htl : (items.take k).length = k := by simp; omega
      refine wp_cutR (Reg9 ww (.pointer (some ⟨w.heap.size, 0, none⟩)) (.slice A items.length c) (.int .i64 (k : Int)) (.slice A k c) (.agg (u8s d).toArray) (.int .i64 place) (.agg (itemL (d, place)).toArray) (items.take k ++ [(d, place)])) ?reg ?goon
      case reg =>
        refine wp_region_tree (fun w' => Below ww.heap.size ww w') [1, 2, 3, 4, 6, 7, 8] 5 (by kernel_rfl) (by kernel_rfl) (by kernel_rfl) rfl (fun _ _ _ _ h => absurd h.1 (by simp)) (Below.refl _ _).drew ?_
        simp only [opsL, List.getElem?_cons_zero, List.getElem?_cons_succ, Option.toList_some, List.singleton_append]
        refine takesS_run rfl (.pointer (some ⟨w.heap.size, 0, none⟩)) (fun w' _ => by go_simp) ?_
        simp only [Act.put, List.setIfInBounds_toArray, List.set_cons_zero, List.set_cons_succ]
        refine takesS_run rfl (.slice A items.length c) (fun w' hw => run_op_load _ _ rfl _ _ (by rfl) w' (load_cell under_ritems rfl (cell_below hw x0))) ?_
        simp only [Act.put, List.setIfInBounds_toArray, List.set_cons_zero, List.set_cons_succ]
        refine takesS_run rfl (.int .i64 (k : Int)) (fun w' _ => run_op_move _ rfl _ (by rfl) w') ?_
        simp only [Act.put, List.setIfInBounds_toArray, List.set_cons_zero, List.set_cons_succ]
        refine takesS_run rfl (.slice A k c) (fun w' _ => run_op_sliceH _ _ _ rfl _ _ _ (by rfl) (by rfl) (run_takeK hk a1 w')) ?_
        simp only [Act.put, List.setIfInBounds_toArray, List.set_cons_zero, List.set_cons_succ]
        refine takesS_run rfl (.agg (u8s d).toArray) (fun w' hw => run_op_load _ _ rfl _ _ (by rfl) w' (load_digest hd (rangeAt_below HX.out.dg hw))) ?_
        simp only [Act.put, List.setIfInBounds_toArray, List.set_cons_zero, List.set_cons_succ]
        refine takesS_run rfl (.int .i64 place) (fun w' _ => run_op_move _ rfl _ (by rfl) w') ?_
        simp only [Act.put, List.setIfInBounds_toArray, List.set_cons_zero, List.set_cons_succ]
        refine takesS_run rfl (.agg (itemL (d, place)).toArray) (fun w' _ => run_op_ritem _ _ rfl d hd place (by rfl) (by rfl)) ?_
        simp only [Act.put, List.setIfInBounds_toArray, List.set_cons_zero, List.set_cons_succ]
        simp only [wpTkS]
        have hz0 : Below ww.heap.size ww ww.drew := (Below.refl _ _).drew
        have hzs : ww.drew.heap.size = ww.heap.size := rfl
        generalize ww.drew = u0 at hz0 hzs ⊢
        have hrT0 := hrT.below hz0
        have one : Wid [(d, place)] := fun x hx => by simp at hx; subst hx; exact hd
        have hli := itemL_length (d, place) hd
        refine tree_two (i := 0) (k := 9) (by kernel_rfl) ⟨_, .slice (some ⟨u0.heap.size, 0, none⟩) 0 0, _, rfl, rfl, run_op_none rfl, hz0.alloc hz0.size _, ?_⟩ ⟨_, .slice (some ⟨u0.heap.size, 0, none⟩) 1 1, _, rfl, rfl, run_op_one_ritem _ rfl (itemL (d, place)) (by rfl) hli, hz0.alloc hz0.size _, ?_⟩
        · simp only [Act.put, List.setIfInBounds_toArray, List.set_cons_zero, List.set_cons_succ]
          have hy1 := hz0.alloc hz0.size (.cells #[] 96)
          have ho1 := own_none u0 (B := ww.heap.size) hz0.size
          have hr1 := hrT0.below (below_alloc1 u0 (.cells #[] 96))
          generalize u0.alloc (.cells #[] 96) = u1 at hy1 ho1 hr1 ⊢
          refine tree_two (i := 5) (k := 9) (by kernel_rfl) ?_ ?_
          · obtain ⟨v46, u2, hrun, ho2, hg2⟩ := run_appR (w := u1) 58 _ 0 [] ho1 (.slice A k c) (items.take k) hr1 hwT (by omega) hy1.size
            have hy2 := grown_below hy1 hg2 ho1 hy1.size
            refine ⟨_, v46, u2, rfl, rfl, run_op_append _ _ _ rfl _ _ (by rfl) (by rfl) v46 u2 hrun, hy2, ?_⟩
            simp only [Act.put, List.setIfInBounds_toArray, List.set_cons_zero, List.set_cons_succ]
            refine tree_one (i := 9) (by kernel_rfl) ⟨_, .slice (some ⟨u2.heap.size, 0, none⟩) 1 1, _, rfl, rfl, run_op_one_ritem _ rfl (itemL (d, place)) (by rfl) hli, hy2.alloc hy2.size _, ?_⟩
            simp only [Act.put, List.setIfInBounds_toArray, List.set_cons_zero, List.set_cons_succ]
            have hy3 := hy2.alloc hy2.size (.cells (itemL (d, place)).toArray 96)
            have ho3 := World.ownsRow.alloc ho2 (.cells (itemL (d, place)).toArray 96)
            have hr3 := run_item_new u2 (d, place) 96
            generalize u2.alloc (.cells (itemL (d, place)).toArray 96) = u3 at hy3 ho3 hr3 ⊢
            obtain ⟨v51, u4, hrun4, ho4, hg4⟩ := run_appR (w := u3) 58 _ _ _ ho3 (.slice (some ⟨u2.heap.size, 0, none⟩) 1 1) [(d, place)] hr3 one (by simp only [htl]; simp; omega) hy3.size
            have hy4 := grown_below hy3 hg4 ho3 hy3.size
            refine tree_one (i := 10) (by kernel_rfl) ⟨_, v51, u4, rfl, rfl, run_op_append _ _ _ rfl _ _ (by rfl) (by rfl) v51 u4 hrun4, hy4, ?_⟩
            simp only [Act.put, List.setIfInBounds_toArray, List.set_cons_zero, List.set_cons_succ]
            refine tree_one (i := 11) (by kernel_rfl) ⟨_, v51, _, rfl, rfl, run_op_assign _ rfl _ (by rfl) _, hy4, ?_⟩
            simp only [Act.put, List.setIfInBounds_toArray, List.set_cons_zero, List.set_cons_succ]
            refine ⟨by kernel_rfl, rfl, .slice (some ⟨u0.heap.size, 0, none⟩) 0 0, v46, .slice (some ⟨u2.heap.size, 0, none⟩) 1 1, v51, ?_, ?_, hy4⟩
            · kernel_rfl
            · simp only [List.nil_append, Nat.zero_add] at ho4
              rw [List.length_append, itemsL_append]
              exact ho4
          · refine ⟨_, .slice (some ⟨u1.heap.size, 0, none⟩) 1 1, _, rfl, rfl, run_op_one_ritem _ rfl (itemL (d, place)) (by rfl) hli, hy1.alloc hy1.size _, ?_⟩
            simp only [Act.put, List.setIfInBounds_toArray, List.set_cons_zero, List.set_cons_succ]
            have hy2 := hy1.alloc hy1.size (.cells (itemL (d, place)).toArray 96)
            have ho2 := World.ownsRow.alloc ho1 (.cells (itemL (d, place)).toArray 96)
            have hr2 := hr1.below (below_alloc1 u1 (.cells (itemL (d, place)).toArray 96))
            have hi2 := run_item_new u1 (d, place) 96
            have hs2 : (u1.alloc (.cells (itemL (d, place)).toArray 96)).heap.size = u1.heap.size + 1 := by simp
            have hlo := owns_lt ho1 u0.heap.size rfl
            generalize u1.alloc (.cells (itemL (d, place)).toArray 96) = u2 at hy2 ho2 hr2 hi2 hs2 ⊢
            obtain ⟨v46, u3, hrun, ho3, hg3⟩ := run_appR (w := u2) 58 _ 0 [] ho2 (.slice A k c) (items.take k) hr2 hwT (by omega) hy2.size
            have hy3 := grown_below hy2 hg3 ho2 hy2.size
            have hi3 := hi2.grown hg3 (by simp [Value.ownBlock]; omega) (by omega)
            refine tree_one (i := 5) (by kernel_rfl) ⟨_, v46, u3, rfl, rfl, run_op_append _ _ _ rfl _ _ (by rfl) (by rfl) v46 u3 hrun, hy3, ?_⟩
            simp only [Act.put, List.setIfInBounds_toArray, List.set_cons_zero, List.set_cons_succ]
            obtain ⟨v51, u4, hrun4, ho4, hg4⟩ := run_appR (w := u3) 58 _ _ _ ho3 (.slice (some ⟨u1.heap.size, 0, none⟩) 1 1) [(d, place)] hi3 one (by simp only [htl]; simp; omega) hy3.size
            have hy4 := grown_below hy3 hg4 ho3 hy3.size
            refine tree_one (i := 10) (by kernel_rfl) ⟨_, v51, u4, rfl, rfl, run_op_append _ _ _ rfl _ _ (by rfl) (by rfl) v51 u4 hrun4, hy4, ?_⟩
            simp only [Act.put, List.setIfInBounds_toArray, List.set_cons_zero, List.set_cons_succ]
            refine tree_one (i := 11) (by kernel_rfl) ⟨_, v51, _, rfl, rfl, run_op_assign _ rfl _ (by rfl) _, hy4, ?_⟩
            simp only [Act.put, List.setIfInBounds_toArray, List.set_cons_zero, List.set_cons_succ]
            refine ⟨by kernel_rfl, rfl, .slice (some ⟨u0.heap.size, 0, none⟩) 0 0, v46, .slice (some ⟨u1.heap.size, 0, none⟩) 1 1, v51, ?_, ?_, hy4⟩
            · kernel_rfl
            · simp only [List.nil_append, Nat.zero_add] at ho4
              rw [List.length_append, itemsL_append]
              exact ho4
        · simp only [Act.put, List.setIfInBounds_toArray, List.set_cons_zero, List.set_cons_succ]
          have hy1 := hz0.alloc hz0.size (.cells (itemL (d, place)).toArray 96)
          have hi1 := run_item_new u0 (d, place) 96
          have hr1 := hrT0.below (below_alloc1 u0 (.cells (itemL (d, place)).toArray 96))
          have hs1 : (u0.alloc (.cells (itemL (d, place)).toArray 96)).heap.size = u0.heap.size + 1 := by simp
          generalize u0.alloc (.cells (itemL (d, place)).toArray 96) = u1 at hy1 hi1 hr1 hs1 ⊢
          refine tree_one (i := 0) (by kernel_rfl) ⟨_, .slice (some ⟨u1.heap.size, 0, none⟩) 0 0, _, rfl, rfl, run_op_none rfl, hy1.alloc hy1.size _, ?_⟩
          simp only [Act.put, List.setIfInBounds_toArray, List.set_cons_zero, List.set_cons_succ]
          have hy2 := hy1.alloc hy1.size (.cells #[] 96)
          have ho2 := own_none u1 (B := ww.heap.size) hy1.size
          have hr2 := hr1.below (below_alloc1 u1 (.cells #[] 96))
          have hi2 := hi1.below (below_alloc1 u1 (.cells #[] 96))
          have hs2 : (u1.alloc (.cells #[] 96)).heap.size = u1.heap.size + 1 := by simp
          generalize u1.alloc (.cells #[] 96) = u2 at hy2 ho2 hr2 hi2 hs2 ⊢
          obtain ⟨v46, u3, hrun, ho3, hg3⟩ := run_appR (w := u2) 58 _ 0 [] ho2 (.slice A k c) (items.take k) hr2 hwT (by omega) hy2.size
          have hy3 := grown_below hy2 hg3 ho2 hy2.size
          have hi3 := hi2.grown hg3 (by simp [Value.ownBlock]; omega) (by omega)
          refine tree_one (i := 5) (by kernel_rfl) ⟨_, v46, u3, rfl, rfl, run_op_append _ _ _ rfl _ _ (by rfl) (by rfl) v46 u3 hrun, hy3, ?_⟩
          simp only [Act.put, List.setIfInBounds_toArray, List.set_cons_zero, List.set_cons_succ]
          obtain ⟨v51, u4, hrun4, ho4, hg4⟩ := run_appR (w := u3) 58 _ _ _ ho3 (.slice (some ⟨u0.heap.size, 0, none⟩) 1 1) [(d, place)] hi3 one (by simp only [htl]; simp; omega) hy3.size
          have hy4 := grown_below hy3 hg4 ho3 hy3.size
          refine tree_one (i := 10) (by kernel_rfl) ⟨_, v51, u4, rfl, rfl, run_op_append _ _ _ rfl _ _ (by rfl) (by rfl) v51 u4 hrun4, hy4, ?_⟩
          simp only [Act.put, List.setIfInBounds_toArray, List.set_cons_zero, List.set_cons_succ]
          refine tree_one (i := 11) (by kernel_rfl) ⟨_, v51, _, rfl, rfl, run_op_assign _ rfl _ (by rfl) _, hy4, ?_⟩
          simp only [Act.put, List.setIfInBounds_toArray, List.set_cons_zero, List.set_cons_succ]
          refine ⟨by kernel_rfl, rfl, .slice (some ⟨u1.heap.size, 0, none⟩) 0 0, v46, .slice (some ⟨u0.heap.size, 0, none⟩) 1 1, v51, ?_, ?_, hy4⟩
          · kernel_rfl
          · simp only [List.nil_append, Nat.zero_add] at ho4
            rw [List.length_append, itemsL_append]
            exact ho4
      case goon =>
        rintro a' wa ⟨v41, v46, v50, v51, rfl, hown, hBa⟩
        simp only [Act.put, List.setIfInBounds_toArray, List.set_cons_zero, List.set_cons_succ]
        have one : Wid [(d, place)] := fun x hx => by simp at hx; subst hx; exact hd
        have hown' : wa.ownsRow ww.heap.size 96 33 v51 (k + 1) (itemsL (items.take k ++ [(d, place)])) := by
          have := hown
          rw [List.length_append, htl] at this
          exact this
        obtain ⟨A5, c5, e5, -, -, -⟩ := owns_form hown'
        subst e5
        have HX2 := Lib.hid (HX.out.later hBa)
        have HR2 := Lib.hid (HRr.out.below hBa)
        obtain ⟨A6, c6, hsl, hdr⟩ := run_dropK HR2.out.itm hwi hk
        obtain ⟨v57, wb, hrunb, hob, hgb⟩ := run_appR (w := wa) 58 _ _ _ hown' (.slice A6 (items.length - k) c6) (items.drop k) hdr (fun x hx => hwi x (List.mem_of_mem_drop hx)) (by simp; omega) hBa.size
        have hBb := grown_below hBa hgb hown' hBa.size
        have HNI := Lib.hid (insI_split (x := (d, place)) hcut.out)
        have hob2 : wb.ownsRow ww.heap.size 96 33 v57 (k + 1 + (items.drop k).length) (itemsL ((items.take k ++ [(d, place)]) ++ items.drop k)) := by rw [itemsL_append]; exact hob
        rw [← HNI.out] at hob2
        have hnn : k + 1 + (items.drop k).length = (insI items (d, place)).length := by rw [HNI.out, List.length_append, List.length_append, htl]; rfl
        have hin : (insI items (d, place)).length ≤ 1000000 := by rw [← hnn, List.length_drop]; omega
        have hiw : Wid (insI items (d, place)) := by
          rw [HNI.out]
          exact (hwT.append one).append fun x hx => hwi x (List.mem_of_mem_drop hx)
        obtain ⟨n7, hn7⟩ : ∃ n7, k + 1 + (items.drop k).length = n7 := ⟨_, rfl⟩
        rw [hn7] at hob2 hnn
        obtain ⟨A7, c7, e7, -, -, -⟩ := owns_form hob2
        subst e7
        have HOB := Lib.hid hob2
        have HN7 := Lib.hid hnn
        have HIW := Lib.hid hiw
        have hwsz : w.heap.size + 1 + 1 < ww.heap.size := by have := World.block_lt_of_cell? ww _ HX.out.r0; exact this
        clear hob2 hnn hn7 hiw
        have y0 := HX2.out.b0
        have HX3 := Lib.hid (HX.out.later hBb)
        have HR3 := Lib.hid (HRr.out.below hBb)
        have y1 := cell_below (below_alloc1 wb (.cells #[] 3)) HX3.out.b1
        have hownz : (wb.alloc (.cells #[] 3)).ownsRow wb.heap.size 3 1 (.slice (some ⟨wb.heap.size, 0, none⟩) 0 0) 0 [] := ⟨rfl, .inr ⟨wb.heap.size, 0, #[], rfl, Nat.le_refl _, heap_alloc_new wb _, Nat.le_refl _, by unfold maxLen; omega, rfl, rfl⟩⟩
        have hrowz := HR3.out.runs.below (below_alloc1 wb (.cells #[] 3))
        have hBz := below_alloc1 wb (.cells #[] 3)
        have hnl' : ns.length ≤ 1000000 := by omega
        have hll := natsL_length ns
        have HLL := Lib.hid hll
        have HN1 := Lib.hid (natsL_one ns)
        clear hll hown hown' hob hdr hwi hwT htl hrT x0
        go_wp2_with (first
          | (refine wpList_val rfl _ _ (run_op_sliceL _ _ _ rfl _ _ _ (by rfl) (by rfl) (hsl _)) ?_)
          | (refine wpList_val rfl (.slice A7 n7 c7) wb (run_op_append _ _ _ rfl _ _ (by rfl) (by rfl) (.slice A7 n7 c7) wb hrunb) ?_)
          | (at_builtin; refine wpList_app _ rfl _ _ 42 rfl wb.heap.size 3 (.int .i64 0) 1 8 Tryd.underlying42 info_int rfl (by omega) (by omega) _ rfl 0 [] hownz _ rfl ns.length (natsL ns) hrowz (by have := HLL.out; omega) HN1.out (by omega) hBz.size ?_; intro v61 wc hoc hgc _; have hBc := grown_below hBz hgc hownz hBz.size)
          | (at_builtin; refine app_row rfl _ _ 42 3 rfl Tryd.underlying42 info_int rfl (by omega) wb.heap.size _ rfl _ _ hoc (.int .i64 1) rfl rfl (by omega) hBc.size ?_; intro v63 wd hod hgd _; have hBd := grown_below (hBc.alloc hBc.size _) hgd (World.ownsRow.alloc hoc _) (by simp; exact Nat.le_succ_of_le hBc.size)))
        have hod2 : wd.ownsRow wb.heap.size 3 1 v63 (ns.reverse.length + 1) (natsL (ns.reverse.reverse ++ [1])) := by
          have h := hod
          rw [List.nil_append, Nat.zero_add] at h
          rw [List.reverse_reverse, List.length_reverse]
          have e : natsL (ns ++ [1]) = natsL ns ++ [.int .i64 1] := by simp [natsL]
          rw [e]
          exact h
        have HOD := Lib.hid hod2
        clear hod hgd hod2 hgc hoc hownz hrowz hsl hrunb hgb
        go_loopw [12] (fun v wq => ∃ (rest : List Nat) (m : Nat), wq.ownsRow wb.heap.size 3 1 v (rest.length + 1) (natsL (rest.reverse ++ [m])) ∧ Hid (carryN rest m = carryN ns.reverse 1) ∧ m + rest.sum ≤ 1000000 ∧ rest.length ≤ ns.length ∧ Below wb.heap.size wb wq) (fun v _ => lenV v)
        case atStart => exact ⟨ns.reverse, 1, HOD.out, Lib.hid rfl, by rw [List.sum_reverse]; omega, by simp, hBd⟩
        case round =>
          obtain ⟨rest, m, hown2, HC, hms, hrl, hBq⟩ := hrel
          have HO := Lib.hid hown2
          obtain ⟨A8, c8, rfl, f1, f2, f3⟩ := owns_form hown2
          clear hown2
          have hsz : wb.heap.size ≤ wr.heap.size := hBq.size
          have HG7 := Lib.hid (fun k hk => (show w.heap.size ≤ k from by have := owns_ge HOB.out k hk; omega))
          have HG8 := Lib.hid (fun k hk => (show w.heap.size ≤ k from by have := owns_ge HO.out k hk; have := hBb.size; omega))
          have FIN := Lib.hid (fun (wz : World) (hz : Below wr.heap.size wr wz) (he : carryN rest m = m :: rest) => (show RefV ((wz.setCell ⟨w.heap.size + 1 + 1, 0, none⟩ (.slice A7 n7 c7)).setCell ⟨w.heap.size + 1 + 1, 1, none⟩ (.slice A8 (rest.length + 1) c8)) (.slice A7 n7 c7) (.slice A8 (rest.length + 1) c8) (insI items (d, place)) (addN ns) ∧ AddBox w (.slice A items.length c) (.slice A2 ns.length c2) d wz from by
            have hz2 := hBq.trans (hz.mono hsz)
            have hXz := HX3.out.later hz2
            have ha : addN ns = rest.reverse ++ [m] := by unfold addN; rw [← HC.out, he]; simp
            refine ⟨?_, hXz⟩
            rw [ha]
            exact radd_end hXz hwsz hz2 hBb.size HOB.out HN7.out HIW.out hin (owns_below HO.out hz) (by simp) (by simp; omega)))
          cases rest with
          | nil =>
            obtain ⟨n8, hn8⟩ : ∃ n8, ([] : List Nat).length + 1 = n8 := ⟨_, rfl⟩
            rw [hn8] at HO f1 f3 FIN HG8
            rw [hn8]
            have hn81 : n8 = 1 := hn8.symm
            have t1 : decide (1 < n8) = false := by simp; omega
            have t1' : decide ((1 : Int) < (n8 : Int)) = false := by simp; omega
            clear hn8 hn81
            go_wp2_with fail
            go_quiet (fail)
            have hBn := below_drewN (Below.refl wr.heap.size wr) nq
            obtain ⟨hfv, hXf⟩ := FIN.out _ hBn rfl
            have HFV := Lib.hid hfv
            obtain ⟨z0, z1, zb⟩ := hXf.put (.slice A7 n7 c7) (.slice A8 n8 c8)
            have r0 := hXf.r0
            have r1 := hXf.r1
            have f0 := hXf.f0
            have f1' := hXf.f1
            clear FIN hfv hXf t1 t1'
            generalize wr.drewN nq = wz at *
            go_wp2_with fail
            exact bodyPost_ret (v := .tuple #[.agg #[.slice A7 n7 c7, .slice A8 n8 c8], .int .i64 0]) (by simp [results, Tryd.results28, go_sem, z0, z1]) rfl ⟨_, _, rfl, HFV.out, HG7.out, HG8.out, zb⟩
          | cons r rr =>
            have hrow := Row.of_owns HO.out
            have hg1 : (natsL ((r :: rr).reverse ++ [m]))[rr.length + 1]? = some (.int .i64 (m : Int)) := by
              rw [natsL_get _ _ (by simp)]
              congr 2
              simp
            have hg0 : (natsL ((r :: rr).reverse ++ [m]))[rr.length]? = some (.int .i64 (r : Int)) := by
              rw [natsL_get _ _ (by simp)]
              congr 2
              simp
            obtain ⟨gA, eA⟩ := owns_addr HO.out (by simp)
            subst eA
            obtain ⟨ad, hA8, q1⟩ := hrow.at_ (rr.length + 1) hg1
            cases hA8
            obtain ⟨ad', e', q0⟩ := hrow.at_ rr.length hg0
            cases e'
            rw [add_plain] at q0 q1
            have hrsum : r ≤ 1000000 := by simp only [List.sum_cons] at hms; omega
            have hmle : m ≤ 1000000 := by omega
            have htake := owns_take HO.out (m := rr.length) (by simp; omega) (by simp)
            have htk : (natsL ((r :: rr).reverse ++ [m])).take rr.length = natsL rr.reverse := by
              rw [List.reverse_cons, List.append_assoc]
              have e : natsL (rr.reverse ++ ([r] ++ [m])) = natsL rr.reverse ++ natsL ([r] ++ [m]) := by simp [natsL]
              rw [e, List.take_append_of_le_length (by simp [natsL]), List.take_of_length_le (by simp [natsL])]
            rw [htk] at htake
            obtain ⟨n8, hn8⟩ : ∃ n8, (r :: rr).length + 1 = n8 := ⟨_, rfl⟩
            obtain ⟨p1, hp1⟩ : ∃ p1, rr.length + 1 = p1 := ⟨_, rfl⟩
            obtain ⟨p0, hp0⟩ : ∃ p0, rr.length = p0 := ⟨_, rfl⟩
            have hn8' : n8 = p0 + 2 := by rw [← hn8, ← hp0]; rfl
            have hp1' : p1 = p0 + 1 := by omega
            rw [hn8] at HO f1 f3
            rw [hn8] at FIN HG8
            rw [hn8]
            rw [hp1] at q1
            rw [hp0] at q0 htake
            have HTK := Lib.hid htake
            have w1' : IntKind.i64.wrap ((n8 : Int) - 1) = (p1 : Int) := by rw [IntKind.wrap_i64]; omega
            have w2' : IntKind.i64.wrap ((n8 : Int) - 2) = (p0 : Int) := by rw [IntKind.wrap_i64]; omega
            have w3' : IntKind.i64.wrap (2 * (m : Int)) = ((2 * m : Nat) : Int) := by rw [IntKind.wrap_i64]; omega
            have b0 : (0 : Int) ≤ (p0 : Int) := by omega
            have b1 : (0 : Int) ≤ (p1 : Int) := by omega
            have b2 : (p0 : Int) < (n8 : Int) := by omega
            have b3 : (p1 : Int) < (n8 : Int) := by omega
            have b4 : p0 ≤ c8 := by omega
            have b5 : p0 ≤ n8 := by omega
            have t1 : decide (1 < n8) = true := by simp; omega
            have t1' : decide ((1 : Int) < (n8 : Int)) = true := by simp; omega
            have HP := Lib.hid (And.intro hn8' (And.intro hp1' hp0))
            have hp0b : p0 ≤ 1000000 := by simp only [List.length_cons] at hrl; omega
            have HRL := Lib.hid hrl
            have HMS := Lib.hid hms
            clear hn8 hn8' hp1 hp1' hp0 hg1 hg0 htk hrow htake
            by_cases hmr : m = r
            · have t2 : ((m : Int) == (r : Int)) = true := by simp [hmr]
              have HMR := Lib.hid hmr
              clear hmr
              go_wp2_with fail
              go_quiet (fail)
              have hBn := below_drewN (Below.refl wr.heap.size wr) nq
              have HTn := Lib.hid (owns_below HTK.out hBn)
              have HQn := Lib.hid (below_drewN hBq nq)
              have q1n := cell_below hBn q1
              generalize wr.drewN nq = wz at *
              clear q1 q0 t1 t1' t2 FIN
              go_wp2_with fail
              refine wp_region_noPanic ?_
              refine wp_region_takes [0, 1, 2, 3, 4, 5, 6, 7, 8, 9] [10, 11, 12, 13, 14] (by kernel_rfl) (by kernel_rfl) (by kernel_rfl) rfl (fun _ _ _ _ h => h) ?_
              simp only [opsL, List.getElem?_cons_zero, List.getElem?_cons_succ, Option.toList_some, List.singleton_append]
              refine takes_run rfl (.slice (some ⟨gA, 0, none⟩) n8 c8) (fun w' => run_op_move _ rfl _ (by rfl) w') ?_
              simp only [Act.put, List.setIfInBounds_toArray, List.set_cons_zero, List.set_cons_succ]
              refine takes_run rfl (.slice (some ⟨gA, 0, none⟩) n8 c8) (fun w' => run_op_move _ rfl _ (by rfl) w') ?_
              simp only [Act.put, List.setIfInBounds_toArray, List.set_cons_zero, List.set_cons_succ]
              refine takes_run rfl (.int .i64 (n8 : Int)) (fun w' => by go_simp) ?_
              simp only [Act.put, List.setIfInBounds_toArray, List.set_cons_zero, List.set_cons_succ]
              refine takes_run rfl (.int .i64 (p0 : Int)) (fun w' => by go_simp) ?_
              simp only [Act.put, List.setIfInBounds_toArray, List.set_cons_zero, List.set_cons_succ]
              refine takes_run rfl (.slice (some ⟨gA, 0, none⟩) p0 c8) (fun w' => run_op_sliceH _ _ _ rfl _ _ _ (by rfl) (by rfl) (run_takeInt b5 f1 w')) ?_
              simp only [Act.put, List.setIfInBounds_toArray, List.set_cons_zero, List.set_cons_succ]
              refine takes_run rfl (.slice (some ⟨gA, 0, none⟩) n8 c8) (fun w' => run_op_move _ rfl _ (by rfl) w') ?_
              simp only [Act.put, List.setIfInBounds_toArray, List.set_cons_zero, List.set_cons_succ]
              refine takes_run rfl (.slice (some ⟨gA, 0, none⟩) n8 c8) (fun w' => run_op_move _ rfl _ (by rfl) w') ?_
              simp only [Act.put, List.setIfInBounds_toArray, List.set_cons_zero, List.set_cons_succ]
              refine takes_run rfl (.int .i64 (n8 : Int)) (fun w' => by go_simp) ?_
              simp only [Act.put, List.setIfInBounds_toArray, List.set_cons_zero, List.set_cons_succ]
              refine takes_run rfl (.int .i64 (p1 : Int)) (fun w' => by go_simp) ?_
              simp only [Act.put, List.setIfInBounds_toArray, List.set_cons_zero, List.set_cons_succ]
              refine takes_run rfl (.pointer (some ⟨gA, p1, none⟩)) (fun w' => by go_simp) ?_
              simp only [Act.put, List.setIfInBounds_toArray, List.set_cons_zero, List.set_cons_succ]
              have hz0 : Below wz.heap.size wz wz.drew := (Below.refl _ _).drew
              have q1d := cell_below hz0 q1n
              have HTd := Lib.hid (owns_below HTn.out hz0)
              have HQd := Lib.hid (HQn.out.trans (hz0.mono HQn.out.size))
              have hbd : wb.heap.size ≤ wz.drew.heap.size := HQd.out.size
              clear hz0 q1n
              generalize wz.drew = u0 at q1d HTd HQd hbd ⊢
              simp only [wpTk]
              go_wp2_with (first | (at_builtin; refine app_row rfl _ _ 42 3 rfl Tryd.underlying42 info_int rfl (by omega) wb.heap.size (.slice (some ⟨gA, 0, none⟩) p0 c8) rfl p0 (natsL rr.reverse) HTd.out (.int .i64 ((2 * m : Nat) : Int)) rfl rfl (by omega) hbd ?_; intro v95 u2 ho2 hg2 _; have hy2 := grown_below (HQd.out.alloc hbd _) hg2 (World.ownsRow.alloc HTd.out _) (by simp; omega); obtain ⟨A9, c9, e9, -, -, -⟩ := owns_form ho2; subst e9))
              refine NoPanic.normal ?_
              have HO2 := Lib.hid ho2
              clear ho2 hg2 q1d
              go_wp2_with fail
              go_roundw
              case rel =>
                refine ⟨rr, 2 * m, ?_, Lib.hid ?_, ?_, ?_, hy2⟩
                · have h := HO2.out
                  rw [HP.out.2.2]
                  have e : natsL (rr.reverse ++ [2 * m]) = natsL rr.reverse ++ [.int .i64 ((2 * m : Nat) : Int)] := by simp [natsL]
                  rw [e]
                  exact h
                · have h := HC.out
                  rw [carryN_go HMR.out.symm] at h
                  exact h
                · have h := HMS.out
                  have := HMR.out
                  simp only [List.sum_cons] at h
                  omega
                · have h := HRL.out
                  simp only [List.length_cons] at h
                  omega
              case measure => have := HP.out; simp [lenV]; omega
            · have t2 : ((m : Int) == (r : Int)) = false := by simp; omega
              have he : carryN (r :: rr) m = m :: r :: rr := by unfold carryN; rw [if_neg (by omega)]
              have HE := Lib.hid he
              clear hmr he
              go_wp2_with fail
              go_quiet (fail)
              have hBn := below_drewN (Below.refl wr.heap.size wr) nq
              obtain ⟨hfv, hXf⟩ := FIN.out _ hBn HE.out
              have HFV := Lib.hid hfv
              obtain ⟨z0, z1, zb⟩ := hXf.put (.slice A7 n7 c7) (.slice (some ⟨gA, 0, none⟩) n8 c8)
              have r0 := hXf.r0
              have r1 := hXf.r1
              have f0 := hXf.f0
              have f1' := hXf.f1
              clear FIN hfv hXf t1 t1' t2 w1' w2' w3' q0 q1
              generalize wr.drewN nq = wz at *
              go_wp2_with fail
              exact bodyPost_ret (v := .tuple #[.agg #[.slice A7 n7 c7, .slice (some ⟨gA, 0, none⟩) n8 c8], .int .i64 0]) (by simp [results, Tryd.results28, go_sem, z0, z1]) rfl ⟨_, _, rfl, HFV.out, HG7.out, HG8.out, zb⟩
end Go.Proofs.YthgjecofmnomfaaDoor
