/- WALKS of package digests: merged. No statement of the seed is proved here. -/
import Derived.Test.YthgjecofmnomfaaDoorDigA
import Derived.Test.YthgjecofmnomfaaDoorLists
import Derived.Test.YthgjecofmnomfaaDoorTakes
import Derived.Deep.RegionHeld3
import Derived.Deep.AppendLies
import Derived.Great.BuildSlice
namespace Go.Proofs.YthgjecofmnomfaaDoor
open Go.RowKit
set_option maxRecDepth 100000

/-- The cells of a run. -/
def itemsL (l : List Item) : List Value := l.flatMap itemL
def Wid (l : List Item) : Prop := ∀ x ∈ l, x.1.length = 32
theorem Wid.tail {x : Item} {l : List Item} (h : Wid (x :: l)) : Wid l := fun y hy => h y (by simp [hy])
theorem Wid.head {x : Item} {l : List Item} (h : Wid (x :: l)) : x.1.length = 32 := h x (by simp)
theorem Wid.append {l m : List Item} (h : Wid l) (k : Wid m) : Wid (l ++ m) := fun y hy => (List.mem_append.1 hy).elim (h y) (k y)
theorem itemsL_length : ∀ (l : List Item), Wid l → (itemsL l).length = l.length * 33
  | [], _ => rfl
  | x :: l, h => by
    have := itemsL_length l h.tail
    unfold itemsL at *
    rw [List.flatMap_cons, List.length_append, this, itemL_length x h.head, List.length_cons]
    omega
theorem itemsL_append (l m : List Item) : itemsL (l ++ m) = itemsL l ++ itemsL m := by simp [itemsL]
theorem itemsL_one (x : Item) : itemsL [x] = itemL x := by simp [itemsL]
theorem itemL_one (x : Item) : ∀ u ∈ itemL x, u.oneCell' = true := fun u hu => by
  unfold itemL u8s at hu
  rcases List.mem_append.1 hu with hu | hu
  · obtain ⟨y, _, rfl⟩ := List.mem_map.1 hu; rfl
  · simp at hu; subst hu; rfl
theorem itemsL_cells (l : List Item) : ∀ u ∈ itemsL l, u.oneCell' = true := fun u hu => by
  obtain ⟨x, _, hx⟩ := List.mem_flatMap.1 hu
  exact itemL_one x u hx
theorem info_item : (Tryd.prog.info? 90).map (fun i => (i.zero.map (·.cells.size), i.size, i.bytes)) = some (some 33, 33, 40) := by kernel_rfl
theorem size_item : (Tryd.prog.info? 90).map (·.size) = some 33 := by kernel_rfl
/-- A run: a slice that reads as the items. -/
def RunV (w : World) (v : Value) (xs : List Item) : Prop :=
  ∃ A c, v = .slice A xs.length c ∧ xs.length ≤ c ∧ c ≤ maxLen ∧ (A = none → c = 0) ∧ ∀ ad, A = some ad → ad.spot = none ∧ w.rangeAt ad.block ad.off (itemsL xs)
theorem rangeAt_below {w w1 : World} {b o : Nat} {cs : List Value} (h : w.rangeAt b o cs) (hb : Below w.heap.size w w1) : w1.rangeAt b o cs := fun j v hv => cell_below hb (h j v hv)
theorem RunV.below {w w1 : World} {v : Value} {xs : List Item} (h : RunV w v xs) (hb : Below w.heap.size w w1) : RunV w1 v xs :=
  let ⟨A, c, e, h1, h2, h3, h4⟩ := h
  ⟨A, c, e, h1, h2, h3, fun ad ha => ⟨(h4 ad ha).1, rangeAt_below (h4 ad ha).2 hb⟩⟩
theorem RunV.nil (w : World) : RunV w (.slice none 0 0) [] := ⟨none, 0, rfl, Nat.le_refl _, by unfold maxLen; omega, fun _ => rfl, fun _ h => (by cases h)⟩
theorem RunV.of_owns {w : World} {B : Nat} {e : TypeId} {v : Value} {xs : List Item} (h : w.ownsRow B e 33 v xs.length (itemsL xs)) : RunV w v xs := by
  have hr := Row.of_owns h
  rcases h with ⟨hl, ⟨rfl, hn⟩ | ⟨g, cap, cur, rfl, hb, hg, hn, hm, hs, ht⟩⟩
  · have : xs = [] := List.eq_nil_of_length_eq_zero (by simpa using hn)
    subst this
    exact RunV.nil w
  · refine ⟨some ⟨g, 0, none⟩, cap, rfl, hn, hm, fun h => (by cases h), fun ad ha => ?_⟩
    cases ha
    refine ⟨rfl, fun j u hu => ?_⟩
    obtain ⟨ad, ha, hc⟩ := hr.at_ j hu
    cases ha
    rw [Addr.add_mid] at hc
    exact hc
def tailA (g o c : Nat) : Addr := if c = 1 then ⟨g, o, none⟩ else ⟨g, o + 33, none⟩
/-- The first item and the rest. -/
theorem RunV.split {w : World} {v : Value} {x : Item} {xs : List Item} (h : RunV w v (x :: xs)) (hw : Wid (x :: xs)) :
    ∃ g o c, v = .slice (some ⟨g, o, none⟩) (xs.length + 1) c ∧ xs.length + 1 ≤ c ∧ c ≤ 9223372036854775807 ∧ w.rangeAt g o (itemL x) ∧ RunV w (.slice (some (tailA g o c)) xs.length (c - 1)) xs := by
  obtain ⟨A, c, rfl, h1, h2, h3, h4⟩ := h
  simp only [List.length_cons] at h1
  cases A with
  | none => have := h3 rfl; omega
  | some ad =>
    obtain ⟨g, o, sp⟩ := ad
    obtain ⟨hsp, hr⟩ := h4 _ rfl
    simp only at hsp hr
    subst hsp
    have hx := itemL_length x hw.head
    have hsplit : itemsL (x :: xs) = itemL x ++ itemsL xs := rfl
    refine ⟨g, o, c, rfl, h1, h2, fun j u hu => hr j u ?_, _, c - 1, rfl, by omega, by omega, fun h => (by cases h), fun ad ha => ?_⟩
    · rw [hsplit, List.getElem?_append_left (List.getElem?_eq_some_iff.1 hu).1]; exact hu
    · cases ha
      unfold tailA
      by_cases hc : c = 1
      · have : xs = [] := List.eq_nil_of_length_eq_zero (by omega)
        subst this
        rw [if_pos hc]
        exact ⟨rfl, fun j u hu => (by simp [itemsL] at hu)⟩
      · rw [if_neg hc]
        refine ⟨rfl, fun j u hu => ?_⟩
        have := hr (33 + j) u (by rw [hsplit, List.getElem?_append_right (by omega), hx, Nat.add_sub_cancel_left]; exact hu)
        simpa [Nat.add_assoc] using this
theorem run_tail (g o n c : Nat) (w : World) : (Instr.sliceAt 91 (.slice (some ⟨g, o, none⟩) (n + 1) c) (some (.int .i64 1)) none none).run Tryd.prog w = .ok (.slice (some (tailA g o c)) n (c - 1)) w := by
  have he : Tryd.prog.elem 91 = 90 := by kernel_rfl
  have hu : Tryd.prog.underlying 91 = some (.slice (Tryd.prog.elem 91)) := by kernel_rfl
  obtain ⟨i, hi, hs⟩ := Option.map_eq_some_iff.1 size_item
  rw [run_sliceAt_slice _ _ _ _ _ _ hu, run_slice_l (ht := hu) (h0 := by omega) (h1 := by omega), he]
  have hz : (sizeOf 90).run Tryd.prog w = .ok 33 w := by rw [run_sizeOf _ hi]; simp [Program.cellsOf, hi, hs]
  rw [hz]
  simp only [Result.andThen]
  unfold sliced tailA
  have e1 : (1 : Int).toNat = 1 := rfl
  rw [e1, Nat.add_sub_cancel, Nat.one_mul]
  by_cases hc : c = 1
  · rw [if_pos hc, if_pos hc]
  · rw [if_neg hc, if_neg hc]
    simp [Addr.add_mid]
theorem run_app_nil {w : World} {B : Nat} (ty : TypeId) (v : Value) (n : Nat) (xs : List Value) (hown : w.ownsRow B 90 33 v n xs) (c : Nat) :
    (Builtin.append_ #[91, 91] ty #[v, .slice none 0 c]).run Tryd.prog w = .ok v w := by
  have ht : Tryd.prog.underlying 91 = some (.slice 90) := by kernel_rfl
  obtain ⟨i, hi, hs⟩ := Option.map_eq_some_iff.1 size_item
  rcases hown.2 with ⟨rfl, rfl⟩ | ⟨g, cap, cur, rfl, _, _, hnc, _⟩
  · simp [Builtin.append_, run_underlying ht, sizeOf, typeInfo, hi, Builtin.lenOf, Builtin.firstCells]
  · simp [Builtin.append_, run_underlying ht, sizeOf, typeInfo, hi, Builtin.lenOf, Builtin.firstCells, hnc, storeCells]
theorem run_appI {w : World} {B : Nat} (ty : TypeId) (v : Value) (n : Nat) (xs : List Value) (hown : w.ownsRow B 90 33 v n xs) (u : Value) (ys : List Item) (hu : RunV w u ys) (wy : Wid ys) (hn : n + ys.length ≤ 4000000) (hB : B ≤ w.heap.size) :
    ∃ v' w', (Builtin.append_ #[91, 91] ty #[v, u]).run Tryd.prog w = .ok v' w' ∧ w'.ownsRow B 90 33 v' (n + ys.length) (xs ++ itemsL ys) ∧ w.grownBy w' v.ownBlock ∧ (v'.ownBlock = v.ownBlock ∨ v'.ownBlock = some w.heap.size) := by
  have ht : Tryd.prog.underlying 91 = some (.slice 90) := by kernel_rfl
  obtain ⟨i, hi, hq⟩ := Option.map_eq_some_iff.1 info_item
  simp only [Prod.mk.injEq] at hq
  obtain ⟨q1, q2, q3⟩ := hq
  obtain ⟨z, hz, hzs⟩ := Option.map_eq_some_iff.1 q1
  obtain ⟨A, c, rfl, h1, h2, h3, h4⟩ := hu
  cases A with
  | none =>
    have : ys = [] := List.eq_nil_of_length_eq_zero (by have := h3 rfl; omega)
    subst this
    refine ⟨v, w, run_app_nil ty v n xs hown c, by simpa [itemsL] using hown, ⟨rfl, rfl, rfl, Nat.le_refl _, fun _ _ _ => rfl⟩, .inl rfl⟩
  | some ad =>
    obtain ⟨g, o, sp⟩ := ad
    obtain ⟨hsp, hr⟩ := h4 _ rfl
    simp only at hsp hr
    subst hsp
    obtain ⟨v', w', e1, e2, e3, _, e5⟩ := run_append_own_at (P := Tryd.prog) w B 91 ty 90 i z 33 40 ht hi hz q2 q3 hzs (by omega) v n xs hown ⟨g, o, none⟩ ys.length c (itemsL ys) (itemsL_length ys wy) (fun j u hu => by rw [Addr.add_mid]; exact hr j u hu) (itemsL_cells ys) (by unfold maxLen; omega) (by omega) hB
    exact ⟨v', w', e1, e2, e3, e5⟩
theorem app_items {w : World} {ops : Array Oper} {rest : List Oper} {o : Oper} {a : Act} {Q : Exit → Act → World → Prop} (hgd : o.guard = none) (s x : Operand)
    (ho : o.op = .call { callee := .builtin .append, args := #[s, x], argTypes := #[91, 91] }) (B : Nat) (v : Value) (hs : a.eval s = v) (n : Nat) (xs : List Value) (hown : w.ownsRow B 90 33 v n xs)
    (u : Value) (ys : List Item) (hu : RunV w u ys) (wy : Wid ys) (hx : a.eval x = u) (hn : n + ys.length ≤ 4000000) (hB : B ≤ w.heap.size)
    (h : ∀ v' w', w'.ownsRow B 90 33 v' (n + ys.length) (xs ++ itemsL ys) → w.grownBy w' v.ownBlock → (v'.ownBlock = v.ownBlock ∨ v'.ownBlock = some w.heap.size) → wpList Tryd.prog ops Q rest (a.put o.dst v') w') : wpList Tryd.prog ops Q (o :: rest) a w := by
  refine wpList_plain hgd fun K hK => ?_
  obtain ⟨v', w', hr, h2, h3, h4⟩ := run_appI (w := w) o.type v n xs hown u ys hu wy hn hB
  unfold Oper.wp execOp
  simp only [ho, resolve, invoke, builtin, Sem.run_bind, Sem.run_pure, Result.andThen_ok, List.map_toArray, List.map_cons, List.map_nil, hs, hx, hr]
  exact hK _ _ (h v' w' h2 h3 h4)
theorem grown_below {w w1 w2 : World} {B n : Nat} {e : TypeId} {size : Nat} {v : Value} {xs : List Value} (h : Below B w w1) (hg : w1.grownBy w2 v.ownBlock) (ho : w1.ownsRow B e size v n xs) (hB : B ≤ w1.heap.size) : Below B w w2 := by
  refine ⟨hg.os.trans h.os, hg.tape.trans h.tape, hg.output.trans h.output, Nat.le_trans h.size hg.size, fun k hk => ?_⟩
  rw [hg.block k (Nat.lt_of_lt_of_le hk hB) (fun e => by have := owns_ge ho k e.symm; omega), h.block k hk]
/-- The load of an item, as the walk spells it. -/
theorem load_item {w : World} {g o : Nat} {cs : List Value} (h : w.rangeAt g o cs) (hi : (Tryd.prog.info? 90).map (·.size) = some cs.length) : (Instr.loadAt 90 (.pointer (some ⟨g, o, none⟩))).run Tryd.prog w = .ok (.agg cs.toArray) w :=
  run_loadAt_mid w g o 90 cs _ h Tryd.underlying90 rfl hi
theorem load_itemV {w : World} {g o : Nat} {cs : List Value} (h : w.rangeAt g o cs) (hi : (Tryd.prog.info? 90).map (·.size) = some cs.length) : (loadVar 90 ⟨g, o, none⟩).run Tryd.prog w = .ok (.agg cs.toArray) w :=
  run_loadVar_mid w g o 90 cs _ h Tryd.underlying90 rfl hi
theorem wpQuiet_load {P : Program} {ops : Array Oper} {C : World → Prop} {Q : Act → Prop} {o : Oper} {rest : List Oper} {a : Act} (hgd : o.guard = none) (ty : TypeId) (x : Operand) (ho : o.op = .load ty x) (p v : Value) (hx : a.eval x = p)
    (hr : ∀ w, C w → (Instr.loadAt ty p).run P w = .ok v w) (h : wpQuiet P ops C Q rest (a.put o.dst v)) : wpQuiet P ops C Q (o :: rest) a :=
  wpQuiet_step fun K hK => by
    have hw : Region.wanted o (yielded ops a.tmps) = true := by simp [Region.wanted, hgd]
    rw [if_pos hw]
    refine ⟨v, fun w hw => ?_, hK _ h⟩
    unfold Oper.quietAt execOp
    simp only [ho, hx, Sem.run_bind, Sem.run_pure, hr w hw, Result.andThen_ok]
    exact ⟨rfl, rfl⟩
theorem rangeAt_drewN {w : World} {g o : Nat} {cs : List Value} (h : w.rangeAt g o cs) (n : Nat) : (w.drewN n).rangeAt g o cs := rangeAt_below h (below_drewN (Below.refl _ _) n)
theorem wpList_one_item {ops : Array Oper} {rest : List Oper} {o : Oper} {a : Act} {w : World} {Q : Exit → Act → World → Prop} (hg : o.guard = none) (x : Operand) (ho : o.op = .buildSlice 91 1 #[(0, x)]) (cs : List Value) (hx : a.eval x = .agg cs.toArray) (hl : cs.length = 33)
    (h : wpList Tryd.prog ops Q rest (a.put o.dst (.slice (some ⟨w.heap.size, 0, none⟩) 1 1)) (w.alloc (.cells cs.toArray 90))) : wpList Tryd.prog ops Q (o :: rest) a w := by
  obtain ⟨i, hi, hq⟩ := Option.map_eq_some_iff.1 info_item
  simp only [Prod.mk.injEq] at hq
  obtain ⟨q1, q2, q3⟩ := hq
  obtain ⟨z, hz, hzs⟩ := Option.map_eq_some_iff.1 q1
  refine wpList_buildSlice hg 91 90 1 _ ho cs.toArray i z (by kernel_rfl) hi hz (by rw [q2]; omega) (by rw [q2]; omega) ?_ h
  have := Great.fill_whole (s := 33) (by omega) [.agg cs.toArray] ((Array.range (1 * 33)).map (z.cells[· % z.cells.size]!)) (by simp [Value.cells, hl]) (by simp)
  rw [q2]
  simpa [hx, Value.cells] using this
theorem takes_run {P : Program} {ops : Array Oper} {K : Act → Prop} {o : Oper} {rest : List Oper} {a : Act} (hgd : o.guard = none) (v : Value) (hr : ∀ w, (execOp a.eval o).run P w = .ok (.value v) w) (h : wpTk P ops K rest (a.put o.dst v)) : wpTk P ops K (o :: rest) a :=
  ⟨v, .inl ⟨by simp [Region.wanted, hgd], fun w _ => hr w⟩, h⟩
theorem takes_move {P : Program} {ops : Array Oper} {K : Act → Prop} {o : Oper} {rest : List Oper} {a : Act} (hgd : o.guard = none) (x : Operand) (ho : o.op = .move x) (v : Value) (hx : a.eval x = v) (h : wpTk P ops K rest (a.put o.dst v)) : wpTk P ops K (o :: rest) a :=
  takes_run hgd v (fun w => by unfold execOp; simp only [ho, hx, Sem.run_pure]) h
theorem takes_slice {P : Program} {ops : Array Oper} {K : Act → Prop} {o : Oper} {rest : List Oper} {a : Act} (hgd : o.guard = none) (t : TypeId) (x y : Operand) (ho : o.op = .slice t x (some y) none none) (u v i : Value) (hx : a.eval x = u) (hy : a.eval y = i)
    (hr : ∀ w, (Instr.sliceAt t u (some i) none none).run P w = .ok v w) (h : wpTk P ops K rest (a.put o.dst v)) : wpTk P ops K (o :: rest) a :=
  takes_run hgd v (fun w => by unfold execOp; simp only [ho, hx, hy, Sem.run_bind, Sem.run_pure, Option.map_some, Option.map_none, hr, Result.andThen_ok]) h
theorem run_one (w : World) (y : Item) {cy : List Value} (hY : itemL y = cy) : RunV (w.alloc (.cells cy.toArray 90)) (.slice (some ⟨w.heap.size, 0, none⟩) 1 1) [y] := by
  subst hY
  refine ⟨_, 1, rfl, Nat.le_refl _, by unfold maxLen; omega, fun h => (by cases h), fun ad ha => ?_⟩
  cases ha
  refine ⟨rfl, fun j u hu => ?_⟩
  rw [itemsL_one] at hu
  rw [Nat.zero_add, cell_of_row _ w.heap.size j _ _ (0, 0) (heap_alloc_new w _)]
  simpa using hu
theorem merge_left {pre xs ys : List Item} {x y : Item} {m : List Item} (h : m = pre ++ (x :: xs).merge (y :: ys) leI) (hlt : dval y.1 < dval x.1) : m = (pre ++ [y]) ++ (x :: xs).merge ys leI := by
  rw [h, List.cons_merge_cons, if_neg (by simp [leI]; omega)]
  simp
theorem merge_right {pre xs ys : List Item} {x y : Item} {m : List Item} (h : m = pre ++ (x :: xs).merge (y :: ys) leI) (hlt : ¬ dval y.1 < dval x.1) : m = (pre ++ [x]) ++ xs.merge (y :: ys) leI := by
  rw [h, List.cons_merge_cons, if_pos (by simp [leI]; omega)]
  simp
def lenV : Value → Nat | .slice _ n _ => n | _ => 0
theorem merged_calls (va vb : Value) (xa xb : List Item) (w : World) (ha : RunV w va xa) (hb : RunV w vb xb) (wa : Wid xa) (wb : Wid xb) (hn : xa.length + xb.length ≤ 2000000) :
    Calls Tryd.prog 43 #[va, vb, .func (.func 44) #[] #[]] w fun e w' => ∃ v, e = .returned v ∧ w'.ownsRow w.heap.size 90 33 v (xa.length + xb.length) (itemsL (xa.merge xb leI)) ∧ Below w.heap.size w w' := by
  have ha0 := Lib.hid ha
  have hb0 := Lib.hid hb
  obtain ⟨A, ca, rfl, a1, a2, -, -⟩ := ha
  obtain ⟨C, cb, rfl, b1, b2, -, -⟩ := hb
  obtain ⟨i0, hi0, hq⟩ := Option.map_eq_some_iff.1 info_item
  simp only [Prod.mk.injEq] at hq
  obtain ⟨q1, q2, q3⟩ := hq
  obtain ⟨z0, hz0, -⟩ := Option.map_eq_some_iff.1 q1
  have hub : Tryd.prog.underlying 91 = some (.slice 90) := by kernel_rfl
  have HI := Lib.hid (And.intro hi0 (And.intro hz0 (And.intro q2 q3)))
  clear hi0 hz0 q2 q3 q1
  have HM : Hid (xa.merge xb leI = [] ++ xa.merge xb leI) := Lib.hid rfl
  go_enter Tryd.func43, Tryd.ntmps43
  go_wp2_with (at_make; refine wpList_make_own _ rfl _ _ 91 rfl w.heap.size 90 i0 z0 33 hub HI.out.1 HI.out.2.1 HI.out.2.2.1 .i64 .i64 _ (xa.length + xb.length) rfl rfl (by omega) (by rw [HI.out.2.2.2]; omega) (by unfold maxLen; omega) (Nat.le_refl _) ?_; intro w1 hown1 hg1)
  have hB1 : Below w.heap.size w w1 := ⟨hg1.os, hg1.tape, hg1.output, hg1.size, fun k hk => hg1.block k hk (by simp)⟩
  go_loopw [0, 1, 7] (fun ta tb to wr => ∃ (ya yb pre : List Item), xa.merge xb leI = pre ++ ya.merge yb leI ∧ RunV w ta ya ∧ RunV w tb yb ∧ Wid ya ∧ Wid yb ∧ pre.length + ya.length + yb.length = xa.length + xb.length ∧ wr.ownsRow w.heap.size 90 33 to pre.length (itemsL pre) ∧ Below w.heap.size w wr) (fun ta tb _ _ => lenV ta + lenV tb)
  case atStart => exact ⟨xa, xb, [], rfl, ha0.out, hb0.out, wa, wb, by simp, hown1, hB1⟩
  case round =>
    obtain ⟨ya, yb, pre, hm, hya, hyb, wya, wyb, hlen, hown, hB⟩ := hrel
    have HMR := Lib.hid hm; clear hm
    have HYA := Lib.hid hya
    have HYB := Lib.hid hyb
    obtain ⟨A1, c1, rfl, k1, k2, -, -⟩ := hya
    obtain ⟨A2, c2, rfl, k3, k4, -, -⟩ := hyb
    cases hyaE : ya with
    | nil =>
      subst hyaE
      have HME : Hid (xa.merge xb leI = pre ++ yb) := Lib.hid (by rw [HMR.out]; simp)
      clear HMR
      go_wp2_with (first
        | (at_builtin; refine app_items rfl _ _ rfl w.heap.size _ rfl pre.length (itemsL pre) hown _ [] ((HYA.out).below hB) wya rfl (by simp; omega) hB.size ?_; intro v2 w2 hown2 hg2 _; have hB2 := grown_below hB hg2 hown hB.size; clear hown)
        | (at_builtin; refine app_items rfl _ _ rfl w.heap.size _ rfl _ _ hown2 _ yb ((HYB.out).below hB2) wyb rfl (by simp; omega) hB2.size ?_; intro v3 w3 hown3 hg3 _; have hB3 := grown_below hB2 hg3 hown2 hB2.size))
      go_ret
      refine ⟨v3, rfl, ?_, hB3⟩
      rw [HME.out, itemsL_append, show xa.length + xb.length = pre.length + ([] : List Item).length + yb.length by simpa using hlen.symm]
      simpa [itemsL] using hown3
    | cons x xs =>
      subst hyaE
      cases hybE : yb with
      | nil =>
        subst hybE
        have HME : Hid (xa.merge xb leI = pre ++ (x :: xs)) := Lib.hid (by rw [HMR.out]; simp)
        clear HMR
        simp only [List.length_cons] at k1 hlen
        go_wp2_with (first
          | (at_builtin; refine app_items rfl _ _ rfl w.heap.size _ rfl pre.length (itemsL pre) hown _ (x :: xs) ((HYA.out).below hB) wya rfl (by simp; omega) hB.size ?_; intro v2 w2 hown2 hg2 _; have hB2 := grown_below hB hg2 hown hB.size; clear hown)
          | (at_builtin; refine app_items rfl _ _ rfl w.heap.size _ rfl _ _ hown2 _ [] ((HYB.out).below hB2) wyb rfl (by simp; omega) hB2.size ?_; intro v3 w3 hown3 hg3 _; have hB3 := grown_below hB2 hg3 hown2 hB2.size))
        go_ret
        refine ⟨v3, rfl, ?_, hB3⟩
        rw [HME.out, itemsL_append, show xa.length + xb.length = pre.length + (x :: xs).length + ([] : List Item).length by simp only [List.length_nil] at hlen; simp only [List.length_cons, List.length_nil]; omega]
        simpa [itemsL] using hown3
      | cons y ys =>
        subst hybE
        obtain ⟨g1, o1, d1, e1, m1, m2, r1, RT1⟩ := RunV.split HYA.out wya
        cases e1
        obtain ⟨g2, o2, d2, e2, m3, m4, r2, RT2⟩ := RunV.split HYB.out wyb
        cases e2
        simp only [List.length_cons] at hlen
        have x32 := wya.head
        have y32 := wyb.head
        have K := Lib.hid (fun w1 => icompare y x y32 x32 w1)
        have ra := rangeAt_below r1 hB
        have rb := rangeAt_below r2 hB
        have lx := itemL_length x x32
        have ly := itemL_length y y32
        have ox := itemL_one x
        have oy := itemL_one y
        have hix : (Tryd.prog.info? 90).map (·.size) = some (itemL x).length := by rw [size_item, lx]
        have hiy : (Tryd.prog.info? 90).map (·.size) = some (itemL y).length := by rw [size_item, ly]
        have hu := Tryd.underlying90
        have HYB1 := Lib.hid RT1
        have HYB2 := Lib.hid RT2
        have hnil : Hid (RunV w (.slice (some ⟨g1, o1, none⟩) (xs.length + 1) c1) (x :: xs)) := HYA
        have hnilb : Hid (RunV w (.slice (some ⟨g2, o2, none⟩) (ys.length + 1) c2) (y :: ys)) := HYB
        clear HYA HYB r1 r2 RT1 RT2 ha0 hb0
        generalize hX : itemL x = cx at *
        generalize hY : itemL y = cy at *
        go_wp2_with fail
        have HX := Lib.hid hX
        have HY := Lib.hid hY
        clear hu ox oy hX hY
        have q1 : ∀ w', (∃ n, w' = wr.drewN n) → (Instr.loadAt 90 (.pointer (some ⟨g1, o1, none⟩))).run Tryd.prog w' = .ok (.agg cx.toArray) w' := by rintro _ ⟨n, rfl⟩; exact load_item (rangeAt_drewN ra n) hix
        have q2 : ∀ w', (∃ n, w' = wr.drewN n) → (Instr.loadAt 90 (.pointer (some ⟨g2, o2, none⟩))).run Tryd.prog w' = .ok (.agg cy.toArray) w' := by rintro _ ⟨n, rfl⟩; exact load_item (rangeAt_drewN rb n) hiy
        have RA := Lib.hid ra
        have RB := Lib.hid rb
        have Q1 := Lib.hid q1
        have Q2 := Lib.hid q2
        clear ra rb q1 q2
        refine wp_region_quiet_tail 7 (by kernel_rfl) (by kernel_rfl) ?_
        simp only [List.take_succ_cons, List.take_zero, List.drop_succ_cons, List.drop_zero]
        go_big_quiet_step (fail)
        go_big_quiet_step (fail)
        go_big_quiet_step (fail)
        refine wpQuiet_load rfl _ _ rfl _ _ rfl Q2.out ?_
        simp only [Act.put, List.setIfInBounds_toArray, List.set_cons_zero, List.set_cons_succ]
        go_big_quiet_step (fail)
        go_big_quiet_step (fail)
        refine wpQuiet_load rfl _ _ rfl _ _ rfl Q1.out ?_
        simp only [Act.put, List.setIfInBounds_toArray, List.set_cons_zero, List.set_cons_succ]
        refine wpQuiet_nil ?_
        intro _ hw'
        obtain ⟨nq, hw''⟩ := hw'
        subst hw''
        have hcmp := cmp_lt (a := y.1) (b := x.1) (by rw [y32, x32])
        have HCMP := Lib.hid hcmp; clear hcmp
        generalize Lib.compareBytes y.1 x.1 = q at K HCMP
        by_cases hq : q < 0
        · go_wp2_with (go_at_call 44; refine (K.out _).mono ?_; rintro e w2 ⟨rfl, hB2⟩; have hC := (below_drewN (Below.refl wr.heap.size wr) nq).trans hB2)
          refine wp_region_noPanic ?_
          refine wp_region_takes [0, 1, 2, 6, 7] [3, 4, 5, 8, 9] (by kernel_rfl) (by kernel_rfl) (by kernel_rfl) rfl (fun _ _ _ _ h => h) ?_
          simp only [opsL, List.getElem?_cons_zero, List.getElem?_cons_succ, Option.toList_some, List.singleton_append]
          refine takes_move rfl _ rfl _ rfl ?_
          refine takes_move rfl _ rfl _ rfl ?_
          simp only [Act.put, List.setIfInBounds_toArray, List.set_cons_zero, List.set_cons_succ]
          refine takes_run rfl (.pointer (some ⟨g2, o2, none⟩)) (fun w' => by go_simp) ?_
          refine takes_move rfl _ rfl _ rfl ?_
          refine takes_slice rfl _ _ _ rfl _ _ _ rfl rfl (fun w' => run_tail g2 o2 ys.length c2 w') ?_
          simp only [Act.put, List.setIfInBounds_toArray, List.set_cons_zero, List.set_cons_succ]
          refine wpList_load_run rfl _ _ rfl _ _ rfl (load_item (rangeAt_below RB.out hC.drew) hiy) ?_
          simp only [Act.put, List.setIfInBounds_toArray, List.set_cons_zero, List.set_cons_succ]
          refine wpList_one_item rfl _ rfl cy rfl ly ?_
          simp only [Act.put, List.setIfInBounds_toArray, List.set_cons_zero, List.set_cons_succ]
          have hE := hC.drew.alloc hC.drew.size (.cells cy.toArray 90)
          have hR := run_one w2.drew y HY.out
          generalize w2.drew.alloc (.cells cy.toArray 90) = w3 at hE hR ⊢
          have hB3 := hB.trans (hE.mono hB.size)
          refine app_items rfl _ _ rfl w.heap.size _ rfl pre.length (itemsL pre) (owns_below hown hE) _ [y] hR (fun z hz => by simp at hz; subst hz; exact y32) rfl (by simp; omega) hB3.size ?_
          intro v4 w4 hown4 hg4 _
          have hB4 := grown_below hB3 hg4 (owns_below hown hE) hB3.size
          simp only [Act.put, List.setIfInBounds_toArray, List.set_cons_zero, List.set_cons_succ]
          clear hown hR hE HX HY K RA RB Q1 Q2 hC hB2 hg4
          go_wp2_with fail
          refine NoPanic.normal ?_
          go_wp2_with fail
          go_roundw
          case rel =>
            refine ⟨x :: xs, ys, pre ++ [y], merge_left HMR.out (HCMP.out.1 hq), hnil.out, HYB2.out, wya, wyb.tail, by simp only [List.length_append, List.length_cons, List.length_nil]; omega, ?_, hB4⟩
            rw [itemsL_append]
            simpa using hown4
          case measure => simp [lenV]
        · go_wp2_with (go_at_call 44; refine (K.out _).mono ?_; rintro e w2 ⟨rfl, hB2⟩; have hC := (below_drewN (Below.refl wr.heap.size wr) nq).trans hB2)
          refine wp_region_noPanic ?_
          refine wp_region_takes [0, 1, 2, 6, 7] [3, 4, 5, 8, 9] (by kernel_rfl) (by kernel_rfl) (by kernel_rfl) rfl (fun _ _ _ _ h => h) ?_
          simp only [opsL, List.getElem?_cons_zero, List.getElem?_cons_succ, Option.toList_some, List.singleton_append]
          refine takes_move rfl _ rfl _ rfl ?_
          refine takes_move rfl _ rfl _ rfl ?_
          simp only [Act.put, List.setIfInBounds_toArray, List.set_cons_zero, List.set_cons_succ]
          refine takes_run rfl (.pointer (some ⟨g1, o1, none⟩)) (fun w' => by go_simp) ?_
          refine takes_move rfl _ rfl _ rfl ?_
          refine takes_slice rfl _ _ _ rfl _ _ _ rfl rfl (fun w' => run_tail g1 o1 xs.length c1 w') ?_
          simp only [Act.put, List.setIfInBounds_toArray, List.set_cons_zero, List.set_cons_succ]
          refine wpList_load_run rfl _ _ rfl _ _ rfl (load_item (rangeAt_below RA.out hC.drew) hix) ?_
          simp only [Act.put, List.setIfInBounds_toArray, List.set_cons_zero, List.set_cons_succ]
          refine wpList_one_item rfl _ rfl cx rfl lx ?_
          simp only [Act.put, List.setIfInBounds_toArray, List.set_cons_zero, List.set_cons_succ]
          have hE := hC.drew.alloc hC.drew.size (.cells cx.toArray 90)
          have hR := run_one w2.drew x HX.out
          generalize w2.drew.alloc (.cells cx.toArray 90) = w3 at hE hR ⊢
          have hB3 := hB.trans (hE.mono hB.size)
          refine app_items rfl _ _ rfl w.heap.size _ rfl pre.length (itemsL pre) (owns_below hown hE) _ [x] hR (fun z hz => by simp at hz; subst hz; exact x32) rfl (by simp; omega) hB3.size ?_
          intro v4 w4 hown4 hg4 _
          have hB4 := grown_below hB3 hg4 (owns_below hown hE) hB3.size
          simp only [Act.put, List.setIfInBounds_toArray, List.set_cons_zero, List.set_cons_succ]
          clear hown hR hE HX HY K RA RB Q1 Q2 hC hB2 hg4
          go_wp2_with fail
          refine NoPanic.normal ?_
          go_wp2_with fail
          go_roundw
          case rel =>
            refine ⟨xs, y :: ys, pre ++ [x], merge_right HMR.out (fun h => (by have := HCMP.out.2 h; omega)), HYB1.out, hnilb.out, wya.tail, wyb, by simp only [List.length_append, List.length_cons, List.length_nil]; omega, ?_, hB4⟩
            rw [itemsL_append]
            simpa using hown4
          case measure => simp [lenV]
end Go.Proofs.YthgjecofmnomfaaDoor
