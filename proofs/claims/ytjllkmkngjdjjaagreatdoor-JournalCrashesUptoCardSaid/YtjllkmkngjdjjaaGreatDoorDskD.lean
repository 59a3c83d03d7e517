/- A LAW OF MY OWN: a region that draws its order: reads and calls that make memory but change nothing that is there, in whatever order; then operations one behind the other. No statement of the seed is proved here. OPERATIONS WHOSE RUN IS KNOWN, for the laws of regions. No statement of the seed is proved here. WALK of package disk's do. No statement of the seed is proved here. -/
import Derived.Test.YtjllkmkngjdjjaaGreatDoorQuietMix
import Derived.Test.YtjllkmkngjdjjaaGreatDoorDskC
import Derived.Test.YtjllkmkngjdjjaaGreatDoorAny
import Derived.Deep.RegionHeld3
namespace Go.Proofs.YtjllkmkngjdjjaaGreatDoor
open Go.RowKit
section
variable {P : Program} {C : World → Prop}
theorem wp_region_tailC {id : Nat} {Q : Exit → Act → World → Prop} {a : Act} {w : World} {l : List Oper} (n : Nat) (hC : C w.drew) (hm : P.follows .mixedOrders = true) (hB : Region.lexTailB .any l.toArray n = true)
    (h : wpQuiet P l.toArray C (fun a' => ∀ w', C w' → wpList P l.toArray Q (l.drop n) a' w') (l.take n) a) : (Code.region id l.toArray true).wp P Q a w := by
  simp only [Region.lexTailB, Bool.and_eq_true, decide_eq_true_eq] at hB
  obtain ⟨⟨⟨⟨hsel, hn⟩, hs⟩, hc⟩, hlex⟩ := hB
  have hn' : n < l.length := by simpa using hn
  have htl : (l.take n).length = n := by simp; omega
  have hdl : (l.drop n).length = l.toArray.size - n := by simp
  have inv0 : HeadInv .any l.toArray n (Array.replicate l.toArray.size false) :=
    ⟨by simp, fun j oj _ hl => (by rw [getD_replicate_false] at hl; cases hl), fun t _ ht => getD_in (by simpa using ht) (getD_replicate_false _ _)⟩
  have H := wpAnyQL_lex (md := .any) (g := l.toArray.size - n) hsel hs hc hn (l.take n) 0 _ a (fun j hj => by
    have hj' : j < n := by rw [htl] at hj; exact hj
    simp [hj']) (by simpa using htl) inv0 (by rw [htl]; exact hlex) h
  refine wp_region_any hm ?_
  have := wpAny_of_qhead (Q' := Q) (g := l.toArray.size - n) (fun listed a' w' hw' hL => by
    have := wpAny_of_seq (md := .any) (Q' := Q) (l.drop n) n listed a' w' (fun j => by simp [List.getElem?_drop]) (by rw [hdl]; exact hL.1) (hL.2 w' hw')
    rwa [hdl] at this) _ _ _ { w with drawn := w.drawn + 1 } hC H
  rw [htl, show n + (l.toArray.size - n) = l.toArray.size by omega] at this
  exact this
theorem wp_region_litC {id : Nat} {Q : Exit → Act → World → Prop} {a : Act} {w : World} {l : List Oper} (hC : C w.drew) (hm : P.follows .mixedOrders = true) (hB : Region.lexB .any l.toArray = true)
    (h : wpQuiet P l.toArray C (fun a' => ∀ w', C w' → Q .normal a' w') l a) : (Code.region id l.toArray true).wp P Q a w :=
  wp_region_quiet hm hB hC (by simpa using h)
theorem wpQuiet_call {ops : Array Oper} {Q : Act → Prop} {o : Oper} {rest : List Oper} {a : Act} (hw : Region.wanted o (yielded ops a.tmps) = true) (f : FuncId) (args : Array Value) (v : Value)
    (hr : ∀ w, C w → (execOp a.eval o).run P w = .ok (.enter f args) w) (hc : ∀ w, C w → Calls P f args w fun e w'' => e = .returned v ∧ C w'') (h : wpQuiet P ops C Q rest (a.put o.dst v)) : wpQuiet P ops C Q (o :: rest) a :=
  wpQuiet_step fun K hK => by
    rw [if_pos hw]
    refine ⟨v, fun w hw => ?_, hK _ h⟩
    unfold Oper.quietAt
    rw [hr w hw]
    exact ⟨rfl, hc w hw⟩
theorem wpQuiet_no {ops : Array Oper} {Q : Act → Prop} {o : Oper} {rest : List Oper} {a : Act} (hw : Region.wanted o (yielded ops a.tmps) = false) (h : wpQuiet P ops C Q rest (a.put o.dst undef)) : wpQuiet P ops C Q (o :: rest) a :=
  wpQuiet_step fun K hK => by
    rw [if_neg (by rw [hw]; simp)]
    exact hK _ h
/-- All is as it was, and more. -/
theorem below_drew1 (w : World) : Below w.heap.size w w.drew := (Below.refl _ _).drew
end
end Go.Proofs.YtjllkmkngjdjjaaGreatDoor
namespace Go.Proofs.YtjllkmkngjdjjaaGreatDoor
open Go.RowKit
theorem op_load {P : Program} {o : Oper} {ρ : Operand → Value} (ty : TypeId) (x : Operand) (ho : o.op = .load ty x) (p v : Value) (hx : ρ x = p) (w : World) (hr : (Instr.loadAt ty p).run P w = .ok v w) : (execOp ρ o).run P w = .ok (.value v) w := by
  unfold execOp
  simp only [ho, hx, Sem.run_bind, Sem.run_pure, hr, Result.andThen_ok]
theorem op_move {o : Oper} {ρ : Operand → Value} {P : Program} (x : Operand) (ho : o.op = .move x) (v : Value) (hx : ρ x = v) (w : World) : (execOp ρ o).run P w = .ok (.value v) w := by subst hx; unfold execOp; rw [ho]; rfl
theorem op_assign {o : Oper} {ρ : Operand → Value} {P : Program} (x : Operand) (ho : o.op = .assign x) (v : Value) (hx : ρ x = v) (w : World) : (execOp ρ o).run P w = .ok (.value v) w := by subst hx; unfold execOp; rw [ho]; rfl
theorem op_lookup {P : Program} {o : Oper} {ρ : Operand → Value} (t : TypeId) (m x : Operand) (cm : Bool) (ho : o.op = .lookup t m x cm) (vm vx v : Value) (hm : ρ m = vm) (hx : ρ x = vx) (w : World) (hr : (Instr.lookup t vm vx cm).run P w = .ok v w) : (execOp ρ o).run P w = .ok (.value v) w := by
  unfold execOp
  simp only [ho, hm, hx, Sem.run_bind, Sem.run_pure, hr, Result.andThen_ok]
theorem op_append {P : Program} {w : World} {o : Oper} {ρ : Operand → Value} (s x : Operand) (t : TypeId) (ho : o.op = .call { callee := .builtin .append, args := #[s, x], argTypes := #[t, t] }) (v y : Value) (hs : ρ s = v) (hx : ρ x = y) (r : Value) (w' : World)
    (hr : (Builtin.append_ #[t, t] o.type #[v, y]).run P w = .ok r w') : (execOp ρ o).run P w = .ok (.value r) w' := run_op_append s x t ho v y hs hx r w' hr
theorem op_delete {P : Program} {w w' : World} {o : Oper} {ρ : Operand → Value} (m x : Operand) (t k : TypeId) (ho : o.op = .call { callee := .builtin .delete, args := #[m, x], argTypes := #[t, k] }) (vm vx r : Value) (hm : ρ m = vm) (hx : ρ x = vx)
    (hr : (Builtin.delete_ #[t, k] o.type #[vm, vx]).run P w = .ok r w') : (execOp ρ o).run P w = .ok (.value r) w' := by
  unfold execOp
  simp only [ho, resolve, invoke, builtin, Sem.run_bind, Sem.run_pure, Result.andThen_ok, List.map_toArray, List.map_cons, List.map_nil, hm, hx, hr]
theorem ld_cell {P : Program} {w : World} {t : TypeId} {g o : Nat} {v : Value} {d : TypeDesc} (hu : P.underlying t = some d) (hd : (match d with | .struct _ | .array _ _ => false | _ => true) = true) (h : w.cell? ⟨g, o, none⟩ = some v) : (Instr.loadAt t (.pointer (some ⟨g, o, none⟩))).run P w = .ok v w := by
  have ha : (isAgg t).run P w = .ok false w := by
    unfold isAgg
    simp only [Sem.run_bind, run_underlying hu, Result.andThen_ok, Sem.run_pure]
    cases d <;> simp_all
  simp only [Instr.loadAt, Instr.sureAddr, Sem.run_bind, Sem.run_pure, Result.andThen_ok, loadVar, ha]
  simp [run_load, h]
theorem wpList_update {P : Program} {ops : Array Oper} {rest : List Oper} {o : Oper} {a : Act} {w w' : World} {Q : Exit → Act → World → Prop} (hg : o.guard = none) (t : TypeId) (m x y : Operand) (ho : o.op = .mapUpdate t m x y) (vm vx vy : Value) (hm : a.eval m = vm) (hx : a.eval x = vx) (hy : a.eval y = vy)
    (hr : (Instr.mapUpdate t vm vx vy).run P w = .ok () w') (h : wpList P ops Q rest (a.put o.dst undef) w') : wpList P ops Q (o :: rest) a w := by
  refine wpList_plain hg fun K hK => ?_
  unfold Oper.wp execOp
  simp only [ho, hm, hx, hy, Sem.run_bind, Sem.run_pure, hr, Result.andThen_ok]
  exact hK _ _ h
theorem wpList_done {P : Program} {ops : Array Oper} {a : Act} {w : World} {Q : Exit → Act → World → Prop} {S : World → Prop} {K : Act → World → Prop} (h1 : S w) (h2 : K a w) : wpList P ops (NormK Q (fun a w => S w ∧ K a w)) [] a w := by
  unfold wpList
  exact ⟨h1, h2⟩
theorem norm_done {a : Act} {w : World} {Q : Exit → Act → World → Prop} {S : World → Prop} {K : Act → World → Prop} (h1 : S w) (h2 : K a w) : NormK Q (fun a w => S w ∧ K a w) .normal a w := ⟨h1, h2⟩
theorem noPanic_normal {a : Act} {w : World} {Q : Exit → Act → World → Prop} (h : Q .normal a w) : NoPanic Q .normal a w := h
theorem op_rem {P : Program} {o : Oper} {ρ : Operand → Value} (t : TypeId) (x y : Operand) (t2 : TypeId) (ho : o.op = .binOp .rem t x y t2) (a b : Nat) (hb : 0 < b) (hx : ρ x = .int .i64 (a : Int)) (hy : ρ y = .int .i64 (b : Int)) (w : World) : (execOp ρ o).run P w = .ok (.value (.int .i64 ((a % b : Nat) : Int))) w := by
  have h0 : ¬ b = 0 := by omega
  unfold execOp
  simp [ho, hx, hy, go_sem, h0, eqGuard]
  rw [Int.tmod_eq_emod_of_nonneg (by omega)]
theorem op_sub {P : Program} {o : Oper} {ρ : Operand → Value} (t : TypeId) (x y : Operand) (t2 : TypeId) (ho : o.op = .binOp .sub t x y t2) (a b : Nat) (hb : b ≤ a) (ha : a ≤ 9223372036854775807) (hx : ρ x = .int .i64 (a : Int)) (hy : ρ y = .int .i64 (b : Int)) (w : World) : (execOp ρ o).run P w = .ok (.value (.int .i64 ((a - b : Nat) : Int))) w := by
  unfold execOp
  simp [ho, hx, hy, go_sem, eqGuard]
  rw [IntKind.wrap_i64]
  omega
theorem op_min {P : Program} {o : Oper} {ρ : Operand → Value} (x y : Operand) (t : TypeId) (ho : o.op = .call { callee := .builtin .min, args := #[x, y], argTypes := #[t, t] }) (a b : Nat) (hx : ρ x = .int .i64 (a : Int)) (hy : ρ y = .int .i64 (b : Int)) (w : World) : (execOp ρ o).run P w = .ok (.value (.int .i64 ((min a b : Nat) : Int))) w := by
  unfold execOp
  simp [ho, hx, hy, go_sem, resolve, invoke, builtin]
  split <;> omega
end Go.Proofs.YtjllkmkngjdjjaaGreatDoor
namespace Go.Proofs.YtjllkmkngjdjjaaGreatDoor
open Go.RowKit
set_option maxRecDepth 100000
theorem MapAt.mono {w : World} {b c c' : Nat} {f : ByteArray → Option Value} (h : MapAt w b c f) (hc : c ≤ c') : MapAt w b c' f := let ⟨D, h1, h2⟩ := h; ⟨D, h1.mono hc, h2⟩
theorem range_below {w w1 : World} {b o : Nat} {cs : List Value} (h : w.rangeAt b o cs) (hb : Below w.heap.size w w1) : w1.rangeAt b o cs := fun j v hv => cell_below hb (h j v hv)
theorem range_box (w : World) (cs : List Value) (t : TypeId) : (w.alloc (.cells cs.toArray t)).rangeAt w.heap.size 0 cs := fun j u hu => by
  rw [Nat.zero_add, cell_of_row _ w.heap.size j _ _ (0, 0) (heap_alloc_new w _)]
  simpa using hu
theorem range_mods {w w1 : World} {b o : Nat} {cs : List Value} (h : w.rangeAt b o cs) (hb : w1.heap[b]? = w.heap[b]?) : w1.rangeAt b o cs := fun j v hv => (mods_cell (a := ⟨b, o + j, none⟩) hb).trans (h j v hv)
/-- What do's reads hang on: the map's place, the box. -/
structure DS (x : DT) (b : Nat) (r : RawD) (vb : Value) (w : World) : Prop where
  c1 : w.cell? ⟨x.p, 1, none⟩ = some (.map (some x.mb))
  box : w.rangeAt b 0 (rawL r vb)
theorem DS.kind {x : DT} {b : Nat} {r : RawD} {vb : Value} {w : World} (h : DS x b r vb w) : w.cell? ⟨b, 0, none⟩ = some (.int .i64 (r.kind : Int)) := h.box 0 _ rfl
theorem DS.name {x : DT} {b : Nat} {r : RawD} {vb : Value} {w : World} (h : DS x b r vb w) : w.cell? ⟨b, 1, none⟩ = some (.string r.name) := h.box 1 _ rfl
theorem DS.bytes {x : DT} {b : Nat} {r : RawD} {vb : Value} {w : World} (h : DS x b r vb w) : w.cell? ⟨b, 2, none⟩ = some vb := h.box 2 _ rfl
theorem DS.size {x : DT} {b : Nat} {r : RawD} {vb : Value} {w : World} (h : DS x b r vb w) : w.cell? ⟨b, 3, none⟩ = some (.int .i64 (r.size : Int)) := h.box 3 _ rfl
theorem DS.to {x : DT} {b : Nat} {r : RawD} {vb : Value} {w : World} (h : DS x b r vb w) : w.cell? ⟨b, 4, none⟩ = some (.string r.to) := h.box 4 _ rfl
theorem DS.below {x : DT} {b : Nat} {r : RawD} {vb : Value} {w w1 : World} (h : DS x b r vb w) (hb : Below w.heap.size w w1) : DS x b r vb w1 := ⟨cell_below hb h.c1, range_below h.box hb⟩
theorem DS.mods {x : DT} {b : Nat} {r : RawD} {vb : Value} {w w1 : World} (h : DS x b r vb w) (h1 : w1.heap[x.p]? = w.heap[x.p]?) (h2 : w1.heap[b]? = w.heap[b]?) : DS x b r vb w1 := ⟨(mods_cell (a := ⟨x.p, 1, none⟩) h1).trans h.c1, range_mods h.box h2⟩
theorem DMid.drew {x : DT} {s : DSt} {r : RawD} {vb : Value} {W w : World} {B : Nat} {f' : ByteArray → Option Value} (h : DMid x s r vb W B f' w) : DMid x s r vb W B f' w.drew := ⟨h.map, h.vals.kept fun _ _ _ _ _ => rfl, h.src, h.block, h.plain, h.box, h.os, h.tape, h.output, h.size⟩
theorem DMid.row {x : DT} {s : DSt} {r : RawD} {vb : Value} {W w : World} {B : Nat} {f' : ByteArray → Option Value} (h : DMid x s r vb W B f' w) (hx : x.At s W B) : w.ownsRow B 123 5 x.vr s.raws.length (rawsL s.raws x.us) :=
  mods_owns hx.raws.row fun k hk => h.block k (hx.lt (.inl (.inr (.inr (.inl hk))))) (fun m u hu e => (hx.fp m u hu).2.2 k e hk) (fun e => hx.rp.2 (by rw [← e]; exact hk))
theorem DMid.pb {x : DT} {s : DSt} {r : RawD} {vb : Value} {W w : World} {B : Nat} {f' : ByteArray → Option Value} (h : DMid x s r vb W B f' w) (hx : x.At s W B) : w.heap[x.p]? = W.heap[x.p]? :=
  h.block x.p (hx.lt (.inl (.inl rfl))) (fun m u hu => (hx.fp m u hu).1) hx.pm
theorem info_raw : (Tryz.prog.info? 123).map (fun i => (i.zero.map (·.cells.size), i.size, i.bytes)) = some (some 5, 5, 72) := by kernel_rfl
theorem size_raw : (Tryz.prog.info? 123).map (·.size) = some 5 := by kernel_rfl
theorem under_raws : Tryz.prog.underlying 105 = some (.slice 123) := by kernel_rfl
theorem rawL_one (r : RawD) {vb : Value} (h : vb.oneCell' = true) : ∀ u ∈ rawL r vb, u.oneCell' = true := fun u hu => by
  simp [rawL] at hu
  rcases hu with rfl | rfl | rfl | rfl | rfl
  · rfl
  · rfl
  · exact h
  · rfl
  · rfl
theorem ld_raw {w : World} {b : Nat} {r : RawD} {vb : Value} (h : w.rangeAt b 0 (rawL r vb)) : (Instr.loadAt 123 (.pointer (some ⟨b, 0, none⟩))).run Tryz.prog w = .ok (.agg (rawL r vb).toArray) w :=
  run_loadAt_mid (P := Tryz.prog) w b 0 123 (rawL r vb) _ h Tryz.underlying123 rfl (by rw [size_raw]; rfl)
set_option maxHeartbeats 4000000 in
theorem do_append (x : DT) (s : DSt) (n : ByteArray) (l b : List UInt8) (A : Option Addr) (c : Nat) (W : World) (B : Nat) (hx : x.At s W B) (hB : B ≤ W.heap.size) (hn : s.fs n = some l) (hnm : n.size ≤ 128) (hvb : OwnB W B (.slice A b.length c) b) (hap : ∀ k, (Value.slice A b.length c).ownBlock = some k → ¬ x.Mut k)
    (hl : l.length + b.length ≤ 100000000000000) (hr : s.raws.length + 1 ≤ 1000000000000) :
    Calls Tryz.prog 69 #[.pointer (some ⟨x.p, 0, none⟩), .agg #[.int .i64 2, .string n, .slice A b.length c, .int .i64 0, .string ByteArray.empty]] W fun e w' => e = .returned (.tuple #[]) ∧ ∃ y : DT, y.At (s.run (rAppend n b)) w' B ∧ DStepV (.slice A b.length c) x W y w' := by
  obtain ⟨v0, hv0, ho0⟩ := hx.vals.at_ hn
  have hsz : n.size ≤ maxLen := by unfold maxLen; omega
  have HLK := Lib.hid (fun w' (hw : Below W.heap.size W w') => (show (Instr.lookup 104 (.map (some x.mb)) (.string n) false).run Tryz.prog w' = .ok v0 w' by
    have h := (hx.below hw).map.look under_files (zero_bs w') n hsz
    rw [hv0] at h
    exact h))
  have b0 := below_alloc1 W (.cells (rawL (rAppend n b) (.slice A b.length c)).toArray 123)
  have hS0 : DS x W.heap.size (rAppend n b) (.slice A b.length c) (W.alloc (.cells (rawL (rAppend n b) (.slice A b.length c)).toArray 123)) := ⟨cell_below b0 hx.c1, range_box W _ _⟩
  go_enter Tryz.func69, Tryz.ntmps69
  go_wp2
  refine wp_region_noPanic ?_
  refine wp_region_rowS (S := fun w' => Below W.heap.size W w' ∧ DS x W.heap.size (rAppend n b) (.slice A b.length c) w') [0, 1, 2, 3, 4, 5, 6, 7] [] (by kernel_rfl) (by kernel_rfl) (fun _ _ _ _ h => h) ⟨b0.drew, hS0.below (below_drew1 _)⟩ ?_
  simp only [opsL, List.getElem?_cons_zero, List.getElem?_cons_succ, Option.toList_some, List.singleton_append]
  refine takesS_run rfl (.pointer (some ⟨x.p, 0, none⟩)) (fun w' hw => op_move _ rfl _ (by rfl) w') ?_
  simp only [Act.put, List.setIfInBounds_toArray, List.set_cons_zero, List.set_cons_succ]
  refine takesS_run rfl (.pointer (some ⟨x.p, 0, none⟩)) (fun w' hw => by go_simp) ?_
  simp only [Act.put, List.setIfInBounds_toArray, List.set_cons_zero, List.set_cons_succ]
  refine takesS_run rfl (.pointer (some ⟨x.p, 1, none⟩)) (fun w' hw => by go_simp) ?_
  simp only [Act.put, List.setIfInBounds_toArray, List.set_cons_zero, List.set_cons_succ]
  refine takesS_run rfl (.map (some x.mb)) (fun w' hw => op_load _ _ rfl _ _ (by rfl) w' (ld_cell under_files rfl hw.2.c1)) ?_
  simp only [Act.put, List.setIfInBounds_toArray, List.set_cons_zero, List.set_cons_succ]
  refine takesS_run rfl (.pointer (some ⟨W.heap.size, 1, none⟩)) (fun w' hw => by go_simp) ?_
  simp only [Act.put, List.setIfInBounds_toArray, List.set_cons_zero, List.set_cons_succ]
  refine takesS_run rfl (.string n) (fun w' hw => op_load _ _ rfl _ _ (by rfl) w' (ld_cell Tryz.underlying9 rfl hw.2.name)) ?_
  simp only [Act.put, List.setIfInBounds_toArray, List.set_cons_zero, List.set_cons_succ]
  refine takesS_run rfl (v0) (fun w' hw => op_lookup _ _ _ _ rfl _ _ _ (by rfl) (by rfl) w' (HLK.out w' hw.1)) ?_
  simp only [Act.put, List.setIfInBounds_toArray, List.set_cons_zero, List.set_cons_succ]
  refine takesS_run rfl (v0) (fun w' hw => op_assign _ rfl _ (by rfl) w') ?_
  simp only [Act.put, List.setIfInBounds_toArray, List.set_cons_zero, List.set_cons_succ]
  simp only [wpTkS, wpRowS]
  rename_i Kx hKx
  refine hKx _ _ ?_
  clear hKx
  obtain ⟨wa, hwa⟩ : ∃ wa, wa = (W.alloc (.cells (rawL (rAppend n b) (.slice A b.length c)).toArray 123)).drew := ⟨_, rfl⟩
  have hba : Below W.heap.size W wa := by rw [hwa]; exact b0.drew
  have hSa : DS x W.heap.size (rAppend n b) (.slice A b.length c) wa := by rw [hwa]; exact hS0.below (below_drew1 _)
  have hza : W.heap.size + 1 ≤ wa.heap.size := World.block_lt_of_cell? wa _ hSa.kind
  change Code.wp _ _ _ _ ((W.alloc (.cells (rawL (rAppend n b) (.slice A b.length c)).toArray 123)).drew)
  rw [← hwa]
  clear hwa b0 hS0
  have ck : wa.cell? ⟨W.heap.size, 0, none⟩ = some (.int .i64 2) := hSa.kind
  go_wp2_with fail
  refine wp_region_noPanic ?_
  refine wp_region_rowS (S := fun w' => DS x W.heap.size (rAppend n b) (.slice A b.length c) w') [0, 1, 2, 3, 4, 5, 6, 7, 8] [9, 10] (by kernel_rfl) (by kernel_rfl) (fun _ _ _ _ h => h) (hSa.below (below_drew1 _)) ?_
  simp only [opsL, List.getElem?_cons_zero, List.getElem?_cons_succ, Option.toList_some, List.singleton_append]
  refine takesS_run rfl (.pointer (some ⟨x.p, 0, none⟩)) (fun w' hw => op_move _ rfl _ (by rfl) w') ?_
  simp only [Act.put, List.setIfInBounds_toArray, List.set_cons_zero, List.set_cons_succ]
  refine takesS_run rfl (.pointer (some ⟨x.p, 0, none⟩)) (fun w' hw => by go_simp) ?_
  simp only [Act.put, List.setIfInBounds_toArray, List.set_cons_zero, List.set_cons_succ]
  refine takesS_run rfl (.pointer (some ⟨x.p, 1, none⟩)) (fun w' hw => by go_simp) ?_
  simp only [Act.put, List.setIfInBounds_toArray, List.set_cons_zero, List.set_cons_succ]
  refine takesS_run rfl (.map (some x.mb)) (fun w' hw => op_load _ _ rfl _ _ (by rfl) w' (ld_cell under_files rfl hw.c1)) ?_
  simp only [Act.put, List.setIfInBounds_toArray, List.set_cons_zero, List.set_cons_succ]
  refine takesS_run rfl (.pointer (some ⟨W.heap.size, 1, none⟩)) (fun w' hw => by go_simp) ?_
  simp only [Act.put, List.setIfInBounds_toArray, List.set_cons_zero, List.set_cons_succ]
  refine takesS_run rfl (.string n) (fun w' hw => op_load _ _ rfl _ _ (by rfl) w' (ld_cell Tryz.underlying9 rfl hw.name)) ?_
  simp only [Act.put, List.setIfInBounds_toArray, List.set_cons_zero, List.set_cons_succ]
  refine takesS_run rfl (v0) (fun w' hw => op_move _ rfl _ (by rfl) w') ?_
  simp only [Act.put, List.setIfInBounds_toArray, List.set_cons_zero, List.set_cons_succ]
  refine takesS_run rfl (.pointer (some ⟨W.heap.size, 2, none⟩)) (fun w' hw => by go_simp) ?_
  simp only [Act.put, List.setIfInBounds_toArray, List.set_cons_zero, List.set_cons_succ]
  refine takesS_run rfl (.slice A b.length c) (fun w' hw => op_load _ _ rfl _ _ (by rfl) w' (ld_cell Tryz.underlying35 rfl hw.bytes)) ?_
  simp only [Act.put, List.setIfInBounds_toArray, List.set_cons_zero, List.set_cons_succ]
  simp only [wpTkS, wpRowS, opsL, List.getElem?_cons_zero, List.getElem?_cons_succ, Option.toList_some, List.singleton_append]
  refine app_u8 rfl _ _ rfl B v0 rfl l ((ho0.below hba).below (below_drew1 wa)) (.slice A b.length c) rfl b ((hvb.bs.below hba).below (below_drew1 wa)) ?_ ?_ ?_
  · omega
  · show B ≤ wa.heap.size; omega
  intro v1 w1 ho1 hg1 hat1
  have hpW : x.p < W.heap.size := hx.lt (.inl (.inl rfl))
  have hvW : ∀ k, v0.ownBlock = some k → k < W.heap.size := fun k hk => hx.lt (.inl (.inr (.inr (.inr ⟨n, v0, hv0, hk⟩))))
  have hmW : x.mb < W.heap.size := hx.lt (.inl (.inr (.inl rfl)))
  have hza' : wa.drew.heap.size = wa.heap.size := rfl
  have hfp := hx.fp n v0 hv0
  have hS1 : DS x W.heap.size (rAppend n b) (.slice A b.length c) w1 := (hSa.below (below_drew1 _)).mods (hg1.block _ (by omega) (fun e => hfp.1 e.symm)) (hg1.block _ (by omega) (fun e => by have := hvW _ e.symm; omega))
  have hm1 : MapAt w1 x.mb s.raws.length x.f := (hx.map.kept (hba.block _ hmW)).kept (hg1.block _ (by omega) (fun e => hfp.2.1 e.symm))
  obtain ⟨w2, hrun, hm2, ht⟩ := hm1.store under_files (by unfold maxLen; omega) n hsz v1
  have hS2 : DS x W.heap.size (rAppend n b) (.slice A b.length c) w2 := hS1.mods (turned_block ht hx.pm) (turned_block ht (by omega))
  have hM : DMid x s (rAppend n b) (.slice A b.length c) W B (upd x.f n (some v1)) w2 := DMid.put hx hba.drew (by omega) hS2.box hg1 (.inr ⟨v0, hv0, rfl⟩) ho1 (fun k hk => by
    rcases hat1 with h | h
    · exact .inr ⟨v0, hv0, by rw [← h]; exact hk⟩
    · rw [h] at hk; have := Option.some.inj hk; exact .inl (by omega)) ht hm2 (by rw [run_append_fs, hn]; rfl)
  refine wpList_done hS1 ?_
  simp only [Act.put, List.setIfInBounds_toArray, List.set_cons_zero, List.set_cons_succ]
  refine wpList_update rfl _ _ _ _ rfl (.map (some x.mb)) (.string n) v1 rfl rfl rfl hrun ?_
  refine wpList_done hS2 ?_
  rename_i Ky hKy
  refine hKy _ _ ?_
  clear hKy hS1 hm1 hrun ht hm2 ho1 hg1 hat1 hSa hba ck ho0 HLK
  have hok : RawOk (rAppend n b) := ⟨hnm, by show ByteArray.empty.size ≤ 128; decide, by show 0 ≤ _; omega, by show 1 ≤ 2; omega, by show 2 ≤ 5; omega⟩
  go_wp2_with fail
  have hMd := hM.drew
  have hrow := hMd.row hx
  have hpb := hMd.pb hx
  have hc2 := (mods_cell (a := ⟨x.p, 2, none⟩) hpb).trans hx.c2
  have hf2 := (mods_frozen (a := ⟨x.p, 2, none⟩) hpb).trans hx.fr
  have hzM := hMd.size
  have hpW' : x.p < W.heap.size := hx.lt (.inl (.inl rfl))
  obtain ⟨vr', w3, hap3, ho3, hg3, hat3⟩ := run_app_any (w := w2.drew) 105 105 123 5 72 under_raws info_raw (by omega) (by omega) B s.raws.length x.vr (rawsL s.raws x.us) hrow (rawL (rAppend n b) (.slice A b.length c)) rfl (rawL_one _ rfl) (by omega) (by omega)
  obtain ⟨hAt, hSt⟩ := hMd.record hx hvb hap hok ho3 hg3 hat3
  obtain ⟨Ar, cr, er, -, -, -⟩ := owns_form ho3
  subst er
  have hvrp : x.vr.ownBlock ≠ some x.p := hx.rp.1
  have hvrb : x.vr.ownBlock ≠ some W.heap.size := fun e => by have := hx.lt (.inl (.inr (.inr (.inl e)))); omega
  have hbx0 := hMd.box
  have hbx1 := range_below hbx0 (below_alloc1 w2.drew (.cells (rawL (rAppend n b) (.slice A b.length c)).toArray 123))
  have hza1 : (w2.drew.alloc (.cells (rawL (rAppend n b) (.slice A b.length c)).toArray 123)).heap.size = w2.drew.heap.size + 1 := by simp
  have hbx3 := range_mods hbx1 (hg3.block W.heap.size (by omega) (fun e => hvrb e.symm))
  have hp3 : w3.heap[x.p]? = w2.drew.heap[x.p]? := (hg3.block x.p (by omega) (fun e => hvrp e.symm)).trans ((below_alloc1 w2.drew _).block x.p (by omega))
  have hc3 := (mods_cell (a := ⟨x.p, 2, none⟩) hp3).trans hc2
  have hf3 := (mods_frozen (a := ⟨x.p, 2, none⟩) hp3).trans hf2
  have hbx4 : (w3.setCell ⟨x.p, 2, none⟩ (.slice Ar (s.raws.length + 1) cr)).rangeAt W.heap.size 0 (rawL (rAppend n b) (.slice A b.length c)) := range_mods hbx3 (Below.heap_setCell _ _ _ _ (by show W.heap.size ≠ x.p; omega))
  have hcf := And.intro hc3 hf3
  refine wp_region_noPanic ?_
  refine wp_region_forkS (fun w' => w'.rangeAt W.heap.size 0 (rawL (rAppend n b) (.slice A b.length c))) [0, 1, 2, 3, 5] 4 6 [7, 8, 9, 10] (by kernel_rfl) (by kernel_rfl) (fun _ _ _ _ h => h) hbx0 ?_
  simp only [opsL, List.getElem?_cons_zero, List.getElem?_cons_succ, Option.toList_some, List.singleton_append]
  refine takesS_run rfl (.pointer (some ⟨x.p, 0, none⟩)) (fun w' hw => op_move _ rfl _ (by rfl) w') ?_
  simp only [Act.put, List.setIfInBounds_toArray, List.set_cons_zero, List.set_cons_succ]
  refine takesS_run rfl (.pointer (some ⟨x.p, 0, none⟩)) (fun w' hw => op_move _ rfl _ (by rfl) w') ?_
  simp only [Act.put, List.setIfInBounds_toArray, List.set_cons_zero, List.set_cons_succ]
  refine takesS_run rfl (.pointer (some ⟨x.p, 0, none⟩)) (fun w' hw => by go_simp) ?_
  simp only [Act.put, List.setIfInBounds_toArray, List.set_cons_zero, List.set_cons_succ]
  refine takesS_run rfl (.pointer (some ⟨x.p, 2, none⟩)) (fun w' hw => by go_simp) ?_
  simp only [Act.put, List.setIfInBounds_toArray, List.set_cons_zero, List.set_cons_succ]
  refine takesS_run rfl (.agg (rawL (rAppend n b) (.slice A b.length c)).toArray) (fun w' hw => op_load _ _ rfl _ _ (by rfl) w' (ld_raw hw)) ?_
  simp only [Act.put, List.setIfInBounds_toArray, List.set_cons_zero, List.set_cons_succ]
  simp only [wpTkS]
  have hc2a := cell_below (below_alloc1 w2.drew (.cells (rawL (rAppend n b) (.slice A b.length c)).toArray 123)) hc2
  refine ⟨_, _, x.vr, .slice (some ⟨w2.drew.heap.size, 0, none⟩) 1 1, _, rfl, rfl, rfl, rfl, op_load _ _ rfl _ _ (by rfl) _ (ld_cell under_raws rfl hc2), run_op_one_any _ 105 123 5 72 rfl under_raws info_raw (by omega) (by omega) (rawL (rAppend n b) (.slice A b.length c)) (by rfl) rfl, run_op_one_any _ 105 123 5 72 rfl under_raws info_raw (by omega) (by omega) (rawL (rAppend n b) (.slice A b.length c)) (by rfl) rfl, op_load _ _ rfl _ _ (by rfl) _ (ld_cell under_raws rfl hc2a), hbx1, rfl, ?_⟩
  simp only [Act.put, List.setIfInBounds_toArray, List.set_cons_zero, List.set_cons_succ]
  simp only [wpRowS, opsL, List.getElem?_cons_zero, List.getElem?_cons_succ, Option.toList_some, List.singleton_append]
  refine wpList_val rfl _ _ (op_append _ _ _ rfl _ _ (by rfl) (by rfl) _ _ hap3) ?_
  refine wpList_done hbx3 ?_
  simp only [Act.put, List.setIfInBounds_toArray, List.set_cons_zero, List.set_cons_succ]
  go_wp2_with fail
  refine norm_done hbx3 ?_
  go_wp2_with fail
  refine norm_done hbx3 ?_
  go_wp2_with fail
  refine norm_done hbx4 ?_
  refine noPanic_normal ?_
  exact bodyPost_end (results_none rfl _ _ _) rfl ⟨rfl, _, hAt, hSt⟩
set_option maxHeartbeats 4000000 in
theorem do_create (x : DT) (s : DSt) (n : ByteArray) (A : Option Addr) (c : Nat) (W : World) (B : Nat) (hx : x.At s W B) (hB : B ≤ W.heap.size) (hvb : OwnB W B (.slice A 0 c) []) (hap : ∀ k, (Value.slice A 0 c).ownBlock = some k → ¬ x.Mut k) (hnm : n.size ≤ 128) (hr : s.raws.length + 1 ≤ 1000000000000) :
    Calls Tryz.prog 69 #[.pointer (some ⟨x.p, 0, none⟩), .agg #[.int .i64 1, .string n, .slice A 0 c, .int .i64 0, .string ByteArray.empty]] W fun e w' => e = .returned (.tuple #[]) ∧ ∃ y : DT, y.At (s.run (rCreate n)) w' B ∧ DStepV (.slice A 0 c) x W y w' := by
  have hsz : n.size ≤ maxLen := by unfold maxLen; omega
  obtain ⟨v0, hv0⟩ : ∃ v0, v0 = (x.f n).getD (.slice none 0 0) := ⟨_, rfl⟩
  have HLK := Lib.hid (fun w' (hw : Below W.heap.size W w') => (show (Instr.lookup 104 (.map (some x.mb)) (.string n) false).run Tryz.prog w' = .ok v0 w' by
    rw [hv0]
    exact (hx.below hw).map.look under_files (zero_bs w') n hsz))
  clear hv0
  have b0 := below_alloc1 W (.cells (rawL (rCreate n) (.slice A 0 c)).toArray 123)
  have hS0 : DS x W.heap.size (rCreate n) (.slice A 0 c) (W.alloc (.cells (rawL (rCreate n) (.slice A 0 c)).toArray 123)) := ⟨cell_below b0 hx.c1, range_box W _ _⟩
  go_enter Tryz.func69, Tryz.ntmps69
  go_wp2
  refine wp_region_noPanic ?_
  refine wp_region_rowS (S := fun w' => Below W.heap.size W w' ∧ DS x W.heap.size (rCreate n) (.slice A 0 c) w') [0, 1, 2, 3, 4, 5, 6, 7] [] (by kernel_rfl) (by kernel_rfl) (fun _ _ _ _ h => h) ⟨b0.drew, hS0.below (below_drew1 _)⟩ ?_
  simp only [opsL, List.getElem?_cons_zero, List.getElem?_cons_succ, Option.toList_some, List.singleton_append]
  refine takesS_run rfl (.pointer (some ⟨x.p, 0, none⟩)) (fun w' hw => op_move _ rfl _ (by rfl) w') ?_
  simp only [Act.put, List.setIfInBounds_toArray, List.set_cons_zero, List.set_cons_succ]
  refine takesS_run rfl (.pointer (some ⟨x.p, 0, none⟩)) (fun w' hw => by go_simp) ?_
  simp only [Act.put, List.setIfInBounds_toArray, List.set_cons_zero, List.set_cons_succ]
  refine takesS_run rfl (.pointer (some ⟨x.p, 1, none⟩)) (fun w' hw => by go_simp) ?_
  simp only [Act.put, List.setIfInBounds_toArray, List.set_cons_zero, List.set_cons_succ]
  refine takesS_run rfl (.map (some x.mb)) (fun w' hw => op_load _ _ rfl _ _ (by rfl) w' (ld_cell under_files rfl hw.2.c1)) ?_
  simp only [Act.put, List.setIfInBounds_toArray, List.set_cons_zero, List.set_cons_succ]
  refine takesS_run rfl (.pointer (some ⟨W.heap.size, 1, none⟩)) (fun w' hw => by go_simp) ?_
  simp only [Act.put, List.setIfInBounds_toArray, List.set_cons_zero, List.set_cons_succ]
  refine takesS_run rfl (.string n) (fun w' hw => op_load _ _ rfl _ _ (by rfl) w' (ld_cell Tryz.underlying9 rfl hw.2.name)) ?_
  simp only [Act.put, List.setIfInBounds_toArray, List.set_cons_zero, List.set_cons_succ]
  refine takesS_run rfl (v0) (fun w' hw => op_lookup _ _ _ _ rfl _ _ _ (by rfl) (by rfl) w' (HLK.out w' hw.1)) ?_
  simp only [Act.put, List.setIfInBounds_toArray, List.set_cons_zero, List.set_cons_succ]
  refine takesS_run rfl (v0) (fun w' hw => op_assign _ rfl _ (by rfl) w') ?_
  simp only [Act.put, List.setIfInBounds_toArray, List.set_cons_zero, List.set_cons_succ]
  simp only [wpTkS, wpRowS]
  rename_i Kx hKx
  refine hKx _ _ ?_
  clear hKx
  obtain ⟨wa, hwa⟩ : ∃ wa, wa = (W.alloc (.cells (rawL (rCreate n) (.slice A 0 c)).toArray 123)).drew := ⟨_, rfl⟩
  have hba : Below W.heap.size W wa := by rw [hwa]; exact b0.drew
  have hSa : DS x W.heap.size (rCreate n) (.slice A 0 c) wa := by rw [hwa]; exact hS0.below (below_drew1 _)
  have hza : W.heap.size + 1 ≤ wa.heap.size := World.block_lt_of_cell? wa _ hSa.kind
  change Code.wp _ _ _ _ ((W.alloc (.cells (rawL (rCreate n) (.slice A 0 c)).toArray 123)).drew)
  rw [← hwa]
  clear hwa b0 hS0
  have ck : wa.cell? ⟨W.heap.size, 0, none⟩ = some (.int .i64 1) := hSa.kind
  go_wp2_with fail
  refine wp_region_noPanic ?_
  refine wp_region_rowS (S := fun w' => DS x W.heap.size (rCreate n) (.slice A 0 c) w') [0, 1, 2, 3, 4, 5] [6] (by kernel_rfl) (by kernel_rfl) (fun _ _ _ _ h => h) (hSa.below (below_drew1 _)) ?_
  simp only [opsL, List.getElem?_cons_zero, List.getElem?_cons_succ, Option.toList_some, List.singleton_append]
  refine takesS_run rfl (.pointer (some ⟨x.p, 0, none⟩)) (fun w' hw => op_move _ rfl _ (by rfl) w') ?_
  simp only [Act.put, List.setIfInBounds_toArray, List.set_cons_zero, List.set_cons_succ]
  refine takesS_run rfl (.pointer (some ⟨x.p, 0, none⟩)) (fun w' hw => by go_simp) ?_
  simp only [Act.put, List.setIfInBounds_toArray, List.set_cons_zero, List.set_cons_succ]
  refine takesS_run rfl (.pointer (some ⟨x.p, 1, none⟩)) (fun w' hw => by go_simp) ?_
  simp only [Act.put, List.setIfInBounds_toArray, List.set_cons_zero, List.set_cons_succ]
  refine takesS_run rfl (.map (some x.mb)) (fun w' hw => op_load _ _ rfl _ _ (by rfl) w' (ld_cell under_files rfl hw.c1)) ?_
  simp only [Act.put, List.setIfInBounds_toArray, List.set_cons_zero, List.set_cons_succ]
  refine takesS_run rfl (.pointer (some ⟨W.heap.size, 1, none⟩)) (fun w' hw => by go_simp) ?_
  simp only [Act.put, List.setIfInBounds_toArray, List.set_cons_zero, List.set_cons_succ]
  refine takesS_run rfl (.string n) (fun w' hw => op_load _ _ rfl _ _ (by rfl) w' (ld_cell Tryz.underlying9 rfl hw.name)) ?_
  simp only [Act.put, List.setIfInBounds_toArray, List.set_cons_zero, List.set_cons_succ]
  simp only [wpTkS, wpRowS, opsL, List.getElem?_cons_zero, List.getElem?_cons_succ, Option.toList_some, List.singleton_append]
  have hmW : x.mb < W.heap.size := hx.lt (.inl (.inr (.inl rfl)))
  have hm1 : MapAt wa.drew x.mb s.raws.length x.f := hx.map.kept (hba.block _ hmW)
  obtain ⟨w2, hrun, hm2, ht⟩ := hm1.store under_files (by unfold maxLen; omega) n hsz (.slice none 0 0)
  have hS2 : DS x W.heap.size (rCreate n) (.slice A 0 c) w2 := (hSa.below (below_drew1 _)).mods (turned_block ht hx.pm) (turned_block ht (by omega))
  have hM : DMid x s (rCreate n) (.slice A 0 c) W B (upd x.f n (some (.slice none 0 0))) w2 := DMid.put (wa := wa.drew) (wc := wa.drew) (row := none) hx hba.drew hza hS2.box ⟨rfl, rfl, rfl, Nat.le_refl _, fun _ _ _ => rfl⟩ (.inl rfl) (OwnB.nil _ _) (fun k hk => (by cases hk)) ht hm2 rfl
  refine wpList_update rfl _ _ _ _ rfl (.map (some x.mb)) (.string n) (.slice none 0 0) rfl rfl rfl hrun ?_
  refine wpList_done hS2 ?_
  rename_i Ky hKy
  refine hKy _ _ ?_
  clear hKy hm1 hrun ht hm2 hSa hba ck HLK
  have hok : RawOk (rCreate n) := ⟨hnm, by show ByteArray.empty.size ≤ 128; decide, by show 0 ≤ _; omega, by show 1 ≤ 1; omega, by show 1 ≤ 5; omega⟩
  go_wp2_with fail
  have hMd := hM.drew
  have hrow := hMd.row hx
  have hpb := hMd.pb hx
  have hc2 := (mods_cell (a := ⟨x.p, 2, none⟩) hpb).trans hx.c2
  have hf2 := (mods_frozen (a := ⟨x.p, 2, none⟩) hpb).trans hx.fr
  have hzM := hMd.size
  have hpW' : x.p < W.heap.size := hx.lt (.inl (.inl rfl))
  obtain ⟨vr', w3, hap3, ho3, hg3, hat3⟩ := run_app_any (w := w2.drew) 105 105 123 5 72 under_raws info_raw (by omega) (by omega) B s.raws.length x.vr (rawsL s.raws x.us) hrow (rawL (rCreate n) (.slice A 0 c)) rfl (rawL_one _ rfl) (by omega) (by omega)
  obtain ⟨hAt, hSt⟩ := hMd.record hx hvb hap hok ho3 hg3 hat3
  obtain ⟨Ar, cr, er, -, -, -⟩ := owns_form ho3
  subst er
  have hvrp : x.vr.ownBlock ≠ some x.p := hx.rp.1
  have hvrb : x.vr.ownBlock ≠ some W.heap.size := fun e => by have := hx.lt (.inl (.inr (.inr (.inl e)))); omega
  have hbx0 := hMd.box
  have hbx1 := range_below hbx0 (below_alloc1 w2.drew (.cells (rawL (rCreate n) (.slice A 0 c)).toArray 123))
  have hza1 : (w2.drew.alloc (.cells (rawL (rCreate n) (.slice A 0 c)).toArray 123)).heap.size = w2.drew.heap.size + 1 := by simp
  have hbx3 := range_mods hbx1 (hg3.block W.heap.size (by omega) (fun e => hvrb e.symm))
  have hp3 : w3.heap[x.p]? = w2.drew.heap[x.p]? := (hg3.block x.p (by omega) (fun e => hvrp e.symm)).trans ((below_alloc1 w2.drew _).block x.p (by omega))
  have hc3 := (mods_cell (a := ⟨x.p, 2, none⟩) hp3).trans hc2
  have hf3 := (mods_frozen (a := ⟨x.p, 2, none⟩) hp3).trans hf2
  have hbx4 : (w3.setCell ⟨x.p, 2, none⟩ (.slice Ar (s.raws.length + 1) cr)).rangeAt W.heap.size 0 (rawL (rCreate n) (.slice A 0 c)) := range_mods hbx3 (Below.heap_setCell _ _ _ _ (by show W.heap.size ≠ x.p; omega))
  have hcf := And.intro hc3 hf3
  refine wp_region_noPanic ?_
  refine wp_region_forkS (fun w' => w'.rangeAt W.heap.size 0 (rawL (rCreate n) (.slice A 0 c))) [0, 1, 2, 3, 5] 4 6 [7, 8, 9, 10] (by kernel_rfl) (by kernel_rfl) (fun _ _ _ _ h => h) hbx0 ?_
  simp only [opsL, List.getElem?_cons_zero, List.getElem?_cons_succ, Option.toList_some, List.singleton_append]
  refine takesS_run rfl (.pointer (some ⟨x.p, 0, none⟩)) (fun w' hw => op_move _ rfl _ (by rfl) w') ?_
  simp only [Act.put, List.setIfInBounds_toArray, List.set_cons_zero, List.set_cons_succ]
  refine takesS_run rfl (.pointer (some ⟨x.p, 0, none⟩)) (fun w' hw => op_move _ rfl _ (by rfl) w') ?_
  simp only [Act.put, List.setIfInBounds_toArray, List.set_cons_zero, List.set_cons_succ]
  refine takesS_run rfl (.pointer (some ⟨x.p, 0, none⟩)) (fun w' hw => by go_simp) ?_
  simp only [Act.put, List.setIfInBounds_toArray, List.set_cons_zero, List.set_cons_succ]
  refine takesS_run rfl (.pointer (some ⟨x.p, 2, none⟩)) (fun w' hw => by go_simp) ?_
  simp only [Act.put, List.setIfInBounds_toArray, List.set_cons_zero, List.set_cons_succ]
  refine takesS_run rfl (.agg (rawL (rCreate n) (.slice A 0 c)).toArray) (fun w' hw => op_load _ _ rfl _ _ (by rfl) w' (ld_raw hw)) ?_
  simp only [Act.put, List.setIfInBounds_toArray, List.set_cons_zero, List.set_cons_succ]
  simp only [wpTkS]
  have hc2a := cell_below (below_alloc1 w2.drew (.cells (rawL (rCreate n) (.slice A 0 c)).toArray 123)) hc2
  refine ⟨_, _, x.vr, .slice (some ⟨w2.drew.heap.size, 0, none⟩) 1 1, _, rfl, rfl, rfl, rfl, op_load _ _ rfl _ _ (by rfl) _ (ld_cell under_raws rfl hc2), run_op_one_any _ 105 123 5 72 rfl under_raws info_raw (by omega) (by omega) (rawL (rCreate n) (.slice A 0 c)) (by rfl) rfl, run_op_one_any _ 105 123 5 72 rfl under_raws info_raw (by omega) (by omega) (rawL (rCreate n) (.slice A 0 c)) (by rfl) rfl, op_load _ _ rfl _ _ (by rfl) _ (ld_cell under_raws rfl hc2a), hbx1, rfl, ?_⟩
  simp only [Act.put, List.setIfInBounds_toArray, List.set_cons_zero, List.set_cons_succ]
  simp only [wpRowS, opsL, List.getElem?_cons_zero, List.getElem?_cons_succ, Option.toList_some, List.singleton_append]
  refine wpList_val rfl _ _ (op_append _ _ _ rfl _ _ (by rfl) (by rfl) _ _ hap3) ?_
  refine wpList_done hbx3 ?_
  simp only [Act.put, List.setIfInBounds_toArray, List.set_cons_zero, List.set_cons_succ]
  go_wp2_with fail
  refine norm_done hbx3 ?_
  go_wp2_with fail
  refine norm_done hbx3 ?_
  go_wp2_with fail
  refine norm_done hbx4 ?_
  refine noPanic_normal ?_
  exact bodyPost_end (results_none rfl _ _ _) rfl ⟨rfl, _, hAt, hSt⟩
end Go.Proofs.YtjllkmkngjdjjaaGreatDoor
