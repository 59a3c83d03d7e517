/- WORDS: a []api.Digest that the call owns, digests put behind it (blocks of XDigO, XDigP, XDigI; written by pick.py). No statement of the seed is proved here. A LAW OF MY OWN: the kit's law of a region that draws its order and only reads ('wpIn_region_quiet'), in a round of a range over a function too: a region without a deferred call. No statement of the seed is proved here. WORDS: one cell that a round writes (blocks of XDigD, XDigQ, XDigC, XDigH; written by pick.py). No statement of the seed is proved here. A ROW IN A CELL THAT ROUNDS MAKE LONGER, for a range over a function. No statement of the seed is proved here. WALKS of the reference's Digits, and what the names are made of. No statement of the seed is proved here. WALKS of the laws JournalNames and BundleNames. No statement of the seed is proved here. -/
import Derived.Test.YtjllkmkngjdjjaaGreatDoorDsB
import Derived.Test.YtjllkmkngjdjjaaGreatDoorAny
import Derived.Test.YtjllkmkngjdjjaaGreatDoorPair
import Derived.Test.YtjllkmkngjdjjaaGreatDoorUptoB
import Derived.Sort.BigQuietIn
import Derived.Sort.QuietTacIn
import Derived.OwnWalkIn
import Derived.Test.YtjllkmkngjdjjaaGreatDoorIterL
import Derived.Stop.BytesEq
import Derived.Test.YtjllkmkngjdjjaaGreatDoorShelf
import Derived.Lib.ItoaNum
import Derived.Lib.AppendIntMem
namespace Go.Proofs.YtjllkmkngjdjjaaGreatDoor
open Go.RowKit
set_option maxRecDepth 100000
variable {F : Fence} {n : Nat} {w : World} {ops : Array Oper} {rest : List Oper} {o : Oper} {a : Act} {Q : Exit → Act → World → Prop}
def digsL (ds : List (List UInt8)) : List Value := ds.flatMap u8s
def Wid32 (ds : List (List UInt8)) : Prop := ∀ d ∈ ds, d.length = 32
theorem digsL_length : ∀ (ds : List (List UInt8)), Wid32 ds → (digsL ds).length = ds.length * 32
  | [], _ => rfl
  | d :: ds, h => by
    have := digsL_length ds (fun e he => h e (by simp [he]))
    unfold digsL at *
    rw [List.flatMap_cons, List.length_append, this, u8s_length, h d (by simp), List.length_cons]
    omega
theorem digsL_append (a b : List (List UInt8)) : digsL (a ++ b) = digsL a ++ digsL b := by simp [digsL]
theorem digsL_one (d : List UInt8) : digsL [d] = u8s d := by simp [digsL]
theorem digsL_get : ∀ (ds : List (List UInt8)), Wid32 ds → ∀ (i : Nat) (hi : i < ds.length) (j : Nat), j < 32 → (digsL ds)[i * 32 + j]? = (u8s ds[i])[j]?
  | [], _, i, hi, _, _ => by simp at hi
  | d :: ds, h, 0, _, j, hj => by
    rw [show digsL (d :: ds) = u8s d ++ digsL ds from rfl, Nat.zero_mul, Nat.zero_add, List.getElem?_append_left (by rw [u8s_length, h d (by simp)]; exact hj)]
    rfl
  | d :: ds, h, i + 1, hi, j, hj => by
    have ih := digsL_get ds (fun e he => h e (by simp [he])) i (by simpa using hi) j hj
    have hl : (u8s d).length = 32 := by rw [u8s_length, h d (by simp)]
    rw [show digsL (d :: ds) = u8s d ++ digsL ds from rfl, List.getElem?_append_right (by omega), hl, show (i + 1) * 32 + j - 32 = i * 32 + j by omega, ih]
    simp
/-- A []api.Digest that the call owns. -/
def DsO (w : World) (B : Nat) (v : Value) (ds : List (List UInt8)) : Prop := w.ownsRow B 33 32 v ds.length (digsL ds) ∧ Wid32 ds
theorem DsO.nil (w : World) (B : Nat) : DsO w B (.slice none 0 0) [] := ⟨World.ownsRow_nil _ _ _ _, fun d h => (by cases h)⟩
theorem DsO.below {w w1 : World} {B : Nat} {v : Value} {ds : List (List UInt8)} (h : DsO w B v ds) (hb : Below w.heap.size w w1) : DsO w1 B v ds := ⟨owns_below h.1 hb, h.2⟩
theorem DsO.ds {w : World} {B : Nat} {v : Value} {ds : List (List UInt8)} (h : DsO w B v ds) : Ds w v ds := by
  have hr := Row.of_owns h.1
  obtain ⟨h, hw⟩ := h
  rcases h with ⟨hl, ⟨rfl, hn⟩ | ⟨g, cap, cur, rfl, hb, hg, hn, hm, hs, ht⟩⟩
  · have : ds = [] := List.eq_nil_of_length_eq_zero (by simpa using hn)
    subst this
    exact ⟨none, 0, rfl, Nat.le_refl _, by unfold maxLen; omega, fun _ => rfl, by simp, fun j h => by simp at h⟩
  · refine ⟨some ⟨g, 0, none⟩, cap, rfl, hn, hm, fun h => (by cases h), hw, fun j hj => ⟨g, 0, rfl, fun q u hu => ?_⟩⟩
    have hq : q < 32 := by have := (List.getElem?_eq_some_iff.1 hu).1; rwa [u8s_length, hw _ (List.getElem_mem hj)] at this
    rw [← digsL_get ds hw j hj q hq] at hu
    obtain ⟨ad, ha, hc⟩ := hr.at_ (j * 32 + q) hu
    cases ha
    rw [Addr.add_mid] at hc
    rw [← Nat.add_assoc] at hc
    exact hc
theorem DsO.form {w : World} {B : Nat} {v : Value} {ds : List (List UInt8)} (h : DsO w B v ds) : ∃ A c, v = .slice A ds.length c ∧ ds.length ≤ c ∧ c ≤ 9223372036854775807 := h.ds.form
theorem info_digest : (Tryz.prog.info? 33).map (fun i => (i.zero.map (·.cells.size), i.size, i.bytes)) = some (some 32, 32, 32) := by kernel_rfl
theorem run_app_digest {w : World} (ty : TypeId) (B : Nat) (v : Value) (ds : List (List UInt8)) (hown : DsO w B v ds) (d : List UInt8) (hd : d.length = 32) (hn : ds.length + 1 ≤ 4000000) (hB : B ≤ w.heap.size) :
    ∃ v' w', (Builtin.append_ #[31, 31] ty #[v, .slice (some ⟨w.heap.size, 0, none⟩) 1 1]).run Tryz.prog (w.alloc (.cells (u8s d).toArray 33)) = .ok v' w' ∧ DsO w' B v' (ds ++ [d]) ∧
      (w.alloc (.cells (u8s d).toArray 33)).grownBy w' v.ownBlock ∧ (v'.ownBlock = v.ownBlock ∨ v'.ownBlock = some (w.heap.size + 1)) := by
  have ht : Tryz.prog.underlying 31 = some (.slice 33) := by kernel_rfl
  obtain ⟨i, hi, hq⟩ := Option.map_eq_some_iff.1 info_digest
  simp only [Prod.mk.injEq] at hq
  obtain ⟨q1, q2, q3⟩ := hq
  obtain ⟨z, hz, hzs⟩ := Option.map_eq_some_iff.1 q1
  have hl : (u8s d).length = 1 * 32 := by rw [u8s_length, hd]
  obtain ⟨v', w', e1, e2, e3, _, e5⟩ := run_append_own_at (P := Tryz.prog) (w.alloc (.cells (u8s d).toArray 33)) B 31 ty 33 i z 32 32 ht hi hz q2 q3 hzs (by omega) v ds.length (digsL ds) (World.ownsRow.alloc hown.1 _) ⟨w.heap.size, 0, none⟩ 1 1 (u8s d) hl (fun j u hu => by
    rw [add_plain, cell_of_row _ w.heap.size j _ _ (0, 0) (heap_alloc_new w _)]
    simpa using hu) (u8s_one d) (by unfold maxLen; omega) (by omega) (by simp; omega)
  refine ⟨v', w', e1, ⟨?_, fun e he => ?_⟩, e3, by simpa using e5⟩
  · rw [List.length_append, digsL_append, digsL_one]
    exact e2
  · rcases List.mem_append.1 he with he | he
    · exact hown.2 e he
    · simp at he; subst he; exact hd
theorem run_op_one_digest {w : World} {o : Oper} {ρ : Operand → Value} (x : Operand) (ho : o.op = .buildSlice 31 1 #[(0, x)]) (d : List UInt8) (hx : ρ x = .agg (u8s d).toArray) (hl : d.length = 32) :
    (execOp ρ o).run Tryz.prog w = .ok (.value (.slice (some ⟨w.heap.size, 0, none⟩) 1 1)) (w.alloc (.cells (u8s d).toArray 33)) := by
  obtain ⟨i, hi, hq⟩ := Option.map_eq_some_iff.1 info_digest
  simp only [Prod.mk.injEq] at hq
  obtain ⟨q1, q2, q3⟩ := hq
  obtain ⟨z, hz, hzs⟩ := Option.map_eq_some_iff.1 q1
  have hul : (u8s d).length = 32 := by rw [u8s_length, hl]
  have hf := Great.fill_whole (s := 32) (by omega) [.agg (u8s d).toArray] ((Array.range (1 * 32)).map (z.cells[· % z.cells.size]!)) (by simp [Value.cells, hul]) (by simp)
  unfold execOp
  simp only [ho, Sem.run_bind, Sem.run_pure]
  rw [run_buildSlice w 31 33 1 _ (u8s d).toArray i z (by kernel_rfl) hi hz (by rw [q2]; omega) (by rw [q2]; omega) (by rw [q2]; simpa [hx, Value.cells] using hf)]
  rfl
theorem wpListIn_one_digest (hg : o.guard = none) (x : Operand) (ho : o.op = .buildSlice 31 1 #[(0, x)]) (d : List UInt8) (hx : a.eval x = .agg (u8s d).toArray) (hl : d.length = 32)
    (h : wpListIn F n Tryz.prog ops Q rest (a.put o.dst (.slice (some ⟨w.heap.size, 0, none⟩) 1 1)) (w.alloc (.cells (u8s d).toArray 33))) : wpListIn F n Tryz.prog ops Q (o :: rest) a w :=
  wpListIn_val hg (by rw [ho]; intro c hc; cases hc) (by simp [Oper.about, ho]) _ _ (run_op_one_digest x ho d hx hl) h
theorem wpListIn_app_digest (hgd : o.guard = none) (s x : Operand) (ho : o.op = .call { callee := .builtin .append, args := #[s, x], argTypes := #[31, 31] }) (B : Nat) (v : Value) (hs : a.eval s = v) (ds : List (List UInt8)) (hown : DsO w B v ds)
    (d : List UInt8) (hd : d.length = 32) (hx : a.eval x = .slice (some ⟨w.heap.size, 0, none⟩) 1 1) (hn : ds.length + 1 ≤ 4000000) (hB : B ≤ w.heap.size)
    (h : ∀ v' w', DsO w' B v' (ds ++ [d]) → (w.alloc (.cells (u8s d).toArray 33)).grownBy w' v.ownBlock → (v'.ownBlock = v.ownBlock ∨ v'.ownBlock = some (w.heap.size + 1)) → wpListIn F n Tryz.prog ops Q rest (a.put o.dst v') w') :
    wpListIn F n Tryz.prog ops Q (o :: rest) a (w.alloc (.cells (u8s d).toArray 33)) := by
  obtain ⟨v', w', h1, h2, h3, h4⟩ := run_app_digest o.type B v ds hown d hd hn hB
  exact wpListIn_val hgd (by rw [ho]; intro c hc; cases hc) (about_append s x _ ho) v' w' (run_op_append s x _ ho v _ hs hx v' w' h1) (h v' w' h2 h3 h4)
theorem wpListIn_store_run {F : Fence} {n : Nat} {P : Program} {w : World} {ops : Array Oper} {rest : List Oper} {o : Oper} {a : Act} {Q : Exit → Act → World → Prop} (hg : o.guard = Option.none) (ty : TypeId) (x y : Operand) (ho : o.op = .store ty x y)
    (p v : Value) (hx : a.eval x = p) (hy : a.eval y = v) (w' : World) (hr : (Instr.storeAt ty p v).run P w = .ok () w') (h : wpListIn F n P ops Q rest (a.put o.dst undef) w') : wpListIn F n P ops Q (o :: rest) a w := by
  refine wpListIn_plain hg fun K' hK' => ?_
  unfold Oper.wpIn
  refine ⟨by simp [Oper.about, ho], ?_⟩
  rw [Oper.semAt_plain F _ _ (by rw [ho]; intro c hc'; cases hc')]
  simp [execOp, ho, hx, hy, hr, Result.andThen]
  exact hK' _ _ h
end Go.Proofs.YtjllkmkngjdjjaaGreatDoor
namespace Go.Proofs.YtjllkmkngjdjjaaGreatDoor
open Go.RowKit
section
variable {F : Fence} {n : Nat} {P : Program} {ops : Array Oper} {md : Region.Mode} {C : World → Prop}
def noDefer (ops : Array Oper) : Bool := ops.all fun o => match o.op with | .defer _ => false | _ => true
theorem noDefer_at {i : Nat} {o : Oper} (h : noDefer ops = true) (hi : ops[i]? = some o) : ∀ c, o.op ≠ .defer c := by
  intro c hc
  unfold noDefer at h
  rw [Array.all_eq_true] at h
  obtain ⟨hlt, he⟩ := Array.getElem?_eq_some_iff.1 hi
  have := h i hlt
  rw [he, hc] at this
  simp at this
theorem wpIn_of_quiet_any {o : Oper} {a : Act} {K : Act → Prop} {K' : Act → World → Prop} {Q' : Exit → Act → World → Prop} {w : World} (hd : ∀ c, o.op ≠ .defer c) (hw : C w) (h : ∀ a w', C w' → K a → K' a w')
    (ha : o.askedIn F P a C) (hh : o.quietIn F n P a C K) : o.wpIn F n P a w K' Q' := by
  obtain ⟨v, h1, h2⟩ := hh
  have h3 := h1 w hw
  unfold Oper.quietAtIn at h3
  unfold Oper.wpIn
  refine ⟨ha w hw, ?_⟩
  rw [Oper.semAt_plain F _ _ hd]
  generalize (execOp a.eval o).run P w = r at *
  cases r with
  | ok x w' =>
    cases x <;> simp only [Oper.quietUponIn] at h3 <;> simp only [Oper.uponIn]
    case value u =>
      obtain ⟨e1, e2⟩ := h3
      rw [e1, e2]
      exact h _ _ hw h2
    case skip =>
      obtain ⟨e1, e2⟩ := h3
      rw [e1, ← e2]
      exact h _ _ hw h2
    case enter f args =>
      obtain ⟨e1, hdp, hc⟩ := h3
      rw [e1]
      exact ⟨hdp, hc.mono fun e w'' ⟨he, hw''⟩ => by subst he; exact h _ _ hw'' h2⟩
  | halt x w' => simp only [Oper.quietUponIn] at h3
theorem wpOpIn_of_qOpIn_any {i : Nat} {a : Act} {K : Act → Prop} {K' : Act → World → Prop} {Q' : Exit → Act → World → Prop} {w : World} (hd : noDefer ops = true) (hC : C w) (h : ∀ a w', C w' → K a → K' a w')
    (hh : qOpIn F n P ops C i K a) : wpOpIn F n P ops Q' i K' a w := by
  unfold qOpIn at hh
  unfold wpOpIn
  split
  · rename_i ho; simp only [ho] at hh; exact h _ _ hC hh
  · rename_i o ho
    simp only [ho] at hh
    obtain ⟨ha, hh⟩ := hh
    split
    · rename_i hw; simp only [hw, if_true] at hh; exact wpIn_of_quiet_any (noDefer_at hd ho) hC h ha hh
    · rename_i hw; simp only [hw] at hh; exact ⟨ha w hC, h _ _ hC hh⟩
theorem wpAnyIn_of_quiet_any {Q : Act → Prop} {Q' : Exit → Act → World → Prop} (hd : noDefer ops = true) (hQ : ∀ a w, C w → Q a → Q' .normal a w) : ∀ (fuel : Nat) (listed : Array Bool) (a : Act) (w : World), C w →
    wpAnyQIn F n P md ops C Q fuel listed a → wpAnyIn F n P md ops Q' fuel listed a w
  | 0, _, _, _, hw, h => ⟨h.1, hQ _ _ hw h.2⟩
  | fuel + 1, _, _, _, hw, h => ⟨fun h0 => hQ _ _ hw (h.1 h0), fun i hi => wpOpIn_of_qOpIn_any hd hw (fun a' w' hw' => wpAnyIn_of_quiet_any hd hQ fuel _ a' w' hw') (h.2 i hi)⟩
theorem wpIn_region_quiet_any {id : Nat} {Q : Exit → Act → World → Prop} {a : Act} {w : World} {l : List Oper} (hd : noDefer l.toArray = true) (hm : P.follows .mixedOrders = true) (hB : Region.lexB .any l.toArray = true)
    (h : wpQuietIn F n P l.toArray (fun w' => ∃ n, w' = w.drewN n) (fun a' => ∀ w', (∃ n, w' = w.drewN n) → Q .normal a' w') l a) : (Code.region id l.toArray true).wpIn F n P Q a w := by
  simp only [Region.lexB, Bool.and_eq_true] at hB
  refine wpIn_region_any hm (wpAnyIn_of_quiet_any (C := fun w' => ∃ n, w' = w.drewN n) (Q := fun a' => ∀ w', (∃ n, w' = w.drewN n) → Q .normal a' w') hd (fun _ w' hw' h => h w' hw') _ _ _ _ ⟨1, rfl⟩ ?_)
  have := wpAnyQIn_lex (F := F) (n := n) (C := fun w' => ∃ n, w' = w.drewN n) (md := .any) hB.1 l.toArray.toList 0 (Array.replicate l.toArray.size false) a (by simp) (by simpa using hB.2) h
  simpa using this
end
end Go.Proofs.YtjllkmkngjdjjaaGreatDoor
namespace Go.Proofs.YtjllkmkngjdjjaaGreatDoor
open Go.RowKit
set_option maxRecDepth 100000
theorem rangeAt_drewN {w : World} {g o : Nat} {cs : List Value} (h : w.rangeAt g o cs) (n : Nat) : (w.drewN n).rangeAt g o cs := rangeAt_below h (below_drewN (Below.refl _ _) n)
theorem eql_digest (xs ys : List UInt8) (hx : xs.length = 32) (hy : ys.length = 32) (w : World) :
    (binOp .eql 33 (.agg (u8s xs).toArray) (.agg (u8s ys).toArray)).run Tryz.prog w = .ok (.bool (xs == ys)) w :=
  run_eql_bytes w 33 5 32 (by kernel_rfl) (by kernel_rfl) (fun w => by
    have hi : (Tryz.prog.info? 5).map (·.size) = some 1 := by kernel_rfl
    obtain ⟨i, h1, h2⟩ := Option.map_eq_some_iff.1 hi
    rw [run_sizeOf _ h1]; simp [Program.cellsOf, h1, h2]) xs ys hx hy
theorem run_op_load {P : Program} {o : Oper} {ρ : Operand → Value} (ty : TypeId) (x : Operand) (ho : o.op = .load ty x) (p v : Value) (hx : ρ x = p) (w : World) (hr : (Instr.loadAt ty p).run P w = .ok v w) : (execOp ρ o).run P w = .ok (.value v) w := by
  unfold execOp
  simp only [ho, hx, Sem.run_bind, Sem.run_pure, hr, Result.andThen_ok]
theorem cell_mods {w w' : World} {a : Addr} (h : w'.heap[a.block]? = w.heap[a.block]?) : w'.cell? a = w.cell? a := World.cell?_of_block h
theorem frozen_mods {w w' : World} {a : Addr} (h : w'.heap[a.block]? = w.heap[a.block]?) : w'.frozen? a = w.frozen? a := World.frozen?_of_block h
/-- All is as it was but the block p. -/
structure Nearly (p : Nat) (w w' : World) : Prop where
  os : w'.os = w.os
  tape : w'.tape = w.tape
  output : w'.output = w.output
  size : w.heap.size ≤ w'.heap.size
  block : ∀ k, k < w.heap.size → k ≠ p → w'.heap[k]? = w.heap[k]?
theorem Nearly.of_below {p : Nat} {w w' : World} (h : Below w.heap.size w w') : Nearly p w w' := ⟨h.os, h.tape, h.output, h.size, fun k hk _ => h.block k hk⟩
theorem Nearly.then_below {p : Nat} {w w1 w2 : World} (h : Nearly p w w1) (k : Below w1.heap.size w1 w2) : Nearly p w w2 :=
  ⟨k.os.trans h.os, k.tape.trans h.tape, k.output.trans h.output, Nat.le_trans h.size k.size, fun i hi hp => (k.block i (Nat.lt_of_lt_of_le hi h.size)).trans (h.block i hi hp)⟩
theorem Nearly.set {p : Nat} {w w1 : World} (h : Nearly p w w1) (o : Nat) (v : Value) : Nearly p w (w1.setCell ⟨p, o, none⟩ v) :=
  ⟨h.os, h.tape, h.output, by simpa [World.setCell] using h.size, fun i hi hp => (Below.heap_setCell _ _ _ _ hp).trans (h.block i hi hp)⟩
theorem run_op_neq {o : Oper} {ρ : Operand → Value} (ty2 : TypeId) (x y : Operand) (ho : o.op = .binOp .neq 33 x y ty2) (a b : List UInt8) (ha : a.length = 32) (hb : b.length = 32) (hx : ρ x = .agg (u8s a).toArray) (hy : ρ y = .agg (u8s b).toArray) (w : World) : (execOp ρ o).run Tryz.prog w = .ok (.value (.bool (a != b))) w := by
  unfold execOp
  have hg : (eqGuard .neq 33 x y (.agg (u8s a).toArray) (.agg (u8s b).toArray)).run Tryz.prog w = .ok () w := by
    simp [eqGuard, Tryz.eqGuardType33]
  have he := eql_digest a b ha hb w
  have hn : (binOp .neq 33 (.agg (u8s a).toArray) (.agg (u8s b).toArray)).run Tryz.prog w = .ok (.bool (a != b)) w := by
    simp only [binOp] at he ⊢
    simp only [Sem.run_bind] at he ⊢
    generalize (Op.equal 33 (.agg (u8s a).toArray) (.agg (u8s b).toArray)).run Tryz.prog w = r at he ⊢
    cases r with
    | ok q w' =>
      simp only [Result.andThen_ok, Sem.run_pure] at he ⊢
      cases he
      rfl
    | halt h w' => simp [Result.andThen] at he
  simp only [ho, hx, hy, Sem.run_bind, Sem.run_pure, hg, hn, Result.andThen_ok]
theorem wpQuietIn_run {F : Fence} {n : Nat} {P : Program} {ops : Array Oper} {C : World → Prop} {Q : Act → Prop} {o : Oper} {rest : List Oper} {a : Act} (hw : Region.wanted o (yielded ops a.tmps) = true) (ha : ∀ w, o.about P w a.eval = none) (v : Value)
    (hr : ∀ w, C w → (execOp a.eval o).run P w = .ok (.value v) w) (h : wpQuietIn F n P ops C Q rest (a.put o.dst v)) : wpQuietIn F n P ops C Q (o :: rest) a :=
  wpQuietIn_step (fun w _ f hf => by rw [ha w] at hf; cases hf) fun K hK => by
    rw [if_pos hw]
    refine ⟨v, fun w hw => ?_, hK _ h⟩
    unfold Oper.quietAtIn
    rw [hr w hw]
    exact ⟨rfl, rfl⟩
theorem Nearly.turn {p : Nat} {w V V' : World} {row : Option Nat} (h : Nearly p w V) (hg : V.grownBy V' row) (hr : ∀ r, row = some r → w.heap.size ≤ r ∧ ∃ o : Obj, V.heap[r]? = some o ∧ o.isCells = false) : Nearly p w V' :=
  ⟨hg.os.trans h.os, hg.tape.trans h.tape, hg.output.trans h.output, Nat.le_trans h.size hg.size, fun k hk hkp => (hg.block k (Nat.lt_of_lt_of_le hk h.size) (fun e => by have := (hr k e.symm).1; omega)).trans (h.block k hk hkp)⟩
theorem Nearly.trans {p : Nat} {a b c : World} (h : Nearly p a b) (k : Nearly p b c) : Nearly p a c :=
  ⟨k.os.trans h.os, k.tape.trans h.tape, k.output.trans h.output, Nat.le_trans h.size k.size, fun i hi hp => (k.block i (Nat.lt_of_lt_of_le hi h.size) hp).trans (h.block i hi hp)⟩
theorem Nearly.cell {p : Nat} {w V : World} (h : Nearly p w V) {a : Addr} {v : Value} (hc : w.cell? a = some v) (hp : a.block ≠ p) : V.cell? a = some v := (cell_mods (h.block _ (World.block_lt_of_cell? w a hc) hp)).trans hc
theorem Nearly.frozen {p : Nat} {w V : World} (h : Nearly p w V) {a : Addr} {v : Value} (hc : w.cell? a = some v) (hf : w.frozen? a = false) (hp : a.block ≠ p) : V.frozen? a = false := (frozen_mods (h.block _ (World.block_lt_of_cell? w a hc) hp)).trans hf
/-- A digest in a box that a round made. -/
def BoxD (b : Nat) (d : List UInt8) (V0 V2 : World) : Prop := V2.rangeAt b 0 (u8s d)
theorem BoxD.turn {b : Nat} {d : List UInt8} (V0 V2 : World) (l : Nat) (o o' : Obj) (h : BoxD b d V0 V2) (_ : V0.heap[l]? = some o) (h2 : V2.heap[l]? = some o) (ho : o.isCells = false) : BoxD b d (V0.putObj l o') (V2.putObj l o') :=
  fun j u hu => turn_cell (grown_putObj V2 h2 o') (fun r e => by cases e; exact ⟨o, h2, ho⟩) (h j u hu)
/-- Where the second loop stands. -/
structure KAt (ws : World) (bi : Nat) (n : Nat) (V : World) : Prop where
  i : V.cell? ⟨bi, 0, none⟩ = some (.int .i64 (n : Int))
  fr : V.frozen? ⟨bi, 0, none⟩ = false
  near : Nearly bi ws V
theorem KAt.turn {ws : World} {bi n : Nat} {V V' : World} {row : Option Nat} (h : KAt ws bi n V) (hg : V.grownBy V' row) (hr : ∀ r, row = some r → ws.heap.size ≤ r ∧ ∃ o : Obj, V.heap[r]? = some o ∧ o.isCells = false) : KAt ws bi n V' :=
  ⟨turn_cell hg (fun r e => (hr r e).2) h.i, turn_frozen hg (fun r e => (hr r e).2) h.i h.fr, h.near.turn hg hr⟩
theorem KAt.below {ws : World} {bi n : Nat} {V V' : World} (h : KAt ws bi n V) (hb : Below V.heap.size V V') : KAt ws bi n V' :=
  ⟨cell_below hb h.i, frozen_below hb h.i h.fr, h.near.then_below hb⟩
theorem KAt.set {ws : World} {bi n : Nat} {V : World} (h : KAt ws bi n V) (m : Nat) (hbi : bi < ws.heap.size) (B M : Nat) (hB : ws.heap.size ≤ B) :
    KAt ws bi m (V.setCell ⟨bi, 0, none⟩ (.int .i64 (m : Int))) ∧ SameB B M V (V.setCell ⟨bi, 0, none⟩ (.int .i64 (m : Int))) ∧ KeepsFrom ws.heap.size V (V.setCell ⟨bi, 0, none⟩ (.int .i64 (m : Int))) :=
  ⟨⟨set_cell h.i _, set_frozen h.fr _, h.near.set 0 _⟩, fun k h1 _ => Below.heap_setCell _ _ _ _ (by show k ≠ bi; omega), (KeepsOthers.setCell V ⟨bi, 0, none⟩ _).from _⟩
end Go.Proofs.YtjllkmkngjdjjaaGreatDoor
namespace Go.Proofs.YtjllkmkngjdjjaaGreatDoor
open Go.RowKit Go.Shelf
attribute [local go_sem] Oper.semAt_some
set_option maxRecDepth 100000
theorem wpListIn_app_row {F : Fence} {n : Nat} {w : World} {ops : Array Oper} {rest : List Oper} {o : Oper} {a : Act} {Q : Exit → Act → World → Prop} (hgd : o.guard = none) (s x : Operand) (t e : TypeId)
    (ho : o.op = .call { callee := .builtin .append, args := #[s, x], argTypes := #[t, t] }) (ht : Tryz.prog.underlying t = some (.slice e)) {z : Value} {bytes : Nat} (hinfo : (Tryz.prog.info? e).map (fun i => (i.zero, i.size, i.bytes)) = some (some z, 1, bytes)) (hz : z.cells.size = 1) (hb0 : 0 < bytes)
    (B : Nat) (v : Value) (hs : a.eval s = v) (k : Nat) (xs : List Value) (hown : w.ownsRow B e 1 v k xs) (u : Value) (hx : a.eval x = .slice (some ⟨w.heap.size, 0, none⟩) 1 1) (hu : u.oneCell' = true)
    (hb : (k + 1 + (k + 1) / 4 + 192) * bytes ≤ 281474976710656) (hbase : B ≤ w.heap.size)
    (h : ∀ v' w', w'.ownsRow B e 1 v' (k + 1) (xs ++ [u]) → (w.alloc (.cells #[u] e)).grownBy w' v.ownBlock → (v'.ownBlock = v.ownBlock ∨ v'.ownBlock = some (w.heap.size + 1)) → wpListIn F n Tryz.prog ops Q rest (a.put o.dst v') w') :
    wpListIn F n Tryz.prog ops Q (o :: rest) a (w.alloc (.cells #[u] e)) := by
  obtain ⟨v', w', hr, h2, h3, h4⟩ := run_app (P := Tryz.prog) (w.alloc (.cells #[u] e)) B t o.type e z 1 bytes ht hinfo hz (by omega) hb0 v k xs (World.ownsRow.alloc hown _) (.slice (some ⟨w.heap.size, 0, none⟩) 1 1) 1 [u] (Row.new w [u] e 1 1 (Nat.le_refl _) (by unfold maxLen; omega)) rfl (by simpa using hu) hb (by simp; omega)
  exact wpListIn_val hgd (by rw [ho]; intro c hc; cases hc) (about_append s x _ ho) v' w' (run_op_append s x _ ho v _ hs hx v' w' hr) (h v' w' h2 h3 (by simpa using h4))
/-- The row stands. -/
structure SAt (t : TypeId) (ws : World) (bl M : Nat) (us : List Value) (V : World) : Prop where
  vl : ∃ vl, V.cell? ⟨bl, 0, none⟩ = some vl ∧ V.ownsRow M t 1 vl us.length us
  fr : V.frozen? ⟨bl, 0, none⟩ = false
  near : Nearly bl ws V
  big : ws.heap.size ≤ M
theorem SAt.turn {t : TypeId} {ws : World} {bl M : Nat} {us : List Value} {V V' : World} {row : Option Nat} (h : SAt t ws bl M us V) (hg : V.grownBy V' row) (hr : ∀ r, row = some r → ws.heap.size ≤ r ∧ ∃ o : Obj, V.heap[r]? = some o ∧ o.isCells = false) : SAt t ws bl M us V' := by
  obtain ⟨vl, h1, h2⟩ := h.vl
  exact ⟨⟨vl, turn_cell hg (fun r e => (hr r e).2) h1, turn_owns hg (fun r e => (hr r e).2) h2⟩, turn_frozen hg (fun r e => (hr r e).2) h1 h.fr, h.near.turn hg hr, h.big⟩
theorem SAt.below {t : TypeId} {ws : World} {bl M : Nat} {us : List Value} {V V' : World} (h : SAt t ws bl M us V) (hb : Below V.heap.size V V') : SAt t ws bl M us V' := by
  obtain ⟨vl, h1, h2⟩ := h.vl
  exact ⟨⟨vl, cell_below hb h1, owns_below h2 hb⟩, frozen_below hb h1 h.fr, h.near.then_below hb, h.big⟩
theorem SAt.add {t : TypeId} {ws : World} {bl M : Nat} {us us' : List Value} {V V' : World} {vl vl' : Value} (h : SAt t ws bl M us V) (hbl : bl < ws.heap.size) (hM : M ≤ V.heap.size) (hv : V.cell? ⟨bl, 0, none⟩ = some vl) (ho : V.ownsRow M t 1 vl us.length us)
    (ho' : V'.ownsRow M t 1 vl' us'.length us') (hg : V.grownBy V' vl.ownBlock) :
    SAt t ws bl M us' (V'.setCell ⟨bl, 0, none⟩ vl') ∧ SameB (ws.heap.size + 2) M V (V'.setCell ⟨bl, 0, none⟩ vl') ∧ KeepsFrom ws.heap.size V (V'.setCell ⟨bl, 0, none⟩ vl') := by
  have hge := owns_ge ho
  have hge' := owns_ge ho'
  have hbig := h.big
  have hvs := h.near.size
  have hblV : bl < V.heap.size := by omega
  have hne : some bl ≠ vl.ownBlock := fun e => by have := hge bl e.symm; omega
  have hcell : V'.cell? ⟨bl, 0, none⟩ = some vl := (cell_mods (hg.block bl hblV hne)).trans hv
  have hst : ∀ k, k ≠ bl → (V'.setCell ⟨bl, 0, none⟩ vl').heap[k]? = V'.heap[k]? := fun k hk => Below.heap_setCell _ _ _ _ hk
  refine ⟨⟨⟨vl', set_cell hcell _, ?_⟩, ?_, ?_, hbig⟩, ?_, ?_⟩
  · refine mods_owns ho' fun k hk => hst k (fun e => by have := hge' k hk; omega)
  · exact set_frozen ((frozen_mods (hg.block bl hblV hne)).trans h.fr) _
  · refine Nearly.set ⟨hg.os.trans h.near.os, hg.tape.trans h.near.tape, hg.output.trans h.near.output, Nat.le_trans hvs hg.size, fun k hk hkb => ?_⟩ 0 _
    rw [hg.block k (by omega) (fun e => by have := hge k e.symm; omega)]
    exact h.near.block k hk hkb
  · intro k h1 h2
    rw [hst k (by omega), hg.block k (by omega) (fun e => by have := hge k e.symm; omega)]
  · refine KeepsFrom.trans' (KeepsFrom.grown _ hg (fun k hk => .inr fun o ho2 => ?_)) ((KeepsOthers.setCell V' ⟨bl, 0, none⟩ vl').from _)
    obtain ⟨ob, h1, h2⟩ := owns_isCells ho hk
    rw [ho2] at h1; cases h1
    exact h2
end Go.Proofs.YtjllkmkngjdjjaaGreatDoor
namespace Go.Proofs.YtjllkmkngjdjjaaGreatDoor
open Go.RowKit
set_option maxRecDepth 100000

theorem digits_le : ∀ (k n : Nat), n < 10 ^ (k + 1) → (Lib.decDigits n).length ≤ k + 1 := by
  intro k
  induction k with
  | zero => intro n h; rw [Lib.decDigits, dif_pos (by omega)]; simp
  | succ k ih =>
    intro n h
    rw [Lib.decDigits]
    split
    · simp
    · have := ih (n / 10) (by rw [Nat.pow_succ] at h; omega)
      simp; omega
theorem digits_le19 (n : Nat) (h : n ≤ 9223372036854775807) : (Lib.decDigits n).length ≤ 19 := digits_le 18 n (by omega)
theorem digits_pos (n : Nat) : 1 ≤ (Lib.decDigits n).length := by
  rw [Lib.decDigits]; split <;> simp

theorem digit_calls (n : Nat) (a : Int) (ha : a = (n : Int)) (hn : n < 10) (w : World) : Calls Tryz.prog 159 #[.int .i64 a] w fun e w' => e = .returned (.string ⟨(Lib.decDigits n).toArray⟩) ∧ Below w.heap.size w w' := by
  have hc : n = 0 ∨ n = 1 ∨ n = 2 ∨ n = 3 ∨ n = 4 ∨ n = 5 ∨ n = 6 ∨ n = 7 ∨ n = 8 ∨ n = 9 := by omega
  have hd : Lib.decDigits n = [UInt8.ofNat (48 + n)] := by rw [Lib.decDigits, dif_pos hn]
  rw [hd]
  clear hd hn
  subst ha
  rcases hc with rfl | rfl | rfl | rfl | rfl | rfl | rfl | rfl | rfl | rfl
  all_goals
    go_enter Tryz.func159, Tryz.ntmps159
    go_wp2
    go_ret
    exact ⟨rfl, Below.refl _ _⟩
theorem digits_calls : ∀ (n : Nat) (a : Int), a = (n : Int) → n ≤ 9223372036854775807 → ∀ w, Calls Tryz.prog 159 #[.int .i64 a] w fun e w' => e = .returned (.string ⟨(Lib.decDigits n).toArray⟩) ∧ Below w.heap.size w w' := by
  intro n
  induction n using Nat.strongRecOn with
  | _ n ih =>
    intro a ha hn w
    by_cases h : n < 10
    · exact digit_calls n a ha h w
    · have ih1 := ih (n / 10) (by omega)
      have ih2 := ih (n % 10) (by omega)
      subst ha
      have l1 := digits_le19 (n / 10) (by omega)
      have l2 := digits_le19 (n % 10) (by omega)
      have HD : Hid (Lib.decDigits n = Lib.decDigits (n / 10) ++ Lib.decDigits (n % 10)) := by
        have e : Lib.decDigits (n % 10) = [UInt8.ofNat (48 + n % 10)] := by rw [Lib.decDigits, dif_pos (by omega)]
        unfold Hid
        rw [e, Lib.decDigits, dif_neg h]
      generalize Lib.decDigits (n / 10) = d1 at ih1 l1 HD
      generalize Lib.decDigits (n % 10) = d2 at ih2 l2 HD
      have tok1 : True := trivial
      go_enter Tryz.func159, Tryz.ntmps159
      go_wp2_with (first
        | (go_at_call 159; have _t := tok1; refine (ih1 _ ?_ ?_ _).mono ?_; (· omega); (· omega); clear tok1; rintro e w1 ⟨rfl, hB1⟩)
        | (go_at_call 159; refine (ih2 _ ?_ ?_ _).mono ?_; (· omega); (· omega); rintro e w2 ⟨rfl, hB2⟩))
      go_ret
      refine ⟨?_, below_then hB1 hB2⟩
      rw [HD.out]
      rw [← str_cat _ _ _ rfl]
      rfl
theorem itoa_nat (n : Nat) : Lib.itoa (n : Int) = Lib.decDigits n := by
  unfold Lib.itoa
  rw [if_neg (by omega)]
  rfl
theorem itoa_calls (n : Nat) (a : Int) (ha : a = (n : Int)) (hn : n ≤ 9223372036854775807) (w : World) (htab : Lib.TabIs Tryz.prog w "internal/strconv.uint64pow10" .u64 Lib.pow10Tab) :
    Calls Tryz.prog 137 #[.int .i64 a] w fun e w' => e = .returned (.string ⟨(Lib.decDigits n).toArray⟩) ∧ Below w.heap.size w w' := by
  subst ha
  refine (Tryz.strconv_Itoa n (by omega) (by omega) w htab).mono ?_
  rintro e w' ⟨rfl, k, os, rfl⟩
  rw [itoa_nat]
  exact ⟨rfl, Lib.below_grow _ _ (Nat.le_refl _) _ _⟩
theorem noughts_calls (c : Nat) (a : Int) (ha : a = (c : Int)) (hc : c ≤ 100) (w : World) :
    Calls Tryz.prog 138 #[.string ⟨#[48]⟩, .int .i64 a] w fun e w' => e = .returned (.string ⟨(List.replicate c 48).toArray⟩) ∧ Below w.heap.size w w' := by
  subst ha
  have e : Lib.repeatL [48] c = List.replicate c 48 := by
    clear hc
    induction c with
    | zero => rfl
    | succ c ih => rw [Lib.repeatL, ih]; rfl
  refine (Tryz.strings_Repeat ⟨#[48]⟩ c w (by omega) (by show 1 * c ≤ _; omega)).mono ?_
  rintro e' w' ⟨rfl, hb⟩
  exact ⟨by rw [← e], hb⟩
end Go.Proofs.YtjllkmkngjdjjaaGreatDoor
namespace Go.Proofs.YtjllkmkngjdjjaaGreatDoor
open Go.RowKit
set_option maxRecDepth 100000

def strLen : Value → Nat | .string s => s.size | _ => 0
def wordJ : List UInt8 := [106, 111, 117, 114, 110, 97, 108, 45]
/-- P13.1, P15.1: digits, with noughts ahead of them up to k places. -/
def padded (k n : Nat) : List UInt8 := List.replicate (k - (Lib.decDigits n).length) 48 ++ Lib.decDigits n

theorem jname_bad (g : Int) (h : g < 1 ∨ 2147483647 < g) (w : World) : Calls Tryz.prog 102 #[.int .i64 g] w fun e w' => e = .returned (.tuple #[.string ⟨#[]⟩, .int .i64 2]) ∧ w = w' := by
  by_cases h1 : g < 1
  · go_enter Tryz.func102, Tryz.ntmps102
    go_wp2
    go_ret2
    exact ⟨rfl, rfl⟩
  · have h2 : 2147483647 < g := by omega
    go_enter Tryz.func102, Tryz.ntmps102
    go_wp2
    go_ret2
    exact ⟨rfl, rfl⟩
theorem rjname_bad (g : Int) (h : g < 1 ∨ 2147483647 < g) (w : World) : Calls Tryz.prog 106 #[.int .i64 g] w fun e w' => e = .returned (.tuple #[.string ⟨#[]⟩, .int .i64 2]) ∧ w = w' := by
  by_cases h1 : g < 1
  · go_enter Tryz.func106, Tryz.ntmps106
    go_wp2
    go_ret2
    exact ⟨rfl, rfl⟩
  · have h2 : 2147483647 < g := by omega
    go_enter Tryz.func106, Tryz.ntmps106
    go_wp2
    go_ret2
    exact ⟨rfl, rfl⟩
theorem jname_ok (g : Nat) (h1 : 1 ≤ g) (h2 : g ≤ 2147483647) (w : World) (htab : Lib.TabIs Tryz.prog w "internal/strconv.uint64pow10" .u64 Lib.pow10Tab) :
    Calls Tryz.prog 102 #[.int .i64 g] w fun e w' => e = .returned (.tuple #[.string ⟨(wordJ ++ padded 6 g).toArray⟩, .int .i64 0]) ∧ Below w.heap.size w w' := by
  have KI := Lib.hid (itoa_calls g g rfl (by omega) w htab)
  have HP : Hid (padded 6 g = List.replicate (6 - (Lib.decDigits g).length) 48 ++ Lib.decDigits g) := rfl
  have hl := digits_le19 g (by omega)
  generalize Lib.decDigits g = d at KI HP hl
  clear htab
  go_enter Tryz.func102, Tryz.ntmps102
  go_wp2_with (first
    | (go_at_call 137; refine KI.out.mono ?_; rintro e w1 ⟨rfl, hB1⟩)
    | (go_at_call 138; refine (noughts_calls (6 - d.length) _ ?_ (by omega) _).mono ?_; (· omega); rintro e w2 ⟨rfl, hB2⟩))
  go_ret2
  refine ⟨?_, below_then hB1 hB2⟩
  rw [HP.out]
  have e1 := str_cat wordJ (List.replicate (6 - d.length) 48) (Array.replicate (6 - d.length) 48) (by simp)
  have e2 := str_cat (wordJ ++ List.replicate (6 - d.length) 48) d _ rfl
  rw [List.append_assoc] at e2
  rw [← e2, ← e1]
  rfl
theorem rjname_ok (g : Nat) (h1 : 1 ≤ g) (h2 : g ≤ 2147483647) (w : World) :
    Calls Tryz.prog 106 #[.int .i64 g] w fun e w' => e = .returned (.tuple #[.string ⟨(wordJ ++ padded 6 g).toArray⟩, .int .i64 0]) ∧ Below w.heap.size w w' := by
  have KI := Lib.hid (digits_calls g g rfl (by omega) w)
  have HP : Hid (padded 6 g = List.replicate (6 - (Lib.decDigits g).length) 48 ++ Lib.decDigits g) := rfl
  have hl := digits_le19 g (by omega)
  generalize Lib.decDigits g = d at KI HP hl
  go_enter Tryz.func106, Tryz.ntmps106
  go_wp2_with (go_at_call 159; refine KI.out.mono ?_; rintro e w1 ⟨rfl, hB1⟩)
  go_loop [4] (fun s => ∃ j, j ≤ 6 - d.length ∧ s = .string ⟨(List.replicate j 48 ++ d).toArray⟩) (fun s => 6 - strLen s)
  case atStart => exact ⟨0, by omega, by simp⟩
  case round =>
    obtain ⟨j, hj, rfl⟩ := hrel
    have hq : (List.replicate j 48 ++ d).length = j + d.length := by simp
    have hn : List.replicate (j + 1) 48 ++ d = 48 :: (List.replicate j 48 ++ d) := by rw [List.replicate_succ]; rfl
    have HN := Lib.hid hn; clear hn
    have hfin : j + d.length = 6 ∨ 6 ≤ j + d.length → List.replicate j 48 ++ d = padded 6 g := fun h => by
      rw [HP.out]
      congr 2
      omega
    have HF := Lib.hid hfin; clear hfin
    generalize List.replicate j 48 ++ d = l at HN HF hq
    by_cases hlt : l.length < 6
    · have e1 : (⟨#[48]⟩ ++ ⟨l.toArray⟩ : ByteArray) = ⟨(48 :: l).toArray⟩ := str_cat [48] l _ rfl
      go_wp2
      go_round
      case rel => exact ⟨j + 1, by omega, by rw [HN.out, ← e1]⟩
      case measure =>
        show 6 - (48 :: l).toArray.size < 6 - l.toArray.size
        simp
        omega
    · go_wp2
      go_ret2
      refine ⟨?_, hB1⟩
      rw [← HF.out (.inr (by omega)), ← str_cat wordJ l _ rfl]
      rfl

theorem names13 (w : World) : Calls Tryz.prog 40 #[] w fun e w' => e = .returned (.bool true) ∧ w = w' := by
  go_enter Tryz.func40, Tryz.ntmps40
  go_wp2
  go_ret
  exact ⟨rfl, rfl⟩

end Go.Proofs.YtjllkmkngjdjjaaGreatDoor
