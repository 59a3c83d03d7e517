/- WORDS: one cell that a round writes (blocks of XDigD, XDigQ, XDigC, XDigH; written by pick.py). No statement of the seed is proved here. -/
import Derived.Test.YtjllkmkngjdjjaaDoorDsC
import Derived.Test.YtjllkmkngjdjjaaDoorIterL
import Derived.Test.YtjllkmkngjdjjaaDoorQuietR
import Derived.Stop.BytesEq
namespace Go.Proofs.YtjllkmkngjdjjaaDoor
open Go.RowKit
set_option maxRecDepth 100000
theorem rangeAt_drewN {w : World} {g o : Nat} {cs : List Value} (h : w.rangeAt g o cs) (n : Nat) : (w.drewN n).rangeAt g o cs := rangeAt_below h (below_drewN (Below.refl _ _) n)
theorem eql_digest (xs ys : List UInt8) (hx : xs.length = 32) (hy : ys.length = 32) (w : World) :
    (binOp .eql 24 (.agg (u8s xs).toArray) (.agg (u8s ys).toArray)).run Tryd.prog w = .ok (.bool (xs == ys)) w :=
  run_eql_bytes w 24 5 32 (by kernel_rfl) (by kernel_rfl) (fun w => by
    have hi : (Tryd.prog.info? 5).map (·.size) = some 1 := by kernel_rfl
    obtain ⟨i, h1, h2⟩ := Option.map_eq_some_iff.1 hi
    rw [run_sizeOf _ h1]; simp [Program.cellsOf, h1, h2]) xs ys hx hy
theorem run_op_load {P : Program} {o : Oper} {ρ : Operand → Value} (ty : TypeId) (x : Operand) (ho : o.op = .load ty x) (p v : Value) (hx : ρ x = p) (w : World) (hr : (Instr.loadAt ty p).run P w = .ok v w) : (execOp ρ o).run P w = .ok (.value v) w := by
  unfold execOp
  simp only [ho, hx, Sem.run_bind, Sem.run_pure, hr, Result.andThen_ok]
theorem cell_mods {w w' : World} {a : Addr} (h : w'.heap[a.block]? = w.heap[a.block]?) : w'.cell? a = w.cell? a := World.cell?_of_block h
theorem frozen_mods {w w' : World} {a : Addr} (h : w'.heap[a.block]? = w.heap[a.block]?) : w'.frozen? a = w.frozen? a := World.frozen?_of_block h
/-- All is as it was but the block p. -/
structure Nearly (p : Nat) (w w' : World) : Prop where
  os : w'.os = w.os
  tape : w'.tape = w.tape
  output : w'.output = w.output
  size : w.heap.size ≤ w'.heap.size
  block : ∀ k, k < w.heap.size → k ≠ p → w'.heap[k]? = w.heap[k]?
theorem Nearly.of_below {p : Nat} {w w' : World} (h : Below w.heap.size w w') : Nearly p w w' := ⟨h.os, h.tape, h.output, h.size, fun k hk _ => h.block k hk⟩
theorem Nearly.then_below {p : Nat} {w w1 w2 : World} (h : Nearly p w w1) (k : Below w1.heap.size w1 w2) : Nearly p w w2 :=
  ⟨k.os.trans h.os, k.tape.trans h.tape, k.output.trans h.output, Nat.le_trans h.size k.size, fun i hi hp => (k.block i (Nat.lt_of_lt_of_le hi h.size)).trans (h.block i hi hp)⟩
theorem Nearly.set {p : Nat} {w w1 : World} (h : Nearly p w w1) (o : Nat) (v : Value) : Nearly p w (w1.setCell ⟨p, o, none⟩ v) :=
  ⟨h.os, h.tape, h.output, by simpa [World.setCell] using h.size, fun i hi hp => (Below.heap_setCell _ _ _ _ hp).trans (h.block i hi hp)⟩
theorem run_op_neq {o : Oper} {ρ : Operand → Value} (ty2 : TypeId) (x y : Operand) (ho : o.op = .binOp .neq 24 x y ty2) (a b : List UInt8) (ha : a.length = 32) (hb : b.length = 32) (hx : ρ x = .agg (u8s a).toArray) (hy : ρ y = .agg (u8s b).toArray) (w : World) : (execOp ρ o).run Tryd.prog w = .ok (.value (.bool (a != b))) w := by
  unfold execOp
  have hg : (eqGuard .neq 24 x y (.agg (u8s a).toArray) (.agg (u8s b).toArray)).run Tryd.prog w = .ok () w := by
    simp [eqGuard, Tryd.eqGuardType24]
  have he := eql_digest a b ha hb w
  have hn : (binOp .neq 24 (.agg (u8s a).toArray) (.agg (u8s b).toArray)).run Tryd.prog w = .ok (.bool (a != b)) w := by
    simp only [binOp] at he ⊢
    simp only [Sem.run_bind] at he ⊢
    generalize (Op.equal 24 (.agg (u8s a).toArray) (.agg (u8s b).toArray)).run Tryd.prog w = r at he ⊢
    cases r with
    | ok q w' =>
      simp only [Result.andThen_ok, Sem.run_pure] at he ⊢
      cases he
      rfl
    | halt h w' => simp [Result.andThen] at he
  simp only [ho, hx, hy, Sem.run_bind, Sem.run_pure, hg, hn, Result.andThen_ok]
theorem wpQuietIn_run {F : Fence} {n : Nat} {P : Program} {ops : Array Oper} {C : World → Prop} {Q : Act → Prop} {o : Oper} {rest : List Oper} {a : Act} (hw : Region.wanted o (yielded ops a.tmps) = true) (ha : ∀ w, o.about P w a.eval = none) (v : Value)
    (hr : ∀ w, C w → (execOp a.eval o).run P w = .ok (.value v) w) (h : wpQuietIn F n P ops C Q rest (a.put o.dst v)) : wpQuietIn F n P ops C Q (o :: rest) a :=
  wpQuietIn_step (fun w _ f hf => by rw [ha w] at hf; cases hf) fun K hK => by
    rw [if_pos hw]
    refine ⟨v, fun w hw => ?_, hK _ h⟩
    unfold Oper.quietAtIn
    rw [hr w hw]
    exact ⟨rfl, rfl⟩
theorem Nearly.turn {p : Nat} {w V V' : World} {row : Option Nat} (h : Nearly p w V) (hg : V.grownBy V' row) (hr : ∀ r, row = some r → w.heap.size ≤ r ∧ ∃ o : Obj, V.heap[r]? = some o ∧ o.isCells = false) : Nearly p w V' :=
  ⟨hg.os.trans h.os, hg.tape.trans h.tape, hg.output.trans h.output, Nat.le_trans h.size hg.size, fun k hk hkp => (hg.block k (Nat.lt_of_lt_of_le hk h.size) (fun e => by have := (hr k e.symm).1; omega)).trans (h.block k hk hkp)⟩
theorem Nearly.trans {p : Nat} {a b c : World} (h : Nearly p a b) (k : Nearly p b c) : Nearly p a c :=
  ⟨k.os.trans h.os, k.tape.trans h.tape, k.output.trans h.output, Nat.le_trans h.size k.size, fun i hi hp => (k.block i (Nat.lt_of_lt_of_le hi h.size) hp).trans (h.block i hi hp)⟩
theorem Nearly.cell {p : Nat} {w V : World} (h : Nearly p w V) {a : Addr} {v : Value} (hc : w.cell? a = some v) (hp : a.block ≠ p) : V.cell? a = some v := (cell_mods (h.block _ (World.block_lt_of_cell? w a hc) hp)).trans hc
theorem Nearly.frozen {p : Nat} {w V : World} (h : Nearly p w V) {a : Addr} {v : Value} (hc : w.cell? a = some v) (hf : w.frozen? a = false) (hp : a.block ≠ p) : V.frozen? a = false := (frozen_mods (h.block _ (World.block_lt_of_cell? w a hc) hp)).trans hf
/-- A digest in a box that a round made. -/
def BoxD (b : Nat) (d : List UInt8) (V0 V2 : World) : Prop := V2.rangeAt b 0 (u8s d)
theorem BoxD.turn {b : Nat} {d : List UInt8} (V0 V2 : World) (l : Nat) (o o' : Obj) (h : BoxD b d V0 V2) (_ : V0.heap[l]? = some o) (h2 : V2.heap[l]? = some o) (ho : o.isCells = false) : BoxD b d (V0.putObj l o') (V2.putObj l o') :=
  fun j u hu => turn_cell (grown_putObj V2 h2 o') (fun r e => by cases e; exact ⟨o, h2, ho⟩) (h j u hu)
/-- Where the second loop stands. -/
structure KAt (ws : World) (bi : Nat) (n : Nat) (V : World) : Prop where
  i : V.cell? ⟨bi, 0, none⟩ = some (.int .i64 (n : Int))
  fr : V.frozen? ⟨bi, 0, none⟩ = false
  near : Nearly bi ws V
theorem KAt.turn {ws : World} {bi n : Nat} {V V' : World} {row : Option Nat} (h : KAt ws bi n V) (hg : V.grownBy V' row) (hr : ∀ r, row = some r → ws.heap.size ≤ r ∧ ∃ o : Obj, V.heap[r]? = some o ∧ o.isCells = false) : KAt ws bi n V' :=
  ⟨turn_cell hg (fun r e => (hr r e).2) h.i, turn_frozen hg (fun r e => (hr r e).2) h.i h.fr, h.near.turn hg hr⟩
theorem KAt.below {ws : World} {bi n : Nat} {V V' : World} (h : KAt ws bi n V) (hb : Below V.heap.size V V') : KAt ws bi n V' :=
  ⟨cell_below hb h.i, frozen_below hb h.i h.fr, h.near.then_below hb⟩
theorem KAt.set {ws : World} {bi n : Nat} {V : World} (h : KAt ws bi n V) (m : Nat) (hbi : bi < ws.heap.size) (B M : Nat) (hB : ws.heap.size ≤ B) :
    KAt ws bi m (V.setCell ⟨bi, 0, none⟩ (.int .i64 (m : Int))) ∧ SameB B M V (V.setCell ⟨bi, 0, none⟩ (.int .i64 (m : Int))) ∧ KeepsFrom ws.heap.size V (V.setCell ⟨bi, 0, none⟩ (.int .i64 (m : Int))) :=
  ⟨⟨set_cell h.i _, set_frozen h.fr _, h.near.set 0 _⟩, fun k h1 _ => Below.heap_setCell _ _ _ _ (by show k ≠ bi; omega), (KeepsOthers.setCell V ⟨bi, 0, none⟩ _).from _⟩
end Go.Proofs.YtjllkmkngjdjjaaDoor
