/- WORDS for the law DigestsOrder: the two loops over the indexes. No statement of the seed is proved here. -/
import Derived.Test.YthgjecofmnomfaaDoorDigP
import Derived.Test.YthgjecofmnomfaaDoorQuietR
import Derived.Test.YthgjecofmnomfaaDoorIterM
namespace Go.Proofs.YthgjecofmnomfaaDoor
open Go.RowKit
set_option maxRecDepth 100000

theorem wpQuietIn_run {F : Fence} {n : Nat} {P : Program} {ops : Array Oper} {C : World → Prop} {Q : Act → Prop} {o : Oper} {rest : List Oper} {a : Act} (hw : Region.wanted o (yielded ops a.tmps) = true) (ha : ∀ w, o.about P w a.eval = none) (v : Value)
    (hr : ∀ w, C w → (execOp a.eval o).run P w = .ok (.value v) w) (h : wpQuietIn F n P ops C Q rest (a.put o.dst v)) : wpQuietIn F n P ops C Q (o :: rest) a :=
  wpQuietIn_step (fun w _ f hf => by rw [ha w] at hf; cases hf) fun K hK => by
    rw [if_pos hw]
    refine ⟨v, fun w hw => ?_, hK _ h⟩
    unfold Oper.quietAtIn
    rw [hr w hw]
    exact ⟨rfl, rfl⟩
theorem store_digest_new (w : World) {d : List UInt8} (hd : d.length = 32) (z : Array Value) (hz : z.size = 32) :
    (Instr.storeAt 63 (.pointer (some ⟨w.heap.size, 0, none⟩)) (.agg (u8s d).toArray)).run Tryd.prog (w.alloc (.cells z 63)) = .ok () (w.alloc (.cells (u8s d).toArray 63)) := by
  have hs : (Tryd.prog.info? 63).map (·.size) = some 32 := by kernel_rfl
  refine run_storeAt_new w 63 z _ (by rw [hs]; simp [u8s_length, hd]) (by simp [u8s_length, hd, hz]) ?_
  rw [Array.all_eq_true]
  intro i hi
  exact u8s_one d _ (by simp)
theorem range_new (w : World) (d : List UInt8) : (w.alloc (.cells (u8s d).toArray 63)).rangeAt w.heap.size 0 (u8s d) := fun j u hu => by
  rw [Nat.zero_add, cell_of_row _ w.heap.size j _ _ (0, 0) (heap_alloc_new w _)]
  simpa using hu
theorem Nearly.turn {p : Nat} {w V V' : World} {row : Option Nat} (h : Nearly p w V) (hg : V.grownBy V' row) (hr : ∀ r, row = some r → w.heap.size ≤ r ∧ ∃ o : Obj, V.heap[r]? = some o ∧ o.isCells = false) : Nearly p w V' :=
  ⟨hg.os.trans h.os, hg.tape.trans h.tape, hg.output.trans h.output, Nat.le_trans h.size hg.size, fun k hk hkp => (hg.block k (Nat.lt_of_lt_of_le hk h.size) (fun e => by have := (hr k e.symm).1; omega)).trans (h.block k hk hkp)⟩
theorem Nearly.trans {p : Nat} {a b c : World} (h : Nearly p a b) (k : Nearly p b c) : Nearly p a c :=
  ⟨k.os.trans h.os, k.tape.trans h.tape, k.output.trans h.output, Nat.le_trans h.size k.size, fun i hi hp => (k.block i (Nat.lt_of_lt_of_le hi h.size) hp).trans (h.block i hi hp)⟩
theorem Nearly.cell {p : Nat} {w V : World} (h : Nearly p w V) {a : Addr} {v : Value} (hc : w.cell? a = some v) (hp : a.block ≠ p) : V.cell? a = some v := (cell_mods (h.block _ (World.block_lt_of_cell? w a hc) hp)).trans hc
theorem Nearly.frozen {p : Nat} {w V : World} (h : Nearly p w V) {a : Addr} {v : Value} (hc : w.cell? a = some v) (hf : w.frozen? a = false) (hp : a.block ≠ p) : V.frozen? a = false := (frozen_mods (h.block _ (World.block_lt_of_cell? w a hc) hp)).trans hf
/-- A digest in a box that a round made. -/
def BoxD (b : Nat) (d : List UInt8) (V0 V2 : World) : Prop := V2.rangeAt b 0 (u8s d)
theorem BoxD.turn {b : Nat} {d : List UInt8} (V0 V2 : World) (l : Nat) (o o' : Obj) (h : BoxD b d V0 V2) (_ : V0.heap[l]? = some o) (h2 : V2.heap[l]? = some o) (ho : o.isCells = false) : BoxD b d (V0.putObj l o') (V2.putObj l o') :=
  fun j u hu => turn_cell (grown_putObj V2 h2 o') (fun r e => by cases e; exact ⟨o, h2, ho⟩) (h j u hu)
/-- The list that the first loop makes. -/
structure LAt (ws : World) (bl M : Nat) (pre : List Item) (V : World) : Prop where
  vl : ∃ vl, V.cell? ⟨bl, 0, none⟩ = some vl ∧ DsO V M vl (pre.map (·.1))
  fr : V.frozen? ⟨bl, 0, none⟩ = false
  near : Nearly bl ws V
  big : ws.heap.size ≤ M
theorem LAt.turn {ws : World} {bl M : Nat} {pre : List Item} {V V' : World} {row : Option Nat} (h : LAt ws bl M pre V) (hg : V.grownBy V' row) (hr : ∀ r, row = some r → ws.heap.size ≤ r ∧ ∃ o : Obj, V.heap[r]? = some o ∧ o.isCells = false) : LAt ws bl M pre V' := by
  obtain ⟨vl, h1, h2⟩ := h.vl
  exact ⟨⟨vl, turn_cell hg (fun r e => (hr r e).2) h1, turn_owns hg (fun r e => (hr r e).2) h2.1, h2.2⟩, turn_frozen hg (fun r e => (hr r e).2) h1 h.fr, h.near.turn hg hr, h.big⟩
theorem LAt.below {ws : World} {bl M : Nat} {pre : List Item} {V V' : World} (h : LAt ws bl M pre V) (hb : Below V.heap.size V V') : LAt ws bl M pre V' := by
  obtain ⟨vl, h1, h2⟩ := h.vl
  exact ⟨⟨vl, cell_below hb h1, h2.below hb⟩, frozen_below hb h1 h.fr, h.near.then_below hb, h.big⟩
theorem LAt.add {ws : World} {bl M : Nat} {pre : List Item} {x : Item} {V V' : World} {vl vl' : Value} (h : LAt ws bl M pre V) (hbl : bl < ws.heap.size) (hM : M ≤ V.heap.size) (hv : V.cell? ⟨bl, 0, none⟩ = some vl) (ho : DsO V M vl (pre.map (·.1)))
    (ho' : DsO V' M vl' (pre.map (·.1) ++ [x.1])) (hg : V.grownBy V' vl.ownBlock) :
    LAt ws bl M (pre ++ [x]) (V'.setCell ⟨bl, 0, none⟩ vl') ∧ SameB (ws.heap.size + 2) M V (V'.setCell ⟨bl, 0, none⟩ vl') ∧ KeepsFrom ws.heap.size V (V'.setCell ⟨bl, 0, none⟩ vl') := by
  have hge := owns_ge ho.1
  have hge' := owns_ge ho'.1
  have hbig := h.big
  have hvs := h.near.size
  have hblV : bl < V.heap.size := by omega
  have hne : some bl ≠ vl.ownBlock := fun e => by have := hge bl e.symm; omega
  have hcell : V'.cell? ⟨bl, 0, none⟩ = some vl := (cell_mods (hg.block bl hblV hne)).trans hv
  have hst : ∀ k, k ≠ bl → (V'.setCell ⟨bl, 0, none⟩ vl').heap[k]? = V'.heap[k]? := fun k hk => Below.heap_setCell _ _ _ _ hk
  refine ⟨⟨⟨vl', set_cell hcell _, ?_⟩, ?_, ?_, hbig⟩, ?_, ?_⟩
  · rw [List.map_append]
    exact ho'.kept fun k hk => hst k (fun e => by have := hge' k hk; omega)
  · exact set_frozen ((frozen_mods (hg.block bl hblV hne)).trans h.fr) _
  · refine Nearly.set ⟨hg.os.trans h.near.os, hg.tape.trans h.near.tape, hg.output.trans h.near.output, Nat.le_trans hvs hg.size, fun k hk hkb => ?_⟩ 0 _
    rw [hg.block k (by omega) (fun e => by have := hge k e.symm; omega)]
    exact h.near.block k hk hkb
  · intro k h1 h2
    rw [hst k (by omega), hg.block k (by omega) (fun e => by have := hge k e.symm; omega)]
  · refine KeepsFrom.trans' (KeepsFrom.grown _ hg (fun k hk => .inr fun o ho2 => ?_)) ((KeepsOthers.setCell V' ⟨bl, 0, none⟩ vl').from _)
    obtain ⟨ob, h1, h2⟩ := owns_cells ho.1 hk
    rw [ho2] at h1; cases h1
    exact h2
/-- Where the second loop stands. -/
structure KAt (ws : World) (bi : Nat) (n : Nat) (V : World) : Prop where
  i : V.cell? ⟨bi, 0, none⟩ = some (.int .i64 (n : Int))
  fr : V.frozen? ⟨bi, 0, none⟩ = false
  near : Nearly bi ws V
theorem KAt.turn {ws : World} {bi n : Nat} {V V' : World} {row : Option Nat} (h : KAt ws bi n V) (hg : V.grownBy V' row) (hr : ∀ r, row = some r → ws.heap.size ≤ r ∧ ∃ o : Obj, V.heap[r]? = some o ∧ o.isCells = false) : KAt ws bi n V' :=
  ⟨turn_cell hg (fun r e => (hr r e).2) h.i, turn_frozen hg (fun r e => (hr r e).2) h.i h.fr, h.near.turn hg hr⟩
theorem KAt.below {ws : World} {bi n : Nat} {V V' : World} (h : KAt ws bi n V) (hb : Below V.heap.size V V') : KAt ws bi n V' :=
  ⟨cell_below hb h.i, frozen_below hb h.i h.fr, h.near.then_below hb⟩
theorem KAt.set {ws : World} {bi n : Nat} {V : World} (h : KAt ws bi n V) (m : Nat) (hbi : bi < ws.heap.size) (B M : Nat) (hB : ws.heap.size ≤ B) :
    KAt ws bi m (V.setCell ⟨bi, 0, none⟩ (.int .i64 (m : Int))) ∧ SameB B M V (V.setCell ⟨bi, 0, none⟩ (.int .i64 (m : Int))) ∧ KeepsFrom ws.heap.size V (V.setCell ⟨bi, 0, none⟩ (.int .i64 (m : Int))) :=
  ⟨⟨set_cell h.i _, set_frozen h.fr _, h.near.set 0 _⟩, fun k h1 _ => Below.heap_setCell _ _ _ _ (by show k ≠ bi; omega), (KeepsOthers.setCell V ⟨bi, 0, none⟩ _).from _⟩
end Go.Proofs.YthgjecofmnomfaaDoor
