/- LAWS OF MY OWN: one struct put behind a slice of structs. No statement of the seed is proved here. -/
import Derived.Test.YtjllkmkngjdjjaaDoorRun
import Derived.Great.BuildSlice
import Derived.Deep.AppendLies
namespace Go.Proofs.YtjllkmkngjdjjaaDoor
open Go.RowKit
set_option maxRecDepth 100000
theorem run_app_any {w : World} (ty t e : TypeId) (k bytes : Nat) (ht : Tryd.prog.underlying t = some (.slice e)) (hinfo : (Tryd.prog.info? e).map (fun i => (i.zero.map (·.cells.size), i.size, i.bytes)) = some (some k, k, bytes)) (hk : 0 < k) (hb0 : 0 < bytes) (B n : Nat) (v : Value) (xs : List Value) (hown : w.ownsRow B e k v n xs)
    (ys : List Value) (hl : ys.length = k) (h1 : ∀ u ∈ ys, u.oneCell' = true) (hb : (n + 1) * bytes ≤ 140737488355328) (hB : B ≤ w.heap.size) :
    ∃ v' w', (Builtin.append_ #[t, t] ty #[v, .slice (some ⟨w.heap.size, 0, none⟩) 1 1]).run Tryd.prog (w.alloc (.cells ys.toArray e)) = .ok v' w' ∧ w'.ownsRow B e k v' (n + 1) (xs ++ ys) ∧ (w.alloc (.cells ys.toArray e)).grownBy w' v.ownBlock ∧ (v'.ownBlock = v.ownBlock ∨ v'.ownBlock = some (w.heap.size + 1)) := by
  obtain ⟨i, hi, hq⟩ := Option.map_eq_some_iff.1 hinfo
  simp only [Prod.mk.injEq] at hq
  obtain ⟨q1, q2, q3⟩ := hq
  obtain ⟨z, hz, hzs⟩ := Option.map_eq_some_iff.1 q1
  have h63 : n + 1 ≤ maxLen := by
    unfold maxLen
    have : n + 1 ≤ 140737488355328 := Nat.le_trans (Nat.le_mul_of_pos_right _ hb0) hb
    omega
  obtain ⟨v', w', e1, e2, e3, _, e5⟩ := run_append_own_at (P := Tryd.prog) (w.alloc (.cells ys.toArray e)) B t ty e i z k bytes ht hi hz q2 q3 hzs hk v n xs (World.ownsRow.alloc hown _) ⟨w.heap.size, 0, none⟩ 1 1 ys (by omega) (fun j u hu => by
    rw [add_plain, cell_of_row _ w.heap.size j _ _ (0, 0) (heap_alloc_new w _)]
    simpa using hu) h1 h63 hb (by simp; omega)
  exact ⟨v', w', e1, e2, e3, by simpa using e5⟩
theorem wpList_app_any {w : World} {ops : Array Oper} {rest : List Oper} {o : Oper} {a : Act} {Q : Exit → Act → World → Prop} (hgd : o.guard = none) (s x : Operand) (t e : TypeId) (k bytes : Nat)
    (ho : o.op = .call { callee := .builtin .append, args := #[s, x], argTypes := #[t, t] }) (ht : Tryd.prog.underlying t = some (.slice e)) (hinfo : (Tryd.prog.info? e).map (fun i => (i.zero.map (·.cells.size), i.size, i.bytes)) = some (some k, k, bytes)) (hk : 0 < k) (hb0 : 0 < bytes) (B n : Nat) (v : Value) (hs : a.eval s = v) (xs : List Value) (hown : w.ownsRow B e k v n xs)
    (ys : List Value) (hl : ys.length = k) (h1 : ∀ u ∈ ys, u.oneCell' = true) (hx : a.eval x = .slice (some ⟨w.heap.size, 0, none⟩) 1 1) (hb : (n + 1) * bytes ≤ 140737488355328) (hB : B ≤ w.heap.size)
    (h : ∀ v' w', w'.ownsRow B e k v' (n + 1) (xs ++ ys) → (w.alloc (.cells ys.toArray e)).grownBy w' v.ownBlock → (v'.ownBlock = v.ownBlock ∨ v'.ownBlock = some (w.heap.size + 1)) → wpList Tryd.prog ops Q rest (a.put o.dst v') w') :
    wpList Tryd.prog ops Q (o :: rest) a (w.alloc (.cells ys.toArray e)) := by
  obtain ⟨v', w', e1, e2, e3, e4⟩ := run_app_any o.type t e k bytes ht hinfo hk hb0 B n v xs hown ys hl h1 hb hB
  exact wpList_val hgd v' w' (run_op_append s x _ ho v _ hs hx v' w' e1) (h v' w' e2 e3 e4)
theorem run_op_one_any {w : World} {o : Oper} {ρ : Operand → Value} (x : Operand) (t e : TypeId) (k bytes : Nat) (ho : o.op = .buildSlice t 1 #[(0, x)]) (ht : Tryd.prog.underlying t = some (.slice e)) (hinfo : (Tryd.prog.info? e).map (fun i => (i.zero.map (·.cells.size), i.size, i.bytes)) = some (some k, k, bytes)) (hk : 0 < k) (hb : k ≤ 16777216)
    (ys : List Value) (hx : ρ x = .agg ys.toArray) (hl : ys.length = k) :
    (execOp ρ o).run Tryd.prog w = .ok (.value (.slice (some ⟨w.heap.size, 0, none⟩) 1 1)) (w.alloc (.cells ys.toArray e)) := by
  obtain ⟨i, hi, hq⟩ := Option.map_eq_some_iff.1 hinfo
  simp only [Prod.mk.injEq] at hq
  obtain ⟨q1, q2, q3⟩ := hq
  obtain ⟨z, hz, hzs⟩ := Option.map_eq_some_iff.1 q1
  have hf := Great.fill_whole (s := k) (by omega) [.agg ys.toArray] ((Array.range (1 * k)).map (z.cells[· % z.cells.size]!)) (by simp [Value.cells, hl]) (by simp)
  unfold execOp
  simp only [ho, Sem.run_bind, Sem.run_pure]
  rw [run_buildSlice w t e 1 _ ys.toArray i z ht hi hz (by rw [q2]; omega) (by rw [q2]; omega) (by rw [q2]; simpa [hx, Value.cells] using hf)]
  rfl
theorem wpList_one_any {w : World} {ops : Array Oper} {rest : List Oper} {o : Oper} {a : Act} {Q : Exit → Act → World → Prop} (hg : o.guard = none) (x : Operand) (t e : TypeId) (k bytes : Nat) (ho : o.op = .buildSlice t 1 #[(0, x)]) (ht : Tryd.prog.underlying t = some (.slice e)) (hinfo : (Tryd.prog.info? e).map (fun i => (i.zero.map (·.cells.size), i.size, i.bytes)) = some (some k, k, bytes)) (hk : 0 < k) (hb : k ≤ 16777216)
    (ys : List Value) (hx : a.eval x = .agg ys.toArray) (hl : ys.length = k)
    (h : wpList Tryd.prog ops Q rest (a.put o.dst (.slice (some ⟨w.heap.size, 0, none⟩) 1 1)) (w.alloc (.cells ys.toArray e))) : wpList Tryd.prog ops Q (o :: rest) a w :=
  wpList_val hg _ _ (run_op_one_any x t e k bytes ho ht hinfo hk hb ys hx hl) h
end Go.Proofs.YtjllkmkngjdjjaaDoor
