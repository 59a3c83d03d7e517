/- OPERATIONS WHOSE RUN IS KNOWN, for the laws of regions. No statement of the seed is proved here. -/
import Derived.Test.YtjllkmkngjdjjaaDoorRowS
import Derived.Test.YtjllkmkngjdjjaaDoorRun
import Derived.Test.YtjllkmkngjdjjaaDoorQuietC
import Derived.Deep.RegionHeld3
namespace Go.Proofs.YtjllkmkngjdjjaaDoor
open Go.RowKit
theorem op_load {P : Program} {o : Oper} {ρ : Operand → Value} (ty : TypeId) (x : Operand) (ho : o.op = .load ty x) (p v : Value) (hx : ρ x = p) (w : World) (hr : (Instr.loadAt ty p).run P w = .ok v w) : (execOp ρ o).run P w = .ok (.value v) w := by
  unfold execOp
  simp only [ho, hx, Sem.run_bind, Sem.run_pure, hr, Result.andThen_ok]
theorem op_move {o : Oper} {ρ : Operand → Value} {P : Program} (x : Operand) (ho : o.op = .move x) (v : Value) (hx : ρ x = v) (w : World) : (execOp ρ o).run P w = .ok (.value v) w := by subst hx; unfold execOp; rw [ho]; rfl
theorem op_assign {o : Oper} {ρ : Operand → Value} {P : Program} (x : Operand) (ho : o.op = .assign x) (v : Value) (hx : ρ x = v) (w : World) : (execOp ρ o).run P w = .ok (.value v) w := by subst hx; unfold execOp; rw [ho]; rfl
theorem op_lookup {P : Program} {o : Oper} {ρ : Operand → Value} (t : TypeId) (m x : Operand) (cm : Bool) (ho : o.op = .lookup t m x cm) (vm vx v : Value) (hm : ρ m = vm) (hx : ρ x = vx) (w : World) (hr : (Instr.lookup t vm vx cm).run P w = .ok v w) : (execOp ρ o).run P w = .ok (.value v) w := by
  unfold execOp
  simp only [ho, hm, hx, Sem.run_bind, Sem.run_pure, hr, Result.andThen_ok]
theorem op_append {P : Program} {w : World} {o : Oper} {ρ : Operand → Value} (s x : Operand) (t : TypeId) (ho : o.op = .call { callee := .builtin .append, args := #[s, x], argTypes := #[t, t] }) (v y : Value) (hs : ρ s = v) (hx : ρ x = y) (r : Value) (w' : World)
    (hr : (Builtin.append_ #[t, t] o.type #[v, y]).run P w = .ok r w') : (execOp ρ o).run P w = .ok (.value r) w' := run_op_append s x t ho v y hs hx r w' hr
theorem op_delete {P : Program} {w w' : World} {o : Oper} {ρ : Operand → Value} (m x : Operand) (t k : TypeId) (ho : o.op = .call { callee := .builtin .delete, args := #[m, x], argTypes := #[t, k] }) (vm vx r : Value) (hm : ρ m = vm) (hx : ρ x = vx)
    (hr : (Builtin.delete_ #[t, k] o.type #[vm, vx]).run P w = .ok r w') : (execOp ρ o).run P w = .ok (.value r) w' := by
  unfold execOp
  simp only [ho, resolve, invoke, builtin, Sem.run_bind, Sem.run_pure, Result.andThen_ok, List.map_toArray, List.map_cons, List.map_nil, hm, hx, hr]
theorem ld_cell {P : Program} {w : World} {t : TypeId} {g o : Nat} {v : Value} {d : TypeDesc} (hu : P.underlying t = some d) (hd : (match d with | .struct _ | .array _ _ => false | _ => true) = true) (h : w.cell? ⟨g, o, none⟩ = some v) : (Instr.loadAt t (.pointer (some ⟨g, o, none⟩))).run P w = .ok v w := by
  have ha : (isAgg t).run P w = .ok false w := by
    unfold isAgg
    simp only [Sem.run_bind, run_underlying hu, Result.andThen_ok, Sem.run_pure]
    cases d <;> simp_all
  simp only [Instr.loadAt, Instr.sureAddr, Sem.run_bind, Sem.run_pure, Result.andThen_ok, loadVar, ha]
  simp [run_load, h]
theorem wpList_update {P : Program} {ops : Array Oper} {rest : List Oper} {o : Oper} {a : Act} {w w' : World} {Q : Exit → Act → World → Prop} (hg : o.guard = none) (t : TypeId) (m x y : Operand) (ho : o.op = .mapUpdate t m x y) (vm vx vy : Value) (hm : a.eval m = vm) (hx : a.eval x = vx) (hy : a.eval y = vy)
    (hr : (Instr.mapUpdate t vm vx vy).run P w = .ok () w') (h : wpList P ops Q rest (a.put o.dst undef) w') : wpList P ops Q (o :: rest) a w := by
  refine wpList_plain hg fun K hK => ?_
  unfold Oper.wp execOp
  simp only [ho, hm, hx, hy, Sem.run_bind, Sem.run_pure, hr, Result.andThen_ok]
  exact hK _ _ h
theorem wpList_done {P : Program} {ops : Array Oper} {a : Act} {w : World} {Q : Exit → Act → World → Prop} {S : World → Prop} {K : Act → World → Prop} (h1 : S w) (h2 : K a w) : wpList P ops (NormK Q (fun a w => S w ∧ K a w)) [] a w := by
  unfold wpList
  exact ⟨h1, h2⟩
theorem norm_done {a : Act} {w : World} {Q : Exit → Act → World → Prop} {S : World → Prop} {K : Act → World → Prop} (h1 : S w) (h2 : K a w) : NormK Q (fun a w => S w ∧ K a w) .normal a w := ⟨h1, h2⟩
theorem noPanic_normal {a : Act} {w : World} {Q : Exit → Act → World → Prop} (h : Q .normal a w) : NoPanic Q .normal a w := h
theorem op_rem {P : Program} {o : Oper} {ρ : Operand → Value} (t : TypeId) (x y : Operand) (t2 : TypeId) (ho : o.op = .binOp .rem t x y t2) (a b : Nat) (hb : 0 < b) (hx : ρ x = .int .i64 (a : Int)) (hy : ρ y = .int .i64 (b : Int)) (w : World) : (execOp ρ o).run P w = .ok (.value (.int .i64 ((a % b : Nat) : Int))) w := by
  have h0 : ¬ b = 0 := by omega
  unfold execOp
  simp [ho, hx, hy, go_sem, h0, eqGuard]
  rw [Int.tmod_eq_emod_of_nonneg (by omega)]
theorem op_sub {P : Program} {o : Oper} {ρ : Operand → Value} (t : TypeId) (x y : Operand) (t2 : TypeId) (ho : o.op = .binOp .sub t x y t2) (a b : Nat) (hb : b ≤ a) (ha : a ≤ 9223372036854775807) (hx : ρ x = .int .i64 (a : Int)) (hy : ρ y = .int .i64 (b : Int)) (w : World) : (execOp ρ o).run P w = .ok (.value (.int .i64 ((a - b : Nat) : Int))) w := by
  unfold execOp
  simp [ho, hx, hy, go_sem, eqGuard]
  rw [IntKind.wrap_i64]
  omega
theorem op_min {P : Program} {o : Oper} {ρ : Operand → Value} (x y : Operand) (t : TypeId) (ho : o.op = .call { callee := .builtin .min, args := #[x, y], argTypes := #[t, t] }) (a b : Nat) (hx : ρ x = .int .i64 (a : Int)) (hy : ρ y = .int .i64 (b : Int)) (w : World) : (execOp ρ o).run P w = .ok (.value (.int .i64 ((min a b : Nat) : Int))) w := by
  unfold execOp
  simp [ho, hx, hy, go_sem, resolve, invoke, builtin]
  split <;> omega
end Go.Proofs.YtjllkmkngjdjjaaDoor
