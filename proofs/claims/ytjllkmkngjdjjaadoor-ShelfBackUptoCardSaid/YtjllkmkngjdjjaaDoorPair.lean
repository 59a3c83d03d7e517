/- WORDS for the walks of the laws about values that no call made, for any seat. No statement of the seed is proved here. -/
import Derived.Test.YtjllkmkngjdjjaaDoorIterN
import Derived.LoopN
import Derived.Deep.MidRow
namespace Go.Proofs.YtjllkmkngjdjjaaDoor
open Go.RowKit
/-- What 'for _, d := range []*T{nil, {}}' lays ahead of its rounds. -/
theorem pair_cells (w : World) (z : Array Value) (t tp : TypeId) :
    Below w.heap.size w ((w.alloc (.cells z t)).alloc (.cells #[.pointer Option.none, .pointer (some ⟨w.heap.size, 0, Option.none⟩)] tp)) ∧
    (∀ (j : Nat) (x : Value), z[j]? = some x → ((w.alloc (.cells z t)).alloc (.cells #[.pointer Option.none, .pointer (some ⟨w.heap.size, 0, Option.none⟩)] tp)).cell? ⟨w.heap.size, j, Option.none⟩ = some x) ∧
    ((w.alloc (.cells z t)).alloc (.cells #[.pointer Option.none, .pointer (some ⟨w.heap.size, 0, Option.none⟩)] tp)).cell? ⟨w.heap.size + 1, 0, Option.none⟩ = some (.pointer Option.none) ∧
    ((w.alloc (.cells z t)).alloc (.cells #[.pointer Option.none, .pointer (some ⟨w.heap.size, 0, Option.none⟩)] tp)).cell? ⟨w.heap.size + 1, 1, Option.none⟩ = some (.pointer (some ⟨w.heap.size, 0, Option.none⟩)) := by
  have hn := heap_alloc_new (w.alloc (.cells z t)) (.cells #[.pointer Option.none, .pointer (some ⟨w.heap.size, 0, Option.none⟩)] tp)
  rw [World.size_alloc] at hn
  refine ⟨((Below.refl _ _).alloc (Nat.le_refl _) _).alloc (by simp) _, fun j x hx => ?_, cell_of_row _ (w.heap.size + 1) 0 _ _ (0, 0) hn, cell_of_row _ (w.heap.size + 1) 1 _ _ (0, 0) hn⟩
  refine cell_below (below_alloc1 _ _) ?_
  have h1 := heap_alloc_new w (.cells z t)
  have hj : j < z.size := (Array.getElem?_eq_some_iff.1 hx).1
  rw [cell_of_row _ w.heap.size j _ _ (0, 0) h1]
  exact hx

theorem equalIn_func_nil {P : Program} (d : Nat) (t : TypeId) (ps rs : Array TypeId) (vd : Bool) (h : P.underlying t = some (.func ps rs vd)) (f : Fn) (cs bs : Array Value) (w : World) :
    (Op.equalIn (d + 1) t (.func f cs bs) .nilFunc).run P w = .ok false w := by
  simp [Op.equalIn, run_underlying h]
theorem eql_func_nil {P : Program} (t : TypeId) (ps rs : Array TypeId) (vd : Bool) (h : P.underlying t = some (.func ps rs vd)) (f : Fn) (cs bs : Array Value) (w : World) :
    (binOp .eql t (.func f cs bs) .nilFunc).run P w = .ok (.bool false) w := by
  simp only [binOp]
  simp [Op.equal, Op.maxDepth, equalIn_func_nil 9999 t ps rs vd h f cs bs w]

/-- A load whose run is known, in a fenced walk. -/
theorem wpListIn_load_run {F : Fence} {n : Nat} {P : Program} {w : World} {ops : Array Oper} {rest : List Oper} {o : Oper} {a : Act} {Q : Exit → Act → World → Prop} (hg : o.guard = Option.none) (ty : TypeId) (x : Operand) (ho : o.op = .load ty x)
    (p v : Value) (hx : a.eval x = p) (hr : (Instr.loadAt ty p).run P w = .ok v w) (h : wpListIn F n P ops Q rest (a.put o.dst v) w) : wpListIn F n P ops Q (o :: rest) a w := by
  refine wpListIn_plain hg fun K' hK' => ?_
  unfold Oper.wpIn
  refine ⟨by simp [Oper.about, ho], ?_⟩
  rw [Oper.semAt_plain F _ _ (by rw [ho]; intro c hc'; cases hc')]
  simp [execOp, ho, hx, hr, Result.andThen]
  exact hK' _ _ h
/-- The function leaves with two marks. -/
theorem leaves_two {F : Fence} {n : Nat} {P : Program} {fn : Func} {tmps : Array Value} {R : Ending → World → Prop} {w W : World} {D D2 : Nat} {v : Value}
    (h1 : W.heap[D]? = some (.deferred (some []))) (h2 : W.heap[D2]? = some (.deferred (some []))) (hne : D ≠ D2) (hD : w.heap.size ≤ D) (hD2 : w.heap.size ≤ D2) (hB : Below w.heap.size w W)
    (hr : ∀ W', (results fn tmps).run P W' = .ok v W') (hR : ∀ W', Below w.heap.size w W' → R (.returned v) W') :
    LeavesInM F n P fn tmps R [{ target := .collected D2, args := #[] }, { target := .collected D, args := #[] }] .returning W := by
  have h1' : (W.putObj D2 (.deferred Option.none)).heap[D]? = some (.deferred (some [])) := (World.putObj_heap_other hne).trans h1
  refine ⟨by simp, .inl ⟨_, _, rfl, run_takeDeferred h2, ?_⟩⟩
  refine ⟨by simp, .inl ⟨_, _, rfl, run_takeDeferred h1', ?_⟩⟩
  exact ⟨_, hr _, hR _ ((hB.trans (belowK_b (w := w) (Nat.le_refl _) W D2 _ _ hD2 h2 rfl rfl)).trans (belowK_b (w := w) (Nat.le_refl _) _ D _ _ hD h1' rfl rfl))⟩
end Go.Proofs.YtjllkmkngjdjjaaDoor
