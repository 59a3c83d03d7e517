/- WORDS: a []api.Digest that the call owns, digests put behind it (blocks of XDigO, XDigP, XDigI; written by pick.py). No statement of the seed is proved here. -/
import Derived.Test.YtjllkmkngjdjjaaDoorDsB
import Derived.Test.YtjllkmkngjdjjaaDoorAny
import Derived.Test.YtjllkmkngjdjjaaDoorPair
namespace Go.Proofs.YtjllkmkngjdjjaaDoor
open Go.RowKit
set_option maxRecDepth 100000
variable {F : Fence} {n : Nat} {w : World} {ops : Array Oper} {rest : List Oper} {o : Oper} {a : Act} {Q : Exit → Act → World → Prop}
def digsL (ds : List (List UInt8)) : List Value := ds.flatMap u8s
def Wid32 (ds : List (List UInt8)) : Prop := ∀ d ∈ ds, d.length = 32
theorem digsL_length : ∀ (ds : List (List UInt8)), Wid32 ds → (digsL ds).length = ds.length * 32
  | [], _ => rfl
  | d :: ds, h => by
    have := digsL_length ds (fun e he => h e (by simp [he]))
    unfold digsL at *
    rw [List.flatMap_cons, List.length_append, this, u8s_length, h d (by simp), List.length_cons]
    omega
theorem digsL_append (a b : List (List UInt8)) : digsL (a ++ b) = digsL a ++ digsL b := by simp [digsL]
theorem digsL_one (d : List UInt8) : digsL [d] = u8s d := by simp [digsL]
theorem digsL_get : ∀ (ds : List (List UInt8)), Wid32 ds → ∀ (i : Nat) (hi : i < ds.length) (j : Nat), j < 32 → (digsL ds)[i * 32 + j]? = (u8s ds[i])[j]?
  | [], _, i, hi, _, _ => by simp at hi
  | d :: ds, h, 0, _, j, hj => by
    rw [show digsL (d :: ds) = u8s d ++ digsL ds from rfl, Nat.zero_mul, Nat.zero_add, List.getElem?_append_left (by rw [u8s_length, h d (by simp)]; exact hj)]
    rfl
  | d :: ds, h, i + 1, hi, j, hj => by
    have ih := digsL_get ds (fun e he => h e (by simp [he])) i (by simpa using hi) j hj
    have hl : (u8s d).length = 32 := by rw [u8s_length, h d (by simp)]
    rw [show digsL (d :: ds) = u8s d ++ digsL ds from rfl, List.getElem?_append_right (by omega), hl, show (i + 1) * 32 + j - 32 = i * 32 + j by omega, ih]
    simp
/-- A []api.Digest that the call owns. -/
def DsO (w : World) (B : Nat) (v : Value) (ds : List (List UInt8)) : Prop := w.ownsRow B 24 32 v ds.length (digsL ds) ∧ Wid32 ds
theorem DsO.nil (w : World) (B : Nat) : DsO w B (.slice none 0 0) [] := ⟨World.ownsRow_nil _ _ _ _, fun d h => (by cases h)⟩
theorem DsO.below {w w1 : World} {B : Nat} {v : Value} {ds : List (List UInt8)} (h : DsO w B v ds) (hb : Below w.heap.size w w1) : DsO w1 B v ds := ⟨owns_below h.1 hb, h.2⟩
theorem DsO.ds {w : World} {B : Nat} {v : Value} {ds : List (List UInt8)} (h : DsO w B v ds) : Ds w v ds := by
  have hr := Row.of_owns h.1
  obtain ⟨h, hw⟩ := h
  rcases h with ⟨hl, ⟨rfl, hn⟩ | ⟨g, cap, cur, rfl, hb, hg, hn, hm, hs, ht⟩⟩
  · have : ds = [] := List.eq_nil_of_length_eq_zero (by simpa using hn)
    subst this
    exact ⟨none, 0, rfl, Nat.le_refl _, by unfold maxLen; omega, fun _ => rfl, by simp, fun j h => by simp at h⟩
  · refine ⟨some ⟨g, 0, none⟩, cap, rfl, hn, hm, fun h => (by cases h), hw, fun j hj => ⟨g, 0, rfl, fun q u hu => ?_⟩⟩
    have hq : q < 32 := by have := (List.getElem?_eq_some_iff.1 hu).1; rwa [u8s_length, hw _ (List.getElem_mem hj)] at this
    rw [← digsL_get ds hw j hj q hq] at hu
    obtain ⟨ad, ha, hc⟩ := hr.at_ (j * 32 + q) hu
    cases ha
    rw [Addr.add_mid] at hc
    rw [← Nat.add_assoc] at hc
    exact hc
theorem DsO.form {w : World} {B : Nat} {v : Value} {ds : List (List UInt8)} (h : DsO w B v ds) : ∃ A c, v = .slice A ds.length c ∧ ds.length ≤ c ∧ c ≤ 9223372036854775807 := h.ds.form
theorem info_digest : (Tryd.prog.info? 24).map (fun i => (i.zero.map (·.cells.size), i.size, i.bytes)) = some (some 32, 32, 32) := by kernel_rfl
theorem run_app_digest {w : World} (ty : TypeId) (B : Nat) (v : Value) (ds : List (List UInt8)) (hown : DsO w B v ds) (d : List UInt8) (hd : d.length = 32) (hn : ds.length + 1 ≤ 4000000) (hB : B ≤ w.heap.size) :
    ∃ v' w', (Builtin.append_ #[22, 22] ty #[v, .slice (some ⟨w.heap.size, 0, none⟩) 1 1]).run Tryd.prog (w.alloc (.cells (u8s d).toArray 24)) = .ok v' w' ∧ DsO w' B v' (ds ++ [d]) ∧
      (w.alloc (.cells (u8s d).toArray 24)).grownBy w' v.ownBlock ∧ (v'.ownBlock = v.ownBlock ∨ v'.ownBlock = some (w.heap.size + 1)) := by
  have ht : Tryd.prog.underlying 22 = some (.slice 24) := by kernel_rfl
  obtain ⟨i, hi, hq⟩ := Option.map_eq_some_iff.1 info_digest
  simp only [Prod.mk.injEq] at hq
  obtain ⟨q1, q2, q3⟩ := hq
  obtain ⟨z, hz, hzs⟩ := Option.map_eq_some_iff.1 q1
  have hl : (u8s d).length = 1 * 32 := by rw [u8s_length, hd]
  obtain ⟨v', w', e1, e2, e3, _, e5⟩ := run_append_own_at (P := Tryd.prog) (w.alloc (.cells (u8s d).toArray 24)) B 22 ty 24 i z 32 32 ht hi hz q2 q3 hzs (by omega) v ds.length (digsL ds) (World.ownsRow.alloc hown.1 _) ⟨w.heap.size, 0, none⟩ 1 1 (u8s d) hl (fun j u hu => by
    rw [add_plain, cell_of_row _ w.heap.size j _ _ (0, 0) (heap_alloc_new w _)]
    simpa using hu) (u8s_one d) (by unfold maxLen; omega) (by omega) (by simp; omega)
  refine ⟨v', w', e1, ⟨?_, fun e he => ?_⟩, e3, by simpa using e5⟩
  · rw [List.length_append, digsL_append, digsL_one]
    exact e2
  · rcases List.mem_append.1 he with he | he
    · exact hown.2 e he
    · simp at he; subst he; exact hd
theorem run_op_one_digest {w : World} {o : Oper} {ρ : Operand → Value} (x : Operand) (ho : o.op = .buildSlice 22 1 #[(0, x)]) (d : List UInt8) (hx : ρ x = .agg (u8s d).toArray) (hl : d.length = 32) :
    (execOp ρ o).run Tryd.prog w = .ok (.value (.slice (some ⟨w.heap.size, 0, none⟩) 1 1)) (w.alloc (.cells (u8s d).toArray 24)) := by
  obtain ⟨i, hi, hq⟩ := Option.map_eq_some_iff.1 info_digest
  simp only [Prod.mk.injEq] at hq
  obtain ⟨q1, q2, q3⟩ := hq
  obtain ⟨z, hz, hzs⟩ := Option.map_eq_some_iff.1 q1
  have hul : (u8s d).length = 32 := by rw [u8s_length, hl]
  have hf := Great.fill_whole (s := 32) (by omega) [.agg (u8s d).toArray] ((Array.range (1 * 32)).map (z.cells[· % z.cells.size]!)) (by simp [Value.cells, hul]) (by simp)
  unfold execOp
  simp only [ho, Sem.run_bind, Sem.run_pure]
  rw [run_buildSlice w 22 24 1 _ (u8s d).toArray i z (by kernel_rfl) hi hz (by rw [q2]; omega) (by rw [q2]; omega) (by rw [q2]; simpa [hx, Value.cells] using hf)]
  rfl
theorem wpListIn_one_digest (hg : o.guard = none) (x : Operand) (ho : o.op = .buildSlice 22 1 #[(0, x)]) (d : List UInt8) (hx : a.eval x = .agg (u8s d).toArray) (hl : d.length = 32)
    (h : wpListIn F n Tryd.prog ops Q rest (a.put o.dst (.slice (some ⟨w.heap.size, 0, none⟩) 1 1)) (w.alloc (.cells (u8s d).toArray 24))) : wpListIn F n Tryd.prog ops Q (o :: rest) a w :=
  wpListIn_val hg (by rw [ho]; intro c hc; cases hc) (by simp [Oper.about, ho]) _ _ (run_op_one_digest x ho d hx hl) h
theorem wpListIn_app_digest (hgd : o.guard = none) (s x : Operand) (ho : o.op = .call { callee := .builtin .append, args := #[s, x], argTypes := #[22, 22] }) (B : Nat) (v : Value) (hs : a.eval s = v) (ds : List (List UInt8)) (hown : DsO w B v ds)
    (d : List UInt8) (hd : d.length = 32) (hx : a.eval x = .slice (some ⟨w.heap.size, 0, none⟩) 1 1) (hn : ds.length + 1 ≤ 4000000) (hB : B ≤ w.heap.size)
    (h : ∀ v' w', DsO w' B v' (ds ++ [d]) → (w.alloc (.cells (u8s d).toArray 24)).grownBy w' v.ownBlock → (v'.ownBlock = v.ownBlock ∨ v'.ownBlock = some (w.heap.size + 1)) → wpListIn F n Tryd.prog ops Q rest (a.put o.dst v') w') :
    wpListIn F n Tryd.prog ops Q (o :: rest) a (w.alloc (.cells (u8s d).toArray 24)) := by
  obtain ⟨v', w', h1, h2, h3, h4⟩ := run_app_digest o.type B v ds hown d hd hn hB
  exact wpListIn_val hgd (by rw [ho]; intro c hc; cases hc) (about_append s x _ ho) v' w' (run_op_append s x _ ho v _ hs hx v' w' h1) (h v' w' h2 h3 h4)
theorem wpListIn_store_run {F : Fence} {n : Nat} {P : Program} {w : World} {ops : Array Oper} {rest : List Oper} {o : Oper} {a : Act} {Q : Exit → Act → World → Prop} (hg : o.guard = Option.none) (ty : TypeId) (x y : Operand) (ho : o.op = .store ty x y)
    (p v : Value) (hx : a.eval x = p) (hy : a.eval y = v) (w' : World) (hr : (Instr.storeAt ty p v).run P w = .ok () w') (h : wpListIn F n P ops Q rest (a.put o.dst undef) w') : wpListIn F n P ops Q (o :: rest) a w := by
  refine wpListIn_plain hg fun K' hK' => ?_
  unfold Oper.wpIn
  refine ⟨by simp [Oper.about, ho], ?_⟩
  rw [Oper.semAt_plain F _ _ (by rw [ho]; intro c hc'; cases hc')]
  simp [execOp, ho, hx, hy, hr, Result.andThen]
  exact hK' _ _ h
end Go.Proofs.YtjllkmkngjdjjaaDoor
