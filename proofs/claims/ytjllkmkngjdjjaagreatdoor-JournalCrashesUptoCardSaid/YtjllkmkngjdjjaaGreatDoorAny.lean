/- LAWS OF MY OWN for a walk: an operation whose run is known, whatever it is. No statement of the seed is proved here. WORDS for maps from strings that the call owns: what they hold, as a function. No statement of the seed is proved here. A DISK IN PLAIN WORDS: its files as a function, its raw writes. No statement of the seed is proved here. A DISK IN MEMORY: its files, its raw writes; what a step leaves as it was. No statement of the seed is proved here. LAWS OF MY OWN: one struct put behind a slice of structs. No statement of the seed is proved here. -/
import Derived.Test.YtjllkmkngjdjjaaGreatDoorPair
import Derived.Maps.OwnSet
import Derived.Maps.OwnOps
import Derived.Maps.Ext
import Derived.Great.BuildSlice
import Derived.Deep.AppendLies
namespace Go.Proofs.YtjllkmkngjdjjaaGreatDoor
open Go.RowKit
theorem wpList_val {P : Program} {ops : Array Oper} {rest : List Oper} {o : Oper} {a : Act} {w : World} {Q : Exit → Act → World → Prop} (hg : o.guard = none) (v : Value) (w' : World) (hr : (execOp a.eval o).run P w = .ok (.value v) w')
    (h : wpList P ops Q rest (a.put o.dst v) w') : wpList P ops Q (o :: rest) a w := by
  refine wpList_plain hg fun K hK => ?_
  unfold Oper.wp
  rw [hr]
  exact hK _ _ h
theorem wpListIn_val {F : Fence} {n : Nat} {P : Program} {w : World} {ops : Array Oper} {rest : List Oper} {o : Oper} {a : Act} {Q : Exit → Act → World → Prop} (hg : o.guard = Option.none) (hd : ∀ c, o.op ≠ .defer c) (ha : o.about P w a.eval = none) (v : Value) (w' : World)
    (hr : (execOp a.eval o).run P w = .ok (.value v) w') (h : wpListIn F n P ops Q rest (a.put o.dst v) w') : wpListIn F n P ops Q (o :: rest) a w := by
  refine wpListIn_plain hg fun K' hK' => ?_
  unfold Oper.wpIn
  refine ⟨fun f hf => (by rw [ha] at hf; cases hf), ?_⟩
  rw [Oper.semAt_plain F _ _ hd, hr]
  exact hK' _ _ h
theorem run_op_append {P : Program} {w : World} {o : Oper} {ρ : Operand → Value} (s x : Operand) (t : TypeId) (ho : o.op = .call { callee := .builtin .append, args := #[s, x], argTypes := #[t, t] }) (v y : Value) (hs : ρ s = v) (hx : ρ x = y) (r : Value) (w' : World)
    (hr : (Builtin.append_ #[t, t] o.type #[v, y]).run P w = .ok r w') : (execOp ρ o).run P w = .ok (.value r) w' := by
  unfold execOp
  simp only [ho, resolve, invoke, builtin, Sem.run_bind, Sem.run_pure, Result.andThen_ok, List.map_toArray, List.map_cons, List.map_nil, hs, hx, hr]
theorem about_append {P : Program} {w : World} {o : Oper} {ρ : Operand → Value} (s x : Operand) (t : TypeId) (ho : o.op = .call { callee := .builtin .append, args := #[s, x], argTypes := #[t, t] }) : o.about P w ρ = none := by
  simp [Oper.about, ho, resolve, Target.leads, Sem.run_pure]
end Go.Proofs.YtjllkmkngjdjjaaGreatDoor
namespace Go.Proofs.YtjllkmkngjdjjaaGreatDoor
open Go.RowKit
set_option maxRecDepth 100000

def heldR (v : Value) : Option (DataW Value × List MemPlace) := some (.held v, [])
def upd {α : Type} (f : ByteArray → Option α) (n : ByteArray) (x : Option α) : ByteArray → Option α := fun m => if m = n then x else f m
theorem upd_same {α : Type} (f : ByteArray → Option α) (n : ByteArray) (x : Option α) : upd f n x n = x := by simp [upd]
theorem upd_other {α : Type} (f : ByteArray → Option α) {n m : ByteArray} (x : Option α) (h : m ≠ n) : upd f n x m = f m := by simp [upd, h]
theorem key_ne {m n : ByteArray} (h : m ≠ n) : Lit.string m.data.toList ≠ Lit.string n.data.toList := fun e => h (by
  injection e with e
  apply ByteArray.ext
  exact Array.toList_inj.1 e)
theorem key_str (s : ByteArray) (hs : s.size ≤ maxLen) : keyOf Tryz.prog 9 (.string s) = some (.string s.data.toList) := by
  rw [keyOf_string Tryz.underlying9]
  simp [mapKey, Tryz.underlying9, hs]
theorem keyed_str : Maps.Keyed Tryz.prog 9 := Maps.string_keyed Tryz.underlying9
/-- Block b is a map of at most c entries, from strings, that holds f. -/
def MapAt (w : World) (b c : Nat) (f : ByteArray → Option Value) : Prop :=
  ∃ D : DataW Value, w.ownsMap Tryz.prog 9 heldR b c D ∧ ∀ m : ByteArray, Maps.has D (.string m.data.toList) = (f m).isSome ∧ ∀ z, D.atKey (.string m.data.toList) z = (match f m with | some v => .held v | none => z)
theorem MapAt.lt {w : World} {b c : Nat} {f : ByteArray → Option Value} (h : MapAt w b c f) : b < w.heap.size := let ⟨_, h1, _⟩ := h; h1.lt
theorem MapAt.kept {w w' : World} {b c : Nat} {f : ByteArray → Option Value} (h : MapAt w b c f) (e : w'.heap[b]? = w.heap[b]?) : MapAt w' b c f := by
  obtain ⟨D, ⟨es, clock, h1, h2, h3, h4⟩, h5⟩ := h
  exact ⟨D, ⟨es, clock, e.trans h1, h2, h3, h4⟩, h5⟩
theorem MapAt.isMap {w : World} {b c : Nat} {f : ByteArray → Option Value} (h : MapAt w b c f) : ∃ ob : Obj, w.heap[b]? = some ob ∧ ob.isCells = false := by
  obtain ⟨D, ⟨es, clock, h1, h2, h3, h4⟩, h5⟩ := h
  exact ⟨_, h1, rfl⟩
theorem MapAt.made (w : World) : MapAt (w.alloc (.map #[] 0)) w.heap.size 0 (fun _ => none) :=
  ⟨.map [], World.ownsMap_made w _ _ _, fun m => ⟨rfl, fun z => rfl⟩⟩
section
variable {w : World} {b c : Nat} {f : ByteArray → Option Value} {t e : TypeId} {z : Value}
theorem MapAt.look_ok (h : MapAt w b c f) (ht : Tryz.prog.underlying t = some (.map 9 e)) (hz : (zeroValue e).run Tryz.prog w = .ok z w) (s : ByteArray) (hs : s.size ≤ maxLen) :
    (Instr.lookup t (.map (some b)) (.string s) true).run Tryz.prog w = .ok (.tuple #[(f s).getD z, .bool (f s).isSome]) w := by
  obtain ⟨D, hD, hf⟩ := h
  obtain ⟨v, ps, h1, h2⟩ := hD.look_ok keyed_str ht hz (zd := .held z) (zp := []) rfl (key_str s hs)
  rw [h1, (hf s).1]
  rw [(hf s).2] at h2
  cases hx : f s with
  | none => rw [hx] at h2; cases h2; rfl
  | some u => rw [hx] at h2; cases h2; rfl
theorem MapAt.look (h : MapAt w b c f) (ht : Tryz.prog.underlying t = some (.map 9 e)) (hz : (zeroValue e).run Tryz.prog w = .ok z w) (s : ByteArray) (hs : s.size ≤ maxLen) :
    (Instr.lookup t (.map (some b)) (.string s) false).run Tryz.prog w = .ok ((f s).getD z) w := by
  obtain ⟨D, hD, hf⟩ := h
  obtain ⟨v, ps, h1, h2⟩ := hD.lookup keyed_str ht hz (zd := .held z) (zp := []) rfl (key_str s hs)
  rw [h1]
  rw [(hf s).2] at h2
  cases hx : f s with
  | none => rw [hx] at h2; cases h2; rfl
  | some u => rw [hx] at h2; cases h2; rfl
theorem MapAt.store (h : MapAt w b c f) (ht : Tryz.prog.underlying t = some (.map 9 e)) (hc : c < maxLen) (s : ByteArray) (hs : s.size ≤ maxLen) (v : Value) :
    ∃ w', (Instr.mapUpdate t (.map (some b)) (.string s) v).run Tryz.prog w = .ok () w' ∧ MapAt w' b (c + 1) (upd f s (some v)) ∧ w.mapTurned w' b := by
  obtain ⟨D, hD, hf⟩ := h
  obtain ⟨w', h1, h2, h3⟩ := hD.store keyed_str ht hc (val := v) (d := .held v) (ps := []) (key_str s hs) rfl
  refine ⟨w', h1, ⟨_, h2, fun m => ?_⟩, h3⟩
  by_cases hm : m = s
  · subst hm
    rw [upd_same]
    exact ⟨Maps.has_put_same hD.isMap (show WideAt.IsKeyLit (Lit.string m.data.toList) from trivial) _, fun z => Maps.atKey_put_same hD.isMap (show WideAt.IsKeyLit (Lit.string m.data.toList) from trivial) _ _⟩
  · rw [upd_other _ _ hm, Maps.has_put_other (key_ne hm)]
    exact ⟨(hf m).1, fun z => by rw [Maps.atKey_put_other (key_ne hm)]; exact (hf m).2 z⟩
theorem MapAt.drop (h : MapAt w b c f) (ht : Tryz.prog.underlying t = some (.map 9 e)) (s : ByteArray) (hs : s.size ≤ maxLen) (ty : TypeId) :
    ∃ w', (Builtin.delete_ #[t, 9] ty #[.map (some b), .string s]).run Tryz.prog w = .ok (.tuple #[]) w' ∧ MapAt w' b c (upd f s none) ∧ w.mapTurned w' b := by
  obtain ⟨D, hD, hf⟩ := h
  obtain ⟨w', h1, h2, h3⟩ := hD.drop keyed_str ht (key_str s hs) ty
  refine ⟨w', h1, ⟨_, h2, fun m => ?_⟩, h3⟩
  by_cases hm : m = s
  · subst hm
    rw [upd_same]
    exact ⟨Maps.has_del_same, fun z => Maps.atKey_del_same _⟩
  · rw [upd_other _ _ hm, Maps.has_del_other (key_ne hm)]
    exact ⟨(hf m).1, fun z => by rw [Maps.atKey_del_other (key_ne hm)]; exact (hf m).2 z⟩
open Go.ChangeMaps Go.MapKept in
theorem turned_block {w' : World} (h : w.mapTurned w' b) {k : Nat} (hk : k ≠ b) : w'.heap[k]? = w.heap[k]? := by
  obtain ⟨es, clock, es', clock', h1, rfl⟩ := h
  exact heap_setBlock_other h1 _ hk
open Go.ChangeMaps Go.MapKept in
theorem turned_size {w' : World} (h : w.mapTurned w' b) : w'.heap.size = w.heap.size := by
  obtain ⟨es, clock, es', clock', h1, rfl⟩ := h
  simp [setBlock]
theorem turned_os {w' : World} (h : w.mapTurned w' b) : w'.os = w.os ∧ w'.tape = w.tape ∧ w'.output = w.output := by
  obtain ⟨es, clock, es', clock', h1, rfl⟩ := h
  exact ⟨rfl, rfl, rfl⟩
end
end Go.Proofs.YtjllkmkngjdjjaaGreatDoor
namespace Go.Proofs.YtjllkmkngjdjjaaGreatDoor
open Go.RowKit

structure RawD where
  kind : Nat
  name : ByteArray
  bytes : List UInt8
  size : Nat
  to : ByteArray
abbrev Fs := ByteArray → Option (List UInt8)
/-- What a raw write makes of the files. -/
def fsDo (fs : Fs) (r : RawD) : Fs :=
  if r.kind = 1 then upd fs r.name (some [])
  else if r.kind = 2 then upd fs r.name (some ((fs r.name).getD [] ++ r.bytes))
  else if r.kind = 3 then upd fs r.name (some (((fs r.name).getD []).take r.size))
  else if r.kind = 4 then upd fs r.name none
  else upd (upd fs r.name none) r.to (some ((fs r.name).getD []))
structure DSt where
  sec : Nat
  fs : Fs
  raws : List RawD
def DSt.run (s : DSt) (r : RawD) : DSt := ⟨s.sec, fsDo s.fs r, s.raws ++ [r]⟩
def DSt.runs (s : DSt) (l : List RawD) : DSt := l.foldl DSt.run s
theorem DSt.runs_nil (s : DSt) : s.runs [] = s := rfl
theorem DSt.runs_cons (s : DSt) (r : RawD) (l : List RawD) : s.runs (r :: l) = (s.run r).runs l := rfl
theorem DSt.runs_append (s : DSt) (l m : List RawD) : s.runs (l ++ m) = (s.runs l).runs m := by simp [DSt.runs]
theorem DSt.runs_sec (s : DSt) (l : List RawD) : (s.runs l).sec = s.sec := by
  induction l generalizing s with
  | nil => rfl
  | cons r l ih => rw [DSt.runs_cons, ih]; rfl
theorem DSt.runs_raws (s : DSt) (l : List RawD) : (s.runs l).raws = s.raws ++ l := by
  induction l generalizing s with
  | nil => simp [DSt.runs]
  | cons r l ih => rw [DSt.runs_cons, ih]; simp [DSt.run]
def emptyD (sec : Nat) : DSt := ⟨sec, fun _ => none, []⟩
/-- A text may name a file. -/
def nameOk (n : ByteArray) : Bool := decide (1 ≤ n.size) && decide (n.size ≤ 128)
/-- What is wrong with a call of a file. -/
def dWrong (s : DSt) (n : ByteArray) (there : Bool) : Int :=
  if nameOk n = false then 2 else match s.fs n with
    | some _ => if there then 0 else 120
    | none => if there then 121 else 0
def rCreate (n : ByteArray) : RawD := ⟨1, n, [], 0, ByteArray.empty⟩
def rAppend (n : ByteArray) (b : List UInt8) : RawD := ⟨2, n, b, 0, ByteArray.empty⟩
def rCut (n : ByteArray) (k : Nat) : RawD := ⟨3, n, [], k, ByteArray.empty⟩
def rRemove (n : ByteArray) : RawD := ⟨4, n, [], 0, ByteArray.empty⟩
def rRename (n m : ByteArray) : RawD := ⟨5, n, [], 0, m⟩
theorem run_create (s : DSt) (n : ByteArray) : (s.run (rCreate n)).fs = upd s.fs n (some []) := rfl
theorem run_append (s : DSt) (n : ByteArray) (b : List UInt8) : (s.run (rAppend n b)).fs = upd s.fs n (some ((s.fs n).getD [] ++ b)) := rfl
theorem run_append_fs (fs : Fs) (n : ByteArray) (b : List UInt8) : fsDo fs (rAppend n b) = upd fs n (some ((fs n).getD [] ++ b)) := rfl
theorem run_cut (s : DSt) (n : ByteArray) (k : Nat) : (s.run (rCut n k)).fs = upd s.fs n (some (((s.fs n).getD []).take k)) := rfl
theorem run_remove (s : DSt) (n : ByteArray) : (s.run (rRemove n)).fs = upd s.fs n none := rfl
/-- How many bytes the next raw write of an append has. -/
def chunkN (sec len n : Nat) : Nat := min (sec - len % sec) n
theorem chunkN_le (sec len n : Nat) : chunkN sec len n ≤ n := Nat.min_le_right _ _
theorem chunkN_pos {sec len n : Nat} (hs : 0 < sec) (hn : 0 < n) : 0 < chunkN sec len n := by
  have := Nat.mod_lt len hs
  unfold chunkN
  omega
/-- The pieces of an append, behind len bytes. -/
def chunks (sec len : Nat) : Nat → List UInt8 → List (List UInt8)
  | 0, _ => []
  | _ + 1, [] => []
  | f + 1, x :: b => (x :: b).take (chunkN sec len (b.length + 1)) :: chunks sec (len + chunkN sec len (b.length + 1)) f ((x :: b).drop (chunkN sec len (b.length + 1)))
theorem chunks_flat {sec : Nat} (hs : 0 < sec) : ∀ (f len : Nat) (b : List UInt8), b.length ≤ f → (chunks sec len f b).flatten = b
  | 0, len, b, h => by have : b = [] := List.eq_nil_of_length_eq_zero (by omega); subst this; rfl
  | f + 1, len, [], h => rfl
  | f + 1, len, x :: b, h => by
    have hp := chunkN_pos (len := len) (n := b.length + 1) hs (by omega)
    rw [chunks, List.flatten_cons, chunks_flat hs f _ _ (by simp at h ⊢; omega), List.take_append_drop]
theorem chunks_ne {sec : Nat} (hs : 0 < sec) : ∀ (f len : Nat) (b : List UInt8), ∀ c ∈ chunks sec len f b, c ≠ []
  | 0, len, b, c, h => by simp [chunks] at h
  | f + 1, len, [], c, h => by simp [chunks] at h
  | f + 1, len, x :: b, c, h => by
    have hp := chunkN_pos (len := len) (n := b.length + 1) hs (by omega)
    rw [chunks] at h
    rcases List.mem_cons.1 h with e | e
    · subst e
      intro e2
      have := congrArg List.length e2
      simp at this
      omega
    · exact chunks_ne hs f _ _ c e
theorem chunks_step {sec len f : Nat} {b : List UInt8} (hb : 0 < b.length) : chunks sec len (f + 1) b = b.take (chunkN sec len b.length) :: chunks sec (len + chunkN sec len b.length) f (b.drop (chunkN sec len b.length)) := by
  cases b with
  | nil => simp at hb
  | cons x b => rfl
theorem chunks_nil (sec len f : Nat) : chunks sec len f [] = [] := by cases f <;> rfl
theorem chunks_more {sec : Nat} (hs : 0 < sec) : ∀ (f g len : Nat) (b : List UInt8), b.length ≤ f → b.length ≤ g → chunks sec len f b = chunks sec len g b
  | 0, g, len, b, h, _ => by have : b = [] := List.eq_nil_of_length_eq_zero (by omega); subst this; rw [chunks_nil, chunks_nil]
  | f + 1, 0, len, b, _, h => by have : b = [] := List.eq_nil_of_length_eq_zero (by omega); subst this; rw [chunks_nil, chunks_nil]
  | f + 1, g + 1, len, [], _, _ => rfl
  | f + 1, g + 1, len, x :: b, h, k => by
    have hp := chunkN_pos (len := len) (n := b.length + 1) hs (by omega)
    rw [chunks, chunks, chunks_more hs f g _ _ (by simp at h ⊢; omega) (by simp at k ⊢; omega)]
theorem chunks_few {sec : Nat} (hs : 0 < sec) (f len : Nat) (b : List UInt8) (h : b.length ≤ f) : (chunks sec len f b).length ≤ b.length := by
  have h1 := chunks_flat hs f len b h
  have h2 := chunks_ne hs f len b
  have : ∀ (l : List (List UInt8)), (∀ c ∈ l, c ≠ []) → l.length ≤ l.flatten.length := by
    intro l
    induction l with
    | nil => simp
    | cons c l ih =>
      intro hl
      have := ih (fun d hd => hl d (by simp [hd]))
      have hc : 0 < c.length := List.length_pos_iff.2 (hl c (by simp))
      simp only [List.length_cons, List.flatten_cons, List.length_append]
      omega
  have := this _ h2
  rwa [h1] at this
/-- An append's raw writes. -/
def appR (s : DSt) (n : ByteArray) (b : List UInt8) : List RawD := (chunks s.sec ((s.fs n).getD []).length b.length b).map (rAppend n)
theorem runs_appends (n : ByteArray) : ∀ (cs : List (List UInt8)) (s : DSt) (l : List UInt8), s.fs n = some l → (s.runs (cs.map (rAppend n))).fs = upd s.fs n (some (l ++ cs.flatten))
  | [], s, l, h => by
    rw [List.map_nil, DSt.runs_nil, List.flatten_nil, List.append_nil]
    funext m
    by_cases e : m = n
    · subst e; rw [upd_same, h]
    · rw [upd_other _ _ e]
  | c :: cs, s, l, h => by
    rw [List.map_cons, DSt.runs_cons, runs_appends n cs (s.run (rAppend n c)) (l ++ c) (by rw [run_append, upd_same, h]; rfl), run_append]
    funext m
    by_cases e : m = n
    · subst e; rw [upd_same, upd_same]; simp
    · rw [upd_other _ _ e, upd_other _ _ e, upd_other _ _ e]
theorem runs_appR {s : DSt} (hs : 0 < s.sec) {n : ByteArray} {l : List UInt8} (h : s.fs n = some l) (b : List UInt8) : (s.runs (appR s n b)).fs = upd s.fs n (some (l ++ b)) := by
  unfold appR
  rw [runs_appends n _ s l h, chunks_flat hs _ _ _ (Nat.le_refl _)]
end Go.Proofs.YtjllkmkngjdjjaaGreatDoor
namespace Go.Proofs.YtjllkmkngjdjjaaGreatDoor
open Go.RowKit
set_option maxRecDepth 100000

theorem mods_cell {w w' : World} {a : Addr} (h : w'.heap[a.block]? = w.heap[a.block]?) : w'.cell? a = w.cell? a := World.cell?_of_block h
theorem mods_frozen {w w' : World} {a : Addr} (h : w'.heap[a.block]? = w.heap[a.block]?) : w'.frozen? a = w.frozen? a := World.frozen?_of_block h
theorem mods_owns {w w' : World} {B : Nat} {e : TypeId} {s n : Nat} {v : Value} {xs : List Value} (h : w.ownsRow B e s v n xs) (hm : ∀ k, v.ownBlock = some k → w'.heap[k]? = w.heap[k]?) : w'.ownsRow B e s v n xs := by
  refine ⟨h.1, ?_⟩
  rcases h.2 with h2 | ⟨g, cap, cur, hv, hb, hg, r⟩
  · exact .inl h2
  · exact .inr ⟨g, cap, cur, hv, hb, (hm g (by rw [hv]; rfl)).trans hg, r⟩
theorem owns_isCells {w : World} {B : Nat} {e : TypeId} {s n : Nat} {v : Value} {xs : List Value} (h : w.ownsRow B e s v n xs) {k : Nat} (hk : v.ownBlock = some k) : ∃ ob : Obj, w.heap[k]? = some ob ∧ ob.isCells = true := by
  rcases h with ⟨hl, ⟨rfl, hn⟩ | ⟨g, cap, cur, rfl, hb, hg, -⟩⟩
  · cases hk
  · cases hk; exact ⟨_, hg, rfl⟩
theorem cell_isCells {w : World} {p o : Nat} {v : Value} (h : w.cell? ⟨p, o, none⟩ = some v) : ∃ ob : Obj, w.heap[p]? = some ob ∧ ob.isCells = true := by
  unfold World.cell? at h
  simp only at h
  split at h
  · rename_i c e f hc; exact ⟨_, hc, rfl⟩
  · cases h
theorem owns_low {w : World} {B B' : Nat} {e : TypeId} {s n : Nat} {v : Value} {xs : List Value} (h : w.ownsRow B e s v n xs) (hB : B' ≤ B) : w.ownsRow B' e s v n xs := by
  obtain ⟨h1, h2⟩ := h
  refine ⟨h1, ?_⟩
  rcases h2 with h2 | ⟨g, cap, cur, hv, hg, r⟩
  · exact .inl h2
  · exact .inr ⟨g, cap, cur, hv, by omega, r⟩

/-! ### the files' bytes -/
structure Vals (w : World) (B : Nat) (f : ByteArray → Option Value) (fs : Fs) : Prop where
  dom : ∀ n, (f n).isSome = (fs n).isSome
  own : ∀ n v l, f n = some v → fs n = some l → OwnB w B v l
  ff : ∀ n m v u, f n = some v → f m = some u → n ≠ m → Apart v u
theorem Vals.at_ {w : World} {B : Nat} {f : ByteArray → Option Value} {fs : Fs} (h : Vals w B f fs) {n : ByteArray} {l : List UInt8} (hn : fs n = some l) : ∃ v, f n = some v ∧ OwnB w B v l := by
  have hd := h.dom n
  rw [hn] at hd
  obtain ⟨v, hv⟩ := Option.isSome_iff_exists.1 hd
  exact ⟨v, hv, h.own n v l hv hn⟩
theorem Vals.ofv {w : World} {B : Nat} {f : ByteArray → Option Value} {fs : Fs} (h : Vals w B f fs) {n : ByteArray} {v : Value} (hn : f n = some v) : ∃ l, fs n = some l ∧ OwnB w B v l := by
  have hd := h.dom n
  rw [hn] at hd
  obtain ⟨l, hl⟩ := Option.isSome_iff_exists.1 hd.symm
  exact ⟨l, hl, h.own n v l hn hl⟩
theorem Vals.none {w : World} {B : Nat} {f : ByteArray → Option Value} {fs : Fs} (h : Vals w B f fs) {n : ByteArray} (hn : fs n = Option.none) : f n = Option.none := by
  have hd := h.dom n
  rw [hn] at hd
  cases hf : f n with
  | none => rfl
  | some v => rw [hf] at hd; cases hd
theorem Vals.lt {w : World} {B : Nat} {f : ByteArray → Option Value} {fs : Fs} (h : Vals w B f fs) {n : ByteArray} {v : Value} (hn : f n = some v) {k : Nat} (hk : v.ownBlock = some k) : B ≤ k ∧ k < w.heap.size := by
  obtain ⟨l, -, ho⟩ := h.ofv hn
  exact ho.lt k hk
theorem Vals.kept {w w' : World} {B : Nat} {f : ByteArray → Option Value} {fs : Fs} (h : Vals w B f fs) (hm : ∀ n v k, f n = some v → v.ownBlock = some k → w'.heap[k]? = w.heap[k]?) : Vals w' B f fs :=
  ⟨h.dom, fun n v l hv hl => mods_owns (h.own n v l hv hl) fun k hk => hm n v k hv hk, h.ff⟩
theorem Vals.hole {w : World} {B : Nat} {f : ByteArray → Option Value} {fs : Fs} (h : Vals w B f fs) (n : ByteArray) : Vals w B (upd f n Option.none) (upd fs n Option.none) := by
  refine ⟨fun m => ?_, fun m v l hv hl => ?_, fun m q v u hv hu hne => ?_⟩
  · by_cases e : m = n
    · subst e; rw [upd_same, upd_same]; rfl
    · rw [upd_other _ _ e, upd_other _ _ e]; exact h.dom m
  · by_cases e : m = n
    · subst e; rw [upd_same] at hv; cases hv
    · rw [upd_other _ _ e] at hv hl; exact h.own m v l hv hl
  · by_cases e : m = n
    · subst e; rw [upd_same] at hv; cases hv
    · by_cases e2 : q = n
      · subst e2; rw [upd_same] at hu; cases hu
      · rw [upd_other _ _ e] at hv; rw [upd_other _ _ e2] at hu; exact h.ff m q v u hv hu hne
theorem Vals.fill {w : World} {B : Nat} {f : ByteArray → Option Value} {fs : Fs} {n : ByteArray} (h : Vals w B (upd f n Option.none) (upd fs n Option.none)) {v : Value} {l : List UInt8} (ho : OwnB w B v l) (ha : ∀ m u, m ≠ n → f m = some u → Apart v u) : Vals w B (upd f n (some v)) (upd fs n (some l)) := by
  refine ⟨fun m => ?_, fun m x y hx hy => ?_, fun m q x y hx hy hne => ?_⟩
  · by_cases e : m = n
    · subst e; rw [upd_same, upd_same]; rfl
    · have := h.dom m
      rw [upd_other _ _ e, upd_other _ _ e] at this ⊢
      exact this
  · by_cases e : m = n
    · subst e; rw [upd_same] at hx hy; cases hx; cases hy; exact ho
    · have := h.own m x y
      rw [upd_other _ _ e, upd_other _ _ e] at this
      rw [upd_other _ _ e] at hx hy
      exact this hx hy
  · by_cases e : m = n
    · subst e
      rw [upd_same] at hx; cases hx
      rw [upd_other _ _ (Ne.symm hne)] at hy
      exact ha q y (Ne.symm hne) hy
    · by_cases e2 : q = n
      · subst e2
        rw [upd_same] at hy; cases hy
        rw [upd_other _ _ e] at hx
        exact (ha m x e hx).symm
      · have := h.ff m q x y
        rw [upd_other _ _ e, upd_other _ _ e2] at this
        rw [upd_other _ _ e] at hx
        rw [upd_other _ _ e2] at hy
        exact this hx hy hne
/-! ### the raw writes -/
def rawL (r : RawD) (u : Value) : List Value := [.int .i64 (r.kind : Int), .string r.name, u, .int .i64 (r.size : Int), .string r.to]
def rawsL : List RawD → List Value → List Value
  | r :: rs, u :: us => rawL r u ++ rawsL rs us
  | _, _ => []
theorem rawsL_append : ∀ (rs : List RawD) (us : List Value) (qs : List RawD) (vs : List Value), rs.length = us.length → rawsL (rs ++ qs) (us ++ vs) = rawsL rs us ++ rawsL qs vs
  | [], [], _, _, _ => rfl
  | r :: rs, u :: us, qs, vs, h => by
    simp only [List.cons_append, rawsL]
    rw [rawsL_append rs us qs vs (by simpa using h), List.append_assoc]
  | [], _ :: _, _, _, h => by simp at h
  | _ :: _, [], _, _, h => by simp at h
theorem rawsL_one (r : RawD) (u : Value) : rawsL [r] [u] = rawL r u := by simp [rawsL]
theorem rawsL_length : ∀ (rs : List RawD) (us : List Value), rs.length = us.length → (rawsL rs us).length = rs.length * 5
  | [], [], _ => rfl
  | r :: rs, u :: us, h => by
    rw [rawsL, List.length_append, rawsL_length rs us (by simpa using h)]
    simp [rawL]
    omega
  | [], _ :: _, h => by simp at h
  | _ :: _, [], h => by simp at h
theorem rawsL_get : ∀ (rs : List RawD) (us : List Value) (i : Nat) (r : RawD) (u : Value) (j : Nat), rs[i]? = some r → us[i]? = some u → j < 5 → (rawsL rs us)[i * 5 + j]? = (rawL r u)[j]?
  | [], _, i, _, _, _, h, _, _ => by simp at h
  | _ :: _, [], i, _, _, _, _, h, _ => by simp at h
  | r :: rs, u :: us, 0, r', u', j, h, k, hj => by
    simp at h k
    subst h k
    rw [rawsL, Nat.zero_mul, Nat.zero_add, List.getElem?_append_left (by simpa [rawL] using hj)]
  | r :: rs, u :: us, i + 1, r', u', j, h, k, hj => by
    rw [rawsL, List.getElem?_append_right (by simp [rawL]; omega), show (i + 1) * 5 + j - (rawL r u).length = i * 5 + j by simp [rawL]; omega]
    exact rawsL_get rs us i r' u' j (by simpa using h) (by simpa using k) hj
structure RawsAt (w : World) (B : Nat) (vr : Value) (us : List Value) (rs : List RawD) : Prop where
  row : w.ownsRow B 123 5 vr rs.length (rawsL rs us)
  ul : us.length = rs.length
  rb : ∀ (j : Nat) (r : RawD) (u : Value), rs[j]? = some r → us[j]? = some u → OwnB w B u r.bytes
  ok : ∀ r ∈ rs, r.name.size ≤ 128 ∧ r.to.size ≤ 128 ∧ r.size ≤ 200000000000000 ∧ 1 ≤ r.kind ∧ r.kind ≤ 5
theorem RawsAt.nil (w : World) (B : Nat) : RawsAt w B (.slice none 0 0) [] [] :=
  ⟨World.ownsRow_nil _ _ _ _, rfl, fun j r u h => (by simp at h), fun r h => (by cases h)⟩
theorem RawsAt.ofu {w : World} {B : Nat} {vr : Value} {us : List Value} {rs : List RawD} (h : RawsAt w B vr us rs) {u : Value} (hu : u ∈ us) : ∃ r ∈ rs, OwnB w B u r.bytes := by
  obtain ⟨j, hj⟩ := List.mem_iff_getElem?.1 hu
  have hl : j < rs.length := by rw [← h.ul]; exact (List.getElem?_eq_some_iff.1 hj).1
  exact ⟨rs[j], List.getElem_mem hl, h.rb j _ u (List.getElem?_eq_getElem hl) hj⟩
theorem RawsAt.kept {w w' : World} {B : Nat} {vr : Value} {us : List Value} {rs : List RawD} (h : RawsAt w B vr us rs) (hv : ∀ k, vr.ownBlock = some k → w'.heap[k]? = w.heap[k]?) (hu : ∀ u ∈ us, ∀ k, u.ownBlock = some k → w'.heap[k]? = w.heap[k]?) : RawsAt w' B vr us rs :=
  ⟨mods_owns h.row hv, h.ul, fun j r u hr hj => mods_owns (h.rb j r u hr hj) (hu u (List.mem_of_getElem? hj)), h.ok⟩
/-! ### the disk -/
structure DT where
  p : Nat
  mb : Nat
  vr : Value
  f : ByteArray → Option Value
  us : List Value
/-- The disk's blocks that calls change. -/
def DT.Mut (x : DT) (k : Nat) : Prop := k = x.p ∨ k = x.mb ∨ x.vr.ownBlock = some k ∨ ∃ n v, x.f n = some v ∧ v.ownBlock = some k
/-- All of its blocks. -/
def DT.Has (x : DT) (k : Nat) : Prop := x.Mut k ∨ ∃ u ∈ x.us, u.ownBlock = some k
structure DT.At (x : DT) (s : DSt) (w : World) (B : Nat) : Prop where
  low : B ≤ x.p
  lowm : B ≤ x.mb
  c0 : w.cell? ⟨x.p, 0, none⟩ = some (.int .i64 (s.sec : Int))
  c1 : w.cell? ⟨x.p, 1, none⟩ = some (.map (some x.mb))
  c2 : w.cell? ⟨x.p, 2, none⟩ = some x.vr
  fr : w.frozen? ⟨x.p, 2, none⟩ = false
  sec : 1 ≤ s.sec ∧ s.sec ≤ 4096
  map : MapAt w x.mb s.raws.length x.f
  vals : Vals w B x.f s.fs
  raws : RawsAt w B x.vr x.us s.raws
  pm : x.p ≠ x.mb
  rp : x.vr.ownBlock ≠ some x.p ∧ x.vr.ownBlock ≠ some x.mb
  fp : ∀ n v, x.f n = some v → v.ownBlock ≠ some x.p ∧ v.ownBlock ≠ some x.mb ∧ Apart v x.vr
  ro : ∀ u ∈ x.us, ∀ k, u.ownBlock = some k → ¬ x.Mut k
theorem DT.At.lt {x : DT} {s : DSt} {w : World} {B : Nat} (h : x.At s w B) {k : Nat} (hk : x.Has k) : k < w.heap.size := by
  rcases hk with (rfl | rfl | hk | ⟨n, v, hn, hk⟩) | ⟨u, hu, hk⟩
  · exact World.block_lt_of_cell? w _ h.c0
  · exact h.map.lt
  · exact owns_lt h.raws.row k hk
  · exact (h.vals.lt hn hk).2
  · obtain ⟨r, -, ho⟩ := h.raws.ofu hu
    exact (ho.lt k hk).2
theorem DT.At.ge {x : DT} {s : DSt} {w : World} {B : Nat} (h : x.At s w B) {k : Nat} (hk : x.Has k) : B ≤ k := by
  rcases hk with (rfl | rfl | hk | ⟨n, v, hn, hk⟩) | ⟨u, hu, hk⟩
  · exact h.low
  · exact h.lowm
  · exact owns_ge h.raws.row k hk
  · exact (h.vals.lt hn hk).1
  · obtain ⟨r, -, ho⟩ := h.raws.ofu hu
    exact (ho.lt k hk).1
theorem DT.At.kept {x : DT} {s : DSt} {w w' : World} {B : Nat} (h : x.At s w B) (hs : ∀ k, x.Has k → w'.heap[k]? = w.heap[k]?) : x.At s w' B where
  low := h.low
  lowm := h.lowm
  c0 := (mods_cell (a := ⟨x.p, 0, none⟩) (hs _ (.inl (.inl rfl)))).trans h.c0
  c1 := (mods_cell (a := ⟨x.p, 1, none⟩) (hs _ (.inl (.inl rfl)))).trans h.c1
  c2 := (mods_cell (a := ⟨x.p, 2, none⟩) (hs _ (.inl (.inl rfl)))).trans h.c2
  fr := (mods_frozen (a := ⟨x.p, 2, none⟩) (hs _ (.inl (.inl rfl)))).trans h.fr
  sec := h.sec
  map := h.map.kept (hs _ (.inl (.inr (.inl rfl))))
  vals := h.vals.kept fun n v k hn hk => hs k (.inl (.inr (.inr (.inr ⟨n, v, hn, hk⟩))))
  raws := h.raws.kept (fun k hk => hs k (.inl (.inr (.inr (.inl hk))))) (fun u hu k hk => hs k (.inr ⟨u, hu, hk⟩))
  pm := h.pm
  rp := h.rp
  fp := h.fp
  ro := h.ro
theorem DT.At.below {x : DT} {s : DSt} {w w' : World} {B : Nat} (h : x.At s w B) (hb : Below w.heap.size w w') : x.At s w' B := h.kept fun k hk => hb.block k (h.lt hk)
theorem DT.At.lower {x : DT} {s : DSt} {w : World} {B B' : Nat} (h : x.At s w B) (hB : B' ≤ B) : x.At s w B' :=
  { h with low := by have := h.low; omega, lowm := by have := h.lowm; omega, vals := ⟨h.vals.dom, fun n v l hv hl => (h.vals.own n v l hv hl).lower hB, h.vals.ff⟩, raws := ⟨owns_low h.raws.row hB, h.raws.ul, fun j r u hr hu => (h.raws.rb j r u hr hu).lower hB, h.raws.ok⟩ }
/-- What a call does to the heap: of what is there only the disk's blocks change. 'v': bytes that the disk takes in. -/
structure DStepV (v : Value) (x : DT) (w : World) (y : DT) (w' : World) : Prop where
  p : y.p = x.p
  os : w'.os = w.os
  tape : w'.tape = w.tape
  output : w'.output = w.output
  size : w.heap.size ≤ w'.heap.size
  block : ∀ k, k < w.heap.size → ¬ x.Mut k → w'.heap[k]? = w.heap[k]?
  plain : ∀ k o, w.heap[k]? = some o → o.isCells = false → k ≠ x.mb → w'.heap[k]? = w.heap[k]?
  mb : y.mb = x.mb
  has : ∀ k, y.Mut k → x.Mut k ∨ w.heap.size ≤ k
  us : ∀ u ∈ y.us, u ∈ x.us ∨ u = v ∨ ∀ k, u.ownBlock = some k → w.heap.size ≤ k
/-- .. and takes in none but its own. -/
abbrev DStep (x : DT) (w : World) (y : DT) (w' : World) : Prop := DStepV (.slice none 0 0) x w y w'
theorem DStep.of_below {x : DT} {w w' : World} (hb : Below w.heap.size w w') : DStep x w x w' :=
  ⟨rfl, hb.os, hb.tape, hb.output, hb.size, fun k hk _ => hb.block k hk, fun k o hk _ _ => hb.block k (Array.getElem?_eq_some_iff.1 hk).1, rfl, fun k hk => .inl hk, fun u hu => .inl hu⟩
theorem DStepV.own {v : Value} {x y : DT} {w w' : World} (h : DStepV v x w y w') (hv : ∀ k, v.ownBlock = some k → w.heap.size ≤ k) : DStep x w y w' := by
  refine ⟨h.p, h.os, h.tape, h.output, h.size, h.block, h.plain, h.mb, h.has, fun u hu => ?_⟩
  rcases h.us u hu with e | e | e
  · exact .inl e
  · subst e; exact .inr (.inr hv)
  · exact .inr (.inr e)
theorem DStepV.since {v : Value} {x y : DT} {w0 w w' : World} (h : DStepV v x w y w') (hb : Below w0.heap.size w0 w) : DStepV v x w0 y w' where
  p := h.p
  mb := h.mb
  os := h.os.trans hb.os
  tape := h.tape.trans hb.tape
  output := h.output.trans hb.output
  size := Nat.le_trans hb.size h.size
  block := fun k hk hn => (h.block k (Nat.lt_of_lt_of_le hk hb.size) hn).trans (hb.block k hk)
  plain := fun k o hk ho hne => by
    have e1 := hb.block k (Array.getElem?_eq_some_iff.1 hk).1
    exact (h.plain k o (e1.trans hk) ho hne).trans e1
  has := fun k hk => (h.has k hk).imp id fun e => Nat.le_trans hb.size e
  us := fun u hu => by
    rcases h.us u hu with e | e | e
    · exact .inl e
    · exact .inr (.inl e)
    · exact .inr (.inr fun k hk => Nat.le_trans hb.size (e k hk))
theorem DStep.trans {x y z : DT} {w w1 w2 : World} (h : DStep x w y w1) (k : DStep y w1 z w2) : DStep x w z w2 where
  p := k.p.trans h.p
  mb := k.mb.trans h.mb
  os := k.os.trans h.os
  tape := k.tape.trans h.tape
  output := k.output.trans h.output
  size := Nat.le_trans h.size k.size
  block := fun q hq hn => (k.block q (Nat.lt_of_lt_of_le hq h.size) (fun e => by
    rcases h.has q e with e | e
    · exact hn e
    · omega)).trans (h.block q hq hn)
  plain := fun q o hq ho hne => by
    have e1 := h.plain q o hq ho hne
    exact (k.plain q o (e1.trans hq) ho (by rw [h.mb]; exact hne)).trans e1
  has := fun q hq => by
    rcases k.has q hq with e | e
    · exact h.has q e
    · exact .inr (Nat.le_trans h.size e)
  us := fun u hu => by
    rcases k.us u hu with e | e | e
    · exact h.us u e
    · exact .inr (.inl e)
    · exact .inr (.inr fun q hq => Nat.le_trans h.size (e q hq))
theorem DStep.then_below {x y : DT} {w w1 w2 : World} (h : DStep x w y w1) (hb : Below w1.heap.size w1 w2) : DStep x w y w2 := h.trans (DStep.of_below hb)
theorem DStep.below {x y : DT} {s : DSt} {w w' w0 : World} {B : Nat} (h : DStep x w y w') (hx : x.At s w B) (hb : Below B w0 w) (hB : B ≤ w.heap.size) : Below B w0 w' :=
  ⟨h.os.trans hb.os, h.tape.trans hb.tape, h.output.trans hb.output, Nat.le_trans hb.size h.size, fun k hk => (h.block k (by omega) (fun e => by have := hx.ge (.inl e); omega)).trans (hb.block k hk)⟩
/-- Behind the files' change, ahead of the record: 'b' is the box of what is recorded. -/
structure DMid (x : DT) (s : DSt) (r : RawD) (vb : Value) (W : World) (B : Nat) (f' : ByteArray → Option Value) (w : World) : Prop where
  map : MapAt w x.mb (s.raws.length + 1) f'
  vals : Vals w B f' (fsDo s.fs r)
  src : ∀ n v k, f' n = some v → v.ownBlock = some k → W.heap.size < k ∨ ∃ m u, x.f m = some u ∧ u.ownBlock = some k
  block : ∀ k, k < W.heap.size → (∀ m u, x.f m = some u → u.ownBlock ≠ some k) → k ≠ x.mb → w.heap[k]? = W.heap[k]?
  plain : ∀ k o, W.heap[k]? = some o → o.isCells = false → k ≠ x.mb → w.heap[k]? = W.heap[k]?
  box : w.rangeAt W.heap.size 0 (rawL r vb)
  os : w.os = W.os
  tape : w.tape = W.tape
  output : w.output = W.output
  size : W.heap.size < w.heap.size
end Go.Proofs.YtjllkmkngjdjjaaGreatDoor
namespace Go.Proofs.YtjllkmkngjdjjaaGreatDoor
open Go.RowKit
set_option maxRecDepth 100000
theorem run_app_any {w : World} (ty t e : TypeId) (k bytes : Nat) (ht : Tryz.prog.underlying t = some (.slice e)) (hinfo : (Tryz.prog.info? e).map (fun i => (i.zero.map (·.cells.size), i.size, i.bytes)) = some (some k, k, bytes)) (hk : 0 < k) (hb0 : 0 < bytes) (B n : Nat) (v : Value) (xs : List Value) (hown : w.ownsRow B e k v n xs)
    (ys : List Value) (hl : ys.length = k) (h1 : ∀ u ∈ ys, u.oneCell' = true) (hb : (n + 1) * bytes ≤ 140737488355328) (hB : B ≤ w.heap.size) :
    ∃ v' w', (Builtin.append_ #[t, t] ty #[v, .slice (some ⟨w.heap.size, 0, none⟩) 1 1]).run Tryz.prog (w.alloc (.cells ys.toArray e)) = .ok v' w' ∧ w'.ownsRow B e k v' (n + 1) (xs ++ ys) ∧ (w.alloc (.cells ys.toArray e)).grownBy w' v.ownBlock ∧ (v'.ownBlock = v.ownBlock ∨ v'.ownBlock = some (w.heap.size + 1)) := by
  obtain ⟨i, hi, hq⟩ := Option.map_eq_some_iff.1 hinfo
  simp only [Prod.mk.injEq] at hq
  obtain ⟨q1, q2, q3⟩ := hq
  obtain ⟨z, hz, hzs⟩ := Option.map_eq_some_iff.1 q1
  have h63 : n + 1 ≤ maxLen := by
    unfold maxLen
    have : n + 1 ≤ 140737488355328 := Nat.le_trans (Nat.le_mul_of_pos_right _ hb0) hb
    omega
  obtain ⟨v', w', e1, e2, e3, _, e5⟩ := run_append_own_at (P := Tryz.prog) (w.alloc (.cells ys.toArray e)) B t ty e i z k bytes ht hi hz q2 q3 hzs hk v n xs (World.ownsRow.alloc hown _) ⟨w.heap.size, 0, none⟩ 1 1 ys (by omega) (fun j u hu => by
    rw [add_plain, cell_of_row _ w.heap.size j _ _ (0, 0) (heap_alloc_new w _)]
    simpa using hu) h1 h63 hb (by simp; omega)
  exact ⟨v', w', e1, e2, e3, by simpa using e5⟩
theorem wpList_app_any {w : World} {ops : Array Oper} {rest : List Oper} {o : Oper} {a : Act} {Q : Exit → Act → World → Prop} (hgd : o.guard = none) (s x : Operand) (t e : TypeId) (k bytes : Nat)
    (ho : o.op = .call { callee := .builtin .append, args := #[s, x], argTypes := #[t, t] }) (ht : Tryz.prog.underlying t = some (.slice e)) (hinfo : (Tryz.prog.info? e).map (fun i => (i.zero.map (·.cells.size), i.size, i.bytes)) = some (some k, k, bytes)) (hk : 0 < k) (hb0 : 0 < bytes) (B n : Nat) (v : Value) (hs : a.eval s = v) (xs : List Value) (hown : w.ownsRow B e k v n xs)
    (ys : List Value) (hl : ys.length = k) (h1 : ∀ u ∈ ys, u.oneCell' = true) (hx : a.eval x = .slice (some ⟨w.heap.size, 0, none⟩) 1 1) (hb : (n + 1) * bytes ≤ 140737488355328) (hB : B ≤ w.heap.size)
    (h : ∀ v' w', w'.ownsRow B e k v' (n + 1) (xs ++ ys) → (w.alloc (.cells ys.toArray e)).grownBy w' v.ownBlock → (v'.ownBlock = v.ownBlock ∨ v'.ownBlock = some (w.heap.size + 1)) → wpList Tryz.prog ops Q rest (a.put o.dst v') w') :
    wpList Tryz.prog ops Q (o :: rest) a (w.alloc (.cells ys.toArray e)) := by
  obtain ⟨v', w', e1, e2, e3, e4⟩ := run_app_any o.type t e k bytes ht hinfo hk hb0 B n v xs hown ys hl h1 hb hB
  exact wpList_val hgd v' w' (run_op_append s x _ ho v _ hs hx v' w' e1) (h v' w' e2 e3 e4)
theorem run_op_one_any {w : World} {o : Oper} {ρ : Operand → Value} (x : Operand) (t e : TypeId) (k bytes : Nat) (ho : o.op = .buildSlice t 1 #[(0, x)]) (ht : Tryz.prog.underlying t = some (.slice e)) (hinfo : (Tryz.prog.info? e).map (fun i => (i.zero.map (·.cells.size), i.size, i.bytes)) = some (some k, k, bytes)) (hk : 0 < k) (hb : k ≤ 16777216)
    (ys : List Value) (hx : ρ x = .agg ys.toArray) (hl : ys.length = k) :
    (execOp ρ o).run Tryz.prog w = .ok (.value (.slice (some ⟨w.heap.size, 0, none⟩) 1 1)) (w.alloc (.cells ys.toArray e)) := by
  obtain ⟨i, hi, hq⟩ := Option.map_eq_some_iff.1 hinfo
  simp only [Prod.mk.injEq] at hq
  obtain ⟨q1, q2, q3⟩ := hq
  obtain ⟨z, hz, hzs⟩ := Option.map_eq_some_iff.1 q1
  have hf := Great.fill_whole (s := k) (by omega) [.agg ys.toArray] ((Array.range (1 * k)).map (z.cells[· % z.cells.size]!)) (by simp [Value.cells, hl]) (by simp)
  unfold execOp
  simp only [ho, Sem.run_bind, Sem.run_pure]
  rw [run_buildSlice w t e 1 _ ys.toArray i z ht hi hz (by rw [q2]; omega) (by rw [q2]; omega) (by rw [q2]; simpa [hx, Value.cells] using hf)]
  rfl
theorem wpList_one_any {w : World} {ops : Array Oper} {rest : List Oper} {o : Oper} {a : Act} {Q : Exit → Act → World → Prop} (hg : o.guard = none) (x : Operand) (t e : TypeId) (k bytes : Nat) (ho : o.op = .buildSlice t 1 #[(0, x)]) (ht : Tryz.prog.underlying t = some (.slice e)) (hinfo : (Tryz.prog.info? e).map (fun i => (i.zero.map (·.cells.size), i.size, i.bytes)) = some (some k, k, bytes)) (hk : 0 < k) (hb : k ≤ 16777216)
    (ys : List Value) (hx : a.eval x = .agg ys.toArray) (hl : ys.length = k)
    (h : wpList Tryz.prog ops Q rest (a.put o.dst (.slice (some ⟨w.heap.size, 0, none⟩) 1 1)) (w.alloc (.cells ys.toArray e))) : wpList Tryz.prog ops Q (o :: rest) a w :=
  wpList_val hg _ _ (run_op_one_any x t e k bytes ho ht hinfo hk hb ys hx hl) h
end Go.Proofs.YtjllkmkngjdjjaaGreatDoor
