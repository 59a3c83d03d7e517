/- WORDS for maps from strings that the call owns: what they hold, as a function. No statement of the seed is proved here. -/
import Derived.Test.YtjllkmkngjdjjaaDoorLists
import Derived.Test.YtjllkmkngjdjjaaDoorRun
import Derived.Maps.OwnSet
import Derived.Maps.OwnOps
import Derived.Maps.Ext
namespace Go.Proofs.YtjllkmkngjdjjaaDoor
open Go.RowKit
set_option maxRecDepth 100000

def heldR (v : Value) : Option (DataW Value × List MemPlace) := some (.held v, [])
def upd {α : Type} (f : ByteArray → Option α) (n : ByteArray) (x : Option α) : ByteArray → Option α := fun m => if m = n then x else f m
theorem upd_same {α : Type} (f : ByteArray → Option α) (n : ByteArray) (x : Option α) : upd f n x n = x := by simp [upd]
theorem upd_other {α : Type} (f : ByteArray → Option α) {n m : ByteArray} (x : Option α) (h : m ≠ n) : upd f n x m = f m := by simp [upd, h]
theorem key_ne {m n : ByteArray} (h : m ≠ n) : Lit.string m.data.toList ≠ Lit.string n.data.toList := fun e => h (by
  injection e with e
  apply ByteArray.ext
  exact Array.toList_inj.1 e)
theorem key_str (s : ByteArray) (hs : s.size ≤ maxLen) : keyOf Tryd.prog 9 (.string s) = some (.string s.data.toList) := by
  rw [keyOf_string Tryd.underlying9]
  simp [mapKey, Tryd.underlying9, hs]
theorem keyed_str : Maps.Keyed Tryd.prog 9 := Maps.string_keyed Tryd.underlying9
/-- Block b is a map of at most c entries, from strings, that holds f. -/
def MapAt (w : World) (b c : Nat) (f : ByteArray → Option Value) : Prop :=
  ∃ D : DataW Value, w.ownsMap Tryd.prog 9 heldR b c D ∧ ∀ m : ByteArray, Maps.has D (.string m.data.toList) = (f m).isSome ∧ ∀ z, D.atKey (.string m.data.toList) z = (match f m with | some v => .held v | none => z)
theorem MapAt.lt {w : World} {b c : Nat} {f : ByteArray → Option Value} (h : MapAt w b c f) : b < w.heap.size := let ⟨_, h1, _⟩ := h; h1.lt
theorem MapAt.kept {w w' : World} {b c : Nat} {f : ByteArray → Option Value} (h : MapAt w b c f) (e : w'.heap[b]? = w.heap[b]?) : MapAt w' b c f := by
  obtain ⟨D, ⟨es, clock, h1, h2, h3, h4⟩, h5⟩ := h
  exact ⟨D, ⟨es, clock, e.trans h1, h2, h3, h4⟩, h5⟩
theorem MapAt.isMap {w : World} {b c : Nat} {f : ByteArray → Option Value} (h : MapAt w b c f) : ∃ ob : Obj, w.heap[b]? = some ob ∧ ob.isCells = false := by
  obtain ⟨D, ⟨es, clock, h1, h2, h3, h4⟩, h5⟩ := h
  exact ⟨_, h1, rfl⟩
theorem MapAt.made (w : World) : MapAt (w.alloc (.map #[] 0)) w.heap.size 0 (fun _ => none) :=
  ⟨.map [], World.ownsMap_made w _ _ _, fun m => ⟨rfl, fun z => rfl⟩⟩
section
variable {w : World} {b c : Nat} {f : ByteArray → Option Value} {t e : TypeId} {z : Value}
theorem MapAt.look_ok (h : MapAt w b c f) (ht : Tryd.prog.underlying t = some (.map 9 e)) (hz : (zeroValue e).run Tryd.prog w = .ok z w) (s : ByteArray) (hs : s.size ≤ maxLen) :
    (Instr.lookup t (.map (some b)) (.string s) true).run Tryd.prog w = .ok (.tuple #[(f s).getD z, .bool (f s).isSome]) w := by
  obtain ⟨D, hD, hf⟩ := h
  obtain ⟨v, ps, h1, h2⟩ := hD.look_ok keyed_str ht hz (zd := .held z) (zp := []) rfl (key_str s hs)
  rw [h1, (hf s).1]
  rw [(hf s).2] at h2
  cases hx : f s with
  | none => rw [hx] at h2; cases h2; rfl
  | some u => rw [hx] at h2; cases h2; rfl
theorem MapAt.look (h : MapAt w b c f) (ht : Tryd.prog.underlying t = some (.map 9 e)) (hz : (zeroValue e).run Tryd.prog w = .ok z w) (s : ByteArray) (hs : s.size ≤ maxLen) :
    (Instr.lookup t (.map (some b)) (.string s) false).run Tryd.prog w = .ok ((f s).getD z) w := by
  obtain ⟨D, hD, hf⟩ := h
  obtain ⟨v, ps, h1, h2⟩ := hD.lookup keyed_str ht hz (zd := .held z) (zp := []) rfl (key_str s hs)
  rw [h1]
  rw [(hf s).2] at h2
  cases hx : f s with
  | none => rw [hx] at h2; cases h2; rfl
  | some u => rw [hx] at h2; cases h2; rfl
theorem MapAt.store (h : MapAt w b c f) (ht : Tryd.prog.underlying t = some (.map 9 e)) (hc : c < maxLen) (s : ByteArray) (hs : s.size ≤ maxLen) (v : Value) :
    ∃ w', (Instr.mapUpdate t (.map (some b)) (.string s) v).run Tryd.prog w = .ok () w' ∧ MapAt w' b (c + 1) (upd f s (some v)) ∧ w.mapTurned w' b := by
  obtain ⟨D, hD, hf⟩ := h
  obtain ⟨w', h1, h2, h3⟩ := hD.store keyed_str ht hc (val := v) (d := .held v) (ps := []) (key_str s hs) rfl
  refine ⟨w', h1, ⟨_, h2, fun m => ?_⟩, h3⟩
  by_cases hm : m = s
  · subst hm
    rw [upd_same]
    exact ⟨Maps.has_put_same hD.isMap (show WideAt.IsKeyLit (Lit.string m.data.toList) from trivial) _, fun z => Maps.atKey_put_same hD.isMap (show WideAt.IsKeyLit (Lit.string m.data.toList) from trivial) _ _⟩
  · rw [upd_other _ _ hm, Maps.has_put_other (key_ne hm)]
    exact ⟨(hf m).1, fun z => by rw [Maps.atKey_put_other (key_ne hm)]; exact (hf m).2 z⟩
theorem MapAt.drop (h : MapAt w b c f) (ht : Tryd.prog.underlying t = some (.map 9 e)) (s : ByteArray) (hs : s.size ≤ maxLen) (ty : TypeId) :
    ∃ w', (Builtin.delete_ #[t, 9] ty #[.map (some b), .string s]).run Tryd.prog w = .ok (.tuple #[]) w' ∧ MapAt w' b c (upd f s none) ∧ w.mapTurned w' b := by
  obtain ⟨D, hD, hf⟩ := h
  obtain ⟨w', h1, h2, h3⟩ := hD.drop keyed_str ht (key_str s hs) ty
  refine ⟨w', h1, ⟨_, h2, fun m => ?_⟩, h3⟩
  by_cases hm : m = s
  · subst hm
    rw [upd_same]
    exact ⟨Maps.has_del_same, fun z => Maps.atKey_del_same _⟩
  · rw [upd_other _ _ hm, Maps.has_del_other (key_ne hm)]
    exact ⟨(hf m).1, fun z => by rw [Maps.atKey_del_other (key_ne hm)]; exact (hf m).2 z⟩
open Go.ChangeMaps Go.MapKept in
theorem turned_block {w' : World} (h : w.mapTurned w' b) {k : Nat} (hk : k ≠ b) : w'.heap[k]? = w.heap[k]? := by
  obtain ⟨es, clock, es', clock', h1, rfl⟩ := h
  exact heap_setBlock_other h1 _ hk
open Go.ChangeMaps Go.MapKept in
theorem turned_size {w' : World} (h : w.mapTurned w' b) : w'.heap.size = w.heap.size := by
  obtain ⟨es, clock, es', clock', h1, rfl⟩ := h
  simp [setBlock]
theorem turned_os {w' : World} (h : w.mapTurned w' b) : w'.os = w.os ∧ w'.tape = w.tape ∧ w'.output = w.output := by
  obtain ⟨es, clock, es', clock', h1, rfl⟩ := h
  exact ⟨rfl, rfl, rfl⟩
end
end Go.Proofs.YtjllkmkngjdjjaaDoor
