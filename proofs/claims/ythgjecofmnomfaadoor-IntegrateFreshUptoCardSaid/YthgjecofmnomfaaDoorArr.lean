/- WORDS: an array in a block of its own (or a run of cells from a block's beginning on) that is read and written. No statement of the seed is proved here. -/
import Derived.Test.YthgjecofmnomfaaDoorQuietC
import Derived.Test.YthgjecofmnomfaaDoorQuietMix
import Derived.Test.YthgjecofmnomfaaDoorWhole
import Derived.Deep.MidRow
namespace Go.Proofs.YthgjecofmnomfaaDoor
open Go.RowKit
set_option maxRecDepth 100000
section
variable {P : Program}
structure Arr (w : World) (g : Nat) (cs : List Value) : Prop where
  rng : w.rangeAt g 0 cs
  thr : w.there g 0 cs.length
theorem Arr.new (w : World) (cs : List Value) (t : TypeId) : Arr (w.alloc (.cells cs.toArray t)) w.heap.size cs := by
  have hc : ∀ (j : Nat) (v : Value), cs[j]? = some v → (w.alloc (.cells cs.toArray t)).cell? ⟨w.heap.size, j, none⟩ = some v := fun j v hv => by
    rw [cell_of_row _ w.heap.size j _ _ (0, 0) (heap_alloc_new w _)]
    simpa using hv
  refine ⟨fun j v hv => ?_, fun j hj => ⟨?_, new_frozen _ _ _ _⟩⟩
  · rw [Nat.zero_add]
    exact hc j v hv
  · rw [Nat.zero_add, hc j _ (List.getElem?_eq_getElem hj)]
    rfl
theorem Arr.cell {w : World} {g : Nat} {cs : List Value} (h : Arr w g cs) {i : Nat} {v : Value} (hv : cs[i]? = some v) : w.cell? ⟨g, i, none⟩ = some v := by
  have := h.rng i v hv
  rwa [Nat.zero_add] at this
theorem Arr.frozen {w : World} {g : Nat} {cs : List Value} (h : Arr w g cs) {i : Nat} (hi : i < cs.length) : w.frozen? ⟨g, i, none⟩ = false := by
  have := (h.thr i hi).2
  rwa [Nat.zero_add] at this
theorem Arr.lt {w : World} {g : Nat} {cs : List Value} (h : Arr w g cs) (hc : 0 < cs.length) : g < w.heap.size := World.block_lt_of_cell? w ⟨g, 0, none⟩ (h.cell (List.getElem?_eq_getElem hc))
theorem Arr.below {w w1 : World} {g : Nat} {cs : List Value} (h : Arr w g cs) (hb : Below w.heap.size w w1) : Arr w1 g cs :=
  ⟨rangeAt_belowA h.rng hb, fun j hj => by
    obtain ⟨v, hv⟩ := Option.isSome_iff_exists.1 (h.thr j hj).1
    exact ⟨by rw [cell_below hb hv]; rfl, frozen_below hb hv (h.thr j hj).2⟩⟩
  where rangeAt_belowA {w w1 : World} {b o : Nat} {cs : List Value} (h : w.rangeAt b o cs) (hb : Below w.heap.size w w1) : w1.rangeAt b o cs := fun j v hv => cell_below hb (h j v hv)
theorem Arr.set {w : World} {g : Nat} {cs : List Value} (h : Arr w g cs) (i : Nat) (v : Value) : Arr (w.setCell ⟨g, i, none⟩ v) g (cs.set i v) := by
  refine ⟨fun j u hu => ?_, fun j hj => ?_⟩
  · rw [Nat.zero_add]
    have hj : j < cs.length := by have := (List.getElem?_eq_some_iff.1 hu).1; simpa using this
    by_cases e : i = j
    · subst e
      rw [List.getElem?_set_self hj] at hu
      cases hu
      exact set_cell (h.cell (List.getElem?_eq_getElem hj)) v
    · rw [List.getElem?_set_ne e] at hu
      rw [World.cell?_setCell_other _ _ _ _ (fun e2 => e (by cases e2; rfl))]
      exact h.cell hu
  · rw [List.length_set] at hj
    obtain ⟨h1, h2⟩ := h.thr j hj
    refine ⟨?_, set_frozen h2 v⟩
    obtain ⟨u, hu⟩ := Option.isSome_iff_exists.1 h1
    by_cases e : (⟨g, i, none⟩ : Addr) = ⟨g, 0 + j, none⟩
    · rw [e, set_cell hu v]; rfl
    · rw [World.cell?_setCell_other _ _ _ _ e, hu]; rfl
theorem Arr.apart {w : World} {g : Nat} {cs : List Value} (h : Arr w g cs) {b : Nat} (hne : b ≠ g) (i : Nat) (v : Value) : Arr (w.setCell ⟨b, i, none⟩ v) g cs :=
  ⟨fun j u hu => set_other (h.rng j u hu) hne v, fun j hj => by
    obtain ⟨h1, h2⟩ := h.thr j hj
    obtain ⟨u, hu⟩ := Option.isSome_iff_exists.1 h1
    exact ⟨by rw [set_other hu hne v]; rfl, set_frozen h2 v⟩⟩
theorem Arr.put {w : World} {g : Nat} {cs : List Value} (h : Arr w g cs) (vs : List Value) (hl : vs.length = cs.length) : Arr (w.setCells g 0 vs) g vs :=
  ⟨World.rangeAt_setCells_same w g 0 vs (by rw [hl]; exact h.thr), World.there_setCells (by rw [hl]; exact h.thr) g 0 vs⟩
theorem Arr.off {w : World} {g : Nat} {cs : List Value} (h : Arr w g cs) {b : Nat} (hne : g ≠ b) (o : Nat) (vs : List Value) : Arr (w.setCells b o vs) g cs :=
  ⟨World.rangeAt_setCells_apart h.rng b o vs (.inl hne), World.there_setCells h.thr b o vs⟩
theorem below_setCells {B : Nat} {w w1 : World} (h : Below B w w1) (b o : Nat) (hb : B ≤ b) : ∀ (vs : List Value), Below B w (w1.setCells b o vs) := fun vs => by
  induction vs generalizing w1 o with
  | nil => exact h
  | cons v r ih => rw [World.setCells]; exact ih (o := o + 1) (h.setCell (show B ≤ (⟨b, o, none⟩ : Addr).block from hb) v)
theorem Arr.load {w : World} {g : Nat} {cs : List Value} (h : Arr w g cs) {ty : TypeId} {d : TypeDesc} (hu : P.underlying ty = some d) (hd : d.isRow = true) (hi : (P.info? ty).map (·.size) = some cs.length) :
    (Instr.loadAt ty (.pointer (some ⟨g, 0, none⟩))).run P w = .ok (.agg cs.toArray) w := run_loadAt_mid w g 0 ty cs d h.rng hu hd hi
theorem Arr.store {w : World} {g : Nat} {cs : List Value} (h : Arr w g cs) (vs : List Value) {ty : TypeId} (hl : vs.length = cs.length) (hi : (P.info? ty).map (·.size) = some cs.length) (h1 : ∀ v ∈ vs, v.oneCell' = true) :
    (Instr.storeAt ty (.pointer (some ⟨g, 0, none⟩)) (.agg vs.toArray)).run P w = .ok () (w.setCells g 0 vs) :=
  run_storeAt_mid w g 0 ty vs.toArray (by simpa [hl] using h.thr) (by simpa [hl] using hi) (all_oneCell_toArray h1)
theorem results_arr {fn : Func} {p : Tmp} {ty : TypeId} (hr : fn.results = #[.cell p ty]) (tmps : Array Value) {w : World} {g : Nat} {cs : List Value} (h : Arr w g cs) {d : TypeDesc}
    (hp : tmps.getD p undef = .pointer (some ⟨g, 0, none⟩)) (hu : P.underlying ty = some d) (hd : d.isRow = true) (hi : (P.info? ty).map (·.size) = some cs.length) :
    (results fn tmps).run P w = .ok (.agg cs.toArray) w := by
  have hp' : tmps[p]?.getD undef = .pointer (some ⟨g, 0, none⟩) := by simpa using hp
  simp [results, hr, hp', asAddr, run_loadVar_mid w g 0 ty cs d h.rng hu hd hi]
theorem results_arr3 {fn : Func} {p q r : Tmp} {ty : TypeId} (hr : fn.results = #[.cell p ty, .tmp q, .tmp r]) (tmps : Array Value) {w : World} {g : Nat} {cs : List Value} (h : Arr w g cs) {d : TypeDesc}
    (hp : tmps.getD p undef = .pointer (some ⟨g, 0, none⟩)) (hu : P.underlying ty = some d) (hd : d.isRow = true) (hi : (P.info? ty).map (·.size) = some cs.length) :
    (results fn tmps).run P w = .ok (.tuple #[.agg cs.toArray, tmps.getD q undef, tmps.getD r undef]) w := by
  have hp' : tmps[p]?.getD undef = .pointer (some ⟨g, 0, none⟩) := by simpa using hp
  simp [results, hr, hp', asAddr, run_loadVar_mid w g 0 ty cs d h.rng hu hd hi]
end
def u32s (l : List Int) : List Value := l.map (.int .u32 ·)
theorem u32s_length (l : List Int) : (u32s l).length = l.length := by simp [u32s]
theorem u32s_get (l : List Int) (j : Nat) (h : j < l.length) : (u32s l)[j]? = some (.int .u32 l[j]) := by simp [u32s, h]
theorem u32s_one (l : List Int) : ∀ u ∈ u32s l, u.oneCell' = true := by
  intro u hu
  obtain ⟨x, -, rfl⟩ := List.mem_map.1 hu
  rfl
theorem u32s_set (l : List Int) (j : Nat) (x : Int) : (u32s l).set j (.int .u32 x) = u32s (l.set j x) := by simp [u32s, List.map_set]
end Go.Proofs.YthgjecofmnomfaaDoor
