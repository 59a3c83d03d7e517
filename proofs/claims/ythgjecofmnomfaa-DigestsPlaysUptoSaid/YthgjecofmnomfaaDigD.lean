/- WALKS of package digests: an index as it is written; Add. No statement of the seed is proved here. -/
import Derived.Test.YthgjecofmnomfaaDigC
namespace Go.Proofs.Ythgjecofmnomfaa
open Go.RowKit
set_option maxRecDepth 100000

theorem owns_mods {w w' : World} {B : Nat} {e : TypeId} {s n : Nat} {v : Value} {xs : List Value} (h : w.ownsRow B e s v n xs) (hm : ∀ k, v.ownBlock = some k → k < w.heap.size → w'.heap[k]? = w.heap[k]?) : w'.ownsRow B e s v n xs := by
  have hlt := owns_lt h
  rcases h with ⟨hl, ⟨rfl, hn⟩ | ⟨g, cap, cur, rfl, hb, hg, hn, hmx, hs, ht⟩⟩
  · exact ⟨hl, .inl ⟨rfl, hn⟩⟩
  · exact ⟨hl, .inr ⟨g, cap, cur, rfl, hb, by rw [hm g rfl (hlt g rfl), hg], hn, hmx, hs, ht⟩⟩
theorem owns_take {w : World} {B : Nat} {e : TypeId} {n c : Nat} {A : Option Addr} {xs : List Value} (h : w.ownsRow B e 1 (.slice A n c) n xs) {m : Nat} (hm : m ≤ n) (hn : 0 < n) : w.ownsRow B e 1 (.slice A m c) m (xs.take m) := by
  rcases h with ⟨hl, ⟨h1, hn'⟩ | ⟨g, cap, cur, h1, hb, hg, hn', hmx, hs, ht⟩⟩
  · cases h1; omega
  · cases h1
    refine ⟨by simp; omega, .inr ⟨g, c, cur, rfl, hb, hg, by omega, hmx, hs, ?_⟩⟩
    rw [← ht, List.take_take, Nat.mul_one, Nat.mul_one, Nat.min_eq_left hm]
/-- An index, as it is written: the block p, the row of the runs, the runs. -/
structure Ix (w : World) (B : Nat) (p : Nat) (vr : Value) (us : List Value) (rs : List (List Item)) : Prop where
  c0 : w.cell? ⟨p, 0, none⟩ = some (.bool true)
  c1 : w.cell? ⟨p, 1, none⟩ = some vr
  f1 : w.frozen? ⟨p, 1, none⟩ = false
  low : B ≤ p
  own : w.ownsRow B 64 1 vr rs.length us
  runs : ∀ (j : Nat) (h : j < rs.length), ∃ u, us[j]? = some u ∧ w.ownsRow B 63 33 u rs[j].length (itemsL rs[j]) ∧ Apart u vr ∧ u.ownBlock ≠ some p
  pv : vr.ownBlock ≠ some p
  wid : ∀ r ∈ rs, Wid r
  sorted : ∀ r ∈ rs, SortedI r
  small : rs.flatten.length ≤ 1000000
theorem Ix.read {w : World} {B p : Nat} {vr : Value} {us : List Value} {rs : List (List Item)} (h : Ix w B p vr us rs) : IxR w p vr us rs :=
  ⟨h.c0, h.c1, Row.of_owns h.own, fun j hj => let ⟨u, h1, h2, _⟩ := h.runs j hj; ⟨u, h1, RunV.of_owns h2⟩, h.wid, h.sorted, h.small⟩
theorem Ix.lt {w : World} {B p : Nat} {vr : Value} {us : List Value} {rs : List (List Item)} (h : Ix w B p vr us rs) : p < w.heap.size := World.block_lt_of_cell? w _ h.c0
theorem cell_mods {w w' : World} {a : Addr} (h : w'.heap[a.block]? = w.heap[a.block]?) : w'.cell? a = w.cell? a := World.cell?_of_block h
theorem frozen_mods {w w' : World} {a : Addr} (h : w'.heap[a.block]? = w.heap[a.block]?) : w'.frozen? a = w.frozen? a := World.frozen?_of_block h
/-- What the index owns is as it was. -/
theorem Ix.kept {w w' : World} {B p : Nat} {vr : Value} {us : List Value} {rs : List (List Item)} (h : Ix w B p vr us rs) (hp : w'.heap[p]? = w.heap[p]?) (hv : ∀ k, vr.ownBlock = some k → w'.heap[k]? = w.heap[k]?)
    (hu : ∀ u ∈ us, ∀ k, u.ownBlock = some k → w'.heap[k]? = w.heap[k]?) : Ix w' B p vr us rs where
  c0 := (cell_mods hp).trans h.c0
  c1 := (cell_mods hp).trans h.c1
  f1 := (frozen_mods hp).trans h.f1
  low := h.low
  own := owns_mods h.own fun k hk _ => hv k hk
  runs := fun j hj => let ⟨u, h1, h2, h3⟩ := h.runs j hj; ⟨u, h1, owns_mods h2 fun k hk _ => hu u (List.mem_of_getElem? h1) k hk, h3⟩
  pv := h.pv
  wid := h.wid
  sorted := h.sorted
  small := h.small
theorem Ix.below {w w' : World} {B p : Nat} {vr : Value} {us : List Value} {rs : List (List Item)} (h : Ix w B p vr us rs) (hb : Below w.heap.size w w') : Ix w' B p vr us rs :=
  h.kept (hb.block _ h.lt) (fun k hk => hb.block k (owns_lt h.own k hk)) (fun u hu k hk => by
    obtain ⟨j, hj⟩ := List.mem_iff_getElem?.1 hu
    have hl : us.length = rs.length := by have := h.own.1; omega
    have hj' : j < rs.length := by rw [← hl]; exact (List.getElem?_eq_some_iff.1 hj).1
    obtain ⟨u', h1, h2, _⟩ := h.runs j hj'
    rw [hj] at h1; cases h1
    exact hb.block k (owns_lt h2 k hk))
theorem build_item (d : List UInt8) (hd : d.length = 32) (pl : Int) : Try.prog.built 63 [(0, .agg (u8s d).toArray), (1, .int .i64 pl)] = some (itemL (d, pl)).toArray := by
  obtain _ | ⟨a0, d⟩ := d
  · simp at hd
  obtain _ | ⟨a1, d⟩ := d
  · simp at hd
  obtain _ | ⟨a2, d⟩ := d
  · simp at hd
  obtain _ | ⟨a3, d⟩ := d
  · simp at hd
  obtain _ | ⟨a4, d⟩ := d
  · simp at hd
  obtain _ | ⟨a5, d⟩ := d
  · simp at hd
  obtain _ | ⟨a6, d⟩ := d
  · simp at hd
  obtain _ | ⟨a7, d⟩ := d
  · simp at hd
  obtain _ | ⟨a8, d⟩ := d
  · simp at hd
  obtain _ | ⟨a9, d⟩ := d
  · simp at hd
  obtain _ | ⟨a10, d⟩ := d
  · simp at hd
  obtain _ | ⟨a11, d⟩ := d
  · simp at hd
  obtain _ | ⟨a12, d⟩ := d
  · simp at hd
  obtain _ | ⟨a13, d⟩ := d
  · simp at hd
  obtain _ | ⟨a14, d⟩ := d
  · simp at hd
  obtain _ | ⟨a15, d⟩ := d
  · simp at hd
  obtain _ | ⟨a16, d⟩ := d
  · simp at hd
  obtain _ | ⟨a17, d⟩ := d
  · simp at hd
  obtain _ | ⟨a18, d⟩ := d
  · simp at hd
  obtain _ | ⟨a19, d⟩ := d
  · simp at hd
  obtain _ | ⟨a20, d⟩ := d
  · simp at hd
  obtain _ | ⟨a21, d⟩ := d
  · simp at hd
  obtain _ | ⟨a22, d⟩ := d
  · simp at hd
  obtain _ | ⟨a23, d⟩ := d
  · simp at hd
  obtain _ | ⟨a24, d⟩ := d
  · simp at hd
  obtain _ | ⟨a25, d⟩ := d
  · simp at hd
  obtain _ | ⟨a26, d⟩ := d
  · simp at hd
  obtain _ | ⟨a27, d⟩ := d
  · simp at hd
  obtain _ | ⟨a28, d⟩ := d
  · simp at hd
  obtain _ | ⟨a29, d⟩ := d
  · simp at hd
  obtain _ | ⟨a30, d⟩ := d
  · simp at hd
  obtain _ | ⟨a31, d⟩ := d
  · simp at hd
  obtain _ | ⟨b, d⟩ := d
  · clear hd; kernel_rfl
  · simp at hd
theorem wpList_item {ops : Array Oper} {rest : List Oper} {o : Oper} {a : Act} {w : World} {Q : Exit → Act → World → Prop} (hg : o.guard = none) (x y : Operand) (ho : o.op = .build 63 #[(0, x), (1, y)]) (d : List UInt8) (hd : d.length = 32) (pl : Int)
    (hx : a.eval x = .agg (u8s d).toArray) (hy : a.eval y = .int .i64 pl) (h : wpList Try.prog ops Q rest (a.put o.dst (.agg (itemL (d, pl)).toArray)) w) : wpList Try.prog ops Q (o :: rest) a w := by
  have hb : Try.prog.built 63 ((#[(0, x), (1, y)] : Array (Nat × Operand)).map fun (i, x) => (i, a.eval x)).toList = some (itemL (d, pl)).toArray := by
    simpa [hx, hy] using build_item d hd pl
  refine wpList_build hg 63 _ ho (by rw [hb]; rfl) ?_
  rw [hb]
  exact h
/-- All is as it was but the block p. -/
structure Nearly (p : Nat) (w w' : World) : Prop where
  os : w'.os = w.os
  tape : w'.tape = w.tape
  output : w'.output = w.output
  size : w.heap.size ≤ w'.heap.size
  block : ∀ k, k < w.heap.size → k ≠ p → w'.heap[k]? = w.heap[k]?
theorem Nearly.of_below {p : Nat} {w w' : World} (h : Below w.heap.size w w') : Nearly p w w' := ⟨h.os, h.tape, h.output, h.size, fun k hk _ => h.block k hk⟩
theorem Nearly.then_below {p : Nat} {w w1 w2 : World} (h : Nearly p w w1) (k : Below w1.heap.size w1 w2) : Nearly p w w2 :=
  ⟨k.os.trans h.os, k.tape.trans h.tape, k.output.trans h.output, Nat.le_trans h.size k.size, fun i hi hp => (k.block i (Nat.lt_of_lt_of_le hi h.size)).trans (h.block i hi hp)⟩
theorem Nearly.set {p : Nat} {w w1 : World} (h : Nearly p w w1) (o : Nat) (v : Value) : Nearly p w (w1.setCell ⟨p, o, none⟩ v) :=
  ⟨h.os, h.tape, h.output, by simpa [World.setCell] using h.size, fun i hi hp => (Below.heap_setCell _ _ _ _ hp).trans (h.block i hi hp)⟩
/-- What adding does to the heap. -/
structure Step (w : World) (p : Nat) (vr : Value) (us : List Value) (w' : World) (vr' : Value) (us' : List Value) : Prop where
  os : w'.os = w.os
  tape : w'.tape = w.tape
  output : w'.output = w.output
  size : w.heap.size ≤ w'.heap.size
  block : ∀ k, k < w.heap.size → k ≠ p → vr.ownBlock ≠ some k → w'.heap[k]? = w.heap[k]?
  vr : vr'.ownBlock = vr.ownBlock ∨ ∃ k, vr'.ownBlock = some k ∧ w.heap.size ≤ k
  us : ∀ u ∈ us', u ∈ us ∨ ∀ k, u.ownBlock = some k → w.heap.size ≤ k
theorem carry_stop {rr : List (List Item)} {run : List Item} (h : ∀ r, rr.head? = some r → r.length ≠ run.length) : carry rr run = run :: rr := by
  cases rr with
  | nil => rfl
  | cons r rr => rw [carry, if_neg (h r rfl)]
theorem carry_go {r : List Item} {rr : List (List Item)} {run : List Item} (h : r.length = run.length) : carry (r :: rr) run = carry rr (r.merge run leI) := by rw [carry, if_pos h]
end Go.Proofs.Ythgjecofmnomfaa
