/- A LAW OF MY OWN: a region that draws its order and stores two named results where they lie already: nothing changes. No statement of the seed is proved here. -/
import Derived.Test.YtjllkmkngjdjjaaDoorRowS
namespace Go.Proofs.YtjllkmkngjdjjaaDoor
open Go.RowKit
theorem setCell_still {w : World} {a : Addr} {v : Value} (h : w.cell? a = some v) : w.setCell a v = w := by
  have hm : ∀ f : Obj → Obj, (∀ o, w.heap[a.block]? = some o → f o = o) → w.heap.modify a.block f = w.heap := fun f hf => by
    apply Array.ext_getElem?
    intro i
    rw [Array.getElem?_modify]
    split
    · rename_i e
      subst e
      cases hb : w.heap[a.block]? with
      | none => rfl
      | some o => simp [hf o hb]
    · rfl
  unfold World.setCell
  rw [hm]
  intro o ho
  unfold World.cell? at h
  rw [ho] at h
  cases o <;> try rfl
  rename_i c e f
  simp only at h
  split at h
  · cases h
  · rename_i hs
    simp only [hs]
    congr 1
    apply Array.ext_getElem?
    intro i
    simp only [Bool.false_eq_true, if_false]
    rw [Array.getElem?_setIfInBounds]
    split
    · rename_i e
      subst e
      split
      · exact h.symm
      · rename_i hx
        rw [h]
        exact absurd (Array.getElem?_eq_some_iff.1 h).1 hx
    · rfl
section
variable {P : Program} {ops : Array Oper} {Q : Exit → Act → World → Prop} {S : World → Prop}
theorem wpOp_skip {K : Act → World → Prop} {i : Nat} {o : Oper} {a : Act} {w w' : World} (h1 : ops[i]? = some o) (h2 : o.guard = none) (hd : o.dst = none) (h3 : (execOp a.eval o).run P w = .ok .skip w') (h : K a w') : wpOp P ops Q i K a w := by
  unfold wpOp
  simp only [h1]
  have hw : Region.wanted o (yielded ops a.tmps) = true := by simp [Region.wanted, h2]
  simp only [hw, if_true, Oper.wp, h3, Oper.upon]
  rw [hd]
  exact .inl h
/-- Two operations that change nothing. -/
def Still (P : Program) (ops : Array Oper) (Q : Exit → Act → World → Prop) (i j : Nat) (a : Act) (w : World) : Prop :=
  ∃ oi oj : Oper, ops[i]? = some oi ∧ ops[j]? = some oj ∧ oi.guard = none ∧ oj.guard = none ∧ oi.dst = none ∧ oj.dst = none ∧ (execOp a.eval oi).run P w = .ok .skip w ∧ (execOp a.eval oj).run P w = .ok .skip w ∧ Q .normal a w
theorem held_of_still {i j : Nat} {listed : Array Bool} {a : Act} {w : World} (h1 : Region.ready .any ops listed = [i, j]) (h2 : Region.ready .any ops (listed.setIfInBounds i true) = [j]) (h3 : Region.ready .any ops (listed.setIfInBounds j true) = [i])
    (h4 : Region.ready .any ops ((listed.setIfInBounds i true).setIfInBounds j true) = []) (h5 : Region.ready .any ops ((listed.setIfInBounds j true).setIfInBounds i true) = []) (hS : S w) (h : Still P ops Q i j a w) : wpAnyH P .any ops Q S 2 listed a w := by
  obtain ⟨oi, oj, e1, e2, g1, g2, t1, t2, r1, r2, hq⟩ := h
  refine ⟨fun e => (by rw [h1] at e; cases e), fun k hk => ?_⟩
  rw [h1] at hk
  have hk' : k = i ∨ k = j := by simpa using hk
  rcases hk' with rfl | rfl
  · refine wpOp_skip e1 g1 t1 r1 ⟨hS, fun e => (by rw [h2] at e; cases e), fun q hq' => ?_⟩
    rw [h2] at hq'
    have : q = j := by simpa using hq'
    subst this
    exact wpOp_skip e2 g2 t2 r2 ⟨hS, h4, hq⟩
  · refine wpOp_skip e2 g2 t2 r2 ⟨hS, fun e => (by rw [h3] at e; cases e), fun q hq' => ?_⟩
    rw [h3] at hq'
    have : q = i := by simpa using hq'
    subst this
    exact wpOp_skip e1 g1 t1 r1 ⟨hS, h5, hq⟩
/-- **THE LAW.** 'tk': what is taken first; then i and j, in either order, which change nothing. -/
theorem wp_region_still {id : Nat} {a : Act} {w : World} {l : List Oper} (S : World → Prop) (tk : List Nat) (i j : Nat) (hm : P.follows .mixedOrders = true)
    (hB : (Region.noSelect l.toArray && takeB .any l.toArray tk (Array.replicate l.toArray.size false) && decide (Region.ready .any l.toArray (tk.foldl (fun l i => l.setIfInBounds i true) (Array.replicate l.toArray.size false)) = [i, j]) &&
      decide (Region.ready .any l.toArray ((tk.foldl (fun l i => l.setIfInBounds i true) (Array.replicate l.toArray.size false)).setIfInBounds i true) = [j]) && decide (Region.ready .any l.toArray ((tk.foldl (fun l i => l.setIfInBounds i true) (Array.replicate l.toArray.size false)).setIfInBounds j true) = [i]) &&
      decide (Region.ready .any l.toArray (((tk.foldl (fun l i => l.setIfInBounds i true) (Array.replicate l.toArray.size false)).setIfInBounds i true).setIfInBounds j true) = []) &&
      decide (Region.ready .any l.toArray (((tk.foldl (fun l i => l.setIfInBounds i true) (Array.replicate l.toArray.size false)).setIfInBounds j true).setIfInBounds i true) = []) && decide (tk.length + 2 = l.toArray.size)) = true)
    (hQ : ∀ c a a' w, Q (.panic c) a w → Q (.panic c) a' w) (hS : S w.drew)
    (h : wpTkS P l.toArray S (fun a' => Still P l.toArray Q i j a' w.drew) (opsL l tk) a) : (Code.region id l.toArray true).wp P Q a w := by
  simp only [Bool.and_eq_true, decide_eq_true_eq] at hB
  obtain ⟨⟨⟨⟨⟨⟨⟨hsel, ht⟩, h1⟩, h2⟩, h3⟩, h4⟩, h5⟩, hlen⟩ := hB
  refine wp_region_held (S := S) hm ?_
  have := held_of_tkS (P := P) (Q := Q) l rfl hsel hQ w.drew hS 2 tk (Array.replicate l.toArray.size false) a ht (tkS_mono (fun a' h' => held_of_still h1 h2 h3 h4 h5 hS h') _ _ h)
  rw [hlen] at this
  exact this
end
end Go.Proofs.YtjllkmkngjdjjaaDoor
