/- A LAW OF MY OWN: a region that draws its order: what reads memory that stays is taken first; then a row of operations (calls among them), behind each of which that memory still stands. No statement of the seed is proved here. -/
import Derived.Test.YtjllkmkngjdjjaaDoorFloat
namespace Go.Proofs.YtjllkmkngjdjjaaDoor
open Go.RowKit
section
variable {P : Program} {ops : Array Oper} {Q : Exit → Act → World → Prop} {S : World → Prop}
def wpRowS (P : Program) (ops : Array Oper) (Q : Exit → Act → World → Prop) (S : World → Prop) (l : List Oper) : List Nat → Act → World → Prop
  | [], a, w => Q .normal a w
  | i :: r, a, w => wpList P ops (NormK Q (fun a' w' => S w' ∧ wpRowS P ops Q S l r a' w')) (opsL l [i]) a w
theorem held_of_rowS (l : List Oper) (ho : ops = l.toArray) : ∀ (tl : List Nat) (listed : Array Bool) (a : Act) (w : World), seqL .any ops tl listed = true → wpRowS P ops Q S l tl a w → wpAnyH P .any ops Q S tl.length listed a w
  | [], listed, a, w, hB, h => ⟨by simpa [seqL] using hB, h⟩
  | i :: r, listed, a, w, hB, h => by
    simp only [seqL, Bool.and_eq_true, decide_eq_true_eq] at hB
    obtain ⟨⟨h1, h2⟩, h3⟩ := hB
    obtain ⟨o, h0⟩ := Option.isSome_iff_exists.1 h1
    have hl : l[i]? = some o := by rw [ho] at h0; simpa using h0
    simp only [wpRowS, opsL, hl, Option.toList_some, List.singleton_append, List.append_nil] at h
    refine ⟨fun h4 => (by rw [h2] at h4; cases h4), fun j hj => ?_⟩
    rw [h2] at hj
    have hji : j = i := by simpa using hj
    subst hji
    refine wpOp_of_list (K := fun a' w' => S w' ∧ wpRowS P ops Q S l r a' w') h0 (fun a' w' h' => ?_) h
    unfold wpList at h'
    exact ⟨h'.1, held_of_rowS l ho r _ a' w' h3 h'.2⟩
theorem tkS_mono {K K' : Act → Prop} (hK : ∀ a, K a → K' a) : ∀ (r : List Oper) (a : Act), wpTkS P ops S K r a → wpTkS P ops S K' r a
  | [], a, h => hK a h
  | _ :: r, _, ⟨v, hy, h⟩ => ⟨v, hy, tkS_mono hK r _ h⟩
theorem held_of_tkS (l : List Oper) (ho : ops = l.toArray) (hsel : Region.noSelect ops = true) (hQ : ∀ c a a' w, Q (.panic c) a w → Q (.panic c) a' w) (w : World) (hS : S w) (n : Nat) : ∀ (tk : List Nat) (listed : Array Bool) (a : Act),
    takeB .any ops tk listed = true → wpTkS P ops S (fun a' => wpAnyH P .any ops Q S n (tk.foldl (fun l i => l.setIfInBounds i true) listed) a' w) (opsL l tk) a → wpAnyH P .any ops Q S (tk.length + n) listed a w
  | [], listed, a, _, h => by
    rw [List.length_nil, Nat.zero_add]
    exact h
  | i :: r, listed, a, hB, h => by
    simp only [takeB, Bool.and_eq_true] at hB
    obtain ⟨⟨⟨h1, h2⟩, h3⟩, h4⟩ := hB
    obtain ⟨o, h0⟩ := Option.isSome_iff_exists.1 h1
    have hl : l[i]? = some o := by rw [ho] at h0; simpa using h0
    simp only [opsL, hl, Option.toList_some, List.singleton_append] at h
    obtain ⟨v, hy, hK⟩ := h
    rw [List.length_cons, show r.length + 1 + n = (r.length + n) + 1 by omega]
    exact wpAnyH_take h0 hsel h3 h2 (fun c a w => hQ c _ _ w) hy hS (held_of_tkS l ho hsel hQ w hS n r _ _ h4 hK)
/-- **THE LAW.** 'tk': what is taken first; 'tl': the row. -/
theorem wp_region_rowS {id : Nat} {a : Act} {w : World} {l : List Oper} (S : World → Prop) (tk tl : List Nat) (hm : P.follows .mixedOrders = true)
    (hB : (Region.noSelect l.toArray && takeB .any l.toArray tk (Array.replicate l.toArray.size false) && seqL .any l.toArray tl (tk.foldl (fun l i => l.setIfInBounds i true) (Array.replicate l.toArray.size false)) && decide (tk.length + tl.length = l.toArray.size)) = true)
    (hQ : ∀ c a a' w, Q (.panic c) a w → Q (.panic c) a' w) (hS : S w.drew)
    (h : wpTkS P l.toArray S (fun a' => wpRowS P l.toArray Q S l tl a' w.drew) (opsL l tk) a) : (Code.region id l.toArray true).wp P Q a w := by
  simp only [Bool.and_eq_true, decide_eq_true_eq] at hB
  obtain ⟨⟨⟨hsel, ht⟩, hs⟩, hlen⟩ := hB
  refine wp_region_held (S := S) hm ?_
  have := held_of_tkS (P := P) (Q := Q) l rfl hsel hQ w.drew hS tl.length tk (Array.replicate l.toArray.size false) a ht (tkS_mono (fun a' h' => held_of_rowS l rfl tl _ a' w.drew hs h') _ _ h)
  rw [hlen] at this
  exact this
theorem wpOp_val {K : Act → World → Prop} {i : Nat} {o : Oper} {a : Act} {w w' : World} {v : Value} (h1 : ops[i]? = some o) (h2 : o.guard = none) (h3 : (execOp a.eval o).run P w = .ok (.value v) w') (h : K (a.put o.dst v) w') : wpOp P ops Q i K a w := by
  unfold wpOp
  simp only [h1]
  have hw : Region.wanted o (yielded ops a.tmps) = true := by simp [Region.wanted, h2]
  simp only [hw, if_true, Oper.wp, h3, Oper.upon]
  exact .inl h
/-- What stands where two operations may come up, one of which only reads. -/
def Fork (P : Program) (ops : Array Oper) (Q : Exit → Act → World → Prop) (S : World → Prop) (l : List Oper) (i j : Nat) (tl : List Nat) (a : Act) (w : World) : Prop :=
  ∃ (oi oj : Oper) (vi vj : Value) (wj : World), ops[i]? = some oi ∧ ops[j]? = some oj ∧ oi.guard = none ∧ oj.guard = none ∧ (execOp a.eval oi).run P w = .ok (.value vi) w ∧ (execOp a.eval oj).run P w = .ok (.value vj) wj ∧
    (execOp (a.put oi.dst vi).eval oj).run P w = .ok (.value vj) wj ∧ (execOp (a.put oj.dst vj).eval oi).run P wj = .ok (.value vi) wj ∧ S wj ∧ (a.put oj.dst vj).put oi.dst vi = (a.put oi.dst vi).put oj.dst vj ∧ wpRowS P ops Q S l tl ((a.put oi.dst vi).put oj.dst vj) wj
theorem held_of_fork (l : List Oper) (ho : ops = l.toArray) {i j : Nat} {tl : List Nat} {listed : Array Bool} {a : Act} {w : World} (h1 : Region.ready .any ops listed = [i, j]) (h2 : Region.ready .any ops (listed.setIfInBounds i true) = [j]) (h3 : Region.ready .any ops (listed.setIfInBounds j true) = [i])
    (h4 : (listed.setIfInBounds j true).setIfInBounds i true = (listed.setIfInBounds i true).setIfInBounds j true) (h5 : seqL .any ops tl ((listed.setIfInBounds i true).setIfInBounds j true) = true) (hS : S w) (h : Fork P ops Q S l i j tl a w) : wpAnyH P .any ops Q S (tl.length + 1 + 1) listed a w := by
  obtain ⟨oi, oj, vi, vj, wj, e1, e2, g1, g2, r1, r2, r3, r4, sj, ea, hr⟩ := h
  have hz := held_of_rowS l ho tl _ _ _ h5 hr
  refine ⟨fun e => (by rw [h1] at e; cases e), fun k hk => ?_⟩
  rw [h1] at hk
  have hk' : k = i ∨ k = j := by simpa using hk
  rcases hk' with rfl | rfl
  · refine wpOp_val e1 g1 r1 ⟨hS, fun e => (by rw [h2] at e; cases e), fun q hq => ?_⟩
    rw [h2] at hq
    have : q = j := by simpa using hq
    subst this
    exact wpOp_val e2 g2 r3 ⟨sj, hz⟩
  · refine wpOp_val e2 g2 r2 ⟨sj, fun e => (by rw [h3] at e; cases e), fun q hq => ?_⟩
    rw [h3] at hq
    have : q = i := by simpa using hq
    subst this
    refine wpOp_val e1 g1 r4 ⟨sj, ?_⟩
    rw [ea, h4]
    exact hz
/-- **THE LAW.** 'tk': what is taken first; then i and j, in either order; then the row. -/
theorem wp_region_forkS {id : Nat} {a : Act} {w : World} {l : List Oper} (S : World → Prop) (tk : List Nat) (i j : Nat) (tl : List Nat) (hm : P.follows .mixedOrders = true)
    (hB : (Region.noSelect l.toArray && takeB .any l.toArray tk (Array.replicate l.toArray.size false) && decide (Region.ready .any l.toArray (tk.foldl (fun l i => l.setIfInBounds i true) (Array.replicate l.toArray.size false)) = [i, j]) &&
      decide (Region.ready .any l.toArray ((tk.foldl (fun l i => l.setIfInBounds i true) (Array.replicate l.toArray.size false)).setIfInBounds i true) = [j]) && decide (Region.ready .any l.toArray ((tk.foldl (fun l i => l.setIfInBounds i true) (Array.replicate l.toArray.size false)).setIfInBounds j true) = [i]) &&
      seqL .any l.toArray tl (((tk.foldl (fun l i => l.setIfInBounds i true) (Array.replicate l.toArray.size false)).setIfInBounds i true).setIfInBounds j true) && decide (tk.length + (tl.length + 1 + 1) = l.toArray.size) &&
      decide (((tk.foldl (fun l i => l.setIfInBounds i true) (Array.replicate l.toArray.size false)).setIfInBounds j true).setIfInBounds i true = ((tk.foldl (fun l i => l.setIfInBounds i true) (Array.replicate l.toArray.size false)).setIfInBounds i true).setIfInBounds j true)) = true)
    (hQ : ∀ c a a' w, Q (.panic c) a w → Q (.panic c) a' w) (hS : S w.drew)
    (h : wpTkS P l.toArray S (fun a' => Fork P l.toArray Q S l i j tl a' w.drew) (opsL l tk) a) : (Code.region id l.toArray true).wp P Q a w := by
  simp only [Bool.and_eq_true, decide_eq_true_eq] at hB
  obtain ⟨⟨⟨⟨⟨⟨⟨hsel, ht⟩, h1⟩, h2⟩, h3⟩, h5⟩, hlen⟩, h4⟩ := hB
  refine wp_region_held (S := S) hm ?_
  have := held_of_tkS (P := P) (Q := Q) l rfl hsel hQ w.drew hS (tl.length + 1 + 1) tk (Array.replicate l.toArray.size false) a ht (tkS_mono (fun a' h' => held_of_fork l rfl h1 h2 h3 h4 h5 hS h') _ _ h)
  rw [hlen] at this
  exact this
end
end Go.Proofs.YtjllkmkngjdjjaaDoor
