/- A LAW OF MY OWN for 'for .. range seq' where the iterator tells nothing. No statement of the seed is proved here. -/
import Derived.Test.YtjllkmkngjdjjaaDoorIter
import Derived.WalkMore
namespace Go.Proofs.YtjllkmkngjdjjaaDoor
open Go.RowKit
variable {F : Fence} {n : Nat} {P : Program}

/-- An iterator that tells nothing, where R holds. -/
def IterNone (F : Fence) (n : Nat) (P : Program) (gf : Nat) (lb : Array Value) (R : World → Prop) : Prop :=
  ∀ (l : Nat) (W : World), R W → CallsIn F n P gf (#[.func (.yield l) #[] #[]] ++ lb) W fun e W' => (∃ v, e = .returned v) ∧ Below W.heap.size W W'

theorem IterNone.iter {gf : Nat} {lb : Array Value} {R : World → Prop} (h : IterNone F n P gf lb R) : Iter F n P gf lb ([] : List Unit) (fun _ _ _ _ => False) R :=
  fun l _ _ W hJR hJ0 _ => (h l W (hJR [] W hJ0)).mono fun _ _ ⟨h1, h2⟩ => ⟨h1, W, h2, .inl hJ0⟩

theorem wpIn_range_none {g : Operand} {ps : Array Tmp} {assign body : Code} {Q : Exit → Act → World → Prop} {a : Act} {w : World}
    (hro : F.round = none) (h1 : 1 ≤ n) {gf : Nat} {lb : Array Value} (hg : a.eval g = .func (.func gf) #[] lb) (hFg : F.fn gf) (eg : ∀ args w, (callFunc gf args).run P w = .ok (.enter gf args) w)
    {R : World → Prop} (hit : IterNone F (n - 1) P gf lb R) (hR : ∀ W', Below w.heap.size w W' → R W')
    (hdone : ∀ (D : Nat) (W' : World), w.heap.size ≤ D → Below w.heap.size w W' → W'.heap[D]? = some (.deferred (some [])) → Q .normal { a with defers := { target := .collected D, args := #[] } :: a.defers } W') :
    (Code.rangeFunc g ps assign body).wpIn F n P Q a w := by
  refine wpIn_range hro h1 hg hFg eg hit.iter (by rintro x args W0 W1 h; exact h.elim) (fun _ W => Below w.heap.size w W) (fun _ _ => False)
    (fun _ X Y row h hgr hr => turn_below hgr hr (Nat.le_refl _) h.size h) (fun _ _ _ _ h _ _ => h) (fun _ W h => hR W h) (Below.refl _ _) (fun _ _ _ _ => False) (fun _ _ _ _ _ _ _ h _ _ _ => h) ?_ ?_ ?_ ?_
  · intro l x args W0 W1 K _ _ h _
    exact h.elim
  · intro l pre x rest a' W0 W1 _ _ _ _ _ h
    exact h.elim
  · intro D W0 W hD h hb hK
    exact hdone D W hD (below_then h hb) hK
  · intro D c W0 W _ h
    exact h.elim

/-- The mark of a loop that is over, still there. -/
theorem mark_below {w w1 : World} (hb : Below w.heap.size w w1) {D : Nat} {o : Obj} (h : w.heap[D]? = some o) : w1.heap[D]? = some o :=
  (hb.block D (Array.getElem?_eq_some_iff.1 h).1).trans h
theorem stepR_scope {b : Frame} {a : Act} {k : List Item} {cs : List Frame} {w : World} {c : Code} : step P (lone (b.atR a (.code (.scope c) :: k)) cs w) = .next (lone (b.atR a (.code c :: .inScope c :: k)) cs w) :=
  step_lone_go (by simp [stepG, stepG.exec, Frame.atR])
theorem stepR_inScope {b : Frame} {a : Act} {k : List Item} {cs : List Frame} {w : World} {c : Code} : step P (lone (b.atR a (.inScope c :: k)) cs w) = .next (lone (b.atR a k) cs w) :=
  step_lone_go (by simp [stepG, stepG.exec, Frame.atR])
/-- A scope through which the run goes without a goto, inside a fence. -/
theorem wpIn_scope_straight {c : Code} {Q : Exit → Act → World → Prop} {a : Act} {w : World} (h : c.wpIn F n P (Exit.noGoto Q) a w) : (Code.scope c).wpIn F n P Q a w := by
  intro b k cs hro hb hr
  have h0 : (lone (b.atR a (.code (.scope c) :: k)) cs w).fenced P F := fenced_calm hb hr rfl
  obtain ⟨e, a₁, w₁, hq, harr⟩ := h b (.inScope c :: k) cs hro hb hr
  cases e with
  | normal => exact ⟨.normal, a₁, w₁, hq, .head h0 stepR_scope (StepsIn.trans harr (.one (fenced_calm hb hr rfl) stepR_inScope))⟩
  | exit id => exact ⟨.exit id, a₁, w₁, hq, fun k' hk => .head h0 stepR_scope (harr.1 k' (by simp [exitTo, hk])),
      fun hr' hk => let ⟨k₁, h1, h2⟩ := harr.2 hr' (by simpa [exitTo] using hk); ⟨k₁, h1, .head h0 stepR_scope h2⟩⟩
  | goto l => exact hq.elim
  | ret => exact ⟨_, a₁, w₁, hq, .of_steps (.one h0 stepR_scope) harr⟩
  | panic ch => exact ⟨_, a₁, w₁, hq, .of_steps (.one h0 stepR_scope) harr⟩
  | outgrown => exact ⟨_, a₁, w₁, hq, .of_steps (.one h0 stepR_scope) harr⟩
end Go.Proofs.YtjllkmkngjdjjaaDoor
