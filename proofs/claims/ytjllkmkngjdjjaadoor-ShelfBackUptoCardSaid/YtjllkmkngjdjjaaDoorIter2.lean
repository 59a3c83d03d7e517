/- THE LAW OF A RANGE OVER A FUNCTION once more, a round's assignment and its body in one walk. No statement of the seed is proved here. -/
import Derived.Test.YtjllkmkngjdjjaaDoorPair
namespace Go.Proofs.YtjllkmkngjdjjaaDoor
open Go.RowKit
variable {F : Fence} {n : Nat} {P : Program}
theorem grown_putObj (w : World) {l : Nat} {o : Obj} (_hl : w.heap[l]? = some o) (o' : Obj) : w.grownBy (w.putObj l o') (some l) :=
  ⟨rfl, rfl, rfl, by simp [World.putObj], fun k _ hk => World.putObj_heap_other (fun e => hk (by rw [e]))⟩
/-- What a round is handed abides new memory and the loop's book-keeping. -/
structure Steady {α : Type} (Hand : α → Array Value → World → World → Prop) : Prop where
  later : ∀ x args W0 W1 W2, Hand x args W0 W1 → Below W1.heap.size W1 W2 → Hand x args W0 W2
  turn : ∀ x args W0 W1 l o o', Hand x args W0 W1 → W0.heap[l]? = some o → W1.heap[l]? = some o → o.isCells = false → Hand x args (W0.putObj l o') (W1.putObj l o')
theorem wpIn_range2 {α : Type} {g : Operand} {ps : Array Tmp} {assign body : Code} {Q : Exit → Act → World → Prop} {a : Act} {w : World}
    (hro : F.round = none) (h1 : 1 ≤ n) {gf : Nat} {lb : Array Value} (hg : a.eval g = .func (.func gf) #[] lb) (hFg : F.fn gf) (eg : ∀ args w, (callFunc gf args).run P w = .ok (.enter gf args) w)
    {xs : List α} {Hand : α → Array Value → World → World → Prop} {R : World → Prop} (hit : Iter F (n - 1) P gf lb xs Hand R) (hH : Steady Hand)
    (hps : ∀ x args W0 W1, Hand x args W0 W1 → args.size = ps.size)
    (I : List α → World → Prop) (Ix : Code → World → Prop) (hI : OwnFrom w.heap.size I) (hIx : OwnFrom w.heap.size Ix) (hIR : ∀ pre W, I pre W → R W) (h0 : I [] w)
    (hround : ∀ (l : Nat) (x : α) (args : Array Value) (W0 W1 : World), w.heap.size ≤ W0.heap.size → Below W0.heap.size W0 W1 → Hand x args W0 W1 →
      assign.wpIn (F.inRound l) (n - 1 - 1) P (Exit.then (fun a' W2 => Below W1.heap.size W1 W2 ∧ ∀ (l' : Nat) (pre rest : List α) (V0 V2 : World), w.heap.size ≤ l' → xs = pre ++ x :: rest → I pre V0 → Below V0.heap.size V0 V2 → Hand x args V0 V2 →
        body.wpIn (F.inRound l') (n - 1 - 1) P (roundPost w.heap.size I Ix (pre ++ [x]) V2) a' V2) (fun _ _ _ => False)) { tmps := (ps.zip args).foldl (fun t (p, v) => t.setIfInBounds p v) a.tmps, defers := [] } W1)
    (hdone : ∀ (D : Nat) (W0 W : World), w.heap.size ≤ D → I xs W0 → Below W0.heap.size W0 W → W.heap[D]? = some (.deferred (some [])) → Q .normal { a with defers := { target := .collected D, args := #[] } :: a.defers } W)
    (hstop : ∀ (D : Nat) (c : Code) (W0 W : World), w.heap.size ≤ D → Ix c W0 → Below W0.heap.size W0 W → W.heap[D]? = some (.deferred (some [])) → c.wpIn F n P Q { a with defers := { target := .collected D, args := #[] } :: a.defers } W) :
    (Code.rangeFunc g ps assign body).wpIn F n P Q a w := by
  refine wpIn_range hro h1 hg hFg eg hit hps I Ix hI hIx hIR h0
    (fun x a' W0 W1 => ∃ args, Hand x args W0 W1 ∧ ∀ (l' : Nat) (pre rest : List α) (V0 V2 : World), w.heap.size ≤ l' → xs = pre ++ x :: rest → I pre V0 → Below V0.heap.size V0 V2 → Hand x args V0 V2 →
        body.wpIn (F.inRound l') (n - 1 - 1) P (roundPost w.heap.size I Ix (pre ++ [x]) V2) a' V2) ?_ ?_ ?_ hdone hstop
  · rintro x a' W0 W1 l o o' ⟨args, hh, hb⟩ h1 h2 h3
    exact ⟨args, hH.turn _ _ _ _ _ _ _ hh h1 h2 h3, hb⟩
  · intro l x args W0 W1 K hs hb hh hK
    refine wpIn_mono (hround l x args W0 W1 hs hb hh) ?_
    intro e a' W' h
    cases e with
    | normal => exact hK a' W' h.1 ⟨args, hH.later _ _ _ _ _ hh h.1, h.2⟩
    | _ => exact h
  · rintro l pre x rest a' W0 W1 hl _ hxs hi hb ⟨args, hh, hbd⟩
    exact hbd l pre rest W0 W1 hl hxs hi hb hh
theorem put_cell {W : World} {D : Nat} {cs : Option (List Deferred)} (h : W.heap[D]? = some (.deferred cs)) {a : Addr} {x : Value} (ha : W.cell? a = some x) (o : Obj) : (W.putObj D o).cell? a = some x :=
  turn_cell (grown_putObj W h o) (row := some D) (fun r e => by cases e; exact ⟨_, h, rfl⟩) ha
/-- The function leaves with two marks; its result lies in a cell. -/
theorem leaves_two_cell {fn : Func} {tmps : Array Value} {R : Ending → World → Prop} {w W : World} {D D2 : Nat} {v : Value} {a : Addr} {x : Value}
    (h1 : W.heap[D]? = some (.deferred (some []))) (h2 : W.heap[D2]? = some (.deferred (some []))) (hne : D ≠ D2) (hD : w.heap.size ≤ D) (hD2 : w.heap.size ≤ D2) (hB : Below w.heap.size w W) (ha : W.cell? a = some x)
    (hr : ∀ W', W'.cell? a = some x → (results fn tmps).run P W' = .ok v W') (hR : ∀ W', Below w.heap.size w W' → R (.returned v) W') :
    LeavesInM F n P fn tmps R [{ target := .collected D2, args := #[] }, { target := .collected D, args := #[] }] .returning W := by
  have h1' : (W.putObj D2 (.deferred Option.none)).heap[D]? = some (.deferred (some [])) := (World.putObj_heap_other hne).trans h1
  refine ⟨by simp, .inl ⟨_, _, rfl, run_takeDeferred h2, ?_⟩⟩
  refine ⟨by simp, .inl ⟨_, _, rfl, run_takeDeferred h1', ?_⟩⟩
  exact ⟨_, hr _ (put_cell h1' (put_cell h2 ha _) _), hR _ ((hB.trans (belowK_b (w := w) (Nat.le_refl _) W D2 _ _ hD2 h2 rfl rfl)).trans (belowK_b (w := w) (Nat.le_refl _) _ D _ _ hD h1' rfl rfl))⟩
/-- .. with one. -/
theorem leaves_one_cell {fn : Func} {tmps : Array Value} {R : Ending → World → Prop} {w W : World} {D : Nat} {v : Value} {a : Addr} {x : Value}
    (h1 : W.heap[D]? = some (.deferred (some []))) (hD : w.heap.size ≤ D) (hB : Below w.heap.size w W) (ha : W.cell? a = some x)
    (hr : ∀ W', W'.cell? a = some x → (results fn tmps).run P W' = .ok v W') (hR : ∀ W', Below w.heap.size w W' → R (.returned v) W') :
    LeavesInM F n P fn tmps R [{ target := .collected D, args := #[] }] .returning W := by
  refine ⟨by simp, .inl ⟨_, _, rfl, run_takeDeferred h1, ?_⟩⟩
  exact ⟨_, hr _ (put_cell h1 ha _), hR _ (hB.trans (belowK_b (w := w) (Nat.le_refl _) W D _ _ hD h1 rfl rfl))⟩
/-- Outside every round a fenced walk goes on as a plain one. -/
theorem to_plain {P : Program} {n : Nat} {c : Code} {Q : Exit → Act → World → Prop} {a : Act} {w : World} (h : c.wp P Q a w) : c.wpIn Fence.wide n P Q a w := wpIn_wide.2 h
theorem mark_set {W : World} {D : Nat} {o : Obj} (h : W.heap[D]? = some o) {a : Addr} (hne : D ≠ a.block) (u : Value) : (W.setCell a u).heap[D]? = some o := (Below.heap_setCell _ _ _ _ hne).trans h
end Go.Proofs.YtjllkmkngjdjjaaDoor
