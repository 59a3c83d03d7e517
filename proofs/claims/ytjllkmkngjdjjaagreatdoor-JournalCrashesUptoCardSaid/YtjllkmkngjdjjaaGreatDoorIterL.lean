/- A LAW OF MY OWN for 'for x := range seq' where the iterator lays memory of its own ahead of the first round and reads it between rounds. No statement of the seed is proved here. THE LAW OF XIterM once more, for an iterator that holds a range over a function of its own: behind the last round it turns a mark of its own. No statement of the seed is proved here. -/
import Derived.Test.YtjllkmkngjdjjaaGreatDoorIter2
namespace Go.Proofs.YtjllkmkngjdjjaaGreatDoor
open Go.RowKit

def SameB (B M : Nat) (W W' : World) : Prop := ∀ k, B ≤ k → k < M → W'.heap[k]? = W.heap[k]?
theorem SameB.refl (B M : Nat) (W : World) : SameB B M W W := fun _ _ _ => rfl
theorem SameB.trans {B M : Nat} {a b c : World} (h : SameB B M a b) (k : SameB B M b c) : SameB B M a c := fun i h1 h2 => (k i h1 h2).trans (h i h1 h2)
theorem SameB.below (B : Nat) {M : Nat} {a b : World} (h : Below a.heap.size a b) (hM : M ≤ a.heap.size) : SameB B M a b := fun i _ h2 => h.block i (by omega)
/-- AN ITERATOR's CONTRACT. 'M': the heap's size at the first round: what lies between the beginning's size and M is the iterator's own, and a round leaves it; 'R': what it reads, at the beginning. -/
def IterM {α : Type} (F : Fence) (n : Nat) (P : Program) (gf : Nat) (lb : Array Value) (xs : List α) (Hand : α → Array Value → World → World → Prop) (R : World → Prop) : Prop :=
  ∀ (l : Nat) (J Jx : Nat → List α → World → Prop) (W : World), R W → (∀ V, Below W.heap.size W V → J V.heap.size [] V) →
    (∀ M pre x rest args W0 W1, xs = pre ++ x :: rest → J M pre W0 → Below W0.heap.size W0 W1 → Hand x args W0 W1 →
      YieldAt F (n - 1) P l args W1 fun e W' => SameB W.heap.size M W1 W' ∧ W1.heap.size ≤ W'.heap.size ∧ ((e = .returned (.bool true) ∧ J M (pre ++ [x]) W') ∨ (e = .returned (.bool false) ∧ Jx M (pre ++ [x]) W'))) →
    CallsIn F n P gf (#[.func (.yield l) #[] #[]] ++ lb) W fun e W' => (∃ v, e = .returned v) ∧ ∃ W0 M, Below W0.heap.size W0 W' ∧ (J M xs W0 ∨ ∃ pre, Jx M pre W0)

/-- How the body of a round may be left. -/
def roundPostM {α : Type} (B B' M : Nat) (I : List α → World → Prop) (Ix : Code → World → Prop) (xs : List α) (W : World) : Exit → Act → World → Prop
  | .normal, _, W' => KeepsFrom B W W' ∧ SameB B' M W W' ∧ I xs W'
  | .ret, _, W' => KeepsFrom B W W' ∧ SameB B' M W W' ∧ Ix .ret W'
  | .exit id, _, W' => KeepsFrom B W W' ∧ SameB B' M W W' ∧ Ix (.exit id) W'
  | .goto t, _, W' => KeepsFrom B W W' ∧ SameB B' M W W' ∧ Ix (.goto t) W'
  | .panic _, _, _ => False
  | .outgrown, _, _ => False
variable {F : Fence} {n : Nat} {P : Program}
theorem wpIn_rangeM {α : Type} {g : Operand} {ps : Array Tmp} {assign body : Code} {Q : Exit → Act → World → Prop} {a : Act} {w : World}
    (hro : F.round = none) (h1 : 1 ≤ n) {gf : Nat} {lb : Array Value} (hg : a.eval g = .func (.func gf) #[] lb) (hFg : F.fn gf) (eg : ∀ args w, (callFunc gf args).run P w = .ok (.enter gf args) w)
    {xs : List α} {Hand : α → Array Value → World → World → Prop} {R : World → Prop} (hit : IterM F (n - 1) P gf lb xs Hand R) (hH : Steady Hand)
    (hps : ∀ x args W0 W1, Hand x args W0 W1 → args.size = ps.size)
    (I : Nat → List α → World → Prop) (Ix : Nat → Code → World → Prop) (hI : ∀ M, OwnFrom w.heap.size (I M)) (hIx : ∀ M, OwnFrom w.heap.size (Ix M))
    (hR : ∀ V, Below w.heap.size w V → R V) (h0 : ∀ V, Below w.heap.size w V → I V.heap.size [] V)
    (hround : ∀ (l : Nat) (x : α) (args : Array Value) (W0 W1 : World), w.heap.size ≤ W0.heap.size → Below W0.heap.size W0 W1 → Hand x args W0 W1 →
      assign.wpIn (F.inRound l) (n - 1 - 1) P (Exit.then (fun a' W2 => Below W1.heap.size W1 W2 ∧ ∃ Ex : World → World → Prop, Ex W0 W2 ∧ (∀ V0 V2 l o o', Ex V0 V2 → V0.heap[l]? = some o → V2.heap[l]? = some o → o.isCells = false → Ex (V0.putObj l o') (V2.putObj l o')) ∧ ∀ (l' M : Nat) (pre rest : List α) (V0 V2 : World), w.heap.size ≤ l' → w.heap.size + 2 ≤ V0.heap.size → M ≤ V0.heap.size → xs = pre ++ x :: rest → I M pre V0 → Below V0.heap.size V0 V2 → Hand x args V0 V2 → Ex V0 V2 →
        body.wpIn (F.inRound l') (n - 1 - 1) P (roundPostM w.heap.size (w.heap.size + 2) M (I M) (Ix M) (pre ++ [x]) V2) a' V2) (fun _ _ _ => False)) { tmps := (ps.zip args).foldl (fun t (p, v) => t.setIfInBounds p v) a.tmps, defers := [] } W1)
    (hdone : ∀ (D M : Nat) (W0 W : World), w.heap.size ≤ D → w.heap.size + 2 ≤ W0.heap.size → I M xs W0 → Below W0.heap.size W0 W → W.heap[D]? = some (.deferred (some [])) → Q .normal { a with defers := { target := .collected D, args := #[] } :: a.defers } W)
    (hstop : ∀ (D M : Nat) (c : Code) (W0 W : World), w.heap.size ≤ D → w.heap.size + 2 ≤ W0.heap.size → Ix M c W0 → Below W0.heap.size W0 W → W.heap[D]? = some (.deferred (some [])) → c.wpIn F n P Q { a with defers := { target := .collected D, args := #[] } :: a.defers } W) :
    (Code.rangeFunc g ps assign body).wpIn F n P Q a w := by
  refine wpIn_rangeFunc ?_
  intro fn hfn
  rw [hro]
  obtain ⟨rec, hrec⟩ : ∃ rec : LoopState → Option Code → Loop, rec = fun st pe => { state := st, pending := pe, fn, tmps := a.tmps, params := ps, assign, body, defers := w.heap.size } := ⟨_, rfl⟩
  obtain ⟨W1, hW1⟩ : ∃ W1, (w.alloc (.deferred (some []))).alloc (.loop (rec .ready none)) = W1 := ⟨_, rfl⟩
  have hs1 : W1.heap.size = w.heap.size + 2 := by rw [← hW1]; simp
  have hB1 : Below w.heap.size w W1 := by rw [← hW1]; exact below_then (below_alloc1 _ _) (below_alloc1 _ _)
  have hL1 : W1.heap[w.heap.size + 1]? = some (.loop (rec .ready none)) := by
    rw [← hW1]; have := World.alloc_heap_new (w.alloc (.deferred (some []))) (.loop (rec .ready none)); rwa [World.size_alloc] at this
  have hK1 : W1.heap[w.heap.size]? = some (.deferred (some [])) := by
    rw [← hW1]; exact (Below.heap_alloc _ _ _ (by simp)).trans (World.alloc_heap_new w _)
  refine ⟨w.heap.size + 1, [{ target := .collected w.heap.size, args := #[] }], W1, { target := .fn (.func gf) lb, args := #[.func (.yield (w.heap.size + 1)) #[] #[]] }, W1, gf,
    #[.func (.yield (w.heap.size + 1)) #[] #[]] ++ lb, W1, ?_, ?_, ?_, ?_, fun _ => h1, ?_⟩
  · rw [← hW1, hrec]; exact run_enterLoop_outer _ _ _ _ _
  · simp only [resolve, hg]
    simp [go_sem]
  · intro f' hf'; simp [Target.leads] at hf'; subst hf'; exact hFg
  · simp [invoke, go_sem, eg]
  · refine (hit (w.heap.size + 1)
      (fun M pre W => I M pre W ∧ M ≤ W.heap.size ∧ w.heap.size + 2 ≤ W.heap.size ∧ W.heap[w.heap.size + 1]? = some (.loop (rec .ready none)) ∧ W.heap[w.heap.size]? = some (.deferred (some [])))
      (fun M _ W => ∃ c, Ix M c W ∧ w.heap.size + 2 ≤ W.heap.size ∧ W.heap[w.heap.size + 1]? = some (.loop (rec .done (some c))) ∧ W.heap[w.heap.size]? = some (.deferred (some [])))
      W1 (hR W1 hB1) ?_ ?_).mono ?_
    · intro V hV
      have hVs := hV.size
      exact ⟨h0 V (below_then hB1 hV), Nat.le_refl _, by omega, (hV.block _ (by omega)).trans hL1, (hV.block _ (by omega)).trans hK1⟩
    · rintro M pre x rest args W0 Wy hxs ⟨hi, hM, hsz, hl, hk⟩ hb hh
      have hlt : w.heap.size + 1 < W0.heap.size := (Array.getElem?_eq_some_iff.1 hl).1
      have hly := (hb.block _ hlt).trans hl
      have hky := (hb.block _ (by omega : w.heap.size < W0.heap.size)).trans hk
      have hy := run_yield (P := P) (args := args) hly (by rw [hrec]; exact hps x args W0 Wy hh)
      rw [hrec] at hy
      refine ⟨fn, _, assign, body, hy, roundIn_of_wpIn hfn ?_⟩
      refine wpIn_mono (hround _ x args W0 Wy (by omega) hb hh) ?_
      clear hy
      rintro e0 a' W2 hx0
      have hx1 : e0 = .normal := by cases e0 <;> first | rfl | exact hx0.elim
      subst hx1
      obtain ⟨hb2, Ex, hEx, hExt, hbody⟩ := hx0
      have hb02 : Below W0.heap.size W0 W2 := hb.trans (hb2.mono hb.size)
      have hl2 := (hb02.block _ hlt).trans hl
      have hk2 := (hb02.block _ (by omega : w.heap.size < W0.heap.size)).trans hk
      refine ⟨_, run_beginRound hl2 (by rw [hrec]), ?_⟩
      have hlt2 : w.heap.size + 1 < W2.heap.size := Nat.lt_of_lt_of_le hlt hb02.size
      have hlb : (W2.putObj (w.heap.size + 1) (.loop { rec .ready none with state := .busy })).heap[w.heap.size + 1]? = some (.loop { rec .ready none with state := .busy }) := World.putObj_heap_same hlt2
      have hkb : (W2.putObj (w.heap.size + 1) (.loop { rec .ready none with state := .busy })).heap[w.heap.size]? = some (.deferred (some [])) := (World.putObj_heap_other (by omega)).trans hk2
      have hp0 : (W0.putObj (w.heap.size + 1) (.loop { rec .ready none with state := .busy })).heap.size = W0.heap.size := by simp [World.putObj]
      refine wpIn_mono (hbody (w.heap.size + 1) M pre rest (W0.putObj (w.heap.size + 1) (.loop { rec .ready none with state := .busy })) (W2.putObj (w.heap.size + 1) (.loop { rec .ready none with state := .busy })) (by omega) (by rw [hp0]; exact hsz) (by rw [hp0]; exact hM) hxs ((hI M).putObj _ hi (by omega) hl rfl) (below_putObj hb02 hl _) (hH.turn _ _ _ _ _ _ _ (hH.later _ _ _ _ _ hh hb2) hl hl2 rfl) (hExt _ _ _ _ _ hEx hl hl2 rfl)) ?_
      have hsame : ∀ W3 : World, SameB (w.heap.size + 2) M (W2.putObj (w.heap.size + 1) (.loop { rec .ready none with state := .busy })) W3 → ∀ o', SameB W1.heap.size M Wy (W3.putObj (w.heap.size + 1) o') := fun W3 h3 o' k hk1 hk2 => by
        have hbs := hb.size
        rw [World.putObj_heap_other (by omega), h3 k (by omega) hk2, World.putObj_heap_other (by omega)]
        exact hb2.block k (by omega)
      have hsize : ∀ W3 : World, KeepsFrom w.heap.size (W2.putObj (w.heap.size + 1) (.loop { rec .ready none with state := .busy })) W3 → ∀ o', Wy.heap.size ≤ (W3.putObj (w.heap.size + 1) o').heap.size := fun W3 h3 o' => by
        have e1 : (W3.putObj (w.heap.size + 1) o').heap.size = W3.heap.size := by simp [World.putObj]
        have e2 : (W2.putObj (w.heap.size + 1) (.loop { rec .ready none with state := .busy })).heap.size = W2.heap.size := by simp [World.putObj]
        have := h3.size
        have := hb2.size
        omega
      have fin : ∀ (jump : Option Code) (W3 : World), KeepsFrom w.heap.size (W2.putObj (w.heap.size + 1) (.loop { rec .ready none with state := .busy })) W3 →
          (Instr.endRound (w.heap.size + 1) jump).run P W3 = .ok (.bool jump.isNone) (W3.putObj (w.heap.size + 1) (.loop (rec (if jump.isNone then .ready else .done) jump))) ∧
          W3.heap[w.heap.size + 1]? = some (.loop { rec .ready none with state := .busy }) ∧
          (W3.putObj (w.heap.size + 1) (.loop (rec (if jump.isNone then .ready else .done) jump))).heap[w.heap.size + 1]? = some (.loop (rec (if jump.isNone then .ready else .done) jump)) ∧
          (W3.putObj (w.heap.size + 1) (.loop (rec (if jump.isNone then .ready else .done) jump))).heap[w.heap.size]? = some (.deferred (some [])) := fun jump W3 hk3 => by
        have hl3 := hk3.same _ _ (by omega) hlb rfl
        have := run_endRound (P := P) jump hl3
        rw [hrec] at this ⊢
        exact ⟨this, by rw [hrec] at hl3; exact hl3, World.putObj_heap_same (Array.getElem?_eq_some_iff.1 hl3).1, (World.putObj_heap_other (by omega)).trans (hk3.same _ _ (Nat.le_refl _) hkb rfl)⟩
      have hps3 : ∀ (W3 : World) o', (W3.putObj (w.heap.size + 1) o').heap.size = W3.heap.size := fun W3 o' => by simp [World.putObj]
      have hW0W3 : ∀ W3 : World, KeepsFrom w.heap.size (W2.putObj (w.heap.size + 1) (.loop { rec .ready none with state := .busy })) W3 → W0.heap.size ≤ W3.heap.size := fun W3 h3 => by
        have := h3.size; rw [hps3] at this; have := hb02.size; omega
      rintro e a3 W3 hp
      cases e with
      | normal =>
        obtain ⟨hk3, hs3, hi3⟩ := hp
        obtain ⟨hr, hl3, hl4, hk4⟩ := fin none W3 hk3
        have := hW0W3 W3 hk3
        exact ⟨_, _, hr, hsame W3 hs3 _, hsize W3 hk3 _, .inl ⟨rfl, (hI M).putObj _ hi3 (by omega) hl3 rfl, by rw [hps3]; omega, by rw [hps3]; omega, hl4, hk4⟩⟩
      | ret =>
        obtain ⟨hk3, hs3, hi3⟩ := hp
        obtain ⟨hr, hl3, hl4, hk4⟩ := fin (some .ret) W3 hk3
        have := hW0W3 W3 hk3
        exact ⟨_, _, hr, hsame W3 hs3 _, hsize W3 hk3 _, .inr ⟨rfl, .ret, (hIx M).putObj _ hi3 (by omega) hl3 rfl, by rw [hps3]; omega, hl4, hk4⟩⟩
      | exit id =>
        obtain ⟨hk3, hs3, hi3⟩ := hp
        obtain ⟨hr, hl3, hl4, hk4⟩ := fin (some (.exit id)) W3 hk3
        have := hW0W3 W3 hk3
        exact ⟨_, _, hr, hsame W3 hs3 _, hsize W3 hk3 _, .inr ⟨rfl, .exit id, (hIx M).putObj _ hi3 (by omega) hl3 rfl, by rw [hps3]; omega, hl4, hk4⟩⟩
      | goto t =>
        obtain ⟨hk3, hs3, hi3⟩ := hp
        obtain ⟨hr, hl3, hl4, hk4⟩ := fin (some (.goto t)) W3 hk3
        have := hW0W3 W3 hk3
        exact ⟨_, _, hr, hsame W3 hs3 _, hsize W3 hk3 _, .inr ⟨rfl, .goto t, (hIx M).putObj _ hi3 (by omega) hl3 rfl, by rw [hps3]; omega, hl4, hk4⟩⟩
      | panic ch => exact hp.elim
      | outgrown => exact hp.elim
    · rintro e W2 ⟨⟨v, rfl⟩, W0, M, hb, (⟨hi, hM, hsz, hl, hk⟩ | ⟨pre, c, hi, hsz, hl, hk⟩)⟩
      · have hlt := (Array.getElem?_eq_some_iff.1 hl).1
        have hl2 := (hb.block _ hlt).trans hl
        have hk2 := (hb.block _ (by omega : w.heap.size < W0.heap.size)).trans hk
        exact ⟨none, _, by have := run_endLoop (P := P) hl2 (by rw [hrec]; simp); rw [hrec] at this; exact this, hdone _ M _ _ (Nat.le_refl _) (by simpa [World.putObj] using hsz) ((hI M).putObj _ hi (by omega) hl rfl) (below_putObj hb hl _) ((World.putObj_heap_other (by omega)).trans hk2)⟩
      · have hlt := (Array.getElem?_eq_some_iff.1 hl).1
        have hl2 := (hb.block _ hlt).trans hl
        have hk2 := (hb.block _ (by omega : w.heap.size < W0.heap.size)).trans hk
        exact ⟨some c, _, by have := run_endLoop (P := P) hl2 (by rw [hrec]; simp); rw [hrec] at this; exact this, hstop _ M c _ _ (Nat.le_refl _) (by simpa [World.putObj] using hsz) ((hIx M).putObj _ hi (by omega) hl rfl) (below_putObj hb hl _) ((World.putObj_heap_other (by omega)).trans hk2)⟩
end Go.Proofs.YtjllkmkngjdjjaaGreatDoor
namespace Go.Proofs.YtjllkmkngjdjjaaGreatDoor
open Go.RowKit
/-- Behind W0 new memory was laid, and at most one mark from B on was turned. -/
def Later (B : Nat) (W0 W' : World) : Prop := ∃ row, W0.grownBy W' row ∧ ∀ r, row = some r → B ≤ r ∧ ∃ o : Obj, W0.heap[r]? = some o ∧ o.isCells = false
theorem Later.of_below (B : Nat) {W0 W' : World} (h : Below W0.heap.size W0 W') : Later B W0 W' := ⟨none, ⟨h.os, h.tape, h.output, h.size, fun k hk _ => h.block k hk⟩, fun r e => by cases e⟩
theorem Later.of_turn {B : Nat} {W0 W1 : World} (h : Below W0.heap.size W0 W1) {D : Nat} {o : Obj} (hD : B ≤ D) (ho : W0.heap[D]? = some o) (hc : o.isCells = false) (o' : Obj) : Later B W0 (W1.putObj D o') := by
  refine ⟨some D, ⟨h.os, h.tape, h.output, ?_, fun k hk hne => ?_⟩, fun r e => by cases e; exact ⟨hD, o, ho, hc⟩⟩
  · have : (W1.putObj D o').heap.size = W1.heap.size := by simp [World.putObj]
    have := h.size
    omega
  · rw [World.putObj_heap_other (fun e => hne (by rw [e]))]
    exact h.block k hk
/-- AN ITERATOR's CONTRACT, as IterM's, its ending wider. -/
def IterL {α : Type} (F : Fence) (n : Nat) (P : Program) (gf : Nat) (lb : Array Value) (xs : List α) (Hand : α → Array Value → World → World → Prop) (R : World → Prop) : Prop :=
  ∀ (l : Nat) (J Jx : Nat → List α → World → Prop) (W : World), R W → (∀ V, Below W.heap.size W V → J V.heap.size [] V) →
    (∀ M pre x rest args W0 W1, xs = pre ++ x :: rest → J M pre W0 → Below W0.heap.size W0 W1 → Hand x args W0 W1 →
      YieldAt F (n - 1) P l args W1 fun e W' => SameB W.heap.size M W1 W' ∧ W1.heap.size ≤ W'.heap.size ∧ ((e = .returned (.bool true) ∧ J M (pre ++ [x]) W') ∨ (e = .returned (.bool false) ∧ Jx M (pre ++ [x]) W'))) →
    CallsIn F n P gf (#[.func (.yield l) #[] #[]] ++ lb) W fun e W' => (∃ v, e = .returned v) ∧ ∃ W0 M, Later W.heap.size W0 W' ∧ (J M xs W0 ∨ ∃ pre, Jx M pre W0)
variable {F : Fence} {n : Nat} {P : Program}
theorem IterM.later {α : Type} {gf : Nat} {lb : Array Value} {xs : List α} {Hand : α → Array Value → World → World → Prop} {R : World → Prop} (h : IterM F n P gf lb xs Hand R) : IterL F n P gf lb xs Hand R :=
  fun l J Jx W hR h0 hY => (h l J Jx W hR h0 hY).mono fun _ _ ⟨e, W0, M, hb, r⟩ => ⟨e, W0, M, Later.of_below _ hb, r⟩
theorem wpIn_rangeL {α : Type} {g : Operand} {ps : Array Tmp} {assign body : Code} {Q : Exit → Act → World → Prop} {a : Act} {w : World}
    (hro : F.round = none) (h1 : 1 ≤ n) {gf : Nat} {lb : Array Value} (hg : a.eval g = .func (.func gf) #[] lb) (hFg : F.fn gf) (eg : ∀ args w, (callFunc gf args).run P w = .ok (.enter gf args) w)
    {xs : List α} {Hand : α → Array Value → World → World → Prop} {R : World → Prop} (hit : IterL F (n - 1) P gf lb xs Hand R) (hH : Steady Hand)
    (hps : ∀ x args W0 W1, Hand x args W0 W1 → args.size = ps.size)
    (I : Nat → List α → World → Prop) (Ix : Nat → Code → World → Prop) (hI : ∀ M, OwnFrom w.heap.size (I M)) (hIx : ∀ M, OwnFrom w.heap.size (Ix M))
    (hR : ∀ V, Below w.heap.size w V → R V) (h0 : ∀ V, Below w.heap.size w V → I V.heap.size [] V)
    (hround : ∀ (l : Nat) (x : α) (args : Array Value) (W0 W1 : World), w.heap.size ≤ W0.heap.size → Below W0.heap.size W0 W1 → Hand x args W0 W1 →
      assign.wpIn (F.inRound l) (n - 1 - 1) P (Exit.then (fun a' W2 => Below W1.heap.size W1 W2 ∧ ∃ Ex : World → World → Prop, Ex W0 W2 ∧ (∀ V0 V2 l o o', Ex V0 V2 → V0.heap[l]? = some o → V2.heap[l]? = some o → o.isCells = false → Ex (V0.putObj l o') (V2.putObj l o')) ∧ ∀ (l' M : Nat) (pre rest : List α) (V0 V2 : World), w.heap.size ≤ l' → w.heap.size + 2 ≤ V0.heap.size → M ≤ V0.heap.size → xs = pre ++ x :: rest → I M pre V0 → Below V0.heap.size V0 V2 → Hand x args V0 V2 → Ex V0 V2 →
        body.wpIn (F.inRound l') (n - 1 - 1) P (roundPostM w.heap.size (w.heap.size + 2) M (I M) (Ix M) (pre ++ [x]) V2) a' V2) (fun _ _ _ => False)) { tmps := (ps.zip args).foldl (fun t (p, v) => t.setIfInBounds p v) a.tmps, defers := [] } W1)
    (hdone : ∀ (D M : Nat) (W0 W : World), w.heap.size ≤ D → w.heap.size + 2 ≤ W0.heap.size → I M xs W0 → Below W0.heap.size W0 W → W.heap[D]? = some (.deferred (some [])) → Q .normal { a with defers := { target := .collected D, args := #[] } :: a.defers } W)
    (hstop : ∀ (D M : Nat) (c : Code) (W0 W : World), w.heap.size ≤ D → w.heap.size + 2 ≤ W0.heap.size → Ix M c W0 → Below W0.heap.size W0 W → W.heap[D]? = some (.deferred (some [])) → c.wpIn F n P Q { a with defers := { target := .collected D, args := #[] } :: a.defers } W) :
    (Code.rangeFunc g ps assign body).wpIn F n P Q a w := by
  refine wpIn_rangeFunc ?_
  intro fn hfn
  rw [hro]
  obtain ⟨rec, hrec⟩ : ∃ rec : LoopState → Option Code → Loop, rec = fun st pe => { state := st, pending := pe, fn, tmps := a.tmps, params := ps, assign, body, defers := w.heap.size } := ⟨_, rfl⟩
  obtain ⟨W1, hW1⟩ : ∃ W1, (w.alloc (.deferred (some []))).alloc (.loop (rec .ready none)) = W1 := ⟨_, rfl⟩
  have hs1 : W1.heap.size = w.heap.size + 2 := by rw [← hW1]; simp
  have hB1 : Below w.heap.size w W1 := by rw [← hW1]; exact below_then (below_alloc1 _ _) (below_alloc1 _ _)
  have hL1 : W1.heap[w.heap.size + 1]? = some (.loop (rec .ready none)) := by
    rw [← hW1]; have := World.alloc_heap_new (w.alloc (.deferred (some []))) (.loop (rec .ready none)); rwa [World.size_alloc] at this
  have hK1 : W1.heap[w.heap.size]? = some (.deferred (some [])) := by
    rw [← hW1]; exact (Below.heap_alloc _ _ _ (by simp)).trans (World.alloc_heap_new w _)
  refine ⟨w.heap.size + 1, [{ target := .collected w.heap.size, args := #[] }], W1, { target := .fn (.func gf) lb, args := #[.func (.yield (w.heap.size + 1)) #[] #[]] }, W1, gf,
    #[.func (.yield (w.heap.size + 1)) #[] #[]] ++ lb, W1, ?_, ?_, ?_, ?_, fun _ => h1, ?_⟩
  · rw [← hW1, hrec]; exact run_enterLoop_outer _ _ _ _ _
  · simp only [resolve, hg]
    simp [go_sem]
  · intro f' hf'; simp [Target.leads] at hf'; subst hf'; exact hFg
  · simp [invoke, go_sem, eg]
  · refine (hit (w.heap.size + 1)
      (fun M pre W => I M pre W ∧ M ≤ W.heap.size ∧ w.heap.size + 2 ≤ W.heap.size ∧ W.heap[w.heap.size + 1]? = some (.loop (rec .ready none)) ∧ W.heap[w.heap.size]? = some (.deferred (some [])))
      (fun M _ W => ∃ c, Ix M c W ∧ w.heap.size + 2 ≤ W.heap.size ∧ W.heap[w.heap.size + 1]? = some (.loop (rec .done (some c))) ∧ W.heap[w.heap.size]? = some (.deferred (some [])))
      W1 (hR W1 hB1) ?_ ?_).mono ?_
    · intro V hV
      have hVs := hV.size
      exact ⟨h0 V (below_then hB1 hV), Nat.le_refl _, by omega, (hV.block _ (by omega)).trans hL1, (hV.block _ (by omega)).trans hK1⟩
    · rintro M pre x rest args W0 Wy hxs ⟨hi, hM, hsz, hl, hk⟩ hb hh
      have hlt : w.heap.size + 1 < W0.heap.size := (Array.getElem?_eq_some_iff.1 hl).1
      have hly := (hb.block _ hlt).trans hl
      have hky := (hb.block _ (by omega : w.heap.size < W0.heap.size)).trans hk
      have hy := run_yield (P := P) (args := args) hly (by rw [hrec]; exact hps x args W0 Wy hh)
      rw [hrec] at hy
      refine ⟨fn, _, assign, body, hy, roundIn_of_wpIn hfn ?_⟩
      refine wpIn_mono (hround _ x args W0 Wy (by omega) hb hh) ?_
      clear hy
      rintro e0 a' W2 hx0
      have hx1 : e0 = .normal := by cases e0 <;> first | rfl | exact hx0.elim
      subst hx1
      obtain ⟨hb2, Ex, hEx, hExt, hbody⟩ := hx0
      have hb02 : Below W0.heap.size W0 W2 := hb.trans (hb2.mono hb.size)
      have hl2 := (hb02.block _ hlt).trans hl
      have hk2 := (hb02.block _ (by omega : w.heap.size < W0.heap.size)).trans hk
      refine ⟨_, run_beginRound hl2 (by rw [hrec]), ?_⟩
      have hlt2 : w.heap.size + 1 < W2.heap.size := Nat.lt_of_lt_of_le hlt hb02.size
      have hlb : (W2.putObj (w.heap.size + 1) (.loop { rec .ready none with state := .busy })).heap[w.heap.size + 1]? = some (.loop { rec .ready none with state := .busy }) := World.putObj_heap_same hlt2
      have hkb : (W2.putObj (w.heap.size + 1) (.loop { rec .ready none with state := .busy })).heap[w.heap.size]? = some (.deferred (some [])) := (World.putObj_heap_other (by omega)).trans hk2
      have hp0 : (W0.putObj (w.heap.size + 1) (.loop { rec .ready none with state := .busy })).heap.size = W0.heap.size := by simp [World.putObj]
      refine wpIn_mono (hbody (w.heap.size + 1) M pre rest (W0.putObj (w.heap.size + 1) (.loop { rec .ready none with state := .busy })) (W2.putObj (w.heap.size + 1) (.loop { rec .ready none with state := .busy })) (by omega) (by rw [hp0]; exact hsz) (by rw [hp0]; exact hM) hxs ((hI M).putObj _ hi (by omega) hl rfl) (below_putObj hb02 hl _) (hH.turn _ _ _ _ _ _ _ (hH.later _ _ _ _ _ hh hb2) hl hl2 rfl) (hExt _ _ _ _ _ hEx hl hl2 rfl)) ?_
      have hsame : ∀ W3 : World, SameB (w.heap.size + 2) M (W2.putObj (w.heap.size + 1) (.loop { rec .ready none with state := .busy })) W3 → ∀ o', SameB W1.heap.size M Wy (W3.putObj (w.heap.size + 1) o') := fun W3 h3 o' k hk1 hk2 => by
        have hbs := hb.size
        rw [World.putObj_heap_other (by omega), h3 k (by omega) hk2, World.putObj_heap_other (by omega)]
        exact hb2.block k (by omega)
      have hsize : ∀ W3 : World, KeepsFrom w.heap.size (W2.putObj (w.heap.size + 1) (.loop { rec .ready none with state := .busy })) W3 → ∀ o', Wy.heap.size ≤ (W3.putObj (w.heap.size + 1) o').heap.size := fun W3 h3 o' => by
        have e1 : (W3.putObj (w.heap.size + 1) o').heap.size = W3.heap.size := by simp [World.putObj]
        have e2 : (W2.putObj (w.heap.size + 1) (.loop { rec .ready none with state := .busy })).heap.size = W2.heap.size := by simp [World.putObj]
        have := h3.size
        have := hb2.size
        omega
      have fin : ∀ (jump : Option Code) (W3 : World), KeepsFrom w.heap.size (W2.putObj (w.heap.size + 1) (.loop { rec .ready none with state := .busy })) W3 →
          (Instr.endRound (w.heap.size + 1) jump).run P W3 = .ok (.bool jump.isNone) (W3.putObj (w.heap.size + 1) (.loop (rec (if jump.isNone then .ready else .done) jump))) ∧
          W3.heap[w.heap.size + 1]? = some (.loop { rec .ready none with state := .busy }) ∧
          (W3.putObj (w.heap.size + 1) (.loop (rec (if jump.isNone then .ready else .done) jump))).heap[w.heap.size + 1]? = some (.loop (rec (if jump.isNone then .ready else .done) jump)) ∧
          (W3.putObj (w.heap.size + 1) (.loop (rec (if jump.isNone then .ready else .done) jump))).heap[w.heap.size]? = some (.deferred (some [])) := fun jump W3 hk3 => by
        have hl3 := hk3.same _ _ (by omega) hlb rfl
        have := run_endRound (P := P) jump hl3
        rw [hrec] at this ⊢
        exact ⟨this, by rw [hrec] at hl3; exact hl3, World.putObj_heap_same (Array.getElem?_eq_some_iff.1 hl3).1, (World.putObj_heap_other (by omega)).trans (hk3.same _ _ (Nat.le_refl _) hkb rfl)⟩
      have hps3 : ∀ (W3 : World) o', (W3.putObj (w.heap.size + 1) o').heap.size = W3.heap.size := fun W3 o' => by simp [World.putObj]
      have hW0W3 : ∀ W3 : World, KeepsFrom w.heap.size (W2.putObj (w.heap.size + 1) (.loop { rec .ready none with state := .busy })) W3 → W0.heap.size ≤ W3.heap.size := fun W3 h3 => by
        have := h3.size; rw [hps3] at this; have := hb02.size; omega
      rintro e a3 W3 hp
      cases e with
      | normal =>
        obtain ⟨hk3, hs3, hi3⟩ := hp
        obtain ⟨hr, hl3, hl4, hk4⟩ := fin none W3 hk3
        have := hW0W3 W3 hk3
        exact ⟨_, _, hr, hsame W3 hs3 _, hsize W3 hk3 _, .inl ⟨rfl, (hI M).putObj _ hi3 (by omega) hl3 rfl, by rw [hps3]; omega, by rw [hps3]; omega, hl4, hk4⟩⟩
      | ret =>
        obtain ⟨hk3, hs3, hi3⟩ := hp
        obtain ⟨hr, hl3, hl4, hk4⟩ := fin (some .ret) W3 hk3
        have := hW0W3 W3 hk3
        exact ⟨_, _, hr, hsame W3 hs3 _, hsize W3 hk3 _, .inr ⟨rfl, .ret, (hIx M).putObj _ hi3 (by omega) hl3 rfl, by rw [hps3]; omega, hl4, hk4⟩⟩
      | exit id =>
        obtain ⟨hk3, hs3, hi3⟩ := hp
        obtain ⟨hr, hl3, hl4, hk4⟩ := fin (some (.exit id)) W3 hk3
        have := hW0W3 W3 hk3
        exact ⟨_, _, hr, hsame W3 hs3 _, hsize W3 hk3 _, .inr ⟨rfl, .exit id, (hIx M).putObj _ hi3 (by omega) hl3 rfl, by rw [hps3]; omega, hl4, hk4⟩⟩
      | goto t =>
        obtain ⟨hk3, hs3, hi3⟩ := hp
        obtain ⟨hr, hl3, hl4, hk4⟩ := fin (some (.goto t)) W3 hk3
        have := hW0W3 W3 hk3
        exact ⟨_, _, hr, hsame W3 hs3 _, hsize W3 hk3 _, .inr ⟨rfl, .goto t, (hIx M).putObj _ hi3 (by omega) hl3 rfl, by rw [hps3]; omega, hl4, hk4⟩⟩
      | panic ch => exact hp.elim
      | outgrown => exact hp.elim
    · rintro e W2 ⟨⟨v, rfl⟩, W0, M, ⟨row, hg, hr⟩, (⟨hi, hM, hsz, hl, hk⟩ | ⟨pre, c, hi, hsz, hl, hk⟩)⟩
      · have hlt := (Array.getElem?_eq_some_iff.1 hl).1
        have hne : ∀ k, k < w.heap.size + 2 → some k ≠ row := fun k hk2 e => by have := (hr k e.symm).1; omega
        have hl2 := (hg.block _ hlt (hne _ (by omega))).trans hl
        have hk2 := (hg.block _ (by omega : w.heap.size < W0.heap.size) (hne _ (by omega))).trans hk
        have hi2 := hI M _ _ _ row hi hg (fun r e => ⟨by have := (hr r e).1; omega, (hr r e).2⟩)
        have hs2 := hg.size
        exact ⟨none, _, by have := run_endLoop (P := P) hl2 (by rw [hrec]; simp); rw [hrec] at this; exact this, hdone _ M _ _ (Nat.le_refl _) (by simp only [World.putObj, Array.size_setIfInBounds]; omega) ((hI M).putObj _ hi2 (by omega) hl2 rfl) (Below.refl _ _) ((World.putObj_heap_other (by omega)).trans hk2)⟩
      · have hlt := (Array.getElem?_eq_some_iff.1 hl).1
        have hne : ∀ k, k < w.heap.size + 2 → some k ≠ row := fun k hk2 e => by have := (hr k e.symm).1; omega
        have hl2 := (hg.block _ hlt (hne _ (by omega))).trans hl
        have hk2 := (hg.block _ (by omega : w.heap.size < W0.heap.size) (hne _ (by omega))).trans hk
        have hi2 := hIx M _ _ _ row hi hg (fun r e => ⟨by have := (hr r e).1; omega, (hr r e).2⟩)
        have hs2 := hg.size
        exact ⟨some c, _, by have := run_endLoop (P := P) hl2 (by rw [hrec]; simp); rw [hrec] at this; exact this, hstop _ M c _ _ (Nat.le_refl _) (by simp only [World.putObj, Array.size_setIfInBounds]; omega) ((hIx M).putObj _ hi2 (by omega) hl2 rfl) (Below.refl _ _) ((World.putObj_heap_other (by omega)).trans hk2)⟩
end Go.Proofs.YtjllkmkngjdjjaaGreatDoor
