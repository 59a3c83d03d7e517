/- A LAW OF MY OWN for 'for x := range seq': the iterator's contract says what each round is handed (in which world), and between two rounds the iterator only lays new blocks. No statement of the seed is proved here. -/
import Derived.Test.YtjllkmkngjdjjaaDoorLib
import Derived.RangeFuncNested
import Derived.RangeFuncBound
import Derived.Shelf.Abstract
import Derived.Shelf.RegionOpen
import Derived.OwnWalkIn
import Derived.TacticsInMore
import Derived.LoopNIn
import Derived.LoopIn
namespace Go.Proofs.YtjllkmkngjdjjaaDoor
open Go.RowKit

/-- AN ITERATOR's CONTRACT: it tells xs, one by one; 'R': what it reads, which a round must leave; 'Hand x args W0 W1': what a round is handed, W0 being the world that the round before left. -/
def Iter {α : Type} (F : Fence) (n : Nat) (P : Program) (gf : Nat) (lb : Array Value) (xs : List α) (Hand : α → Array Value → World → World → Prop) (R : World → Prop) : Prop :=
  ∀ (l : Nat) (J Jx : List α → World → Prop) (W : World), (∀ pre W, J pre W → R W) → J [] W →
    (∀ pre x rest args W0 W1, xs = pre ++ x :: rest → J pre W0 → Below W0.heap.size W0 W1 → Hand x args W0 W1 →
      YieldAt F (n - 1) P l args W1 fun e W' => (e = .returned (.bool true) ∧ J (pre ++ [x]) W') ∨ (e = .returned (.bool false) ∧ Jx (pre ++ [x]) W')) →
    CallsIn F n P gf (#[.func (.yield l) #[] #[]] ++ lb) W fun e W' => (∃ v, e = .returned v) ∧ ∃ W0, Below W0.heap.size W0 W' ∧ (J xs W0 ∨ ∃ pre, Jx pre W0)

theorem Iter.inRound {α : Type} {F : Fence} {n : Nat} {P : Program} {gf : Nat} {lb : Array Value} {xs : List α} {Hand : α → Array Value → World → World → Prop} {R : World → Prop} (l : Nat)
    (h : Iter F n P gf lb xs Hand R) : Iter (F.inRound l) n P gf lb xs Hand R := h

theorem below_putObj {W0 W1 : World} (h : Below W0.heap.size W0 W1) {l : Nat} {o : Obj} (hl : W0.heap[l]? = some o) (o' : Obj) : Below (W0.putObj l o').heap.size (W0.putObj l o') (W1.putObj l o') := by
  have hlt := (Array.getElem?_eq_some_iff.1 hl).1
  have hs0 : (W0.putObj l o').heap.size = W0.heap.size := by simp [World.putObj]
  have hs1 : (W1.putObj l o').heap.size = W1.heap.size := by simp [World.putObj]
  refine ⟨h.os, h.tape, h.output, by rw [hs0, hs1]; exact h.size, fun k hk => ?_⟩
  rw [hs0] at hk
  by_cases e : k = l
  · subst e
    rw [World.putObj_heap_same hlt, World.putObj_heap_same (Nat.lt_of_lt_of_le hlt h.size)]
  · rw [World.putObj_heap_other e, World.putObj_heap_other e, h.block k hk]

/-- How the body of a round may be left. -/
def roundPost {α : Type} (B : Nat) (I : List α → World → Prop) (Ix : Code → World → Prop) (xs : List α) (W : World) : Exit → Act → World → Prop
  | .normal, _, W' => KeepsFrom B W W' ∧ I xs W'
  | .ret, _, W' => KeepsFrom B W W' ∧ Ix .ret W'
  | .exit id, _, W' => KeepsFrom B W W' ∧ Ix (.exit id) W'
  | .goto t, _, W' => KeepsFrom B W W' ∧ Ix (.goto t) W'
  | .panic _, _, _ => False
  | .outgrown, _, _ => False

theorem KeepsFrom.trans' {B : Nat} {a b c : World} (h : KeepsFrom B a b) (k : KeepsFrom B b c) : KeepsFrom B a c := ⟨Nat.le_trans h.size k.size, fun i o hi hk ho => k.same i o hi (h.same i o hi hk ho) ho⟩
theorem KeepsFrom.below (B : Nat) {a b : World} (h : Below a.heap.size a b) : KeepsFrom B a b := ⟨h.size, fun i _ _ hk _ => (h.block i (Array.getElem?_eq_some_iff.1 hk).1).trans hk⟩
theorem KeepsFrom.grown (B : Nat) {a b : World} {row : Option Nat} (h : a.grownBy b row) (hr : ∀ k, row = some k → k < B ∨ ∀ o, a.heap[k]? = some o → o.isCells = true) : KeepsFrom B a b :=
  ⟨h.size, fun i o hi hk ho => (h.block i (Array.getElem?_eq_some_iff.1 hk).1 (fun e => by
    rcases hr i e.symm with h1 | h1
    · omega
    · have := h1 o hk; rw [ho] at this; cases this)).trans hk⟩

/-! what abides the loop's book-keeping -/
section turns
variable {A A' : World} {row : Option Nat} (hg : A.grownBy A' row)
include hg
theorem turn_cell (hr : ∀ r, row = some r → ∃ o : Obj, A.heap[r]? = some o ∧ o.isCells = false) {a : Addr} {v : Value} (h : A.cell? a = some v) : A'.cell? a = some v := cell_kept h hg hr
theorem turn_frozen (hr : ∀ r, row = some r → ∃ o : Obj, A.heap[r]? = some o ∧ o.isCells = false) {a : Addr} {v : Value} (h : A.cell? a = some v) (hf : A.frozen? a = false) : A'.frozen? a = false := (frozen_kept h hg hr).trans hf
theorem turn_row (hr : ∀ r, row = some r → ∃ o : Obj, A.heap[r]? = some o ∧ o.isCells = false) {v : Value} {n : Nat} {cs : List Value} (h : Row A v n cs) : Row A' v n cs := by
  obtain ⟨ad, c, e, h1, h2, h0, h3⟩ := h
  refine ⟨ad, c, e, h1, h2, h0, fun j u hu => ?_⟩
  obtain ⟨ad', hA, hc⟩ := h3 j u hu
  exact ⟨ad', hA, turn_cell hg hr hc⟩
theorem turn_bs (hr : ∀ r, row = some r → ∃ o : Obj, A.heap[r]? = some o ∧ o.isCells = false) {v : Value} {l : List UInt8} (h : Bs A v l) : Bs A' v l := turn_row hg hr h
theorem turn_owns (hr : ∀ r, row = some r → ∃ o : Obj, A.heap[r]? = some o ∧ o.isCells = false) {B : Nat} {e : TypeId} {size n : Nat} {v : Value} {xs : List Value} (h : A.ownsRow B e size v n xs) : A'.ownsRow B e size v n xs := by
  refine ⟨h.1, ?_⟩
  rcases h.2 with h2 | ⟨g, cap, cur, hv, hb, hgg, rest⟩
  · exact .inl h2
  · refine .inr ⟨g, cap, cur, hv, hb, ?_, rest⟩
    rw [hg.block g (Array.getElem?_eq_some_iff.1 hgg).1 (fun e => by
      obtain ⟨o, ho, hc⟩ := hr g e.symm
      rw [hgg] at ho
      cases ho
      cases hc)]
    exact hgg
theorem turn_ownB (hr : ∀ r, row = some r → ∃ o : Obj, A.heap[r]? = some o ∧ o.isCells = false) {B : Nat} {v : Value} {l : List UInt8} (h : OwnB A B v l) : OwnB A' B v l := turn_owns hg hr h
theorem turn_below {B n₀ : Nat} {w : World} (hr : ∀ r, row = some r → B ≤ r ∧ ∃ o : Obj, A.heap[r]? = some o ∧ o.isCells = false) (hB : n₀ ≤ B) (hn : n₀ ≤ A.heap.size) (h : Below n₀ w A) : Below n₀ w A' :=
  h.grown hg hn (fun k e => by have := (hr k e).1; omega)
end turns

variable {F : Fence} {n : Nat} {P : Program}
/-- **THE LAW, OUTSIDE A ROUND.** -/
theorem wpIn_range {α : Type} {g : Operand} {ps : Array Tmp} {assign body : Code} {Q : Exit → Act → World → Prop} {a : Act} {w : World}
    (hro : F.round = none) (h1 : 1 ≤ n) {gf : Nat} {lb : Array Value} (hg : a.eval g = .func (.func gf) #[] lb) (hFg : F.fn gf) (eg : ∀ args w, (callFunc gf args).run P w = .ok (.enter gf args) w)
    {xs : List α} {Hand : α → Array Value → World → World → Prop} {R : World → Prop} (hit : Iter F (n - 1) P gf lb xs Hand R)
    (hps : ∀ x args W0 W1, Hand x args W0 W1 → args.size = ps.size)
    (I : List α → World → Prop) (Ix : Code → World → Prop) (hI : OwnFrom w.heap.size I) (hIx : OwnFrom w.heap.size Ix) (hIR : ∀ pre W, I pre W → R W) (h0 : I [] w)
    (Ax : α → Act → World → World → Prop) (hAx : ∀ x a' W0 W1 l o o', Ax x a' W0 W1 → W0.heap[l]? = some o → W1.heap[l]? = some o → o.isCells = false → Ax x a' (W0.putObj l o') (W1.putObj l o'))
    (hassign : ∀ (l : Nat) (x : α) (args : Array Value) (W0 W1 : World) (K : Act → World → Prop), w.heap.size ≤ W0.heap.size → Below W0.heap.size W0 W1 → Hand x args W0 W1 → (∀ a' W2, Below W1.heap.size W1 W2 → Ax x a' W0 W2 → K a' W2) →
      assign.wpIn (F.inRound l) (n - 1 - 1) P (Exit.then K (fun _ _ _ => False)) { tmps := (ps.zip args).foldl (fun t (p, v) => t.setIfInBounds p v) a.tmps, defers := [] } W1)
    (hbody : ∀ (l : Nat) (pre : List α) (x : α) (rest : List α) (a' : Act) (W0 W1 : World), w.heap.size ≤ l → (∃ r, W1.heap[l]? = some (.loop r)) → xs = pre ++ x :: rest → I pre W0 → Below W0.heap.size W0 W1 → Ax x a' W0 W1 →
      body.wpIn (F.inRound l) (n - 1 - 1) P (roundPost w.heap.size I Ix (pre ++ [x]) W1) a' W1)
    (hdone : ∀ (D : Nat) (W0 W : World), w.heap.size ≤ D → I xs W0 → Below W0.heap.size W0 W → W.heap[D]? = some (.deferred (some [])) → Q .normal { a with defers := { target := .collected D, args := #[] } :: a.defers } W)
    (hstop : ∀ (D : Nat) (c : Code) (W0 W : World), w.heap.size ≤ D → Ix c W0 → Below W0.heap.size W0 W → W.heap[D]? = some (.deferred (some [])) → c.wpIn F n P Q { a with defers := { target := .collected D, args := #[] } :: a.defers } W) :
    (Code.rangeFunc g ps assign body).wpIn F n P Q a w := by
  refine wpIn_rangeFunc ?_
  intro fn hfn
  rw [hro]
  obtain ⟨rec, hrec⟩ : ∃ rec : LoopState → Option Code → Loop, rec = fun st pe => { state := st, pending := pe, fn, tmps := a.tmps, params := ps, assign, body, defers := w.heap.size } := ⟨_, rfl⟩
  obtain ⟨W1, hW1⟩ : ∃ W1, (w.alloc (.deferred (some []))).alloc (.loop (rec .ready none)) = W1 := ⟨_, rfl⟩
  have hL1 : W1.heap[w.heap.size + 1]? = some (.loop (rec .ready none)) := by
    rw [← hW1]; have := World.alloc_heap_new (w.alloc (.deferred (some []))) (.loop (rec .ready none)); rwa [World.size_alloc] at this
  have hK1 : W1.heap[w.heap.size]? = some (.deferred (some [])) := by
    rw [← hW1]; exact (Below.heap_alloc _ _ _ (by simp)).trans (World.alloc_heap_new w _)
  have hI1 : I [] W1 := by rw [← hW1]; exact hI.alloc _ (hI.alloc _ h0)
  refine ⟨w.heap.size + 1, [{ target := .collected w.heap.size, args := #[] }], W1, { target := .fn (.func gf) lb, args := #[.func (.yield (w.heap.size + 1)) #[] #[]] }, W1, gf,
    #[.func (.yield (w.heap.size + 1)) #[] #[]] ++ lb, W1, ?_, ?_, ?_, ?_, fun _ => h1, ?_⟩
  · rw [← hW1, hrec]; exact run_enterLoop_outer _ _ _ _ _
  · simp only [resolve, hg]
    simp [go_sem]
  · intro f' hf'; simp [Target.leads] at hf'; subst hf'; exact hFg
  · simp [invoke, go_sem, eg]
  · refine (hit (w.heap.size + 1)
      (fun pre W => I pre W ∧ W.heap[w.heap.size + 1]? = some (.loop (rec .ready none)) ∧ W.heap[w.heap.size]? = some (.deferred (some [])))
      (fun _ W => ∃ c, Ix c W ∧ W.heap[w.heap.size + 1]? = some (.loop (rec .done (some c))) ∧ W.heap[w.heap.size]? = some (.deferred (some [])))
      W1 (fun pre W h => hIR pre W h.1) ⟨hI1, hL1, hK1⟩ ?_).mono ?_
    · rintro pre x rest args W0 Wy hxs ⟨hi, hl, hk⟩ hb hh
      have hlt : w.heap.size + 1 < W0.heap.size := (Array.getElem?_eq_some_iff.1 hl).1
      have hly := (hb.block _ hlt).trans hl
      have hky := (hb.block _ (by omega : w.heap.size < W0.heap.size)).trans hk
      have hy := run_yield (P := P) (args := args) hly (by rw [hrec]; exact hps x args W0 Wy hh)
      rw [hrec] at hy
      refine ⟨fn, _, assign, body, hy, roundIn_of_wpIn hfn (hassign _ x args W0 Wy _ (by omega) hb hh ?_)⟩
      clear hy
      intro a' W2 hb2 hax
      have hb02 : Below W0.heap.size W0 W2 := hb.trans (hb2.mono hb.size)
      have hl2 := (hb02.block _ hlt).trans hl
      have hk2 := (hb02.block _ (by omega : w.heap.size < W0.heap.size)).trans hk
      refine ⟨_, run_beginRound hl2 (by rw [hrec]), ?_⟩
      have hlt2 : w.heap.size + 1 < W2.heap.size := Nat.lt_of_lt_of_le hlt hb02.size
      have hlb : (W2.putObj (w.heap.size + 1) (.loop { rec .ready none with state := .busy })).heap[w.heap.size + 1]? = some (.loop { rec .ready none with state := .busy }) := World.putObj_heap_same hlt2
      have hkb : (W2.putObj (w.heap.size + 1) (.loop { rec .ready none with state := .busy })).heap[w.heap.size]? = some (.deferred (some [])) := (World.putObj_heap_other (by omega)).trans hk2
      refine wpIn_mono (hbody (w.heap.size + 1) pre x rest a' (W0.putObj (w.heap.size + 1) (.loop { rec .ready none with state := .busy })) _ (by omega) ⟨_, hlb⟩ hxs (hI.putObj _ hi (by omega) hl rfl) (below_putObj hb02 hl _) (hAx _ _ _ _ _ _ _ hax hl hl2 rfl)) ?_
      have fin : ∀ (jump : Option Code) (W3 : World), KeepsFrom w.heap.size (W2.putObj (w.heap.size + 1) (.loop { rec .ready none with state := .busy })) W3 →
          (Instr.endRound (w.heap.size + 1) jump).run P W3 = .ok (.bool jump.isNone) (W3.putObj (w.heap.size + 1) (.loop (rec (if jump.isNone then .ready else .done) jump))) ∧
          W3.heap[w.heap.size + 1]? = some (.loop { rec .ready none with state := .busy }) ∧
          (W3.putObj (w.heap.size + 1) (.loop (rec (if jump.isNone then .ready else .done) jump))).heap[w.heap.size + 1]? = some (.loop (rec (if jump.isNone then .ready else .done) jump)) ∧
          (W3.putObj (w.heap.size + 1) (.loop (rec (if jump.isNone then .ready else .done) jump))).heap[w.heap.size]? = some (.deferred (some [])) := fun jump W3 hk3 => by
        have hl3 := hk3.same _ _ (by omega) hlb rfl
        have := run_endRound (P := P) jump hl3
        rw [hrec] at this ⊢
        exact ⟨this, by rw [hrec] at hl3; exact hl3, World.putObj_heap_same (Array.getElem?_eq_some_iff.1 hl3).1, (World.putObj_heap_other (by omega)).trans (hk3.same _ _ (Nat.le_refl _) hkb rfl)⟩
      rintro e a3 W3 hp
      cases e with
      | normal =>
        obtain ⟨hk3, hi3⟩ := hp
        obtain ⟨hr, hl3, hl4, hk4⟩ := fin none W3 hk3
        exact ⟨_, _, hr, .inl ⟨rfl, hI.putObj _ hi3 (by omega) hl3 rfl, hl4, hk4⟩⟩
      | ret =>
        obtain ⟨hk3, hi3⟩ := hp
        obtain ⟨hr, hl3, hl4, hk4⟩ := fin (some .ret) W3 hk3
        exact ⟨_, _, hr, .inr ⟨rfl, .ret, hIx.putObj _ hi3 (by omega) hl3 rfl, hl4, hk4⟩⟩
      | exit id =>
        obtain ⟨hk3, hi3⟩ := hp
        obtain ⟨hr, hl3, hl4, hk4⟩ := fin (some (.exit id)) W3 hk3
        exact ⟨_, _, hr, .inr ⟨rfl, .exit id, hIx.putObj _ hi3 (by omega) hl3 rfl, hl4, hk4⟩⟩
      | goto t =>
        obtain ⟨hk3, hi3⟩ := hp
        obtain ⟨hr, hl3, hl4, hk4⟩ := fin (some (.goto t)) W3 hk3
        exact ⟨_, _, hr, .inr ⟨rfl, .goto t, hIx.putObj _ hi3 (by omega) hl3 rfl, hl4, hk4⟩⟩
      | panic ch => exact hp.elim
      | outgrown => exact hp.elim
    · rintro e W2 ⟨⟨v, rfl⟩, W0, hb, (⟨hi, hl, hk⟩ | ⟨pre, c, hi, hl, hk⟩)⟩
      · have hlt := (Array.getElem?_eq_some_iff.1 hl).1
        have hl2 := (hb.block _ hlt).trans hl
        have hk2 := (hb.block _ (by omega : w.heap.size < W0.heap.size)).trans hk
        exact ⟨none, _, by have := run_endLoop (P := P) hl2 (by rw [hrec]; simp); rw [hrec] at this; exact this, hdone _ _ _ (Nat.le_refl _) (hI.putObj _ hi (by omega) hl rfl) (below_putObj hb hl _) ((World.putObj_heap_other (by omega)).trans hk2)⟩
      · have hlt := (Array.getElem?_eq_some_iff.1 hl).1
        have hl2 := (hb.block _ hlt).trans hl
        have hk2 := (hb.block _ (by omega : w.heap.size < W0.heap.size)).trans hk
        exact ⟨some c, _, by have := run_endLoop (P := P) hl2 (by rw [hrec]; simp); rw [hrec] at this; exact this, hstop _ c _ _ (Nat.le_refl _) (hIx.putObj _ hi (by omega) hl rfl) (below_putObj hb hl _) ((World.putObj_heap_other (by omega)).trans hk2)⟩
end Go.Proofs.YtjllkmkngjdjjaaDoor
