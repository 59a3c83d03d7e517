/- THE LAW OF XIterL once more, for an iterator that reads, between rounds, what lay there ahead of it: a round must leave it. No statement of the seed is proved here. THE NAMES OF A DISK's FILES, rising; disk.List. No statement of the seed is proved here. A JOURNAL IN MEMORY; its leaves told. No statement of the seed is proved here. WORDS: a digest stored where it is new (blocks of XDigQ; written by pick.py). No statement of the seed is proved here. -/
import Derived.Test.YtjllkmkngjdjjaaGreatDoorIterL
import Derived.Test.YtjllkmkngjdjjaaGreatDoorIter2
import Derived.Test.YtjllkmkngjdjjaaGreatDoorShelfB
import Derived.Shelf.SlIter.Nil
import Derived.Sort.KeysCollected
import Derived.Test.YtjllkmkngjdjjaaGreatDoorPair
import Derived.Deep.WholeRow
namespace Go.Proofs.YtjllkmkngjdjjaaGreatDoor
open Go.RowKit
/-- AN ITERATOR's CONTRACT, as IterL's; what it reads holds between rounds. -/
def IterR {α : Type} (F : Fence) (n : Nat) (P : Program) (gf : Nat) (lb : Array Value) (xs : List α) (Hand : α → Array Value → World → World → Prop) (R : World → Prop) : Prop :=
  ∀ (l : Nat) (J Jx : Nat → List α → World → Prop) (W : World), R W → (∀ M pre V, J M pre V → R V) → (∀ V, Below W.heap.size W V → J V.heap.size [] V) →
    (∀ M pre x rest args W0 W1, xs = pre ++ x :: rest → J M pre W0 → Below W0.heap.size W0 W1 → Hand x args W0 W1 →
      YieldAt F (n - 1) P l args W1 fun e W' => SameB W.heap.size M W1 W' ∧ W1.heap.size ≤ W'.heap.size ∧ ((e = .returned (.bool true) ∧ J M (pre ++ [x]) W') ∨ (e = .returned (.bool false) ∧ Jx M (pre ++ [x]) W'))) →
    CallsIn F n P gf (#[.func (.yield l) #[] #[]] ++ lb) W fun e W' => (∃ v, e = .returned v) ∧ ∃ W0 M, Later W.heap.size W0 W' ∧ (J M xs W0 ∨ ∃ pre, Jx M pre W0)
variable {F : Fence} {n : Nat} {P : Program}
theorem wpIn_rangeR {α : Type} {g : Operand} {ps : Array Tmp} {assign body : Code} {Q : Exit → Act → World → Prop} {a : Act} {w : World}
    (hro : F.round = none) (h1 : 1 ≤ n) {gf : Nat} {lb : Array Value} (hg : a.eval g = .func (.func gf) #[] lb) (hFg : F.fn gf) (eg : ∀ args w, (callFunc gf args).run P w = .ok (.enter gf args) w)
    {xs : List α} {Hand : α → Array Value → World → World → Prop} {R : World → Prop} (hit : IterR F (n - 1) P gf lb xs Hand R) (hH : Steady Hand)
    (hps : ∀ x args W0 W1, Hand x args W0 W1 → args.size = ps.size)
    (I : Nat → List α → World → Prop) (Ix : Nat → Code → World → Prop) (hI : ∀ M, OwnFrom w.heap.size (I M)) (hIx : ∀ M, OwnFrom w.heap.size (Ix M))
    (hR : ∀ V, Below w.heap.size w V → R V) (hIR : ∀ M pre V, I M pre V → R V) (h0 : ∀ V, Below w.heap.size w V → I V.heap.size [] V)
    (hround : ∀ (l : Nat) (x : α) (args : Array Value) (W0 W1 : World), w.heap.size ≤ W0.heap.size → Below W0.heap.size W0 W1 → Hand x args W0 W1 →
      assign.wpIn (F.inRound l) (n - 1 - 1) P (Exit.then (fun a' W2 => Below W1.heap.size W1 W2 ∧ ∃ Ex : World → World → Prop, Ex W0 W2 ∧ (∀ V0 V2 l o o', Ex V0 V2 → V0.heap[l]? = some o → V2.heap[l]? = some o → o.isCells = false → Ex (V0.putObj l o') (V2.putObj l o')) ∧ ∀ (l' M : Nat) (pre rest : List α) (V0 V2 : World), w.heap.size ≤ l' → w.heap.size + 2 ≤ V0.heap.size → M ≤ V0.heap.size → xs = pre ++ x :: rest → I M pre V0 → Below V0.heap.size V0 V2 → Hand x args V0 V2 → Ex V0 V2 →
        body.wpIn (F.inRound l') (n - 1 - 1) P (roundPostM w.heap.size (w.heap.size + 2) M (I M) (Ix M) (pre ++ [x]) V2) a' V2) (fun _ _ _ => False)) { tmps := (ps.zip args).foldl (fun t (p, v) => t.setIfInBounds p v) a.tmps, defers := [] } W1)
    (hdone : ∀ (D M : Nat) (W0 W : World), w.heap.size ≤ D → w.heap.size + 2 ≤ W0.heap.size → I M xs W0 → Below W0.heap.size W0 W → W.heap[D]? = some (.deferred (some [])) → Q .normal { a with defers := { target := .collected D, args := #[] } :: a.defers } W)
    (hstop : ∀ (D M : Nat) (c : Code) (W0 W : World), w.heap.size ≤ D → w.heap.size + 2 ≤ W0.heap.size → Ix M c W0 → Below W0.heap.size W0 W → W.heap[D]? = some (.deferred (some [])) → c.wpIn F n P Q { a with defers := { target := .collected D, args := #[] } :: a.defers } W) :
    (Code.rangeFunc g ps assign body).wpIn F n P Q a w := by
  refine wpIn_rangeFunc ?_
  intro fn hfn
  rw [hro]
  obtain ⟨rec, hrec⟩ : ∃ rec : LoopState → Option Code → Loop, rec = fun st pe => { state := st, pending := pe, fn, tmps := a.tmps, params := ps, assign, body, defers := w.heap.size } := ⟨_, rfl⟩
  obtain ⟨W1, hW1⟩ : ∃ W1, (w.alloc (.deferred (some []))).alloc (.loop (rec .ready none)) = W1 := ⟨_, rfl⟩
  have hs1 : W1.heap.size = w.heap.size + 2 := by rw [← hW1]; simp
  have hB1 : Below w.heap.size w W1 := by rw [← hW1]; exact below_then (below_alloc1 _ _) (below_alloc1 _ _)
  have hL1 : W1.heap[w.heap.size + 1]? = some (.loop (rec .ready none)) := by
    rw [← hW1]; have := World.alloc_heap_new (w.alloc (.deferred (some []))) (.loop (rec .ready none)); rwa [World.size_alloc] at this
  have hK1 : W1.heap[w.heap.size]? = some (.deferred (some [])) := by
    rw [← hW1]; exact (Below.heap_alloc _ _ _ (by simp)).trans (World.alloc_heap_new w _)
  refine ⟨w.heap.size + 1, [{ target := .collected w.heap.size, args := #[] }], W1, { target := .fn (.func gf) lb, args := #[.func (.yield (w.heap.size + 1)) #[] #[]] }, W1, gf,
    #[.func (.yield (w.heap.size + 1)) #[] #[]] ++ lb, W1, ?_, ?_, ?_, ?_, fun _ => h1, ?_⟩
  · rw [← hW1, hrec]; exact run_enterLoop_outer _ _ _ _ _
  · simp only [resolve, hg]
    simp [go_sem]
  · intro f' hf'; simp [Target.leads] at hf'; subst hf'; exact hFg
  · simp [invoke, go_sem, eg]
  · refine (hit (w.heap.size + 1)
      (fun M pre W => I M pre W ∧ M ≤ W.heap.size ∧ w.heap.size + 2 ≤ W.heap.size ∧ W.heap[w.heap.size + 1]? = some (.loop (rec .ready none)) ∧ W.heap[w.heap.size]? = some (.deferred (some [])))
      (fun M _ W => ∃ c, Ix M c W ∧ w.heap.size + 2 ≤ W.heap.size ∧ W.heap[w.heap.size + 1]? = some (.loop (rec .done (some c))) ∧ W.heap[w.heap.size]? = some (.deferred (some [])))
      W1 (hR W1 hB1) (fun M pre V h => hIR M pre V h.1) ?_ ?_).mono ?_
    · intro V hV
      have hVs := hV.size
      exact ⟨h0 V (below_then hB1 hV), Nat.le_refl _, by omega, (hV.block _ (by omega)).trans hL1, (hV.block _ (by omega)).trans hK1⟩
    · rintro M pre x rest args W0 Wy hxs ⟨hi, hM, hsz, hl, hk⟩ hb hh
      have hlt : w.heap.size + 1 < W0.heap.size := (Array.getElem?_eq_some_iff.1 hl).1
      have hly := (hb.block _ hlt).trans hl
      have hky := (hb.block _ (by omega : w.heap.size < W0.heap.size)).trans hk
      have hy := run_yield (P := P) (args := args) hly (by rw [hrec]; exact hps x args W0 Wy hh)
      rw [hrec] at hy
      refine ⟨fn, _, assign, body, hy, roundIn_of_wpIn hfn ?_⟩
      refine wpIn_mono (hround _ x args W0 Wy (by omega) hb hh) ?_
      clear hy
      rintro e0 a' W2 hx0
      have hx1 : e0 = .normal := by cases e0 <;> first | rfl | exact hx0.elim
      subst hx1
      obtain ⟨hb2, Ex, hEx, hExt, hbody⟩ := hx0
      have hb02 : Below W0.heap.size W0 W2 := hb.trans (hb2.mono hb.size)
      have hl2 := (hb02.block _ hlt).trans hl
      have hk2 := (hb02.block _ (by omega : w.heap.size < W0.heap.size)).trans hk
      refine ⟨_, run_beginRound hl2 (by rw [hrec]), ?_⟩
      have hlt2 : w.heap.size + 1 < W2.heap.size := Nat.lt_of_lt_of_le hlt hb02.size
      have hlb : (W2.putObj (w.heap.size + 1) (.loop { rec .ready none with state := .busy })).heap[w.heap.size + 1]? = some (.loop { rec .ready none with state := .busy }) := World.putObj_heap_same hlt2
      have hkb : (W2.putObj (w.heap.size + 1) (.loop { rec .ready none with state := .busy })).heap[w.heap.size]? = some (.deferred (some [])) := (World.putObj_heap_other (by omega)).trans hk2
      have hp0 : (W0.putObj (w.heap.size + 1) (.loop { rec .ready none with state := .busy })).heap.size = W0.heap.size := by simp [World.putObj]
      refine wpIn_mono (hbody (w.heap.size + 1) M pre rest (W0.putObj (w.heap.size + 1) (.loop { rec .ready none with state := .busy })) (W2.putObj (w.heap.size + 1) (.loop { rec .ready none with state := .busy })) (by omega) (by rw [hp0]; exact hsz) (by rw [hp0]; exact hM) hxs ((hI M).putObj _ hi (by omega) hl rfl) (below_putObj hb02 hl _) (hH.turn _ _ _ _ _ _ _ (hH.later _ _ _ _ _ hh hb2) hl hl2 rfl) (hExt _ _ _ _ _ hEx hl hl2 rfl)) ?_
      have hsame : ∀ W3 : World, SameB (w.heap.size + 2) M (W2.putObj (w.heap.size + 1) (.loop { rec .ready none with state := .busy })) W3 → ∀ o', SameB W1.heap.size M Wy (W3.putObj (w.heap.size + 1) o') := fun W3 h3 o' k hk1 hk2 => by
        have hbs := hb.size
        rw [World.putObj_heap_other (by omega), h3 k (by omega) hk2, World.putObj_heap_other (by omega)]
        exact hb2.block k (by omega)
      have hsize : ∀ W3 : World, KeepsFrom w.heap.size (W2.putObj (w.heap.size + 1) (.loop { rec .ready none with state := .busy })) W3 → ∀ o', Wy.heap.size ≤ (W3.putObj (w.heap.size + 1) o').heap.size := fun W3 h3 o' => by
        have e1 : (W3.putObj (w.heap.size + 1) o').heap.size = W3.heap.size := by simp [World.putObj]
        have e2 : (W2.putObj (w.heap.size + 1) (.loop { rec .ready none with state := .busy })).heap.size = W2.heap.size := by simp [World.putObj]
        have := h3.size
        have := hb2.size
        omega
      have fin : ∀ (jump : Option Code) (W3 : World), KeepsFrom w.heap.size (W2.putObj (w.heap.size + 1) (.loop { rec .ready none with state := .busy })) W3 →
          (Instr.endRound (w.heap.size + 1) jump).run P W3 = .ok (.bool jump.isNone) (W3.putObj (w.heap.size + 1) (.loop (rec (if jump.isNone then .ready else .done) jump))) ∧
          W3.heap[w.heap.size + 1]? = some (.loop { rec .ready none with state := .busy }) ∧
          (W3.putObj (w.heap.size + 1) (.loop (rec (if jump.isNone then .ready else .done) jump))).heap[w.heap.size + 1]? = some (.loop (rec (if jump.isNone then .ready else .done) jump)) ∧
          (W3.putObj (w.heap.size + 1) (.loop (rec (if jump.isNone then .ready else .done) jump))).heap[w.heap.size]? = some (.deferred (some [])) := fun jump W3 hk3 => by
        have hl3 := hk3.same _ _ (by omega) hlb rfl
        have := run_endRound (P := P) jump hl3
        rw [hrec] at this ⊢
        exact ⟨this, by rw [hrec] at hl3; exact hl3, World.putObj_heap_same (Array.getElem?_eq_some_iff.1 hl3).1, (World.putObj_heap_other (by omega)).trans (hk3.same _ _ (Nat.le_refl _) hkb rfl)⟩
      have hps3 : ∀ (W3 : World) o', (W3.putObj (w.heap.size + 1) o').heap.size = W3.heap.size := fun W3 o' => by simp [World.putObj]
      have hW0W3 : ∀ W3 : World, KeepsFrom w.heap.size (W2.putObj (w.heap.size + 1) (.loop { rec .ready none with state := .busy })) W3 → W0.heap.size ≤ W3.heap.size := fun W3 h3 => by
        have := h3.size; rw [hps3] at this; have := hb02.size; omega
      rintro e a3 W3 hp
      cases e with
      | normal =>
        obtain ⟨hk3, hs3, hi3⟩ := hp
        obtain ⟨hr, hl3, hl4, hk4⟩ := fin none W3 hk3
        have := hW0W3 W3 hk3
        exact ⟨_, _, hr, hsame W3 hs3 _, hsize W3 hk3 _, .inl ⟨rfl, (hI M).putObj _ hi3 (by omega) hl3 rfl, by rw [hps3]; omega, by rw [hps3]; omega, hl4, hk4⟩⟩
      | ret =>
        obtain ⟨hk3, hs3, hi3⟩ := hp
        obtain ⟨hr, hl3, hl4, hk4⟩ := fin (some .ret) W3 hk3
        have := hW0W3 W3 hk3
        exact ⟨_, _, hr, hsame W3 hs3 _, hsize W3 hk3 _, .inr ⟨rfl, .ret, (hIx M).putObj _ hi3 (by omega) hl3 rfl, by rw [hps3]; omega, hl4, hk4⟩⟩
      | exit id =>
        obtain ⟨hk3, hs3, hi3⟩ := hp
        obtain ⟨hr, hl3, hl4, hk4⟩ := fin (some (.exit id)) W3 hk3
        have := hW0W3 W3 hk3
        exact ⟨_, _, hr, hsame W3 hs3 _, hsize W3 hk3 _, .inr ⟨rfl, .exit id, (hIx M).putObj _ hi3 (by omega) hl3 rfl, by rw [hps3]; omega, hl4, hk4⟩⟩
      | goto t =>
        obtain ⟨hk3, hs3, hi3⟩ := hp
        obtain ⟨hr, hl3, hl4, hk4⟩ := fin (some (.goto t)) W3 hk3
        have := hW0W3 W3 hk3
        exact ⟨_, _, hr, hsame W3 hs3 _, hsize W3 hk3 _, .inr ⟨rfl, .goto t, (hIx M).putObj _ hi3 (by omega) hl3 rfl, by rw [hps3]; omega, hl4, hk4⟩⟩
      | panic ch => exact hp.elim
      | outgrown => exact hp.elim
    · rintro e W2 ⟨⟨v, rfl⟩, W0, M, ⟨row, hg, hr⟩, (⟨hi, hM, hsz, hl, hk⟩ | ⟨pre, c, hi, hsz, hl, hk⟩)⟩
      · have hlt := (Array.getElem?_eq_some_iff.1 hl).1
        have hne : ∀ k, k < w.heap.size + 2 → some k ≠ row := fun k hk2 e => by have := (hr k e.symm).1; omega
        have hl2 := (hg.block _ hlt (hne _ (by omega))).trans hl
        have hk2 := (hg.block _ (by omega : w.heap.size < W0.heap.size) (hne _ (by omega))).trans hk
        have hi2 := hI M _ _ _ row hi hg (fun r e => ⟨by have := (hr r e).1; omega, (hr r e).2⟩)
        have hs2 := hg.size
        exact ⟨none, _, by have := run_endLoop (P := P) hl2 (by rw [hrec]; simp); rw [hrec] at this; exact this, hdone _ M _ _ (Nat.le_refl _) (by simp only [World.putObj, Array.size_setIfInBounds]; omega) ((hI M).putObj _ hi2 (by omega) hl2 rfl) (Below.refl _ _) ((World.putObj_heap_other (by omega)).trans hk2)⟩
      · have hlt := (Array.getElem?_eq_some_iff.1 hl).1
        have hne : ∀ k, k < w.heap.size + 2 → some k ≠ row := fun k hk2 e => by have := (hr k e.symm).1; omega
        have hl2 := (hg.block _ hlt (hne _ (by omega))).trans hl
        have hk2 := (hg.block _ (by omega : w.heap.size < W0.heap.size) (hne _ (by omega))).trans hk
        have hi2 := hIx M _ _ _ row hi hg (fun r e => ⟨by have := (hr r e).1; omega, (hr r e).2⟩)
        have hs2 := hg.size
        exact ⟨some c, _, by have := run_endLoop (P := P) hl2 (by rw [hrec]; simp); rw [hrec] at this; exact this, hstop _ M c _ _ (Nat.le_refl _) (by simp only [World.putObj, Array.size_setIfInBounds]; omega) ((hIx M).putObj _ hi2 (by omega) hl2 rfl) (Below.refl _ _) ((World.putObj_heap_other (by omega)).trans hk2)⟩
end Go.Proofs.YtjllkmkngjdjjaaGreatDoor
namespace Go.Proofs.YtjllkmkngjdjjaaGreatDoor
open Go.RowKit Go.Maps Go.Sort Go.Shelf
attribute [local go_sem] Oper.semAt_some
set_option maxRecDepth 100000
/-- The names of the files, rising. -/
def NamesOf (fs : Fs) (ns : List (List UInt8)) : Prop := ns.Pairwise (· < ·) ∧ ∀ n : List UInt8, n ∈ ns ↔ (fs ⟨n.toArray⟩).isSome = true
theorem NamesOf.ext {fs : Fs} {a b : List (List UInt8)} (ha : NamesOf fs a) (hb : NamesOf fs b) : a = b := by
  have hna : a.Nodup := ha.1.imp fun h e => by subst e; exact List.lt_irrefl _ h
  have hnb : b.Nodup := hb.1.imp fun h e => by subst e; exact List.lt_irrefl _ h
  refine List.Perm.eq_of_pairwise (le := fun x y => x < y) (fun x y _ _ h1 h2 => absurd h1 (List.lt_asymm h2)) ha.1 hb.1 ?_
  exact (List.perm_ext_iff_of_nodup hna hnb).2 fun x => (ha.2 x).trans (hb.2 x).symm
theorem MapAt.keys {w : World} {b c : Nat} {f : ByteArray → Option Value} (h : MapAt w b c f) : ∃ D : DataW Value, w.ownsMap Tryz.prog 9 heldR b c D ∧ Maps.size D ≤ c ∧ (strKeys D).Nodup ∧ ∀ n : List UInt8, n ∈ strKeys D ↔ (f ⟨n.toArray⟩).isSome = true := by
  obtain ⟨D, hD, hf⟩ := h
  obtain ⟨es, e1, hpw, -⟩ := hD.entries keyed_str
  obtain ⟨es', e2, hko⟩ := hD.keysOf
  have : es = es' := by rw [e1] at e2; simpa using e2
  subst this
  subst e1
  have hk : ∀ p ∈ es, ∃ x, p.1 = .string x := fun p hp => by obtain ⟨v, hv⟩ := hko p hp; obtain ⟨x, _, hx, _⟩ := Maps.keyOf_str Tryz.underlying9 hv; exact ⟨x, hx⟩
  refine ⟨_, hD, hD.size_le, ?_, fun n => ?_⟩
  · show (es.map fun p => strOf p.1).Nodup
    refine List.pairwise_map.2 (hpw.imp_of_mem fun {p q} hp' hq' hne e => hne ?_)
    obtain ⟨a, ha⟩ := hk p hp'
    obtain ⟨b, hb⟩ := hk q hq'
    rw [ha, hb] at e ⊢
    exact congrArg _ e
  · have h1 := (hf ⟨n.toArray⟩).1
    rw [← h1, has_eq, List.any_eq_true]
    show n ∈ es.map (fun p => strOf p.1) ↔ _
    rw [List.mem_map]
    constructor
    · rintro ⟨p, hp', rfl⟩
      obtain ⟨a, ha⟩ := hk p hp'
      exact ⟨p, hp', by rw [ha]; simp [Lit.sameKey, strOf]⟩
    · rintro ⟨p, hp', hs⟩
      obtain ⟨a, ha⟩ := hk p hp'
      rw [ha] at hs
      exact ⟨p, hp', by rw [ha]; simpa [Lit.sameKey, strOf] using hs⟩
theorem leB_pair (l : List (List UInt8)) : (l.mergeSort leB).Pairwise fun a b => leB a b = true :=
  List.pairwise_mergeSort (fun a b c h1 h2 => by simp only [leB, decide_eq_true_eq] at *; exact List.le_trans h1 h2) (fun a b => by simp only [leB, Bool.or_eq_true, decide_eq_true_eq]; exact List.le_total a b) l
theorem names_sorted {f : ByteArray → Option Value} {fs : Fs} {D : DataW Value} (hd : ∀ n, (f n).isSome = (fs n).isSome) (hn : (strKeys D).Nodup) (hm : ∀ n : List UInt8, n ∈ strKeys D ↔ (f ⟨n.toArray⟩).isSome = true) {ss : List (List UInt8)} (hS : ss.Perm (strKeys D)) : NamesOf fs (ss.mergeSort leB) := by
  have hp : (ss.mergeSort leB).Perm (strKeys D) := (List.mergeSort_perm ss leB).trans hS
  have hnd : (ss.mergeSort leB).Nodup := hp.nodup_iff.2 hn
  refine ⟨?_, fun n => ?_⟩
  · have h2 := (leB_pair ss).and hnd
    refine h2.imp fun {a b} h0 => ?_
    have hle : a ≤ b := by simpa [leB] using h0.1
    rcases List.le_iff_lt_or_eq.1 hle with h | h
    · exact h
    · exact absurd h h0.2
  · rw [hp.mem_iff, hm, hd]
theorem sortsA (m : Nat) : AnyZ.SortsIn Tryz.prog Tryz.sortedA_ren Fence.wide m :=
  ⟨fun blk off cap ss W hH hblk hsz => callsIn_wide.2 (AnyM.slices_Sort_string Tryz.sortA blk off cap ss W hH hblk hsz),
   fun p cap W => callsIn_wide.2 (AnyM.slices_Sort_string_none Tryz.sortA p cap W)⟩
/-- A round is handed a name. -/
def HandN (n : List UInt8) (args : Array Value) (W0 W1 : World) : Prop := args = #[.string ⟨n.toArray⟩]
theorem HandN.steady : Steady HandN := ⟨fun _ _ _ _ _ h _ => h, fun _ _ _ _ _ _ _ h _ _ _ => h⟩
theorem list_calls (p : Value) (hp : ∃ a, p = .pointer a) (W : World) :
    Calls Tryz.prog 99 #[p] W fun e w' => e = .returned (.func (.func 149) #[] #[.pointer (some ⟨W.heap.size, 0, none⟩)]) ∧ Below W.heap.size W w' ∧ w'.cell? ⟨W.heap.size, 0, none⟩ = some p := by
  obtain ⟨a, rfl⟩ := hp
  go_enter Tryz.func99, Tryz.ntmps99
  go_wp2
  go_ret
  exact ⟨rfl, below_alloc1 _ _, new_cell _ _ _⟩
set_option maxHeartbeats 2000000 in
theorem list_iter (n : Nat) (h8 : 8 ≤ n) (b : Nat) (x : DT) (s : DSt) (B : Nat) (ns : List (List UInt8)) (hN : NamesOf s.fs ns) (hr : s.raws.length ≤ 1000000000000) :
    IterM Fence.wide n Tryz.prog 149 #[.pointer (some ⟨b, 0, none⟩)] ns HandN (fun W => W.cell? ⟨b, 0, none⟩ = some (.pointer (some ⟨x.p, 0, none⟩)) ∧ x.At s W B) := by
  intro lp J Jx W hR hJ0 hY
  obtain ⟨hb, hx⟩ := hR
  have KN := Lib.hid (dnone_calls x s W B hx)
  have c1 := hx.c1
  obtain ⟨D, hD, hsz, hnd, hmem⟩ := hx.map.keys
  have hbl := hD.lt
  have hseq : SeqGives Fence.wide (n - 4) Tryz.prog 200 #[.pointer (some ⟨W.heap.size, 0, none⟩)] encStr (fun ss => ss.Perm (strKeys D)) (Maps.size D) (W.alloc (.cells #[.map (some x.mb)] 104)) :=
    AnyZ.keys_gives (ρ := Tryz.keysA_ren) { Tryz.keysA with } Fence.wide _ trivial rfl (by omega) W.heap.size x.mb _ D _ (by simp) (by simp) (hD.kept (row := none) (World.grownBy_alloc W _ none) (by simp))
  have cK : ∀ mb W, CallsIn Fence.wide (n - 1) Tryz.prog 151 #[.map mb] W fun e w' => e = .returned (.func (.func 200) #[] #[.pointer (some ⟨W.heap.size, 0, none⟩)]) ∧ w' = W.alloc (.cells #[.map mb] 104) := fun mb W => AnyZ.keys_in Tryz.keysA Fence.wide (n - 1) trivial rfl mb W
  have cS := AnyZ.sorted_in Tryz.sortedA Fence.wide (n - 1) trivial trivial trivial trivial rfl (by omega) (sortsA _) (enters_of Tryz.func199 (by kernel_rfl) rfl) 200 #[.pointer (some ⟨W.heap.size, 0, none⟩)] trivial (enters_of Tryz.func200 (by kernel_rfl) rfl) _ _ (by unfold maxLen; omega) (by omega) _ hseq
  change CallsIn _ _ Tryz.prog 150 _ _ _ at cS
  have HX := Lib.hid hx
  have hn1 : 1 ≤ n := by omega
  clear hx hseq
  refine callsIn_of_wp Tryz.func149 rfl trivial ?_ rfl
  simp only [Tryz.ntmps149, List.size_toArray, List.length_cons, List.length_nil, Nat.reduceAdd, Nat.reduceSub, Array.replicate_succ, Array.replicate_zero, List.push_toArray, List.append_toArray, List.nil_append, List.cons_append]
  gi_wp2_with (first
    | (refine ⟨trivial, ?_⟩; gi_at_call 57; refine (callsIn_wide.2 KN.out).mono ?_; rintro e w1 ⟨rfl, rfl⟩)
    | (refine ⟨trivial, ?_⟩; gi_at_call 151; refine (cK _ _).mono ?_; rintro e w' ⟨rfl, rfl⟩)
    | (refine ⟨trivial, ?_⟩; gi_at_call 150; refine cS.mono ?_; rintro e w2 ⟨v, ss, rfl, hS, hrow, hnil, hB2⟩; obtain ⟨Av, cv, rfl, -, -, -⟩ := owns_form hrow))
  have hNS := names_sorted (fs := s.fs) HX.out.vals.dom hnd hmem hS
  have hle : ss.mergeSort leB = ns := hNS.ext hN
  have hlen : ss.length = ns.length := by rw [← hle, List.length_mergeSort]
  rw [show (fun x y : List UInt8 => decide (x ≤ y)) = leB from rfl, hle] at hrow
  try simp only [hlen]
  simp only [hlen] at hrow
  have hB : Below W.heap.size W w2 := below_then (below_alloc1 _ _) hB2
  have hnl : ns.length ≤ 1000000000000 := by
    have e1 := hS.length_eq
    have e2 : (strKeys D).length = Maps.size D := by cases D <;> simp [strKeys, Maps.size]
    omega
  have HO := Lib.hid (show w2.ownsRow W.heap.size 9 1 (.slice Av ns.length cv) ns.length (ns.map encStr) from owns_low hrow (by simp))
  have HJ := Lib.hid (hJ0 w2 hB)
  have HGE := Lib.hid (owns_ge HO.out)
  have HLO := Lib.hid (owns_lt HO.out)
  have HY := Lib.hid hY
  clear hNS hle hrow hS hnil hB2 hJ0 hY cK cS hnd hmem KN hD hsz
  clear hlen
  clear ss
  try gi_wp2
  gi_loopw [14] (fun i wq => ∃ (k : Nat) (W0 : World), k ≤ ns.length ∧ i = .int .i64 (k : Int) ∧ J w2.heap.size (ns.take k) W0 ∧ Below W0.heap.size W0 wq ∧ w2.heap.size ≤ wq.heap.size ∧ wq.ownsRow W.heap.size 9 1 (.slice Av ns.length cv) ns.length (ns.map encStr)) (fun i _ => ns.length - (intOf i).toNat)
  case atStart => exact ⟨0, w2, by omega, rfl, HJ.out, Below.refl _ _, Nat.le_refl _, HO.out⟩
  case round =>
    obtain ⟨k, W0, hk, rfl, hJ, hbw, hsz, hown⟩ := hrel
    have HO2 := Lib.hid hown
    by_cases hlt : k < ns.length
    · obtain ⟨ad, hA, hcell⟩ := (Row.of_owns hown).at_ k (u := encStr ns[k]) (by rw [List.getElem?_map, List.getElem?_eq_getElem hlt]; rfl)
      subst hA
      simp only [encStr] at hcell
      have hk0 : (0 : Int) ≤ (k : Int) := Int.natCast_nonneg _
      have hk1 : (k : Int) < (ns.length : Int) := by omega
      have hx : ns = ns.take k ++ ns[k] :: ns.drop (k + 1) := by rw [List.getElem_cons_drop, List.take_append_drop]
      have hxt : ns.take (k + 1) = ns.take k ++ [ns[k]] := by rw [List.take_succ_eq_append_getElem hlt]
      have HXT := Lib.hid hxt
      have hY1 := HY.out _ (ns.take k) ns[k] (ns.drop (k + 1)) #[.string ⟨ns[k].toArray⟩] W0 _ hx hJ hbw rfl
      clear hx hxt hJ hown
      obtain ⟨fn, tmps, assign, body, hy, hR⟩ := hY1
      generalize ns[k] = nm at *
      have hwk : wrap64 ((k : Int) + 1) = ((k + 1 : Nat) : Int) := by unfold wrap64; omega
      gi_wp2
      refine hR.mono ?_
      rintro e W3 ⟨hS, hz3, (⟨rfl, hJ3⟩ | ⟨rfl, hJx3⟩)⟩
      · have hO5 := mods_owns HO2.out (w' := W3) fun q hq => hS q (HGE.out q hq) (HLO.out q hq)
        have HO5 := Lib.hid hO5
        clear hO5 hS hy hR hcell
        gi_wp2
        go_roundw
        case rel => exact ⟨k + 1, W3, by omega, by go_num, by rw [HXT.out]; exact hJ3, Below.refl _ _, by omega, HO5.out⟩
        case measure => simp only [intOf]; omega
      · clear hS hy hR hcell
        gi_wp2
        refine bodyPost_ret (results_none rfl _ _ _) rfl ?_
        exact ⟨⟨_, rfl⟩, W3, _, Below.refl _ _, .inr ⟨_, hJx3⟩⟩
    · have hkn : k = ns.length := by omega
      subst hkn
      rw [List.take_length] at hJ
      clear hown
      gi_wp2
      refine bodyPost_end (results_none rfl _ _ _) rfl ?_
      exact ⟨⟨_, rfl⟩, W0, _, hbw, .inl hJ⟩
end Go.Proofs.YtjllkmkngjdjjaaGreatDoor
namespace Go.Proofs.YtjllkmkngjdjjaaGreatDoor
open Go.RowKit Go.Shelf
attribute [local go_sem] Oper.semAt_some
set_option maxRecDepth 100000
theorem under_lists : Tryz.prog.underlying 22 = some (.slice 35) := by kernel_rfl
structure JT where
  p : Nat
  vl : Value
  us : List Value
def JT.Has (j : JT) (k : Nat) : Prop := k = j.p ∨ j.vl.ownBlock = some k ∨ ∃ u ∈ j.us, u.ownBlock = some k
/-- A journal: its disk's place, its generation, its leaves. -/
structure JT.At (j : JT) (pd g : Nat) (ls : List (List UInt8)) (w : World) (B : Nat) : Prop where
  low : B ≤ j.p
  c0 : w.cell? ⟨j.p, 0, none⟩ = some (.pointer (some ⟨pd, 0, none⟩))
  c1 : w.cell? ⟨j.p, 1, none⟩ = some (.int .i64 (g : Int))
  c2 : w.cell? ⟨j.p, 2, none⟩ = some j.vl
  f1 : w.frozen? ⟨j.p, 1, none⟩ = false
  f2 : w.frozen? ⟨j.p, 2, none⟩ = false
  row : w.ownsRow B 35 1 j.vl ls.length j.us
  parts : Parts w B j.us ls [j.vl]
  vp : j.vl.ownBlock ≠ some j.p
  up : ∀ u ∈ j.us, u.ownBlock ≠ some j.p
theorem JT.At.us {j : JT} {pd g : Nat} {ls : List (List UInt8)} {w : World} {B : Nat} (h : j.At pd g ls w B) {u : Value} (hu : u ∈ j.us) : ∃ m, m ∈ ls ∧ OwnB w B u m ∧ Apart u j.vl := by
  obtain ⟨i, hi⟩ := List.mem_iff_getElem?.1 hu
  obtain ⟨m, hm, ho, ha⟩ := h.parts.2 i u hi
  exact ⟨m, List.mem_of_getElem? hm, ho, ha _ (by simp)⟩
theorem JT.At.lt {j : JT} {pd g : Nat} {ls : List (List UInt8)} {w : World} {B : Nat} (h : j.At pd g ls w B) {k : Nat} (hk : j.Has k) : k < w.heap.size := by
  rcases hk with rfl | hk | ⟨u, hu, hk⟩
  · exact World.block_lt_of_cell? w _ h.c0
  · exact owns_lt h.row k hk
  · obtain ⟨m, -, ho, -⟩ := h.us hu
    exact (ho.lt k hk).2
theorem JT.At.ge {j : JT} {pd g : Nat} {ls : List (List UInt8)} {w : World} {B : Nat} (h : j.At pd g ls w B) {k : Nat} (hk : j.Has k) : B ≤ k := by
  rcases hk with rfl | hk | ⟨u, hu, hk⟩
  · exact h.low
  · exact owns_ge h.row k hk
  · obtain ⟨m, -, ho, -⟩ := h.us hu
    exact (ho.lt k hk).1
theorem JT.At.kept {j : JT} {pd g : Nat} {ls : List (List UInt8)} {w w' : World} {B : Nat} (h : j.At pd g ls w B) (hs : ∀ k, j.Has k → w'.heap[k]? = w.heap[k]?) : j.At pd g ls w' B where
  low := h.low
  c0 := (mods_cell (a := ⟨j.p, 0, none⟩) (hs _ (.inl rfl))).trans h.c0
  c1 := (mods_cell (a := ⟨j.p, 1, none⟩) (hs _ (.inl rfl))).trans h.c1
  c2 := (mods_cell (a := ⟨j.p, 2, none⟩) (hs _ (.inl rfl))).trans h.c2
  f1 := (mods_frozen (a := ⟨j.p, 1, none⟩) (hs _ (.inl rfl))).trans h.f1
  f2 := (mods_frozen (a := ⟨j.p, 2, none⟩) (hs _ (.inl rfl))).trans h.f2
  row := mods_owns h.row fun k hk => hs k (.inr (.inl hk))
  parts := ⟨h.parts.1, fun i u hu => by
    obtain ⟨m, hm, ho, ha⟩ := h.parts.2 i u hu
    exact ⟨m, hm, mods_owns ho fun k hk => hs k (.inr (.inr ⟨u, List.mem_of_getElem? hu, hk⟩)), ha⟩⟩
  vp := h.vp
  up := h.up
theorem JT.At.below {j : JT} {pd g : Nat} {ls : List (List UInt8)} {w w' : World} {B : Nat} (h : j.At pd g ls w B) (hb : Below w.heap.size w w') : j.At pd g ls w' B := h.kept fun k hk => hb.block k (h.lt hk)
theorem JT.At.lower {j : JT} {pd g : Nat} {ls : List (List UInt8)} {w : World} {B B' : Nat} (h : j.At pd g ls w B) (hB : B' ≤ B) : j.At pd g ls w B' :=
  { h with low := Nat.le_trans hB h.low, row := owns_low h.row hB, parts := ⟨h.parts.1, fun i u hu => let ⟨m, hm, ho, ha⟩ := h.parts.2 i u hu; ⟨m, hm, ho.lower hB, ha⟩⟩ }
/-! ### small calls -/
theorem jnone_calls (j : JT) (pd g : Nat) (ls : List (List UInt8)) (w : World) (B : Nat) (h : j.At pd g ls w B) : Calls Tryz.prog 108 #[.pointer (some ⟨j.p, 0, none⟩)] w fun e w' => e = .returned (.bool false) ∧ w = w' := by
  have c0 := h.c0
  clear h
  go_enter Tryz.func108, Tryz.ntmps108
  go_wp2
  go_ret
  exact ⟨rfl, rfl⟩
theorem jlen_calls (j : JT) (pd g : Nat) (ls : List (List UInt8)) (w : World) (B : Nat) (h : j.At pd g ls w B) : Calls Tryz.prog 47 #[.pointer (some ⟨j.p, 0, none⟩)] w fun e w' => e = .returned (.int .i64 (ls.length : Int)) ∧ w = w' := by
  have K := Lib.hid (jnone_calls j pd g ls w B h)
  have c2 := h.c2
  obtain ⟨A, c, e, -, -, -⟩ := owns_form h.row
  rw [e] at c2
  clear h
  go_enter Tryz.func47, Tryz.ntmps47
  go_wp2_with (first | (go_at_call 108; refine K.out.mono ?_; rintro e w1 ⟨rfl, rfl⟩))
  go_ret
  exact ⟨rfl, rfl⟩
theorem jgen_calls (j : JT) (pd g : Nat) (ls : List (List UInt8)) (w : World) (B : Nat) (h : j.At pd g ls w B) : Calls Tryz.prog 49 #[.pointer (some ⟨j.p, 0, none⟩)] w fun e w' => e = .returned (.int .i64 (g : Int)) ∧ w = w' := by
  have K := Lib.hid (jnone_calls j pd g ls w B h)
  have c1 := h.c1
  clear h
  go_enter Tryz.func49, Tryz.ntmps49
  go_wp2_with (first | (go_at_call 108; refine K.out.mono ?_; rintro e w1 ⟨rfl, rfl⟩))
  go_ret
  exact ⟨rfl, rfl⟩
theorem jall_calls (p : Value) (hp : ∃ a, p = .pointer a) (W : World) :
    Calls Tryz.prog 112 #[p] W fun e w' => e = .returned (.func (.func 167) #[] #[.pointer (some ⟨W.heap.size, 0, none⟩)]) ∧ Below W.heap.size W w' ∧ w'.cell? ⟨W.heap.size, 0, none⟩ = some p := by
  obtain ⟨a, rfl⟩ := hp
  go_enter Tryz.func112, Tryz.ntmps112
  go_wp2
  go_ret
  exact ⟨rfl, below_alloc1 _ _, new_cell _ _ _⟩
/-- slices.Clone of a slice of byte slices: a row of its own, the same byte slices. -/
theorem lclone_calls (v : Value) (n : Nat) (us : List Value) (w : World) (h : Row w v n us) (hl : us.length = n) (h1 : ∀ u ∈ us, u.oneCell' = true) (hn : n ≤ 100000000) :
    Calls Tryz.prog 110 #[v] w fun e w' => ∃ v2, e = .returned v2 ∧ w'.ownsRow w.heap.size 35 1 v2 n us ∧ Below w.heap.size w w' := by
  have HR := Lib.hid h
  obtain ⟨A, c, rfl, a1, a2, a3, -⟩ := h
  unfold maxLen at a2
  cases A with
  | none =>
    have hc := a3 rfl
    subst hc
    have hn0 : n = 0 := by omega
    subst hn0
    have hu : us = [] := List.eq_nil_of_length_eq_zero hl
    subst hu
    have kk := fun (w : World) => Lib.run_eql_slice_nil (P := Tryz.prog) w 22 35 Option.none 0 0 0 0 under_lists
    clear a1 a2 a3 hl hn
    go_enter Tryz.func110, Tryz.ntmps110
    go_wp2
    go_ret
    exact ⟨_, rfl, World.ownsRow_nil _ _ _ _, Below.refl _ _⟩
  | some ad =>
    have hb1 := below_alloc1 w (.cells #[] 35)
    have hr1 := HR.out.below hb1
    have HB := Lib.hid hb1
    have hz : (w.alloc (.cells #[] 35)).ownsRow w.heap.size 35 1 (.slice (some ⟨w.heap.size, 0, none⟩) 0 0) 0 [] := World.ownsRow_made w #[] 0 (Nat.le_refl _) (by unfold maxLen; omega) rfl
    clear hb1 a3
    have kk := fun (w : World) => Lib.run_eql_slice_nil (P := Tryz.prog) w 22 35 (some ad) n c 0 0 under_lists
    go_enter Tryz.func110, Tryz.ntmps110
    go_wp2_with (first
      | (at_builtin; refine wpList_app _ rfl _ _ 22 rfl w.heap.size 35 _ 1 24 under_lists info_bs rfl (by omega) (by omega) (.slice (some ⟨w.heap.size, 0, none⟩) 0 0) rfl 0 [] hz _ rfl n us hr1 (by omega) h1 ?_ ?_ ?_; (· omega); (· simp); intro v2 w2 ho2 hg2 hat2))
    go_ret
    rw [List.nil_append, Nat.zero_add] at ho2
    exact ⟨v2, rfl, ho2, ⟨hg2.os.trans HB.out.os, hg2.tape.trans HB.out.tape, hg2.output.trans HB.out.output, Nat.le_trans HB.out.size hg2.size, fun k hk => (hg2.block k (by have := HB.out.size; omega) (fun e => by have e2 : k = w.heap.size := Option.some.inj e; omega)).trans (HB.out.block k hk)⟩⟩
/-- A round is handed a leaf's number, and its bytes in new memory. -/
def HandJ (x : Nat × List UInt8) (args : Array Value) (W0 W1 : World) : Prop := ∃ v, args = #[.int .i64 (x.1 : Int), v] ∧ OwnB W1 W0.heap.size v x.2
theorem HandJ.steady : Steady HandJ :=
  ⟨fun x args W0 W1 W2 ⟨v, e, h⟩ hb => ⟨v, e, owns_below h hb⟩, fun x args W0 W1 l o o' ⟨v, e, h⟩ h0 h1 hc => ⟨v, e, by
    have hs : (W0.putObj l o').heap.size = W0.heap.size := by simp [World.putObj]
    rw [hs]
    refine mods_owns h fun k hk => World.putObj_heap_other (fun e2 => ?_)
    subst e2
    obtain ⟨ob, g1, g2⟩ := owns_isCells h hk
    rw [h1] at g1; cases g1
    rw [hc] at g2; cases g2⟩⟩
theorem zlenJ (ds : List (List UInt8)) : ((List.range ds.length).zip ds).length = ds.length := by simp
theorem zsplitJ (ds : List (List UInt8)) (k : Nat) (hk : k < ds.length) : (List.range ds.length).zip ds = ((List.range ds.length).zip ds).take k ++ (k, ds[k]) :: ((List.range ds.length).zip ds).drop (k + 1) ∧ ((List.range ds.length).zip ds).take (k + 1) = ((List.range ds.length).zip ds).take k ++ [(k, ds[k])] := by
  have hkz : k < ((List.range ds.length).zip ds).length := by rw [zlenJ]; exact hk
  have hget : ((List.range ds.length).zip ds)[k] = (k, ds[k]) := by simp
  exact ⟨by rw [← hget, List.getElem_cons_drop, List.take_append_drop], by rw [← hget, List.take_succ_eq_append_getElem hkz]⟩
theorem jnums {k n : Nat} (h : k < n) (hn : n ≤ 100000000) : wrap64 ((k : Int) + 1) = ((k + 1 : Nat) : Int) ∧ (0 : Int) ≤ (k : Int) ∧ (k : Int) < (n : Int) ∧ decide (k < n) = true ∧ decide ((k : Int) < (n : Int)) = true :=
  ⟨by unfold wrap64; omega, by omega, by omega, by rw [decide_eq_true_iff]; exact h, by rw [decide_eq_true_iff]; omega⟩
set_option maxHeartbeats 2000000 in
theorem jall_iter (n : Nat) (h8 : 8 ≤ n) (b : Nat) (j : JT) (pd g : Nat) (ls : List (List UInt8)) (B : Nat) (hn : ls.length ≤ 100000000) (hm : ∀ m ∈ ls, m.length ≤ 100000000000000) :
    IterR Fence.wide n Tryz.prog 167 #[.pointer (some ⟨b, 0, none⟩)] ((List.range ls.length).zip ls) HandJ (fun W => W.cell? ⟨b, 0, none⟩ = some (.pointer (some ⟨j.p, 0, none⟩)) ∧ j.At pd g ls W B) := by
  intro lp J Jx W hR hJR hJ0 hY
  obtain ⟨hb, hx⟩ := hR
  have hn1 : 1 ≤ n := by omega
  have KN := Lib.hid (jnone_calls j pd g ls W B hx)
  have c2 := hx.c2
  have h1 : ∀ u ∈ j.us, u.oneCell' = true := fun u hu => by
    obtain ⟨m, -, ho, -⟩ := hx.us hu
    obtain ⟨A, c, rfl, -, -, -⟩ := ho.form
    rfl
  have hul : j.us.length = ls.length := by have := hx.row.1; omega
  have KC := Lib.hid (lclone_calls j.vl ls.length j.us W (Row.of_owns hx.row) hul h1 hn)
  have HX := Lib.hid hx
  have HY := Lib.hid hY
  clear hx hY h1
  refine callsIn_of_wp Tryz.func167 rfl trivial ?_ rfl
  simp only [Tryz.ntmps167, List.size_toArray, List.length_cons, List.length_nil, Nat.reduceAdd, Nat.reduceSub, Array.replicate_succ, Array.replicate_zero, List.push_toArray, List.append_toArray, List.nil_append, List.cons_append]
  gi_wp2_with (first
    | (refine ⟨trivial, ?_⟩; gi_at_call 108; refine (callsIn_wide.2 KN.out).mono ?_; rintro e w1 ⟨rfl, rfl⟩)
    | (refine ⟨trivial, ?_⟩; gi_at_call 110; refine (callsIn_wide.2 KC.out).mono ?_; rintro e w2 ⟨v, rfl, hrow, hB2⟩; obtain ⟨Av, cv, rfl, -, -, -⟩ := owns_form hrow))
  have HO := Lib.hid hrow
  have HJ := Lib.hid (hJ0 w2 hB2)
  have HGE := Lib.hid (owns_ge HO.out)
  have HLO := Lib.hid (owns_lt HO.out)
  have HJR := Lib.hid hJR
  have HN := Lib.hid (And.intro hn hm)
  clear hrow hJ0 KC KN c2 hul hJR hn hm
  gi_loopw [13] (fun i wq => ∃ (k : Nat) (W0 : World), k ≤ ls.length ∧ i = .int .i64 (k : Int) ∧ J w2.heap.size (((List.range ls.length).zip ls).take k) W0 ∧ Below W0.heap.size W0 wq ∧ w2.heap.size ≤ wq.heap.size ∧ wq.ownsRow W.heap.size 35 1 (.slice Av ls.length cv) ls.length j.us) (fun i _ => ls.length - (intOf i).toNat)
  case atStart => exact ⟨0, w2, Nat.zero_le _, rfl, HJ.out, Below.refl _ _, Nat.le_refl _, HO.out⟩
  case round =>
    obtain ⟨k, W0, hk, rfl, hJ, hbw, hsz, hown⟩ := hrel
    have HO2 := Lib.hid hown
    by_cases hlt : k < ls.length
    · obtain ⟨hb0, hat⟩ := HJR.out _ _ _ hJ
      obtain ⟨u, hu, hbs⟩ := hat.parts.bs k hlt
      have hbs2 := hbs.below hbw
      obtain ⟨ad, hA, hcell⟩ := (Row.of_owns hown).at_ k hu
      subst hA
      obtain ⟨hx1, hx2⟩ := zsplitJ ls k hlt
      have HX2 := Lib.hid hx2
      have hY1 := fun v w3 (hb3 : Below wr.heap.size wr w3) (ho3 : OwnB w3 wr.heap.size v ls[k]) => HY.out _ _ (k, ls[k]) _ #[.int .i64 (k : Int), v] W0 w3 hx1 hJ (below_then hbw hb3) ⟨v, rfl, ho3.lower hbw.size⟩
      have HY1 := Lib.hid hY1
      have KB := Lib.hid (bclone_calls u ls[k] wr hbs2 (HN.out.2 _ (List.getElem_mem hlt)))
      obtain ⟨hwk, g1, g2, g3, g4⟩ := jnums hlt HN.out.1
      obtain ⟨Au, cu, rfl, -, -, -⟩ := hbs.form
      have HSZ := Lib.hid (And.intro hbw hsz)
      have HLT := Lib.hid hlt
      clear hx1 hx2 hJ hown hY1 hbs hbs2 hb0 hat hbw hsz hu
      generalize ls[k] = m at *
      clear hlt hk
      gi_wp2_with (first
        | (refine ⟨trivial, ?_⟩; gi_at_call 96; refine (callsIn_wide.2 KB.out).mono ?_; rintro e w3 ⟨v3, rfl, ho3, hB3⟩; obtain ⟨fn, tmps, assign, body, hy, hR⟩ := HY1.out v3 w3 hB3 ho3; have hs3 := hB3.size; have hB3k := hB3.block; clear ho3 hB3))
      refine hR.mono ?_
      rintro e W3 ⟨hS, hz3, (⟨rfl, hJ3⟩ | ⟨rfl, hJx3⟩)⟩
      · have hO5 := mods_owns HO2.out (w' := W3) fun q hq => by
          rw [hS q (HGE.out q hq) (HLO.out q hq)]
          exact hB3k q (Nat.lt_of_lt_of_le (HLO.out q hq) HSZ.out.2)
        have HO5 := Lib.hid hO5
        have HZ3 := Lib.hid (Nat.le_trans HSZ.out.2 (Nat.le_trans hs3 hz3))
        clear hO5 hS hy hR hcell hB3k hs3 hz3
        gi_wp2
        go_roundw
        case rel => exact ⟨k + 1, W3, HLT.out, by first | rw [hwk] | rfl, by rw [HX2.out]; exact hJ3, Below.refl _ _, HZ3.out, HO5.out⟩
        case measure => first | (rw [hwk]; exact down_next HLT.out) | exact down_next HLT.out
      · clear hS hy hR hcell
        gi_wp2
        refine bodyPost_ret (results_none rfl _ _ _) rfl ?_
        exact ⟨⟨_, rfl⟩, W3, _, Later.of_below _ (Below.refl _ _), .inr ⟨_, hJx3⟩⟩
    · have hkn : k = ls.length := by omega
      subst hkn
      rw [List.take_of_length_le (by rw [zlenJ]; exact Nat.le_refl _)] at hJ
      clear hown
      gi_wp2
      refine bodyPost_end (results_none rfl _ _ _) rfl ?_
      exact ⟨⟨_, rfl⟩, W0, _, Later.of_below _ hbw, .inl hJ⟩
end Go.Proofs.YtjllkmkngjdjjaaGreatDoor
namespace Go.Proofs.YtjllkmkngjdjjaaGreatDoor
open Go.RowKit
set_option maxRecDepth 100000
theorem store_digest_new (w : World) {d : List UInt8} (hd : d.length = 32) (z : Array Value) (hz : z.size = 32) :
    (Instr.storeAt 33 (.pointer (some ⟨w.heap.size, 0, none⟩)) (.agg (u8s d).toArray)).run Tryz.prog (w.alloc (.cells z 33)) = .ok () (w.alloc (.cells (u8s d).toArray 33)) := by
  have hs : (Tryz.prog.info? 33).map (·.size) = some 32 := by kernel_rfl
  refine run_storeAt_new w 33 z _ (by rw [hs]; simp [u8s_length, hd]) (by simp [u8s_length, hd, hz]) ?_
  rw [Array.all_eq_true]
  intro i hi
  exact u8s_one d _ (by simp)
theorem range_new (w : World) (d : List UInt8) : (w.alloc (.cells (u8s d).toArray 33)).rangeAt w.heap.size 0 (u8s d) := fun j u hu => by
  rw [Nat.zero_add, cell_of_row _ w.heap.size j _ _ (0, 0) (heap_alloc_new w _)]
  simpa using hu
end Go.Proofs.YtjllkmkngjdjjaaGreatDoor
