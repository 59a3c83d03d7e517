/- A LAW OF MY OWN: a region that draws its order: the operations that yield in whatever world are taken first, wherever they stand; what is left comes up one behind the other. No statement of the seed is proved here. A LAW OF MY OWN: a region that draws its order: what only reads memory that stays is taken first; what is left (operations that make memory, each with its known run) comes up in each order that its edges allow. No statement of the seed is proved here. A LAW OF MY OWN: a region that draws its order: reads and quiet calls first, in whatever order, then operations one behind the other (a store, an append, a call that makes memory). The kit's law of a still head ('wp_region_still_tail') and its law of a quiet region ('wp_region_quiet') in one. No statement of the seed is proved here. A LAW OF MY OWN: a region that draws its order: reads and quiet calls first, in whatever order; then operations one behind the other, then some that yield in whatever world, wherever they stand, and a row again. No statement of the seed is proved here. -/
import Derived.Test.YtjllkmkngjdjjaaGreatDoorUptoB
import Derived.OrdersHeld
import Derived.StillTailTactics
import Derived.Deep.QuietTactic
import Derived.BigQuiet
namespace Go.Proofs.YtjllkmkngjdjjaaGreatDoor
section
variable {P : Program} {md : Region.Mode} {ops : Array Oper} {Q : Exit → Act → World → Prop}
def opsL (l : List Oper) : List Nat → List Oper
  | [] => []
  | i :: r => l[i]?.toList ++ opsL l r
def seqL (md : Region.Mode) (ops : Array Oper) : List Nat → Array Bool → Bool
  | [], listed => (Region.ready md ops listed).isEmpty
  | i :: r, listed => (ops[i]?).isSome && decide (Region.ready md ops listed = [i]) && seqL md ops r (listed.setIfInBounds i true)
def takesB (md : Region.Mode) (ops : Array Oper) (tl : List Nat) : List Nat → Array Bool → Bool
  | [], listed => seqL md ops tl listed
  | i :: r, listed => (ops[i]?).isSome && (Region.ready md ops listed).contains i && Region.free md ops listed i && takesB md ops tl r (listed.setIfInBounds i true)
def wpTk (P : Program) (ops : Array Oper) (K : Act → Prop) : List Oper → Act → Prop
  | [], a => K a
  | o :: r, a => ∃ v, YieldsIf P ops (fun _ => True) o v a ∧ wpTk P ops K r (a.put o.dst v)
theorem held_of_any : ∀ (f : Nat) (listed : Array Bool) (a : Act) (w : World), wpAny P md ops Q f listed a w → wpAnyH P md ops Q (fun _ => True) f listed a w
  | 0, _, _, _, h => h
  | f + 1, _, _, _, h => ⟨h.1, fun i hi => wpOp_mono (fun a' w' h' => ⟨trivial, held_of_any f _ a' w' h'⟩) (h.2 i hi)⟩
theorem any_of_seqL (l : List Oper) (ho : ops = l.toArray) : ∀ (tl : List Nat) (listed : Array Bool) (a : Act) (w : World), seqL md ops tl listed = true → wpList P ops Q (opsL l tl) a w → wpAny P md ops Q tl.length listed a w
  | [], _, _, _, hB, h => ⟨by simpa [seqL] using hB, h⟩
  | i :: r, listed, a, w, hB, h => by
    simp only [seqL, Bool.and_eq_true, decide_eq_true_eq] at hB
    obtain ⟨⟨h1, h2⟩, h3⟩ := hB
    obtain ⟨o, h0⟩ := Option.isSome_iff_exists.1 h1
    have hl : l[i]? = some o := by rw [ho] at h0; simpa using h0
    simp only [opsL, hl, Option.toList_some, List.singleton_append] at h
    refine ⟨fun h4 => (by rw [h2] at h4; cases h4), fun j hj => ?_⟩
    rw [h2] at hj
    have hji : j = i := by simpa using hj
    subst hji
    have hw : wpOp P ops Q j (wpList P ops Q (opsL l r)) a w := by unfold wpOp; simp only [h0]; exact h
    exact wpOp_mono (fun a' w' h' => any_of_seqL l ho r _ a' w' h3 h') hw
theorem held_of_takes (l : List Oper) (ho : ops = l.toArray) (hsel : Region.noSelect ops = true) (hQ : ∀ c a a' w, Q (.panic c) a w → Q (.panic c) a' w) (tl : List Nat) : ∀ (tk : List Nat) (listed : Array Bool) (a : Act) (w : World),
    takesB md ops tl tk listed = true → wpTk P ops (fun a' => wpList P ops Q (opsL l tl) a' w) (opsL l tk) a → wpAnyH P md ops Q (fun _ => True) (tk.length + tl.length) listed a w
  | [], listed, a, w, hB, h => by
    rw [List.length_nil, Nat.zero_add]
    exact held_of_any _ _ _ _ (any_of_seqL l ho tl listed a w (by simpa [takesB] using hB) h)
  | i :: r, listed, a, w, hB, h => by
    simp only [takesB, Bool.and_eq_true] at hB
    obtain ⟨⟨⟨h1, h2⟩, h3⟩, h4⟩ := hB
    obtain ⟨o, h0⟩ := Option.isSome_iff_exists.1 h1
    have hl : l[i]? = some o := by rw [ho] at h0; simpa using h0
    simp only [opsL, hl, Option.toList_some, List.singleton_append] at h
    obtain ⟨v, hy, hK⟩ := h
    rw [List.length_cons, show r.length + 1 + tl.length = (r.length + tl.length) + 1 by omega]
    exact wpAnyH_take h0 hsel h3 h2 (fun c a w => hQ c _ _ w) hy trivial (held_of_takes l ho hsel hQ tl r _ _ w h4 hK)
/-- **THE LAW.** 'tk': the numbers of those that are taken first; 'tl': of the others, as they come up. -/
theorem wp_region_takes {id : Nat} {a : Act} {w : World} {l : List Oper} (tk tl : List Nat) (hm : P.follows .mixedOrders = true) (hsel : Region.noSelect l.toArray = true) (hB : takesB .any l.toArray tl tk (Array.replicate l.toArray.size false) = true)
    (hlen : tk.length + tl.length = l.toArray.size) (hQ : ∀ c a a' w, Q (.panic c) a w → Q (.panic c) a' w)
    (h : wpTk P l.toArray (fun a' => wpList P l.toArray Q (opsL l tl) a' w.drew) (opsL l tk) a) : (Code.region id l.toArray true).wp P Q a w := by
  refine wp_region_held (S := fun _ => True) hm ?_
  rw [← hlen]
  have := held_of_takes (md := .any) (Q := Q) l rfl hsel hQ tl tk (Array.replicate l.toArray.size false) a w.drew hB h
  rw [hlen] at this ⊢
  exact this
end
end Go.Proofs.YtjllkmkngjdjjaaGreatDoor
namespace Go.Proofs.YtjllkmkngjdjjaaGreatDoor
section
variable {P : Program} {md : Region.Mode} {ops : Array Oper} {Q : Exit → Act → World → Prop} {S : World → Prop}
def takeB (md : Region.Mode) (ops : Array Oper) : List Nat → Array Bool → Bool
  | [], _ => true
  | i :: r, listed => (ops[i]?).isSome && (Region.ready md ops listed).contains i && Region.free md ops listed i && takeB md ops r (listed.setIfInBounds i true)
def wpTkS (P : Program) (ops : Array Oper) (S : World → Prop) (K : Act → Prop) : List Oper → Act → Prop
  | [], a => K a
  | o :: r, a => ∃ v, YieldsIf P ops S o v a ∧ wpTkS P ops S K r (a.put o.dst v)
def wpTreeS (P : Program) (md : Region.Mode) (ops : Array Oper) (Q : Exit → Act → World → Prop) (S : World → Prop) : Nat → Array Bool → Act → World → Prop
  | 0, listed, a, w => Region.ready md ops listed = [] ∧ Q .normal a w
  | f + 1, listed, a, w => Region.ready md ops listed ≠ [] ∧ ∀ i ∈ Region.ready md ops listed, ∃ o v w', ops[i]? = some o ∧ o.guard = none ∧ (execOp a.eval o).run P w = .ok (.value v) w' ∧ S w' ∧ wpTreeS P md ops Q S f (listed.setIfInBounds i true) (a.put o.dst v) w'
theorem held_of_tree : ∀ (f : Nat) (listed : Array Bool) (a : Act) (w : World), wpTreeS P md ops Q S f listed a w → wpAnyH P md ops Q S f listed a w
  | 0, _, _, _, h => h
  | f + 1, listed, a, w, h => ⟨fun h0 => absurd h0 h.1, fun i hi => by
    obtain ⟨o, v, w', h1, h2, h3, h4, h5⟩ := h.2 i hi
    unfold wpOp
    simp only [h1]
    have hw : Region.wanted o (yielded ops a.tmps) = true := by simp [Region.wanted, h2]
    simp only [hw, if_true, Oper.wp, h3, Oper.upon]
    exact .inl ⟨h4, held_of_tree f _ _ _ h5⟩⟩
theorem held_of_takesS (l : List Oper) (ho : ops = l.toArray) (hsel : Region.noSelect ops = true) (hQ : ∀ c a a' w, Q (.panic c) a w → Q (.panic c) a' w) (w : World) (hS : S w) (n : Nat) : ∀ (tk : List Nat) (listed : Array Bool) (a : Act),
    takeB md ops tk listed = true → wpTkS P ops S (fun a' => wpTreeS P md ops Q S n (tk.foldl (fun l i => l.setIfInBounds i true) listed) a' w) (opsL l tk) a → wpAnyH P md ops Q S (tk.length + n) listed a w
  | [], listed, a, _, h => by
    rw [List.length_nil, Nat.zero_add]
    exact held_of_tree _ _ _ _ h
  | i :: r, listed, a, hB, h => by
    simp only [takeB, Bool.and_eq_true] at hB
    obtain ⟨⟨⟨h1, h2⟩, h3⟩, h4⟩ := hB
    obtain ⟨o, h0⟩ := Option.isSome_iff_exists.1 h1
    have hl : l[i]? = some o := by rw [ho] at h0; simpa using h0
    simp only [opsL, hl, Option.toList_some, List.singleton_append] at h
    obtain ⟨v, hy, hK⟩ := h
    rw [List.length_cons, show r.length + 1 + n = (r.length + n) + 1 by omega]
    exact wpAnyH_take h0 hsel h3 h2 (fun c a w => hQ c _ _ w) hy hS (held_of_takesS l ho hsel hQ w hS n r _ _ h4 hK)
/-- **THE LAW.** 'tk': what is taken first; 'S': what each of the others leaves. -/
theorem wp_region_tree {id : Nat} {a : Act} {w : World} {l : List Oper} (S : World → Prop) (tk : List Nat) (n : Nat) (hm : P.follows .mixedOrders = true) (hsel : Region.noSelect l.toArray = true) (hB : takeB .any l.toArray tk (Array.replicate l.toArray.size false) = true)
    (hlen : tk.length + n = l.toArray.size) (hQ : ∀ c a a' w, Q (.panic c) a w → Q (.panic c) a' w) (hS : S w.drew)
    (h : wpTkS P l.toArray S (fun a' => wpTreeS P .any l.toArray Q S n (tk.foldl (fun l i => l.setIfInBounds i true) (Array.replicate l.toArray.size false)) a' w.drew) (opsL l tk) a) : (Code.region id l.toArray true).wp P Q a w := by
  refine wp_region_held (S := S) hm ?_
  have := held_of_takesS (md := .any) (Q := Q) l rfl hsel hQ w.drew hS n tk (Array.replicate l.toArray.size false) a hB h
  rw [hlen] at this
  exact this
theorem tree_one {f i : Nat} {listed : Array Bool} {a : Act} {w : World} (hr : Region.ready md ops listed = [i]) (hi : ∃ o v w', ops[i]? = some o ∧ o.guard = none ∧ (execOp a.eval o).run P w = .ok (.value v) w' ∧ S w' ∧ wpTreeS P md ops Q S f (listed.setIfInBounds i true) (a.put o.dst v) w') :
    wpTreeS P md ops Q S (f + 1) listed a w := ⟨by rw [hr]; simp, fun j hj => by
      rw [hr] at hj
      have : j = i := by simpa using hj
      subst this
      exact hi⟩
theorem tree_two {f i k : Nat} {listed : Array Bool} {a : Act} {w : World} (hr : Region.ready md ops listed = [i, k])
    (hi : ∃ o v w', ops[i]? = some o ∧ o.guard = none ∧ (execOp a.eval o).run P w = .ok (.value v) w' ∧ S w' ∧ wpTreeS P md ops Q S f (listed.setIfInBounds i true) (a.put o.dst v) w')
    (hk : ∃ o v w', ops[k]? = some o ∧ o.guard = none ∧ (execOp a.eval o).run P w = .ok (.value v) w' ∧ S w' ∧ wpTreeS P md ops Q S f (listed.setIfInBounds k true) (a.put o.dst v) w') :
    wpTreeS P md ops Q S (f + 1) listed a w := ⟨by rw [hr]; simp, fun j hj => by
      rw [hr] at hj
      have : j = i ∨ j = k := by simpa using hj
      rcases this with rfl | rfl
      · exact hi
      · exact hk⟩
theorem takesS_run {K : Act → Prop} {o : Oper} {rest : List Oper} {a : Act} (hgd : o.guard = none) (v : Value) (hr : ∀ w, S w → (execOp a.eval o).run P w = .ok (.value v) w) (h : wpTkS P ops S K rest (a.put o.dst v)) : wpTkS P ops S K (o :: rest) a :=
  ⟨v, .inl ⟨by simp [Region.wanted, hgd], hr⟩, h⟩
end
end Go.Proofs.YtjllkmkngjdjjaaGreatDoor
namespace Go.Proofs.YtjllkmkngjdjjaaGreatDoor
section
variable {P : Program} {md : Region.Mode} {ops : Array Oper} {C : World → Prop}
def wpAnyQL (P : Program) (md : Region.Mode) (ops : Array Oper) (C : World → Prop) (n : Nat) (L : Array Bool → Act → Prop) : Nat → Array Bool → Act → Prop
  | 0, listed, a => L listed a
  | f + 1, listed, a =>
    Region.ready md ops listed ≠ [] ∧ ∀ i ∈ Region.ready md ops listed, i < n ∧ qOp P ops C i (wpAnyQL P md ops C n L f (listed.setIfInBounds i true)) a
theorem wpAny_of_qhead {n g : Nat} {L : Array Bool → Act → Prop} {Q' : Exit → Act → World → Prop} (hL : ∀ listed a w, C w → L listed a → wpAny P md ops Q' g listed a w) :
    ∀ (f : Nat) (listed : Array Bool) (a : Act) (w : World), C w → wpAnyQL P md ops C n L f listed a → wpAny P md ops Q' (f + g) listed a w
  | 0, listed, a, w, hw, h => by rw [Nat.zero_add]; exact hL _ _ _ hw h
  | f + 1, listed, a, w, hw, h => by
    rw [show f + 1 + g = (f + g) + 1 by omega]
    exact ⟨fun h0 => absurd h0 h.1, fun i hi => wpOp_of_qOp hw (fun a' w' hw' h' => wpAny_of_qhead hL f _ a' w' hw' h') (h.2 i hi).2⟩
theorem wpAnyQL_first {n i : Nat} {oi : Oper} {v : Value} {L : Array Bool → Act → Prop} (hi : ops[i]? = some oi) (hsel : ∀ (j : Nat) (o : Oper) cs b, ops[j]? = some o → o.op ≠ .select cs b)
    (hs : Region.sinkB md ops n = true) (hc : Region.chainB md ops n = true) (hn : n < ops.size) (hin : i < n)
    (hdone : ∀ listed a, L listed a → ∀ j ∈ Region.ready md ops listed, n ≤ j) :
    ∀ (f : Nat) (listed : Array Bool) (a : Act), HeadInv md ops n listed →
      (∀ j oj, ops[j]? = some oj → j ≠ i → listed.getD j true = false → (∀ e ∈ oj.after, Region.binds md e = true → e.on ≠ i) → oi.apart ops oj = true) →
      i ∈ Region.ready md ops listed → YieldsIn P ops C oi v a →
      wpAnyQL P md ops C n L f (listed.setIfInBounds i true) (a.put oi.dst v) → wpAnyQL P md ops C n L (f + 1) listed a := by
  intro f
  induction f with
  | zero =>
    intro listed a inv _ hr hy H
    have hun := (mem_ready.1 hr).1
    refine ⟨fun h => (by rw [h] at hr; cases hr), fun j hj => ?_⟩
    have hjn : j < n := by
      rcases Nat.lt_or_ge j n with h | h
      · exact h
      · exact absurd hj (tail_waits hs hc hn inv _ i rfl hin hun j h)
    refine ⟨hjn, ?_⟩
    by_cases hji : j = i
    · subst hji; exact hy.qOp hi H
    · have := hdone _ _ H j (ready_mono hj hji)
      omega
  | succ f ih =>
    intro listed a inv hfree hr hy H
    have hun := (mem_ready.1 hr).1
    refine ⟨fun h => (by rw [h] at hr; cases hr), fun j hj => ?_⟩
    have hjn : j < n := by
      rcases Nat.lt_or_ge j n with h | h
      · exact h
      · exact absurd hj (tail_waits hs hc hn inv _ i rfl hin hun j h)
    refine ⟨hjn, ?_⟩
    by_cases hji : j = i
    · subst hji; exact hy.qOp hi H
    · have h1 := (H.2 j (ready_mono hj hji)).2
      obtain ⟨hjun, oj, hoj, hall⟩ := mem_ready.1 hj
      have hnot : ∀ e ∈ oj.after, Region.binds md e = true → e.on ≠ i := fun e he hb heq => by
        have h1 := hall e he hb
        rw [heq, getD_both hun] at h1
        cases h1
      have h2 := qOp_put hoj (hfree j oj hoj hji hjun hnot) (fun cs b => hsel i oi cs b hi) (fun cs b => hsel j oj cs b hoj) hy h1
      have hfree' : ∀ k ok, ops[k]? = some ok → k ≠ i → (listed.setIfInBounds j true).getD k true = false →
          (∀ e ∈ ok.after, Region.binds md e = true → e.on ≠ i) → oi.apart ops ok = true := fun k ok hk hki hun hno => by
        refine hfree k ok hk hki ?_ hno
        by_cases hjk : j = k
        · subst hjk; exact hjun
        · rw [getD_set_ne true hjk] at hun; exact hun
      refine qOp_mono (fun a' h3 => ih (listed.setIfInBounds j true) a' (inv.set hj hjn) hfree' (ready_mono hr (Ne.symm hji)) h3.1 ?_) h2
      rw [Array.setIfInBounds_comm _ _ hji]
      exact h3.2
theorem wpAnyQL_lex {n g : Nat} {Lq : Act → Prop} (hsel : Region.noSelect ops = true) (hs : Region.sinkB md ops n = true) (hc : Region.chainB md ops n = true) (hn : n < ops.size) :
    ∀ (l : List Oper) (k : Nat) (listed : Array Bool) (a : Act), (∀ j, j < l.length → l[j]? = ops[k + j]?) → k + l.length = n → HeadInv md ops n listed →
    Region.lexHead md ops g l.length k listed = true → wpQuiet P ops C Lq l a →
    wpAnyQL P md ops C n (fun listed' a' => Region.seqB md ops g n listed' = true ∧ Lq a') l.length listed a
  | [], k, listed, a, _, hk, _, hB, h => by
    have : k = n := by simpa using hk
    subst this
    exact ⟨by simpa [Region.lexHead] using hB, h⟩
  | o :: l, k, listed, a, hl, hk, inv, hB, h => by
    have h0 : ops[k]? = some o := by simpa using (hl 0 (by simp)).symm
    simp only [List.length_cons, Region.lexHead, Bool.and_eq_true] at hB
    obtain ⟨⟨hr, hf⟩, hB'⟩ := hB
    have hkn : k < n := by simp only [List.length_cons] at hk; omega
    have hr' : k ∈ Region.ready md ops listed := by simpa using hr
    have hst : qOp P ops C k (wpQuiet P ops C Lq l) a := by unfold qOp; simp only [h0]; exact h
    obtain ⟨v, hy, hK⟩ := yieldsIn_of_qOp h0 hst
    exact wpAnyQL_first h0 (Region.noSelect_spec hsel) hs hc hn hkn (fun listed' a' hL => seqB_ready hL.1) l.length listed a inv (Region.free_spec h0 hf) hr' hy
      (wpAnyQL_lex hsel hs hc hn l (k + 1) _ _ (fun j hj => by have := hl (j + 1) (by simp; omega); simpa [Nat.add_assoc, Nat.add_comm 1 j] using this) (by simp only [List.length_cons] at hk; omega) (inv.set hr' hkn) hB' hK)
/-- **THE LAW.** 'n': how many operations the head has. -/
theorem wp_region_quiet_tail {id : Nat} {Q : Exit → Act → World → Prop} {a : Act} {w : World} {l : List Oper} (n : Nat) (hm : P.follows .mixedOrders = true) (hB : Region.lexTailB .any l.toArray n = true)
    (h : wpQuiet P l.toArray (fun w' => ∃ n, w' = w.drewN n) (fun a' => ∀ w', (∃ n, w' = w.drewN n) → wpList P l.toArray Q (l.drop n) a' w') (l.take n) a) : (Code.region id l.toArray true).wp P Q a w := by
  simp only [Region.lexTailB, Bool.and_eq_true, decide_eq_true_eq] at hB
  obtain ⟨⟨⟨⟨hsel, hn⟩, hs⟩, hc⟩, hlex⟩ := hB
  have hn' : n < l.length := by simpa using hn
  have htl : (l.take n).length = n := by simp; omega
  have hdl : (l.drop n).length = l.toArray.size - n := by simp
  have inv0 : HeadInv .any l.toArray n (Array.replicate l.toArray.size false) :=
    ⟨by simp, fun j oj _ hl => (by rw [getD_replicate_false] at hl; cases hl), fun t _ ht => getD_in (by simpa using ht) (getD_replicate_false _ _)⟩
  have H := wpAnyQL_lex (md := .any) (g := l.toArray.size - n) hsel hs hc hn (l.take n) 0 _ a (fun j hj => by
    have hj' : j < n := by rw [htl] at hj; exact hj
    simp [hj']) (by simpa using htl) inv0 (by rw [htl]; exact hlex) h
  refine wp_region_any hm ?_
  have := wpAny_of_qhead (Q' := Q) (g := l.toArray.size - n) (fun listed a' w' hw' hL => by
    have := wpAny_of_seq (md := .any) (Q' := Q) (l.drop n) n listed a' w' (fun j => by simp [List.getElem?_drop]) (by rw [hdl]; exact hL.1) (hL.2 w' hw')
    rwa [hdl] at this) _ _ _ { w with drawn := w.drawn + 1 } ⟨1, rfl⟩ H
  rw [htl, show n + (l.toArray.size - n) = l.toArray.size by omega] at this
  exact this
end
end Go.Proofs.YtjllkmkngjdjjaaGreatDoor
namespace Go.Proofs.YtjllkmkngjdjjaaGreatDoor
section
variable {P : Program} {md : Region.Mode} {ops : Array Oper} {C : World → Prop}
def chainR (md : Region.Mode) (ops : Array Oper) (n : Nat) : Bool :=
  (List.range ops.size).all fun t => decide (t ≤ n) || (List.range t).any fun j => decide (n ≤ j) && Region.waitsFor md ops t j
theorem tail_waitsR {n : Nat} {listed : Array Bool} (hs : Region.sinkB md ops n = true) (hc : chainR md ops n = true) (hn : n < ops.size) (inv : HeadInv md ops n listed) :
    ∀ (d i : Nat), n - i = d → i < n → listed.getD i true = false → ∀ t, n ≤ t → t ∉ Region.ready md ops listed := by
  intro d
  induction d using Nat.strongRecOn with
  | _ d ih =>
    intro i hd hi hun t ht hr
    obtain ⟨_, ot, hot, hall⟩ := mem_ready.1 hr
    have htlt : t < ops.size := (Array.getElem?_eq_some_iff.1 hot).1
    by_cases htn : t = n
    · subst htn
      have h1 := List.all_eq_true.1 hs i (List.mem_range.2 hi)
      obtain ⟨j, hj, hj2⟩ := List.any_eq_true.1 h1
      simp only [Bool.and_eq_true, decide_eq_true_eq] at hj2
      obtain ⟨oj, hoj, e, he, hb, hon⟩ := Region.waitsFor_spec hj2.2
      have hjle : j ≤ t := by have := List.mem_range.1 hj; omega
      by_cases hjt : j = t
      · subst hjt
        have : oj = ot := Option.some.inj (hoj.symm.trans hot)
        subst this
        have h2 := hall e he hb
        rw [hon, getD_both hun] at h2
        cases h2
      · cases hl : listed.getD j false with
        | true =>
          have h2 := inv.closed j oj hoj hl e he hb
          rw [hon, getD_both hun] at h2
          cases h2
        | false =>
          have hjs : j < listed.size := by rw [inv.size]; omega
          exact ih (t - j) (by omega) j rfl (by omega) (getD_in hjs hl) t (Nat.le_refl _) hr
    · have h1 := List.all_eq_true.1 hc t (List.mem_range.2 htlt)
      simp only [Bool.or_eq_true, decide_eq_true_eq] at h1
      rcases h1 with h1 | h1
      · omega
      · obtain ⟨j, hj, hj2⟩ := List.any_eq_true.1 h1
        simp only [Bool.and_eq_true, decide_eq_true_eq] at hj2
        have hjt := List.mem_range.1 hj
        obtain ⟨o', ho', e, he, hb, hon⟩ := Region.waitsFor_spec hj2.2
        have : o' = ot := Option.some.inj (ho'.symm.trans hot)
        subst this
        have h2 := hall e he hb
        rw [hon, getD_both (inv.tail j hj2.1 (by omega))] at h2
        cases h2
theorem wpAnyQL_firstR {n i : Nat} {oi : Oper} {v : Value} {L : Array Bool → Act → Prop} (hi : ops[i]? = some oi) (hsel : ∀ (j : Nat) (o : Oper) cs b, ops[j]? = some o → o.op ≠ .select cs b)
    (hs : Region.sinkB md ops n = true) (hc : chainR md ops n = true) (hn : n < ops.size) (hin : i < n)
    (hdone : ∀ listed a, L listed a → ∀ j ∈ Region.ready md ops listed, n ≤ j) :
    ∀ (f : Nat) (listed : Array Bool) (a : Act), HeadInv md ops n listed →
      (∀ j oj, ops[j]? = some oj → j ≠ i → listed.getD j true = false → (∀ e ∈ oj.after, Region.binds md e = true → e.on ≠ i) → oi.apart ops oj = true) →
      i ∈ Region.ready md ops listed → YieldsIn P ops C oi v a →
      wpAnyQL P md ops C n L f (listed.setIfInBounds i true) (a.put oi.dst v) → wpAnyQL P md ops C n L (f + 1) listed a := by
  intro f
  induction f with
  | zero =>
    intro listed a inv _ hr hy H
    have hun := (mem_ready.1 hr).1
    refine ⟨fun h => (by rw [h] at hr; cases hr), fun j hj => ?_⟩
    have hjn : j < n := by
      rcases Nat.lt_or_ge j n with h | h
      · exact h
      · exact absurd hj (tail_waitsR hs hc hn inv _ i rfl hin hun j h)
    refine ⟨hjn, ?_⟩
    by_cases hji : j = i
    · subst hji; exact hy.qOp hi H
    · have := hdone _ _ H j (ready_mono hj hji)
      omega
  | succ f ih =>
    intro listed a inv hfree hr hy H
    have hun := (mem_ready.1 hr).1
    refine ⟨fun h => (by rw [h] at hr; cases hr), fun j hj => ?_⟩
    have hjn : j < n := by
      rcases Nat.lt_or_ge j n with h | h
      · exact h
      · exact absurd hj (tail_waitsR hs hc hn inv _ i rfl hin hun j h)
    refine ⟨hjn, ?_⟩
    by_cases hji : j = i
    · subst hji; exact hy.qOp hi H
    · have h1 := (H.2 j (ready_mono hj hji)).2
      obtain ⟨hjun, oj, hoj, hall⟩ := mem_ready.1 hj
      have hnot : ∀ e ∈ oj.after, Region.binds md e = true → e.on ≠ i := fun e he hb heq => by
        have h1 := hall e he hb
        rw [heq, getD_both hun] at h1
        cases h1
      have h2 := qOp_put hoj (hfree j oj hoj hji hjun hnot) (fun cs b => hsel i oi cs b hi) (fun cs b => hsel j oj cs b hoj) hy h1
      have hfree' : ∀ k ok, ops[k]? = some ok → k ≠ i → (listed.setIfInBounds j true).getD k true = false →
          (∀ e ∈ ok.after, Region.binds md e = true → e.on ≠ i) → oi.apart ops ok = true := fun k ok hk hki hun hno => by
        refine hfree k ok hk hki ?_ hno
        by_cases hjk : j = k
        · subst hjk; exact hjun
        · rw [getD_set_ne true hjk] at hun; exact hun
      refine qOp_mono (fun a' h3 => ih (listed.setIfInBounds j true) a' (inv.set hj hjn) hfree' (ready_mono hr (Ne.symm hji)) h3.1 ?_) h2
      rw [Array.setIfInBounds_comm _ _ hji]
      exact h3.2
def headE (md : Region.Mode) (ops : Array Oper) (E : Array Bool → Bool) : Nat → Nat → Array Bool → Bool
  | 0, _, listed => E listed
  | f + 1, k, listed => (Region.ready md ops listed).contains k && Region.free md ops listed k && headE md ops E f (k + 1) (listed.setIfInBounds k true)
theorem wpAnyQL_lexR {n : Nat} {E : Array Bool → Bool} (hE : ∀ listed, E listed = true → ∀ j ∈ Region.ready md ops listed, n ≤ j) {Lq : Act → Prop} (hsel : Region.noSelect ops = true) (hs : Region.sinkB md ops n = true) (hc : chainR md ops n = true) (hn : n < ops.size) :
    ∀ (l : List Oper) (k : Nat) (listed : Array Bool) (a : Act), (∀ j, j < l.length → l[j]? = ops[k + j]?) → k + l.length = n → HeadInv md ops n listed →
    headE md ops E l.length k listed = true → wpQuiet P ops C Lq l a →
    wpAnyQL P md ops C n (fun listed' a' => E listed' = true ∧ Lq a') l.length listed a
  | [], k, listed, a, _, hk, _, hB, h => by
    have : k = n := by simpa using hk
    subst this
    exact ⟨by simpa [headE] using hB, h⟩
  | o :: l, k, listed, a, hl, hk, inv, hB, h => by
    have h0 : ops[k]? = some o := by simpa using (hl 0 (by simp)).symm
    simp only [List.length_cons, headE, Bool.and_eq_true] at hB
    obtain ⟨⟨hr, hf⟩, hB'⟩ := hB
    have hkn : k < n := by simp only [List.length_cons] at hk; omega
    have hr' : k ∈ Region.ready md ops listed := by simpa using hr
    have hst : qOp P ops C k (wpQuiet P ops C Lq l) a := by unfold qOp; simp only [h0]; exact h
    obtain ⟨v, hy, hK⟩ := yieldsIn_of_qOp h0 hst
    exact wpAnyQL_firstR h0 (Region.noSelect_spec hsel) hs hc hn hkn (fun listed' a' hL => hE _ hL.1) l.length listed a inv (Region.free_spec h0 hf) hr' hy
      (wpAnyQL_lexR hE hsel hs hc hn l (k + 1) _ _ (fun j hj => by have := hl (j + 1) (by simp; omega); simpa [Nat.add_assoc, Nat.add_comm 1 j] using this) (by simp only [List.length_cons] at hk; omega) (inv.set hr' hkn) hB' hK)
def seqE (md : Region.Mode) (ops : Array Oper) (E : Array Bool → Bool) : List Nat → Array Bool → Bool
  | [], listed => E listed
  | i :: r, listed => (ops[i]?).isSome && decide (Region.ready md ops listed = [i]) && seqE md ops E r (listed.setIfInBounds i true)
def NormK (Q : Exit → Act → World → Prop) (K : Act → World → Prop) : Exit → Act → World → Prop
  | .normal, a, w => K a w
  | e, a, w => Q e a w
variable {Q : Exit → Act → World → Prop}
theorem any_of_held : ∀ (f : Nat) (listed : Array Bool) (a : Act) (w : World), wpAnyH P md ops Q (fun _ => True) f listed a w → wpAny P md ops Q f listed a w
  | 0, _, _, _, h => h
  | f + 1, _, _, _, h => ⟨h.1, fun i hi => wpOp_mono (fun a' w' h' => any_of_held f _ a' w' h'.2) (h.2 i hi)⟩
theorem wpOp_of_list {rest : List Oper} {K K' : Act → World → Prop} {i : Nat} {o : Oper} {a : Act} {w : World} (h0 : ops[i]? = some o) (hK : ∀ a' w', wpList P ops (NormK Q K) rest a' w' → K' a' w') (h : wpList P ops (NormK Q K) (o :: rest) a w) : wpOp P ops Q i K' a w := by
  unfold wpOp
  simp only [h0]
  unfold wpList at h
  split at h
  · rename_i hw
    simp only [hw, if_true]
    rcases h with h | h
    · refine .inl (Oper.wp_mono hK ?_)
      unfold Oper.wp at *
      generalize (execOp a.eval o).run P w = r at *
      cases r with
      | ok n w' =>
        cases n <;> simp only [Oper.upon] at h ⊢ <;>
          first
            | exact h
            | exact Calls.mono h (fun e w'' he => by cases e <;> exact he)
            | exact Rows.mono h (fun _ _ he => he)
      | halt x w' => cases x <;> simp only [Oper.upon] at h ⊢ <;> exact h
    · exact .inr ⟨h.1, h.2⟩
  · rename_i hw
    rw [if_neg hw]
    exact hK _ _ h
theorem any_of_mix (l : List Oper) (ho : ops = l.toArray) (hsel : Region.noSelect ops = true) (hQ : ∀ c a a' w, Q (.panic c) a w → Q (.panic c) a' w) (tk tl : List Nat) : ∀ (t1 : List Nat) (listed : Array Bool) (a : Act) (w : World),
    seqE md ops (takesB md ops tl tk) t1 listed = true → wpList P ops (NormK Q (fun a w => wpTk P ops (fun a' => wpList P ops Q (opsL l tl) a' w) (opsL l tk) a)) (opsL l t1) a w → wpAny P md ops Q (t1.length + (tk.length + tl.length)) listed a w
  | [], listed, a, w, hB, h => by
    rw [List.length_nil, Nat.zero_add]
    exact any_of_held _ _ _ _ (held_of_takes l ho hsel hQ tl tk listed a w (by simpa [seqE] using hB) h)
  | i :: r, listed, a, w, hB, h => by
    simp only [seqE, Bool.and_eq_true, decide_eq_true_eq] at hB
    obtain ⟨⟨h1, h2⟩, h3⟩ := hB
    obtain ⟨o, h0⟩ := Option.isSome_iff_exists.1 h1
    have hl : l[i]? = some o := by rw [ho] at h0; simpa using h0
    simp only [opsL, hl, Option.toList_some, List.singleton_append] at h
    rw [List.length_cons, show r.length + 1 + (tk.length + tl.length) = (r.length + (tk.length + tl.length)) + 1 by omega]
    refine ⟨fun h4 => (by rw [h2] at h4; cases h4), fun j hj => ?_⟩
    rw [h2] at hj
    have hji : j = i := by simpa using hj
    subst hji
    exact wpOp_of_list h0 (fun a' w' h' => any_of_mix l ho hsel hQ tk tl r _ a' w' h3 h') h
/-- **THE LAW.** 'n': the quiet operations ahead; 't1': the row behind them; 'tk': those that are taken; 'tl': the last row. -/
theorem wp_region_quiet_mix {id : Nat} {a : Act} {w : World} {l : List Oper} (n : Nat) (t1 tk tl : List Nat) (hm : P.follows .mixedOrders = true)
    (hB : (Region.noSelect l.toArray && decide (n < l.toArray.size) && Region.sinkB .any l.toArray n && chainR .any l.toArray n && (t1.head?.any (n ≤ ·)) && headE .any l.toArray (seqE .any l.toArray (takesB .any l.toArray tl tk) t1) n 0 (Array.replicate l.toArray.size false) && decide (n + (t1.length + (tk.length + tl.length)) = l.toArray.size)) = true)
    (hQ : ∀ c a a' w, Q (.panic c) a w → Q (.panic c) a' w) (hC : C w.drew)
    (h : wpQuiet P l.toArray C (fun a' => ∀ w', C w' → wpList P l.toArray (NormK Q (fun a w => wpTk P l.toArray (fun a' => wpList P l.toArray Q (opsL l tl) a' w) (opsL l tk) a)) (opsL l t1) a' w') (l.take n) a) : (Code.region id l.toArray true).wp P Q a w := by
  simp only [Bool.and_eq_true, decide_eq_true_eq] at hB
  obtain ⟨⟨⟨⟨⟨⟨hsel, hn⟩, hs⟩, hc⟩, hne⟩, hlex⟩, hlen⟩ := hB
  have hn' : n < l.length := by simpa using hn
  have htl : (l.take n).length = n := by simp; omega
  obtain ⟨i0, r0, rfl, hi0⟩ : ∃ i r, t1 = i :: r ∧ n ≤ i := by
    cases t1 with
    | nil => simp at hne
    | cons i r => exact ⟨i, r, rfl, by simpa using hne⟩
  have inv0 : HeadInv .any l.toArray n (Array.replicate l.toArray.size false) :=
    ⟨by simp, fun j oj _ hl => (by rw [getD_replicate_false] at hl; cases hl), fun t _ ht => getD_in (by simpa using ht) (getD_replicate_false _ _)⟩
  have H := wpAnyQL_lexR (md := .any) (E := seqE .any l.toArray (takesB .any l.toArray tl tk) (i0 :: r0)) (fun listed hE j hj => by
      simp only [seqE, Bool.and_eq_true, decide_eq_true_eq] at hE
      rw [hE.1.2] at hj
      have : j = i0 := by simpa using hj
      omega) hsel hs hc hn (l.take n) 0 _ a (fun j hj => by
    have hj' : j < n := by rw [htl] at hj; exact hj
    simp [hj']) (by simpa using htl) inv0 (by rw [htl]; exact hlex) h
  refine wp_region_any hm ?_
  have := wpAny_of_qhead (Q' := Q) (g := (i0 :: r0).length + (tk.length + tl.length)) (fun listed a' w' hw' hL => any_of_mix l rfl hsel hQ tk tl (i0 :: r0) listed a' w' hL.1 (hL.2 w' hw')) _ _ _ { w with drawn := w.drawn + 1 } hC H
  rw [htl, hlen] at this
  exact this
end
end Go.Proofs.YtjllkmkngjdjjaaGreatDoor
