/- A LAW OF MY OWN: a region that draws its order: some operations that yield in whatever world are taken first; then reads and quiet calls, in whatever order; then a row. No statement of the seed is proved here. -/
import Derived.Test.YthgjecofmnomfaaDoorQuietMix
namespace Go.Proofs.YthgjecofmnomfaaDoor
section
variable {P : Program} {md : Region.Mode} {ops : Array Oper} {C : World → Prop}
def sinkF (md : Region.Mode) (ops : Array Oper) (k0 n : Nat) : Bool :=
  (List.range n).all fun i => decide (i < k0) || (List.range (n + 1)).any fun j => decide (i < j) && Region.waitsFor md ops j i
theorem tail_waitsF {k0 n : Nat} {listed : Array Bool} (hs : sinkF md ops k0 n = true) (hc : chainR md ops n = true) (hn : n < ops.size) (inv : HeadInv md ops n listed) :
    ∀ (d i : Nat), n - i = d → k0 ≤ i → i < n → listed.getD i true = false → ∀ t, n ≤ t → t ∉ Region.ready md ops listed := by
  intro d
  induction d using Nat.strongRecOn with
  | _ d ih =>
    intro i hd hki hi hun t ht hr
    obtain ⟨_, ot, hot, hall⟩ := mem_ready.1 hr
    have htlt : t < ops.size := (Array.getElem?_eq_some_iff.1 hot).1
    by_cases htn : t = n
    · subst htn
      have h1 := List.all_eq_true.1 hs i (List.mem_range.2 hi)
      simp only [Bool.or_eq_true, decide_eq_true_eq] at h1
      replace h1 := h1.resolve_left (by omega)
      obtain ⟨j, hj, hj2⟩ := List.any_eq_true.1 h1
      simp only [Bool.and_eq_true, decide_eq_true_eq] at hj2
      obtain ⟨oj, hoj, e, he, hb, hon⟩ := Region.waitsFor_spec hj2.2
      have hjle : j ≤ t := by have := List.mem_range.1 hj; omega
      by_cases hjt : j = t
      · subst hjt
        have : oj = ot := Option.some.inj (hoj.symm.trans hot)
        subst this
        have h2 := hall e he hb
        rw [hon, getD_both hun] at h2
        cases h2
      · cases hl : listed.getD j false with
        | true =>
          have h2 := inv.closed j oj hoj hl e he hb
          rw [hon, getD_both hun] at h2
          cases h2
        | false =>
          have hjs : j < listed.size := by rw [inv.size]; omega
          exact ih (t - j) (by omega) j rfl (by omega) (by omega) (getD_in hjs hl) t (Nat.le_refl _) hr
    · have h1 := List.all_eq_true.1 hc t (List.mem_range.2 htlt)
      simp only [Bool.or_eq_true, decide_eq_true_eq] at h1
      rcases h1 with h1 | h1
      · omega
      · obtain ⟨j, hj, hj2⟩ := List.any_eq_true.1 h1
        simp only [Bool.and_eq_true, decide_eq_true_eq] at hj2
        have hjt := List.mem_range.1 hj
        obtain ⟨o', ho', e, he, hb, hon⟩ := Region.waitsFor_spec hj2.2
        have : o' = ot := Option.some.inj (ho'.symm.trans hot)
        subst this
        have h2 := hall e he hb
        rw [hon, getD_both (inv.tail j hj2.1 (by omega))] at h2
        cases h2
theorem wpAnyQL_firstF {k0 n i : Nat} (hki : k0 ≤ i) {oi : Oper} {v : Value} {L : Array Bool → Act → Prop} (hi : ops[i]? = some oi) (hsel : ∀ (j : Nat) (o : Oper) cs b, ops[j]? = some o → o.op ≠ .select cs b)
    (hs : sinkF md ops k0 n = true) (hc : chainR md ops n = true) (hn : n < ops.size) (hin : i < n)
    (hdone : ∀ listed a, L listed a → ∀ j ∈ Region.ready md ops listed, n ≤ j) :
    ∀ (f : Nat) (listed : Array Bool) (a : Act), HeadInv md ops n listed →
      (∀ j oj, ops[j]? = some oj → j ≠ i → listed.getD j true = false → (∀ e ∈ oj.after, Region.binds md e = true → e.on ≠ i) → oi.apart ops oj = true) →
      i ∈ Region.ready md ops listed → YieldsIn P ops C oi v a →
      wpAnyQL P md ops C n L f (listed.setIfInBounds i true) (a.put oi.dst v) → wpAnyQL P md ops C n L (f + 1) listed a := by
  intro f
  induction f with
  | zero =>
    intro listed a inv _ hr hy H
    have hun := (mem_ready.1 hr).1
    refine ⟨fun h => (by rw [h] at hr; cases hr), fun j hj => ?_⟩
    have hjn : j < n := by
      rcases Nat.lt_or_ge j n with h | h
      · exact h
      · exact absurd hj (tail_waitsF hs hc hn inv _ i rfl hki hin hun j h)
    refine ⟨hjn, ?_⟩
    by_cases hji : j = i
    · subst hji; exact hy.qOp hi H
    · have := hdone _ _ H j (ready_mono hj hji)
      omega
  | succ f ih =>
    intro listed a inv hfree hr hy H
    have hun := (mem_ready.1 hr).1
    refine ⟨fun h => (by rw [h] at hr; cases hr), fun j hj => ?_⟩
    have hjn : j < n := by
      rcases Nat.lt_or_ge j n with h | h
      · exact h
      · exact absurd hj (tail_waitsF hs hc hn inv _ i rfl hki hin hun j h)
    refine ⟨hjn, ?_⟩
    by_cases hji : j = i
    · subst hji; exact hy.qOp hi H
    · have h1 := (H.2 j (ready_mono hj hji)).2
      obtain ⟨hjun, oj, hoj, hall⟩ := mem_ready.1 hj
      have hnot : ∀ e ∈ oj.after, Region.binds md e = true → e.on ≠ i := fun e he hb heq => by
        have h1 := hall e he hb
        rw [heq, getD_both hun] at h1
        cases h1
      have h2 := qOp_put hoj (hfree j oj hoj hji hjun hnot) (fun cs b => hsel i oi cs b hi) (fun cs b => hsel j oj cs b hoj) hy h1
      have hfree' : ∀ k ok, ops[k]? = some ok → k ≠ i → (listed.setIfInBounds j true).getD k true = false →
          (∀ e ∈ ok.after, Region.binds md e = true → e.on ≠ i) → oi.apart ops ok = true := fun k ok hk hki hun hno => by
        refine hfree k ok hk hki ?_ hno
        by_cases hjk : j = k
        · subst hjk; exact hjun
        · rw [getD_set_ne true hjk] at hun; exact hun
      refine qOp_mono (fun a' h3 => ih (listed.setIfInBounds j true) a' (inv.set hj hjn) hfree' (ready_mono hr (Ne.symm hji)) h3.1 ?_) h2
      rw [Array.setIfInBounds_comm _ _ hji]
      exact h3.2
theorem wpAnyQL_lexF {k0 n : Nat} {E : Array Bool → Bool} (hE : ∀ listed, E listed = true → ∀ j ∈ Region.ready md ops listed, n ≤ j) {Lq : Act → Prop} (hsel : Region.noSelect ops = true) (hs : sinkF md ops k0 n = true) (hc : chainR md ops n = true) (hn : n < ops.size) :
    ∀ (l : List Oper) (k : Nat) (listed : Array Bool) (a : Act), k0 ≤ k → (∀ j, j < l.length → l[j]? = ops[k + j]?) → k + l.length = n → HeadInv md ops n listed →
    headE md ops E l.length k listed = true → wpQuiet P ops C Lq l a →
    wpAnyQL P md ops C n (fun listed' a' => E listed' = true ∧ Lq a') l.length listed a
  | [], k, listed, a, _, _, hk, _, hB, h => by
    have : k = n := by simpa using hk
    subst this
    exact ⟨by simpa [headE] using hB, h⟩
  | o :: l, k, listed, a, hk0, hl, hk, inv, hB, h => by
    have h0 : ops[k]? = some o := by simpa using (hl 0 (by simp)).symm
    simp only [List.length_cons, headE, Bool.and_eq_true] at hB
    obtain ⟨⟨hr, hf⟩, hB'⟩ := hB
    have hkn : k < n := by simp only [List.length_cons] at hk; omega
    have hr' : k ∈ Region.ready md ops listed := by simpa using hr
    have hst : qOp P ops C k (wpQuiet P ops C Lq l) a := by unfold qOp; simp only [h0]; exact h
    obtain ⟨v, hy, hK⟩ := yieldsIn_of_qOp h0 hst
    exact wpAnyQL_firstF hk0 h0 (Region.noSelect_spec hsel) hs hc hn hkn (fun listed' a' hL => hE _ hL.1) l.length listed a inv (Region.free_spec h0 hf) hr' hy
      (wpAnyQL_lexF hE hsel hs hc hn l (k + 1) _ _ (by omega) (fun j hj => by have := hl (j + 1) (by simp; omega); simpa [Nat.add_assoc, Nat.add_comm 1 j] using this) (by simp only [List.length_cons] at hk; omega) (inv.set hr' hkn) hB' hK)
variable {Q : Exit → Act → World → Prop}
/-- Those below k0 are listed. -/
def firstK (k0 : Nat) (m : Nat) : Array Bool := (List.range k0).foldl (fun l i => l.setIfInBounds i true) (Array.replicate m false)
def invB (md : Region.Mode) (ops : Array Oper) (n : Nat) (L : Array Bool) : Bool :=
  decide (L.size = ops.size) && (List.range ops.size).all (fun j => !(L.getD j false) || ((ops[j]?).map fun o => o.after.all fun e => !Region.binds md e || L.getD e.on false).getD true) && (List.range ops.size).all (fun t => decide (t < n) || !(L.getD t true))
theorem invB_spec {n : Nat} {L : Array Bool} (h : invB md ops n L = true) : HeadInv md ops n L := by
  simp only [invB, Bool.and_eq_true, decide_eq_true_eq, List.all_eq_true, List.mem_range, Bool.or_eq_true, Bool.not_eq_true'] at h
  obtain ⟨⟨h1, h2⟩, h3⟩ := h
  refine ⟨h1, fun j oj hj hl e he hb => ?_, fun t ht ht2 => ?_⟩
  · have hlt : j < ops.size := (Array.getElem?_eq_some_iff.1 hj).1
    rcases h2 j hlt with h4 | h4
    · rw [h4] at hl; cases hl
    · rw [hj] at h4
      simp only [Option.map_some, Option.getD_some, Array.all_eq_true_iff_forall_mem, Bool.or_eq_true, Bool.not_eq_true'] at h4
      rcases h4 e he with h5 | h5
      · rw [hb] at h5; cases h5
      · exact h5
  · rcases h3 t ht2 with h4 | h4
    · omega
    · exact h4
def takesB' (md : Region.Mode) (ops : Array Oper) : List Nat → Array Bool → Bool
  | [], _ => true
  | i :: r, listed => (ops[i]?).isSome && (Region.ready md ops listed).contains i && Region.free md ops listed i && takesB' md ops r (listed.setIfInBounds i true)
theorem takes_mono {K K' : Act → Prop} (hK : ∀ a, K a → K' a) : ∀ (r : List Oper) (a : Act), wpTk P ops K r a → wpTk P ops K' r a
  | [], a, h => hK a h
  | _ :: r, _, ⟨v, hy, h⟩ => ⟨v, hy, takes_mono hK r _ h⟩
theorem takes_then (l : List Oper) (ho : ops = l.toArray) (hsel : Region.noSelect ops = true) (hQ : ∀ c a a' w, Q (.panic c) a w → Q (.panic c) a' w) (w : World) (n : Nat) : ∀ (tk : List Nat) (listed : Array Bool) (a : Act),
    takesB' .any ops tk listed = true → wpTk P ops (fun a' => wpAnyH P .any ops Q (fun _ => True) n (tk.foldl (fun l i => l.setIfInBounds i true) listed) a' w) (opsL l tk) a → wpAnyH P .any ops Q (fun _ => True) (tk.length + n) listed a w
  | [], listed, a, _, h => by
    rw [List.length_nil, Nat.zero_add]
    exact h
  | i :: r, listed, a, hB, h => by
    simp only [takesB', Bool.and_eq_true] at hB
    obtain ⟨⟨⟨h1, h2⟩, h3⟩, h4⟩ := hB
    obtain ⟨o, h0⟩ := Option.isSome_iff_exists.1 h1
    have hl : l[i]? = some o := by rw [ho] at h0; simpa using h0
    simp only [opsL, hl, Option.toList_some, List.singleton_append] at h
    obtain ⟨v, hy, hK⟩ := h
    rw [List.length_cons, show r.length + 1 + n = (r.length + n) + 1 by omega]
    exact wpAnyH_take h0 hsel h3 h2 (fun c a w => hQ c _ _ w) hy trivial (takes_then l ho hsel hQ w n r _ _ h4 hK)
/-- **THE LAW.** 'k0': how many are taken first; 'n': where the row begins. -/
theorem wp_region_quiet_from {id : Nat} {a : Act} {w : World} {l : List Oper} (k0 n : Nat) (hm : P.follows .mixedOrders = true)
    (hB : (Region.noSelect l.toArray && takesB' .any l.toArray (List.range k0) (Array.replicate l.toArray.size false) && decide (k0 ≤ n) && decide (n < l.toArray.size) && sinkF .any l.toArray k0 n && chainR .any l.toArray n && invB .any l.toArray n (firstK k0 l.toArray.size) &&
      headE .any l.toArray (Region.seqB .any l.toArray (l.toArray.size - n) n) (n - k0) k0 (firstK k0 l.toArray.size) && decide ((List.range k0).length + (n - k0 + (l.toArray.size - n)) = l.toArray.size)) = true)
    (hQ : ∀ c a a' w, Q (.panic c) a w → Q (.panic c) a' w) (hC : C w.drew)
    (h : wpTk P l.toArray (fun a' => wpQuiet P l.toArray C (fun a' => ∀ w', C w' → wpList P l.toArray Q (l.drop n) a' w') ((l.take n).drop k0) a') (opsL l (List.range k0)) a) : (Code.region id l.toArray true).wp P Q a w := by
  simp only [Bool.and_eq_true, decide_eq_true_eq] at hB
  obtain ⟨⟨⟨⟨⟨⟨⟨⟨hsel, ht⟩, hkn⟩, hn⟩, hs⟩, hc⟩, hi⟩, hlex⟩, hlen⟩ := hB
  have hn' : n < l.length := by simpa using hn
  refine wp_region_held (S := fun _ => True) hm ?_
  have key : wpAnyH P .any l.toArray Q (fun _ => True) ((List.range k0).length + (n - k0 + (l.toArray.size - n))) (Array.replicate l.toArray.size false) a w.drew := ?_
  · rw [hlen] at key
    exact key
  refine takes_then l rfl hsel hQ w.drew _ (List.range k0) _ a ht ?_
  refine takes_mono (fun a' hK => held_of_any _ _ _ _ ?_) _ _ h
  have htl : ((l.take n).drop k0).length = n - k0 := by simp; omega
  have hdl : (l.drop n).length = l.toArray.size - n := by simp
  have H := wpAnyQL_lexF (md := .any) (C := C) (E := Region.seqB .any l.toArray (l.toArray.size - n) n) (fun listed hE j hj => seqB_ready hE j hj) hsel hs hc hn ((l.take n).drop k0) k0 _ a' (Nat.le_refl _) (fun j hj => by
    have hj' : k0 + j < n := by rw [htl] at hj; omega
    simp [List.getElem?_drop, List.getElem?_take, hj']) (by rw [htl]; omega) (invB_spec hi) (by rw [htl]; exact hlex) hK
  have := wpAny_of_qhead (Q' := Q) (g := l.toArray.size - n) (fun listed a' w' hw' hL => by
    have := wpAny_of_seq (md := .any) (Q' := Q) (l.drop n) n listed a' w' (fun j => by simp [List.getElem?_drop]) (by rw [hdl]; exact hL.1) (hL.2 w' hw')
    rwa [hdl] at this) _ _ _ w.drew hC H
  rw [htl] at this
  exact this
end
end Go.Proofs.YthgjecofmnomfaaDoor
