/- A LAW OF MY OWN: a region that draws its order: a row of operations, each with a word on what holds behind it, and ONE operation beside them (a variable's memory) that may come up at any place. No statement of the seed is proved here. -/
import Derived.Test.YtjllkmkngjdjjaaDoorTree
import Derived.Test.YtjllkmkngjdjjaaDoorQuietMix
namespace Go.Proofs.YtjllkmkngjdjjaaDoor
section
variable {P : Program} {md : Region.Mode} {ops : Array Oper} {Q : Exit → Act → World → Prop} {S : World → Prop} {Kx : Bool → Nat → Act → World → Prop}
def setAll (cs : List Nat) (L : Array Bool) : Array Bool := cs.foldl (fun l i => l.setIfInBounds i true) L
theorem setAll_comm (f : Nat) : ∀ (cs : List Nat) (L : Array Bool), cs.contains f = false → setAll cs (L.setIfInBounds f true) = (setAll cs L).setIfInBounds f true
  | [], _, _ => rfl
  | c :: r, L, h => by
    have hne : f ≠ c := fun e => by subst e; simp at h
    have hr : r.contains f = false := by
      cases hq : r.contains f with
      | false => rfl
      | true => simp only [List.contains_cons, hq, Bool.or_true] at h; cases h
    show setAll r ((L.setIfInBounds f true).setIfInBounds c true) = _
    rw [Array.setIfInBounds_comm _ _ hne]
    exact setAll_comm f r _ hr
def floatB (md : Region.Mode) (ops : Array Oper) (f : Nat) : List Nat → Array Bool → Bool
  | [], _ => true
  | c :: r, L => (decide (Region.ready md ops L = [c, f]) || decide (Region.ready md ops L = [f, c])) && decide (Region.ready md ops (L.setIfInBounds f true) = [c]) && decide (c ≠ f) && floatB md ops f r (L.setIfInBounds c true)
def floatSteps (P : Program) (ops : Array Oper) (Q : Exit → Act → World → Prop) (S : World → Prop) (Kx : Bool → Nat → Act → World → Prop) (f : Nat) : Nat → List Nat → Prop
  | _, [] => True
  | k, c :: r => (∀ b a w, Kx b k a w → wpOp P ops Q c (fun a' w' => S w' ∧ Kx b (k + 1) a' w') a w) ∧ (∀ a w, Kx false k a w → wpOp P ops Q f (fun a' w' => S w' ∧ Kx true k a' w') a w) ∧ floatSteps P ops Q S Kx f (k + 1) r
theorem floated_held {f g : Nat} : ∀ (cs : List Nat) (k : Nat) (L : Array Bool) (a : Act) (w : World), floatB md ops f cs L = true → floatSteps P ops Q S Kx f k cs →
    (∀ a w, S w → Kx true (k + cs.length) a w → wpAnyH P md ops Q S g ((setAll cs L).setIfInBounds f true) a w) → S w → Kx true k a w → wpAnyH P md ops Q S (cs.length + g) (L.setIfInBounds f true) a w
  | [], k, L, a, w, _, _, he, hS, h => by
    rw [List.length_nil, Nat.zero_add]
    exact he a w hS h
  | c :: r, k, L, a, w, hB, hs, he, hS, h => by
    simp only [floatB, Bool.and_eq_true, decide_eq_true_eq] at hB
    obtain ⟨⟨⟨_, h2⟩, h3⟩, h4⟩ := hB
    rw [List.length_cons, show r.length + 1 + g = (r.length + g) + 1 by omega]
    refine wpAnyH_all h2 (by simp) fun i hi => ?_
    have hic : i = c := by simpa using hi
    subst hic
    refine wpOp_mono (fun a' w' h' => ⟨h'.1, ?_⟩) (hs.1 true a w h)
    rw [Array.setIfInBounds_comm _ _ (Ne.symm h3)]
    exact floated_held r (k + 1) (L.setIfInBounds i true) a' w' h4 hs.2.2 (fun a2 w2 hS2 h2' => he a2 w2 hS2 (by rw [List.length_cons, show k + (r.length + 1) = k + 1 + r.length by omega]; exact h2')) h'.1 h'.2
theorem float_held {f g : Nat} : ∀ (cs : List Nat) (k : Nat) (L : Array Bool) (a : Act) (w : World), floatB md ops f cs L = true → floatSteps P ops Q S Kx f k cs →
    (∀ a w, S w → Kx true (k + cs.length) a w → wpAnyH P md ops Q S g ((setAll cs L).setIfInBounds f true) a w) →
    (∀ a w, S w → Kx false (k + cs.length) a w → wpAnyH P md ops Q S (g + 1) (setAll cs L) a w) → S w → Kx false k a w → wpAnyH P md ops Q S (cs.length + g + 1) L a w
  | [], k, L, a, w, _, _, _, hz, hS, h => by
    rw [List.length_nil, Nat.zero_add]
    exact hz a w hS h
  | c :: r, k, L, a, w, hB, hs, he, hz, hS, h => by
    have hB0 := hB
    simp only [floatB, Bool.and_eq_true, Bool.or_eq_true, decide_eq_true_eq] at hB
    obtain ⟨⟨⟨h1, h2⟩, h3⟩, h4⟩ := hB
    have hc : ∀ i, i = c → wpOp P ops Q i (fun a' w' => S w' ∧ wpAnyH P md ops Q S ((c :: r).length + g) (L.setIfInBounds i true) a' w') a w := fun i e => by
      subst e
      refine wpOp_mono (fun a' w' h' => ⟨h'.1, ?_⟩) (hs.1 false a w h)
      rw [List.length_cons, show r.length + 1 + g = r.length + g + 1 by omega]
      exact float_held r (k + 1) (L.setIfInBounds i true) a' w' h4 hs.2.2 (fun a2 w2 hS2 h2' => he a2 w2 hS2 (by rw [List.length_cons, show k + (r.length + 1) = k + 1 + r.length by omega]; exact h2')) (fun a2 w2 hS2 h2' => hz a2 w2 hS2 (by rw [List.length_cons, show k + (r.length + 1) = k + 1 + r.length by omega]; exact h2')) h'.1 h'.2
    have hf : ∀ i, i = f → wpOp P ops Q i (fun a' w' => S w' ∧ wpAnyH P md ops Q S ((c :: r).length + g) (L.setIfInBounds i true) a' w') a w := fun i e => by
      subst e
      exact wpOp_mono (fun a' w' h' => ⟨h'.1, floated_held (c :: r) k L a' w' hB0 hs he h'.1 h'.2⟩) (hs.2.1 a w h)
    rcases h1 with h1 | h1
    all_goals
      refine wpAnyH_all h1 (by simp) fun i hi => ?_
      have hi2 : i = c ∨ i = f := by
        have := hi
        simp only [List.mem_cons, List.not_mem_nil, or_false] at this
        omega
      rcases hi2 with e | e
      · exact hc i e
      · exact hf i e
/-- **THE LAW.** 'tk': what is taken first; 'cs': the row; 'f': the one beside it; 'tk2': what is taken behind the row; 'n': how many come last. -/
theorem wp_region_float {id : Nat} {a : Act} {w : World} {l : List Oper} (S : World → Prop) (Kx : Bool → Nat → Act → World → Prop) (tk cs : List Nat) (f : Nat) (tk2 : List Nat) (n : Nat) (hm : P.follows .mixedOrders = true)
    (hB : (Region.noSelect l.toArray && takeB .any l.toArray tk (Array.replicate l.toArray.size false) && floatB .any l.toArray f cs (setAll tk (Array.replicate l.toArray.size false)) &&
      takeB .any l.toArray tk2 (setAll cs (setAll tk (Array.replicate l.toArray.size false))) && takeB .any l.toArray tk2 ((setAll cs (setAll tk (Array.replicate l.toArray.size false))).setIfInBounds f true) && decide (tk.length + (cs.length + (tk2.length + n) + 1) = l.toArray.size) &&
      decide (Region.ready .any l.toArray (setAll tk2 (setAll cs (setAll tk (Array.replicate l.toArray.size false)))) = [f]) && decide (tk2.contains f = false)) = true)
    (hQ : ∀ c a a' w, Q (.panic c) a w → Q (.panic c) a' w) (hS : S w.drew) (hs : floatSteps P l.toArray Q S Kx f 0 cs)
    (h : wpTkS P l.toArray S (fun a' => Kx false 0 a' w.drew) (opsL l tk) a)
    (he : ∀ b a w, Kx b cs.length a w → wpTkS P l.toArray S (fun a' => Kx b (cs.length + 1) a' w) (opsL l tk2) a)
    (hf : ∀ a w, Kx false (cs.length + 1) a w → wpOp P l.toArray Q f (fun a' w' => S w' ∧ Kx true (cs.length + 1) a' w') a w)
    (hz : ∀ a w, S w → Kx true (cs.length + 1) a w → wpAnyH P .any l.toArray Q S n ((setAll tk2 (setAll cs (setAll tk (Array.replicate l.toArray.size false)))).setIfInBounds f true) a w) : (Code.region id l.toArray true).wp P Q a w := by
  simp only [Bool.and_eq_true, decide_eq_true_eq] at hB
  obtain ⟨⟨⟨⟨⟨⟨⟨h1, h2⟩, h3⟩, h4⟩, h5⟩, h6⟩, h7⟩, h8⟩ := hB
  refine wp_region_held (S := S) hm ?_
  have key : wpAnyH P .any l.toArray Q S (tk.length + (cs.length + (tk2.length + n) + 1)) (Array.replicate l.toArray.size false) a w.drew := ?_
  · rw [h6] at key
    exact key
  refine held_of_takesH l rfl h1 hQ w.drew hS _ tk _ a h2 ?_
  refine takesS_mono (fun a' hK => ?_) _ _ h
  refine float_held cs 0 _ a' w.drew h3 hs (fun a2 w2 hS2 hk => ?_) (fun a2 w2 hS2 hk => ?_) hS hK
  · refine held_of_takesH l rfl h1 hQ w2 hS2 n tk2 _ a2 h5 ?_
    refine takesS_mono (fun a3 h9 => ?_) _ _ (he true a2 w2 (by simpa using hk))
    have := hz a3 w2 hS2 h9
    rw [← setAll_comm f tk2 _ h8] at this
    exact this
  · rw [show tk2.length + n + 1 = tk2.length + (n + 1) by omega]
    refine held_of_takesH l rfl h1 hQ w2 hS2 (n + 1) tk2 _ a2 h4 ?_
    refine takesS_mono (fun a3 h9 => ?_) _ _ (he false a2 w2 (by simpa using hk))
    refine wpAnyH_all h7 (by simp) fun i hi => ?_
    have hif : i = f := by simpa using hi
    subst hif
    exact wpOp_mono (fun a' w' h' => ⟨h'.1, hz a' w' h'.1 h'.2⟩) (hf a3 w2 h9)
  where
  takesS_mono {K K' : Act → Prop} (hK : ∀ a, K a → K' a) : ∀ (r : List Oper) (a : Act), wpTkS P l.toArray S K r a → wpTkS P l.toArray S K' r a
    | [], a, h => hK a h
    | _ :: r, _, ⟨v, hy, h⟩ => ⟨v, hy, takesS_mono hK r _ h⟩
  held_of_takesH {ops : Array Oper} (l : List Oper) (ho : ops = l.toArray) (hsel : Region.noSelect ops = true) (hQ : ∀ c a a' w, Q (.panic c) a w → Q (.panic c) a' w) (w : World) (hS : S w) (n : Nat) : ∀ (tk : List Nat) (listed : Array Bool) (a : Act),
      takeB .any ops tk listed = true → wpTkS P ops S (fun a' => wpAnyH P .any ops Q S n (tk.foldl (fun l i => l.setIfInBounds i true) listed) a' w) (opsL l tk) a → wpAnyH P .any ops Q S (tk.length + n) listed a w
    | [], listed, a, _, h => by
      rw [List.length_nil, Nat.zero_add]
      exact h
    | i :: r, listed, a, hB, h => by
      simp only [takeB, Bool.and_eq_true] at hB
      obtain ⟨⟨⟨h1, h2⟩, h3⟩, h4⟩ := hB
      obtain ⟨o, h0⟩ := Option.isSome_iff_exists.1 h1
      have hl : l[i]? = some o := by rw [ho] at h0; simpa using h0
      simp only [opsL, hl, Option.toList_some, List.singleton_append] at h
      obtain ⟨v, hy, hK⟩ := h
      rw [List.length_cons, show r.length + 1 + n = (r.length + n) + 1 by omega]
      exact wpAnyH_take h0 hsel h3 h2 (fun c a w => hQ c _ _ w) hy hS (held_of_takesH l ho hsel hQ w hS n r _ _ h4 hK)
theorem wpAnyH_one {f i : Nat} {listed : Array Bool} {a : Act} {w : World} (hr : Region.ready md ops listed = [i]) (h : wpOp P ops Q i (fun a' w' => S w' ∧ wpAnyH P md ops Q S f (listed.setIfInBounds i true) a' w') a w) : wpAnyH P md ops Q S (f + 1) listed a w :=
  wpAnyH_all hr (by simp) fun j hj => by
    have : j = i := by simpa using hj
    subst this
    exact h
/-- One operation of a region, walked as a row of one. -/
theorem wpOp_walk {K : Act → World → Prop} {i : Nat} {o : Oper} {a : Act} {w : World} (h0 : ops[i]? = some o) (h : wpList P ops (NormK Q K) [o] a w) : wpOp P ops Q i K a w :=
  wpOp_of_list (rest := []) (K := K) (K' := K) h0 (fun _ _ h' => h') h
end
end Go.Proofs.YtjllkmkngjdjjaaDoor
