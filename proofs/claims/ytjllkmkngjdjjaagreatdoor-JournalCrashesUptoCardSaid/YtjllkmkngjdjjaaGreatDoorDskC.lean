/- A LAW OF MY OWN: a region that draws its order: a row of operations, each with a word on what holds behind it, and ONE operation beside them (a variable's memory) that may come up at any place. No statement of the seed is proved here. A LAW OF MY OWN: a region that draws its order: what reads memory that stays is taken first; then a row of operations (calls among them), behind each of which that memory still stands. No statement of the seed is proved here. WALKS of package disk: New, none, Sector, a name, what is wrong, a clone of bytes. No statement of the seed is proved here. A DISK's RECORD: behind the files' change the raw write is put behind the others. No statement of the seed is proved here. -/
import Derived.Test.YtjllkmkngjdjjaaGreatDoorQuietMix
import Derived.Test.YtjllkmkngjdjjaaGreatDoorAny
import Derived.Lib.Bytealg
namespace Go.Proofs.YtjllkmkngjdjjaaGreatDoor
section
variable {P : Program} {md : Region.Mode} {ops : Array Oper} {Q : Exit → Act → World → Prop} {S : World → Prop} {Kx : Bool → Nat → Act → World → Prop}
def setAll (cs : List Nat) (L : Array Bool) : Array Bool := cs.foldl (fun l i => l.setIfInBounds i true) L
theorem setAll_comm (f : Nat) : ∀ (cs : List Nat) (L : Array Bool), cs.contains f = false → setAll cs (L.setIfInBounds f true) = (setAll cs L).setIfInBounds f true
  | [], _, _ => rfl
  | c :: r, L, h => by
    have hne : f ≠ c := fun e => by subst e; simp at h
    have hr : r.contains f = false := by
      cases hq : r.contains f with
      | false => rfl
      | true => simp only [List.contains_cons, hq, Bool.or_true] at h; cases h
    show setAll r ((L.setIfInBounds f true).setIfInBounds c true) = _
    rw [Array.setIfInBounds_comm _ _ hne]
    exact setAll_comm f r _ hr
def floatB (md : Region.Mode) (ops : Array Oper) (f : Nat) : List Nat → Array Bool → Bool
  | [], _ => true
  | c :: r, L => (decide (Region.ready md ops L = [c, f]) || decide (Region.ready md ops L = [f, c])) && decide (Region.ready md ops (L.setIfInBounds f true) = [c]) && decide (c ≠ f) && floatB md ops f r (L.setIfInBounds c true)
def floatSteps (P : Program) (ops : Array Oper) (Q : Exit → Act → World → Prop) (S : World → Prop) (Kx : Bool → Nat → Act → World → Prop) (f : Nat) : Nat → List Nat → Prop
  | _, [] => True
  | k, c :: r => (∀ b a w, Kx b k a w → wpOp P ops Q c (fun a' w' => S w' ∧ Kx b (k + 1) a' w') a w) ∧ (∀ a w, Kx false k a w → wpOp P ops Q f (fun a' w' => S w' ∧ Kx true k a' w') a w) ∧ floatSteps P ops Q S Kx f (k + 1) r
theorem floated_held {f g : Nat} : ∀ (cs : List Nat) (k : Nat) (L : Array Bool) (a : Act) (w : World), floatB md ops f cs L = true → floatSteps P ops Q S Kx f k cs →
    (∀ a w, S w → Kx true (k + cs.length) a w → wpAnyH P md ops Q S g ((setAll cs L).setIfInBounds f true) a w) → S w → Kx true k a w → wpAnyH P md ops Q S (cs.length + g) (L.setIfInBounds f true) a w
  | [], k, L, a, w, _, _, he, hS, h => by
    rw [List.length_nil, Nat.zero_add]
    exact he a w hS h
  | c :: r, k, L, a, w, hB, hs, he, hS, h => by
    simp only [floatB, Bool.and_eq_true, decide_eq_true_eq] at hB
    obtain ⟨⟨⟨_, h2⟩, h3⟩, h4⟩ := hB
    rw [List.length_cons, show r.length + 1 + g = (r.length + g) + 1 by omega]
    refine wpAnyH_all h2 (by simp) fun i hi => ?_
    have hic : i = c := by simpa using hi
    subst hic
    refine wpOp_mono (fun a' w' h' => ⟨h'.1, ?_⟩) (hs.1 true a w h)
    rw [Array.setIfInBounds_comm _ _ (Ne.symm h3)]
    exact floated_held r (k + 1) (L.setIfInBounds i true) a' w' h4 hs.2.2 (fun a2 w2 hS2 h2' => he a2 w2 hS2 (by rw [List.length_cons, show k + (r.length + 1) = k + 1 + r.length by omega]; exact h2')) h'.1 h'.2
theorem float_held {f g : Nat} : ∀ (cs : List Nat) (k : Nat) (L : Array Bool) (a : Act) (w : World), floatB md ops f cs L = true → floatSteps P ops Q S Kx f k cs →
    (∀ a w, S w → Kx true (k + cs.length) a w → wpAnyH P md ops Q S g ((setAll cs L).setIfInBounds f true) a w) →
    (∀ a w, S w → Kx false (k + cs.length) a w → wpAnyH P md ops Q S (g + 1) (setAll cs L) a w) → S w → Kx false k a w → wpAnyH P md ops Q S (cs.length + g + 1) L a w
  | [], k, L, a, w, _, _, _, hz, hS, h => by
    rw [List.length_nil, Nat.zero_add]
    exact hz a w hS h
  | c :: r, k, L, a, w, hB, hs, he, hz, hS, h => by
    have hB0 := hB
    simp only [floatB, Bool.and_eq_true, Bool.or_eq_true, decide_eq_true_eq] at hB
    obtain ⟨⟨⟨h1, h2⟩, h3⟩, h4⟩ := hB
    have hc : ∀ i, i = c → wpOp P ops Q i (fun a' w' => S w' ∧ wpAnyH P md ops Q S ((c :: r).length + g) (L.setIfInBounds i true) a' w') a w := fun i e => by
      subst e
      refine wpOp_mono (fun a' w' h' => ⟨h'.1, ?_⟩) (hs.1 false a w h)
      rw [List.length_cons, show r.length + 1 + g = r.length + g + 1 by omega]
      exact float_held r (k + 1) (L.setIfInBounds i true) a' w' h4 hs.2.2 (fun a2 w2 hS2 h2' => he a2 w2 hS2 (by rw [List.length_cons, show k + (r.length + 1) = k + 1 + r.length by omega]; exact h2')) (fun a2 w2 hS2 h2' => hz a2 w2 hS2 (by rw [List.length_cons, show k + (r.length + 1) = k + 1 + r.length by omega]; exact h2')) h'.1 h'.2
    have hf : ∀ i, i = f → wpOp P ops Q i (fun a' w' => S w' ∧ wpAnyH P md ops Q S ((c :: r).length + g) (L.setIfInBounds i true) a' w') a w := fun i e => by
      subst e
      exact wpOp_mono (fun a' w' h' => ⟨h'.1, floated_held (c :: r) k L a' w' hB0 hs he h'.1 h'.2⟩) (hs.2.1 a w h)
    rcases h1 with h1 | h1
    all_goals
      refine wpAnyH_all h1 (by simp) fun i hi => ?_
      have hi2 : i = c ∨ i = f := by
        have := hi
        simp only [List.mem_cons, List.not_mem_nil, or_false] at this
        omega
      rcases hi2 with e | e
      · exact hc i e
      · exact hf i e
/-- **THE LAW.** 'tk': what is taken first; 'cs': the row; 'f': the one beside it; 'tk2': what is taken behind the row; 'n': how many come last. -/
theorem wp_region_float {id : Nat} {a : Act} {w : World} {l : List Oper} (S : World → Prop) (Kx : Bool → Nat → Act → World → Prop) (tk cs : List Nat) (f : Nat) (tk2 : List Nat) (n : Nat) (hm : P.follows .mixedOrders = true)
    (hB : (Region.noSelect l.toArray && takeB .any l.toArray tk (Array.replicate l.toArray.size false) && floatB .any l.toArray f cs (setAll tk (Array.replicate l.toArray.size false)) &&
      takeB .any l.toArray tk2 (setAll cs (setAll tk (Array.replicate l.toArray.size false))) && takeB .any l.toArray tk2 ((setAll cs (setAll tk (Array.replicate l.toArray.size false))).setIfInBounds f true) && decide (tk.length + (cs.length + (tk2.length + n) + 1) = l.toArray.size) &&
      decide (Region.ready .any l.toArray (setAll tk2 (setAll cs (setAll tk (Array.replicate l.toArray.size false)))) = [f]) && decide (tk2.contains f = false)) = true)
    (hQ : ∀ c a a' w, Q (.panic c) a w → Q (.panic c) a' w) (hS : S w.drew) (hs : floatSteps P l.toArray Q S Kx f 0 cs)
    (h : wpTkS P l.toArray S (fun a' => Kx false 0 a' w.drew) (opsL l tk) a)
    (he : ∀ b a w, Kx b cs.length a w → wpTkS P l.toArray S (fun a' => Kx b (cs.length + 1) a' w) (opsL l tk2) a)
    (hf : ∀ a w, Kx false (cs.length + 1) a w → wpOp P l.toArray Q f (fun a' w' => S w' ∧ Kx true (cs.length + 1) a' w') a w)
    (hz : ∀ a w, S w → Kx true (cs.length + 1) a w → wpAnyH P .any l.toArray Q S n ((setAll tk2 (setAll cs (setAll tk (Array.replicate l.toArray.size false)))).setIfInBounds f true) a w) : (Code.region id l.toArray true).wp P Q a w := by
  simp only [Bool.and_eq_true, decide_eq_true_eq] at hB
  obtain ⟨⟨⟨⟨⟨⟨⟨h1, h2⟩, h3⟩, h4⟩, h5⟩, h6⟩, h7⟩, h8⟩ := hB
  refine wp_region_held (S := S) hm ?_
  have key : wpAnyH P .any l.toArray Q S (tk.length + (cs.length + (tk2.length + n) + 1)) (Array.replicate l.toArray.size false) a w.drew := ?_
  · rw [h6] at key
    exact key
  refine held_of_takesH l rfl h1 hQ w.drew hS _ tk _ a h2 ?_
  refine takesS_mono (fun a' hK => ?_) _ _ h
  refine float_held cs 0 _ a' w.drew h3 hs (fun a2 w2 hS2 hk => ?_) (fun a2 w2 hS2 hk => ?_) hS hK
  · refine held_of_takesH l rfl h1 hQ w2 hS2 n tk2 _ a2 h5 ?_
    refine takesS_mono (fun a3 h9 => ?_) _ _ (he true a2 w2 (by simpa using hk))
    have := hz a3 w2 hS2 h9
    rw [← setAll_comm f tk2 _ h8] at this
    exact this
  · rw [show tk2.length + n + 1 = tk2.length + (n + 1) by omega]
    refine held_of_takesH l rfl h1 hQ w2 hS2 (n + 1) tk2 _ a2 h4 ?_
    refine takesS_mono (fun a3 h9 => ?_) _ _ (he false a2 w2 (by simpa using hk))
    refine wpAnyH_all h7 (by simp) fun i hi => ?_
    have hif : i = f := by simpa using hi
    subst hif
    exact wpOp_mono (fun a' w' h' => ⟨h'.1, hz a' w' h'.1 h'.2⟩) (hf a3 w2 h9)
  where
  takesS_mono {K K' : Act → Prop} (hK : ∀ a, K a → K' a) : ∀ (r : List Oper) (a : Act), wpTkS P l.toArray S K r a → wpTkS P l.toArray S K' r a
    | [], a, h => hK a h
    | _ :: r, _, ⟨v, hy, h⟩ => ⟨v, hy, takesS_mono hK r _ h⟩
  held_of_takesH {ops : Array Oper} (l : List Oper) (ho : ops = l.toArray) (hsel : Region.noSelect ops = true) (hQ : ∀ c a a' w, Q (.panic c) a w → Q (.panic c) a' w) (w : World) (hS : S w) (n : Nat) : ∀ (tk : List Nat) (listed : Array Bool) (a : Act),
      takeB .any ops tk listed = true → wpTkS P ops S (fun a' => wpAnyH P .any ops Q S n (tk.foldl (fun l i => l.setIfInBounds i true) listed) a' w) (opsL l tk) a → wpAnyH P .any ops Q S (tk.length + n) listed a w
    | [], listed, a, _, h => by
      rw [List.length_nil, Nat.zero_add]
      exact h
    | i :: r, listed, a, hB, h => by
      simp only [takeB, Bool.and_eq_true] at hB
      obtain ⟨⟨⟨h1, h2⟩, h3⟩, h4⟩ := hB
      obtain ⟨o, h0⟩ := Option.isSome_iff_exists.1 h1
      have hl : l[i]? = some o := by rw [ho] at h0; simpa using h0
      simp only [opsL, hl, Option.toList_some, List.singleton_append] at h
      obtain ⟨v, hy, hK⟩ := h
      rw [List.length_cons, show r.length + 1 + n = (r.length + n) + 1 by omega]
      exact wpAnyH_take h0 hsel h3 h2 (fun c a w => hQ c _ _ w) hy hS (held_of_takesH l ho hsel hQ w hS n r _ _ h4 hK)
theorem wpAnyH_one {f i : Nat} {listed : Array Bool} {a : Act} {w : World} (hr : Region.ready md ops listed = [i]) (h : wpOp P ops Q i (fun a' w' => S w' ∧ wpAnyH P md ops Q S f (listed.setIfInBounds i true) a' w') a w) : wpAnyH P md ops Q S (f + 1) listed a w :=
  wpAnyH_all hr (by simp) fun j hj => by
    have : j = i := by simpa using hj
    subst this
    exact h
/-- One operation of a region, walked as a row of one. -/
theorem wpOp_walk {K : Act → World → Prop} {i : Nat} {o : Oper} {a : Act} {w : World} (h0 : ops[i]? = some o) (h : wpList P ops (NormK Q K) [o] a w) : wpOp P ops Q i K a w :=
  wpOp_of_list (rest := []) (K := K) (K' := K) h0 (fun _ _ h' => h') h
end
end Go.Proofs.YtjllkmkngjdjjaaGreatDoor
namespace Go.Proofs.YtjllkmkngjdjjaaGreatDoor
open Go.RowKit
section
variable {P : Program} {ops : Array Oper} {Q : Exit → Act → World → Prop} {S : World → Prop}
def wpRowS (P : Program) (ops : Array Oper) (Q : Exit → Act → World → Prop) (S : World → Prop) (l : List Oper) : List Nat → Act → World → Prop
  | [], a, w => Q .normal a w
  | i :: r, a, w => wpList P ops (NormK Q (fun a' w' => S w' ∧ wpRowS P ops Q S l r a' w')) (opsL l [i]) a w
theorem held_of_rowS (l : List Oper) (ho : ops = l.toArray) : ∀ (tl : List Nat) (listed : Array Bool) (a : Act) (w : World), seqL .any ops tl listed = true → wpRowS P ops Q S l tl a w → wpAnyH P .any ops Q S tl.length listed a w
  | [], listed, a, w, hB, h => ⟨by simpa [seqL] using hB, h⟩
  | i :: r, listed, a, w, hB, h => by
    simp only [seqL, Bool.and_eq_true, decide_eq_true_eq] at hB
    obtain ⟨⟨h1, h2⟩, h3⟩ := hB
    obtain ⟨o, h0⟩ := Option.isSome_iff_exists.1 h1
    have hl : l[i]? = some o := by rw [ho] at h0; simpa using h0
    simp only [wpRowS, opsL, hl, Option.toList_some, List.singleton_append, List.append_nil] at h
    refine ⟨fun h4 => (by rw [h2] at h4; cases h4), fun j hj => ?_⟩
    rw [h2] at hj
    have hji : j = i := by simpa using hj
    subst hji
    refine wpOp_of_list (K := fun a' w' => S w' ∧ wpRowS P ops Q S l r a' w') h0 (fun a' w' h' => ?_) h
    unfold wpList at h'
    exact ⟨h'.1, held_of_rowS l ho r _ a' w' h3 h'.2⟩
theorem tkS_mono {K K' : Act → Prop} (hK : ∀ a, K a → K' a) : ∀ (r : List Oper) (a : Act), wpTkS P ops S K r a → wpTkS P ops S K' r a
  | [], a, h => hK a h
  | _ :: r, _, ⟨v, hy, h⟩ => ⟨v, hy, tkS_mono hK r _ h⟩
theorem held_of_tkS (l : List Oper) (ho : ops = l.toArray) (hsel : Region.noSelect ops = true) (hQ : ∀ c a a' w, Q (.panic c) a w → Q (.panic c) a' w) (w : World) (hS : S w) (n : Nat) : ∀ (tk : List Nat) (listed : Array Bool) (a : Act),
    takeB .any ops tk listed = true → wpTkS P ops S (fun a' => wpAnyH P .any ops Q S n (tk.foldl (fun l i => l.setIfInBounds i true) listed) a' w) (opsL l tk) a → wpAnyH P .any ops Q S (tk.length + n) listed a w
  | [], listed, a, _, h => by
    rw [List.length_nil, Nat.zero_add]
    exact h
  | i :: r, listed, a, hB, h => by
    simp only [takeB, Bool.and_eq_true] at hB
    obtain ⟨⟨⟨h1, h2⟩, h3⟩, h4⟩ := hB
    obtain ⟨o, h0⟩ := Option.isSome_iff_exists.1 h1
    have hl : l[i]? = some o := by rw [ho] at h0; simpa using h0
    simp only [opsL, hl, Option.toList_some, List.singleton_append] at h
    obtain ⟨v, hy, hK⟩ := h
    rw [List.length_cons, show r.length + 1 + n = (r.length + n) + 1 by omega]
    exact wpAnyH_take h0 hsel h3 h2 (fun c a w => hQ c _ _ w) hy hS (held_of_tkS l ho hsel hQ w hS n r _ _ h4 hK)
/-- **THE LAW.** 'tk': what is taken first; 'tl': the row. -/
theorem wp_region_rowS {id : Nat} {a : Act} {w : World} {l : List Oper} (S : World → Prop) (tk tl : List Nat) (hm : P.follows .mixedOrders = true)
    (hB : (Region.noSelect l.toArray && takeB .any l.toArray tk (Array.replicate l.toArray.size false) && seqL .any l.toArray tl (tk.foldl (fun l i => l.setIfInBounds i true) (Array.replicate l.toArray.size false)) && decide (tk.length + tl.length = l.toArray.size)) = true)
    (hQ : ∀ c a a' w, Q (.panic c) a w → Q (.panic c) a' w) (hS : S w.drew)
    (h : wpTkS P l.toArray S (fun a' => wpRowS P l.toArray Q S l tl a' w.drew) (opsL l tk) a) : (Code.region id l.toArray true).wp P Q a w := by
  simp only [Bool.and_eq_true, decide_eq_true_eq] at hB
  obtain ⟨⟨⟨hsel, ht⟩, hs⟩, hlen⟩ := hB
  refine wp_region_held (S := S) hm ?_
  have := held_of_tkS (P := P) (Q := Q) l rfl hsel hQ w.drew hS tl.length tk (Array.replicate l.toArray.size false) a ht (tkS_mono (fun a' h' => held_of_rowS l rfl tl _ a' w.drew hs h') _ _ h)
  rw [hlen] at this
  exact this
theorem wpOp_val {K : Act → World → Prop} {i : Nat} {o : Oper} {a : Act} {w w' : World} {v : Value} (h1 : ops[i]? = some o) (h2 : o.guard = none) (h3 : (execOp a.eval o).run P w = .ok (.value v) w') (h : K (a.put o.dst v) w') : wpOp P ops Q i K a w := by
  unfold wpOp
  simp only [h1]
  have hw : Region.wanted o (yielded ops a.tmps) = true := by simp [Region.wanted, h2]
  simp only [hw, if_true, Oper.wp, h3, Oper.upon]
  exact .inl h
/-- What stands where two operations may come up, one of which only reads. -/
def Fork (P : Program) (ops : Array Oper) (Q : Exit → Act → World → Prop) (S : World → Prop) (l : List Oper) (i j : Nat) (tl : List Nat) (a : Act) (w : World) : Prop :=
  ∃ (oi oj : Oper) (vi vj : Value) (wj : World), ops[i]? = some oi ∧ ops[j]? = some oj ∧ oi.guard = none ∧ oj.guard = none ∧ (execOp a.eval oi).run P w = .ok (.value vi) w ∧ (execOp a.eval oj).run P w = .ok (.value vj) wj ∧
    (execOp (a.put oi.dst vi).eval oj).run P w = .ok (.value vj) wj ∧ (execOp (a.put oj.dst vj).eval oi).run P wj = .ok (.value vi) wj ∧ S wj ∧ (a.put oj.dst vj).put oi.dst vi = (a.put oi.dst vi).put oj.dst vj ∧ wpRowS P ops Q S l tl ((a.put oi.dst vi).put oj.dst vj) wj
theorem held_of_fork (l : List Oper) (ho : ops = l.toArray) {i j : Nat} {tl : List Nat} {listed : Array Bool} {a : Act} {w : World} (h1 : Region.ready .any ops listed = [i, j]) (h2 : Region.ready .any ops (listed.setIfInBounds i true) = [j]) (h3 : Region.ready .any ops (listed.setIfInBounds j true) = [i])
    (h4 : (listed.setIfInBounds j true).setIfInBounds i true = (listed.setIfInBounds i true).setIfInBounds j true) (h5 : seqL .any ops tl ((listed.setIfInBounds i true).setIfInBounds j true) = true) (hS : S w) (h : Fork P ops Q S l i j tl a w) : wpAnyH P .any ops Q S (tl.length + 1 + 1) listed a w := by
  obtain ⟨oi, oj, vi, vj, wj, e1, e2, g1, g2, r1, r2, r3, r4, sj, ea, hr⟩ := h
  have hz := held_of_rowS l ho tl _ _ _ h5 hr
  refine ⟨fun e => (by rw [h1] at e; cases e), fun k hk => ?_⟩
  rw [h1] at hk
  have hk' : k = i ∨ k = j := by simpa using hk
  rcases hk' with rfl | rfl
  · refine wpOp_val e1 g1 r1 ⟨hS, fun e => (by rw [h2] at e; cases e), fun q hq => ?_⟩
    rw [h2] at hq
    have : q = j := by simpa using hq
    subst this
    exact wpOp_val e2 g2 r3 ⟨sj, hz⟩
  · refine wpOp_val e2 g2 r2 ⟨sj, fun e => (by rw [h3] at e; cases e), fun q hq => ?_⟩
    rw [h3] at hq
    have : q = i := by simpa using hq
    subst this
    refine wpOp_val e1 g1 r4 ⟨sj, ?_⟩
    rw [ea, h4]
    exact hz
/-- **THE LAW.** 'tk': what is taken first; then i and j, in either order; then the row. -/
theorem wp_region_forkS {id : Nat} {a : Act} {w : World} {l : List Oper} (S : World → Prop) (tk : List Nat) (i j : Nat) (tl : List Nat) (hm : P.follows .mixedOrders = true)
    (hB : (Region.noSelect l.toArray && takeB .any l.toArray tk (Array.replicate l.toArray.size false) && decide (Region.ready .any l.toArray (tk.foldl (fun l i => l.setIfInBounds i true) (Array.replicate l.toArray.size false)) = [i, j]) &&
      decide (Region.ready .any l.toArray ((tk.foldl (fun l i => l.setIfInBounds i true) (Array.replicate l.toArray.size false)).setIfInBounds i true) = [j]) && decide (Region.ready .any l.toArray ((tk.foldl (fun l i => l.setIfInBounds i true) (Array.replicate l.toArray.size false)).setIfInBounds j true) = [i]) &&
      seqL .any l.toArray tl (((tk.foldl (fun l i => l.setIfInBounds i true) (Array.replicate l.toArray.size false)).setIfInBounds i true).setIfInBounds j true) && decide (tk.length + (tl.length + 1 + 1) = l.toArray.size) &&
      decide (((tk.foldl (fun l i => l.setIfInBounds i true) (Array.replicate l.toArray.size false)).setIfInBounds j true).setIfInBounds i true = ((tk.foldl (fun l i => l.setIfInBounds i true) (Array.replicate l.toArray.size false)).setIfInBounds i true).setIfInBounds j true)) = true)
    (hQ : ∀ c a a' w, Q (.panic c) a w → Q (.panic c) a' w) (hS : S w.drew)
    (h : wpTkS P l.toArray S (fun a' => Fork P l.toArray Q S l i j tl a' w.drew) (opsL l tk) a) : (Code.region id l.toArray true).wp P Q a w := by
  simp only [Bool.and_eq_true, decide_eq_true_eq] at hB
  obtain ⟨⟨⟨⟨⟨⟨⟨hsel, ht⟩, h1⟩, h2⟩, h3⟩, h5⟩, hlen⟩, h4⟩ := hB
  refine wp_region_held (S := S) hm ?_
  have := held_of_tkS (P := P) (Q := Q) l rfl hsel hQ w.drew hS (tl.length + 1 + 1) tk (Array.replicate l.toArray.size false) a ht (tkS_mono (fun a' h' => held_of_fork l rfl h1 h2 h3 h4 h5 hS h') _ _ h)
  rw [hlen] at this
  exact this
end
end Go.Proofs.YtjllkmkngjdjjaaGreatDoor
namespace Go.Proofs.YtjllkmkngjdjjaaGreatDoor
open Go.RowKit
set_option maxRecDepth 100000

theorem zero_bs (w : World) : (zeroValue 35).run Tryz.prog w = .ok (.slice none 0 0) w := by
  obtain ⟨i, hi, hz, hs, hb⟩ := info_parts info_bs
  simp [zeroValue, typeInfo, hi, hz]
theorem under_files : Tryz.prog.underlying 104 = some (.map 9 35) := by kernel_rfl
theorem bclone_calls (v : Value) (l : List UInt8) (w : World) (h : Bs w v l) (hl : l.length ≤ 100000000000000) :
    Calls Tryz.prog 96 #[v] w fun e w' => ∃ v2, e = .returned v2 ∧ OwnB w' w.heap.size v2 l ∧ Below w.heap.size w w' := by
  have HR := Lib.hid h
  obtain ⟨A, c, rfl, a1, a2, a3, -⟩ := h
  unfold maxLen at a2
  cases A with
  | none =>
    have hc := a3 rfl
    subst hc
    have hu : l = [] := List.eq_nil_of_length_eq_zero (by omega)
    subst hu
    have kk := fun (w : World) => Lib.run_eql_slice_nil (P := Tryz.prog) w 35 5 Option.none 0 0 0 0 Tryz.underlying35
    clear a1 a2 a3 hl
    go_enter Tryz.func96, Tryz.ntmps96
    go_wp2
    go_ret
    exact ⟨_, rfl, OwnB.nil _ _, Below.refl _ _⟩
  | some ad =>
    have hb1 := below_alloc1 w (.cells #[] 5)
    have hr1 := HR.out.below hb1
    have HB := Lib.hid hb1
    clear hb1 a3
    have kk := fun (w : World) => Lib.run_eql_slice_nil (P := Tryz.prog) w 35 5 (some ad) l.length c 0 0 Tryz.underlying35
    go_enter Tryz.func96, Tryz.ntmps96
    go_wp2_with (first
      | (at_builtin; refine app_u8 rfl _ _ rfl w.heap.size _ rfl [] (OwnB.zero w) _ rfl l hr1 ?_ ?_ ?_; (· simp; omega); (· simp); intro v2 w2 ho2 hg2 hat2))
    go_ret
    rw [List.nil_append] at ho2
    exact ⟨v2, rfl, ho2, below_grown HB.out hg2 (OwnB.zero w) (by simp)⟩
theorem equalIn_map_nil {P : Program} (d : Nat) (t k e : TypeId) (h : P.underlying t = some (.map k e)) (b : Nat) (w : World) : (Op.equalIn (d + 1) t (.map (some b)) (.map none)).run P w = .ok false w := by
  simp [Op.equalIn, run_underlying h]
theorem eql_map_nil {P : Program} (t k e : TypeId) (h : P.underlying t = some (.map k e)) (b : Nat) (w : World) : (binOp .eql t (.map (some b)) (.map none)).run P w = .ok (.bool false) w := by
  simp only [binOp]
  simp [Op.equal, Op.maxDepth, equalIn_map_nil 9999 t k e h b w]
theorem dnone_calls (x : DT) (s : DSt) (w : World) (B : Nat) (hx : x.At s w B) : Calls Tryz.prog 57 #[.pointer (some ⟨x.p, 0, none⟩)] w fun e w' => e = .returned (.bool false) ∧ w = w' := by
  have c1 := hx.c1
  have kk := fun w => eql_map_nil 104 _ _ under_files x.mb w
  clear hx
  go_enter Tryz.func57, Tryz.ntmps57
  go_wp2
  go_ret
  exact ⟨rfl, rfl⟩
theorem dsector_calls (x : DT) (s : DSt) (w : World) (B : Nat) (hx : x.At s w B) : Calls Tryz.prog 93 #[.pointer (some ⟨x.p, 0, none⟩)] w fun e w' => e = .returned (.int .i64 (s.sec : Int)) ∧ w = w' := by
  have c0 := hx.c0
  have K := Lib.hid (dnone_calls x s w B hx)
  clear hx
  go_enter Tryz.func93, Tryz.ntmps93
  go_wp2_with (go_at_call 57; refine K.out.mono ?_; rintro e w1 ⟨rfl, rfl⟩)
  go_ret
  exact ⟨rfl, rfl⟩
theorem dname_calls (n : ByteArray) (w : World) : Calls Tryz.prog 193 #[.string n] w fun e w' => e = .returned (.bool (nameOk n)) ∧ w = w' := by
  unfold nameOk
  by_cases h1 : 1 ≤ n.size
  · have h2 : decide ((n.size : Int) ≤ 128) = (decide (1 ≤ n.size) && decide (n.size ≤ 128)) := by
      rw [decide_eq_true h1, Bool.true_and]
      exact decide_eq_decide.2 (by omega)
    have H2 := Lib.hid h2
    clear h2
    go_enter Tryz.func193, Tryz.ntmps193
    go_wp2
    go_ret
    exact ⟨by rw [← H2.out]; rfl, rfl⟩
  · rw [decide_eq_false h1, Bool.false_and]
    go_enter Tryz.func193, Tryz.ntmps193
    go_wp2
    go_ret
    exact ⟨rfl, rfl⟩
theorem dwrong_calls (x : DT) (s : DSt) (w : World) (B : Nat) (hx : x.At s w B) (n : ByteArray) (there : Bool) :
    Calls Tryz.prog 139 #[.pointer (some ⟨x.p, 0, none⟩), .string n, .bool there] w fun e w' => e = .returned (.int .i64 (dWrong s n there)) ∧ w = w' := by
  have c1 := hx.c1
  have K := Lib.hid (dnone_calls x s w B hx)
  have KN := Lib.hid (dname_calls n w)
  cases hn : nameOk n with
  | false =>
    have hd : dWrong s n there = 2 := by unfold dWrong; rw [if_pos hn]
    rw [hd]
    rw [hn] at KN
    clear hx
    go_enter Tryz.func139, Tryz.ntmps139
    go_wp2_with (first
      | (go_at_call 57; refine K.out.mono ?_; rintro e w1 ⟨rfl, rfl⟩)
      | (go_at_call 193; refine KN.out.mono ?_; rintro e w1 ⟨rfl, rfl⟩))
    go_ret
    exact ⟨rfl, rfl⟩
  | true =>
    have hsz : n.size ≤ maxLen := by
      simp [nameOk] at hn
      unfold maxLen
      omega
    have hlk := hx.map.look_ok under_files (zero_bs w) n hsz
    rw [hx.vals.dom n] at hlk
    rw [hn] at KN
    have hd : dWrong s n there = match s.fs n with | some _ => (if there then 0 else 120) | none => (if there then 121 else 0) := by unfold dWrong; rw [if_neg (by rw [hn]; simp)]; cases s.fs n <;> rfl
    rw [hd]
    clear hd hsz hx hn
    generalize (x.f n).getD (.slice none 0 0) = v at *
    cases hs : s.fs n with
    | none =>
      rw [hs] at hlk
      simp only [Option.isSome_none] at hlk
      clear hs
      cases there <;>
      · go_enter Tryz.func139, Tryz.ntmps139
        go_wp2_with (first
          | (go_at_call 57; refine K.out.mono ?_; rintro e w1 ⟨rfl, rfl⟩)
          | (go_at_call 193; refine KN.out.mono ?_; rintro e w1 ⟨rfl, rfl⟩))
        go_ret
        exact ⟨rfl, rfl⟩
    | some l =>
      rw [hs] at hlk
      simp only [Option.isSome_some] at hlk
      clear hs
      cases there <;>
      · go_enter Tryz.func139, Tryz.ntmps139
        go_wp2_with (first
          | (go_at_call 57; refine K.out.mono ?_; rintro e w1 ⟨rfl, rfl⟩)
          | (go_at_call 193; refine KN.out.mono ?_; rintro e w1 ⟨rfl, rfl⟩))
        go_ret
        exact ⟨rfl, rfl⟩
end Go.Proofs.YtjllkmkngjdjjaaGreatDoor
namespace Go.Proofs.YtjllkmkngjdjjaaGreatDoor
open Go.RowKit
set_option maxRecDepth 100000
def RawOk (r : RawD) : Prop := r.name.size ≤ 128 ∧ r.to.size ≤ 128 ∧ r.size ≤ 200000000000000 ∧ 1 ≤ r.kind ∧ r.kind ≤ 5
/-- A file's bytes are laid into the map. -/
theorem DMid.put {x : DT} {s : DSt} {r : RawD} {vb : Value} {W wa wc wb : World} {B : Nat} {n : ByteArray} {v : Value} {l' : List UInt8} {row : Option Nat} (hx : x.At s W B) (hba : Below W.heap.size W wa) (hza : W.heap.size + 1 ≤ wa.heap.size) (hbox : wb.rangeAt W.heap.size 0 (rawL r vb))
    (hg : wa.grownBy wc row) (hrow : row = none ∨ ∃ v0, x.f n = some v0 ∧ row = v0.ownBlock) (ho : OwnB wc B v l') (hvk : ∀ k, v.ownBlock = some k → W.heap.size < k ∨ ∃ v0, x.f n = some v0 ∧ v0.ownBlock = some k) (ht : wc.mapTurned wb x.mb) (hmap : MapAt wb x.mb (s.raws.length + 1) (upd x.f n (some v)))
    (hfs : fsDo s.fs r = upd s.fs n (some l')) : DMid x s r vb W B (upd x.f n (some v)) wb := by
  have hmb : x.mb < W.heap.size := hx.lt (.inl (.inr (.inl rfl)))
  have hfl : ∀ n v k, x.f n = some v → v.ownBlock = some k → k < W.heap.size := fun n v k hn hk => hx.lt (.inl (.inr (.inr (.inr ⟨n, v, hn, hk⟩))))
  have hsame : ∀ k, k < W.heap.size → row ≠ some k → k ≠ x.mb → wb.heap[k]? = W.heap[k]? := fun k hk h1 h2 =>
    (turned_block ht h2).trans ((hg.block k (by omega) (fun e => h1 e.symm)).trans (hba.block k hk))
  have hne : ∀ m u k, m ≠ n → x.f m = some u → u.ownBlock = some k → row ≠ some k := fun m u k hm hu hk e => by
    rcases hrow with h | ⟨v0, h0, h⟩
    · rw [h] at e; cases e
    · rw [h] at e
      exact hx.vals.ff n m v0 u h0 hu (Ne.symm hm) k e hk
  obtain ⟨t1, t2, t3⟩ := turned_os ht
  refine ⟨hmap, ?_, fun m z k hz hk => ?_, fun k hk h1 h2 => hsame k hk (fun e => ?_) h2, fun k o hk ho' h2 => hsame k (Array.getElem?_eq_some_iff.1 hk).1 (fun e => ?_) h2, hbox, t1.trans (hg.os.trans hba.os), t2.trans (hg.tape.trans hba.tape), t3.trans (hg.output.trans hba.output), ?_⟩
  · rw [hfs]
    refine ((hx.vals.hole n).kept fun m u k hu hk => ?_).fill (mods_owns ho fun k hk => turned_block ht (fun e => ?_)) (fun m u hm hu k hk hk' => ?_)
    · by_cases e : m = n
      · subst e; rw [upd_same] at hu; cases hu
      · rw [upd_other _ _ e] at hu
        exact hsame k (hfl m u k hu hk) (hne m u k e hu hk) (fun e2 => (hx.fp m u hu).2.1 (by rw [← e2]; exact hk))
    · rcases hvk k hk with h | ⟨v0, h0, h⟩
      · omega
      · exact (hx.fp n v0 h0).2.1 (by rw [← e]; exact h)
    · rcases hvk k hk with h | ⟨v0, h0, h⟩
      · have := hfl m u k hu hk'; omega
      · exact hx.vals.ff n m v0 u h0 hu (Ne.symm hm) k h hk'
  · by_cases e : m = n
    · subst e
      rw [upd_same] at hz; cases hz
      rcases hvk k hk with h | ⟨v0, h0, h⟩
      · exact .inl h
      · exact .inr ⟨m, v0, h0, h⟩
    · rw [upd_other _ _ e] at hz
      exact .inr ⟨m, z, hz, hk⟩
  · rcases hrow with h | ⟨v0, h0, h⟩
    · rw [h] at e; cases e
    · exact h1 n v0 h0 (by rw [← h]; exact e)
  · rcases hrow with h | ⟨v0, h0, h⟩
    · rw [h] at e; cases e
    · obtain ⟨l0, -, o0⟩ := hx.vals.ofv h0
      obtain ⟨ob, g1, g2⟩ := owns_isCells o0 (by rw [← h]; exact e)
      rw [hk] at g1; cases g1
      rw [ho'] at g2; cases g2
  · have := hg.size
    have := turned_size ht
    omega
theorem DMid.record {x : DT} {s : DSt} {r : RawD} {vb vr' : Value} {W w w1 : World} {B : Nat} {f' : ByteArray → Option Value} (hm : DMid x s r vb W B f' w) (hx : x.At s W B) (hvb : OwnB W B vb r.bytes) (hap : ∀ k, vb.ownBlock = some k → ¬ x.Mut k) (hok : RawOk r)
    (ho : w1.ownsRow B 123 5 vr' (s.raws.length + 1) (rawsL s.raws x.us ++ rawL r vb)) (hg : (w.alloc (.cells (rawL r vb).toArray 123)).grownBy w1 x.vr.ownBlock) (hat : vr'.ownBlock = x.vr.ownBlock ∨ vr'.ownBlock = some (w.heap.size + 1)) :
    (DT.mk x.p x.mb vr' f' (x.us ++ [vb])).At (s.run r) (w1.setCell ⟨x.p, 2, none⟩ vr') B ∧ DStepV vb x W (DT.mk x.p x.mb vr' f' (x.us ++ [vb])) (w1.setCell ⟨x.p, 2, none⟩ vr') := by
  have hz := hm.size
  have hz1 : (w.alloc (.cells (rawL r vb).toArray 123)).heap.size = w.heap.size + 1 := by simp
  have hp : x.p < W.heap.size := hx.lt (.inl (.inl rfl))
  have hmb : x.mb < W.heap.size := hx.lt (.inl (.inr (.inl rfl)))
  have hvr : ∀ k, x.vr.ownBlock = some k → k < W.heap.size := fun k hk => hx.lt (.inl (.inr (.inr (.inl hk))))
  have hfl : ∀ n v k, x.f n = some v → v.ownBlock = some k → k < W.heap.size := fun n v k hn hk => hx.lt (.inl (.inr (.inr (.inr ⟨n, v, hn, hk⟩))))
  -- the road from w to the end
  have e1 : ∀ k, k < w.heap.size → x.vr.ownBlock ≠ some k → w1.heap[k]? = w.heap[k]? := fun k hk hne => by
    rw [hg.block k (by omega) (fun e => hne e.symm)]
    exact (below_alloc1 w _).block k hk
  have e2 : ∀ k, k ≠ x.p → (w1.setCell ⟨x.p, 2, none⟩ vr').heap[k]? = w1.heap[k]? := fun k hk => Below.heap_setCell _ _ _ _ hk
  have e3 : ∀ k, k < w.heap.size → x.vr.ownBlock ≠ some k → k ≠ x.p → (w1.setCell ⟨x.p, 2, none⟩ vr').heap[k]? = w.heap[k]? := fun k h1 h2 h3 => (e2 k h3).trans (e1 k h1 h2)
  -- .. from W
  have e4 : ∀ k, k < W.heap.size → ¬ x.Mut k → (w1.setCell ⟨x.p, 2, none⟩ vr').heap[k]? = W.heap[k]? := fun k hk hn =>
    (e3 k (by omega) (fun e => hn (.inr (.inr (.inl e)))) (fun e => hn (.inl e))).trans (hm.block k hk (fun m u hu e => hn (.inr (.inr (.inr ⟨m, u, hu, e⟩)))) (fun e => hn (.inr (.inl e))))
  have hpw : w.heap[x.p]? = W.heap[x.p]? := hm.block x.p hp (fun m u hu => (hx.fp m u hu).1) hx.pm
  have hp1 : w1.heap[x.p]? = W.heap[x.p]? := (e1 x.p (by omega) hx.rp.1).trans hpw
  have hvp : vr'.ownBlock ≠ some x.p := fun e => by
    rcases hat with h | h
    · exact hx.rp.1 (by rw [← h]; exact e)
    · rw [h] at e; have e2 := Option.some.inj e; omega
  have hvm : vr'.ownBlock ≠ some x.mb := fun e => by
    rcases hat with h | h
    · exact hx.rp.2 (by rw [← h]; exact e)
    · rw [h] at e; have e2 := Option.some.inj e; omega
  have hfne : ∀ n v k, f' n = some v → v.ownBlock = some k → x.vr.ownBlock ≠ some k ∧ k ≠ x.p ∧ k ≠ x.mb := fun n v k hn hk => by
    rcases hm.src n v k hn hk with h | ⟨m, u, hu, h⟩
    · exact ⟨fun e => by have := hvr k e; omega, by omega, by omega⟩
    · obtain ⟨a, b, c⟩ := hx.fp m u hu
      exact ⟨fun e => c k h e, fun e => a (by rw [← e]; exact h), fun e => b (by rw [← e]; exact h)⟩
  have hus : ∀ u ∈ x.us ++ [vb], (∀ k, u.ownBlock = some k → k < W.heap.size ∧ ¬ x.Mut k) := fun u hu k hk => by
    rcases List.mem_append.1 hu with h | h
    · exact ⟨hx.lt (.inr ⟨u, h, hk⟩), hx.ro u h k hk⟩
    · simp at h
      subst h
      exact ⟨(hvb.lt k hk).2, hap k hk⟩
  have hc2 := (mods_cell (a := ⟨x.p, 2, none⟩) hp1).trans hx.c2
  refine ⟨⟨hx.low, hx.lowm, ?_, ?_, set_cell hc2 _, set_frozen ((mods_frozen (a := ⟨x.p, 2, none⟩) hp1).trans hx.fr) _, hx.sec, ?_, ?_, ⟨?_, ?_, ?_, ?_⟩, hx.pm, ⟨hvp, hvm⟩, fun n v hn => ⟨fun e => (hfne n v x.p hn e).2.1 rfl, fun e => (hfne n v x.mb hn e).2.2 rfl, fun k hk hk' => ?_⟩, fun u hu k hk hM => ?_⟩, ⟨rfl, ?_, ?_, ?_, ?_, e4, ?_, rfl, fun k hM => ?_, fun u hu => ?_⟩⟩
  · exact (World.cell?_setCell_other w1 _ _ _ (by simp)).trans ((mods_cell (a := ⟨x.p, 0, none⟩) hp1).trans hx.c0)
  · exact (World.cell?_setCell_other w1 _ _ _ (by simp)).trans ((mods_cell (a := ⟨x.p, 1, none⟩) hp1).trans hx.c1)
  · show MapAt _ x.mb (s.raws ++ [r]).length f'
    rw [List.length_append]
    exact hm.map.kept (e3 x.mb (by omega) hx.rp.2 (fun e => hx.pm e.symm))
  · exact hm.vals.kept fun n v k hn hk => e3 k (hm.vals.lt hn hk).2 (hfne n v k hn hk).1 (hfne n v k hn hk).2.1
  · show World.ownsRow _ B _ 5 vr' (s.raws ++ [r]).length (rawsL (s.raws ++ [r]) (x.us ++ [vb]))
    rw [rawsL_append _ _ _ _ hx.raws.ul.symm, rawsL_one, List.length_append]
    exact mods_owns ho fun k hk => e2 k (fun e => hvp (by rw [← e]; exact hk))
  · show (x.us ++ [vb]).length = (s.raws ++ [r]).length
    rw [List.length_append, List.length_append, hx.raws.ul]
    rfl
  · intro j q u hj hu
    by_cases hlt : j < s.raws.length
    · have hj' : s.raws[j]? = some q := by
        have : (s.raws ++ [r])[j]? = some q := hj
        rwa [List.getElem?_append_left hlt] at this
      have hu' : x.us[j]? = some u := by
        have : (x.us ++ [vb])[j]? = some u := hu
        rwa [List.getElem?_append_left (by rw [hx.raws.ul]; exact hlt)] at this
      exact mods_owns (hx.raws.rb j q u hj' hu') fun k hk => e4 k (hus u (List.mem_append_left _ (List.mem_of_getElem? hu')) k hk).1 (hus u (List.mem_append_left _ (List.mem_of_getElem? hu')) k hk).2
    · have hj2 : j < (s.raws ++ [r]).length := (List.getElem?_eq_some_iff.1 hj).1
      have hj3 : j = s.raws.length := by rw [List.length_append, List.length_singleton] at hj2; omega
      subst hj3
      have a1 : (s.raws ++ [r])[s.raws.length]? = some q := hj
      have a2 : (x.us ++ [vb])[s.raws.length]? = some u := hu
      rw [List.getElem?_append_right (Nat.le_refl _)] at a1
      rw [← hx.raws.ul, List.getElem?_append_right (Nat.le_refl _)] at a2
      simp at a1 a2
      subst a1 a2
      exact mods_owns hvb fun k hk => e4 k (hvb.lt k hk).2 (hap k hk)
  · intro q hq
    have : q ∈ s.raws ++ [r] := hq
    rcases List.mem_append.1 this with h | h
    · exact hx.raws.ok q h
    · simp at h; subst h; exact hok
  · rcases hat with h | h
    · exact (hfne n v k hn hk).1 (by rw [← h]; exact hk')
    · have hk2 : vr'.ownBlock = some k := hk'
      rw [h] at hk2; cases hk2
      have := (hm.vals.lt hn hk).2
      omega
  · obtain ⟨h1, h2⟩ := hus u hu k hk
    rcases hM with rfl | rfl | hM | ⟨n, v, hn, hM⟩
    · exact h2 (.inl rfl)
    · exact h2 (.inr (.inl rfl))
    · rcases hat with h | h
      · exact h2 (.inr (.inr (.inl (by rw [← h]; exact hM))))
      · have hk2 : vr'.ownBlock = some k := hM
        rw [h] at hk2; cases hk2
        omega
    · rcases hm.src n v k hn hM with h | ⟨m, u', hu', h⟩
      · omega
      · exact h2 (.inr (.inr (.inr ⟨m, u', hu', h⟩)))
  · exact hg.os.trans hm.os
  · exact hg.tape.trans hm.tape
  · exact hg.output.trans hm.output
  · have h1 := hg.size
    have h2 : (w1.setCell ⟨x.p, 2, none⟩ vr').heap.size = w1.heap.size := by simp [World.setCell]
    omega
  · intro k o hk ho' hne
    have hlt := (Array.getElem?_eq_some_iff.1 hk).1
    refine (e3 k (by omega) (fun e => ?_) (fun e => ?_)).trans (hm.plain k o hk ho' hne)
    · obtain ⟨ob, g1, g2⟩ := owns_isCells hx.raws.row e
      rw [hk] at g1; cases g1
      rw [ho'] at g2; cases g2
    · subst e
      obtain ⟨ob, g1, g2⟩ := cell_isCells hx.c0
      rw [hk] at g1; cases g1
      rw [ho'] at g2; cases g2
  · rcases hM with rfl | rfl | hM | ⟨n, v, hn, hM⟩
    · exact .inl (.inl rfl)
    · exact .inl (.inr (.inl rfl))
    · rcases hat with h | h
      · exact .inl (.inr (.inr (.inl (by rw [← h]; exact hM))))
      · have hk2 : vr'.ownBlock = some k := hM
        rw [h] at hk2; cases hk2
        exact .inr (by omega)
    · rcases hm.src n v k hn hM with h | ⟨m, u', hu', h⟩
      · exact .inr (by omega)
      · exact .inl (.inr (.inr (.inr ⟨m, u', hu', h⟩)))
  · have : u ∈ x.us ++ [vb] := hu
    rcases List.mem_append.1 this with h | h
    · exact .inl h
    · simp at h; exact .inr (.inl h)
end Go.Proofs.YtjllkmkngjdjjaaGreatDoor
