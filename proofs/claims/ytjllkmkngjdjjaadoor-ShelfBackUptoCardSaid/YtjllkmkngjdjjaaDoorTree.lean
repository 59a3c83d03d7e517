/- A LAW OF MY OWN: a region that draws its order: what only reads memory that stays is taken first; what is left (operations that make memory, each with its known run) comes up in each order that its edges allow. No statement of the seed is proved here. -/
import Derived.Test.YtjllkmkngjdjjaaDoorTakes
namespace Go.Proofs.YtjllkmkngjdjjaaDoor
section
variable {P : Program} {md : Region.Mode} {ops : Array Oper} {Q : Exit → Act → World → Prop} {S : World → Prop}
def takeB (md : Region.Mode) (ops : Array Oper) : List Nat → Array Bool → Bool
  | [], _ => true
  | i :: r, listed => (ops[i]?).isSome && (Region.ready md ops listed).contains i && Region.free md ops listed i && takeB md ops r (listed.setIfInBounds i true)
def wpTkS (P : Program) (ops : Array Oper) (S : World → Prop) (K : Act → Prop) : List Oper → Act → Prop
  | [], a => K a
  | o :: r, a => ∃ v, YieldsIf P ops S o v a ∧ wpTkS P ops S K r (a.put o.dst v)
def wpTreeS (P : Program) (md : Region.Mode) (ops : Array Oper) (Q : Exit → Act → World → Prop) (S : World → Prop) : Nat → Array Bool → Act → World → Prop
  | 0, listed, a, w => Region.ready md ops listed = [] ∧ Q .normal a w
  | f + 1, listed, a, w => Region.ready md ops listed ≠ [] ∧ ∀ i ∈ Region.ready md ops listed, ∃ o v w', ops[i]? = some o ∧ o.guard = none ∧ (execOp a.eval o).run P w = .ok (.value v) w' ∧ S w' ∧ wpTreeS P md ops Q S f (listed.setIfInBounds i true) (a.put o.dst v) w'
theorem held_of_tree : ∀ (f : Nat) (listed : Array Bool) (a : Act) (w : World), wpTreeS P md ops Q S f listed a w → wpAnyH P md ops Q S f listed a w
  | 0, _, _, _, h => h
  | f + 1, listed, a, w, h => ⟨fun h0 => absurd h0 h.1, fun i hi => by
    obtain ⟨o, v, w', h1, h2, h3, h4, h5⟩ := h.2 i hi
    unfold wpOp
    simp only [h1]
    have hw : Region.wanted o (yielded ops a.tmps) = true := by simp [Region.wanted, h2]
    simp only [hw, if_true, Oper.wp, h3, Oper.upon]
    exact .inl ⟨h4, held_of_tree f _ _ _ h5⟩⟩
theorem held_of_takesS (l : List Oper) (ho : ops = l.toArray) (hsel : Region.noSelect ops = true) (hQ : ∀ c a a' w, Q (.panic c) a w → Q (.panic c) a' w) (w : World) (hS : S w) (n : Nat) : ∀ (tk : List Nat) (listed : Array Bool) (a : Act),
    takeB md ops tk listed = true → wpTkS P ops S (fun a' => wpTreeS P md ops Q S n (tk.foldl (fun l i => l.setIfInBounds i true) listed) a' w) (opsL l tk) a → wpAnyH P md ops Q S (tk.length + n) listed a w
  | [], listed, a, _, h => by
    rw [List.length_nil, Nat.zero_add]
    exact held_of_tree _ _ _ _ h
  | i :: r, listed, a, hB, h => by
    simp only [takeB, Bool.and_eq_true] at hB
    obtain ⟨⟨⟨h1, h2⟩, h3⟩, h4⟩ := hB
    obtain ⟨o, h0⟩ := Option.isSome_iff_exists.1 h1
    have hl : l[i]? = some o := by rw [ho] at h0; simpa using h0
    simp only [opsL, hl, Option.toList_some, List.singleton_append] at h
    obtain ⟨v, hy, hK⟩ := h
    rw [List.length_cons, show r.length + 1 + n = (r.length + n) + 1 by omega]
    exact wpAnyH_take h0 hsel h3 h2 (fun c a w => hQ c _ _ w) hy hS (held_of_takesS l ho hsel hQ w hS n r _ _ h4 hK)
/-- **THE LAW.** 'tk': what is taken first; 'S': what each of the others leaves. -/
theorem wp_region_tree {id : Nat} {a : Act} {w : World} {l : List Oper} (S : World → Prop) (tk : List Nat) (n : Nat) (hm : P.follows .mixedOrders = true) (hsel : Region.noSelect l.toArray = true) (hB : takeB .any l.toArray tk (Array.replicate l.toArray.size false) = true)
    (hlen : tk.length + n = l.toArray.size) (hQ : ∀ c a a' w, Q (.panic c) a w → Q (.panic c) a' w) (hS : S w.drew)
    (h : wpTkS P l.toArray S (fun a' => wpTreeS P .any l.toArray Q S n (tk.foldl (fun l i => l.setIfInBounds i true) (Array.replicate l.toArray.size false)) a' w.drew) (opsL l tk) a) : (Code.region id l.toArray true).wp P Q a w := by
  refine wp_region_held (S := S) hm ?_
  have := held_of_takesS (md := .any) (Q := Q) l rfl hsel hQ w.drew hS n tk (Array.replicate l.toArray.size false) a hB h
  rw [hlen] at this
  exact this
theorem tree_one {f i : Nat} {listed : Array Bool} {a : Act} {w : World} (hr : Region.ready md ops listed = [i]) (hi : ∃ o v w', ops[i]? = some o ∧ o.guard = none ∧ (execOp a.eval o).run P w = .ok (.value v) w' ∧ S w' ∧ wpTreeS P md ops Q S f (listed.setIfInBounds i true) (a.put o.dst v) w') :
    wpTreeS P md ops Q S (f + 1) listed a w := ⟨by rw [hr]; simp, fun j hj => by
      rw [hr] at hj
      have : j = i := by simpa using hj
      subst this
      exact hi⟩
theorem tree_two {f i k : Nat} {listed : Array Bool} {a : Act} {w : World} (hr : Region.ready md ops listed = [i, k])
    (hi : ∃ o v w', ops[i]? = some o ∧ o.guard = none ∧ (execOp a.eval o).run P w = .ok (.value v) w' ∧ S w' ∧ wpTreeS P md ops Q S f (listed.setIfInBounds i true) (a.put o.dst v) w')
    (hk : ∃ o v w', ops[k]? = some o ∧ o.guard = none ∧ (execOp a.eval o).run P w = .ok (.value v) w' ∧ S w' ∧ wpTreeS P md ops Q S f (listed.setIfInBounds k true) (a.put o.dst v) w') :
    wpTreeS P md ops Q S (f + 1) listed a w := ⟨by rw [hr]; simp, fun j hj => by
      rw [hr] at hj
      have : j = i ∨ j = k := by simpa using hj
      rcases this with rfl | rfl
      · exact hi
      · exact hk⟩
theorem takesS_run {K : Act → Prop} {o : Oper} {rest : List Oper} {a : Act} (hgd : o.guard = none) (v : Value) (hr : ∀ w, S w → (execOp a.eval o).run P w = .ok (.value v) w) (h : wpTkS P ops S K rest (a.put o.dst v)) : wpTkS P ops S K (o :: rest) a :=
  ⟨v, .inl ⟨by simp [Region.wanted, hgd], hr⟩, h⟩
end
end Go.Proofs.YtjllkmkngjdjjaaDoor
