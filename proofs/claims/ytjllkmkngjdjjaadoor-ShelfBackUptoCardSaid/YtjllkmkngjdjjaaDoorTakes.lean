/- A LAW OF MY OWN: a region that draws its order: the operations that yield in whatever world are taken first, wherever they stand; what is left comes up one behind the other. No statement of the seed is proved here. -/
import Derived.Test.YtjllkmkngjdjjaaDoorLib
import Derived.OrdersHeld
import Derived.StillTailTactics
namespace Go.Proofs.YtjllkmkngjdjjaaDoor
section
variable {P : Program} {md : Region.Mode} {ops : Array Oper} {Q : Exit → Act → World → Prop}
def opsL (l : List Oper) : List Nat → List Oper
  | [] => []
  | i :: r => l[i]?.toList ++ opsL l r
def seqL (md : Region.Mode) (ops : Array Oper) : List Nat → Array Bool → Bool
  | [], listed => (Region.ready md ops listed).isEmpty
  | i :: r, listed => (ops[i]?).isSome && decide (Region.ready md ops listed = [i]) && seqL md ops r (listed.setIfInBounds i true)
def takesB (md : Region.Mode) (ops : Array Oper) (tl : List Nat) : List Nat → Array Bool → Bool
  | [], listed => seqL md ops tl listed
  | i :: r, listed => (ops[i]?).isSome && (Region.ready md ops listed).contains i && Region.free md ops listed i && takesB md ops tl r (listed.setIfInBounds i true)
def wpTk (P : Program) (ops : Array Oper) (K : Act → Prop) : List Oper → Act → Prop
  | [], a => K a
  | o :: r, a => ∃ v, YieldsIf P ops (fun _ => True) o v a ∧ wpTk P ops K r (a.put o.dst v)
theorem held_of_any : ∀ (f : Nat) (listed : Array Bool) (a : Act) (w : World), wpAny P md ops Q f listed a w → wpAnyH P md ops Q (fun _ => True) f listed a w
  | 0, _, _, _, h => h
  | f + 1, _, _, _, h => ⟨h.1, fun i hi => wpOp_mono (fun a' w' h' => ⟨trivial, held_of_any f _ a' w' h'⟩) (h.2 i hi)⟩
theorem any_of_seqL (l : List Oper) (ho : ops = l.toArray) : ∀ (tl : List Nat) (listed : Array Bool) (a : Act) (w : World), seqL md ops tl listed = true → wpList P ops Q (opsL l tl) a w → wpAny P md ops Q tl.length listed a w
  | [], _, _, _, hB, h => ⟨by simpa [seqL] using hB, h⟩
  | i :: r, listed, a, w, hB, h => by
    simp only [seqL, Bool.and_eq_true, decide_eq_true_eq] at hB
    obtain ⟨⟨h1, h2⟩, h3⟩ := hB
    obtain ⟨o, h0⟩ := Option.isSome_iff_exists.1 h1
    have hl : l[i]? = some o := by rw [ho] at h0; simpa using h0
    simp only [opsL, hl, Option.toList_some, List.singleton_append] at h
    refine ⟨fun h4 => (by rw [h2] at h4; cases h4), fun j hj => ?_⟩
    rw [h2] at hj
    have hji : j = i := by simpa using hj
    subst hji
    have hw : wpOp P ops Q j (wpList P ops Q (opsL l r)) a w := by unfold wpOp; simp only [h0]; exact h
    exact wpOp_mono (fun a' w' h' => any_of_seqL l ho r _ a' w' h3 h') hw
theorem held_of_takes (l : List Oper) (ho : ops = l.toArray) (hsel : Region.noSelect ops = true) (hQ : ∀ c a a' w, Q (.panic c) a w → Q (.panic c) a' w) (tl : List Nat) : ∀ (tk : List Nat) (listed : Array Bool) (a : Act) (w : World),
    takesB md ops tl tk listed = true → wpTk P ops (fun a' => wpList P ops Q (opsL l tl) a' w) (opsL l tk) a → wpAnyH P md ops Q (fun _ => True) (tk.length + tl.length) listed a w
  | [], listed, a, w, hB, h => by
    rw [List.length_nil, Nat.zero_add]
    exact held_of_any _ _ _ _ (any_of_seqL l ho tl listed a w (by simpa [takesB] using hB) h)
  | i :: r, listed, a, w, hB, h => by
    simp only [takesB, Bool.and_eq_true] at hB
    obtain ⟨⟨⟨h1, h2⟩, h3⟩, h4⟩ := hB
    obtain ⟨o, h0⟩ := Option.isSome_iff_exists.1 h1
    have hl : l[i]? = some o := by rw [ho] at h0; simpa using h0
    simp only [opsL, hl, Option.toList_some, List.singleton_append] at h
    obtain ⟨v, hy, hK⟩ := h
    rw [List.length_cons, show r.length + 1 + tl.length = (r.length + tl.length) + 1 by omega]
    exact wpAnyH_take h0 hsel h3 h2 (fun c a w => hQ c _ _ w) hy trivial (held_of_takes l ho hsel hQ tl r _ _ w h4 hK)
/-- **THE LAW.** 'tk': the numbers of those that are taken first; 'tl': of the others, as they come up. -/
theorem wp_region_takes {id : Nat} {a : Act} {w : World} {l : List Oper} (tk tl : List Nat) (hm : P.follows .mixedOrders = true) (hsel : Region.noSelect l.toArray = true) (hB : takesB .any l.toArray tl tk (Array.replicate l.toArray.size false) = true)
    (hlen : tk.length + tl.length = l.toArray.size) (hQ : ∀ c a a' w, Q (.panic c) a w → Q (.panic c) a' w)
    (h : wpTk P l.toArray (fun a' => wpList P l.toArray Q (opsL l tl) a' w.drew) (opsL l tk) a) : (Code.region id l.toArray true).wp P Q a w := by
  refine wp_region_held (S := fun _ => True) hm ?_
  rw [← hlen]
  have := held_of_takes (md := .any) (Q := Q) l rfl hsel hQ tl tk (Array.replicate l.toArray.size false) a w.drew hB h
  rw [hlen] at this ⊢
  exact this
end
end Go.Proofs.YtjllkmkngjdjjaaDoor
