/- PLAIN MATHEMATICS of frames one behind the other. No program in sight but 'frRead' (what is read at a place). No statement of the seed is proved here. -/
import Derived.Test.YthgjecofmnomfaaDoorFrameP
namespace Go.Proofs.YthgjecofmnomfaaDoor

theorem frRead_ok {l m : List UInt8} {at_ : Nat} {q : Int} (h : frRead l (at_ : Int) = (m, q, 0)) :
    at_ + 8 + m.length ≤ l.length ∧ q = ((at_ + 8 + m.length : Nat) : Int) ∧ m = (l.drop (at_ + 8)).take m.length ∧ m.length = beNat ((l.drop at_).take 4) ∧ m.length ≤ 1048576 ∧
      beNat ((l.drop (at_ + 4)).take 4) = ext (ext 0 ((l.drop at_).take 4)) m := by
  unfold frRead at h
  by_cases c1 : (at_ : Int) < 0 ∨ (l.length : Int) < at_
  · rw [if_pos c1] at h; simp at h
  rw [if_neg c1] at h
  by_cases c2 : (l.length : Int) - at_ < 8
  · rw [if_pos c2] at h; simp at h
  rw [if_neg c2] at h
  rw [show (at_ : Int).toNat = at_ from rfl] at h
  by_cases c3 : 1048576 < beNat ((l.drop at_).take 4)
  · rw [if_pos c3] at h; simp at h
  rw [if_neg c3] at h
  by_cases c4 : (l.length : Int) - at_ - 8 < beNat ((l.drop at_).take 4)
  · rw [if_pos c4] at h; simp at h
  rw [if_neg c4] at h
  by_cases c5 : beNat ((l.drop (at_ + 4)).take 4) ≠ ext (ext 0 ((l.drop at_).take 4)) ((l.drop (at_ + 8)).take (beNat ((l.drop at_).take 4)))
  · rw [if_pos c5] at h; simp at h
  rw [if_neg c5] at h
  simp only [Prod.mk.injEq, and_true] at h
  obtain ⟨h1, h2⟩ := h
  have hm : m.length = beNat ((l.drop at_).take 4) := by rw [← h1, List.length_take, List.length_drop]; omega
  refine ⟨by omega, by omega, by rw [hm]; exact h1.symm, hm, by omega, ?_⟩
  rw [← h1]
  exact Decidable.not_not.1 c5

/-- The frames from a place on, each with the place behind it. -/
def frAll : Nat → List UInt8 → Nat → List (Nat × List UInt8)
  | 0, _, _ => []
  | k + 1, l, at_ => if at_ < l.length ∧ (frRead l at_).2.2 = 0 then ((frRead l at_).2.1.toNat, (frRead l at_).1) :: frAll k l (frRead l at_).2.1.toNat else []
theorem frAll_more (l : List UInt8) : ∀ (k at_ : Nat), l.length ≤ at_ + k → frAll (k + 1) l at_ = frAll k l at_ := by
  intro k
  induction k with
  | zero =>
    intro at_ h
    simp only [frAll]
    rw [if_neg (by omega)]
  | succ k ih =>
    intro at_ h
    conv => lhs; unfold frAll
    conv => rhs; unfold frAll
    by_cases c : at_ < l.length ∧ (frRead l at_).2.2 = 0
    · rw [if_pos c, if_pos c]
      obtain ⟨m, q, x, hr⟩ : ∃ m q x, frRead l (at_ : Int) = (m, q, x) := ⟨_, _, _, rfl⟩
      have hx : x = 0 := by have := c.2; rw [hr] at this; exact this
      subst hx
      obtain ⟨a1, a2, _⟩ := frRead_ok hr
      rw [hr]
      simp only
      rw [ih]
      rw [a2]
      simp
      omega
    · rw [if_neg c, if_neg c]
def allF (l : List UInt8) (at_ : Nat) : List (Nat × List UInt8) := frAll l.length l at_
theorem allF_ok {l m : List UInt8} {at_ : Nat} {q : Int} (h : frRead l (at_ : Int) = (m, q, 0)) : allF l at_ = (q.toNat, m) :: allF l q.toNat := by
  obtain ⟨a1, a2, _⟩ := frRead_ok h
  unfold allF
  rw [← frAll_more l l.length at_ (by omega)]
  conv => lhs; unfold frAll
  rw [if_pos ⟨by omega, by rw [h]⟩, h]
theorem allF_bad {l : List UInt8} {at_ : Nat} (h : ¬ (at_ < l.length ∧ (frRead l at_).2.2 = 0)) : allF l at_ = [] := by
  unfold allF
  rw [← frAll_more l l.length at_ (by omega)]
  conv => lhs; unfold frAll
  rw [if_neg h]
/-- Where the frames end that are whole. -/
def endF (at_ : Nat) (xs : List (Nat × List UInt8)) : Nat := match xs.getLast? with | some x => x.1 | none => at_
theorem endF_nil (at_ : Nat) : endF at_ [] = at_ := rfl
theorem endF_snoc (at_ : Nat) (xs : List (Nat × List UInt8)) (x : Nat × List UInt8) : endF at_ (xs ++ [x]) = x.1 := by simp [endF]
/-- What is told from the place behind a beginning of it. -/
theorem allF_pre (l : List UInt8) : ∀ (pre rest : List (Nat × List UInt8)) (at_ : Nat), allF l at_ = pre ++ rest → rest = allF l (endF at_ pre) := by
  intro pre
  refine snoc_ind (P := fun pre => ∀ (rest : List (Nat × List UInt8)) (at_ : Nat), allF l at_ = pre ++ rest → rest = allF l (endF at_ pre)) ?_ ?_ pre
  · intro rest at_ h; rw [List.nil_append] at h; exact h.symm
  · intro pre x ih rest at_ h
    rw [List.append_assoc] at h
    have h1 := ih ([x] ++ rest) at_ h
    rw [endF_snoc]
    obtain ⟨m, q, y, hr⟩ : ∃ m q y, frRead l ((endF at_ pre : Nat) : Int) = (m, q, y) := ⟨_, _, _, rfl⟩
    by_cases hy : y = 0
    · subst hy
      rw [allF_ok hr] at h1
      simp only [List.cons_append, List.nil_append, List.cons.injEq] at h1
      rw [h1.1]
      exact h1.2
    · rw [allF_bad (fun c => hy (by have := c.2; rw [hr] at this; exact this))] at h1
      simp at h1
theorem endF_le (l : List UInt8) (pre rest : List (Nat × List UInt8)) (h : allF l 0 = pre ++ rest) : endF 0 pre ≤ l.length := by
  rcases List.eq_nil_or_concat pre with e | ⟨p, x, e⟩
  · subst e; simp [endF]
  · rw [List.concat_eq_append] at e
    subst e
    rw [endF_snoc]
    rw [List.append_assoc] at h
    have h1 := allF_pre l p ([x] ++ rest) 0 h
    obtain ⟨m, q, y, hr⟩ : ∃ m q y, frRead l ((endF 0 p : Nat) : Int) = (m, q, y) := ⟨_, _, _, rfl⟩
    by_cases hy : y = 0
    · subst hy
      rw [allF_ok hr] at h1
      simp only [List.cons_append, List.nil_append, List.cons.injEq] at h1
      obtain ⟨a1, a2, _⟩ := frRead_ok hr
      rw [h1.1]
      simp only
      omega
    · rw [allF_bad (fun c => hy (by have := c.2; rw [hr] at this; exact this))] at h1
      simp at h1
end Go.Proofs.YthgjecofmnomfaaDoor
