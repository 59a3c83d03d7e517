/- PLAIN MATHEMATICS of frames one behind the other, cut off anywhere. No program in sight. No statement of the seed is proved here. -/
import Derived.Test.YthgjecofmnomfaaDoorFrameI
namespace Go.Proofs.YthgjecofmnomfaaDoor

def frs (ms : List (List UInt8)) : List UInt8 := ms.flatMap fr
def endsL : Nat → List (List UInt8) → List Nat
  | _, [] => []
  | a, m :: r => (a + (8 + m.length)) :: endsL (a + (8 + m.length)) r
def told : Nat → List (List UInt8) → Nat → List (Nat × List UInt8)
  | _, [], _ => []
  | a, m :: r, k => if 8 + m.length ≤ k then (a + (8 + m.length), m) :: told (a + (8 + m.length)) r (k - (8 + m.length)) else []

theorem fr_head (m : List UInt8) : (fr m).take 4 = be 4 m.length := by
  unfold fr
  rw [List.append_assoc, List.take_left' (be_length 4 _)]
theorem frRead_frame (pre m rest : List UInt8) (hm : m.length ≤ 1048576) : frRead (pre ++ (fr m ++ rest)) (pre.length : Int) = (m, ((pre.length + (8 + m.length) : Nat) : Int), 0) := by
  have hl : (pre ++ (fr m ++ rest)).length = pre.length + (8 + m.length) + rest.length := by rw [List.length_append, List.length_append, fr_length]; omega
  have h4 := be_length 4 m.length
  have s4 := be_length 4 (ext (ext 0 (be 4 m.length)) m)
  have hd : (pre ++ (fr m ++ rest)).drop pre.length = be 4 m.length ++ (be 4 (ext (ext 0 (be 4 m.length)) m) ++ (m ++ rest)) := by
    rw [List.drop_left]; unfold fr; simp only [List.append_assoc]
  have hd4 : (pre ++ (fr m ++ rest)).drop (pre.length + 4) = be 4 (ext (ext 0 (be 4 m.length)) m) ++ (m ++ rest) := by
    rw [← List.drop_drop, hd]; exact List.drop_left' h4
  have hd8 : (pre ++ (fr m ++ rest)).drop (pre.length + 8) = m ++ rest := by
    rw [show pre.length + 8 = (pre.length + 4) + 4 by omega, ← List.drop_drop, hd4]; exact List.drop_left' s4
  have hx := ext_lt (ext 0 (be 4 m.length)) m (ext_lt 0 _ (by omega))
  have t1 : ((pre ++ (fr m ++ rest)).drop pre.length).take 4 = be 4 m.length := by rw [hd]; exact List.take_left' h4
  have t2 : ((pre ++ (fr m ++ rest)).drop (pre.length + 4)).take 4 = be 4 (ext (ext 0 (be 4 m.length)) m) := by rw [hd4]; exact List.take_left' s4
  have n1 : beNat (be 4 m.length) = m.length := beNat_be 4 _ (by omega)
  have n2 : beNat (be 4 (ext (ext 0 (be 4 m.length)) m)) = ext (ext 0 (be 4 m.length)) m := beNat_be 4 _ (by omega)
  unfold frRead
  rw [show ((pre.length : Int)).toNat = pre.length from rfl, t1, t2, n1, n2, hd8, List.take_left' rfl, hl]
  rw [if_neg (by omega), if_neg (by omega), if_neg (by omega), if_neg (by omega), if_neg (by simp)]
  congr 2
  omega
theorem frRead_part (pre m : List UInt8) (hm : m.length ≤ 1048576) (k : Nat) (hk : k < 8 + m.length) : frRead (pre ++ (fr m).take k) (pre.length : Int) = ([], 0, 111) := by
  have hkl : ((fr m).take k).length = k := by rw [List.length_take, fr_length]; omega
  have hl : (pre ++ (fr m).take k).length = pre.length + k := by rw [List.length_append, hkl]
  unfold frRead
  rw [show ((pre.length : Int)).toNat = pre.length from rfl, hl]
  rw [if_neg (by omega)]
  by_cases h8 : k < 8
  · rw [if_pos (by omega)]
  · rw [if_neg (by omega)]
    have t1 : ((pre ++ (fr m).take k).drop pre.length).take 4 = be 4 m.length := by
      rw [List.drop_left, List.take_take, show min 4 k = 4 by omega, fr_head]
    have n1 : beNat (be 4 m.length) = m.length := beNat_be 4 _ (by omega)
    rw [t1, n1, if_neg (by omega), if_pos (by omega)]
theorem told_eq : ∀ (ms : List (List UInt8)) (pre : List UInt8) (k : Nat), (∀ m ∈ ms, m.length ≤ 1048576) → allF (pre ++ (frs ms).take k) pre.length = told pre.length ms k
  | [], pre, k, _ => by
    simp only [frs, List.flatMap_nil, List.take_nil, List.append_nil, told]
    exact allF_bad (by omega)
  | m :: r, pre, k, h => by
    have hm := h m (by simp)
    have hfr : frs (m :: r) = fr m ++ frs r := by simp [frs]
    rw [hfr]
    unfold told
    by_cases hk : 8 + m.length ≤ k
    · rw [if_pos hk]
      have ht : (fr m ++ frs r).take k = fr m ++ (frs r).take (k - (8 + m.length)) := by
        rw [List.take_append, List.take_of_length_le (by rw [fr_length]; omega), fr_length]
      rw [ht, allF_ok (frRead_frame pre m _ hm)]
      have hp : (pre ++ fr m).length = pre.length + (8 + m.length) := by rw [List.length_append, fr_length]
      have ih := told_eq r (pre ++ fr m) (k - (8 + m.length)) (fun x hx => h x (by simp [hx]))
      rw [hp, List.append_assoc] at ih
      rw [Int.toNat_natCast, ih]
    · rw [if_neg hk]
      have ht : (fr m ++ frs r).take k = (fr m).take k := by
        rw [List.take_append, fr_length, show k - (8 + m.length) = 0 by omega]; simp
      rw [ht]
      have := frRead_part pre m hm k (by omega)
      exact allF_bad (by rw [this]; simp)
theorem endF_cons (a : Nat) (x : Nat × List UInt8) (xs : List (Nat × List UInt8)) : endF a (x :: xs) = endF x.1 xs := by
  cases xs with
  | nil => simp [endF]
  | cons y ys =>
    simp only [endF, List.getLast?_cons_cons]
    cases h : (y :: ys).getLast? with
    | none => simp at h
    | some z => rfl
theorem told_err : ∀ (ms : List (List UInt8)) (pre : List UInt8) (k : Nat), (∀ m ∈ ms, m.length ≤ 1048576) → k ≤ (frs ms).length →
    errAt (pre ++ (frs ms).take k) (endF pre.length (told pre.length ms k)) = (if endF pre.length (told pre.length ms k) = pre.length + k then 0 else 111) ∧ endF pre.length (told pre.length ms k) ≤ pre.length + k
  | [], pre, k, _, hk => by
    have h0 : k = 0 := by simpa [frs] using hk
    subst h0
    simp [told, endF, frs, errAt]
  | m :: r, pre, k, h, hk0 => by
    have hm := h m (by simp)
    have hfr : frs (m :: r) = fr m ++ frs r := by simp [frs]
    rw [hfr, List.length_append, fr_length] at hk0
    rw [hfr]
    unfold told
    by_cases hk : 8 + m.length ≤ k
    · rw [if_pos hk]
      have ht : (fr m ++ frs r).take k = fr m ++ (frs r).take (k - (8 + m.length)) := by
        rw [List.take_append, List.take_of_length_le (by rw [fr_length]; omega), fr_length]
      have hp : (pre ++ fr m).length = pre.length + (8 + m.length) := by rw [List.length_append, fr_length]
      have ih := told_err r (pre ++ fr m) (k - (8 + m.length)) (fun x hx => h x (by simp [hx])) (by omega)
      rw [hp, List.append_assoc, ← ht] at ih
      rw [endF_cons, show pre.length + (8 + m.length) + (k - (8 + m.length)) = pre.length + k by omega] at *
      exact ih
    · rw [if_neg hk]
      have ht : (fr m ++ frs r).take k = (fr m).take k := by
        rw [List.take_append, fr_length, show k - (8 + m.length) = 0 by omega]; simp
      rw [ht]
      simp only [endF_nil]
      have hkl : ((fr m).take k).length = k := by rw [List.length_take, fr_length]; omega
      unfold errAt
      rw [List.length_append, hkl]
      refine ⟨?_, by omega⟩
      by_cases h0 : k = 0
      · subst h0; simp
      · rw [if_neg (by omega), frRead_part pre m hm k (by omega)]
        have hne : ¬ pre.length = pre.length + k := by omega
        simp only [hne, if_false]
theorem told_get : ∀ (ms : List (List UInt8)) (a k i : Nat) (x : Nat × List UInt8), (told a ms k)[i]? = some x → (endsL a ms)[i]? = some x.1 ∧ ms[i]? = some x.2 ∧ x.1 ≤ a + k
  | [], _, _, _, _, h => by simp [told] at h
  | m :: r, a, k, i, x, h => by
    unfold told at h
    by_cases hk : 8 + m.length ≤ k
    · rw [if_pos hk] at h
      cases i with
      | zero =>
        simp only [List.getElem?_cons_zero, Option.some.injEq] at h
        subst h
        exact ⟨rfl, rfl, by simp only; omega⟩
      | succ i =>
        simp only [List.getElem?_cons_succ] at h
        obtain ⟨h1, h2, h3⟩ := told_get r _ _ _ _ h
        exact ⟨by unfold endsL; simpa using h1, by simpa using h2, by omega⟩
    · rw [if_neg hk] at h; simp at h
theorem told_next : ∀ (ms : List (List UInt8)) (a k : Nat), (told a ms k).length = ms.length ∨ ∃ e, (endsL a ms)[(told a ms k).length]? = some e ∧ a + k < e
  | [], _, _ => .inl rfl
  | m :: r, a, k => by
    unfold told
    by_cases hk : 8 + m.length ≤ k
    · rw [if_pos hk]
      rcases told_next r (a + (8 + m.length)) (k - (8 + m.length)) with h | ⟨e, h1, h2⟩
      · exact .inl (by simp [h])
      · exact .inr ⟨e, by unfold endsL; simpa using h1, by omega⟩
    · rw [if_neg hk]
      exact .inr ⟨a + (8 + m.length), rfl, by omega⟩
theorem told_le (ms : List (List UInt8)) (a k : Nat) : (told a ms k).length ≤ ms.length := by
  by_cases h : (told a ms k).length ≤ ms.length
  · exact h
  · have hi : ms.length < (told a ms k).length := by omega
    have := (told_get ms a k ms.length _ (List.getElem?_eq_getElem hi)).2.1
    simp at this
theorem endsL_length : ∀ (ms : List (List UInt8)) (a : Nat), (endsL a ms).length = ms.length
  | [], _ => rfl
  | m :: r, a => by simp [endsL, endsL_length r]
theorem endsL_snoc : ∀ (ms : List (List UInt8)) (a : Nat) (m : List UInt8), endsL a (ms ++ [m]) = endsL a ms ++ [a + (frs (ms ++ [m])).length]
  | [], a, m => by simp [endsL, frs, fr_length]
  | x :: r, a, m => by
    have := endsL_snoc r (a + (8 + x.length)) m
    simp only [List.cons_append, endsL, this]
    congr 3
    simp [frs, fr_length]
    omega
theorem frs_snoc (ms : List (List UInt8)) (m : List UInt8) : frs (ms ++ [m]) = frs ms ++ fr m := by simp [frs]
theorem frs_length : ∀ (ms : List (List UInt8)), (frs ms).length = 8 * ms.length + (ms.map List.length).sum
  | [] => rfl
  | m :: r => by
    have : frs (m :: r) = fr m ++ frs r := by simp [frs]
    rw [this, List.length_append, fr_length, frs_length r]
    simp
    omega
end Go.Proofs.YthgjecofmnomfaaDoor
