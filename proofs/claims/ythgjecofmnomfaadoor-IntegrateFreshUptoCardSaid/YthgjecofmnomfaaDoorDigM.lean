/- PLAIN MATHEMATICS of an index of digests: runs that are merged, a list that is sorted. No program in sight. No statement of the seed is proved here. -/
import Derived.Lib.Bytealg
namespace Go.Proofs.YthgjecofmnomfaaDoor

abbrev Item := List UInt8 × Int
def dval (l : List UInt8) : Nat := l.foldl (fun n x => n * 256 + x.toNat) 0
theorem foldl_dval (l : List UInt8) : ∀ n, l.foldl (fun n (x : UInt8) => n * 256 + x.toNat) n = n * 256 ^ l.length + dval l := by
  induction l with
  | nil => intro n; simp [dval]
  | cons x l ih =>
    intro n
    have h0 := ih (0 * 256 + x.toNat)
    unfold dval
    simp only [List.foldl_cons, List.length_cons]
    rw [ih, h0]
    simp only [Nat.zero_mul, Nat.zero_add, Nat.pow_succ]
    rw [Nat.add_mul, Nat.mul_assoc, Nat.mul_comm 256, Nat.add_assoc]
theorem dval_cons (x : UInt8) (l : List UInt8) : dval (x :: l) = x.toNat * 256 ^ l.length + dval l := by
  have := foldl_dval l (0 * 256 + x.toNat)
  unfold dval at this ⊢
  simp only [List.foldl_cons]
  rw [this]
  simp
theorem dval_lt (l : List UInt8) : dval l < 256 ^ l.length := by
  induction l with
  | nil => simp [dval]
  | cons x l ih =>
    rw [dval_cons, List.length_cons, Nat.pow_succ]
    have hx : x.toNat < 256 := UInt8.toNat_lt x
    have : x.toNat * 256 ^ l.length + 256 ^ l.length ≤ 256 ^ l.length * 256 := by
      rw [← Nat.succ_mul, Nat.mul_comm (256 ^ l.length)]
      exact Nat.mul_le_mul_right _ hx
    omega
theorem cmp_cases : ∀ (a b : List UInt8), a.length = b.length →
    (Lib.compareBytes a b = -1 ∧ dval a < dval b) ∨ (Lib.compareBytes a b = 0 ∧ a = b) ∨ (Lib.compareBytes a b = 1 ∧ dval b < dval a)
  | [], [], _ => by simp [Lib.compareBytes]
  | [], y :: b, h => by simp at h
  | x :: a, [], h => by simp at h
  | x :: a, y :: b, h => by
    have hl : a.length = b.length := by simpa using h
    have ih := cmp_cases a b hl
    have ha := dval_lt a
    have hb := dval_lt b
    rw [hl] at ha
    have key : ∀ p q : Nat, p < q → p * 256 ^ b.length + 256 ^ b.length ≤ q * 256 ^ b.length := fun p q hpq => by
      rw [← Nat.succ_mul]; exact Nat.mul_le_mul_right _ hpq
    have hxy : x < y ↔ x.toNat < y.toNat := UInt8.lt_iff_toNat_lt
    have hyx : y < x ↔ y.toNat < x.toNat := UInt8.lt_iff_toNat_lt
    rw [dval_cons, dval_cons, hl]
    rcases Nat.lt_trichotomy x.toNat y.toNat with c | c | c
    · have := key _ _ c
      refine .inl ⟨by simp only [Lib.compareBytes, hxy.2 c, if_true], by omega⟩
    · have e : x = y := UInt8.toNat_inj.1 c
      subst e
      have n1 : ¬ x < x := by rw [UInt8.lt_iff_toNat_lt]; omega
      simp only [Lib.compareBytes, n1, if_false]
      rcases ih with ⟨h1, h2⟩ | ⟨h1, h2⟩ | ⟨h1, h2⟩
      · exact .inl ⟨h1, by omega⟩
      · exact .inr (.inl ⟨h1, by rw [h2]⟩)
      · exact .inr (.inr ⟨h1, by omega⟩)
    · have := key _ _ c
      have n1 : ¬ x < y := by rw [hxy]; omega
      refine .inr (.inr ⟨by simp only [Lib.compareBytes, n1, hyx.2 c, if_true, if_false], by omega⟩)
theorem cmp_lt {a b : List UInt8} (h : a.length = b.length) : Lib.compareBytes a b < 0 ↔ dval a < dval b := by
  rcases cmp_cases a b h with ⟨h1, h2⟩ | ⟨h1, h2⟩ | ⟨h1, h2⟩
  · simp [h1, h2]
  · subst h2; simp [h1]
  · rw [h1]; constructor <;> intro <;> omega
theorem dval_inj {a b : List UInt8} (h : a.length = b.length) (e : dval a = dval b) : a = b := by
  rcases cmp_cases a b h with ⟨_, h2⟩ | ⟨_, h2⟩ | ⟨_, h2⟩
  · omega
  · exact h2
  · omega

def leI (x y : Item) : Bool := decide (dval x.1 ≤ dval y.1)
def SortedI (l : List Item) : Prop := l.Pairwise fun x y => leI x y = true
theorem leI_trans (a b c : Item) (h1 : leI a b = true) (h2 : leI b c = true) : leI a c = true := by simp [leI] at *; omega
theorem leI_total (a b : Item) : (leI a b || leI b a) = true := by simp [leI]; omega
theorem sorted_merge {a b : List Item} (ha : SortedI a) (hb : SortedI b) : SortedI (a.merge b leI) := List.pairwise_merge leI_trans leI_total a b ha hb
theorem merge_perm (a b : List Item) : (a.merge b leI).Perm (a ++ b) := List.merge_perm_append leI
theorem merge_length (a b : List Item) : (a.merge b leI).length = a.length + b.length := by rw [(merge_perm a b).length_eq, List.length_append]
def mergeAll (rs : List (List Item)) : List Item := rs.foldl (fun a r => a.merge r leI) []
theorem mergeAll_gen : ∀ (rs : List (List Item)) (a : List Item), SortedI a → (∀ r ∈ rs, SortedI r) → SortedI (rs.foldl (fun a r => a.merge r leI) a) ∧ (rs.foldl (fun a r => a.merge r leI) a).Perm (a ++ rs.flatten)
  | [], a, ha, _ => by simp; exact ha
  | r :: rs, a, ha, h => by
    obtain ⟨h1, h2⟩ := mergeAll_gen rs (a.merge r leI) (sorted_merge ha (h r (by simp))) (fun x hx => h x (by simp [hx]))
    refine ⟨h1, h2.trans ?_⟩
    rw [List.flatten_cons, ← List.append_assoc]
    exact (merge_perm a r).append_right _
theorem mergeAll_snoc (rs : List (List Item)) (r : List Item) : mergeAll (rs ++ [r]) = (mergeAll rs).merge r leI := by simp [mergeAll]

/-- A run is carried: the last ones that are as long are merged into it (the list is turned round: the newest first). -/
def carry : List (List Item) → List Item → List (List Item)
  | [], run => [run]
  | r :: rr, run => if r.length = run.length then carry rr (r.merge run leI) else run :: r :: rr
def addRuns (rs : List (List Item)) (x : Item) : List (List Item) := (carry rs.reverse [x]).reverse
def carryN : List Nat → Nat → List Nat
  | [], n => [n]
  | r :: rr, n => if r = n then carryN rr (2 * n) else n :: r :: rr
def addN (ns : List Nat) : List Nat := (carryN ns.reverse 1).reverse
theorem carry_lens : ∀ (rr : List (List Item)) (run : List Item), (carry rr run).map List.length = carryN (rr.map List.length) run.length
  | [], run => rfl
  | r :: rr, run => by
    unfold carry
    simp only [List.map_cons, carryN]
    by_cases h : r.length = run.length
    · rw [if_pos h, if_pos h, carry_lens rr, merge_length, h]
      congr 1
      omega
    · rw [if_neg h, if_neg h]; rfl
theorem addRuns_lens (rs : List (List Item)) (x : Item) : (addRuns rs x).map List.length = addN (rs.map List.length) := by
  unfold addRuns addN
  rw [List.map_reverse, carry_lens, List.map_reverse]
  rfl
theorem carry_perm : ∀ (rr : List (List Item)) (run : List Item), (carry rr run).flatten.Perm (run ++ rr.flatten)
  | [], run => by simp [carry]
  | r :: rr, run => by
    unfold carry
    by_cases h : r.length = run.length
    · rw [if_pos h]
      refine (carry_perm rr _).trans ?_
      rw [List.flatten_cons, ← List.append_assoc]
      exact ((merge_perm r run).trans List.perm_append_comm).append_right _
    · rw [if_neg h]; simp
theorem carry_sorted : ∀ (rr : List (List Item)) (run : List Item), SortedI run → (∀ r ∈ rr, SortedI r) → ∀ r ∈ carry rr run, SortedI r
  | [], run, h, _ => by simpa [carry] using h
  | r :: rr, run, h, hr => by
    unfold carry
    by_cases e : r.length = run.length
    · rw [if_pos e]
      exact carry_sorted rr _ (sorted_merge (hr r (by simp)) h) (fun x hx => hr x (by simp [hx]))
    · rw [if_neg e]
      intro x hx
      rcases List.mem_cons.1 hx with rfl | hx
      · exact h
      · exact hr x hx
theorem flatten_reverse_perm : ∀ (rs : List (List Item)), rs.reverse.flatten.Perm rs.flatten
  | [] => by simp
  | r :: rs => by
    rw [List.reverse_cons, List.flatten_append, List.flatten_cons]
    simp only [List.flatten_cons, List.flatten_nil, List.append_nil]
    exact List.perm_append_comm.trans ((flatten_reverse_perm rs).append_left r)
theorem addRuns_perm (rs : List (List Item)) (x : Item) : (addRuns rs x).flatten.Perm (x :: rs.flatten) := by
  unfold addRuns
  refine (flatten_reverse_perm _).trans ((carry_perm _ _).trans ?_)
  exact (flatten_reverse_perm rs).cons x
theorem addRuns_sorted {rs : List (List Item)} (h : ∀ r ∈ rs, SortedI r) (x : Item) : ∀ r ∈ addRuns rs x, SortedI r := by
  intro r hr
  unfold addRuns at hr
  exact carry_sorted rs.reverse [x] (List.pairwise_singleton _ _) (fun y hy => h y (by simpa using hy)) r (by simpa using hr)

/-- What is found. -/
def findI (l : List Item) (d : List UInt8) : Option Item := l.find? fun x => x.1 == d
def findV (l : List Item) (d : List UInt8) : Int × Bool := match findI l d with | some x => (x.2, true) | none => (0, false)
/-- Where a new one goes. -/
def cutAt (l : List Item) (d : List UInt8) : Nat := (l.takeWhile fun x => decide (dval x.1 < dval d)).length
def insI (l : List Item) (x : Item) : List Item := l.take (cutAt l x.1) ++ x :: l.drop (cutAt l x.1)

/-- An index's runs and the sorted list of its items. -/
structure Good (rs : List (List Item)) (items : List Item) : Prop where
  wid : ∀ x ∈ items, x.1.length = 32
  sorted : items.Pairwise fun x y => dval x.1 < dval y.1
  perm : rs.flatten.Perm items
  runs : ∀ r ∈ rs, SortedI r
  ne : ∀ r ∈ rs, r ≠ []
theorem Good.nil : Good [] [] := ⟨by simp, List.Pairwise.nil, by simp, by simp, by simp⟩
theorem SortedI.of_strict {l : List Item} (h : l.Pairwise fun x y => dval x.1 < dval y.1) : SortedI l := h.imp (by intro a b h; simp [leI]; omega)
theorem strict_inj {l : List Item} (hw : ∀ x ∈ l, x.1.length = 32) (hs : l.Pairwise fun x y => dval x.1 < dval y.1) {x y : Item} (hx : x ∈ l) (hy : y ∈ l) (e : x.1 = y.1) : x = y := by
  induction l with
  | nil => cases hx
  | cons a l ih =>
    rw [List.pairwise_cons] at hs
    rcases List.mem_cons.1 hx with rfl | hx' <;> rcases List.mem_cons.1 hy with rfl | hy'
    · rfl
    · have := hs.1 y hy'; rw [e] at this; omega
    · have := hs.1 x hx'; rw [e] at this; omega
    · exact ih (fun z hz => hw z (by simp [hz])) hs.2 hx' hy'
/-- All of them, rising: the merged runs are the sorted list. -/
theorem Good.all {rs : List (List Item)} {items : List Item} (g : Good rs items) : mergeAll rs = items := by
  obtain ⟨h1, h2⟩ := mergeAll_gen rs [] List.Pairwise.nil g.runs
  rw [List.nil_append] at h2
  refine List.Perm.eq_of_pairwise (le := fun x y => leI x y = true) ?_ h1 (SortedI.of_strict g.sorted) (h2.trans g.perm)
  intro a b ha hb hab hba
  have ha' : a ∈ items := (h2.trans g.perm).mem_iff.1 ha
  simp [leI] at hab hba
  exact strict_inj g.wid g.sorted ha' hb (dval_inj (by rw [g.wid a ha', g.wid b hb]) (by omega))
theorem find_perm {l m items : List Item} (hw : ∀ x ∈ items, x.1.length = 32) (hs : items.Pairwise fun x y => dval x.1 < dval y.1) (h1 : l.Perm items) (h2 : m.Perm items) (d : List UInt8) : findI l d = findI m d := by
  cases h : findI l d with
  | none =>
    cases k : findI m d with
    | none => rfl
    | some y =>
      unfold findI at h k
      have hy := List.mem_of_find?_eq_some k
      have ey := List.find?_some k
      have := List.find?_eq_none.1 h y ((h1.trans h2.symm).mem_iff.2 hy)
      exact absurd ey this
  | some x =>
    unfold findI at h
    have hx := List.mem_of_find?_eq_some h
    have ex := List.find?_some h
    cases k : findI m d with
    | none =>
      unfold findI at k
      have := List.find?_eq_none.1 k x ((h1.trans h2.symm).mem_iff.1 hx)
      exact absurd ex this
    | some y =>
      unfold findI at k
      have hy := List.mem_of_find?_eq_some k
      have ey := List.find?_some k
      congr 1
      exact strict_inj hw hs (h1.mem_iff.1 hx) (h2.mem_iff.1 hy) (by simp at ex ey; rw [ex, ey])
theorem Good.find {rs : List (List Item)} {items : List Item} (g : Good rs items) (d : List UInt8) : findI rs.flatten d = findI items d := find_perm g.wid g.sorted g.perm (List.Perm.refl _) d
theorem takeWhile_all {l : List Item} (p : Item → Bool) : ∀ x ∈ l.takeWhile p, p x = true := by
  induction l with
  | nil => simp
  | cons a l ih =>
    intro x hx
    rw [List.takeWhile_cons] at hx
    split at hx
    · rcases List.mem_cons.1 hx with rfl | hx
      · assumption
      · exact ih x hx
    · cases hx
theorem cut_split (l : List Item) (d : List UInt8) (hs : l.Pairwise fun x y => dval x.1 < dval y.1) : (∀ x ∈ l.take (cutAt l d), dval x.1 < dval d) ∧ (∀ x ∈ l.drop (cutAt l d), dval d ≤ dval x.1) := by
  unfold cutAt
  induction l with
  | nil => simp
  | cons a l ih =>
    rw [List.pairwise_cons] at hs
    obtain ⟨i1, i2⟩ := ih hs.2
    rw [List.takeWhile_cons]
    by_cases h : dval a.1 < dval d
    · simp only [h, decide_true, if_true, List.length_cons, List.take_succ_cons, List.drop_succ_cons]
      refine ⟨?_, i2⟩
      intro x hx
      rcases List.mem_cons.1 hx with rfl | hx
      · exact h
      · exact i1 x hx
    · simp only [h, decide_false, Bool.false_eq_true, if_false, List.length_nil, List.take_zero, List.drop_zero, List.not_mem_nil, false_implies, implies_true, true_and]
      intro x hx
      rcases List.mem_cons.1 hx with rfl | hx
      · omega
      · have := hs.1 x hx; omega
theorem carry_ne : ∀ (rr : List (List Item)) (run : List Item), run ≠ [] → (∀ r ∈ rr, r ≠ []) → ∀ r ∈ carry rr run, r ≠ []
  | [], run, h, _ => by simpa [carry] using h
  | r :: rr, run, h, hr => by
    unfold carry
    by_cases e : r.length = run.length
    · rw [if_pos e]
      refine carry_ne rr _ ?_ (fun x hx => hr x (by simp [hx]))
      intro h0
      have := merge_length r run
      rw [h0] at this
      have : run.length = 0 := by simp at this; omega
      exact h (List.eq_nil_of_length_eq_zero this)
    · rw [if_neg e]
      intro x hx
      rcases List.mem_cons.1 hx with rfl | hx
      · exact h
      · exact hr x hx
theorem Good.add {rs : List (List Item)} {items : List Item} (g : Good rs items) {x : Item} (hx : x.1.length = 32) (hn : findI items x.1 = none) : Good (addRuns rs x) (insI items x) := by
  obtain ⟨c1, c2⟩ := cut_split items x.1 g.sorted
  have hp : (insI items x).Perm (x :: items) := by
    unfold insI
    refine List.perm_middle.trans ?_
    rw [List.take_append_drop]
  have hmem : ∀ y, y ∈ insI items x ↔ y = x ∨ y ∈ items := fun y => by rw [hp.mem_iff]; simp
  have hne : ∀ y ∈ items, dval y.1 ≠ dval x.1 := fun y hy e => by
    have e2 := dval_inj (by rw [g.wid y hy, hx]) e
    have := List.find?_eq_none.1 hn y hy
    simp [e2] at this
  refine ⟨fun y hy => ?_, ?_, ?_, addRuns_sorted g.runs x, ?_⟩
  · rcases (hmem y).1 hy with rfl | hy
    · exact hx
    · exact g.wid y hy
  · unfold insI
    have hs := g.sorted
    rw [← List.take_append_drop (cutAt items x.1) items, List.pairwise_append] at hs
    obtain ⟨s1, s2, s3⟩ := hs
    rw [List.pairwise_append]
    refine ⟨s1, ?_, ?_⟩
    · rw [List.pairwise_cons]
      refine ⟨fun y hy => ?_, s2⟩
      have := c2 y hy
      have := hne y (List.mem_of_mem_drop hy)
      omega
    · intro a ha b hb
      rcases List.mem_cons.1 hb with rfl | hb
      · exact c1 a ha
      · exact s3 a ha b hb
  · exact (addRuns_perm rs x).trans ((g.perm.cons x).trans hp.symm)
  · intro r hr
    unfold addRuns at hr
    exact carry_ne rs.reverse [x] (by simp) (fun y hy => g.ne y (by simpa using hy)) r (by simpa using hr)
/-- The runs' lengths: powers of two, falling. -/
def Pow2 (n : Nat) : Prop := ∃ k, n = 2 ^ k
theorem carryN_good : ∀ (rr : List Nat) (n : Nat), Pow2 n → (∀ r ∈ rr, Pow2 r ∧ n ≤ r) → rr.Pairwise (· < ·) → (∀ r ∈ carryN rr n, Pow2 r) ∧ (carryN rr n).Pairwise (· < ·) ∧ (carryN rr n).sum = n + rr.sum
  | [], n, hn, _, _ => by simp [carryN, hn]
  | r :: rr, n, hn, h, hs => by
    rw [List.pairwise_cons] at hs
    unfold carryN
    by_cases e : r = n
    · rw [if_pos e]
      subst e
      obtain ⟨k, hk⟩ := hn
      have h2 : ∀ x ∈ rr, Pow2 x ∧ 2 * r ≤ x := fun x hx => by
        obtain ⟨⟨j, hj⟩, _⟩ := h x (by simp [hx])
        refine ⟨⟨j, hj⟩, ?_⟩
        have hlt := hs.1 x hx
        rw [hk, hj] at hlt
        have hkj : k < j := by
          rcases Nat.lt_or_ge k j with c | c
          · exact c
          · have := Nat.pow_le_pow_right (show 0 < 2 by omega) c; omega
        rw [hk, hj, ← Nat.pow_succ']
        exact Nat.pow_le_pow_right (by omega) hkj
      obtain ⟨i1, i2, i3⟩ := carryN_good rr (2 * r) ⟨k + 1, by rw [hk, Nat.pow_succ']⟩ h2 hs.2
      exact ⟨i1, i2, by rw [i3, List.sum_cons]; omega⟩
    · rw [if_neg e]
      refine ⟨?_, ?_, by simp⟩
      · intro x hx
        rcases List.mem_cons.1 hx with rfl | hx
        · exact hn
        · exact (h x hx).1
      · rw [List.pairwise_cons]
        refine ⟨?_, by rw [List.pairwise_cons]; exact hs⟩
        intro x hx
        have h1 := (h r (by simp)).2
        rcases List.mem_cons.1 hx with rfl | hx
        · omega
        · have := hs.1 x hx; omega
structure FallsP (ns : List Nat) : Prop where
  pow : ∀ n ∈ ns, Pow2 n
  fall : ns.Pairwise (· > ·)
theorem FallsP.nil : FallsP [] := ⟨by simp, List.Pairwise.nil⟩
theorem FallsP.add {ns : List Nat} (h : FallsP ns) : FallsP (addN ns) ∧ (addN ns).sum = ns.sum + 1 := by
  have hr : ns.reverse.Pairwise (· < ·) := by rw [List.pairwise_reverse]; exact h.fall
  obtain ⟨i1, i2, i3⟩ := carryN_good ns.reverse 1 ⟨0, rfl⟩ (fun r hr => by
    obtain ⟨k, hk⟩ := h.pow r (by simpa using hr)
    exact ⟨⟨k, hk⟩, by rw [hk]; exact Nat.one_le_two_pow⟩) hr
  unfold addN
  refine ⟨⟨fun n hn => i1 n (by simpa using hn), by rw [List.pairwise_reverse]; exact i2⟩, ?_⟩
  rw [List.sum_reverse, i3, List.sum_reverse]
  omega
end Go.Proofs.YthgjecofmnomfaaDoor
