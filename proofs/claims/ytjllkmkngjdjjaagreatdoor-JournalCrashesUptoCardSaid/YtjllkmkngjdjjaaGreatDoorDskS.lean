/- PLAIN MATHEMATICS of frames one behind the other, cut off anywhere. No program in sight. No statement of the seed is proved here. PLAIN LAWS of a journal's disk: what is opened. No statement of the seed is proved here. PLAIN LAWS of a journal's disk behind a loss of power. No statement of the seed is proved here. WALKS of bytes.Equal, disk.Same. No statement of the seed is proved here. -/
import Derived.Test.YtjllkmkngjdjjaaGreatDoorJrnO
import Derived.Test.YtjllkmkngjdjjaaGreatDoorJrnI
import Derived.Test.YtjllkmkngjdjjaaGreatDoorDsB
import Derived.Shelf.SlMaps.Equal
namespace Go.Proofs.YtjllkmkngjdjjaaGreatDoor

def frs (ms : List (List UInt8)) : List UInt8 := ms.flatMap fr
def endsL : Nat → List (List UInt8) → List Nat
  | _, [] => []
  | a, m :: r => (a + (8 + m.length)) :: endsL (a + (8 + m.length)) r
def told : Nat → List (List UInt8) → Nat → List (Nat × List UInt8)
  | _, [], _ => []
  | a, m :: r, k => if 8 + m.length ≤ k then (a + (8 + m.length), m) :: told (a + (8 + m.length)) r (k - (8 + m.length)) else []

theorem fr_head (m : List UInt8) : (fr m).take 4 = be 4 m.length := by
  unfold fr
  rw [List.append_assoc, List.take_left' (be_length 4 _)]
theorem frRead_frame (pre m rest : List UInt8) (hm : m.length ≤ 1048576) : frRead (pre ++ (fr m ++ rest)) (pre.length : Int) = (m, ((pre.length + (8 + m.length) : Nat) : Int), 0) := by
  have hl : (pre ++ (fr m ++ rest)).length = pre.length + (8 + m.length) + rest.length := by rw [List.length_append, List.length_append, fr_length]; omega
  have h4 := be_length 4 m.length
  have s4 := be_length 4 (ext (ext 0 (be 4 m.length)) m)
  have hd : (pre ++ (fr m ++ rest)).drop pre.length = be 4 m.length ++ (be 4 (ext (ext 0 (be 4 m.length)) m) ++ (m ++ rest)) := by
    rw [List.drop_left]; unfold fr; simp only [List.append_assoc]
  have hd4 : (pre ++ (fr m ++ rest)).drop (pre.length + 4) = be 4 (ext (ext 0 (be 4 m.length)) m) ++ (m ++ rest) := by
    rw [← List.drop_drop, hd]; exact List.drop_left' h4
  have hd8 : (pre ++ (fr m ++ rest)).drop (pre.length + 8) = m ++ rest := by
    rw [show pre.length + 8 = (pre.length + 4) + 4 by omega, ← List.drop_drop, hd4]; exact List.drop_left' s4
  have hx := ext_lt (ext 0 (be 4 m.length)) m (ext_lt 0 _ (by omega))
  have t1 : ((pre ++ (fr m ++ rest)).drop pre.length).take 4 = be 4 m.length := by rw [hd]; exact List.take_left' h4
  have t2 : ((pre ++ (fr m ++ rest)).drop (pre.length + 4)).take 4 = be 4 (ext (ext 0 (be 4 m.length)) m) := by rw [hd4]; exact List.take_left' s4
  have n1 : beNat (be 4 m.length) = m.length := beNat_be 4 _ (by omega)
  have n2 : beNat (be 4 (ext (ext 0 (be 4 m.length)) m)) = ext (ext 0 (be 4 m.length)) m := beNat_be 4 _ (by omega)
  unfold frRead
  rw [show ((pre.length : Int)).toNat = pre.length from rfl, t1, t2, n1, n2, hd8, List.take_left' rfl, hl]
  rw [if_neg (by omega), if_neg (by omega), if_neg (by omega), if_neg (by omega), if_neg (by simp)]
  congr 2
  omega
theorem frRead_part (pre m : List UInt8) (hm : m.length ≤ 1048576) (k : Nat) (hk : k < 8 + m.length) : frRead (pre ++ (fr m).take k) (pre.length : Int) = ([], 0, 111) := by
  have hkl : ((fr m).take k).length = k := by rw [List.length_take, fr_length]; omega
  have hl : (pre ++ (fr m).take k).length = pre.length + k := by rw [List.length_append, hkl]
  unfold frRead
  rw [show ((pre.length : Int)).toNat = pre.length from rfl, hl]
  rw [if_neg (by omega)]
  by_cases h8 : k < 8
  · rw [if_pos (by omega)]
  · rw [if_neg (by omega)]
    have t1 : ((pre ++ (fr m).take k).drop pre.length).take 4 = be 4 m.length := by
      rw [List.drop_left, List.take_take, show min 4 k = 4 by omega, fr_head]
    have n1 : beNat (be 4 m.length) = m.length := beNat_be 4 _ (by omega)
    rw [t1, n1, if_neg (by omega), if_pos (by omega)]
theorem told_eq : ∀ (ms : List (List UInt8)) (pre : List UInt8) (k : Nat), (∀ m ∈ ms, m.length ≤ 1048576) → allF (pre ++ (frs ms).take k) pre.length = told pre.length ms k
  | [], pre, k, _ => by
    simp only [frs, List.flatMap_nil, List.take_nil, List.append_nil, told]
    exact allF_bad (by omega)
  | m :: r, pre, k, h => by
    have hm := h m (by simp)
    have hfr : frs (m :: r) = fr m ++ frs r := by simp [frs]
    rw [hfr]
    unfold told
    by_cases hk : 8 + m.length ≤ k
    · rw [if_pos hk]
      have ht : (fr m ++ frs r).take k = fr m ++ (frs r).take (k - (8 + m.length)) := by
        rw [List.take_append, List.take_of_length_le (by rw [fr_length]; omega), fr_length]
      rw [ht, allF_ok (frRead_frame pre m _ hm)]
      have hp : (pre ++ fr m).length = pre.length + (8 + m.length) := by rw [List.length_append, fr_length]
      have ih := told_eq r (pre ++ fr m) (k - (8 + m.length)) (fun x hx => h x (by simp [hx]))
      rw [hp, List.append_assoc] at ih
      rw [Int.toNat_natCast, ih]
    · rw [if_neg hk]
      have ht : (fr m ++ frs r).take k = (fr m).take k := by
        rw [List.take_append, fr_length, show k - (8 + m.length) = 0 by omega]; simp
      rw [ht]
      have := frRead_part pre m hm k (by omega)
      exact allF_bad (by rw [this]; simp)
theorem endF_cons (a : Nat) (x : Nat × List UInt8) (xs : List (Nat × List UInt8)) : endF a (x :: xs) = endF x.1 xs := by
  cases xs with
  | nil => simp [endF]
  | cons y ys =>
    simp only [endF, List.getLast?_cons_cons]
    cases h : (y :: ys).getLast? with
    | none => simp at h
    | some z => rfl
theorem told_err : ∀ (ms : List (List UInt8)) (pre : List UInt8) (k : Nat), (∀ m ∈ ms, m.length ≤ 1048576) → k ≤ (frs ms).length →
    errAt (pre ++ (frs ms).take k) (endF pre.length (told pre.length ms k)) = (if endF pre.length (told pre.length ms k) = pre.length + k then 0 else 111) ∧ endF pre.length (told pre.length ms k) ≤ pre.length + k
  | [], pre, k, _, hk => by
    have h0 : k = 0 := by simpa [frs] using hk
    subst h0
    simp [told, endF, frs, errAt]
  | m :: r, pre, k, h, hk0 => by
    have hm := h m (by simp)
    have hfr : frs (m :: r) = fr m ++ frs r := by simp [frs]
    rw [hfr, List.length_append, fr_length] at hk0
    rw [hfr]
    unfold told
    by_cases hk : 8 + m.length ≤ k
    · rw [if_pos hk]
      have ht : (fr m ++ frs r).take k = fr m ++ (frs r).take (k - (8 + m.length)) := by
        rw [List.take_append, List.take_of_length_le (by rw [fr_length]; omega), fr_length]
      have hp : (pre ++ fr m).length = pre.length + (8 + m.length) := by rw [List.length_append, fr_length]
      have ih := told_err r (pre ++ fr m) (k - (8 + m.length)) (fun x hx => h x (by simp [hx])) (by omega)
      rw [hp, List.append_assoc, ← ht] at ih
      rw [endF_cons, show pre.length + (8 + m.length) + (k - (8 + m.length)) = pre.length + k by omega] at *
      exact ih
    · rw [if_neg hk]
      have ht : (fr m ++ frs r).take k = (fr m).take k := by
        rw [List.take_append, fr_length, show k - (8 + m.length) = 0 by omega]; simp
      rw [ht]
      simp only [endF_nil]
      have hkl : ((fr m).take k).length = k := by rw [List.length_take, fr_length]; omega
      unfold errAt
      rw [List.length_append, hkl]
      refine ⟨?_, by omega⟩
      by_cases h0 : k = 0
      · subst h0; simp
      · rw [if_neg (by omega), frRead_part pre m hm k (by omega)]
        have hne : ¬ pre.length = pre.length + k := by omega
        simp only [hne, if_false]
theorem told_get : ∀ (ms : List (List UInt8)) (a k i : Nat) (x : Nat × List UInt8), (told a ms k)[i]? = some x → (endsL a ms)[i]? = some x.1 ∧ ms[i]? = some x.2 ∧ x.1 ≤ a + k
  | [], _, _, _, _, h => by simp [told] at h
  | m :: r, a, k, i, x, h => by
    unfold told at h
    by_cases hk : 8 + m.length ≤ k
    · rw [if_pos hk] at h
      cases i with
      | zero =>
        simp only [List.getElem?_cons_zero, Option.some.injEq] at h
        subst h
        exact ⟨rfl, rfl, by simp only; omega⟩
      | succ i =>
        simp only [List.getElem?_cons_succ] at h
        obtain ⟨h1, h2, h3⟩ := told_get r _ _ _ _ h
        exact ⟨by unfold endsL; simpa using h1, by simpa using h2, by omega⟩
    · rw [if_neg hk] at h; simp at h
theorem told_next : ∀ (ms : List (List UInt8)) (a k : Nat), (told a ms k).length = ms.length ∨ ∃ e, (endsL a ms)[(told a ms k).length]? = some e ∧ a + k < e
  | [], _, _ => .inl rfl
  | m :: r, a, k => by
    unfold told
    by_cases hk : 8 + m.length ≤ k
    · rw [if_pos hk]
      rcases told_next r (a + (8 + m.length)) (k - (8 + m.length)) with h | ⟨e, h1, h2⟩
      · exact .inl (by simp [h])
      · exact .inr ⟨e, by unfold endsL; simpa using h1, by omega⟩
    · rw [if_neg hk]
      exact .inr ⟨a + (8 + m.length), rfl, by omega⟩
theorem told_le (ms : List (List UInt8)) (a k : Nat) : (told a ms k).length ≤ ms.length := by
  by_cases h : (told a ms k).length ≤ ms.length
  · exact h
  · have hi : ms.length < (told a ms k).length := by omega
    have := (told_get ms a k ms.length _ (List.getElem?_eq_getElem hi)).2.1
    simp at this
theorem endsL_length : ∀ (ms : List (List UInt8)) (a : Nat), (endsL a ms).length = ms.length
  | [], _ => rfl
  | m :: r, a => by simp [endsL, endsL_length r]
theorem endsL_snoc : ∀ (ms : List (List UInt8)) (a : Nat) (m : List UInt8), endsL a (ms ++ [m]) = endsL a ms ++ [a + (frs (ms ++ [m])).length]
  | [], a, m => by simp [endsL, frs, fr_length]
  | x :: r, a, m => by
    have := endsL_snoc r (a + (8 + x.length)) m
    simp only [List.cons_append, endsL, this]
    congr 3
    simp [frs, fr_length]
    omega
theorem frs_snoc (ms : List (List UInt8)) (m : List UInt8) : frs (ms ++ [m]) = frs ms ++ fr m := by simp [frs]
theorem frs_length : ∀ (ms : List (List UInt8)), (frs ms).length = 8 * ms.length + (ms.map List.length).sum
  | [] => rfl
  | m :: r => by
    have : frs (m :: r) = fr m ++ frs r := by simp [frs]
    rw [this, List.length_append, fr_length, frs_length r]
    simp
    omega
end Go.Proofs.YtjllkmkngjdjjaaGreatDoor
namespace Go.Proofs.YtjllkmkngjdjjaaGreatDoor
open Go.RowKit Go.Shelf
theorem frs_jfile (ls : List (List UInt8)) : frs ls = jfile ls := by simp [frs, jfile, List.flatMap]
/-- What is told of whole frames, and less than one more. -/
theorem told_part : ∀ (ms r : List (List UInt8)) (a k : Nat), (∀ m r', r = m :: r' → k < 8 + m.length) → (told a (ms ++ r) ((frs ms).length + k)).map (·.2) = ms ∧ endF a (told a (ms ++ r) ((frs ms).length + k)) = a + (frs ms).length
  | [], [], a, k, _ => by simp [told, endF, frs]
  | [], m :: r, a, k, h => by
    have h1 := h m r rfl
    simp only [List.nil_append, told]
    rw [if_neg (by simp [frs]; omega)]
    simp [endF, frs]
  | m :: ms, r, a, k, h => by
    have hl : (frs (m :: ms)).length = 8 + m.length + (frs ms).length := by simp [frs, fr_length]
    obtain ⟨i1, i2⟩ := told_part ms r (a + (8 + m.length)) k h
    simp only [List.cons_append, told]
    rw [if_pos (by omega), show (frs (m :: ms)).length + k - (8 + m.length) = (frs ms).length + k by omega]
    refine ⟨by rw [List.map_cons, i1], ?_⟩
    rw [endF_cons, i2]
    omega
/-- Less than one more frame. -/
def Torn (t : List UInt8) : Prop := t = [] ∨ ∃ (m : List UInt8) (k : Nat), m.length ≤ 65535 ∧ k < 8 + m.length ∧ t = (fr m).take k
theorem allF_torn {ls : List (List UInt8)} (hls : ∀ m ∈ ls, m.length ≤ 65535) {t : List UInt8} (ht : Torn t) : (allF (jfile ls ++ t) 0).map (·.2) = ls ∧ endF 0 (allF (jfile ls ++ t) 0) = (jfile ls).length := by
  rcases ht with rfl | ⟨m, k, hm, hk, rfl⟩
  · have h := told_eq ls [] (frs ls).length (fun m hm => by have := hls m hm; omega)
    have h2 := told_part ls [] 0 0 (fun m r' e => by cases e)
    rw [List.take_length, List.nil_append, frs_jfile] at h
    rw [List.append_nil, Nat.add_zero, frs_jfile, Nat.zero_add] at h2
    rw [List.append_nil, show (0 : Nat) = ([] : List UInt8).length from rfl, h]
    exact h2
  · have h := told_eq (ls ++ [m]) [] ((frs ls).length + k) (fun x hx => by
      rcases List.mem_append.1 hx with h | h
      · have := hls x h; omega
      · simp at h; subst h; omega)
    have h2 := told_part ls [m] 0 k (fun m' r' e => by cases e; exact hk)
    have e : (frs (ls ++ [m])).take ((frs ls).length + k) = jfile ls ++ (fr m).take k := by
      rw [frs_snoc, List.take_append, List.take_of_length_le (by omega), Nat.add_sub_cancel_left, frs_jfile]
    rw [e, List.nil_append] at h
    rw [show (0 : Nat) = ([] : List UInt8).length from rfl, h]
    rw [frs_jfile, Nat.zero_add] at h2
    rw [← frs_jfile] at h2
    rw [← frs_jfile]
    exact h2
theorem gsort_of {gs hs : List Nat} (hp : gs.Perm hs) (hh : hs.Pairwise (· ≤ ·)) : gsort gs = hs := by
  unfold gsort
  refine List.Perm.eq_of_pairwise (le := fun x y => x ≤ y) (fun x y _ _ h1 h2 => Nat.le_antisymm h1 h2) ?_ hh ((List.mergeSort_perm gs _).trans hp)
  have := List.pairwise_mergeSort (le := fun x y : Nat => decide (x ≤ y)) (fun a b c h1 h2 => by simp only [decide_eq_true_eq] at *; omega) (fun a b => by simp only [Bool.or_eq_true, decide_eq_true_eq]; omega) gs
  exact this.imp fun h => by simpa using h
theorem jnm_list {g h : Nat} (e : (jnm g).data.toList = (jnm h).data.toList) : jnm g = jnm h := by
  apply ByteArray.ext
  exact Array.toList_inj.1 e
theorem names_one {g : Nat} {f : List UInt8} : NamesOf (upd (fun _ => none) (jnm g) (some f)) (jns [g]) := by
  refine ⟨by simp [jns], fun n => ?_⟩
  simp only [jns, List.map_cons, List.map_nil, List.mem_singleton]
  constructor
  · rintro rfl
    rw [show (⟨(jnm g).data.toList.toArray⟩ : ByteArray) = jnm g from rfl, upd_same]
    rfl
  · intro h
    by_cases e : (⟨n.toArray⟩ : ByteArray) = jnm g
    · rw [← e]
    · rw [upd_other _ _ e] at h
      cases h
/-- Two files of a journal. -/
theorem names_two {g : Nat} (hg : g + 1 ≤ 2147483647) {f f' : List UInt8} : ∃ gs, gs.Perm [g, g + 1] ∧ NamesOf (upd (upd (fun _ => none) (jnm g) (some f)) (jnm (g + 1)) (some f')) (jns gs) := by
  have hne : jnm g ≠ jnm (g + 1) := fun e => by have := jnm_inj (by omega) hg e; omega
  have hmem : ∀ n : List UInt8, (n = (jnm g).data.toList ∨ n = (jnm (g + 1)).data.toList) ↔ ((upd (upd (fun _ => none) (jnm g) (some f)) (jnm (g + 1)) (some f')) ⟨n.toArray⟩).isSome = true := fun n => by
    constructor
    · rintro (rfl | rfl)
      · rw [show (⟨(jnm g).data.toList.toArray⟩ : ByteArray) = jnm g from rfl, upd_other _ _ hne, upd_same]; rfl
      · rw [show (⟨(jnm (g + 1)).data.toList.toArray⟩ : ByteArray) = jnm (g + 1) from rfl, upd_same]; rfl
    · intro h
      by_cases e : (⟨n.toArray⟩ : ByteArray) = jnm (g + 1)
      · exact .inr (by rw [← e])
      · rw [upd_other _ _ e] at h
        by_cases e2 : (⟨n.toArray⟩ : ByteArray) = jnm g
        · exact .inl (by rw [← e2])
        · rw [upd_other _ _ e2] at h; cases h
  have hl : (jnm g).data.toList ≠ (jnm (g + 1)).data.toList := fun e => hne (jnm_list e)
  rcases List.le_total (jnm g).data.toList (jnm (g + 1)).data.toList with h | h
  · refine ⟨[g, g + 1], List.Perm.refl _, ?_, fun n => ?_⟩
    · rcases List.le_iff_lt_or_eq.1 h with h | h
      · simpa [jns] using h
      · exact absurd h hl
    · simpa [jns] using hmem n
  · refine ⟨[g + 1, g], List.Perm.swap _ _ _, ?_, fun n => ?_⟩
    · rcases List.le_iff_lt_or_eq.1 h with h | h
      · simpa [jns] using h
      · exact absurd h hl.symm
    · rw [← hmem n]
      simp only [jns, List.map_cons, List.map_nil, List.mem_cons, List.not_mem_nil, or_false]
      exact or_comm
/-- A disk that holds one journal. -/
structure JG (s : DSt) (g : Nat) (ls : List (List UInt8)) : Prop where
  fs : s.fs = upd (fun _ => none) (jnm g) (some (jfile ls))
  few : ∀ m ∈ ls, m.length ≤ 65535
  g1 : 1 ≤ g
  sec : 0 < s.sec
theorem upd_upd {α : Type} (f : ByteArray → Option α) (n : ByteArray) (x y : Option α) : upd (upd f n x) n y = upd f n y := by
  funext m
  by_cases e : m = n
  · subst e; rw [upd_same, upd_same]
  · rw [upd_other _ _ e, upd_other _ _ e, upd_other _ _ e]
theorem JG.empty {sec : Nat} (h : 0 < sec) : JG ((emptyD sec).run (rCreate (jnm 1))) 1 [] := ⟨rfl, fun m hm => (by cases hm), Nat.le_refl _, h⟩
theorem JG.add {s : DSt} {g : Nat} {ls : List (List UInt8)} (h : JG s g ls) {m : List UInt8} (hm : m.length ≤ 65535) : JG (s.runs (appR s (jnm g) (fr m))) g (ls ++ [m]) := by
  have h0 : s.fs (jnm g) = some (jfile ls) := by rw [h.fs, upd_same]
  refine ⟨?_, fun x hx => ?_, h.g1, by rw [DSt.runs_sec]; exact h.sec⟩
  · rw [runs_appR h.sec h0, h.fs, upd_upd, jfile_snoc]
  · rcases List.mem_append.1 hx with hx | hx
    · exact h.few x hx
    · simp at hx; subst hx; exact hm
theorem JG.clear {s : DSt} {g : Nat} {ls : List (List UInt8)} (h : JG s g ls) (hg : g + 1 ≤ 2147483647) (k : Nat) : JG (clearS s g (jfile (ls.drop k))) (g + 1) (ls.drop k) := by
  have hne : jnm g ≠ jnm (g + 1) := fun e => by have := jnm_inj (by omega) hg e; omega
  have hs1 : 0 < (s.run (rCreate (jnm (g + 1)))).sec := h.sec
  have h1 : (s.run (rCreate (jnm (g + 1)))).fs (jnm (g + 1)) = some [] := by rw [run_create, upd_same]
  refine ⟨?_, fun m hm => h.few m (List.mem_of_mem_drop hm), by omega, ?_⟩
  · unfold clearS
    rw [run_remove, runs_appR hs1 h1, run_create, h.fs, upd_upd, List.nil_append]
    funext m
    by_cases e : m = jnm g
    · subst e; rw [upd_same, upd_other _ _ hne]
    · rw [upd_other _ _ e]
      by_cases e2 : m = jnm (g + 1)
      · subst e2; rw [upd_same, upd_same]
      · rw [upd_other _ _ e2, upd_other _ _ e2, upd_other _ _ e]
  · unfold clearS
    show 0 < (DSt.runs _ _).sec
    rw [DSt.runs_sec]
    exact h.sec
/-- What is opened of one file, the last frame torn or not. -/
theorem openS_one {s s' : DSt} {g g' : Nat} {ls ls' : List (List UInt8)} {t : List UInt8} (hg : g ≤ 2147483647) (hfs : s.fs = upd (fun _ => none) (jnm g) (some (jfile ls ++ t))) (hls : ∀ m ∈ ls, m.length ≤ 65535) (ht : Torn t) (h : OpenS s [g] g' ls' s') :
    g' = g ∧ ls' = ls ∧ s'.fs = upd (fun _ => none) (jnm g) (some (jfile ls)) ∧ s'.sec = s.sec ∧ s'.raws.length ≤ s.raws.length + 1 ∧ (t = [] → s' = s) := by
  rcases h with ⟨h, -⟩ | ⟨rest, f, h1, h2, h3, h4⟩
  · cases h
  rw [gsort_of (List.Perm.refl _) (by simp)] at h1
  injection h1 with e1 e2
  subst e1 e2
  rw [hfs, upd_same] at h2
  cases h2
  obtain ⟨a1, a2⟩ := allF_torn hls ht
  rw [a1] at h3
  rw [a2] at h4
  rw [show rmAll s ([].map jnm) = s from rfl] at h4
  have hw : dWrong s (jnm g) true = 0 := by unfold dWrong; rw [jnm_ok g hg, hfs, upd_same]; rfl
  have hget : (s.fs (jnm g)).getD [] = jfile ls ++ t := by rw [hfs, upd_same]; rfl
  unfold dCut at h4
  rw [if_pos hw, hget, List.length_append] at h4
  rw [if_neg (by omega)] at h4
  by_cases c : ((jfile ls).length : Int) < ((jfile ls).length + t.length : Nat)
  · rw [if_pos c] at h4
    refine ⟨rfl, h3, ?_, by rw [h4]; rfl, by rw [h4]; simp [DSt.run], fun e => by subst e; simp at c⟩
    rw [h4]
    show (s.run _).fs = _
    rw [run_cut, hget, hfs, upd_upd, Int.toNat_natCast, List.take_left' rfl]
  · rw [if_neg c] at h4
    have ht0 : t = [] := List.eq_nil_of_length_eq_zero (by omega)
    subst ht0
    rw [List.append_nil] at hfs
    have h4 : s' = s := h4
    exact ⟨rfl, h3, by rw [h4]; exact hfs, by rw [h4], by rw [h4]; omega, fun _ => h4⟩
/-- .. of two: the older one counts. -/
theorem openS_two {s s' : DSt} {gs : List Nat} {g g' : Nat} {ls ls' : List (List UInt8)} {f' : List UInt8} (hgs : gs.Perm [g, g + 1]) (hg : g + 1 ≤ 2147483647) (hfs : s.fs = upd (upd (fun _ => none) (jnm g) (some (jfile ls))) (jnm (g + 1)) (some f')) (hls : ∀ m ∈ ls, m.length ≤ 65535) (h : OpenS s gs g' ls' s') :
    g' = g ∧ ls' = ls ∧ s'.fs = upd (fun _ => none) (jnm g) (some (jfile ls)) ∧ s'.sec = s.sec ∧ s'.raws.length ≤ s.raws.length + 1 := by
  have hne : jnm g ≠ jnm (g + 1) := fun e => by have := jnm_inj (by omega) hg e; omega
  rcases h with ⟨h, -⟩ | ⟨rest, f, h1, h2, h3, h4⟩
  · subst h
    have := hgs.length_eq
    simp at this
  rw [gsort_of hgs (by simp)] at h1
  injection h1 with e1 e2
  subst e1 e2
  rw [hfs, upd_other _ _ hne, upd_same] at h2
  cases h2
  obtain ⟨a1, a2⟩ := allF_torn hls (.inl rfl)
  rw [List.append_nil] at a1 a2
  rw [a1] at h3
  rw [a2] at h4
  rw [show rmAll s ([g + 1].map jnm) = (dRemove s (jnm (g + 1))).2 from rfl] at h4
  have hw : dWrong s (jnm (g + 1)) true = 0 := by unfold dWrong; rw [jnm_ok _ hg, hfs, upd_same]; rfl
  have hr : (dRemove s (jnm (g + 1))).2 = s.run (rRemove (jnm (g + 1))) := by unfold dRemove; rw [if_pos hw]
  rw [hr] at h4
  have hf2 : (s.run (rRemove (jnm (g + 1)))).fs = upd (fun _ => none) (jnm g) (some (jfile ls)) := by
    rw [run_remove, hfs, upd_upd]
    funext m
    by_cases e : m = jnm (g + 1)
    · subst e; rw [upd_same, upd_other _ _ hne.symm]
    · rw [upd_other _ _ e]
  have hw2 : dWrong (s.run (rRemove (jnm (g + 1)))) (jnm g) true = 0 := by unfold dWrong; rw [jnm_ok g (by omega), hf2, upd_same]; rfl
  have hget : ((s.run (rRemove (jnm (g + 1)))).fs (jnm g)).getD [] = jfile ls := by rw [hf2, upd_same]; rfl
  unfold dCut at h4
  rw [if_pos hw2, hget, if_neg (by omega), if_neg (by omega)] at h4
  exact ⟨rfl, h3, by rw [h4]; exact hf2, by rw [h4]; rfl, by rw [h4]; simp [DSt.run]⟩
end Go.Proofs.YtjllkmkngjdjjaaGreatDoor
namespace Go.Proofs.YtjllkmkngjdjjaaGreatDoor
open Go.RowKit Go.Shelf
theorem runs_fs_of : ∀ (l : List RawD) {s t : DSt} (_ : s.fs = t.fs), (s.runs l).fs = (t.runs l).fs
  | [], _, _, h => h
  | r :: l, _, _, h => by rw [DSt.runs_cons, DSt.runs_cons]; exact runs_fs_of l (run_fs_of h r)
/-- The disk behind i of the raw writes of a call. -/
def cutS (s : DSt) (rs : List RawD) (i : Nat) : DSt := (emptyD s.sec).runs ((s.raws ++ rs).take (s.raws.length + i))
theorem cutS_fs {s : DSt} (h : Hist s) (rs : List RawD) (i : Nat) : (cutS s rs i).fs = (s.runs (rs.take i)).fs := by
  unfold cutS
  rw [List.take_append, List.take_of_length_le (by omega), Nat.add_sub_cancel_left, DSt.runs_append]
  exact runs_fs_of _ h.fs
theorem cutS_sec (s : DSt) (rs : List RawD) (i : Nat) : (cutS s rs i).sec = s.sec := by unfold cutS; rw [DSt.runs_sec]; rfl
/-- What is left of pieces. -/
theorem pieces_take {sec : Nat} (hs : 0 < sec) (len : Nat) (b : List UInt8) (i : Nat) : ∃ k, ((chunks sec len b.length b).take i).flatten = b.take k ∧ k ≤ b.length ∧ ((chunks sec len b.length b).length ≤ i → k = b.length) := by
  have h := chunks_flat hs b.length len b (Nat.le_refl _)
  generalize chunks sec len b.length b = cs at *
  have e : b = (cs.take i).flatten ++ (cs.drop i).flatten := by rw [← List.flatten_append, List.take_append_drop, h]
  refine ⟨((cs.take i).flatten).length, ?_, ?_, fun hi => ?_⟩
  · conv => rhs; rw [e]
    rw [List.take_left' rfl]
  · conv => rhs; rw [e]
    rw [List.length_append]; omega
  · rw [List.take_of_length_le hi, h]
theorem add_cut {s : DSt} {g : Nat} {ls : List (List UInt8)} (h : JG s g ls) {m : List UInt8} (hm : m.length ≤ 65535) (i : Nat) :
    ∃ k, k ≤ 8 + m.length ∧ (s.runs ((appR s (jnm g) (fr m)).take i)).fs = upd (fun _ => none) (jnm g) (some (jfile ls ++ (fr m).take k)) ∧ ((appR s (jnm g) (fr m)).length ≤ i → k = 8 + m.length) := by
  have h0 : s.fs (jnm g) = some (jfile ls) := by rw [h.fs, upd_same]
  obtain ⟨k, k1, k2, k3⟩ := pieces_take h.sec ((s.fs (jnm g)).getD []).length (fr m) i
  rw [fr_length] at k2
  refine ⟨k, k2, ?_, fun hi => ?_⟩
  · unfold appR
    rw [← List.map_take, runs_appends _ _ s _ h0, h.fs, upd_upd]
    rw [h.fs] at k1
    rw [k1]
  · rw [k3 (by unfold appR at hi; rw [List.length_map] at hi; exact hi), fr_length]
/-- Behind a loss of power in Add: one file. -/
theorem add_cut_torn {s : DSt} {g : Nat} {ls : List (List UInt8)} (h : JG s g ls) (hH : Hist s) {m : List UInt8} (hm : m.length ≤ 65535) (i : Nat) :
    ∃ (ls' : List (List UInt8)) (t : List UInt8), (cutS s (appR s (jnm g) (fr m)) i).fs = upd (fun _ => none) (jnm g) (some (jfile ls' ++ t)) ∧ Torn t ∧ (ls' = ls ∨ ls' = ls ++ [m]) ∧ ((appR s (jnm g) (fr m)).length ≤ i → ls' = ls ++ [m]) := by
  obtain ⟨k, k1, k2, k3⟩ := add_cut h hm i
  rw [cutS_fs hH, k2]
  by_cases e : k = 8 + m.length
  · refine ⟨ls ++ [m], [], ?_, .inl rfl, .inr rfl, fun _ => rfl⟩
    rw [jfile_snoc, List.append_nil, List.take_of_length_le (by rw [fr_length]; omega)]
  · exact ⟨ls, (fr m).take k, rfl, .inr ⟨m, k, hm, by omega, rfl⟩, .inl rfl, fun hi => absurd (k3 hi) e⟩
/-- Clear's raw writes. -/
def clearR (s : DSt) (g : Nat) (b : List UInt8) : List RawD := rCreate (jnm (g + 1)) :: (appR (s.run (rCreate (jnm (g + 1)))) (jnm (g + 1)) b ++ [rRemove (jnm g)])
theorem clearS_runs (s : DSt) (g : Nat) (b : List UInt8) : clearS s g b = s.runs (clearR s g b) := by
  unfold clearS clearR
  rw [DSt.runs_cons, DSt.runs_append]
  rfl
/-- Behind a loss of power in Clear. -/
theorem clear_cut {s : DSt} {g : Nat} {ls : List (List UInt8)} (h : JG s g ls) (hH : Hist s) (hg : g + 1 ≤ 2147483647) (k i : Nat) :
    (i = 0 ∧ (cutS s (clearR s g (jfile (ls.drop k))) i).fs = upd (fun _ => none) (jnm g) (some (jfile ls))) ∨
    (∃ f', i < (clearR s g (jfile (ls.drop k))).length ∧ (cutS s (clearR s g (jfile (ls.drop k))) i).fs = upd (upd (fun _ => none) (jnm g) (some (jfile ls))) (jnm (g + 1)) (some f') ∧ f'.length ≤ (jfile (ls.drop k)).length) ∨
    ((clearR s g (jfile (ls.drop k))).length ≤ i ∧ (cutS s (clearR s g (jfile (ls.drop k))) i).fs = upd (fun _ => none) (jnm (g + 1)) (some (jfile (ls.drop k)))) := by
  have hne : jnm g ≠ jnm (g + 1) := fun e => by have := jnm_inj (by omega) hg e; omega
  have h1 : (s.run (rCreate (jnm (g + 1)))).fs (jnm (g + 1)) = some [] := by rw [run_create, upd_same]
  rw [cutS_fs hH]
  by_cases hi : (clearR s g (jfile (ls.drop k))).length ≤ i
  · refine .inr (.inr ⟨hi, ?_⟩)
    rw [List.take_of_length_le hi, ← clearS_runs, (h.clear hg k).fs]
  · cases i with
    | zero => exact .inl ⟨rfl, by rw [List.take_zero, DSt.runs_nil, h.fs]⟩
    | succ i =>
      refine .inr (.inl ?_)
      unfold clearR at hi ⊢
      rw [List.length_cons, List.length_append, List.length_singleton] at hi
      rw [List.take_succ_cons, DSt.runs_cons, List.take_append_of_le_length (by omega)]
      obtain ⟨q, q1, q2, -⟩ := pieces_take (sec := (s.run (rCreate (jnm (g + 1)))).sec) h.sec (((s.run (rCreate (jnm (g + 1)))).fs (jnm (g + 1))).getD []).length (jfile (ls.drop k)) i
      unfold appR at hi ⊢
      rw [← List.map_take, runs_appends _ _ _ _ h1]
      generalize chunks (s.run (rCreate (jnm (g + 1)))).sec (((s.run (rCreate (jnm (g + 1)))).fs (jnm (g + 1))).getD []).length (jfile (ls.drop k)).length (jfile (ls.drop k)) = cs at *
      rw [run_create, h.fs, upd_upd]
      refine ⟨_, ?_, rfl, ?_⟩
      · rw [List.length_cons, List.length_append, List.length_singleton]; omega
      · rw [List.nil_append, q1, List.length_take]; omega
theorem Hist.clear {s : DSt} (h : Hist s) (hs : 0 < s.sec) (g : Nat) (b : List UInt8) (hb : b.length ≤ 100000000000000) : Hist (clearS s g b) := by
  unfold clearS
  refine Hist.run (Hist.append (h.create _) hs (l := []) (by rw [run_create, upd_same]) (by simpa using hb)) (.remove _)
end Go.Proofs.YtjllkmkngjdjjaaGreatDoor
namespace Go.Proofs.YtjllkmkngjdjjaaGreatDoor
open Go.RowKit Go.Maps Go.Shelf
set_option maxRecDepth 100000
theorem arr_inj {l m : List UInt8} (e : l.toArray = m.toArray) : l = m := by simpa using congrArg Array.toList e
theorem str_ne {l m : List UInt8} (h : l ≠ m) : ¬ ((⟨l.toArray⟩ : ByteArray) = ⟨m.toArray⟩) := fun e => h (by injection e with e; exact arr_inj e)
theorem bequal_calls (u v : Value) (l m : List UInt8) (w : World) (hu : Bs w u l) (hv : Bs w v m) : Calls Tryz.prog 59 #[u, v] w fun e w' => e = .returned (.bool (decide (l = m))) ∧ w' = w := by
  have k1 := str_u8 hu
  have k2 := str_u8 hv
  obtain ⟨A, c, rfl, -, -, -⟩ := hu.form
  obtain ⟨A2, c2, rfl, -, -, -⟩ := hv.form
  clear hu hv
  by_cases h : l = m
  · subst h
    rw [decide_eq_true rfl]
    go_enter Tryz.func59, Tryz.ntmps59
    go_wp2
    go_ret
    exact ⟨rfl, rfl⟩
  · rw [decide_eq_false h]
    have hne : (l == m) = false := by simpa using h
    go_enter Tryz.func59, Tryz.ntmps59
    go_wp2
    go_ret
    exact ⟨rfl, rfl⟩
theorem bs_unique {w : World} {v : Value} {l m : List UInt8} (h : Bs w v l) (k : Bs w v m) : l = m := by
  have e1 := str_u8 h
  rw [str_u8 k] at e1
  injection e1 with e1 e2
  injection e1 with e1
  injection e1 with e1
  exact (arr_inj e1.symm)
theorem pair_unique {α β : Type} : ∀ {es : List (α × β)}, es.Pairwise (fun p q => p.1 ≠ q.1) → ∀ {p q : α × β}, p ∈ es → q ∈ es → p.1 = q.1 → p = q
  | [], _, p, q, hp, _, _ => by cases hp
  | e :: es, h, p, q, hp, hq, heq => by
    rw [List.pairwise_cons] at h
    rcases List.mem_cons.1 hp with e1 | hp
    · rcases List.mem_cons.1 hq with e2 | hq
      · rw [e1, e2]
      · exact absurd heq (by rw [e1]; exact h.1 q hq)
    · rcases List.mem_cons.1 hq with e2 | hq
      · exact absurd heq.symm (by rw [e2]; exact h.1 p hp)
      · exact pair_unique h.2 hp hq heq
/-- An entry's element, where no key stands twice. -/
theorem atKey_mem {H : Type} {es : List (Lit × DataW H)} (hp : es.Pairwise (fun p q => p.1 ≠ q.1)) {p : Lit × DataW H} (h : p ∈ es) (hs : p.1.sameKey p.1 = true) (z : DataW H) : (DataW.map es).atKey p.1 z = p.2 := by
  show (match es.find? (fun q => q.1.sameKey p.1) with | some q => q.2 | none => z) = p.2
  cases hf : es.find? (fun q => q.1.sameKey p.1) with
  | none => exact absurd hs (by simpa using List.find?_eq_none.1 hf p h)
  | some q =>
    have h1 : q.1 = p.1 := WideAt.sameKey_eq (by simpa using List.find?_some hf)
    have h2 := List.mem_of_find?_eq_some hf
    rw [pair_unique hp h2 h h1]
/-- The map, its elements read as files' bytes. -/
theorem MapAt.bytes {w : World} {b c : Nat} {f : ByteArray → Option Value} (h : MapAt w b c f) (hv : ∀ n v, f n = some v → ∃ l, Bs w v l) (R : Value → Option (DataW Value × List MemPlace)) (hR : ∀ v, (∃ l, Bs w v l) → R v = some (.held v, [])) :
    ∃ (D : DataW Value) (es : List (Lit × DataW Value)), D = .map es ∧ w.ownsMap Tryz.prog 9 R b c D ∧ Maps.size D = (strKeys D).length ∧ (strKeys D).Nodup ∧ (∀ n : List UInt8, n ∈ strKeys D ↔ (f ⟨n.toArray⟩).isSome = true) ∧
      (∀ n : List UInt8, has D (.string n) = (f ⟨n.toArray⟩).isSome) ∧ (∀ (n : List UInt8) v z, f ⟨n.toArray⟩ = some v → D.atKey (.string n) z = .held v) ∧ ∀ p ∈ es, ∃ (n : List UInt8) (v : Value), p = (.string n, .held v) ∧ f ⟨n.toArray⟩ = some v := by
  obtain ⟨D, hD0, -, hnd, hmem⟩ := h.keys
  obtain ⟨D', hD, hf⟩ := h
  have hDD : D = D' := by
    obtain ⟨es1, k1, a1, -, -, e1⟩ := hD0
    obtain ⟨es2, k2, a2, -, -, e2⟩ := hD
    rw [a1] at a2
    cases a2
    rw [e1, e2]
  subst hDD
  obtain ⟨es, e1, hpw, -⟩ := hD.entries keyed_str
  obtain ⟨es', e2, hko⟩ := hD.keysOf
  have : es = es' := by rw [e1] at e2; simpa using e2
  subst this
  have hpe : ∀ p ∈ es, ∃ (n : List UInt8) (v : Value), p = (.string n, .held v) ∧ f ⟨n.toArray⟩ = some v := fun p hp => by
    obtain ⟨key, hkey⟩ := hko p hp
    obtain ⟨n, -, hn, -⟩ := Maps.keyOf_str Tryz.underlying9 hkey
    have hat := fun z => atKey_mem hpw hp (by rw [hn]; simp [Lit.sameKey]) z
    rw [hn, ← e1] at hat
    cases hfn : f ⟨n.toArray⟩ with
    | none =>
      have q1 := (hf ⟨n.toArray⟩).2 .nil
      have q2 := (hf ⟨n.toArray⟩).2 (.held (.bool true))
      rw [hfn] at q1 q2
      simp only at q1 q2
      rw [hat] at q1 q2
      rw [q1] at q2
      cases q2
    | some v =>
      have q1 := (hf ⟨n.toArray⟩).2 .nil
      rw [hfn] at q1
      simp only at q1
      rw [hat] at q1
      exact ⟨n, v, by rw [← hn, ← q1], hfn⟩
  refine ⟨D, es, e1, ?_, ?_, hnd, hmem, fun n => (hf ⟨n.toArray⟩).1, fun n v z hn => ?_, hpe⟩
  · obtain ⟨ms, clock, a1, F, a3, a4⟩ := hD
    have hs : ∀ x ∈ ms.toList, ∀ z, heldR x.val = some z → R x.val = some z := fun x hx z hz => by
      cases hz
      refine hR _ ?_
      obtain ⟨y, hy⟩ := F.reads x hx
      have hrg : WideElems.rg Tryz.prog 9 heldR x = y := by unfold WideElems.rg; rw [hy]; rfl
      have hy2 : y.2 = .held x.val := by
        unfold WideElems.rd at hy
        simp only [Option.bind_eq_some_iff, Option.map_eq_some_iff] at hy
        obtain ⟨key, -, d, hd, rfl⟩ := hy
        unfold heldR at hd
        simp at hd
        exact hd.symm ▸ rfl
      have hin : y ∈ es := by
        rw [a4] at e1
        injection e1 with e1
        rw [← e1, mem_sorted, ← hrg]
        exact List.mem_map_of_mem hx
      obtain ⟨n, v, hp, hfn⟩ := hpe y hin
      rw [hp] at hy2
      simp only [DataW.held.injEq] at hy2
      subst hy2
      exact hv _ _ hfn
    obtain ⟨F', eM⟩ := F.stay hs
    exact ⟨ms, clock, a1, F', a3, by rw [eM.1]; exact a4⟩
  · rw [e1]; simp [strKeys, Maps.size]
  · have := (hf ⟨n.toArray⟩).2 z
    rw [hn] at this
    exact this
/-- Two maps of the same files are equal. -/
theorem files_equal {w : World} {B B' b b' c c' : Nat} {f f' : ByteArray → Option Value} {fs : Fs} (h : MapAt w b c f) (h' : MapAt w b' c' f') (hv : Vals w B f fs) (hv' : Vals w B' f' fs) :
    Calls Tryz.prog 58 #[.map (some b), .map (some b'), .func (.func 59) #[] #[]] w fun e w' => e = .returned (.bool true) ∧ w.grownBy w' none := by
  classical
  obtain ⟨R, hR⟩ : ∃ R : Value → Option (DataW Value × List MemPlace), R = fun v => if ∃ l, Bs w v l then some (.held v, []) else none := ⟨_, rfl⟩
  obtain ⟨eqd, heqd⟩ : ∃ eqd : DataW Value → DataW Value → Bool, ∀ a b', eqd (.held a) (.held b') = decide (∃ l, Bs w a l ∧ Bs w b' l) := ⟨fun x y => match x, y with | .held a, .held b' => decide (∃ l, Bs w a l ∧ Bs w b' l) | _, _ => false, fun a b' => rfl⟩
  have hR1 : ∀ v, (∃ l, Bs w v l) → R v = some (.held v, []) := fun v hv => by rw [hR]; simp only; rw [if_pos hv]
  have hR2 : ∀ v y, R v = some y → y = (.held v, []) ∧ ∃ l, Bs w v l := fun v y hy => by
    rw [hR] at hy
    simp only at hy
    split at hy
    · rename_i hl; cases hy; exact ⟨rfl, hl⟩
    · cases hy
  have hbs : ∀ n v, f n = some v → ∃ l, Bs w v l := fun n v hn => by obtain ⟨l, -, ho⟩ := hv.ofv hn; exact ⟨l, ho.bs⟩
  have hbs' : ∀ n v, f' n = some v → ∃ l, Bs w v l := fun n v hn => by obtain ⟨l, -, ho⟩ := hv'.ofv hn; exact ⟨l, ho.bs⟩
  obtain ⟨D, es, e1, hD, hz, hnd, hmem, hhas, hat, hes⟩ := h.bytes hbs R hR1
  obtain ⟨D', es', e1', hD', hz', hnd', hmem', hhas', hat', hes'⟩ := h'.bytes hbs' R hR1
  have K := AnyEq.maps_EqualFunc_opt Tryz.mapsEqA keyed_str R R eqd 59 #[] (some b) (some b') D D' w (enters_of Tryz.func59 (by kernel_rfl) rfl) (.inr ⟨b, c, rfl, hD⟩) (.inr ⟨b', c', rfl, hD'⟩) (.slice none 0 0) zero_bs (.held (.slice none 0 0)) [] (hR1 _ ⟨[], (OwnB.nil w 0).bs⟩) (fun W x y xd yd xp yp hg hx hy => by
    obtain ⟨ex, l, hl⟩ := hR2 x _ hx
    obtain ⟨ey, m, hm⟩ := hR2 y _ hy
    cases ex; cases ey
    have hb : Below w.heap.size w W := ⟨hg.os, hg.tape, hg.output, hg.size, fun k hk => hg.block k hk (by simp)⟩
    refine (bequal_calls x y l m W (hl.below hb) (hm.below hb)).mono ?_
    rintro e w' ⟨rfl, rfl⟩
    refine ⟨?_, ⟨rfl, rfl, rfl, Nat.le_refl _, fun _ _ _ => rfl⟩⟩
    rw [heqd]
    congr 2
    rw [decide_eq_decide]
    exact ⟨fun e => ⟨l, hl, e ▸ hm⟩, fun ⟨q, q1, q2⟩ => (bs_unique hl q1).trans (bs_unique hm q2).symm⟩)
  have hall : Lib.equalFuncD eqd D D' = true := by
    unfold Lib.equalFuncD
    rw [Bool.and_eq_true, decide_eq_true_iff]
    have hf : ∀ n, (f n).isSome = (f' n).isSome := fun n => by rw [hv.dom, hv'.dom]
    refine ⟨?_, ?_⟩
    · rw [hz, hz']
      refine ((List.perm_ext_iff_of_nodup hnd hnd').2 fun n => ?_).length_eq
      rw [hmem, hmem', hf]
    · rw [e1]
      show es.all _ = true
      rw [List.all_eq_true]
      intro p hp
      obtain ⟨n, v, rfl, hn⟩ := hes p hp
      obtain ⟨l, hl, ho⟩ := hv.ofv hn
      obtain ⟨v', hn', ho'⟩ := hv'.at_ hl
      unfold Lib.goodD
      simp only
      rw [Bool.and_eq_true, hhas', hn', hat' n v' _ hn', heqd, decide_eq_true_iff]
      exact ⟨rfl, l, ho.bs, ho'.bs⟩
  rw [hall] at K
  exact K
set_option maxHeartbeats 2000000 in
theorem dsame_calls (x y : DT) (s t : DSt) (w : World) (B B' : Nat) (hx : x.At s w B) (hy : y.At t w B') (he : s.fs = t.fs) :
    Calls Tryz.prog 15 #[.pointer (some ⟨x.p, 0, none⟩), .pointer (some ⟨y.p, 0, none⟩)] w fun e w' => e = .returned (.bool true) ∧ Below w.heap.size w w' := by
  have KN := Lib.hid (fun p (h : p = x.p ∨ p = y.p) => (show Calls Tryz.prog 57 #[.pointer (some ⟨p, 0, none⟩)] w fun e w' => e = .returned (.bool false) ∧ w = w' from by
    rcases h with rfl | rfl
    · exact dnone_calls x s w B hx
    · exact dnone_calls y t w B' hy))
  have c1 := hx.c1
  have c2 := hy.c1
  have KE := Lib.hid (fun w' (hb : Below w.heap.size w w') => files_equal (hx.below hb).map (hy.below hb).map (hx.below hb).vals (show Vals w' B' y.f s.fs by rw [he]; exact (hy.below hb).vals))
  clear hx hy
  go_enter Tryz.func15, Tryz.ntmps15
  go_wp2_with (first
    | (go_at_call 57; refine (KN.out _ (by first | exact .inl rfl | exact .inr rfl)).mono ?_; rintro e w1 ⟨rfl, rfl⟩))
  refine wp_region_noPanic ?_
  refine wp_region_rowS (S := fun w' => Below w.heap.size w w') [0, 1, 2, 3, 4, 5, 6, 7] [8, 9] (by kernel_rfl) (by kernel_rfl) (fun _ _ _ _ h => h) (below_drew1 w) ?_
  simp only [opsL, List.getElem?_cons_zero, List.getElem?_cons_succ, Option.toList_some, List.singleton_append]
  refine takesS_run rfl (.pointer (some ⟨x.p, 0, none⟩)) (fun w' hw => op_move _ rfl _ (by rfl) w') ?_
  simp only [Act.put, List.setIfInBounds_toArray, List.set_cons_zero, List.set_cons_succ]
  refine takesS_run rfl (.pointer (some ⟨x.p, 0, none⟩)) (fun w' hw => by go_simp) ?_
  simp only [Act.put, List.setIfInBounds_toArray, List.set_cons_zero, List.set_cons_succ]
  refine takesS_run rfl (.pointer (some ⟨x.p, 1, none⟩)) (fun w' hw => by go_simp) ?_
  simp only [Act.put, List.setIfInBounds_toArray, List.set_cons_zero, List.set_cons_succ]
  refine takesS_run rfl (.map (some x.mb)) (fun w' hw => op_load _ _ rfl _ _ (by rfl) w' (ld_cell under_files rfl (cell_below hw c1))) ?_
  simp only [Act.put, List.setIfInBounds_toArray, List.set_cons_zero, List.set_cons_succ]
  refine takesS_run rfl (.pointer (some ⟨y.p, 0, none⟩)) (fun w' hw => op_move _ rfl _ (by rfl) w') ?_
  simp only [Act.put, List.setIfInBounds_toArray, List.set_cons_zero, List.set_cons_succ]
  refine takesS_run rfl (.pointer (some ⟨y.p, 0, none⟩)) (fun w' hw => by go_simp) ?_
  simp only [Act.put, List.setIfInBounds_toArray, List.set_cons_zero, List.set_cons_succ]
  refine takesS_run rfl (.pointer (some ⟨y.p, 1, none⟩)) (fun w' hw => by go_simp) ?_
  simp only [Act.put, List.setIfInBounds_toArray, List.set_cons_zero, List.set_cons_succ]
  refine takesS_run rfl (.map (some y.mb)) (fun w' hw => op_load _ _ rfl _ _ (by rfl) w' (ld_cell under_files rfl (cell_below hw c2))) ?_
  simp only [Act.put, List.setIfInBounds_toArray, List.set_cons_zero, List.set_cons_succ]
  simp only [wpTkS, wpRowS, opsL, List.getElem?_cons_zero, List.getElem?_cons_succ, Option.toList_some, List.singleton_append]
  go_wp2_with (go_at_call 58; refine (KE.out _ (below_drew1 w)).mono ?_; rintro e w5 ⟨rfl, hg⟩)
  have hb5 : Below w.heap.size w w5 := below_then (below_drew1 w) ⟨hg.os, hg.tape, hg.output, hg.size, fun k hk => hg.block k hk (by simp)⟩
  refine norm_done hb5 ?_
  go_wp2_with fail
  refine norm_done hb5 ?_
  refine noPanic_normal ?_
  rename_i Kx hKx
  refine hKx _ _ ?_
  go_wp2
  go_ret
  exact ⟨rfl, hb5⟩
end Go.Proofs.YtjllkmkngjdjjaaGreatDoor
