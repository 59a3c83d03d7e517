/- WORDS for the laws of digests: a []api.Digest that is read; where an index stands among the caller's memory. No statement of the seed is proved here. -/
import Derived.Test.YthgjecofmnomfaaDigG
namespace Go.Proofs.Ythgjecofmnomfaa
open Go.RowKit
set_option maxRecDepth 100000

/-- A slice of digests that is read. -/
def Ds (w : World) (v : Value) (ds : List (List UInt8)) : Prop :=
  ∃ A c, v = .slice A ds.length c ∧ ds.length ≤ c ∧ c ≤ maxLen ∧ (A = none → c = 0) ∧ (∀ d ∈ ds, d.length = 32) ∧ ∀ (j : Nat) (h : j < ds.length), ∃ g o, A = some ⟨g, o, none⟩ ∧ w.rangeAt g (o + j * 32) (u8s ds[j])
theorem Ds.below {w w1 : World} {v : Value} {ds : List (List UInt8)} (h : Ds w v ds) (hb : Below w.heap.size w w1) : Ds w1 v ds :=
  let ⟨A, c, e, h1, h2, h3, h4, h5⟩ := h
  ⟨A, c, e, h1, h2, h3, h4, fun j hj => let ⟨g, o, a, b⟩ := h5 j hj; ⟨g, o, a, rangeAt_below b hb⟩⟩
theorem Ds.form {w : World} {v : Value} {ds : List (List UInt8)} (h : Ds w v ds) : ∃ A c, v = .slice A ds.length c ∧ ds.length ≤ c ∧ c ≤ 9223372036854775807 := by
  obtain ⟨A, c, e, h1, h2, -⟩ := h
  unfold maxLen at h2
  exact ⟨A, c, e, h1, h2⟩
theorem Ds.wid {w : World} {v : Value} {ds : List (List UInt8)} (h : Ds w v ds) (j : Nat) (hj : j < ds.length) : ds[j].length = 32 := by
  obtain ⟨A, c, e, h1, h2, h3, h4, h5⟩ := h
  exact h4 _ (List.getElem_mem hj)
theorem Ds.at_ {w : World} {A : Option Addr} {n c : Nat} {ds : List (List UInt8)} (h : Ds w (.slice A n c) ds) (j : Nat) (hj : j < ds.length) : ∃ g o, A = some ⟨g, o, none⟩ ∧ w.rangeAt g (o + j * 32) (u8s ds[j]) := by
  obtain ⟨A', c', e, h1, h2, h3, h4, h5⟩ := h
  cases e
  exact h5 j hj
/-- All that the index owns lies from B on: what lay below is as it was. -/
theorem Step.below {w w' w0 : World} {B p : Nat} {vr vr' : Value} {us us' : List Value} {rs : List (List Item)} (h : Step w p vr us w' vr' us') (hx : Ix w B p vr us rs) (hb : Below B w0 w) (hB : B ≤ w.heap.size) : Below B w0 w' := by
  refine ⟨h.os.trans hb.os, h.tape.trans hb.tape, h.output.trans hb.output, Nat.le_trans hb.size h.size, fun k hk => ?_⟩
  rw [h.block k (by omega) (fun e => by have := hx.low; omega) (fun e => by have := owns_ge hx.own k e; omega), hb.block k hk]
theorem Ix.lenLe {w : World} {B p : Nat} {vr : Value} {us : List Value} {rs : List (List Item)} (_ : Ix w B p vr us rs) (hne : ∀ r ∈ rs, r ≠ []) : rs.length ≤ rs.flatten.length := count_le hne
theorem addRuns_len (rs : List (List Item)) (x : Item) : (addRuns rs x).flatten.length = rs.flatten.length + 1 := by rw [(addRuns_perm rs x).length_eq, List.length_cons]
theorem addRuns_ne {rs : List (List Item)} (h : ∀ r ∈ rs, r ≠ []) (x : Item) : ∀ r ∈ addRuns rs x, r ≠ [] := by
  intro r hr
  unfold addRuns at hr
  exact carry_ne rs.reverse [x] (by simp) (fun y hy => h y (by simpa using hy)) r (by simpa using hr)
theorem findI_none_iff {l : List Item} {d : List UInt8} : findI l d = none ↔ ∀ x ∈ l, x.1 ≠ d := by
  unfold findI
  rw [List.find?_eq_none]
  simp
theorem findI_ne_iff {l : List Item} {d : List UInt8} : findI l d ≠ none ↔ ∃ x ∈ l, x.1 = d := by
  rw [Ne, findI_none_iff]
  simp
theorem findI_add (rs : List (List Item)) (x : Item) (d : List UInt8) : findI (addRuns rs x).flatten d ≠ none ↔ (x.1 = d ∨ findI rs.flatten d ≠ none) := by
  simp only [findI_ne_iff, (addRuns_perm rs x).mem_iff]
  simp
theorem findI_some {l : List Item} {d : List UInt8} (h : findI l d ≠ none) : ∃ x ∈ l, x.1 = d ∧ findI l d = some x := by
  cases hf : findI l d with
  | none => exact absurd hf h
  | some x =>
    unfold findI at hf
    exact ⟨x, List.mem_of_find?_eq_some hf, by simpa using List.find?_some hf, rfl⟩
/-- Of the first i digests the different ones are there, each with the place of its first. -/
structure Placed (l : List (List UInt8)) (i : Nat) (rs : List (List Item)) : Prop where
  hit : ∀ x ∈ rs.flatten, ∃ j : Nat, x.2 = (j : Int) ∧ j < i ∧ l[j]? = some x.1
  all : ∀ (j : Nat) (d : List UInt8), j < i → l[j]? = some d → findI rs.flatten d ≠ none
  ne : ∀ r ∈ rs, r ≠ []
  falls : FallsP (rs.map List.length)
theorem Placed.nil (l : List (List UInt8)) : Placed l 0 [] := ⟨by simp, fun j d h => by omega, by simp, FallsP.nil⟩
theorem Placed.old {l : List (List UInt8)} {i : Nat} {rs : List (List Item)} (h : Placed l i rs) {d : List UInt8} (hd : l[i]? = some d) (hf : findI rs.flatten d ≠ none) : Placed l (i + 1) rs where
  hit := fun x hx => let ⟨j, a, b, c⟩ := h.hit x hx; ⟨j, a, by omega, c⟩
  all := fun j e hj he => by
    rcases Nat.lt_or_ge j i with h1 | h1
    · exact h.all j e h1 he
    · have : j = i := by omega
      subst this
      rw [hd] at he; cases he
      exact hf
  ne := h.ne
  falls := h.falls
theorem Placed.new {l : List (List UInt8)} {i : Nat} {rs : List (List Item)} (h : Placed l i rs) {d : List UInt8} (hd : l[i]? = some d) : Placed l (i + 1) (addRuns rs (d, (i : Int))) where
  hit := fun x hx => by
    rcases List.mem_cons.1 ((addRuns_perm rs _).mem_iff.1 hx) with rfl | hx
    · exact ⟨i, rfl, by omega, hd⟩
    · obtain ⟨j, a, b, c⟩ := h.hit x hx
      exact ⟨j, a, by omega, c⟩
  all := fun j e hj he => by
    rw [findI_add]
    rcases Nat.lt_or_ge j i with h1 | h1
    · exact .inr (h.all j e h1 he)
    · have : j = i := by omega
      subst this
      rw [hd] at he; cases he
      exact .inl rfl
  ne := addRuns_ne h.ne _
  falls := by rw [addRuns_lens]; exact h.falls.add.1
/-- What Find tells behind the adding. -/
theorem Placed.finds {l : List (List UInt8)} {i : Nat} {rs : List (List Item)} (h : Placed l (i + 1) rs) {d : List UInt8} (hd : l[i]? = some d) : ∃ j : Nat, findV rs.flatten d = ((j : Int), true) ∧ j ≤ i ∧ l[j]? = some d := by
  obtain ⟨x, hx, e, hf⟩ := findI_some (h.all i d (by omega) hd)
  obtain ⟨j, a, b, c⟩ := h.hit x hx
  exact ⟨j, by unfold findV; rw [hf, ← a], by omega, by rw [c, e]⟩
theorem Placed.pos {l : List (List UInt8)} {i : Nat} {rs : List (List Item)} (h : Placed l i rs) (hi : i ≤ l.length) : 0 < rs.flatten.length ↔ 0 < i := by
  constructor
  · intro hp
    obtain ⟨x, hx⟩ := List.exists_mem_of_length_pos hp
    obtain ⟨j, -, b, -⟩ := h.hit x hx
    omega
  · intro hp
    obtain ⟨x, hx, -⟩ := findI_some (h.all 0 l[0] hp (List.getElem?_eq_getElem (by omega)))
    exact List.length_pos_of_mem hx
theorem new_ix (w : World) : Calls Try.prog 11 #[] w fun e w' => e = .returned (.pointer (some ⟨w.heap.size, 0, none⟩)) ∧ Ix w' w.heap.size w.heap.size (.slice none 0 0) [] [] ∧ Below w.heap.size w w' :=
  (new_calls w).mono fun _ _ ⟨h1, h2⟩ => ⟨h1, h2 ▸ ⟨Ix.fresh w (Nat.le_refl _), below_alloc1 _ _⟩⟩
theorem run_op_neq {o : Oper} {ρ : Operand → Value} (ty2 : TypeId) (x y : Operand) (ho : o.op = .binOp .neq 34 x y ty2) (a b : List UInt8) (ha : a.length = 32) (hb : b.length = 32) (hx : ρ x = .agg (u8s a).toArray) (hy : ρ y = .agg (u8s b).toArray) (w : World) : (execOp ρ o).run Try.prog w = .ok (.value (.bool (a != b))) w := by
  unfold execOp
  have hg : (eqGuard .neq 34 x y (.agg (u8s a).toArray) (.agg (u8s b).toArray)).run Try.prog w = .ok () w := by
    simp [eqGuard, Try.eqGuardType34]
  have he := eql_digest a b ha hb w
  have hn : (binOp .neq 34 (.agg (u8s a).toArray) (.agg (u8s b).toArray)).run Try.prog w = .ok (.bool (a != b)) w := by
    simp only [binOp] at he ⊢
    simp only [Sem.run_bind] at he ⊢
    generalize (Op.equal 34 (.agg (u8s a).toArray) (.agg (u8s b).toArray)).run Try.prog w = r at he ⊢
    cases r with
    | ok q w' =>
      simp only [Result.andThen_ok, Sem.run_pure] at he ⊢
      cases he
      rfl
    | halt h w' => simp [Result.andThen] at he
  simp only [ho, hx, hy, Sem.run_bind, Sem.run_pure, hg, hn, Result.andThen_ok]
theorem pow2_and : ∀ {n : Nat}, Pow2 n → n ≤ 1000000 → bits .and .i64 (n : Int) ((n : Int) - 1) = 0 := by
  rintro n ⟨k, rfl⟩ hn
  have hk : k < 20 := by
    rcases Nat.lt_or_ge k 20 with h | h
    · exact h
    · have := Nat.pow_le_pow_right (show 0 < 2 by omega) h; omega
  have : ∀ k : Fin 20, bits .and .i64 ((2 ^ k.val : Nat) : Int) (((2 ^ k.val : Nat) : Int) - 1) = 0 := by decide
  exact this ⟨k, hk⟩
end Go.Proofs.Ythgjecofmnomfaa
