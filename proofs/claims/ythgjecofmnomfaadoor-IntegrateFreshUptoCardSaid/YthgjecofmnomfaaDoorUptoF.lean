/- WORDS for the rows of the '..UptoSaid' statements: a [][]byte that came in. No statement of the seed is proved here. -/
import Derived.Test.YthgjecofmnomfaaDoorUpto
import Derived.Test.YthgjecofmnomfaaDoorFreH
import Derived.Deep.Slices
namespace Go.Proofs.YthgjecofmnomfaaDoor
open Go.ChangeShapes Go.WideShapes Go.ChangeAt Go.RowKit Go.Deep

set_option maxRecDepth 100000 in
/-- A []byte that was read: what it reads as. -/
theorem bytes_of_trod {H : Type} {enc : TypeId × Value → H} {W : World} {base : Nat} {spare : Nat → Bool} {held : Bool} {t e : TypeId} {fuel : Nat} {v : Value} {x : DataW H × List MemPlace}
    (hu : Tryd.prog.underlying t = some (.slice e)) (he : Tryd.prog.underlying e = some (.int .u8)) (hc : Tryd.prog.cellsOf e = 1) (h : DataW.trod enc Tryd.prog W base spare held fuel t [v] = some x) :
    ∃ l, Bs W v l ∧ l.length + 1 ≤ Rows.uptoBulk x.1 := by
  rcases open_ints hu he hc h with ⟨hcs, hx⟩ | ⟨a, len, cap, zs, hcs, _, hl, hm, hz, hx, hcell, hwz⟩
  · simp at hcs
    subst hcs
    exact ⟨[], ⟨none, 0, rfl, Nat.le_refl _, by unfold maxLen; omega, fun _ => rfl, fun j u hj => by simp [u8s] at hj⟩, by simpa using bulk_one x.1⟩
  · simp at hcs
    subst hcs
    have hl2 : len ≤ zs.length := by
      rw [hz]
      split
      · exact hl
      · exact Nat.le_refl _
    have hlen : ((zs.take len).map fun n => UInt8.ofNat n.toNat).length = len := by simp; omega
    refine ⟨(zs.take len).map fun n => UInt8.ofNat n.toNat, ⟨some a, cap, by rw [hlen], by rw [hlen]; exact hl, hm, fun h => (by cases h), fun j u hj => ⟨a, rfl, ?_⟩⟩, ?_⟩
    · have hjl : j < len := by
        have := (List.getElem?_eq_some_iff.1 hj).1
        rw [u8s_length, hlen] at this
        exact this
      rw [hcell j (by omega)]
      have hw := hwz (zs.getD j 0) (by rw [List.getD_eq_getElem?_getD, List.getElem?_eq_getElem (show j < zs.length by omega)]; simp)
      simp [Lit.wf, IntKind.min, IntKind.max, IntKind.signed, IntKind.bits] at hw
      have hj2 : (u8s ((zs.take len).map fun n => UInt8.ofNat n.toNat))[j]? = some (.int .u8 (((UInt8.ofNat (zs[j]'(by omega)).toNat).toNat : Nat) : Int)) := by
        simp only [u8s, List.getElem?_map]
        rw [List.getElem?_take, if_pos hjl, List.getElem?_eq_getElem (show j < zs.length by omega)]
        rfl
      rw [hj2] at hj
      cases hj
      rw [List.getD_eq_getElem?_getD]
      rw [List.getElem?_eq_getElem (show j < zs.length by omega)] at hw ⊢
      simp only [Option.getD_some] at hw ⊢
      rw [UInt8.toNat_ofNat', Nat.mod_eq_of_lt (by omega)]
      congr 2
      omega
    · rw [hlen, hx]
      have h1 := bulk_length (H := H) (lits .u8 (zs.take len))
      simp only [lits, List.length_map, List.length_take] at h1
      simp only [Rows.uptoBulk, lits]
      omega
theorem bulk_sum {H : Type} (D : Nat → DataW H) (f : Nat → List UInt8) : ∀ (l : List Nat), (∀ i ∈ l, (f i).length + 1 ≤ Rows.uptoBulk (D i)) → ((l.map f).map List.length).sum + l.length ≤ Rows.uptoBulkAll (l.map D)
  | [], _ => by simp
  | i :: r, h => by
    have h1 := h i (by simp)
    have h2 := bulk_sum D f r (fun j hj => h j (by simp [hj]))
    simp only [List.map_cons, List.sum_cons, List.length_cons, Rows.uptoBulkAll]
    omega
set_option maxRecDepth 100000 in
/-- A [][]byte that came in. -/
theorem open_lists_u {H : Type} {enc : TypeId × Value → H} {W : World} {base base' : Nat} {spare : Nat → Bool} {held : Bool} {t e q : TypeId} {v : Value} {d : DataW H} {ps : List MemPlace}
    (hu : Tryd.prog.underlying t = some (.slice e)) (he : Tryd.prog.underlying e = some (.slice q)) (hq : Tryd.prog.underlying q = some (.int .u8)) (ce : Tryd.prog.cellsOf e = 1) (cq : Tryd.prog.cellsOf q = 1)
    (hok : Value.okWide Tryd.prog W .any base t v) (h : DataW.Trod enc Tryd.prog W base' spare held t v d ps) :
    ∃ ms vs, LL W v ms vs ∧ (ms.map List.length).sum + ms.length ≤ Rows.uptoBulk d := by
  obtain ⟨a, len, cap, rfl⟩ := okWide_slice hu hok
  obtain ⟨fuel, hf⟩ := h
  rcases open_slice1 hu ce hf with ⟨hcs, _⟩ | ⟨x, l, c, m, n, V, D, Pl, hcs, _, hl, hm, hmm, hx, hcell⟩
  · simp [Value.cells] at hcs
    obtain ⟨rfl, rfl, rfl⟩ := hcs
    exact ⟨[], [], ⟨⟨none, 0, rfl, Nat.le_refl _, by unfold maxLen; omega, fun _ => rfl, fun j u hj => by simp at hj⟩, fun j hj => by simp at hj⟩, by simp⟩
  · simp [Value.cells] at hcs
    obtain ⟨rfl, rfl, rfl⟩ := hcs
    obtain ⟨hx, _⟩ := Prod.mk.inj hx
    subst hx
    have hlm : len ≤ m := by rw [hmm]; split <;> omega
    obtain ⟨f, hff⟩ := choose_lt (α := List UInt8) (p := fun i s => Bs W (V i) s ∧ s.length + 1 ≤ Rows.uptoBulk (D i)) (fun i hi => bytes_of_trod he hq cq (hcell i (Nat.lt_of_lt_of_le hi hlm)).2)
    refine ⟨(List.range len).map f, (List.range len).map V, ⟨⟨some x, cap, by simp, by simp; exact hl, hm, fun h => (by cases h), fun j u hj => ⟨x, rfl, ?_⟩⟩, fun j hj => ?_⟩, ?_⟩
    · have hjl : j < len := by
        have := (List.getElem?_eq_some_iff.1 hj).1
        simpa using this
      rw [List.getElem?_map, List.getElem?_range hjl] at hj
      cases hj
      exact (hcell j (by omega)).1
    · have hjl : j < len := by simpa using hj
      refine ⟨V j, by rw [List.getElem?_map, List.getElem?_range hjl]; rfl, ?_⟩
      rw [List.getElem_map, List.getElem_range]
      exact (hff j hjl).1
    · have h1 := bulk_sum D f (List.range len) (fun i hi => (hff i (by simpa using hi)).2)
      simp only [Rows.uptoBulk, List.length_map]
      omega
end Go.Proofs.YthgjecofmnomfaaDoor
