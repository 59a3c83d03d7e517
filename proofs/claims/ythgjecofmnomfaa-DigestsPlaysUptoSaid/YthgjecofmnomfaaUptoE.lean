/- WORDS for the row of DigestsPlays: a []Act that came in, an api.Digest that came in. No statement of the seed is proved here. -/
import Derived.Test.YthgjecofmnomfaaUptoD
import Derived.Test.YthgjecofmnomfaaDigPl
namespace Go.Proofs.Ythgjecofmnomfaa
open Go.ChangeShapes Go.WideShapes Go.ChangeAt Go.RowKit Go.Deep
set_option maxRecDepth 100000

/-- An Act that was read. -/
theorem act_of_trod {H : Type} {enc : TypeId × Value → H} {W : World} {base : Nat} {spare : Nat → Bool} {held : Bool} {fuel : Nat} {cs : List Value} {x : DataW H × List MemPlace} (h : DataW.trod enc Try.prog W base spare held fuel 42 cs = some x) :
    ∃ a : ActD, a.1.length = 32 ∧ cs = actL a ∧ 33 ≤ Rows.uptoBulk x.1 := by
  obtain ⟨xs, m, _, hx, hl, hn, hall⟩ := DataW.trod_struct Try.underlying42 h
  have hc : Try.prog.cellsOf 42 = 34 := by kernel_rfl
  have h32 : Try.prog.cellsOf 34 = 32 := by kernel_rfl
  have hi1 : Try.prog.cellsOf 3 = 1 := by kernel_rfl
  have hb1 : Try.prog.cellsOf 4 = 1 := by kernel_rfl
  rw [hc] at hl
  have q0 : DataW.trod enc Try.prog W base spare held m 34 ((cs.drop 0).take (Try.prog.cellsOf 34)) = xs[0]? := hall 0 _ rfl
  have q1 : DataW.trod enc Try.prog W base spare held m 3 ((cs.drop 32).take (Try.prog.cellsOf 3)) = xs[1]? := hall 1 _ rfl
  have q2 : DataW.trod enc Try.prog W base spare held m 4 ((cs.drop 33).take (Try.prog.cellsOf 4)) = xs[2]? := hall 2 _ rfl
  rw [h32] at q0
  rw [hi1] at q1
  rw [hb1] at q2
  have hn3 : xs.length = 3 := hn
  rw [List.getElem?_eq_getElem (show 0 < xs.length by omega)] at q0
  rw [List.getElem?_eq_getElem (show 1 < xs.length by omega)] at q1
  rw [List.getElem?_eq_getElem (show 2 < xs.length by omega)] at q2
  obtain ⟨d, d1, d2, d3⟩ := digest_of_trod q0
  obtain ⟨n, e1, -, -⟩ := DataW.trod_int Try.underlying3 q1
  obtain ⟨b, e2, -⟩ := DataW.trod_bool Try.underlying4 q2
  refine ⟨(d, n, b), d1, ?_, ?_⟩
  · have t0 : cs = cs.take 32 ++ (cs.drop 32).take 1 ++ (cs.drop 33).take 1 := by
      apply List.ext_getElem?
      intro i
      by_cases h1 : i < 32
      · rw [List.append_assoc, List.getElem?_append_left (by simp; omega)]; simp [h1]
      · by_cases h2 : i < 33
        · obtain rfl : i = 32 := by omega
          rw [List.append_assoc, List.getElem?_append_right (by rw [List.length_take]; omega), List.getElem?_append_left (by simp; omega)]
          simp [hl]
        · by_cases h3 : i < 34
          · obtain rfl : i = 33 := by omega
            rw [List.getElem?_append_right (by simp; omega)]
            simp [hl]
          · rw [List.getElem?_eq_none (by omega), List.getElem?_eq_none (by simp; omega)]
    rw [List.drop_zero] at d2
    rw [d2, e1, e2] at t0
    rw [t0]
    simp [actL]
  · rw [hx]
    simp only [Rows.uptoBulk]
    have hp := bulk_part (l := xs.map (·.1)) (d := xs[0].1) (List.mem_map.2 ⟨xs[0], List.getElem_mem _, rfl⟩)
    omega
/-- A []Act that came in. -/
theorem open_acts_u {H : Type} {enc : TypeId × Value → H} {W : World} {base base' : Nat} {spare : Nat → Bool} {held : Bool} {v : Value} {d : DataW H} {ps : List MemPlace}
    (hok : Value.okWide Try.prog W .any base 51 v) (h : DataW.Trod enc Try.prog W base' spare held 51 v d ps) : ∃ acts, Acts W v acts ∧ acts.length * 33 ≤ Rows.uptoBulk d := by
  obtain ⟨a, len, cap, rfl⟩ := okWide_slice Try.underlying51 hok
  obtain ⟨fuel, hf⟩ := h
  have h34 : Try.prog.cellsOf 42 = 34 := by kernel_rfl
  rcases open_slice Try.underlying51 hf with ⟨hcs, _⟩ | ⟨x, l, c, m, n, D, Pl, hcs, _, hl, hm, hmm, hx, hcell⟩
  · simp [Value.cells] at hcs
    obtain ⟨rfl, rfl, rfl⟩ := hcs
    exact ⟨[], ⟨none, 0, rfl, Nat.le_refl _, by unfold maxLen; omega, fun j hj => by simp at hj⟩, by simp⟩
  · simp [Value.cells] at hcs
    obtain ⟨rfl, rfl, rfl⟩ := hcs
    obtain ⟨hx, _⟩ := Prod.mk.inj hx
    subst hx
    have hlm : len ≤ m := by rw [hmm]; split <;> omega
    rw [h34] at hcell
    obtain ⟨f, hff⟩ := choose_lt (α := ActD) (p := fun i s => s.1.length = 32 ∧ (∀ j u, (actL s)[j]? = some u → W.cell? ((x.add (i * 34)).add j) = some u) ∧ 33 ≤ Rows.uptoBulk (D i)) (n := len) (fun i hi => by
      obtain ⟨cs', h1, h2⟩ := hcell i (Nat.lt_of_lt_of_le hi hlm)
      obtain ⟨d, d1, d2, d3⟩ := act_of_trod h2
      refine ⟨d, d1, fun j u hu => ?_, d3⟩
      have hj : j < 34 := by have := (List.getElem?_eq_some_iff.1 hu).1; simp [actL, u8s_length, d1] at this; omega
      obtain ⟨u', e1, e2⟩ := cells_get h1 j hj
      rw [d2, hu] at e1
      cases e1
      exact e2)
    refine ⟨(List.range len).map f, ⟨some x, cap, by simp, by simp; exact hl, hm, fun j hj => ?_⟩, ?_⟩
    · have hjl : j < len := by simpa using hj
      obtain ⟨f1, f2, f3⟩ := hff 0 (by omega)
      have hsp := cell_spot (f2 0 _ (by unfold actL; rw [List.getElem?_append_left (by rw [u8s_length]; omega)]; exact u8s_get (f 0).1 0 (by omega)))
      rw [Nat.zero_mul] at hsp
      have hx0 : x.spot = none := hsp
      obtain ⟨g, o, sp⟩ := x
      simp only at hx0
      subst hx0
      rw [List.getElem_map, List.getElem_range]
      refine ⟨(hff j hjl).1, g, o, rfl, fun q u hu => ?_⟩
      have := (hff j hjl).2.1 q u hu
      rwa [Addr.add_mid, Addr.add_mid] at this
    · have h1 := bulk_many 33 D (List.range len) (fun i hi => (hff i (by simpa using hi)).2.2)
      simp only [Rows.uptoBulk, List.length_map]
      omega
/-- An api.Digest that came in. -/
theorem open_digest_u {H : Type} {enc : TypeId × Value → H} {W : World} {base base' : Nat} {spare : Nat → Bool} {held : Bool} {v : Value} {d : DataW H} {ps : List MemPlace}
    (hok : Value.okWide Try.prog W .any base 34 v) (h : DataW.Trod enc Try.prog W base' spare held 34 v d ps) : ∃ s : List UInt8, s.length = 32 ∧ v = .agg (u8s s).toArray := by
  obtain ⟨fuel, hf⟩ := h
  obtain ⟨s, s1, s2, -⟩ := digest_of_trod hf
  refine ⟨s, s1, ?_⟩
  obtain ⟨cs, rfl⟩ : ∃ cs, v = .agg cs := by
    unfold Value.okWide at hok
    rw [Try.underlying34] at hok
    obtain ⟨cs, e, _⟩ := hok
    exact ⟨cs, e⟩
  simp only [Value.cells] at s2
  rw [← s2]
end Go.Proofs.Ythgjecofmnomfaa
