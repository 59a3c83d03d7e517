/- WORDS for the rows of the '..UptoSaid' statements: a []api.Digest that came in. No statement of the seed is proved here. -/
import Derived.Test.YthgjecofmnomfaaDoorUpto
import Derived.Test.YthgjecofmnomfaaDoorDigH
import Derived.Deep.Slices
namespace Go.Proofs.YthgjecofmnomfaaDoor
open Go.ChangeShapes Go.WideShapes Go.ChangeAt Go.RowKit Go.Deep
set_option maxRecDepth 100000

theorem cells_get {w : World} {base : Nat} {a : Addr} {n : Nat} {cs : List Value} (h : w.cells? base a n = some cs) (j : Nat) (hj : j < n) : ∃ u, cs[j]? = some u ∧ w.cell? (a.add j) = some u := by
  have hp : cs.length = n ∧ ∀ j, j < n → ∃ u, cs[j]? = some u ∧ w.cell? (a.add j) = some u := by
    unfold World.cells? at h
    split at h
    rotate_left
    · cases h
    · have hl := mapM_some_length h
      refine ⟨by simpa using hl, fun j hj => ?_⟩
      have := mapM_some_get h j j (by simp [hj])
      have hj' : j < cs.length := by rw [hl]; simpa using hj
      refine ⟨cs[j], List.getElem?_eq_getElem hj', ?_⟩
      rw [List.getElem?_eq_getElem hj'] at this
      simpa using this
  exact hp.2 j hj
theorem cell_spot {w : World} {a : Addr} {u : Value} (h : w.cell? a = some u) : a.spot = none := by
  unfold World.cell? at h
  split at h
  · split at h
    · cases h
    · rename_i hs; simpa using hs
  · cases h
theorem bulk_mem_len {H : Type} : ∀ (l : List (DataW H)), l.length ≤ Rows.uptoBulkAll l := bulk_length
/-- An api.Digest that was read. -/
theorem digest_of_trod {H : Type} {enc : TypeId × Value → H} {W : World} {base : Nat} {spare : Nat → Bool} {held : Bool} {fuel : Nat} {cs : List Value} {x : DataW H × List MemPlace} (h : DataW.trod enc Tryd.prog W base spare held fuel 63 cs = some x) :
    ∃ d : List UInt8, d.length = 32 ∧ cs = u8s d ∧ 33 ≤ Rows.uptoBulk x.1 := by
  obtain ⟨xs, m, _, hx, hl, hn, hall⟩ := DataW.trod_array Tryd.underlying63 h
  have hc : Tryd.prog.cellsOf 5 = 1 := by kernel_rfl
  have h32 : Tryd.prog.cellsOf 63 = 32 := by kernel_rfl
  rw [h32] at hl
  have key : ∀ i, i < 32 → ∃ n : UInt8, cs[i]? = some (.int .u8 (n.toNat : Int)) := fun i hi => by
    have hi2 := hall i hi
    rw [hc, List.getElem?_eq_getElem (show i < xs.length by omega)] at hi2
    obtain ⟨n, e1, _, hw⟩ := DataW.trod_int Tryd.underlying5 hi2
    have h0 : ((cs.drop (i * 1)).take 1)[0]? = some (.int .u8 n) := by rw [e1]; rfl
    simp [Lit.wf, IntKind.min, IntKind.max, IntKind.signed, IntKind.bits] at hw
    refine ⟨UInt8.ofNat n.toNat, ?_⟩
    rw [UInt8.toNat_ofNat', Nat.mod_eq_of_lt (by omega)]
    simp [List.getElem?_drop] at h0
    rw [h0]
    congr 2
    omega
  obtain ⟨f, hf⟩ := choose_lt (α := UInt8) (p := fun i n => cs[i]? = some (.int .u8 (n.toNat : Int))) key
  refine ⟨(List.range 32).map f, by simp, ?_, ?_⟩
  · apply List.ext_getElem?
    intro i
    by_cases hi : i < 32
    · rw [hf i hi]; simp [u8s, hi]
    · rw [List.getElem?_eq_none (by omega), List.getElem?_eq_none (by simp [u8s]; omega)]
  · rw [hx]
    simp only [Rows.uptoBulk]
    have := bulk_length (H := H) (xs.map (·.1))
    simp only [List.length_map] at this
    omega
theorem bulk_many {H : Type} (c : Nat) (D : Nat → DataW H) : ∀ (l : List Nat), (∀ i ∈ l, c ≤ Rows.uptoBulk (D i)) → l.length * c ≤ Rows.uptoBulkAll (l.map D)
  | [], _ => by simp
  | i :: r, h => by
    have h1 := h i (by simp)
    have h2 := bulk_many c D r (fun j hj => h j (by simp [hj]))
    simp only [List.map_cons, List.length_cons, Rows.uptoBulkAll]
    rw [Nat.succ_mul]
    omega
/-- A []api.Digest that came in. -/
theorem open_digests_u {H : Type} {enc : TypeId × Value → H} {W : World} {base base' : Nat} {spare : Nat → Bool} {held : Bool} {v : Value} {d : DataW H} {ps : List MemPlace}
    (hok : Value.okWide Tryd.prog W .any base 55 v) (h : DataW.Trod enc Tryd.prog W base' spare held 55 v d ps) : ∃ ds, Ds W v ds ∧ ds.length * 33 ≤ Rows.uptoBulk d := by
  obtain ⟨a, len, cap, rfl⟩ := okWide_slice Tryd.underlying55 hok
  obtain ⟨fuel, hf⟩ := h
  have h32 : Tryd.prog.cellsOf 63 = 32 := by kernel_rfl
  rcases open_slice Tryd.underlying55 hf with ⟨hcs, _⟩ | ⟨x, l, c, m, n, D, Pl, hcs, _, hl, hm, hmm, hx, hcell⟩
  · simp [Value.cells] at hcs
    obtain ⟨rfl, rfl, rfl⟩ := hcs
    exact ⟨[], ⟨none, 0, rfl, Nat.le_refl _, by unfold maxLen; omega, fun _ => rfl, by simp, fun j hj => by simp at hj⟩, by simp⟩
  · simp [Value.cells] at hcs
    obtain ⟨rfl, rfl, rfl⟩ := hcs
    obtain ⟨hx, _⟩ := Prod.mk.inj hx
    subst hx
    have hlm : len ≤ m := by rw [hmm]; split <;> omega
    rw [h32] at hcell
    obtain ⟨f, hff⟩ := choose_lt (α := List UInt8) (p := fun i s => s.length = 32 ∧ (∀ j u, (u8s s)[j]? = some u → W.cell? ((x.add (i * 32)).add j) = some u) ∧ 33 ≤ Rows.uptoBulk (D i)) (n := len) (fun i hi => by
      obtain ⟨cs', h1, h2⟩ := hcell i (Nat.lt_of_lt_of_le hi hlm)
      obtain ⟨d, d1, d2, d3⟩ := digest_of_trod h2
      refine ⟨d, d1, fun j u hu => ?_, d3⟩
      have hj : j < 32 := by have := (List.getElem?_eq_some_iff.1 hu).1; rwa [u8s_length, d1] at this
      obtain ⟨u', e1, e2⟩ := cells_get h1 j hj
      rw [d2, hu] at e1
      cases e1
      exact e2)
    refine ⟨(List.range len).map f, ⟨some x, cap, by simp, by simp; exact hl, hm, fun h => (by cases h), fun d hd => ?_, fun j hj => ?_⟩, ?_⟩
    · obtain ⟨i, hi, rfl⟩ := List.mem_map.1 hd
      exact (hff i (by simpa using hi)).1
    · have hjl : j < len := by simpa using hj
      obtain ⟨f1, f2, f3⟩ := hff 0 (by omega)
      have hsp := cell_spot (f2 0 _ (u8s_get (f 0) 0 (by omega)))
      rw [Nat.zero_mul] at hsp
      have hx0 : x.spot = none := hsp
      obtain ⟨g, o, sp⟩ := x
      simp only at hx0
      subst hx0
      refine ⟨g, o, rfl, fun q u hu => ?_⟩
      rw [List.getElem_map, List.getElem_range] at hu
      have := (hff j hjl).2.1 q u hu
      rwa [Addr.add_mid, Addr.add_mid] at this
    · have h1 := bulk_many 33 D (List.range len) (fun i hi => (hff i (by simpa using hi)).2.2)
      simp only [Rows.uptoBulk, List.length_map]
      omega
end Go.Proofs.YthgjecofmnomfaaDoor
