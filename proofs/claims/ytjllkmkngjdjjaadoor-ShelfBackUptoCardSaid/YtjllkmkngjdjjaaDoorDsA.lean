/- WORDS: a []api.Digest that is read, and one that came in (blocks of XDigB, XDigC, XDigH, XUptoD, for a seat that lacks package digests; written by pick.py). No statement of the seed is proved here. -/
import Derived.Test.YtjllkmkngjdjjaaDoorUpto
import Derived.Test.YtjllkmkngjdjjaaDoorLists
import Derived.Deep.Slices
import Derived.Deep.MidRow
namespace Go.Proofs.YtjllkmkngjdjjaaDoor
open Go.ChangeShapes Go.WideShapes Go.ChangeAt Go.RowKit Go.Deep
set_option maxRecDepth 100000
theorem rangeAt_below {w w1 : World} {b o : Nat} {cs : List Value} (h : w.rangeAt b o cs) (hb : Below w.heap.size w w1) : w1.rangeAt b o cs := fun j v hv => cell_below hb (h j v hv)
theorem load_digest {w : World} {g o : Nat} {d : List UInt8} (hd : d.length = 32) (h : w.rangeAt g o (u8s d)) : (Instr.loadAt 24 (.pointer (some ⟨g, o, none⟩))).run Tryd.prog w = .ok (.agg (u8s d).toArray) w := by
  have hs : (Tryd.prog.info? 24).map (·.size) = some 32 := by kernel_rfl
  exact run_loadAt_mid w g o 24 (u8s d) _ h Tryd.underlying24 rfl (by rw [hs, u8s_length, hd])
/-- A slice of digests that is read. -/
def Ds (w : World) (v : Value) (ds : List (List UInt8)) : Prop :=
  ∃ A c, v = .slice A ds.length c ∧ ds.length ≤ c ∧ c ≤ maxLen ∧ (A = none → c = 0) ∧ (∀ d ∈ ds, d.length = 32) ∧ ∀ (j : Nat) (h : j < ds.length), ∃ g o, A = some ⟨g, o, none⟩ ∧ w.rangeAt g (o + j * 32) (u8s ds[j])
theorem Ds.below {w w1 : World} {v : Value} {ds : List (List UInt8)} (h : Ds w v ds) (hb : Below w.heap.size w w1) : Ds w1 v ds :=
  let ⟨A, c, e, h1, h2, h3, h4, h5⟩ := h
  ⟨A, c, e, h1, h2, h3, h4, fun j hj => let ⟨g, o, a, b⟩ := h5 j hj; ⟨g, o, a, rangeAt_below b hb⟩⟩
theorem Ds.form {w : World} {v : Value} {ds : List (List UInt8)} (h : Ds w v ds) : ∃ A c, v = .slice A ds.length c ∧ ds.length ≤ c ∧ c ≤ 9223372036854775807 := by
  obtain ⟨A, c, e, h1, h2, -⟩ := h
  unfold maxLen at h2
  exact ⟨A, c, e, h1, h2⟩
theorem Ds.wid {w : World} {v : Value} {ds : List (List UInt8)} (h : Ds w v ds) (j : Nat) (hj : j < ds.length) : ds[j].length = 32 := by
  obtain ⟨A, c, e, h1, h2, h3, h4, h5⟩ := h
  exact h4 _ (List.getElem_mem hj)
theorem Ds.at_ {w : World} {A : Option Addr} {n c : Nat} {ds : List (List UInt8)} (h : Ds w (.slice A n c) ds) (j : Nat) (hj : j < ds.length) : ∃ g o, A = some ⟨g, o, none⟩ ∧ w.rangeAt g (o + j * 32) (u8s ds[j]) := by
  obtain ⟨A', c', e, h1, h2, h3, h4, h5⟩ := h
  cases e
  exact h5 j hj
theorem cells_get {w : World} {base : Nat} {a : Addr} {n : Nat} {cs : List Value} (h : w.cells? base a n = some cs) (j : Nat) (hj : j < n) : ∃ u, cs[j]? = some u ∧ w.cell? (a.add j) = some u := by
  have hp : cs.length = n ∧ ∀ j, j < n → ∃ u, cs[j]? = some u ∧ w.cell? (a.add j) = some u := by
    unfold World.cells? at h
    split at h
    rotate_left
    · cases h
    · have hl := mapM_some_length h
      refine ⟨by simpa using hl, fun j hj => ?_⟩
      have := mapM_some_get h j j (by simp [hj])
      have hj' : j < cs.length := by rw [hl]; simpa using hj
      refine ⟨cs[j], List.getElem?_eq_getElem hj', ?_⟩
      rw [List.getElem?_eq_getElem hj'] at this
      simpa using this
  exact hp.2 j hj
theorem cell_spot {w : World} {a : Addr} {u : Value} (h : w.cell? a = some u) : a.spot = none := by
  unfold World.cell? at h
  split at h
  · split at h
    · cases h
    · rename_i hs; simpa using hs
  · cases h
theorem bulk_mem_len {H : Type} : ∀ (l : List (DataW H)), l.length ≤ Rows.uptoBulkAll l := bulk_length
/-- An api.Digest that was read. -/
theorem digest_of_trod {H : Type} {enc : TypeId × Value → H} {W : World} {base : Nat} {spare : Nat → Bool} {held : Bool} {fuel : Nat} {cs : List Value} {x : DataW H × List MemPlace} (h : DataW.trod enc Tryd.prog W base spare held fuel 24 cs = some x) :
    ∃ d : List UInt8, d.length = 32 ∧ cs = u8s d ∧ 33 ≤ Rows.uptoBulk x.1 := by
  obtain ⟨xs, m, _, hx, hl, hn, hall⟩ := DataW.trod_array Tryd.underlying24 h
  have hc : Tryd.prog.cellsOf 5 = 1 := by kernel_rfl
  have h32 : Tryd.prog.cellsOf 24 = 32 := by kernel_rfl
  rw [h32] at hl
  have key : ∀ i, i < 32 → ∃ n : UInt8, cs[i]? = some (.int .u8 (n.toNat : Int)) := fun i hi => by
    have hi2 := hall i hi
    rw [hc, List.getElem?_eq_getElem (show i < xs.length by omega)] at hi2
    obtain ⟨n, e1, _, hw⟩ := DataW.trod_int Tryd.underlying5 hi2
    have h0 : ((cs.drop (i * 1)).take 1)[0]? = some (.int .u8 n) := by rw [e1]; rfl
    simp [Lit.wf, IntKind.min, IntKind.max, IntKind.signed, IntKind.bits] at hw
    refine ⟨UInt8.ofNat n.toNat, ?_⟩
    rw [UInt8.toNat_ofNat', Nat.mod_eq_of_lt (by omega)]
    simp [List.getElem?_drop] at h0
    rw [h0]
    congr 2
    omega
  obtain ⟨f, hf⟩ := choose_lt (α := UInt8) (p := fun i n => cs[i]? = some (.int .u8 (n.toNat : Int))) key
  refine ⟨(List.range 32).map f, by simp, ?_, ?_⟩
  · apply List.ext_getElem?
    intro i
    by_cases hi : i < 32
    · rw [hf i hi]; simp [u8s, hi]
    · rw [List.getElem?_eq_none (by omega), List.getElem?_eq_none (by simp [u8s]; omega)]
  · rw [hx]
    simp only [Rows.uptoBulk]
    have := bulk_length (H := H) (xs.map (·.1))
    simp only [List.length_map] at this
    omega
theorem bulk_many {H : Type} (c : Nat) (D : Nat → DataW H) : ∀ (l : List Nat), (∀ i ∈ l, c ≤ Rows.uptoBulk (D i)) → l.length * c ≤ Rows.uptoBulkAll (l.map D)
  | [], _ => by simp
  | i :: r, h => by
    have h1 := h i (by simp)
    have h2 := bulk_many c D r (fun j hj => h j (by simp [hj]))
    simp only [List.map_cons, List.length_cons, Rows.uptoBulkAll]
    rw [Nat.succ_mul]
    omega
/-- A []api.Digest that came in. -/
theorem open_digests_u {H : Type} {enc : TypeId × Value → H} {W : World} {base base' : Nat} {spare : Nat → Bool} {held : Bool} {v : Value} {d : DataW H} {ps : List MemPlace}
    (hok : Value.okWide Tryd.prog W .any base 22 v) (h : DataW.Trod enc Tryd.prog W base' spare held 22 v d ps) : ∃ ds, Ds W v ds ∧ ds.length * 33 ≤ Rows.uptoBulk d := by
  obtain ⟨a, len, cap, rfl⟩ := okWide_slice Tryd.underlying22 hok
  obtain ⟨fuel, hf⟩ := h
  have h32 : Tryd.prog.cellsOf 24 = 32 := by kernel_rfl
  rcases open_slice Tryd.underlying22 hf with ⟨hcs, _⟩ | ⟨x, l, c, m, n, D, Pl, hcs, _, hl, hm, hmm, hx, hcell⟩
  · simp [Value.cells] at hcs
    obtain ⟨rfl, rfl, rfl⟩ := hcs
    exact ⟨[], ⟨none, 0, rfl, Nat.le_refl _, by unfold maxLen; omega, fun _ => rfl, by simp, fun j hj => by simp at hj⟩, by simp⟩
  · simp [Value.cells] at hcs
    obtain ⟨rfl, rfl, rfl⟩ := hcs
    obtain ⟨hx, _⟩ := Prod.mk.inj hx
    subst hx
    have hlm : len ≤ m := by rw [hmm]; split <;> omega
    rw [h32] at hcell
    obtain ⟨f, hff⟩ := choose_lt (α := List UInt8) (p := fun i s => s.length = 32 ∧ (∀ j u, (u8s s)[j]? = some u → W.cell? ((x.add (i * 32)).add j) = some u) ∧ 33 ≤ Rows.uptoBulk (D i)) (n := len) (fun i hi => by
      obtain ⟨cs', h1, h2⟩ := hcell i (Nat.lt_of_lt_of_le hi hlm)
      obtain ⟨d, d1, d2, d3⟩ := digest_of_trod h2
      refine ⟨d, d1, fun j u hu => ?_, d3⟩
      have hj : j < 32 := by have := (List.getElem?_eq_some_iff.1 hu).1; rwa [u8s_length, d1] at this
      obtain ⟨u', e1, e2⟩ := cells_get h1 j hj
      rw [d2, hu] at e1
      cases e1
      exact e2)
    refine ⟨(List.range len).map f, ⟨some x, cap, by simp, by simp; exact hl, hm, fun h => (by cases h), fun d hd => ?_, fun j hj => ?_⟩, ?_⟩
    · obtain ⟨i, hi, rfl⟩ := List.mem_map.1 hd
      exact (hff i (by simpa using hi)).1
    · have hjl : j < len := by simpa using hj
      obtain ⟨f1, f2, f3⟩ := hff 0 (by omega)
      have hsp := cell_spot (f2 0 _ (u8s_get (f 0) 0 (by omega)))
      rw [Nat.zero_mul] at hsp
      have hx0 : x.spot = none := hsp
      obtain ⟨g, o, sp⟩ := x
      simp only at hx0
      subst hx0
      refine ⟨g, o, rfl, fun q u hu => ?_⟩
      rw [List.getElem_map, List.getElem_range] at hu
      have := (hff j hjl).2.1 q u hu
      rwa [Addr.add_mid, Addr.add_mid] at this
    · have h1 := bulk_many 33 D (List.range len) (fun i hi => (hff i (by simpa using hi)).2.2)
      simp only [Rows.uptoBulk, List.length_map]
      omega
/-- An api.Digest that came in. -/
theorem open_digest_u {H : Type} {enc : TypeId × Value → H} {W : World} {base base' : Nat} {spare : Nat → Bool} {held : Bool} {v : Value} {d : DataW H} {ps : List MemPlace}
    (hok : Value.okWide Tryd.prog W .any base 24 v) (h : DataW.Trod enc Tryd.prog W base' spare held 24 v d ps) : ∃ s : List UInt8, s.length = 32 ∧ v = .agg (u8s s).toArray := by
  obtain ⟨fuel, hf⟩ := h
  obtain ⟨s, s1, s2, -⟩ := digest_of_trod hf
  refine ⟨s, s1, ?_⟩
  obtain ⟨cs, rfl⟩ : ∃ cs, v = .agg cs := by
    unfold Value.okWide at hok
    rw [Tryd.underlying24] at hok
    obtain ⟨cs, e, _⟩ := hok
    exact ⟨cs, e⟩
  simp only [Value.cells] at s2
  rw [← s2]
end Go.Proofs.YtjllkmkngjdjjaaDoor
