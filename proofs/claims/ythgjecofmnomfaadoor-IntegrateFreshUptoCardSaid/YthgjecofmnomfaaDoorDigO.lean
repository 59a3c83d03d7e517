/- WORDS for the law DigestsOrder: a []api.Digest that the call owns; the order of adding. No statement of the seed is proved here. -/
import Derived.Test.YthgjecofmnomfaaDoorDigH
import Derived.Test.YthgjecofmnomfaaDoorDigJ
namespace Go.Proofs.YthgjecofmnomfaaDoor
open Go.RowKit
set_option maxRecDepth 100000

def digsL (ds : List (List UInt8)) : List Value := ds.flatMap u8s
def Wid32 (ds : List (List UInt8)) : Prop := ∀ d ∈ ds, d.length = 32
theorem digsL_length : ∀ (ds : List (List UInt8)), Wid32 ds → (digsL ds).length = ds.length * 32
  | [], _ => rfl
  | d :: ds, h => by
    have := digsL_length ds (fun e he => h e (by simp [he]))
    unfold digsL at *
    rw [List.flatMap_cons, List.length_append, this, u8s_length, h d (by simp), List.length_cons]
    omega
theorem digsL_append (a b : List (List UInt8)) : digsL (a ++ b) = digsL a ++ digsL b := by simp [digsL]
theorem digsL_one (d : List UInt8) : digsL [d] = u8s d := by simp [digsL]
theorem digsL_get : ∀ (ds : List (List UInt8)), Wid32 ds → ∀ (i : Nat) (hi : i < ds.length) (j : Nat), j < 32 → (digsL ds)[i * 32 + j]? = (u8s ds[i])[j]?
  | [], _, i, hi, _, _ => by simp at hi
  | d :: ds, h, 0, _, j, hj => by
    rw [show digsL (d :: ds) = u8s d ++ digsL ds from rfl, Nat.zero_mul, Nat.zero_add, List.getElem?_append_left (by rw [u8s_length, h d (by simp)]; exact hj)]
    rfl
  | d :: ds, h, i + 1, hi, j, hj => by
    have ih := digsL_get ds (fun e he => h e (by simp [he])) i (by simpa using hi) j hj
    have hl : (u8s d).length = 32 := by rw [u8s_length, h d (by simp)]
    rw [show digsL (d :: ds) = u8s d ++ digsL ds from rfl, List.getElem?_append_right (by omega), hl, show (i + 1) * 32 + j - 32 = i * 32 + j by omega, ih]
    simp
/-- A []api.Digest that the call owns. -/
def DsO (w : World) (B : Nat) (v : Value) (ds : List (List UInt8)) : Prop := w.ownsRow B 63 32 v ds.length (digsL ds) ∧ Wid32 ds
theorem DsO.nil (w : World) (B : Nat) : DsO w B (.slice none 0 0) [] := ⟨World.ownsRow_nil _ _ _ _, fun d h => (by cases h)⟩
theorem DsO.below {w w1 : World} {B : Nat} {v : Value} {ds : List (List UInt8)} (h : DsO w B v ds) (hb : Below w.heap.size w w1) : DsO w1 B v ds := ⟨owns_below h.1 hb, h.2⟩
theorem DsO.ds {w : World} {B : Nat} {v : Value} {ds : List (List UInt8)} (h : DsO w B v ds) : Ds w v ds := by
  have hr := Row.of_owns h.1
  obtain ⟨h, hw⟩ := h
  rcases h with ⟨hl, ⟨rfl, hn⟩ | ⟨g, cap, cur, rfl, hb, hg, hn, hm, hs, ht⟩⟩
  · have : ds = [] := List.eq_nil_of_length_eq_zero (by simpa using hn)
    subst this
    exact ⟨none, 0, rfl, Nat.le_refl _, by unfold maxLen; omega, fun _ => rfl, by simp, fun j h => by simp at h⟩
  · refine ⟨some ⟨g, 0, none⟩, cap, rfl, hn, hm, fun h => (by cases h), hw, fun j hj => ⟨g, 0, rfl, fun q u hu => ?_⟩⟩
    have hq : q < 32 := by have := (List.getElem?_eq_some_iff.1 hu).1; rwa [u8s_length, hw _ (List.getElem_mem hj)] at this
    rw [← digsL_get ds hw j hj q hq] at hu
    obtain ⟨ad, ha, hc⟩ := hr.at_ (j * 32 + q) hu
    cases ha
    rw [Addr.add_mid] at hc
    rw [← Nat.add_assoc] at hc
    exact hc
theorem DsO.form {w : World} {B : Nat} {v : Value} {ds : List (List UInt8)} (h : DsO w B v ds) : ∃ A c, v = .slice A ds.length c ∧ ds.length ≤ c ∧ c ≤ 9223372036854775807 := h.ds.form
theorem info_digest : (Tryd.prog.info? 63).map (fun i => (i.zero.map (·.cells.size), i.size, i.bytes)) = some (some 32, 32, 32) := by kernel_rfl
/-- append(l, d). -/
theorem app_digest {w : World} {ops : Array Oper} {rest : List Oper} {o : Oper} {a : Act} {Q : Exit → Act → World → Prop} (hgd : o.guard = none) (s x : Operand)
    (ho : o.op = .call { callee := .builtin .append, args := #[s, x], argTypes := #[55, 55] }) (B : Nat) (v : Value) (hs : a.eval s = v) (ds : List (List UInt8)) (hown : DsO w B v ds)
    (d : List UInt8) (hd : d.length = 32) (hx : a.eval x = .slice (some ⟨w.heap.size, 0, none⟩) 1 1) (hn : ds.length + 1 ≤ 4000000) (hB : B ≤ w.heap.size)
    (h : ∀ v' w', DsO w' B v' (ds ++ [d]) → (w.alloc (.cells (u8s d).toArray 63)).grownBy w' v.ownBlock → (v'.ownBlock = v.ownBlock ∨ v'.ownBlock = some (w.heap.size + 1)) → wpList Tryd.prog ops Q rest (a.put o.dst v') w') :
    wpList Tryd.prog ops Q (o :: rest) a (w.alloc (.cells (u8s d).toArray 63)) := by
  refine wpList_plain hgd fun K hK => ?_
  have ht : Tryd.prog.underlying 55 = some (.slice 63) := by kernel_rfl
  obtain ⟨i, hi, hq⟩ := Option.map_eq_some_iff.1 info_digest
  simp only [Prod.mk.injEq] at hq
  obtain ⟨q1, q2, q3⟩ := hq
  obtain ⟨z, hz, hzs⟩ := Option.map_eq_some_iff.1 q1
  have hl : (u8s d).length = 1 * 32 := by rw [u8s_length, hd]
  obtain ⟨v', w', e1, e2, e3, _, e5⟩ := run_append_own_at (P := Tryd.prog) (w.alloc (.cells (u8s d).toArray 63)) B 55 o.type 63 i z 32 32 ht hi hz q2 q3 hzs (by omega) v ds.length (digsL ds) (World.ownsRow.alloc hown.1 _) ⟨w.heap.size, 0, none⟩ 1 1 (u8s d) hl (fun j u hu => by
    rw [add_plain, cell_of_row _ w.heap.size j _ _ (0, 0) (heap_alloc_new w _)]
    simpa using hu) (u8s_one d) (by unfold maxLen; omega) (by omega) (by simp; omega)
  unfold Oper.wp execOp
  simp only [ho, resolve, invoke, builtin, Sem.run_bind, Sem.run_pure, Result.andThen_ok, List.map_toArray, List.map_cons, List.map_nil, hs, hx, e1]
  refine hK _ _ (h v' w' ⟨?_, fun e he => ?_⟩ e3 (by simpa using e5))
  · rw [List.length_append, digsL_append, digsL_one]
    exact e2
  · rcases List.mem_append.1 he with he | he
    · exact hown.2 e he
    · simp at he; subst he; exact hd
theorem wpList_one_digest {ops : Array Oper} {rest : List Oper} {o : Oper} {a : Act} {w : World} {Q : Exit → Act → World → Prop} (hg : o.guard = none) (x : Operand) (ho : o.op = .buildSlice 55 1 #[(0, x)]) (d : List UInt8) (hx : a.eval x = .agg (u8s d).toArray) (hl : d.length = 32)
    (h : wpList Tryd.prog ops Q rest (a.put o.dst (.slice (some ⟨w.heap.size, 0, none⟩) 1 1)) (w.alloc (.cells (u8s d).toArray 63))) : wpList Tryd.prog ops Q (o :: rest) a w := by
  obtain ⟨i, hi, hq⟩ := Option.map_eq_some_iff.1 info_digest
  simp only [Prod.mk.injEq] at hq
  obtain ⟨q1, q2, q3⟩ := hq
  obtain ⟨z, hz, hzs⟩ := Option.map_eq_some_iff.1 q1
  have hul : (u8s d).length = 32 := by rw [u8s_length, hl]
  refine wpList_buildSlice hg 55 63 1 _ ho (u8s d).toArray i z (by kernel_rfl) hi hz (by rw [q2]; omega) (by rw [q2]; omega) ?_ h
  have := Great.fill_whole (s := 32) (by omega) [.agg (u8s d).toArray] ((Array.range (1 * 32)).map (z.cells[· % z.cells.size]!)) (by simp [Value.cells, hul]) (by simp)
  rw [q2]
  simpa [hx, Value.cells] using this
/-! ### the order -/
def hd0 (d : List UInt8) : Nat := (d.headD 0).toNat
theorem hd0_get {d : List UInt8} (h : d.length = 32) : (d[0]'(by omega)).toNat = hd0 d := by
  cases d with
  | nil => simp at h
  | cons x d => rfl
/-- What was taken of the digests: the different ones, in order; each one's place is its first byte. -/
structure OrdA (ds : List (List UInt8)) (rs : List (List Item)) (items : List Item) : Prop where
  good : Good rs items
  wid : Wid32 ds
  nodup : ds.Nodup
  mem : ∀ x ∈ rs.flatten, x.1 ∈ ds ∧ x.2 = (hd0 x.1 : Int)
  all : ∀ d ∈ ds, findI rs.flatten d ≠ none
  len : rs.flatten.length = ds.length
theorem OrdA.nil : OrdA [] [] [] := ⟨Good.nil, by simp [Wid32], List.nodup_nil, by simp, by simp, rfl⟩
theorem OrdA.snoc {ds : List (List UInt8)} {rs : List (List Item)} {items : List Item} (h : OrdA ds rs items) {d : List UInt8} (hd : d.length = 32) (hf : findI rs.flatten d = none) : OrdA (ds ++ [d]) (addRuns rs (d, (hd0 d : Int))) (insI items (d, (hd0 d : Int))) where
  good := h.good.add hd (by rw [← h.good.find]; exact hf)
  wid := fun e he => by
    rcases List.mem_append.1 he with he | he
    · exact h.wid e he
    · simp at he; subst he; exact hd
  nodup := by
    rw [List.nodup_append]
    refine ⟨h.nodup, by simp, fun a ha b hb e => ?_⟩
    simp at hb
    subst hb e
    exact h.all _ ha hf
  mem := fun x hx => by
    rcases List.mem_cons.1 ((addRuns_perm rs _).mem_iff.1 hx) with rfl | hx
    · exact ⟨by simp, rfl⟩
    · obtain ⟨a, b⟩ := h.mem x hx
      exact ⟨by simp [a], b⟩
  all := fun e he => by
    rw [findI_add]
    rcases List.mem_append.1 he with he | he
    · exact .inr (h.all e he)
    · simp at he; exact .inl he.symm
  len := by rw [addRuns_len, h.len, List.length_append]; rfl
/-- The place in the list that the i-th one of the other order has. -/
def turnK (n c i : Nat) : Nat := if c + i < n then c + i else c + i - n
structure OrdB (ds : List (List UInt8)) (c i : Nat) (rs : List (List Item)) (items : List Item) : Prop where
  good : Good rs items
  mem : ∀ x ∈ rs.flatten, ∃ q, q < i ∧ ds[turnK ds.length c q]? = some x.1
  all : ∀ q d, q < i → ds[turnK ds.length c q]? = some d → findI rs.flatten d ≠ none
  len : rs.flatten.length = i
theorem OrdB.nil (ds : List (List UInt8)) (c : Nat) : OrdB ds c 0 [] [] := ⟨Good.nil, by simp, fun q d h => by omega, rfl⟩
theorem OrdB.new {ds : List (List UInt8)} {c i : Nat} {rs : List (List Item)} {items : List Item} (h : OrdB ds c i rs items) (hn : ds.Nodup) (_ : c < ds.length) (hi : i < ds.length) {d : List UInt8} (hd : ds[turnK ds.length c i]? = some d) : findI rs.flatten d = none := by
  rw [findI_none_iff]
  intro x hx e
  obtain ⟨q, hq, hx1⟩ := h.mem x hx
  rw [e] at hx1
  obtain ⟨h1, h2⟩ := List.getElem?_eq_some_iff.1 hx1
  obtain ⟨h3, h4⟩ := List.getElem?_eq_some_iff.1 hd
  have := (List.getElem_inj hn).1 (h2.trans h4.symm)
  unfold turnK at this
  split at this <;> split at this <;> omega
theorem OrdB.snoc {ds : List (List UInt8)} {c i : Nat} {rs : List (List Item)} {items : List Item} (h : OrdB ds c i rs items) (hw : Wid32 ds) {d : List UInt8} (pl : Int) (hd : ds[turnK ds.length c i]? = some d) (hf : findI rs.flatten d = none) : OrdB ds c (i + 1) (addRuns rs (d, pl)) (insI items (d, pl)) where
  good := h.good.add (hw d (List.mem_of_getElem? hd)) (by rw [← h.good.find]; exact hf)
  mem := fun x hx => by
    rcases List.mem_cons.1 ((addRuns_perm rs _).mem_iff.1 hx) with rfl | hx
    · exact ⟨i, by omega, hd⟩
    · obtain ⟨q, a, b⟩ := h.mem x hx
      exact ⟨q, by omega, b⟩
  all := fun q e hq he => by
    rw [findI_add]
    rcases Nat.lt_or_ge q i with h1 | h1
    · exact .inr (h.all q e h1 he)
    · have : q = i := by omega
      subst this
      rw [hd] at he; cases he
      exact .inl rfl
  len := by rw [addRuns_len, h.len]
theorem strict_eq : ∀ {a b : List (List UInt8)}, (∀ x ∈ a, x.length = 32) → (∀ x ∈ b, x.length = 32) → a.Pairwise (fun x y => dval x < dval y) → b.Pairwise (fun x y => dval x < dval y) → (∀ x, x ∈ a ↔ x ∈ b) → a = b
  | [], [], _, _, _, _, _ => rfl
  | [], y :: b, _, _, _, _, h => by have := (h y).2 (by simp); simp at this
  | x :: a, [], _, _, _, _, h => by have := (h x).1 (by simp); simp at this
  | x :: a, y :: b, wa, wb, pa, pb, h => by
    rw [List.pairwise_cons] at pa pb
    have hxy : x = y := by
      rcases List.mem_cons.1 ((h x).1 (by simp)) with e | e
      · exact e
      · rcases List.mem_cons.1 ((h y).2 (by simp)) with e2 | e2
        · exact e2.symm
        · have := pa.1 y e2
          have := pb.1 x e
          omega
    subst hxy
    rw [strict_eq (fun z hz => wa z (by simp [hz])) (fun z hz => wb z (by simp [hz])) pa.2 pb.2 (fun z => ?_)]
    have hz := h z
    constructor
    · intro hm
      rcases List.mem_cons.1 (hz.1 (by simp [hm])) with e | e
      · subst e; have := pa.1 z hm; omega
      · exact e
    · intro hm
      rcases List.mem_cons.1 (hz.2 (by simp [hm])) with e | e
      · subst e; have := pb.1 z hm; omega
      · exact e
theorem Good.keys {rs : List (List Item)} {items : List Item} (g : Good rs items) : (items.map (·.1)).Pairwise fun x y => dval x < dval y := by
  rw [List.pairwise_map]; exact g.sorted
/-- Both orders make the same. -/
theorem orders_same {ds : List (List UInt8)} {c : Nat} {ra rb : List (List Item)} {ia ib : List Item} (ha : OrdA ds ra ia) (hb : OrdB ds c ds.length rb ib) (hc : c < ds.length ∨ ds.length = 0) : ib.map (·.1) = ia.map (·.1) := by
  refine strict_eq ?_ ?_ hb.good.keys ha.good.keys ?_
  · intro x hx; obtain ⟨y, hy, rfl⟩ := List.mem_map.1 hx; exact hb.good.wid y hy
  · intro x hx; obtain ⟨y, hy, rfl⟩ := List.mem_map.1 hx; exact ha.good.wid y hy
  · intro d
    have ea : d ∈ ia.map (·.1) ↔ d ∈ ds := by
      constructor
      · intro hx
        obtain ⟨y, hy, rfl⟩ := List.mem_map.1 hx
        exact (ha.mem y (ha.good.perm.mem_iff.2 hy)).1
      · intro hx
        obtain ⟨y, hy, e, -⟩ := findI_some (ha.all d hx)
        exact List.mem_map.2 ⟨y, ha.good.perm.mem_iff.1 hy, e⟩
    rw [ea]
    constructor
    · intro hx
      obtain ⟨y, hy, rfl⟩ := List.mem_map.1 hx
      obtain ⟨q, _, h2⟩ := hb.mem y (hb.good.perm.mem_iff.2 hy)
      exact List.mem_of_getElem? h2
    · intro hx
      obtain ⟨j, hj, rfl⟩ := List.getElem_of_mem hx
      have hc' : c < ds.length := by rcases hc with h | h <;> omega
      have hk : ∃ q, q < ds.length ∧ turnK ds.length c q = j := by
        rcases Nat.lt_or_ge j c with h | h
        · exact ⟨j + ds.length - c, by omega, by unfold turnK; rw [if_neg (by omega)]; omega⟩
        · exact ⟨j - c, by omega, by unfold turnK; rw [if_pos (by omega)]; omega⟩
      obtain ⟨q, h1, h2⟩ := hk
      obtain ⟨y, hy, e, -⟩ := findI_some (hb.all q ds[j] h1 (by rw [h2]; exact List.getElem?_eq_getElem hj))
      exact List.mem_map.2 ⟨y, hb.good.perm.mem_iff.1 hy, e⟩
theorem turn_place (p : Int) (n : Nat) (h0 : 0 < n) (hn : n ≤ 1000000000) : ∃ c : Nat, c < n ∧ ∀ i : Nat, i < n → (wrap64 (wrap64 (p.tmod (n : Int) + (n : Int)) + (i : Int))).tmod (n : Int) = (turnK n c i : Int) := by
  have h1 := Int.tmod_lt_of_pos p (show (0 : Int) < (n : Int) by omega)
  have h2 : -(n : Int) < p.tmod (n : Int) := Int.lt_tmod_of_pos p (show (0 : Int) < (n : Int) by omega)
  generalize p.tmod (n : Int) = q at h1 h2
  obtain ⟨m, hm⟩ := Int.eq_ofNat_of_zero_le (show 0 ≤ q + (n : Int) by omega)
  refine ⟨m % n, Nat.mod_lt _ h0, fun i hi => ?_⟩
  have hw : wrap64 (q + (n : Int)) = (m : Int) := by unfold wrap64; omega
  have hw2 : wrap64 ((m : Int) + (i : Int)) = ((m + i : Nat) : Int) := by unfold wrap64; omega
  rw [hw, hw2]
  have h3 : (((m + i : Nat) : Int).tmod (n : Int)) = (((m + i) % n : Nat) : Int) := by rw [Int.tmod_eq_emod_of_nonneg (by omega)]; rfl
  rw [h3]
  congr 1
  have h4 := Nat.mod_lt m h0
  rw [Nat.add_mod, Nat.mod_eq_of_lt hi]
  unfold turnK
  split
  · rename_i h; exact Nat.mod_eq_of_lt h
  · rename_i h
    have : m % n + i = (m % n + i - n) + n := by omega
    rw [this, Nat.add_mod_right, Nat.mod_eq_of_lt (by omega)]
    omega
end Go.Proofs.YthgjecofmnomfaaDoor
