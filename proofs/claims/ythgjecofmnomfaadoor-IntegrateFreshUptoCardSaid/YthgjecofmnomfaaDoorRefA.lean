/- WALKS of the reference's index: Less, Find. No statement of the seed is proved here. -/
import Derived.Test.YthgjecofmnomfaaDoorDigQ
namespace Go.Proofs.YthgjecofmnomfaaDoor
open Go.RowKit
set_option maxRecDepth 100000

theorem ret_bool {a b : Bool} (h : a = b) : Ending.returned (.bool a) = .returned (.bool b) := by rw [h]
theorem dval_append (a b : List UInt8) : dval (a ++ b) = dval a * 256 ^ b.length + dval b := by
  unfold dval
  rw [List.foldl_append, foldl_dval]
  rfl
theorem dval_diff {a b : List UInt8} (h : a.length = b.length) (i : Nat) (hi : i < a.length) (hp : a.take i = b.take i) : (a[i].toNat < (b[i]'(by omega)).toNat → dval a < dval b) ∧ ((b[i]'(by omega)).toNat < a[i].toNat → dval b < dval a) := by
  have ea : a = a.take i ++ a[i] :: a.drop (i + 1) := by rw [List.getElem_cons_drop, List.take_append_drop]
  have eb : b = b.take i ++ (b[i]'(by omega)) :: b.drop (i + 1) := by rw [List.getElem_cons_drop, List.take_append_drop]
  have hl : (a.drop (i + 1)).length = (b.drop (i + 1)).length := by simp [h]
  have la := dval_lt (a.drop (i + 1))
  have lb := dval_lt (b.drop (i + 1))
  have key : ∀ p q r s t : Nat, p < q → r < t → p * t + r < q * t + s := fun p q r s t hpq hr => by
    have : p * t + t ≤ q * t := by rw [← Nat.succ_mul]; exact Nat.mul_le_mul_right _ hpq
    omega
  have va : dval a = dval (a.take i) * 256 ^ (b.drop (i + 1)).length.succ + (a[i].toNat * 256 ^ (b.drop (i + 1)).length + dval (a.drop (i + 1))) := by
    conv => lhs; rw [ea]
    rw [dval_append, dval_cons, List.length_cons, hl]
  have vb : dval b = dval (a.take i) * 256 ^ (b.drop (i + 1)).length.succ + ((b[i]'(by omega)).toNat * 256 ^ (b.drop (i + 1)).length + dval (b.drop (i + 1))) := by
    conv => lhs; rw [eb]
    rw [dval_append, dval_cons, List.length_cons, hp]
  rw [hl] at la
  constructor
  · intro hlt
    have := key _ _ _ (dval (b.drop (i + 1))) _ hlt la
    omega
  · intro hlt
    have := key _ _ _ (dval (a.drop (i + 1))) _ hlt lb
    omega
theorem box_digest {w : World} {b : Nat} {d : List UInt8} {t : TypeId} (h : w.heap[b]? = some (.cells (u8s d).toArray t)) (j : Nat) (hj : j < d.length) : w.cell? ⟨b, j, none⟩ = some (.int .u8 (d[j].toNat : Int)) := by
  rw [cell_of_row _ b j _ _ (0, 0) h]
  simpa using u8s_get d j hj
theorem less_calls (a b : List UInt8) (ha : a.length = 32) (hb : b.length = 32) (w : World) :
    Calls Tryd.prog 46 #[.agg (u8s a).toArray, .agg (u8s b).toArray] w fun e w' => e = .returned (.bool (decide (dval a < dval b))) ∧ Below w.heap.size w w' := by
  have hB := below_then (below_alloc1 w (.cells (u8s a).toArray 63)) (below_alloc1 _ (.cells (u8s b).toArray 63))
  have h1 := heap_alloc2_old w (.cells (u8s a).toArray 63) (.cells (u8s b).toArray 63)
  have h2 := heap_alloc2_new w (.cells (u8s a).toArray 63) (.cells (u8s b).toArray 63)
  go_enter Tryd.func46, Tryd.ntmps46
  go_wp2
  generalize (w.alloc (.cells (u8s a).toArray 63)).alloc (.cells (u8s b).toArray 63) = W at hB h1 h2 ⊢
  have H1 := Lib.hid (fun j hj => box_digest h1 j hj)
  have H2 := Lib.hid (fun j hj => box_digest h2 j hj)
  clear h1 h2
  go_loopw [4, 5] (fun r i wr => ∃ j : Nat, j ≤ 32 ∧ i = .int .i64 (j : Int) ∧ r = .bool false ∧ Hid (a.take j = b.take j) ∧ Below W.heap.size W wr) (fun _ i _ => 32 - (intOf i).toNat)
  case atStart => exact ⟨0, by omega, rfl, rfl, Lib.hid rfl, Below.refl _ _⟩
  case round =>
    obtain ⟨j, hj, rfl, rfl, hp, hBr⟩ := hrel
    by_cases hlt : j < 32
    · have c1 := cell_below hBr (H1.out j (by omega))
      have c2 := cell_below hBr (H2.out j (by omega))
      have hd := dval_diff (a := a) (b := b) (by omega) j (by omega) hp.out
      have HD := Lib.hid hd; clear hd
      have HT := Lib.hid (fun (h : a[j] = b[j]) => (show a.take (j + 1) = b.take (j + 1) by rw [List.take_succ_eq_append_getElem (by omega), List.take_succ_eq_append_getElem (by omega), hp.out, h]))
      have HE := Lib.hid (fun (h : a[j].toNat = b[j].toNat) => UInt8.toNat_inj.1 h)
      generalize a[j] = x at *
      generalize b[j] = y at *
      have j0 : (0 : Int) ≤ (j : Int) := Int.natCast_nonneg _
      have j1 : (j : Int) < 32 := by omega
      by_cases hxy : x.toNat = y.toNat
      · have t1 : ((x.toNat : Int) != (y.toNat : Int)) = false := by simp [hxy]
        have HXY := Lib.hid hxy; clear hxy
        go_wp2_with fail
        go_quiet (fail)
        have hBn := below_drewN hBr nq
        go_wp2_with fail
        go_roundw
        case rel => exact ⟨j + 1, by omega, by go_num, rfl, Lib.hid (HT.out (HE.out HXY.out)), hBn⟩
        case measure => simp [intOf]; omega
      · have t1 : ((x.toNat : Int) != (y.toNat : Int)) = true := by simp; omega
        have hres : decide (x.toNat < y.toNat) = decide (dval a < dval b) := by
          rw [Bool.eq_iff_iff]
          simp only [decide_eq_true_eq]
          constructor
          · exact HD.out.1
          · intro h
            rcases Nat.lt_or_ge x.toNat y.toNat with h1 | h1
            · exact h1
            · have := HD.out.2 (by omega); omega
        have HR := Lib.hid hres; clear hres hxy
        go_wp2_with fail
        go_quiet (fail)
        have hBn := below_drewN hBr nq
        go_wp2_with fail
        have cn1 := cell_below (below_drewN (Below.refl _ _) nq) c1
        have cn2 := cell_below (below_drewN (Below.refl _ _) nq) c2
        generalize wr.drewN nq = wn at hBn cn1 cn2 ⊢
        go_quiet (fail)
        have hBm := below_drewN hBn nq
        go_wp2_with fail
        go_ret
        exact ⟨ret_bool HR.out, hB.trans (hBm.mono hB.size)⟩
    · have hj32 : j = 32 := by omega
      subst hj32
      have he : a = b := by
        have := hp.out
        rwa [List.take_of_length_le (by omega), List.take_of_length_le (by omega)] at this
      have hres : false = decide (dval a < dval b) := by rw [he]; simp
      have HR := Lib.hid hres; clear hres he
      rw [show ((32 : Nat) : Int) = 32 from rfl]
      go_wp2_with fail
      go_ret
      exact ⟨ret_bool HR.out, hB.trans (hBr.mono hB.size)⟩
/-- The reference's index by value: its items, its runs' lengths. -/
structure RefV (w : World) (vi vn : Value) (items : List Item) (ns : List Nat) : Prop where
  itm : RunV w vi items
  wid : Wid items
  runs : Row w vn ns.length (natsL ns)
  few : items.length ≤ 1000000
  few2 : ns.length ≤ 1000000
theorem RefV.below {w w1 : World} {vi vn : Value} {items : List Item} {ns : List Nat} (h : RefV w vi vn items ns) (hb : Below w.heap.size w w1) : RefV w1 vi vn items ns :=
  ⟨h.itm.below hb, h.wid, h.runs.below hb, h.few, h.few2⟩
theorem find_cons (l : List Item) (j : Nat) (hj : j < l.length) (d : List UInt8) (h : ∀ q (hq : q < l.length), q < j → (l[q]'hq).1 ≠ d) (he : (l[j]'hj).1 = d) : findI l d = some (l[j]'hj) := by
  unfold findI
  rw [List.find?_eq_some_iff_getElem]
  exact ⟨by simp [he], j, hj, rfl, fun q hq => by simpa using h q (by omega) hq⟩
theorem find_none (l : List Item) (d : List UInt8) (h : ∀ q (hq : q < l.length), (l[q]'hq).1 ≠ d) : findI l d = none := by
  rw [findI_none_iff]
  intro x hx
  obtain ⟨q, hq, rfl⟩ := List.getElem_of_mem hx
  exact h q hq
theorem row_form {w : World} {v : Value} {n : Nat} {cs : List Value} (h : Row w v n cs) : ∃ A c, v = .slice A n c ∧ n ≤ c ∧ c ≤ 9223372036854775807 := by
  obtain ⟨A, c, e, h1, h2, -⟩ := h
  unfold maxLen at h2
  exact ⟨A, c, e, h1, h2⟩
theorem rfind_calls (vi vn : Value) (items : List Item) (ns : List Nat) (d : List UInt8) (hd : d.length = 32) (w : World) (h : RefV w vi vn items ns) :
    Calls Tryd.prog 45 #[.agg #[vi, vn], .agg (u8s d).toArray] w fun e w' => e = .returned (.tuple #[.int .i64 (findV items d).1, .bool (findV items d).2]) ∧ Below w.heap.size w w' := by
  obtain ⟨A, c, rfl, a1, a2⟩ := h.itm.form
  obtain ⟨A2, c2, rfl, a3, a4⟩ := row_form h.runs
  have hB := below_then (below_alloc1 w (.cells #[.slice A items.length c, .slice A2 ns.length c2] 60)) (below_alloc1 _ (.cells (u8s d).toArray 63))
  have h1 := heap_alloc2_old w (.cells #[.slice A items.length c, .slice A2 ns.length c2] 60) (.cells (u8s d).toArray 63)
  have h2 := heap_alloc2_new w (.cells #[.slice A items.length c, .slice A2 ns.length c2] 60) (.cells (u8s d).toArray 63)
  have hW := h.below hB
  have hfew := h.few
  clear h
  go_enter Tryd.func45, Tryd.ntmps45
  go_wp2
  generalize (w.alloc (.cells #[.slice A items.length c, .slice A2 ns.length c2] 60)).alloc (.cells (u8s d).toArray 63) = W at hB h1 h2 hW ⊢
  have k1 := cell_of_row _ w.heap.size 0 _ _ (0, 0) h1
  have HD := Lib.hid (show W.rangeAt (w.heap.size + 1) 0 (u8s d) from fun j u hu => by
    rw [Nat.zero_add, cell_of_row _ (w.heap.size + 1) j _ _ (0, 0) h2]
    simpa using hu)
  have HW := Lib.hid hW
  clear h1 h2 hW
  go_loopw [6] (fun i wr => ∃ j : Nat, j ≤ items.length ∧ i = .int .i64 (j : Int) ∧ Hid (∀ q (hq : q < items.length), q < j → (items[q]'hq).1 ≠ d) ∧ Below W.heap.size W wr) (fun i _ => items.length - (intOf i).toNat)
  case atStart => exact ⟨0, by omega, rfl, Lib.hid (fun q _ h => by omega), Below.refl _ _⟩
  case round =>
    obtain ⟨j, hj, rfl, hp, hBr⟩ := hrel
    have k1r := cell_below hBr k1
    by_cases hlt : j < items.length
    · obtain ⟨g, o, c3, e3, m1, m2, hra⟩ := (HW.out.itm.below hBr).at_ HW.out.wid j hlt
      cases e3
      have x32 := HW.out.wid _ (List.getElem_mem hlt)
      have LA := Lib.hid (fun w' (hq : ∃ n, w' = wr.drewN n) => (show (Instr.loadAt 63 (.pointer (some ⟨g, o + j * 33, none⟩))).run Tryd.prog w' = .ok (.agg (u8s items[j].1).toArray) w' by obtain ⟨n, rfl⟩ := hq; exact load_digest x32 (range_digest x32 (rangeAt_drewN hra n))))
      have LB := Lib.hid (fun w' (hq : ∃ n, w' = wr.drewN n) => (show (Instr.loadAt 63 (.pointer (some ⟨w.heap.size + 1, 0, none⟩))).run Tryd.prog w' = .ok (.agg (u8s d).toArray) w' by obtain ⟨n, rfl⟩ := hq; exact load_digest hd (rangeAt_drewN (rangeAt_below HD.out hBr) n)))
      have hpl := range_place x32 hra
      have j0 : (0 : Int) ≤ (j : Int) := Int.natCast_nonneg _
      have j1 : (j : Int) < (items.length : Int) := by omega
      clear hra
      go_wp2_with fail
      refine wp_region_quiet_lit (by kernel_rfl) (by kernel_rfl) ?_
      go_big_quiet_step (fail)
      go_big_quiet_step (fail)
      go_big_quiet_step (fail)
      go_big_quiet_step (fail)
      go_big_quiet_step (fail)
      refine wpQuiet_run (by rfl) (.agg (u8s items[j].1).toArray) (fun w' hw => run_op_load _ _ rfl _ _ (by rfl) w' (LA.out w' hw)) ?_
      simp only [Act.put, List.setIfInBounds_toArray, List.set_cons_zero, List.set_cons_succ]
      refine wpQuiet_run (by rfl) (.agg (u8s d).toArray) (fun w' hw => run_op_load _ _ rfl _ _ (by rfl) w' (LB.out w' hw)) ?_
      simp only [Act.put, List.setIfInBounds_toArray, List.set_cons_zero, List.set_cons_succ]
      refine wpQuiet_run (by rfl) (.bool (items[j].1 == d)) (fun w' _ => run_op_eql _ _ _ rfl items[j].1 d x32 hd (by rfl) (by rfl) w') ?_
      simp only [Act.put, List.setIfInBounds_toArray, List.set_cons_zero, List.set_cons_succ]
      refine wpQuiet_nil ?_
      intro _ hw'; obtain ⟨nq, hw''⟩ := hw'; subst hw''
      have hBn := below_drewN hBr nq
      by_cases heq : items[j].1 = d
      · have hbq : (items[j].1 == d) = true := by simp [heq]
        have hf := find_cons items j hlt d hp.out heq
        have HV := Lib.hid (show findV items d = (items[j].2, true) by unfold findV; rw [hf])
        clear heq hf LA LB
        rw [hbq]
        go_wp2_with fail
        go_ret2
        exact ⟨by rw [HV.out]; rfl, hB.trans (hBn.mono hB.size)⟩
      · have hbq : (items[j].1 == d) = false := by simp [heq]
        have HN := Lib.hid (show ∀ q (hq : q < items.length), q < j + 1 → (items[q]'hq).1 ≠ d from fun q hq hqj => by
          rcases Nat.lt_or_ge q j with h | h
          · exact hp.out q hq h
          · have : q = j := by omega
            subst this; exact heq)
        clear heq LA LB
        rw [hbq]
        go_wp2_with fail
        go_roundw
        case rel => exact ⟨j + 1, by omega, by go_num, HN, hBn⟩
        case measure => simp [intOf]; omega
    · have hf := find_none items d (fun q hq => hp.out q hq (by omega))
      have HV := Lib.hid (show findV items d = (0, false) by unfold findV; rw [hf])
      clear hf
      go_wp2_with fail
      go_ret2
      exact ⟨by rw [HV.out]; rfl, hB.trans (hBr.mono hB.size)⟩
end Go.Proofs.YthgjecofmnomfaaDoor
