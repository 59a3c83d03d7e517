/- WALKS of package digests: Find. No statement of the seed is proved here. -/
import Derived.Test.YthgjecofmnomfaaDigB
import Derived.Stop.BytesEq
namespace Go.Proofs.Ythgjecofmnomfaa
open Go.RowKit
set_option maxRecDepth 100000

theorem itemsL_get : ∀ (xs : List Item), Wid xs → ∀ (i : Nat) (hi : i < xs.length) (j : Nat), j < 33 → (itemsL xs)[i * 33 + j]? = (itemL xs[i])[j]?
  | [], _, i, hi, _, _ => by simp at hi
  | x :: xs, h, 0, _, j, hj => by
    rw [show itemsL (x :: xs) = itemL x ++ itemsL xs from rfl, Nat.zero_mul, Nat.zero_add, List.getElem?_append_left (by rw [itemL_length x h.head]; exact hj)]
    rfl
  | x :: xs, h, i + 1, hi, j, hj => by
    have ih := itemsL_get xs h.tail i (by simpa using hi) j hj
    have hl := itemL_length x h.head
    rw [show itemsL (x :: xs) = itemL x ++ itemsL xs from rfl, List.getElem?_append_right (by omega), hl, show (i + 1) * 33 + j - 33 = i * 33 + j by omega, ih]
    simp
theorem RunV.at_ {w : World} {v : Value} {xs : List Item} (h : RunV w v xs) (hw : Wid xs) (i : Nat) (hi : i < xs.length) :
    ∃ g o c, v = .slice (some ⟨g, o, none⟩) xs.length c ∧ xs.length ≤ c ∧ c ≤ 9223372036854775807 ∧ w.rangeAt g (o + i * 33) (itemL xs[i]) := by
  obtain ⟨A, c, rfl, h1, h2, h3, h4⟩ := h
  cases A with
  | none => have := h3 rfl; omega
  | some ad =>
    obtain ⟨g, o, sp⟩ := ad
    obtain ⟨hsp, hr⟩ := h4 _ rfl
    simp only at hsp hr
    subst hsp
    refine ⟨g, o, c, rfl, h1, h2, fun j u hu => ?_⟩
    have hj : j < 33 := by have := (List.getElem?_eq_some_iff.1 hu).1; rwa [itemL_length _ (hw _ (List.getElem_mem hi))] at this
    have := hr (i * 33 + j) u (by rw [itemsL_get xs hw i hi j hj]; exact hu)
    rw [Nat.add_assoc]
    exact this
theorem RunV.form {w : World} {v : Value} {xs : List Item} (h : RunV w v xs) : ∃ A c, v = .slice A xs.length c ∧ xs.length ≤ c ∧ c ≤ 9223372036854775807 := let ⟨A, c, e, h1, h2, _, _⟩ := h; ⟨A, c, e, h1, h2⟩
theorem eql_digest (xs ys : List UInt8) (hx : xs.length = 32) (hy : ys.length = 32) (w : World) :
    (binOp .eql 34 (.agg (u8s xs).toArray) (.agg (u8s ys).toArray)).run Try.prog w = .ok (.bool (xs == ys)) w :=
  run_eql_bytes w 34 5 32 (by kernel_rfl) (by kernel_rfl) (fun w => by
    have hi : (Try.prog.info? 5).map (·.size) = some 1 := by kernel_rfl
    obtain ⟨i, h1, h2⟩ := Option.map_eq_some_iff.1 hi
    rw [run_sizeOf _ h1]; simp [Program.cellsOf, h1, h2]) xs ys hx hy
theorem bs_range {w : World} {g o : Nat} {x : Item} (h32 : x.1.length = 32) (h : w.rangeAt g o (itemL x)) : Bs w (.slice (some ⟨g, o, none⟩) 32 32) x.1 :=
  bs_at h32 fun j hj => h j _ (by rw [itemL_get x h32 j (by omega)])
theorem find1_calls (i : Nat) (br bd : Nat) (u : Value) (xs : List Item) (d : List UInt8) (w : World) (hi : i < xs.length) (hb : w.cell? ⟨br, 0, none⟩ = some u) (hr : RunV w u xs) (wx : Wid xs) (hd32 : d.length = 32) (hd : Bs w (.slice (some ⟨bd, 0, none⟩) 32 32) d) :
    Calls Try.prog 29 (#[.int .i64 (i : Int)] ++ #[.pointer (some ⟨br, 0, none⟩), .pointer (some ⟨bd, 0, none⟩)]) w fun e w' => e = .returned (.bool (decide (dval d ≤ dval (xs[i]'hi).1))) ∧ Below w.heap.size w w' := by
  obtain ⟨g, o, c, rfl, h1, h2, hra⟩ := hr.at_ wx i hi
  have x32 := wx _ (List.getElem_mem hi)
  have hbs := bs_range x32 hra
  have hi0 : (0 : Int) ≤ (i : Int) := Int.natCast_nonneg _
  have hi1 : (i : Int) < (xs.length : Int) := by omega
  have hcmp := cmp_lt (a := xs[i].1) (b := d) (by rw [x32, hd32])
  have hiff : decide (dval d ≤ dval xs[i].1) = decide (0 ≤ Lib.compareBytes xs[i].1 d) := by
    rw [Bool.eq_iff_iff]; simp; omega
  rw [hiff]
  clear hiff hcmp hr hra
  generalize xs[i].1 = y at hbs x32 ⊢
  go_enter Try.func29, Try.ntmps29
  go_wp2_with fail
  go_quiet ((go_at_call 30; exact Calls.quiet_of_same (compare_any _ _ _ _ _ hbs hd)))
  go_wp2
  go_ret
  exact ⟨rfl, below_drewN (Below.refl _ _) _⟩
theorem wpQuiet_run {P : Program} {ops : Array Oper} {C : World → Prop} {Q : Act → Prop} {o : Oper} {rest : List Oper} {a : Act} (hw : Region.wanted o (yielded ops a.tmps) = true) (v : Value)
    (hr : ∀ w, C w → (execOp a.eval o).run P w = .ok (.value v) w) (h : wpQuiet P ops C Q rest (a.put o.dst v)) : wpQuiet P ops C Q (o :: rest) a :=
  wpQuiet_step fun K hK => by
    rw [if_pos hw]
    refine ⟨v, fun w hw => ?_, hK _ h⟩
    unfold Oper.quietAt
    rw [hr w hw]
    exact ⟨rfl, rfl⟩
theorem run_op_load {P : Program} {o : Oper} {ρ : Operand → Value} (ty : TypeId) (x : Operand) (ho : o.op = .load ty x) (p v : Value) (hx : ρ x = p) (w : World) (hr : (Instr.loadAt ty p).run P w = .ok v w) : (execOp ρ o).run P w = .ok (.value v) w := by
  unfold execOp
  simp only [ho, hx, Sem.run_bind, Sem.run_pure, hr, Result.andThen_ok]
theorem run_op_eql {o : Oper} {ρ : Operand → Value} (ty2 : TypeId) (x y : Operand) (ho : o.op = .binOp .eql 34 x y ty2) (a b : List UInt8) (ha : a.length = 32) (hb : b.length = 32) (hx : ρ x = .agg (u8s a).toArray) (hy : ρ y = .agg (u8s b).toArray) (w : World) : (execOp ρ o).run Try.prog w = .ok (.value (.bool (a == b))) w := by
  unfold execOp
  have hg : (eqGuard .eql 34 x y (.agg (u8s a).toArray) (.agg (u8s b).toArray)).run Try.prog w = .ok () w := by
    simp [eqGuard, Try.eqGuardType34]
  simp only [ho, hx, hy, Sem.run_bind, Sem.run_pure, hg, eql_digest a b ha hb w, Result.andThen_ok]
theorem load_digest {w : World} {g o : Nat} {d : List UInt8} (hd : d.length = 32) (h : w.rangeAt g o (u8s d)) : (Instr.loadAt 34 (.pointer (some ⟨g, o, none⟩))).run Try.prog w = .ok (.agg (u8s d).toArray) w := by
  have hs : (Try.prog.info? 34).map (·.size) = some 32 := by kernel_rfl
  exact run_loadAt_mid w g o 34 (u8s d) _ h Try.underlying34 rfl (by rw [hs, u8s_length, hd])
theorem range_digest {w : World} {g o : Nat} {x : Item} (hx : x.1.length = 32) (h : w.rangeAt g o (itemL x)) : w.rangeAt g o (u8s x.1) := fun j v hv => by
  have hj : j < 32 := by have := (List.getElem?_eq_some_iff.1 hv).1; rwa [u8s_length, hx] at this
  refine h j v ?_
  unfold itemL
  rw [List.getElem?_append_left (by rw [u8s_length]; omega)]
  exact hv
theorem range_place {w : World} {g o : Nat} {x : Item} (hx : x.1.length = 32) (h : w.rangeAt g o (itemL x)) : w.cell? ⟨g, o + 32, none⟩ = some (.int .i64 x.2) := h 32 _ (itemL_place x hx)
theorem range_of_bs {w : World} {b : Nat} {d : List UInt8} (h : Bs w (.slice (some ⟨b, 0, none⟩) 32 32) d) : w.rangeAt b 0 (u8s d) := fun j v hv => by
  obtain ⟨A, c, e, h1, h2, h0, h3⟩ := h
  obtain ⟨ad, ha, hc⟩ := h3 j v hv
  injection e with e1 e2 e3
  rw [ha] at e1
  injection e1 with e1
  subst e1
  rwa [Addr.add_mid] at hc
/-- An index, as it is read. -/
structure IxR (w : World) (p : Nat) (vr : Value) (us : List Value) (rs : List (List Item)) : Prop where
  c0 : w.cell? ⟨p, 0, none⟩ = some (.bool true)
  c1 : w.cell? ⟨p, 1, none⟩ = some vr
  row : Row w vr rs.length us
  runs : ∀ (j : Nat) (h : j < rs.length), ∃ u, us[j]? = some u ∧ RunV w u rs[j]
  wid : ∀ r ∈ rs, Wid r
  sorted : ∀ r ∈ rs, SortedI r
  small : rs.flatten.length ≤ 1000000
theorem IxR.below {w w1 : World} {p : Nat} {vr : Value} {us : List Value} {rs : List (List Item)} (h : IxR w p vr us rs) (hb : Below w.heap.size w w1) : IxR w1 p vr us rs :=
  ⟨cell_below hb h.c0, cell_below hb h.c1, h.row.below hb, fun j hj => let ⟨u, h1, h2⟩ := h.runs j hj; ⟨u, h1, h2.below hb⟩, h.wid, h.sorted, h.small⟩
theorem len_flatten : ∀ {rs : List (List Item)}, ∀ r ∈ rs, r.length ≤ rs.flatten.length
  | [], r, h => by cases h
  | s :: rs, r, h => by
    rw [List.flatten_cons, List.length_append]
    rcases List.mem_cons.1 h with rfl | h
    · omega
    · have := len_flatten r h; omega
def pF (xs : List Item) (d : List UInt8) (i : Nat) : Bool := match xs[i]? with | some x => decide (dval d ≤ dval x.1) | none => true
theorem pF_mono {xs : List Item} (hs : SortedI xs) (d : List UInt8) : ∀ i j, i ≤ j → pF xs d i = true → pF xs d j = true := by
  intro i j hij h
  unfold pF at *
  cases hj : xs[j]? with
  | none => rfl
  | some y =>
    obtain ⟨hj', rfl⟩ := List.getElem?_eq_some_iff.1 hj
    rw [List.getElem?_eq_getElem (show i < xs.length by omega)] at h
    simp only [decide_eq_true_eq] at h ⊢
    rcases Nat.eq_or_lt_of_le hij with rfl | hlt
    · exact h
    · have := List.pairwise_iff_getElem.1 hs i j (by omega) hj' hlt
      simp [leI] at this
      omega
/-- What a search in one run finds. -/
theorem search_find {xs : List Item} (hw : Wid xs) (hs : SortedI xs) {d : List UInt8} (hd : d.length = 32) {k : Nat} (hk : k ≤ xs.length) (hb : ∀ q, q < k → pF xs d q = false) (ha : k < xs.length → pF xs d k = true) :
    (∀ (h : k < xs.length), xs[k].1 = d → findI xs d = some xs[k]) ∧ ((∀ (h : k < xs.length), xs[k].1 ≠ d) → findI xs d = none) := by
  have low : ∀ q (h : q < xs.length), q < k → xs[q].1 ≠ d := fun q h hq e => by
    have := hb q hq
    unfold pF at this
    rw [List.getElem?_eq_getElem h] at this
    simp [e] at this
  refine ⟨fun h e => ?_, fun hne => ?_⟩
  · unfold findI
    rw [List.find?_eq_some_iff_getElem]
    exact ⟨by simp [e], k, h, rfl, fun q hq => by simpa using low q (by omega) hq⟩
  · unfold findI
    rw [List.find?_eq_none]
    intro x hx
    obtain ⟨q, hq, rfl⟩ := List.getElem_of_mem hx
    simp only [beq_iff_eq]
    intro e
    rcases Nat.lt_trichotomy q k with h | h | h
    · exact low q hq h e
    · subst h; exact hne hq e
    · have h1 := ha (by omega)
      unfold pF at h1
      rw [List.getElem?_eq_getElem (show k < xs.length by omega)] at h1
      have h2 := List.pairwise_iff_getElem.1 hs k q (by omega) hq h
      simp [leI] at h1 h2
      have h3 : dval xs[k].1 = dval d := by rw [← e] at h1 ⊢; omega
      exact hne (by omega) (dval_inj (by rw [hw _ (List.getElem_mem _), hd]) h3)
theorem find_skip {rs : List (List Item)} {j : Nat} {d : List UInt8} (h : ∀ i (hi : i < rs.length), i < j → findI rs[i] d = none) : findI (rs.take j).flatten d = none := by
  unfold findI at *
  rw [List.find?_eq_none]
  intro x hx
  obtain ⟨r, hr, hxr⟩ := List.mem_flatten.1 hx
  obtain ⟨i, hi, rfl⟩ := List.getElem_of_mem hr
  have hi' : i < j ∧ i < rs.length := by simp at hi; omega
  rw [List.getElem_take] at hxr
  exact List.find?_eq_none.1 (h i hi'.2 hi'.1) x hxr
theorem find_at {rs : List (List Item)} {j : Nat} {d : List UInt8} {x : Item} (h : ∀ i (hi : i < rs.length), i < j → findI rs[i] d = none) (hj : j < rs.length) (hx : findI rs[j] d = some x) : findI rs.flatten d = some x := by
  have h1 := find_skip h
  have e : rs.flatten = (rs.take j).flatten ++ (rs[j] ++ (rs.drop (j + 1)).flatten) := by
    rw [← List.flatten_cons, ← List.flatten_append, List.getElem_cons_drop, List.take_append_drop]
  rw [e]
  unfold findI at *
  rw [List.find?_append, h1, Option.none_or, List.find?_append, hx]
  rfl
theorem none_calls (p : Nat) (w : World) (h : w.cell? ⟨p, 0, none⟩ = some (.bool true)) : Calls Try.prog 25 #[.pointer (some ⟨p, 0, none⟩)] w fun e w' => e = .returned (.bool false) ∧ w' = w := by
  go_enter Try.func25, Try.ntmps25
  go_wp2
  go_ret
  exact ⟨rfl, rfl⟩
theorem find_calls (p : Nat) (vr : Value) (us : List Value) (rs : List (List Item)) (d : List UInt8) (w : World) (hx : IxR w p vr us rs) (hd : d.length = 32) :
    Calls Try.prog 13 #[.pointer (some ⟨p, 0, none⟩), .agg (u8s d).toArray] w fun e w' => e = .returned (.tuple #[.int .i64 (findV rs.flatten d).1, .bool (findV rs.flatten d).2]) ∧ Below w.heap.size w w' := by
  obtain ⟨A, c, rfl, a1, a2, -, -⟩ := hx.row
  unfold maxLen at a2
  have hb0 := below_alloc1 w (.cells (u8s d).toArray 34)
  have hbox : Bs (w.alloc (.cells (u8s d).toArray 34)) (.slice (some ⟨w.heap.size, 0, none⟩) 32 32) d := bs_at hd fun j hj => by
    rw [Nat.zero_add, cell_of_row _ w.heap.size j _ _ (0, 0) (heap_alloc_new w _)]
    simpa using u8s_get d j hj
  have hx1 := hx.below hb0
  have c0 := hx1.c0
  have c1 := hx1.c1
  have HX := Lib.hid hx; clear hx
  have HX1 := Lib.hid hx1; clear hx1
  have HD := Lib.hid hbox; clear hbox
  go_enter Try.func13, Try.ntmps13
  go_wp2
  go_step3
  go_wp2_with (go_at_call 25; refine (none_calls _ _ c0).mono ?_; rintro e w1 ⟨rfl, rfl⟩)
  go_step3
  go_wp2
  generalize hW : w.alloc (.cells (u8s d).toArray 34) = W at *
  go_loopw [6, 7, 18] (fun t6 t7 i wr => ∃ j : Nat, j ≤ rs.length ∧ t6 = .int .i64 0 ∧ t7 = .bool false ∧ i = .int .i64 (j : Int) ∧ (∀ q (hq : q < rs.length), q < j → findI rs[q] d = none) ∧ Below W.heap.size W wr) (fun _ _ i _ => rs.length - (intOf i).toNat)
  case atStart => exact ⟨0, by omega, rfl, rfl, rfl, fun q _ h => by omega, Below.refl _ _⟩
  case round =>
    obtain ⟨j, hj, rfl, rfl, rfl, hbef, hB⟩ := hrel
    have HF := Lib.hid hbef; clear hbef
    by_cases hlt : j < rs.length
    · obtain ⟨u, hu, hru⟩ := (HX1.out.below hB).runs j hlt
      obtain ⟨ad, hA, hcell⟩ := (HX1.out.below hB).row.at_ j hu
      subst hA
      have HR := Lib.hid hru
      obtain ⟨A2, c2, rfl, k1, k2⟩ := hru.form
      have hsm := HX.out.small
      have hle := len_flatten rs[j] (List.getElem_mem hlt)
      have hsm2 : rs[j].length ≤ 1000000 := by omega
      have wr' := HX.out.wid rs[j] (List.getElem_mem hlt)
      have sr := HX.out.sorted rs[j] (List.getElem_mem hlt)
      have FA := Lib.hid (fun x (h : findI rs[j] d = some x) => find_at (d := d) HF.out hlt h)
      have FN := Lib.hid (fun (h : findI rs[j] d = none) q (hq : q < rs.length) (hqj : q < j + 1) => (show findI rs[q] d = none by
        rcases Nat.lt_or_ge q j with h' | h'
        · exact HF.out q hq h'
        · have : q = j := by omega
          subst this; exact h))
      have WR := Lib.hid wr'
      have SR := Lib.hid sr
      clear hsm hle wr' sr hru HF
      generalize rs[j] = r at *
      have nb : wr.heap.size ≠ w.heap.size := by have := hB.size; rw [← hW, World.size_alloc] at this; omega
      have hWc : Below wr.heap.size wr (wr.alloc (.cells #[.slice A2 r.length c2] 64)) := below_alloc1 _ _
      have hcc := new_cell wr (.slice A2 r.length c2) 64
      have hSC := Lib.hid (fun w1 (hw1 : Below wr.heap.size wr w1) (hcl : w1.cell? ⟨wr.heap.size, 0, none⟩ = some (.slice A2 r.length c2)) =>
        search_calls r.length (by omega) #[.pointer (some ⟨wr.heap.size, 0, none⟩), .pointer (some ⟨w.heap.size, 0, none⟩)] (pF r d) w1 (pF_mono SR.out d) (fun i hi w' hBw => by
          have h := find1_calls i wr.heap.size w.heap.size (.slice A2 r.length c2) r d w' hi (cell_below hBw hcl) ((HR.out.below hw1).below hBw) WR.out hd (((HD.out.below hB).below hw1).below hBw)
          refine h.mono ?_
          rintro e w'' ⟨rfl, h2⟩
          refine ⟨?_, h2⟩
          unfold pF
          rw [List.getElem?_eq_getElem hi]))
      have HWC := Lib.hid hWc; clear hWc
      go_wp2_with fail
      go_at_call 28
      refine (hSC.out _ HWC.out hcc).mono ?_
      rintro e w2 ⟨k, hk, rfl, hlow, hat, hB2⟩
      have hc2 := cell_below hB2 hcc
      have hL := Lib.hid hlow; have hA := Lib.hid hat; clear hlow hat
      have hB3 := hB.trans ((HWC.out.trans (hB2.mono (by simp))).mono hB.size)
      have hrun := HR.out.below (HWC.out.trans (hB2.mono (by simp)))
      have hbx := HD.out.below hB3
      clear hSC hcc HWC
      by_cases hkl : k < r.length
      · obtain ⟨g, o, c3, e3, m1, m2, hra⟩ := hrun.at_ WR.out k hkl
        cases e3
        have x32 := WR.out _ (List.getElem_mem hkl)
        have LA := Lib.hid (fun w' (hq : ∃ n, w' = w2.drewN n) => (show (Instr.loadAt 34 (.pointer (some ⟨g, o + k * 33, none⟩))).run Try.prog w' = .ok (.agg (u8s r[k].1).toArray) w' by obtain ⟨n, rfl⟩ := hq; exact load_digest x32 (range_digest x32 (rangeAt_drewN hra n))))
        have LB := Lib.hid (fun w' (hq : ∃ n, w' = w2.drewN n) => (show (Instr.loadAt 34 (.pointer (some ⟨w.heap.size, 0, none⟩))).run Try.prog w' = .ok (.agg (u8s d).toArray) w' by obtain ⟨n, rfl⟩ := hq; exact load_digest hd (rangeAt_drewN (range_of_bs hbx) n)))
        have hpl := range_place x32 hra
        have SF := Lib.hid (search_find WR.out SR.out hd hk hL.out hA.out)
        have hk0 : (0 : Int) ≤ (k : Int) := Int.natCast_nonneg _
        have hk1 : (k : Int) < (r.length : Int) := by omega
        clear hra hrun hbx
        go_wp2_with fail
        refine wp_region_quiet_lit (by kernel_rfl) (by kernel_rfl) ?_
        go_big_quiet_step (fail)
        go_big_quiet_step (fail)
        go_big_quiet_step (fail)
        go_big_quiet_step (fail)
        go_big_quiet_step (fail)
        go_big_quiet_step (fail)
        go_big_quiet_step (fail)
        go_big_quiet_step (fail)
        go_big_quiet_step (fail)
        refine wpQuiet_run (by rfl) (.agg (u8s r[k].1).toArray) (fun w' hw => run_op_load _ _ rfl _ _ (by rfl) w' (LA.out w' hw)) ?_
        simp only [Act.put, List.setIfInBounds_toArray, List.set_cons_zero, List.set_cons_succ]
        refine wpQuiet_run (by rfl) (.agg (u8s d).toArray) (fun w' hw => run_op_load _ _ rfl _ _ (by rfl) w' (LB.out w' hw)) ?_
        simp only [Act.put, List.setIfInBounds_toArray, List.set_cons_zero, List.set_cons_succ]
        refine wpQuiet_run (by rfl) (.bool (r[k].1 == d)) (fun w' _ => run_op_eql _ _ _ rfl r[k].1 d x32 hd (by rfl) (by rfl) w') ?_
        simp only [Act.put, List.setIfInBounds_toArray, List.set_cons_zero, List.set_cons_succ]
        go_big_quiet_step (fail)
        refine wpQuiet_nil ?_
        intro _ hw'
        obtain ⟨nq, hw''⟩ := hw'
        subst hw''
        have hB4 := below_drewN hB3 nq
        by_cases heq : r[k].1 = d
        · have hbq : (r[k].1 == d) = true := by simp [heq]
          have HFd := Lib.hid (FA.out _ (SF.out.1 hkl heq))
          clear heq LA LB
          rw [hbq]
          go_wp2_with fail
          rw [Exit.noGoto_ret]
          go_ret2
          refine ⟨?_, hb0.trans (hB4.mono (by rw [← hW]; simp))⟩
          unfold findV
          rw [HFd.out]
          rfl
        · have hbq : (r[k].1 == d) = false := by simp [heq]
          have HN := Lib.hid (FN.out (SF.out.2 (fun _ => heq)))
          clear heq LA LB
          rw [hbq]
          go_wp2_with fail
          go_roundw
          case rel => exact ⟨j + 1, by omega, rfl, rfl, by go_num, HN.out, hB4⟩
          case measure => simp [intOf]; omega
      · have hkr : k = r.length := by omega
        subst hkr
        have HN := Lib.hid (FN.out ((search_find WR.out SR.out hd hk hL.out hA.out).2 (fun h => absurd h (by omega))))
        clear hrun hbx
        go_wp2_with fail
        go_big_quiet (fail)
        have hB4 := below_drewN hB3 nq
        go_wp2_with fail
        go_roundw
        case rel => exact ⟨j + 1, by omega, rfl, rfl, by go_num, HN.out, hB4⟩
        case measure => simp [intOf]; omega
    · have he : findI rs.flatten d = none := by
        have := find_skip (rs := rs) (j := rs.length) (d := d) (fun i hi _ => HF.out i hi (by omega))
        rwa [List.take_length] at this
      have hv : findV rs.flatten d = (0, false) := by unfold findV; rw [he]
      have HV := Lib.hid hv; clear hv he
      go_wp2_with fail
      rw [Exit.noGoto_ret]
      go_ret2
      exact ⟨by rw [HV.out]; rfl, hb0.trans (hB.mono (by rw [← hW]; simp))⟩
end Go.Proofs.Ythgjecofmnomfaa
