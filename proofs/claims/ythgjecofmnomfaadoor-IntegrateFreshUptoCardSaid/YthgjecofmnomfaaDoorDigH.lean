/- WALKS of package digests: Find. No statement of the seed is proved here. WALKS of package digests: an index as it is written; Add. No statement of the seed is proved here. WORDS for Add: where it stands at its loop's head; what its end leaves. No statement of the seed is proved here. WALKS of package digests: Add. No statement of the seed is proved here. WALKS of package digests: New, Runs, Len. No statement of the seed is proved here. WORDS for the laws of digests: a []api.Digest that is read; where an index stands among the caller's memory. No statement of the seed is proved here. -/
import Derived.Test.YthgjecofmnomfaaDoorDigB
import Derived.Stop.BytesEq
namespace Go.Proofs.YthgjecofmnomfaaDoor
open Go.RowKit
set_option maxRecDepth 100000

theorem itemsL_get : ∀ (xs : List Item), Wid xs → ∀ (i : Nat) (hi : i < xs.length) (j : Nat), j < 33 → (itemsL xs)[i * 33 + j]? = (itemL xs[i])[j]?
  | [], _, i, hi, _, _ => by simp at hi
  | x :: xs, h, 0, _, j, hj => by
    rw [show itemsL (x :: xs) = itemL x ++ itemsL xs from rfl, Nat.zero_mul, Nat.zero_add, List.getElem?_append_left (by rw [itemL_length x h.head]; exact hj)]
    rfl
  | x :: xs, h, i + 1, hi, j, hj => by
    have ih := itemsL_get xs h.tail i (by simpa using hi) j hj
    have hl := itemL_length x h.head
    rw [show itemsL (x :: xs) = itemL x ++ itemsL xs from rfl, List.getElem?_append_right (by omega), hl, show (i + 1) * 33 + j - 33 = i * 33 + j by omega, ih]
    simp
theorem RunV.at_ {w : World} {v : Value} {xs : List Item} (h : RunV w v xs) (hw : Wid xs) (i : Nat) (hi : i < xs.length) :
    ∃ g o c, v = .slice (some ⟨g, o, none⟩) xs.length c ∧ xs.length ≤ c ∧ c ≤ 9223372036854775807 ∧ w.rangeAt g (o + i * 33) (itemL xs[i]) := by
  obtain ⟨A, c, rfl, h1, h2, h3, h4⟩ := h
  cases A with
  | none => have := h3 rfl; omega
  | some ad =>
    obtain ⟨g, o, sp⟩ := ad
    obtain ⟨hsp, hr⟩ := h4 _ rfl
    simp only at hsp hr
    subst hsp
    refine ⟨g, o, c, rfl, h1, h2, fun j u hu => ?_⟩
    have hj : j < 33 := by have := (List.getElem?_eq_some_iff.1 hu).1; rwa [itemL_length _ (hw _ (List.getElem_mem hi))] at this
    have := hr (i * 33 + j) u (by rw [itemsL_get xs hw i hi j hj]; exact hu)
    rw [Nat.add_assoc]
    exact this
theorem RunV.form {w : World} {v : Value} {xs : List Item} (h : RunV w v xs) : ∃ A c, v = .slice A xs.length c ∧ xs.length ≤ c ∧ c ≤ 9223372036854775807 := let ⟨A, c, e, h1, h2, _, _⟩ := h; ⟨A, c, e, h1, h2⟩
theorem eql_digest (xs ys : List UInt8) (hx : xs.length = 32) (hy : ys.length = 32) (w : World) :
    (binOp .eql 63 (.agg (u8s xs).toArray) (.agg (u8s ys).toArray)).run Tryd.prog w = .ok (.bool (xs == ys)) w :=
  run_eql_bytes w 63 5 32 (by kernel_rfl) (by kernel_rfl) (fun w => by
    have hi : (Tryd.prog.info? 5).map (·.size) = some 1 := by kernel_rfl
    obtain ⟨i, h1, h2⟩ := Option.map_eq_some_iff.1 hi
    rw [run_sizeOf _ h1]; simp [Program.cellsOf, h1, h2]) xs ys hx hy
theorem bs_range {w : World} {g o : Nat} {x : Item} (h32 : x.1.length = 32) (h : w.rangeAt g o (itemL x)) : Bs w (.slice (some ⟨g, o, none⟩) 32 32) x.1 :=
  bs_at h32 fun j hj => h j _ (by rw [itemL_get x h32 j (by omega)])
theorem find1_calls (i : Nat) (br bd : Nat) (u : Value) (xs : List Item) (d : List UInt8) (w : World) (hi : i < xs.length) (hb : w.cell? ⟨br, 0, none⟩ = some u) (hr : RunV w u xs) (wx : Wid xs) (hd32 : d.length = 32) (hd : Bs w (.slice (some ⟨bd, 0, none⟩) 32 32) d) :
    Calls Tryd.prog 55 (#[.int .i64 (i : Int)] ++ #[.pointer (some ⟨br, 0, none⟩), .pointer (some ⟨bd, 0, none⟩)]) w fun e w' => e = .returned (.bool (decide (dval d ≤ dval (xs[i]'hi).1))) ∧ Below w.heap.size w w' := by
  obtain ⟨g, o, c, rfl, h1, h2, hra⟩ := hr.at_ wx i hi
  have x32 := wx _ (List.getElem_mem hi)
  have hbs := bs_range x32 hra
  have hi0 : (0 : Int) ≤ (i : Int) := Int.natCast_nonneg _
  have hi1 : (i : Int) < (xs.length : Int) := by omega
  have hcmp := cmp_lt (a := xs[i].1) (b := d) (by rw [x32, hd32])
  have hiff : decide (dval d ≤ dval xs[i].1) = decide (0 ≤ Lib.compareBytes xs[i].1 d) := by
    rw [Bool.eq_iff_iff]; simp; omega
  rw [hiff]
  clear hiff hcmp hr hra
  generalize xs[i].1 = y at hbs x32 ⊢
  go_enter Tryd.func55, Tryd.ntmps55
  go_wp2_with fail
  go_quiet ((go_at_call 56; exact Calls.quiet_of_same (compare_any _ _ _ _ _ hbs hd)))
  go_wp2
  go_ret
  exact ⟨rfl, below_drewN (Below.refl _ _) _⟩
theorem wpQuiet_run {P : Program} {ops : Array Oper} {C : World → Prop} {Q : Act → Prop} {o : Oper} {rest : List Oper} {a : Act} (hw : Region.wanted o (yielded ops a.tmps) = true) (v : Value)
    (hr : ∀ w, C w → (execOp a.eval o).run P w = .ok (.value v) w) (h : wpQuiet P ops C Q rest (a.put o.dst v)) : wpQuiet P ops C Q (o :: rest) a :=
  wpQuiet_step fun K hK => by
    rw [if_pos hw]
    refine ⟨v, fun w hw => ?_, hK _ h⟩
    unfold Oper.quietAt
    rw [hr w hw]
    exact ⟨rfl, rfl⟩
theorem run_op_load {P : Program} {o : Oper} {ρ : Operand → Value} (ty : TypeId) (x : Operand) (ho : o.op = .load ty x) (p v : Value) (hx : ρ x = p) (w : World) (hr : (Instr.loadAt ty p).run P w = .ok v w) : (execOp ρ o).run P w = .ok (.value v) w := by
  unfold execOp
  simp only [ho, hx, Sem.run_bind, Sem.run_pure, hr, Result.andThen_ok]
theorem run_op_eql {o : Oper} {ρ : Operand → Value} (ty2 : TypeId) (x y : Operand) (ho : o.op = .binOp .eql 63 x y ty2) (a b : List UInt8) (ha : a.length = 32) (hb : b.length = 32) (hx : ρ x = .agg (u8s a).toArray) (hy : ρ y = .agg (u8s b).toArray) (w : World) : (execOp ρ o).run Tryd.prog w = .ok (.value (.bool (a == b))) w := by
  unfold execOp
  have hg : (eqGuard .eql 63 x y (.agg (u8s a).toArray) (.agg (u8s b).toArray)).run Tryd.prog w = .ok () w := by
    simp [eqGuard, Tryd.eqGuardType63]
  simp only [ho, hx, hy, Sem.run_bind, Sem.run_pure, hg, eql_digest a b ha hb w, Result.andThen_ok]
theorem load_digest {w : World} {g o : Nat} {d : List UInt8} (hd : d.length = 32) (h : w.rangeAt g o (u8s d)) : (Instr.loadAt 63 (.pointer (some ⟨g, o, none⟩))).run Tryd.prog w = .ok (.agg (u8s d).toArray) w := by
  have hs : (Tryd.prog.info? 63).map (·.size) = some 32 := by kernel_rfl
  exact run_loadAt_mid w g o 63 (u8s d) _ h Tryd.underlying63 rfl (by rw [hs, u8s_length, hd])
theorem range_digest {w : World} {g o : Nat} {x : Item} (hx : x.1.length = 32) (h : w.rangeAt g o (itemL x)) : w.rangeAt g o (u8s x.1) := fun j v hv => by
  have hj : j < 32 := by have := (List.getElem?_eq_some_iff.1 hv).1; rwa [u8s_length, hx] at this
  refine h j v ?_
  unfold itemL
  rw [List.getElem?_append_left (by rw [u8s_length]; omega)]
  exact hv
theorem range_place {w : World} {g o : Nat} {x : Item} (hx : x.1.length = 32) (h : w.rangeAt g o (itemL x)) : w.cell? ⟨g, o + 32, none⟩ = some (.int .i64 x.2) := h 32 _ (itemL_place x hx)
theorem range_of_bs {w : World} {b : Nat} {d : List UInt8} (h : Bs w (.slice (some ⟨b, 0, none⟩) 32 32) d) : w.rangeAt b 0 (u8s d) := fun j v hv => by
  obtain ⟨A, c, e, h1, h2, h0, h3⟩ := h
  obtain ⟨ad, ha, hc⟩ := h3 j v hv
  injection e with e1 e2 e3
  rw [ha] at e1
  injection e1 with e1
  subst e1
  rwa [Addr.add_mid] at hc
/-- An index, as it is read. -/
structure IxR (w : World) (p : Nat) (vr : Value) (us : List Value) (rs : List (List Item)) : Prop where
  c0 : w.cell? ⟨p, 0, none⟩ = some (.bool true)
  c1 : w.cell? ⟨p, 1, none⟩ = some vr
  row : Row w vr rs.length us
  runs : ∀ (j : Nat) (h : j < rs.length), ∃ u, us[j]? = some u ∧ RunV w u rs[j]
  wid : ∀ r ∈ rs, Wid r
  sorted : ∀ r ∈ rs, SortedI r
  small : rs.flatten.length ≤ 1000000
theorem IxR.below {w w1 : World} {p : Nat} {vr : Value} {us : List Value} {rs : List (List Item)} (h : IxR w p vr us rs) (hb : Below w.heap.size w w1) : IxR w1 p vr us rs :=
  ⟨cell_below hb h.c0, cell_below hb h.c1, h.row.below hb, fun j hj => let ⟨u, h1, h2⟩ := h.runs j hj; ⟨u, h1, h2.below hb⟩, h.wid, h.sorted, h.small⟩
theorem len_flatten : ∀ {rs : List (List Item)}, ∀ r ∈ rs, r.length ≤ rs.flatten.length
  | [], r, h => by cases h
  | s :: rs, r, h => by
    rw [List.flatten_cons, List.length_append]
    rcases List.mem_cons.1 h with rfl | h
    · omega
    · have := len_flatten r h; omega
def pF (xs : List Item) (d : List UInt8) (i : Nat) : Bool := match xs[i]? with | some x => decide (dval d ≤ dval x.1) | none => true
theorem pF_mono {xs : List Item} (hs : SortedI xs) (d : List UInt8) : ∀ i j, i ≤ j → pF xs d i = true → pF xs d j = true := by
  intro i j hij h
  unfold pF at *
  cases hj : xs[j]? with
  | none => rfl
  | some y =>
    obtain ⟨hj', rfl⟩ := List.getElem?_eq_some_iff.1 hj
    rw [List.getElem?_eq_getElem (show i < xs.length by omega)] at h
    simp only [decide_eq_true_eq] at h ⊢
    rcases Nat.eq_or_lt_of_le hij with rfl | hlt
    · exact h
    · have := List.pairwise_iff_getElem.1 hs i j (by omega) hj' hlt
      simp [leI] at this
      omega
/-- What a search in one run finds. -/
theorem search_find {xs : List Item} (hw : Wid xs) (hs : SortedI xs) {d : List UInt8} (hd : d.length = 32) {k : Nat} (hk : k ≤ xs.length) (hb : ∀ q, q < k → pF xs d q = false) (ha : k < xs.length → pF xs d k = true) :
    (∀ (h : k < xs.length), xs[k].1 = d → findI xs d = some xs[k]) ∧ ((∀ (h : k < xs.length), xs[k].1 ≠ d) → findI xs d = none) := by
  have low : ∀ q (h : q < xs.length), q < k → xs[q].1 ≠ d := fun q h hq e => by
    have := hb q hq
    unfold pF at this
    rw [List.getElem?_eq_getElem h] at this
    simp [e] at this
  refine ⟨fun h e => ?_, fun hne => ?_⟩
  · unfold findI
    rw [List.find?_eq_some_iff_getElem]
    exact ⟨by simp [e], k, h, rfl, fun q hq => by simpa using low q (by omega) hq⟩
  · unfold findI
    rw [List.find?_eq_none]
    intro x hx
    obtain ⟨q, hq, rfl⟩ := List.getElem_of_mem hx
    simp only [beq_iff_eq]
    intro e
    rcases Nat.lt_trichotomy q k with h | h | h
    · exact low q hq h e
    · subst h; exact hne hq e
    · have h1 := ha (by omega)
      unfold pF at h1
      rw [List.getElem?_eq_getElem (show k < xs.length by omega)] at h1
      have h2 := List.pairwise_iff_getElem.1 hs k q (by omega) hq h
      simp [leI] at h1 h2
      have h3 : dval xs[k].1 = dval d := by rw [← e] at h1 ⊢; omega
      exact hne (by omega) (dval_inj (by rw [hw _ (List.getElem_mem _), hd]) h3)
theorem find_skip {rs : List (List Item)} {j : Nat} {d : List UInt8} (h : ∀ i (hi : i < rs.length), i < j → findI rs[i] d = none) : findI (rs.take j).flatten d = none := by
  unfold findI at *
  rw [List.find?_eq_none]
  intro x hx
  obtain ⟨r, hr, hxr⟩ := List.mem_flatten.1 hx
  obtain ⟨i, hi, rfl⟩ := List.getElem_of_mem hr
  have hi' : i < j ∧ i < rs.length := by simp at hi; omega
  rw [List.getElem_take] at hxr
  exact List.find?_eq_none.1 (h i hi'.2 hi'.1) x hxr
theorem find_at {rs : List (List Item)} {j : Nat} {d : List UInt8} {x : Item} (h : ∀ i (hi : i < rs.length), i < j → findI rs[i] d = none) (hj : j < rs.length) (hx : findI rs[j] d = some x) : findI rs.flatten d = some x := by
  have h1 := find_skip h
  have e : rs.flatten = (rs.take j).flatten ++ (rs[j] ++ (rs.drop (j + 1)).flatten) := by
    rw [← List.flatten_cons, ← List.flatten_append, List.getElem_cons_drop, List.take_append_drop]
  rw [e]
  unfold findI at *
  rw [List.find?_append, h1, Option.none_or, List.find?_append, hx]
  rfl
theorem none_calls (p : Nat) (w : World) (h : w.cell? ⟨p, 0, none⟩ = some (.bool true)) : Calls Tryd.prog 41 #[.pointer (some ⟨p, 0, none⟩)] w fun e w' => e = .returned (.bool false) ∧ w' = w := by
  go_enter Tryd.func41, Tryd.ntmps41
  go_wp2
  go_ret
  exact ⟨rfl, rfl⟩
theorem find_calls (p : Nat) (vr : Value) (us : List Value) (rs : List (List Item)) (d : List UInt8) (w : World) (hx : IxR w p vr us rs) (hd : d.length = 32) :
    Calls Tryd.prog 42 #[.pointer (some ⟨p, 0, none⟩), .agg (u8s d).toArray] w fun e w' => e = .returned (.tuple #[.int .i64 (findV rs.flatten d).1, .bool (findV rs.flatten d).2]) ∧ Below w.heap.size w w' := by
  obtain ⟨A, c, rfl, a1, a2, -, -⟩ := hx.row
  unfold maxLen at a2
  have hb0 := below_alloc1 w (.cells (u8s d).toArray 63)
  have hbox : Bs (w.alloc (.cells (u8s d).toArray 63)) (.slice (some ⟨w.heap.size, 0, none⟩) 32 32) d := bs_at hd fun j hj => by
    rw [Nat.zero_add, cell_of_row _ w.heap.size j _ _ (0, 0) (heap_alloc_new w _)]
    simpa using u8s_get d j hj
  have hx1 := hx.below hb0
  have c0 := hx1.c0
  have c1 := hx1.c1
  have HX := Lib.hid hx; clear hx
  have HX1 := Lib.hid hx1; clear hx1
  have HD := Lib.hid hbox; clear hbox
  go_enter Tryd.func42, Tryd.ntmps42
  go_wp2
  go_step3
  go_wp2_with (go_at_call 41; refine (none_calls _ _ c0).mono ?_; rintro e w1 ⟨rfl, rfl⟩)
  go_step3
  go_wp2
  generalize hW : w.alloc (.cells (u8s d).toArray 63) = W at *
  go_loopw [6, 7, 18] (fun t6 t7 i wr => ∃ j : Nat, j ≤ rs.length ∧ t6 = .int .i64 0 ∧ t7 = .bool false ∧ i = .int .i64 (j : Int) ∧ (∀ q (hq : q < rs.length), q < j → findI rs[q] d = none) ∧ Below W.heap.size W wr) (fun _ _ i _ => rs.length - (intOf i).toNat)
  case atStart => exact ⟨0, by omega, rfl, rfl, rfl, fun q _ h => by omega, Below.refl _ _⟩
  case round =>
    obtain ⟨j, hj, rfl, rfl, rfl, hbef, hB⟩ := hrel
    have HF := Lib.hid hbef; clear hbef
    by_cases hlt : j < rs.length
    · obtain ⟨u, hu, hru⟩ := (HX1.out.below hB).runs j hlt
      obtain ⟨ad, hA, hcell⟩ := (HX1.out.below hB).row.at_ j hu
      subst hA
      have HR := Lib.hid hru
      obtain ⟨A2, c2, rfl, k1, k2⟩ := hru.form
      have hsm := HX.out.small
      have hle := len_flatten rs[j] (List.getElem_mem hlt)
      have hsm2 : rs[j].length ≤ 1000000 := by omega
      have wr' := HX.out.wid rs[j] (List.getElem_mem hlt)
      have sr := HX.out.sorted rs[j] (List.getElem_mem hlt)
      have FA := Lib.hid (fun x (h : findI rs[j] d = some x) => find_at (d := d) HF.out hlt h)
      have FN := Lib.hid (fun (h : findI rs[j] d = none) q (hq : q < rs.length) (hqj : q < j + 1) => (show findI rs[q] d = none by
        rcases Nat.lt_or_ge q j with h' | h'
        · exact HF.out q hq h'
        · have : q = j := by omega
          subst this; exact h))
      have WR := Lib.hid wr'
      have SR := Lib.hid sr
      clear hsm hle wr' sr hru HF
      generalize rs[j] = r at *
      have nb : wr.heap.size ≠ w.heap.size := by have := hB.size; rw [← hW, World.size_alloc] at this; omega
      have hWc : Below wr.heap.size wr (wr.alloc (.cells #[.slice A2 r.length c2] 91)) := below_alloc1 _ _
      have hcc := new_cell wr (.slice A2 r.length c2) 91
      have hSC := Lib.hid (fun w1 (hw1 : Below wr.heap.size wr w1) (hcl : w1.cell? ⟨wr.heap.size, 0, none⟩ = some (.slice A2 r.length c2)) =>
        search_calls r.length (by omega) #[.pointer (some ⟨wr.heap.size, 0, none⟩), .pointer (some ⟨w.heap.size, 0, none⟩)] (pF r d) w1 (pF_mono SR.out d) (fun i hi w' hBw => by
          have h := find1_calls i wr.heap.size w.heap.size (.slice A2 r.length c2) r d w' hi (cell_below hBw hcl) ((HR.out.below hw1).below hBw) WR.out hd (((HD.out.below hB).below hw1).below hBw)
          refine h.mono ?_
          rintro e w'' ⟨rfl, h2⟩
          refine ⟨?_, h2⟩
          unfold pF
          rw [List.getElem?_eq_getElem hi]))
      have HWC := Lib.hid hWc; clear hWc
      go_wp2_with fail
      go_at_call 54
      refine (hSC.out _ HWC.out hcc).mono ?_
      rintro e w2 ⟨k, hk, rfl, hlow, hat, hB2⟩
      have hc2 := cell_below hB2 hcc
      have hL := Lib.hid hlow; have hA := Lib.hid hat; clear hlow hat
      have hB3 := hB.trans ((HWC.out.trans (hB2.mono (by simp))).mono hB.size)
      have hrun := HR.out.below (HWC.out.trans (hB2.mono (by simp)))
      have hbx := HD.out.below hB3
      clear hSC hcc HWC
      by_cases hkl : k < r.length
      · obtain ⟨g, o, c3, e3, m1, m2, hra⟩ := hrun.at_ WR.out k hkl
        cases e3
        have x32 := WR.out _ (List.getElem_mem hkl)
        have LA := Lib.hid (fun w' (hq : ∃ n, w' = w2.drewN n) => (show (Instr.loadAt 63 (.pointer (some ⟨g, o + k * 33, none⟩))).run Tryd.prog w' = .ok (.agg (u8s r[k].1).toArray) w' by obtain ⟨n, rfl⟩ := hq; exact load_digest x32 (range_digest x32 (rangeAt_drewN hra n))))
        have LB := Lib.hid (fun w' (hq : ∃ n, w' = w2.drewN n) => (show (Instr.loadAt 63 (.pointer (some ⟨w.heap.size, 0, none⟩))).run Tryd.prog w' = .ok (.agg (u8s d).toArray) w' by obtain ⟨n, rfl⟩ := hq; exact load_digest hd (rangeAt_drewN (range_of_bs hbx) n)))
        have hpl := range_place x32 hra
        have SF := Lib.hid (search_find WR.out SR.out hd hk hL.out hA.out)
        have hk0 : (0 : Int) ≤ (k : Int) := Int.natCast_nonneg _
        have hk1 : (k : Int) < (r.length : Int) := by omega
        clear hra hrun hbx
        go_wp2_with fail
        refine wp_region_quiet_lit (by kernel_rfl) (by kernel_rfl) ?_
        go_big_quiet_step (fail)
        go_big_quiet_step (fail)
        go_big_quiet_step (fail)
        go_big_quiet_step (fail)
        go_big_quiet_step (fail)
        go_big_quiet_step (fail)
        go_big_quiet_step (fail)
        go_big_quiet_step (fail)
        go_big_quiet_step (fail)
        refine wpQuiet_run (by rfl) (.agg (u8s r[k].1).toArray) (fun w' hw => run_op_load _ _ rfl _ _ (by rfl) w' (LA.out w' hw)) ?_
        simp only [Act.put, List.setIfInBounds_toArray, List.set_cons_zero, List.set_cons_succ]
        refine wpQuiet_run (by rfl) (.agg (u8s d).toArray) (fun w' hw => run_op_load _ _ rfl _ _ (by rfl) w' (LB.out w' hw)) ?_
        simp only [Act.put, List.setIfInBounds_toArray, List.set_cons_zero, List.set_cons_succ]
        refine wpQuiet_run (by rfl) (.bool (r[k].1 == d)) (fun w' _ => run_op_eql _ _ _ rfl r[k].1 d x32 hd (by rfl) (by rfl) w') ?_
        simp only [Act.put, List.setIfInBounds_toArray, List.set_cons_zero, List.set_cons_succ]
        go_big_quiet_step (fail)
        refine wpQuiet_nil ?_
        intro _ hw'
        obtain ⟨nq, hw''⟩ := hw'
        subst hw''
        have hB4 := below_drewN hB3 nq
        by_cases heq : r[k].1 = d
        · have hbq : (r[k].1 == d) = true := by simp [heq]
          have HFd := Lib.hid (FA.out _ (SF.out.1 hkl heq))
          clear heq LA LB
          rw [hbq]
          go_wp2_with fail
          rw [Exit.noGoto_ret]
          go_ret2
          refine ⟨?_, hb0.trans (hB4.mono (by rw [← hW]; simp))⟩
          unfold findV
          rw [HFd.out]
          rfl
        · have hbq : (r[k].1 == d) = false := by simp [heq]
          have HN := Lib.hid (FN.out (SF.out.2 (fun _ => heq)))
          clear heq LA LB
          rw [hbq]
          go_wp2_with fail
          go_roundw
          case rel => exact ⟨j + 1, by omega, rfl, rfl, by go_num, HN.out, hB4⟩
          case measure => simp [intOf]; omega
      · have hkr : k = r.length := by omega
        subst hkr
        have HN := Lib.hid (FN.out ((search_find WR.out SR.out hd hk hL.out hA.out).2 (fun h => absurd h (by omega))))
        clear hrun hbx
        go_wp2_with fail
        go_big_quiet (fail)
        have hB4 := below_drewN hB3 nq
        go_wp2_with fail
        go_roundw
        case rel => exact ⟨j + 1, by omega, rfl, rfl, by go_num, HN.out, hB4⟩
        case measure => simp [intOf]; omega
    · have he : findI rs.flatten d = none := by
        have := find_skip (rs := rs) (j := rs.length) (d := d) (fun i hi _ => HF.out i hi (by omega))
        rwa [List.take_length] at this
      have hv : findV rs.flatten d = (0, false) := by unfold findV; rw [he]
      have HV := Lib.hid hv; clear hv he
      go_wp2_with fail
      rw [Exit.noGoto_ret]
      go_ret2
      exact ⟨by rw [HV.out]; rfl, hb0.trans (hB.mono (by rw [← hW]; simp))⟩
end Go.Proofs.YthgjecofmnomfaaDoor
namespace Go.Proofs.YthgjecofmnomfaaDoor
open Go.RowKit
set_option maxRecDepth 100000

theorem owns_mods {w w' : World} {B : Nat} {e : TypeId} {s n : Nat} {v : Value} {xs : List Value} (h : w.ownsRow B e s v n xs) (hm : ∀ k, v.ownBlock = some k → k < w.heap.size → w'.heap[k]? = w.heap[k]?) : w'.ownsRow B e s v n xs := by
  have hlt := owns_lt h
  rcases h with ⟨hl, ⟨rfl, hn⟩ | ⟨g, cap, cur, rfl, hb, hg, hn, hmx, hs, ht⟩⟩
  · exact ⟨hl, .inl ⟨rfl, hn⟩⟩
  · exact ⟨hl, .inr ⟨g, cap, cur, rfl, hb, by rw [hm g rfl (hlt g rfl), hg], hn, hmx, hs, ht⟩⟩
theorem owns_take {w : World} {B : Nat} {e : TypeId} {n c : Nat} {A : Option Addr} {xs : List Value} (h : w.ownsRow B e 1 (.slice A n c) n xs) {m : Nat} (hm : m ≤ n) (hn : 0 < n) : w.ownsRow B e 1 (.slice A m c) m (xs.take m) := by
  rcases h with ⟨hl, ⟨h1, hn'⟩ | ⟨g, cap, cur, h1, hb, hg, hn', hmx, hs, ht⟩⟩
  · cases h1; omega
  · cases h1
    refine ⟨by simp; omega, .inr ⟨g, c, cur, rfl, hb, hg, by omega, hmx, hs, ?_⟩⟩
    rw [← ht, List.take_take, Nat.mul_one, Nat.mul_one, Nat.min_eq_left hm]
/-- An index, as it is written: the block p, the row of the runs, the runs. -/
structure Ix (w : World) (B : Nat) (p : Nat) (vr : Value) (us : List Value) (rs : List (List Item)) : Prop where
  c0 : w.cell? ⟨p, 0, none⟩ = some (.bool true)
  c1 : w.cell? ⟨p, 1, none⟩ = some vr
  f1 : w.frozen? ⟨p, 1, none⟩ = false
  low : B ≤ p
  own : w.ownsRow B 91 1 vr rs.length us
  runs : ∀ (j : Nat) (h : j < rs.length), ∃ u, us[j]? = some u ∧ w.ownsRow B 90 33 u rs[j].length (itemsL rs[j]) ∧ Apart u vr ∧ u.ownBlock ≠ some p
  pv : vr.ownBlock ≠ some p
  wid : ∀ r ∈ rs, Wid r
  sorted : ∀ r ∈ rs, SortedI r
  small : rs.flatten.length ≤ 1000000
theorem Ix.read {w : World} {B p : Nat} {vr : Value} {us : List Value} {rs : List (List Item)} (h : Ix w B p vr us rs) : IxR w p vr us rs :=
  ⟨h.c0, h.c1, Row.of_owns h.own, fun j hj => let ⟨u, h1, h2, _⟩ := h.runs j hj; ⟨u, h1, RunV.of_owns h2⟩, h.wid, h.sorted, h.small⟩
theorem Ix.lt {w : World} {B p : Nat} {vr : Value} {us : List Value} {rs : List (List Item)} (h : Ix w B p vr us rs) : p < w.heap.size := World.block_lt_of_cell? w _ h.c0
theorem cell_mods {w w' : World} {a : Addr} (h : w'.heap[a.block]? = w.heap[a.block]?) : w'.cell? a = w.cell? a := World.cell?_of_block h
theorem frozen_mods {w w' : World} {a : Addr} (h : w'.heap[a.block]? = w.heap[a.block]?) : w'.frozen? a = w.frozen? a := World.frozen?_of_block h
/-- What the index owns is as it was. -/
theorem Ix.kept {w w' : World} {B p : Nat} {vr : Value} {us : List Value} {rs : List (List Item)} (h : Ix w B p vr us rs) (hp : w'.heap[p]? = w.heap[p]?) (hv : ∀ k, vr.ownBlock = some k → w'.heap[k]? = w.heap[k]?)
    (hu : ∀ u ∈ us, ∀ k, u.ownBlock = some k → w'.heap[k]? = w.heap[k]?) : Ix w' B p vr us rs where
  c0 := (cell_mods hp).trans h.c0
  c1 := (cell_mods hp).trans h.c1
  f1 := (frozen_mods hp).trans h.f1
  low := h.low
  own := owns_mods h.own fun k hk _ => hv k hk
  runs := fun j hj => let ⟨u, h1, h2, h3⟩ := h.runs j hj; ⟨u, h1, owns_mods h2 fun k hk _ => hu u (List.mem_of_getElem? h1) k hk, h3⟩
  pv := h.pv
  wid := h.wid
  sorted := h.sorted
  small := h.small
theorem Ix.below {w w' : World} {B p : Nat} {vr : Value} {us : List Value} {rs : List (List Item)} (h : Ix w B p vr us rs) (hb : Below w.heap.size w w') : Ix w' B p vr us rs :=
  h.kept (hb.block _ h.lt) (fun k hk => hb.block k (owns_lt h.own k hk)) (fun u hu k hk => by
    obtain ⟨j, hj⟩ := List.mem_iff_getElem?.1 hu
    have hl : us.length = rs.length := by have := h.own.1; omega
    have hj' : j < rs.length := by rw [← hl]; exact (List.getElem?_eq_some_iff.1 hj).1
    obtain ⟨u', h1, h2, _⟩ := h.runs j hj'
    rw [hj] at h1; cases h1
    exact hb.block k (owns_lt h2 k hk))
theorem build_item (d : List UInt8) (hd : d.length = 32) (pl : Int) : Tryd.prog.built 90 [(0, .agg (u8s d).toArray), (1, .int .i64 pl)] = some (itemL (d, pl)).toArray := by
  obtain _ | ⟨a0, d⟩ := d
  · simp at hd
  obtain _ | ⟨a1, d⟩ := d
  · simp at hd
  obtain _ | ⟨a2, d⟩ := d
  · simp at hd
  obtain _ | ⟨a3, d⟩ := d
  · simp at hd
  obtain _ | ⟨a4, d⟩ := d
  · simp at hd
  obtain _ | ⟨a5, d⟩ := d
  · simp at hd
  obtain _ | ⟨a6, d⟩ := d
  · simp at hd
  obtain _ | ⟨a7, d⟩ := d
  · simp at hd
  obtain _ | ⟨a8, d⟩ := d
  · simp at hd
  obtain _ | ⟨a9, d⟩ := d
  · simp at hd
  obtain _ | ⟨a10, d⟩ := d
  · simp at hd
  obtain _ | ⟨a11, d⟩ := d
  · simp at hd
  obtain _ | ⟨a12, d⟩ := d
  · simp at hd
  obtain _ | ⟨a13, d⟩ := d
  · simp at hd
  obtain _ | ⟨a14, d⟩ := d
  · simp at hd
  obtain _ | ⟨a15, d⟩ := d
  · simp at hd
  obtain _ | ⟨a16, d⟩ := d
  · simp at hd
  obtain _ | ⟨a17, d⟩ := d
  · simp at hd
  obtain _ | ⟨a18, d⟩ := d
  · simp at hd
  obtain _ | ⟨a19, d⟩ := d
  · simp at hd
  obtain _ | ⟨a20, d⟩ := d
  · simp at hd
  obtain _ | ⟨a21, d⟩ := d
  · simp at hd
  obtain _ | ⟨a22, d⟩ := d
  · simp at hd
  obtain _ | ⟨a23, d⟩ := d
  · simp at hd
  obtain _ | ⟨a24, d⟩ := d
  · simp at hd
  obtain _ | ⟨a25, d⟩ := d
  · simp at hd
  obtain _ | ⟨a26, d⟩ := d
  · simp at hd
  obtain _ | ⟨a27, d⟩ := d
  · simp at hd
  obtain _ | ⟨a28, d⟩ := d
  · simp at hd
  obtain _ | ⟨a29, d⟩ := d
  · simp at hd
  obtain _ | ⟨a30, d⟩ := d
  · simp at hd
  obtain _ | ⟨a31, d⟩ := d
  · simp at hd
  obtain _ | ⟨b, d⟩ := d
  · clear hd; kernel_rfl
  · simp at hd
theorem wpList_item {ops : Array Oper} {rest : List Oper} {o : Oper} {a : Act} {w : World} {Q : Exit → Act → World → Prop} (hg : o.guard = none) (x y : Operand) (ho : o.op = .build 90 #[(0, x), (1, y)]) (d : List UInt8) (hd : d.length = 32) (pl : Int)
    (hx : a.eval x = .agg (u8s d).toArray) (hy : a.eval y = .int .i64 pl) (h : wpList Tryd.prog ops Q rest (a.put o.dst (.agg (itemL (d, pl)).toArray)) w) : wpList Tryd.prog ops Q (o :: rest) a w := by
  have hb : Tryd.prog.built 90 ((#[(0, x), (1, y)] : Array (Nat × Operand)).map fun (i, x) => (i, a.eval x)).toList = some (itemL (d, pl)).toArray := by
    simpa [hx, hy] using build_item d hd pl
  refine wpList_build hg 90 _ ho (by rw [hb]; rfl) ?_
  rw [hb]
  exact h
/-- All is as it was but the block p. -/
structure Nearly (p : Nat) (w w' : World) : Prop where
  os : w'.os = w.os
  tape : w'.tape = w.tape
  output : w'.output = w.output
  size : w.heap.size ≤ w'.heap.size
  block : ∀ k, k < w.heap.size → k ≠ p → w'.heap[k]? = w.heap[k]?
theorem Nearly.of_below {p : Nat} {w w' : World} (h : Below w.heap.size w w') : Nearly p w w' := ⟨h.os, h.tape, h.output, h.size, fun k hk _ => h.block k hk⟩
theorem Nearly.then_below {p : Nat} {w w1 w2 : World} (h : Nearly p w w1) (k : Below w1.heap.size w1 w2) : Nearly p w w2 :=
  ⟨k.os.trans h.os, k.tape.trans h.tape, k.output.trans h.output, Nat.le_trans h.size k.size, fun i hi hp => (k.block i (Nat.lt_of_lt_of_le hi h.size)).trans (h.block i hi hp)⟩
theorem Nearly.set {p : Nat} {w w1 : World} (h : Nearly p w w1) (o : Nat) (v : Value) : Nearly p w (w1.setCell ⟨p, o, none⟩ v) :=
  ⟨h.os, h.tape, h.output, by simpa [World.setCell] using h.size, fun i hi hp => (Below.heap_setCell _ _ _ _ hp).trans (h.block i hi hp)⟩
/-- What adding does to the heap. -/
structure Step (w : World) (p : Nat) (vr : Value) (us : List Value) (w' : World) (vr' : Value) (us' : List Value) : Prop where
  os : w'.os = w.os
  tape : w'.tape = w.tape
  output : w'.output = w.output
  size : w.heap.size ≤ w'.heap.size
  block : ∀ k, k < w.heap.size → k ≠ p → vr.ownBlock ≠ some k → w'.heap[k]? = w.heap[k]?
  vr : vr'.ownBlock = vr.ownBlock ∨ ∃ k, vr'.ownBlock = some k ∧ w.heap.size ≤ k
  us : ∀ u ∈ us', u ∈ us ∨ ∀ k, u.ownBlock = some k → w.heap.size ≤ k
theorem carry_stop {rr : List (List Item)} {run : List Item} (h : ∀ r, rr.head? = some r → r.length ≠ run.length) : carry rr run = run :: rr := by
  cases rr with
  | nil => rfl
  | cons r rr => rw [carry, if_neg (h r rfl)]
theorem carry_go {r : List Item} {rr : List (List Item)} {run : List Item} (h : r.length = run.length) : carry (r :: rr) run = carry rr (r.merge run leI) := by rw [carry, if_pos h]
end Go.Proofs.YthgjecofmnomfaaDoor
namespace Go.Proofs.YthgjecofmnomfaaDoor
open Go.RowKit
set_option maxRecDepth 100000

theorem info_row : (Tryd.prog.info? 91).map (fun i => (i.zero, i.size, i.bytes)) = some (some (.slice Option.none 0 0), 1, 24) := by kernel_rfl
/-- Where Add stands at its loop's head. -/
structure AtLoop (w : World) (B p : Nat) (us : List Value) (rs : List (List Item)) (x : Item) (A : Option Addr) (c : Nat) (m : Nat) (v : Value) (run : List Item) (wr : World) : Prop where
  le : m ≤ rs.length
  own : wr.ownsRow w.heap.size 90 33 v run.length (itemsL run)
  wid : Wid run
  sorted : SortedI run
  ne : run ≠ []
  total : run.length + (rs.take m).flatten.length = rs.flatten.length + 1
  carry : carry (rs.take m).reverse run = carry rs.reverse [x]
  perm : True
  c0 : wr.cell? ⟨p, 0, none⟩ = some (.bool true)
  c1 : wr.cell? ⟨p, 1, none⟩ = some (.slice A m c)
  f1 : wr.frozen? ⟨p, 1, none⟩ = false
  near : Nearly p w wr
theorem AtLoop.at_ {w : World} {B p : Nat} {us : List Value} {rs : List (List Item)} {x : Item} {A : Option Addr} {c m : Nat} {v : Value} {run : List Item} {wr : World} (h : AtLoop w B p us rs x A c m v run wr) (hx : Ix w B p (.slice A rs.length c) us rs) (k : Nat) (hk : k < rs.length) :
    ∃ ad u, A = some ad ∧ us[k]? = some u ∧ wr.cell? (ad.add k) = some u ∧ wr.ownsRow B 90 33 u rs[k].length (itemsL rs[k]) := by
  have hown : wr.ownsRow B 91 1 (.slice A rs.length c) rs.length us := owns_mods hx.own fun q hq hl => h.near.block q hl (fun e => hx.pv (by rw [hq, e]))
  obtain ⟨u, h1, h2, -, h4⟩ := hx.runs k hk
  obtain ⟨ad, hA, hc⟩ := (Row.of_owns hown).at_ k h1
  exact ⟨ad, u, hA, h1, hc, owns_mods h2 fun q hq hl => h.near.block q hl (fun e => h4 (by rw [hq, e]))⟩
theorem AtLoop.row {w : World} {B p : Nat} {us : List Value} {rs : List (List Item)} {x : Item} {A : Option Addr} {c m : Nat} {v : Value} {run : List Item} {wr : World} (h : AtLoop w B p us rs x A c m v run wr) (hx : Ix w B p (.slice A rs.length c) us rs) :
    wr.ownsRow B 91 1 (.slice A m c) m (us.take m) := by
  have hown : wr.ownsRow B 91 1 (.slice A rs.length c) rs.length us := owns_mods hx.own fun q hq hl => h.near.block q hl (fun e => hx.pv (by rw [hq, e]))
  have hle := h.le
  rcases Nat.eq_zero_or_pos rs.length with h0 | h0
  · have hm : m = rs.length := by omega
    have hu : us.length = rs.length := by have := hown.1; omega
    rw [List.take_of_length_le (by omega), hm]
    exact hown
  · exact owns_take hown hle h0
theorem owns_lower {w : World} {B B' : Nat} {e : TypeId} {s n : Nat} {v : Value} {xs : List Value} (h : w.ownsRow B e s v n xs) (hB : B' ≤ B) : w.ownsRow B' e s v n xs := by
  rcases h with ⟨hl, h | ⟨g, cap, cur, h1, hb, h2⟩⟩
  · exact ⟨hl, .inl h⟩
  · exact ⟨hl, .inr ⟨g, cap, cur, h1, Nat.le_trans hB hb, h2⟩⟩
theorem add_end {w : World} {B p : Nat} {us : List Value} {rs : List (List Item)} {x : Item} {A : Option Addr} {c m : Nat} {v : Value} {run : List Item} {wr : World} (hx : Ix w B p (.slice A rs.length c) us rs) (hL : AtLoop w B p us rs x A c m v run wr) (hB : B ≤ w.heap.size)
    (hs : rs.flatten.length + 1 ≤ 1000000) (hstop : carry (rs.take m).reverse run = run :: (rs.take m).reverse) {o : Obj} {w3 : World} {ve : Value} (hown : w3.ownsRow B 91 1 ve (m + 1) (us.take m ++ [v])) (hg : (wr.alloc o).grownBy w3 (Value.slice A m c).ownBlock)
    (hat : ve.ownBlock = (Value.slice A m c).ownBlock ∨ ve.ownBlock = some (wr.heap.size + 1)) (y0 : w3.cell? ⟨p, 0, none⟩ = some (.bool true)) (y1 : w3.cell? ⟨p, 1, none⟩ = some (.slice A m c)) (y2 : w3.frozen? ⟨p, 1, none⟩ = false) :
    Ix (w3.setCell ⟨p, 1, none⟩ ve) B p ve (us.take m ++ [v]) (addRuns rs x) ∧ Step w p (.slice A rs.length c) us (w3.setCell ⟨p, 1, none⟩ ve) ve (us.take m ++ [v]) := by
  have hadd : addRuns rs x = rs.take m ++ [run] := by
    unfold addRuns
    rw [← hL.carry, hstop, List.reverse_cons, List.reverse_reverse]
  have hob : (Value.slice A m c).ownBlock = (Value.slice A rs.length c).ownBlock := by cases A <;> rfl
  rw [hob] at hg hat
  have hpl := hx.lt
  have hsz := hL.near.size
  have hvp : ve.ownBlock ≠ some p := fun e => by
    rcases hat with h | h
    · exact hx.pv (by rw [← h, e])
    · rw [h] at e; cases e; omega
  have hle := hL.le
  have hul : us.length = rs.length := by have := hx.own.1; omega
  -- what the store leaves
  have hst : ∀ k, k ≠ p → (w3.setCell ⟨p, 1, none⟩ ve).heap[k]? = w3.heap[k]? := fun k hk => Below.heap_setCell _ _ _ _ hk
  -- a block that was in wr
  have hmid : ∀ k, k < wr.heap.size → k ≠ p → (Value.slice A rs.length c).ownBlock ≠ some k → (w3.setCell ⟨p, 1, none⟩ ve).heap[k]? = wr.heap[k]? := fun k hk hkp hkv => by
    rw [hst k hkp, hg.block k (by simp; omega) (fun e => hkv e.symm)]
    exact (below_alloc1 wr o).block k hk
  have hvv : Apart v ve ∧ v.ownBlock ≠ some p ∧ (∀ k, v.ownBlock = some k → w.heap.size ≤ k ∧ k < wr.heap.size) := by
    have h1 := owns_ge hL.own
    have h2 := owns_lt hL.own
    refine ⟨fun k hk e => ?_, fun e => by have := h1 p e; omega, fun k hk => ⟨h1 k hk, h2 k hk⟩⟩
    rcases hat with h | h
    · rw [h] at e
      have := owns_lt hx.own k e
      have := h1 k hk
      omega
    · rw [h] at e; cases e
      have := h2 _ hk
      omega
  have hrv : w3.ownsRow B 91 1 ve (m + 1) (us.take m ++ [v]) := hown
  refine ⟨⟨?_, set_cell y1 ve, set_frozen y2 ve, hx.low, ?_, ?_, hvp, ?_, ?_, ?_⟩, ⟨?_, ?_, ?_, ?_, ?_, ?_, ?_⟩⟩
  · exact (World.cell?_setCell_other w3 _ _ ve (by simp)).trans y0
  · rw [hadd, List.length_append, List.length_take, Nat.min_eq_left hle]
    exact owns_mods hown fun k hk _ => hst k (fun e => hvp (by rw [hk, e]))
  · intro j hj
    have hj' : j < m + 1 := by rw [hadd] at hj; simp at hj; omega
    by_cases hjm : j < m
    · obtain ⟨u, h1, h2, h3, h4⟩ := hx.runs j (by omega)
      have hget : (addRuns rs x)[j] = rs[j]'(by omega) := by
        have : (addRuns rs x)[j]? = rs[j]? := by rw [hadd, List.getElem?_append_left (by simp; omega), List.getElem?_take_of_lt hjm]
        rw [List.getElem?_eq_getElem hj, List.getElem?_eq_getElem (by omega)] at this
        exact Option.some.inj this
      have hlt := owns_lt h2
      refine ⟨u, ?_, ?_, ?_, h4⟩
      · rw [List.getElem?_append_left (by simp; omega), List.getElem?_take_of_lt hjm]; exact h1
      · rw [hget]
        refine owns_mods h2 fun k hk hkl => ?_
        have hkp : k ≠ p := fun e => h4 (by rw [hk, e])
        rw [hmid k (by omega) hkp (fun e => h3 k hk e), hL.near.block k hkl hkp]
      · intro k hk e
        rcases hat with h | h
        · exact h3 k hk (by rw [← h, e])
        · rw [h] at e; cases e
          have := hlt _ hk
          omega
    · have hjm' : j = m := by omega
      subst hjm'
      have hl1 : (us.take j).length = j := by simp; omega
      have hl2 : (rs.take j).length = j := by simp; omega
      have hget : (addRuns rs x)[j] = run := by
        have : (addRuns rs x)[j]? = some run := by rw [hadd, List.getElem?_append_right (by omega), hl2, Nat.sub_self]; rfl
        rw [List.getElem?_eq_getElem hj] at this
        exact Option.some.inj this
      refine ⟨v, ?_, ?_, hvv.1, hvv.2.1⟩
      · rw [List.getElem?_append_right (by omega), hl1, Nat.sub_self]; rfl
      · rw [hget]
        refine owns_mods ?_ fun k hk hkl => hmid k hkl (fun e => hvv.2.1 (by rw [hk, e])) (fun e => by have := owns_lt hx.own k e; have := (hvv.2.2 k hk).1; omega)
        exact owns_lower hL.own hB
  · rw [hadd]
    intro r hr
    rcases List.mem_append.1 hr with h | h
    · exact hx.wid r (List.mem_of_mem_take h)
    · simp at h; subst h; exact hL.wid
  · rw [hadd]
    intro r hr
    rcases List.mem_append.1 hr with h | h
    · exact hx.sorted r (List.mem_of_mem_take h)
    · simp at h; subst h; exact hL.sorted
  · rw [hadd, List.flatten_append, List.length_append, List.flatten_cons, List.flatten_nil, List.append_nil]
    have := hL.total
    omega
  · exact hg.os.trans hL.near.os
  · exact hg.tape.trans hL.near.tape
  · exact hg.output.trans hL.near.output
  · have h := hg.size
    rw [World.size_alloc] at h
    have e : (w3.setCell ⟨p, 1, none⟩ ve).heap.size = w3.heap.size := by simp [World.setCell]
    omega
  · intro k hk hkp hkv
    rw [hmid k (by omega) hkp hkv, hL.near.block k hk hkp]
  · rcases hat with h | h
    · exact .inl h
    · exact .inr ⟨_, h, by omega⟩
  · intro u hu
    rcases List.mem_append.1 hu with h | h
    · exact .inl (List.mem_of_mem_take h)
    · simp at h; subst h; exact .inr fun k hk => (hvv.2.2 k hk).1
end Go.Proofs.YthgjecofmnomfaaDoor
namespace Go.Proofs.YthgjecofmnomfaaDoor
open Go.RowKit
set_option maxRecDepth 100000

theorem own_one {w : World} {B : Nat} (hB : B ≤ w.heap.size) (x : Item) (hx : x.1.length = 32) : (w.alloc (.cells (itemL x).toArray 90)).ownsRow B 90 33 (.slice (some ⟨w.heap.size, 0, none⟩) 1 1) 1 (itemsL [x]) := by
  have hl := itemL_length x hx
  rw [itemsL_one]
  refine ⟨by omega, .inr ⟨w.heap.size, 1, (itemL x).toArray, rfl, hB, heap_alloc_new w _, Nat.le_refl _, by unfold maxLen; omega, by simp [hl], ?_⟩⟩
  simp [← hl]
theorem count_le : ∀ {rs : List (List Item)}, (∀ r ∈ rs, r ≠ []) → rs.length ≤ rs.flatten.length
  | [], _ => Nat.le_refl _
  | r :: rs, h => by
    have ih := count_le (rs := rs) (fun s hs => h s (by simp [hs]))
    have h1 : 0 < r.length := List.length_pos_iff.2 (h r (by simp))
    rw [List.flatten_cons, List.length_append, List.length_cons]
    omega
set_option maxHeartbeats 2000000 in
theorem add_calls (p : Nat) (vr : Value) (us : List Value) (rs : List (List Item)) (B : Nat) (d : List UInt8) (place : Nat) (w : World) (hx : Ix w B p vr us rs) (hd : d.length = 32) (hB : B ≤ w.heap.size) (hs : rs.flatten.length + 1 ≤ 1000000) (hne : ∀ r ∈ rs, r ≠ []) :
    Calls Tryd.prog 27 #[.pointer (some ⟨p, 0, none⟩), .agg (u8s d).toArray, .int .i64 (place : Int)] w fun e w' =>
      (findI rs.flatten d ≠ none ∧ e = .returned (.int .i64 120) ∧ Below w.heap.size w w') ∨
      (findI rs.flatten d = none ∧ e = .returned (.int .i64 0) ∧ ∃ vr' us', Ix w' B p vr' us' (addRuns rs (d, (place : Int))) ∧ Step w p vr us w' vr' us') := by
  obtain ⟨A, c, rfl, a1, a2, a3⟩ := owns_form hx.own
  have hb0 := below_alloc1 w (.cells (u8s d).toArray 63)
  have hr0 : (w.alloc (.cells (u8s d).toArray 63)).rangeAt w.heap.size 0 (u8s d) := fun j u hu => by
    rw [Nat.zero_add, cell_of_row _ w.heap.size j _ _ (0, 0) (heap_alloc_new w _)]
    simpa using hu
  have hWd : w.alloc (.cells (u8s d).toArray 63) = w.alloc (.cells (u8s d).toArray 63) := rfl
  have hW0 : w.heap.size < (w.alloc (.cells (u8s d).toArray 63)).heap.size := by simp
  have hx1 := hx.below hb0
  generalize hW : w.alloc (.cells (u8s d).toArray 63) = W at hb0 hr0 hW0 hx1
  clear hWd
  have c0 := hx1.c0
  have c1 := hx1.c1
  have KF := Lib.hid (find_calls p (.slice A rs.length c) us rs d W hx1.read hd)
  have LD := Lib.hid (fun w1 (h : Below W.heap.size W w1) => load_digest hd (rangeAt_below hr0 h))
  have HX := Lib.hid hx; clear hx
  have hrl := count_le hne
  clear hne
  have HX1 := Lib.hid hx1; clear hx1 hr0
  have hp0 : (0 : Int) ≤ (place : Int) := Int.natCast_nonneg _
  cases hfi : findI rs.flatten d with
  | some y =>
    have hv : findV rs.flatten d = (y.2, true) := by unfold findV; rw [hfi]
    rw [hv] at KF
    go_enter Tryd.func27, Tryd.ntmps27
    go_wp2_with (first
      | (go_at_call 41; refine (none_calls _ _ c0).mono ?_; rintro e w1 ⟨rfl, rfl⟩)
      | (refine wpList_load_run rfl 63 _ rfl _ _ rfl (LD.out _ (Below.refl _ _)) ?_)
      | (go_at_call 42; refine KF.out.mono ?_; rintro e w1 ⟨rfl, hB1⟩))
    go_ret
    exact .inl ⟨by simp, rfl, hb0.trans (hB1.mono (by omega))⟩
  | none =>
    have hv : findV rs.flatten d = (0, false) := by unfold findV; rw [hfi]
    rw [hv] at KF
    go_enter Tryd.func27, Tryd.ntmps27
    go_wp2_with (first
      | (go_at_call 41; refine (none_calls _ _ c0).mono ?_; rintro e w1 ⟨rfl, rfl⟩)
      | (refine wpList_load_run rfl 63 _ rfl _ _ rfl (LD.out _ (Below.refl _ _)) ?_)
      | (go_at_call 42; refine KF.out.mono ?_; rintro e w1 ⟨rfl, hB1⟩)
      | (refine wpList_load_run rfl 63 _ rfl _ _ rfl (LD.out _ hB1) ?_)
      | (refine wpList_item rfl _ _ rfl d hd (place : Int) rfl rfl ?_)
      | (refine wpList_one_item rfl _ rfl (itemL (d, (place : Int))) rfl (itemL_length _ hd) ?_; have hE := hB1.alloc hB1.size (.cells (itemL (d, (place : Int))).toArray 90); have e0 := (HX1.out.below hE).c0; have e1 := (HX1.out.below hE).c1))
    have hx2 := HX1.out.below hE
    have hown := own_one (w := w1) (B := w.heap.size) (by have := hB1.size; omega) (d, (place : Int)) hd
    have hN : Nearly p w (w1.alloc (.cells (itemL (d, (place : Int))).toArray 90)) := (Nearly.of_below hb0).then_below hE
    have hst : AtLoop w B p us rs (d, (place : Int)) A c rs.length (.slice (some ⟨w1.heap.size, 0, none⟩) 1 1) [(d, (place : Int))] (w1.alloc (.cells (itemL (d, (place : Int))).toArray 90)) :=
      ⟨Nat.le_refl _, hown, fun y hy => by simp at hy; subst hy; exact hd, List.pairwise_singleton _ _, by simp, by rw [List.take_length]; simp; omega, by rw [List.take_length], trivial, hx2.c0, hx2.c1, hx2.f1, hN⟩
    clear hown hN hx2 e0 e1
    generalize w1.alloc (.cells (itemL (d, (place : Int))).toArray 90) = w2 at hst hE
    go_loopw [9, 10] (fun v i wr => ∃ (m : Nat) (run : List Item), i = .int .i64 (m : Int) ∧ AtLoop w B p us rs (d, (place : Int)) A c m v run wr) (fun _ i _ => (intOf i).toNat)
    case atStart => exact ⟨rs.length, _, rfl, hst⟩
    case round =>
      obtain ⟨m, run, rfl, hL⟩ := hrel
      clear hst
      have z0 := hL.c0
      have z1 := hL.c1
      have z2 := hL.f1
      have HL := Lib.hid hL
      obtain ⟨Av, cv, rfl, v1, v2, v3⟩ := owns_form hL.own
      have hle := hL.le
      clear hL
      cases m with
      | zero =>
        have hrow := HL.out.row HX.out
        have hsz : B ≤ wr.heap.size := Nat.le_trans hB HL.out.near.size
        have hplt : (⟨p, 0, none⟩ : Addr).block < wr.heap.size := World.block_lt_of_cell? wr _ z0
        have hpl1 : ∀ o, (⟨p, 0, none⟩ : Addr).block < (wr.alloc o).heap.size := fun o => by rw [World.size_alloc]; omega
        have hpv : some (⟨p, 0, none⟩ : Addr).block ≠ (Value.slice A 0 c).ownBlock := fun e => HX.out.pv (by cases A <;> simp_all [Value.ownBlock])
        go_wp2_with (first | (at_builtin; refine app_row rfl _ _ 84 91 rfl Tryd.underlying84 info_row rfl (by omega) B (.slice A 0 c) rfl 0 (us.take 0) hrow (.slice Av run.length cv) rfl rfl ?_ hsz ?_; (· omega); intro ve w3 hown3 hg3 hat3; obtain ⟨Ae, ce, rfl, g1, g2, g3⟩ := owns_form hown3; have y0 := (hg3.cell_far ⟨p, 0, none⟩ (hpl1 _) hpv).trans (cell_below (below_alloc1 wr _) z0); have y1 := (hg3.cell_far ⟨p, 1, none⟩ (hpl1 _) hpv).trans (cell_below (below_alloc1 wr _) z1); have y2 := (hg3.frozen_far ⟨p, 1, none⟩ (hpl1 _) hpv).trans (frozen_below (below_alloc1 wr _) z1 z2)))
        go_ret
        refine ⟨rfl, _, _, add_end HX.out HL.out hB hs (by rw [List.take_zero]; rfl) hown3 hg3 hat3 y0 y1 y2⟩
      | succ k =>
        obtain ⟨ad, u, hA, hus, hcu, hou⟩ := HL.out.at_ HX.out k (by omega)
        subst hA
        obtain ⟨Au, cu, rfl, u1, u2, u3⟩ := owns_form hou
        have htk : (rs.take (k + 1)).reverse = rs[k] :: (rs.take k).reverse := by
          rw [List.take_succ_eq_append_getElem (by omega), List.reverse_append]; rfl
        have hfl : (rs.take (k + 1)).flatten.length = (rs.take k).flatten.length + rs[k].length := by
          rw [List.take_succ_eq_append_getElem (by omega), List.flatten_append, List.length_append, List.flatten_cons, List.flatten_nil, List.append_nil]
        have hrow := HL.out.row HX.out
        have hsz : B ≤ wr.heap.size := Nat.le_trans hB HL.out.near.size
        have hplt : (⟨p, 0, none⟩ : Addr).block < wr.heap.size := World.block_lt_of_cell? wr _ z0
        have hpl1 : ∀ o, (⟨p, 0, none⟩ : Addr).block < (wr.alloc o).heap.size := fun o => by rw [World.size_alloc]; omega
        have hpv : some (⟨p, 0, none⟩ : Addr).block ≠ (Value.slice (some ad) (k + 1) c).ownBlock := fun e => HX.out.pv (by simp_all [Value.ownBlock])
        have HT := Lib.hid htk
        have HFL := Lib.hid hfl
        clear htk hfl
        by_cases hlen : rs[k].length = run.length
        · have HLEN := Lib.hid hlen; clear hlen
          have KM := Lib.hid (merged_calls (.slice Au rs[k].length cu) (.slice Av run.length cv) rs[k] run wr (RunV.of_owns hou) (RunV.of_owns HL.out.own) (HX.out.wid _ (List.getElem_mem (by omega))) HL.out.wid (by have := HL.out.total; have := HFL.out; omega))
          have hlen2 : (rs[k].length : Int) = (run.length : Int) := by have := HLEN.out; omega
          clear hrow hou
          go_wp2_with (first | (go_at_call 43; refine KM.out.mono ?_; rintro e w3 ⟨v3, rfl, hown3, hB3⟩; obtain ⟨A3, c3, rfl, g1, g2, g3⟩ := owns_form hown3; have y0 := cell_below hB3 z0; have y1 := cell_below hB3 z1; have y2 := frozen_below hB3 z1 z2))
          refine ⟨⟨k, rs[k].merge run leI, rfl, ?_⟩, by simp [intOf]⟩
          have hwm : Wid (rs[k].merge run leI) := fun y hy => by
            rcases List.mem_append.1 ((merge_perm rs[k] run).mem_iff.1 hy) with h | h
            · exact HX.out.wid _ (List.getElem_mem (by omega)) y h
            · exact HL.out.wid y h
          have hst : ∀ q, q ≠ p → (w3.setCell ⟨p, 1, none⟩ (.slice (some ad) k c)).heap[q]? = w3.heap[q]? := fun q hq => Below.heap_setCell _ _ _ _ hq
          refine ⟨by omega, ?_, hwm, sorted_merge (HX.out.sorted _ (List.getElem_mem (by omega))) HL.out.sorted, ?_, ?_, ?_, trivial, ?_, set_cell y1 _, set_frozen y2 _, (HL.out.near.then_below hB3).set 1 _⟩
          · rw [merge_length]
            exact owns_lower (owns_mods hown3 fun q hq _ => hst q (fun e => by have := owns_ge hown3 q hq; omega)) HL.out.near.size
          · intro e
            have := merge_length rs[k] run
            rw [e] at this
            have h1 := HL.out.ne
            have : run = [] := List.eq_nil_of_length_eq_zero (by simp at this; omega)
            exact h1 this
          · have := HL.out.total; have := HFL.out; rw [merge_length]; omega
          · rw [← HL.out.carry, HT.out, carry_go HLEN.out]
          · exact (World.cell?_setCell_other w3 _ _ _ (by simp)).trans y0
        · have hlen2 : ¬ (rs[k].length : Int) = (run.length : Int) := by omega
          have HLEN := Lib.hid hlen; clear hlen
          go_wp2_with (first | (at_builtin; refine app_row rfl _ _ 84 91 rfl Tryd.underlying84 info_row rfl (by omega) B (.slice (some ad) (k + 1) c) rfl (k + 1) (us.take (k + 1)) hrow (.slice Av run.length cv) rfl rfl ?_ hsz ?_; (· omega); intro ve w3 hown3 hg3 hat3; obtain ⟨Ae, ce, rfl, g1, g2, g3⟩ := owns_form hown3; have y0 := (hg3.cell_far ⟨p, 0, none⟩ (hpl1 _) hpv).trans (cell_below (below_alloc1 wr _) z0); have y1 := (hg3.cell_far ⟨p, 1, none⟩ (hpl1 _) hpv).trans (cell_below (below_alloc1 wr _) z1); have y2 := (hg3.frozen_far ⟨p, 1, none⟩ (hpl1 _) hpv).trans (frozen_below (below_alloc1 wr _) z1 z2)))
          go_ret
          refine ⟨rfl, _, _, add_end HX.out HL.out hB hs ?_ hown3 hg3 hat3 y0 y1 y2⟩
          rw [HT.out]
          exact carry_stop (fun r hr => by cases hr; exact HLEN.out)
end Go.Proofs.YthgjecofmnomfaaDoor
namespace Go.Proofs.YthgjecofmnomfaaDoor
open Go.RowKit
set_option maxRecDepth 100000

def natsL (l : List Nat) : List Value := l.map fun (n : Nat) => Value.int .i64 (n : Int)
theorem natsL_length (l : List Nat) : (natsL l).length = l.length := by simp [natsL]
theorem natsL_get (l : List Nat) (j : Nat) (h : j < l.length) : (natsL l)[j]? = some (.int .i64 (l[j] : Int)) := by simp [natsL, h]
theorem Ix.fresh (w : World) {B : Nat} (hB : B ≤ w.heap.size) : Ix (w.alloc (.cells #[.bool true, .slice none 0 0] 86)) B w.heap.size (.slice none 0 0) [] [] where
  c0 := cell_of_row _ w.heap.size 0 _ _ (0, 0) (heap_alloc_new w _)
  c1 := cell_of_row _ w.heap.size 1 _ _ (0, 0) (heap_alloc_new w _)
  f1 := new_frozen w _ _ 1
  low := hB
  own := World.ownsRow_nil _ _ _ _
  runs := fun j h => absurd h (by simp)
  pv := by simp [Value.ownBlock]
  wid := by simp
  sorted := by simp
  small := by simp
theorem new_calls (w : World) : Calls Tryd.prog 26 #[] w fun e w' => e = .returned (.pointer (some ⟨w.heap.size, 0, none⟩)) ∧ w' = w.alloc (.cells #[.bool true, .slice none 0 0] 86) := by
  go_enter Tryd.func26, Tryd.ntmps26
  go_wp2
  go_ret
  exact ⟨rfl, rfl⟩
theorem none_calls2 (p : Nat) (w : World) (h : w.cell? ⟨p, 0, none⟩ = some (.bool true)) : Calls Tryd.prog 41 #[.pointer (some ⟨p, 0, none⟩)] w fun e w' => e = .returned (.bool false) ∧ w = w' :=
  (none_calls p w h).mono fun _ _ ⟨h1, h2⟩ => ⟨h1, h2.symm⟩
theorem runs_calls (p : Nat) (vr : Value) (us : List Value) (rs : List (List Item)) (w : World) (hx : IxR w p vr us rs) (hn : rs.length ≤ 1000000) :
    Calls Tryd.prog 50 #[.pointer (some ⟨p, 0, none⟩)] w fun e w' => ∃ v, e = .returned v ∧ w'.ownsRow w.heap.size 3 1 v rs.length (natsL (rs.map List.length)) ∧ Below w.heap.size w w' := by
  obtain ⟨A, c, rfl, a1, a2, -, -⟩ := hx.row
  unfold maxLen at a2
  have c0 := hx.c0
  have c1 := hx.c1
  have HX := Lib.hid hx; clear hx
  go_enter Tryd.func50, Tryd.ntmps50
  go_wp2_with (go_at_call 41; refine (none_calls2 _ _ c0).mono ?_; rintro e w1 ⟨rfl, rfl⟩)
  go_loopw [3, 13] (fun v i wr => ∃ j : Nat, j ≤ rs.length ∧ i = .int .i64 (j : Int) ∧ wr.ownsRow w.heap.size 3 1 v j (natsL ((rs.take j).map List.length)) ∧ Below w.heap.size w wr) (fun _ i _ => rs.length - (intOf i).toNat)
  case atStart => exact ⟨0, by omega, rfl, World.ownsRow_nil _ _ _ _, Below.refl _ _⟩
  case round =>
    obtain ⟨j, hj, rfl, hown, hB⟩ := hrel
    have HO := Lib.hid hown
    obtain ⟨Av, cv, rfl, v1, v2, v3⟩ := owns_form hown
    clear hown
    by_cases hlt : j < rs.length
    · obtain ⟨u, hu, hru⟩ := (HX.out.below hB).runs j hlt
      obtain ⟨ad, hA, hcell⟩ := (HX.out.below hB).row.at_ j hu
      subst hA
      obtain ⟨A2, c2, rfl, k1, k2⟩ := hru.form
      have hsm := HX.out.small
      have hle := len_flatten rs[j] (List.getElem_mem hlt)
      have hsm2 : rs[j].length ≤ 1000000 := by omega
      have HT := Lib.hid (show natsL ((rs.take (j + 1)).map List.length) = natsL ((rs.take j).map List.length) ++ [.int .i64 (rs[j].length : Int)] by
        rw [List.take_succ_eq_append_getElem hlt]; simp only [natsL, List.map_append, List.map_cons, List.map_nil])
      clear hsm hle hru hu
      generalize rs[j].length = r at *
      have hsz := hB.size
      go_wp2_with (first | (at_builtin; refine app_row rfl _ _ 42 3 rfl Tryd.underlying42 info_int rfl (by omega) w.heap.size _ rfl j _ HO.out _ rfl rfl ?_ hsz ?_; (· omega); intro ve w3 hown3 hg3 hat3))
      have hB3 : Below w.heap.size w w3 := grown_below (hB.alloc hsz _) hg3 (World.ownsRow.alloc HO.out _) (by simp; omega)
      have HO3 := Lib.hid hown3
      clear hg3 hat3 hown3
      go_roundw
      case rel => exact ⟨j + 1, by omega, by go_num, by rw [HT.out]; exact HO3.out, hB3⟩
      case measure => simp [intOf]; omega
    · have hjr : j = rs.length := by omega
      subst hjr
      go_wp2_with fail
      go_ret
      have := HO.out
      rw [List.take_length] at this
      exact ⟨_, rfl, this, hB⟩
theorem sum_take_succ (l : List Nat) (j : Nat) (h : j < l.length) : (l.take (j + 1)).sum = (l.take j).sum + l[j] := by
  rw [List.take_succ_eq_append_getElem h, List.sum_append]; simp
theorem sum_take_le (l : List Nat) (j : Nat) : (l.take j).sum ≤ l.sum := by
  have : l.sum = (l.take j).sum + (l.drop j).sum := by rw [← List.sum_append, List.take_append_drop]
  omega
theorem len_calls (p : Nat) (vr : Value) (us : List Value) (rs : List (List Item)) (w : World) (hx : IxR w p vr us rs) (hn : rs.length ≤ 1000000) :
    Calls Tryd.prog 33 #[.pointer (some ⟨p, 0, none⟩)] w fun e w' => e = .returned (.int .i64 (rs.flatten.length : Int)) ∧ Below w.heap.size w w' := by
  have K := Lib.hid (runs_calls p vr us rs w hx hn)
  have hsm := hx.small
  have hsum : (rs.map List.length).sum = rs.flatten.length := by rw [List.length_flatten]
  have HS := Lib.hid hsum
  rw [← hsum] at hsm ⊢
  clear hx hsum
  have hl : rs.length = (rs.map List.length).length := by simp
  have HL := Lib.hid hl
  rw [hl] at K hn
  clear hl
  generalize rs.map List.length = l at *
  clear HS HL
  go_enter Tryd.func33, Tryd.ntmps33
  go_wp2_with (go_at_call 50; refine K.out.mono ?_; rintro e w1 ⟨v, rfl, hown, hB⟩; have HO := Lib.hid hown; obtain ⟨A, c, rfl, v1, v2, v3⟩ := owns_form hown; clear hown)
  go_loop [3, 9] (fun n i => ∃ j : Nat, j ≤ l.length ∧ i = .int .i64 (j : Int) ∧ n = .int .i64 (((l.take j).sum : Nat) : Int)) (fun _ i => l.length - (intOf i).toNat)
  case atStart => exact ⟨0, by omega, rfl, rfl⟩
  case round =>
    obtain ⟨j, hj, rfl, rfl⟩ := hrel
    by_cases hlt : j < l.length
    · obtain ⟨ad, hA, hcell⟩ := (Row.of_owns HO.out).at_ j (natsL_get l j hlt)
      subst hA
      have hs := sum_take_succ l j hlt
      have hle := sum_take_le l (j + 1)
      have HS := Lib.hid hs
      have h1 : (l.take j).sum ≤ 1000000 := by omega
      have h2 : l[j] ≤ 1000000 := by omega
      clear hs hle
      generalize l[j] = q at *
      go_wp2_with fail
      go_round
      case rel => exact ⟨j + 1, by omega, by go_num, by rw [HS.out]; go_num⟩
      case measure => simp [intOf]; omega
    · have hjr : j = l.length := by omega
      subst hjr
      go_wp2_with fail
      go_ret
      exact ⟨rfl, hB⟩
end Go.Proofs.YthgjecofmnomfaaDoor
namespace Go.Proofs.YthgjecofmnomfaaDoor
open Go.RowKit
set_option maxRecDepth 100000

/-- A slice of digests that is read. -/
def Ds (w : World) (v : Value) (ds : List (List UInt8)) : Prop :=
  ∃ A c, v = .slice A ds.length c ∧ ds.length ≤ c ∧ c ≤ maxLen ∧ (A = none → c = 0) ∧ (∀ d ∈ ds, d.length = 32) ∧ ∀ (j : Nat) (h : j < ds.length), ∃ g o, A = some ⟨g, o, none⟩ ∧ w.rangeAt g (o + j * 32) (u8s ds[j])
theorem Ds.below {w w1 : World} {v : Value} {ds : List (List UInt8)} (h : Ds w v ds) (hb : Below w.heap.size w w1) : Ds w1 v ds :=
  let ⟨A, c, e, h1, h2, h3, h4, h5⟩ := h
  ⟨A, c, e, h1, h2, h3, h4, fun j hj => let ⟨g, o, a, b⟩ := h5 j hj; ⟨g, o, a, rangeAt_below b hb⟩⟩
theorem Ds.form {w : World} {v : Value} {ds : List (List UInt8)} (h : Ds w v ds) : ∃ A c, v = .slice A ds.length c ∧ ds.length ≤ c ∧ c ≤ 9223372036854775807 := by
  obtain ⟨A, c, e, h1, h2, -⟩ := h
  unfold maxLen at h2
  exact ⟨A, c, e, h1, h2⟩
theorem Ds.wid {w : World} {v : Value} {ds : List (List UInt8)} (h : Ds w v ds) (j : Nat) (hj : j < ds.length) : ds[j].length = 32 := by
  obtain ⟨A, c, e, h1, h2, h3, h4, h5⟩ := h
  exact h4 _ (List.getElem_mem hj)
theorem Ds.at_ {w : World} {A : Option Addr} {n c : Nat} {ds : List (List UInt8)} (h : Ds w (.slice A n c) ds) (j : Nat) (hj : j < ds.length) : ∃ g o, A = some ⟨g, o, none⟩ ∧ w.rangeAt g (o + j * 32) (u8s ds[j]) := by
  obtain ⟨A', c', e, h1, h2, h3, h4, h5⟩ := h
  cases e
  exact h5 j hj
/-- All that the index owns lies from B on: what lay below is as it was. -/
theorem Step.below {w w' w0 : World} {B p : Nat} {vr vr' : Value} {us us' : List Value} {rs : List (List Item)} (h : Step w p vr us w' vr' us') (hx : Ix w B p vr us rs) (hb : Below B w0 w) (hB : B ≤ w.heap.size) : Below B w0 w' := by
  refine ⟨h.os.trans hb.os, h.tape.trans hb.tape, h.output.trans hb.output, Nat.le_trans hb.size h.size, fun k hk => ?_⟩
  rw [h.block k (by omega) (fun e => by have := hx.low; omega) (fun e => by have := owns_ge hx.own k e; omega), hb.block k hk]
theorem Ix.lenLe {w : World} {B p : Nat} {vr : Value} {us : List Value} {rs : List (List Item)} (_ : Ix w B p vr us rs) (hne : ∀ r ∈ rs, r ≠ []) : rs.length ≤ rs.flatten.length := count_le hne
theorem addRuns_len (rs : List (List Item)) (x : Item) : (addRuns rs x).flatten.length = rs.flatten.length + 1 := by rw [(addRuns_perm rs x).length_eq, List.length_cons]
theorem addRuns_ne {rs : List (List Item)} (h : ∀ r ∈ rs, r ≠ []) (x : Item) : ∀ r ∈ addRuns rs x, r ≠ [] := by
  intro r hr
  unfold addRuns at hr
  exact carry_ne rs.reverse [x] (by simp) (fun y hy => h y (by simpa using hy)) r (by simpa using hr)
theorem findI_none_iff {l : List Item} {d : List UInt8} : findI l d = none ↔ ∀ x ∈ l, x.1 ≠ d := by
  unfold findI
  rw [List.find?_eq_none]
  simp
theorem findI_ne_iff {l : List Item} {d : List UInt8} : findI l d ≠ none ↔ ∃ x ∈ l, x.1 = d := by
  rw [Ne, findI_none_iff]
  simp
theorem findI_add (rs : List (List Item)) (x : Item) (d : List UInt8) : findI (addRuns rs x).flatten d ≠ none ↔ (x.1 = d ∨ findI rs.flatten d ≠ none) := by
  simp only [findI_ne_iff, (addRuns_perm rs x).mem_iff]
  simp
theorem findI_some {l : List Item} {d : List UInt8} (h : findI l d ≠ none) : ∃ x ∈ l, x.1 = d ∧ findI l d = some x := by
  cases hf : findI l d with
  | none => exact absurd hf h
  | some x =>
    unfold findI at hf
    exact ⟨x, List.mem_of_find?_eq_some hf, by simpa using List.find?_some hf, rfl⟩
/-- Of the first i digests the different ones are there, each with the place of its first. -/
structure Placed (l : List (List UInt8)) (i : Nat) (rs : List (List Item)) : Prop where
  hit : ∀ x ∈ rs.flatten, ∃ j : Nat, x.2 = (j : Int) ∧ j < i ∧ l[j]? = some x.1
  all : ∀ (j : Nat) (d : List UInt8), j < i → l[j]? = some d → findI rs.flatten d ≠ none
  ne : ∀ r ∈ rs, r ≠ []
  falls : FallsP (rs.map List.length)
theorem Placed.nil (l : List (List UInt8)) : Placed l 0 [] := ⟨by simp, fun j d h => by omega, by simp, FallsP.nil⟩
theorem Placed.old {l : List (List UInt8)} {i : Nat} {rs : List (List Item)} (h : Placed l i rs) {d : List UInt8} (hd : l[i]? = some d) (hf : findI rs.flatten d ≠ none) : Placed l (i + 1) rs where
  hit := fun x hx => let ⟨j, a, b, c⟩ := h.hit x hx; ⟨j, a, by omega, c⟩
  all := fun j e hj he => by
    rcases Nat.lt_or_ge j i with h1 | h1
    · exact h.all j e h1 he
    · have : j = i := by omega
      subst this
      rw [hd] at he; cases he
      exact hf
  ne := h.ne
  falls := h.falls
theorem Placed.new {l : List (List UInt8)} {i : Nat} {rs : List (List Item)} (h : Placed l i rs) {d : List UInt8} (hd : l[i]? = some d) : Placed l (i + 1) (addRuns rs (d, (i : Int))) where
  hit := fun x hx => by
    rcases List.mem_cons.1 ((addRuns_perm rs _).mem_iff.1 hx) with rfl | hx
    · exact ⟨i, rfl, by omega, hd⟩
    · obtain ⟨j, a, b, c⟩ := h.hit x hx
      exact ⟨j, a, by omega, c⟩
  all := fun j e hj he => by
    rw [findI_add]
    rcases Nat.lt_or_ge j i with h1 | h1
    · exact .inr (h.all j e h1 he)
    · have : j = i := by omega
      subst this
      rw [hd] at he; cases he
      exact .inl rfl
  ne := addRuns_ne h.ne _
  falls := by rw [addRuns_lens]; exact h.falls.add.1
/-- What Find tells behind the adding. -/
theorem Placed.finds {l : List (List UInt8)} {i : Nat} {rs : List (List Item)} (h : Placed l (i + 1) rs) {d : List UInt8} (hd : l[i]? = some d) : ∃ j : Nat, findV rs.flatten d = ((j : Int), true) ∧ j ≤ i ∧ l[j]? = some d := by
  obtain ⟨x, hx, e, hf⟩ := findI_some (h.all i d (by omega) hd)
  obtain ⟨j, a, b, c⟩ := h.hit x hx
  exact ⟨j, by unfold findV; rw [hf, ← a], by omega, by rw [c, e]⟩
theorem Placed.pos {l : List (List UInt8)} {i : Nat} {rs : List (List Item)} (h : Placed l i rs) (hi : i ≤ l.length) : 0 < rs.flatten.length ↔ 0 < i := by
  constructor
  · intro hp
    obtain ⟨x, hx⟩ := List.exists_mem_of_length_pos hp
    obtain ⟨j, -, b, -⟩ := h.hit x hx
    omega
  · intro hp
    obtain ⟨x, hx, -⟩ := findI_some (h.all 0 l[0] hp (List.getElem?_eq_getElem (by omega)))
    exact List.length_pos_of_mem hx
theorem new_ix (w : World) : Calls Tryd.prog 26 #[] w fun e w' => e = .returned (.pointer (some ⟨w.heap.size, 0, none⟩)) ∧ Ix w' w.heap.size w.heap.size (.slice none 0 0) [] [] ∧ Below w.heap.size w w' :=
  (new_calls w).mono fun _ _ ⟨h1, h2⟩ => ⟨h1, h2 ▸ ⟨Ix.fresh w (Nat.le_refl _), below_alloc1 _ _⟩⟩
theorem run_op_neq {o : Oper} {ρ : Operand → Value} (ty2 : TypeId) (x y : Operand) (ho : o.op = .binOp .neq 63 x y ty2) (a b : List UInt8) (ha : a.length = 32) (hb : b.length = 32) (hx : ρ x = .agg (u8s a).toArray) (hy : ρ y = .agg (u8s b).toArray) (w : World) : (execOp ρ o).run Tryd.prog w = .ok (.value (.bool (a != b))) w := by
  unfold execOp
  have hg : (eqGuard .neq 63 x y (.agg (u8s a).toArray) (.agg (u8s b).toArray)).run Tryd.prog w = .ok () w := by
    simp [eqGuard, Tryd.eqGuardType63]
  have he := eql_digest a b ha hb w
  have hn : (binOp .neq 63 (.agg (u8s a).toArray) (.agg (u8s b).toArray)).run Tryd.prog w = .ok (.bool (a != b)) w := by
    simp only [binOp] at he ⊢
    simp only [Sem.run_bind] at he ⊢
    generalize (Op.equal 63 (.agg (u8s a).toArray) (.agg (u8s b).toArray)).run Tryd.prog w = r at he ⊢
    cases r with
    | ok q w' =>
      simp only [Result.andThen_ok, Sem.run_pure] at he ⊢
      cases he
      rfl
    | halt h w' => simp [Result.andThen] at he
  simp only [ho, hx, hy, Sem.run_bind, Sem.run_pure, hg, hn, Result.andThen_ok]
theorem pow2_and : ∀ {n : Nat}, Pow2 n → n ≤ 1000000 → bits .and .i64 (n : Int) ((n : Int) - 1) = 0 := by
  rintro n ⟨k, rfl⟩ hn
  have hk : k < 20 := by
    rcases Nat.lt_or_ge k 20 with h | h
    · exact h
    · have := Nat.pow_le_pow_right (show 0 < 2 by omega) h; omega
  have : ∀ k : Fin 20, bits .and .i64 ((2 ^ k.val : Nat) : Int) (((2 ^ k.val : Nat) : Int) - 1) = 0 := by decide
  exact this ⟨k, hk⟩
end Go.Proofs.YthgjecofmnomfaaDoor
