/- WALK of the law DigestsOrder. No statement of the seed is proved here. -/
import Derived.Test.YthgjecofmnomfaaDigQ
import Derived.Shelf.Abstract
namespace Go.Proofs.Ythgjecofmnomfaa
open Go.RowKit Go.Shelf
attribute [local go_sem] Oper.semAt_some
set_option maxRecDepth 100000

/-- Where the law stands: the result's box holds 'false', what came in is as it was. -/
structure OAt (W : World) (a b : IxT) (vo : Value) (ds : List (List UInt8)) (w : World) : Prop where
  o : Ord3 (W.heap.size + 1) a b vo ds w
  res : w.cell? ⟨W.heap.size, 0, none⟩ = some (.bool false)
  fr : w.frozen? ⟨W.heap.size, 0, none⟩ = false
  bel : Below W.heap.size W w
theorem OAt.size {W w : World} {a b : IxT} {vo : Value} {ds : List (List UInt8)} (h : OAt W a b vo ds w) : W.heap.size + 1 ≤ w.heap.size := World.block_lt_of_cell? w _ h.res
theorem OAt.keep {W w w' : World} {a b a' b' : IxT} {vo vo' : Value} {ds ds' : List (List UInt8)} (h : OAt W a b vo ds w) (o' : Ord3 (W.heap.size + 1) a' b' vo' ds' w') (hs : ∀ k, k < W.heap.size + 1 → w'.heap[k]? = w.heap[k]?) (h1 : w'.os = w.os) (h2 : w'.tape = w.tape) (h3 : w'.output = w.output) (h4 : w.heap.size ≤ w'.heap.size) : OAt W a' b' vo' ds' w' where
  o := o'
  res := (cell_mods (hs _ (by simp))).trans h.res
  fr := (frozen_mods (hs _ (by simp))).trans h.fr
  bel := ⟨h1.trans h.bel.os, h2.trans h.bel.tape, h3.trans h.bel.output, Nat.le_trans h.bel.size h4, fun k hk => (hs k (by omega)).trans (h.bel.block k hk)⟩
theorem OAt.below {W w w' : World} {a b : IxT} {vo : Value} {ds : List (List UInt8)} (h : OAt W a b vo ds w) (hb : Below w.heap.size w w') : OAt W a b vo ds w' :=
  h.keep (h.o.below hb) (fun k hk => hb.block k (by have := h.size; omega)) hb.os hb.tape hb.output hb.size
theorem OAt.stepA {W w w' : World} {a b a' : IxT} {vo : Value} {ds : List (List UInt8)} (h : OAt W a b vo ds w) (ha : a'.At w' (W.heap.size + 1)) (hs : a.Step w a' w') : OAt W a' b vo ds w' :=
  h.keep (h.o.stepA ha hs) (fun k hk => hs.same (by have := h.size; omega) (fun e => by have := h.o.xa.ge e; omega)) hs.2.os hs.2.tape hs.2.output hs.2.size
theorem OAt.stepB {W w w' : World} {a b b' : IxT} {vo : Value} {ds : List (List UInt8)} (h : OAt W a b vo ds w) (hb : b'.At w' (W.heap.size + 1)) (hs : b.Step w b' w') : OAt W a b' vo ds w' :=
  h.keep (h.o.swap.stepA hb hs).swap (fun k hk => hs.same (by have := h.size; omega) (fun e => by have := h.o.xb.ge e; omega)) hs.2.os hs.2.tape hs.2.output hs.2.size
theorem OAt.grow {W w w' : World} {a b : IxT} {vo vo' : Value} {ds ds' : List (List UInt8)} {n : Nat} (h : OAt W a b vo ds w) (ho : DsO w' (W.heap.size + 1) vo' ds') (hg : w.grownBy w' vo.ownBlock) (hat : vo'.ownBlock = vo.ownBlock ∨ vo'.ownBlock = some n) (hn : w.heap.size ≤ n) : OAt W a b vo' ds' w' :=
  h.keep (h.o.grow ho hg hat hn) (fun k hk => hg.block k (by have := h.size; omega) (fun e => by have := owns_ge h.o.o.1 k e.symm; omega)) hg.os hg.tape hg.output hg.size
theorem load_hd {w : World} {g o : Nat} {d : List UInt8} (hd : d.length = 32) (h : w.rangeAt g o (u8s d)) : w.cell? ⟨g, o, none⟩ = some (.int .u8 (hd0 d : Int)) := by
  have := h 0 _ (u8s_get d 0 (by omega))
  rw [hd0_get hd] at this
  exact this
theorem hd0_lt (d : List UInt8) : hd0 d < 256 := UInt8.toNat_lt _
/-- Behind i digests. -/
structure Ord1 (W : World) (l : List (List UInt8)) (i : Nat) (a b : IxT) (items : List Item) (vo : Value) (ds : List (List UInt8)) (w : World) : Prop where
  at_ : OAt W a b vo ds w
  ord : OrdA ds a.rs items
  bn : b.rs = []
  cnt : ds.length ≤ i
theorem Ord1.later {W : World} {l : List (List UInt8)} {i : Nat} {a b : IxT} {items : List Item} {vo : Value} {ds : List (List UInt8)} {w w' : World} (h : Ord1 W l i a b items vo ds w) (hb : Below w.heap.size w w') : Ord1 W l i a b items vo ds w' := ⟨h.at_.below hb, h.ord, h.bn, h.cnt⟩
/-- Adding the next digest to the first index. -/
theorem Ord1.add {W : World} {l : List (List UInt8)} {i pa : Nat} {a b : IxT} {items : List Item} {vo : Value} {ds : List (List UInt8)} {w : World} (h : Ord1 W l i a b items vo ds w) (hp : a.p = pa) (hi : i < l.length) (hn : l.length ≤ 900000) (d32 : l[i].length = 32) :
    (findI a.rs.flatten l[i] = none → Calls Try.prog 12 #[.pointer (some ⟨pa, 0, none⟩), .agg (u8s l[i]).toArray, .int .i64 (hd0 l[i] : Int)] w fun e w' => e = .returned (.int .i64 0) ∧ ∃ a' : IxT, a'.p = pa ∧ OAt W a' b vo ds w' ∧ OrdA (ds ++ [l[i]]) a'.rs (insI items (l[i], (hd0 l[i] : Int)))) ∧
    (findI a.rs.flatten l[i] ≠ none → Calls Try.prog 12 #[.pointer (some ⟨pa, 0, none⟩), .agg (u8s l[i]).toArray, .int .i64 (hd0 l[i] : Int)] w fun e w' => e = .returned (.int .i64 120) ∧ Ord1 W l (i + 1) a b items vo ds w') := by
  subst hp
  have h1 := hd0_lt l[i]
  have h2 := h.ord.len
  have h3 := h.cnt
  obtain ⟨k1, k2⟩ := addT a (W.heap.size + 1) l[i] (hd0 l[i]) w h.at_.o.xa d32 h.at_.size (by omega) (by omega) h.ord.good.ne
  refine ⟨fun hf => (k1 hf).mono ?_, fun hf => (k2 hf).mono ?_⟩
  · rintro e w' ⟨rfl, y, e1, e2, e3⟩
    exact ⟨rfl, y, e3.1.symm, h.at_.stepA e2 e3, by rw [e1]; exact h.ord.snoc d32 hf⟩
  · rintro e w' ⟨rfl, hb⟩
    have := h.later hb
    exact ⟨rfl, this.at_, this.ord, this.bn, by omega⟩
/-- Behind i digests in the other order. -/
structure Ord2 (W : World) (c i : Nat) (a b : IxT) (items ib : List Item) (vo : Value) (ds : List (List UInt8)) (w : World) : Prop where
  at_ : OAt W a b vo ds w
  ord : OrdA ds a.rs items
  orb : OrdB ds c i b.rs ib
theorem Ord2.later {W : World} {c i : Nat} {a b : IxT} {items ib : List Item} {vo : Value} {ds : List (List UInt8)} {w w' : World} (h : Ord2 W c i a b items ib vo ds w) (hb : Below w.heap.size w w') : Ord2 W c i a b items ib vo ds w' := ⟨h.at_.below hb, h.ord, h.orb⟩
theorem Ord2.add {W : World} {c i pb : Nat} {a b : IxT} {items ib : List Item} {vo : Value} {ds : List (List UInt8)} {w : World} (h : Ord2 W c i a b items ib vo ds w) (hp : b.p = pb) (hc : c < ds.length) (hi : i < ds.length) (hn : ds.length ≤ 900000) {d : List UInt8} (hd : ds[turnK ds.length c i]? = some d) :
    Calls Try.prog 12 #[.pointer (some ⟨pb, 0, none⟩), .agg (u8s d).toArray, .int .i64 (hd0 d : Int)] w fun e w' => e = .returned (.int .i64 0) ∧ ∃ b' : IxT, ∃ ib' : List Item, b'.p = pb ∧ Ord2 W c (i + 1) a b' items ib' vo ds w' := by
  subst hp
  have h1 := hd0_lt d
  have h2 := h.orb.len
  have d32 := h.ord.wid d (List.mem_of_getElem? hd)
  have hf := h.orb.new h.ord.nodup hc hi hd
  obtain ⟨k1, -⟩ := addT b (W.heap.size + 1) d (hd0 d) w h.at_.o.xb d32 h.at_.size (by omega) (by omega) h.orb.good.ne
  refine (k1 hf).mono ?_
  rintro e w' ⟨rfl, y, e1, e2, e3⟩
  exact ⟨rfl, y, _, e3.1.symm, h.at_.stepB e2 e3, h.ord, by rw [e1]; exact h.orb.snoc h.ord.wid _ hd hf⟩
theorem step_below {w w' w0 : World} {B p : Nat} {vr vr' : Value} {us us' : List Value} (h : Step w p vr us w' vr' us') (hp : B ≤ p) (hv : ∀ k, vr.ownBlock = some k → B ≤ k) (hb : Below B w0 w) (hB : B ≤ w.heap.size) : Below B w0 w' := by
  refine ⟨h.os.trans hb.os, h.tape.trans hb.tape, h.output.trans hb.output, Nat.le_trans hb.size h.size, fun k hk => ?_⟩
  rw [h.block k (by omega) (fun e => by omega) (fun e => by have := hv k e; omega), hb.block k hk]
def dlit : List UInt8 := [1, 2, 3, 4, 5, 0, 0, 0, 0, 0, 0, 0, 0, 0, 0, 0, 0, 0, 0, 0, 0, 0, 0, 0, 0, 0, 0, 0, 0, 0, 0, 0]
theorem dlit_cells : (u8s dlit).toArray = #[.int .u8 1, .int .u8 2, .int .u8 3, .int .u8 4, .int .u8 5, .int .u8 0, .int .u8 0, .int .u8 0, .int .u8 0, .int .u8 0, .int .u8 0, .int .u8 0, .int .u8 0, .int .u8 0, .int .u8 0, .int .u8 0, .int .u8 0, .int .u8 0, .int .u8 0, .int .u8 0, .int .u8 0, .int .u8 0, .int .u8 0, .int .u8 0, .int .u8 0, .int .u8 0, .int .u8 0, .int .u8 0, .int .u8 0, .int .u8 0, .int .u8 0, .int .u8 0] := rfl
/-- Adding to a clone. -/
theorem addC (y : IxT) (B : Nat) (w0 w : World) (hy : y.At w B) (hB : B ≤ w.heap.size) (hp : w0.heap.size ≤ y.p) (hv : ∀ k, y.vr.ownBlock = some k → w0.heap.size ≤ k) (hb : Below w0.heap.size w0 w) (hs : y.rs.flatten.length + 1 ≤ 1000000) (hne : ∀ r ∈ y.rs, r ≠ []) :
    Calls Try.prog 12 #[.pointer (some ⟨y.p, 0, none⟩), .agg #[.int .u8 1, .int .u8 2, .int .u8 3, .int .u8 4, .int .u8 5, .int .u8 0, .int .u8 0, .int .u8 0, .int .u8 0, .int .u8 0, .int .u8 0, .int .u8 0, .int .u8 0, .int .u8 0, .int .u8 0, .int .u8 0, .int .u8 0, .int .u8 0, .int .u8 0, .int .u8 0, .int .u8 0, .int .u8 0, .int .u8 0, .int .u8 0, .int .u8 0, .int .u8 0, .int .u8 0, .int .u8 0, .int .u8 0, .int .u8 0, .int .u8 0, .int .u8 0], .int .i64 7] w fun e w' => (∃ n, e = .returned (.int .i64 n)) ∧ Below w0.heap.size w0 w' := by
  have K := add_calls y.p y.vr y.us y.rs B dlit 7 w hy rfl hB (by omega) hs hne
  rw [dlit_cells] at K
  refine K.mono ?_
  rintro e w' (⟨-, rfl, h2⟩ | ⟨-, rfl, vr', us', h2, h3⟩)
  · exact ⟨⟨_, rfl⟩, hb.trans (h2.mono hb.size)⟩
  · exact ⟨⟨_, rfl⟩, step_below h3 hp hv hb hb.size⟩
set_option maxHeartbeats 1000000 in
theorem digestsOrder_walk (p : Int) (v : Value) (l : List (List UInt8)) (W : World) (hl : Ds W v l) (hn : l.length ≤ 900000) : Calls Try.prog 7 #[v, .int .i64 p] W fun e w' => e = .returned (.bool true) ∧ Below W.heap.size W w' := by
  have HD := Lib.hid hl
  obtain ⟨A, c, rfl, a1, a2⟩ := hl.form
  clear hl
  refine (callsIn_wide (n := 9)).1 ?_
  refine callsIn_of_wp_marks Try.func7 rfl trivial ?_ rfl
  simp only [Try.ntmps7, List.size_toArray, List.length_cons, List.length_nil, Nat.reduceAdd, Nat.reduceSub, Array.replicate_succ, Array.replicate_zero, List.push_toArray, List.append_toArray, List.nil_append, List.cons_append]
  have tok : True := trivial
  have hr0 := new_cell W (.bool false) 4
  have hf0 := new_frozen W #[.bool false] 4 0
  have hb0 := below_alloc1 W (.cells #[.bool false] 4)
  have hs0 : (W.alloc (.cells #[.bool false] 4)).heap.size = W.heap.size + 1 := by simp
  gi_wp2_with (first
    | (refine ⟨trivial, ?_⟩; gi_at_call 11; have _t := tok; refine (callsIn_wide.2 (new_ixT _ (W.heap.size + 1) (by simp))).mono ?_; rintro e w1 ⟨rfl, hx1, hB1⟩; clear tok; have hs1 := hB1.size)
    | (refine ⟨trivial, ?_⟩; gi_at_call 11; refine (callsIn_wide.2 (new_ixT _ (W.heap.size + 1) (by omega))).mono ?_; rintro e w2 ⟨rfl, hx2, hB2⟩))
  rw [hs0] at hx1 hB1 hs1
  have hbb := below_then hb0 (show Below (W.alloc (.cells #[.bool false] 4)).heap.size _ w2 by rw [hs0]; exact hB1.trans (hB2.mono hs1))
  have hst : Ord1 W l 0 ⟨W.heap.size + 1, .slice none 0 0, [], []⟩ ⟨w1.heap.size, .slice none 0 0, [], []⟩ [] (.slice none 0 0) [] w2 := by
    refine ⟨⟨⟨hx1.below hB2, hx2, DsO.nil _ _, fun k ha hb => ?_, fun k _ h => (by cases h), fun k _ h => (by cases h)⟩, ?_, ?_, hbb⟩, OrdA.nil, rfl, by simp⟩
    · have h1 := IxT.fresh_has ha
      have h2 := IxT.fresh_has hb
      have h3 := hx1.lt ha
      omega
    · exact (hB2.cell (p := ⟨W.heap.size, 0, none⟩) (by show W.heap.size < _; omega)).trans ((hB1.cell (p := ⟨W.heap.size, 0, none⟩) (by show W.heap.size < _; omega)).trans hr0)
    · exact (hB2.frozen (p := ⟨W.heap.size, 0, none⟩) (by show W.heap.size < _; omega)).trans ((hB1.frozen (p := ⟨W.heap.size, 0, none⟩) (by show W.heap.size < _; omega)).trans hf0)
  clear hr0 hf0 hb0 hx1 hx2 hB1 hB2 hbb hs0
  have HST := Lib.hid hst; clear hst
  generalize hpa : W.heap.size + 1 = pa at *
  have HPA := Lib.hid hpa; clear hpa
  generalize w1.heap.size = pb at *
  gi_loopw [7, 8] (fun vo i wr => ∃ (j : Nat) (a b : IxT) (items : List Item) (ds : List (List UInt8)), j ≤ l.length ∧ i = .int .i64 (j : Int) ∧ Hid (a.p = pa) ∧ Hid (b.p = pb) ∧ Hid (Ord1 W l j a b items vo ds wr)) (fun _ i _ => l.length - (intOf i).toNat)
  case atStart => exact ⟨0, _, _, _, _, by omega, rfl, Lib.hid rfl, Lib.hid rfl, HST⟩
  case round =>
    obtain ⟨j, a, b, items, ds, hj, rfl, HA, HB, HR⟩ := hrel
    clear HST
    by_cases hlt : j < l.length
    · have d32 := HD.out.wid j hlt
      obtain ⟨Ao, co, e0, b1, b2⟩ := HR.out.at_.o.o.form
      subst e0
      obtain ⟨g, o, hA, hra⟩ := (HD.out.below HR.out.at_.bel).at_ j hlt
      subst hA
      have LA := Lib.hid (fun w' (hq : ∃ n, w' = wr.drewN n) => (show (Instr.loadAt 34 (.pointer (some ⟨g, o + j * 32, none⟩))).run Try.prog w' = .ok (.agg (u8s l[j]).toArray) w' by obtain ⟨n, rfl⟩ := hq; exact load_digest d32 (rangeAt_drewN hra n)))
      have hch := load_hd d32 hra
      have KA := Lib.hid (fun nq => ((HR.out.later (below_drewN (Below.refl _ _) nq)).add HA.out hlt hn d32))
      have HRA := Lib.hid hra
      have j0 : (0 : Int) ≤ (j : Int) := Int.natCast_nonneg _
      have j1 : (j : Int) < (l.length : Int) := by omega
      clear hra
      generalize hdj : l[j] = d at *
      have HDJ := Lib.hid hdj; clear hdj
      have HWD := Lib.hid (show wrap64 (hd0 d : Int) = (hd0 d : Int) by have := hd0_lt d; unfold wrap64; omega)
      cases hf : findI a.rs.flatten d with
      | none =>
        have HF := Lib.hid hf; clear hf
        gi_wp2
        refine to_plain ?_
        refine wp_region_quiet_tail 11 (by kernel_rfl) (by kernel_rfl) ?_
        simp only [List.take_succ_cons, List.take_zero, List.drop_succ_cons, List.drop_zero]
        go_big_quiet_step (fail)
        go_big_quiet_step (fail)
        go_big_quiet_step (fail)
        go_big_quiet_step (fail)
        refine wpQuiet_load rfl _ _ rfl _ _ rfl LA.out ?_
        simp only [Act.put, List.setIfInBounds_toArray, List.set_cons_zero, List.set_cons_succ]
        repeat (go_big_quiet_step (fail))
        refine wpQuiet_nil ?_
        intro _ hw'; obtain ⟨nq, hw''⟩ := hw'; subst hw''
        rw [HWD.out]
        go_wp2_with (go_at_call 12; refine ((KA.out nq).1 HF.out).mono ?_; rintro e w3 ⟨rfl, a', hpa', hat, hord⟩)
        have HAT := Lib.hid hat; clear hat
        have HORD := Lib.hid hord; clear hord
        have hld3 := load_digest d32 ((HD.out.below HAT.out.bel).at_ j hlt |> fun ⟨g', o', e1, e2⟩ => by cases e1; rw [HDJ.out] at e2; exact e2)
        have hcnt := HR.out.cnt
        refine to_plain ?_
        go_wp2_with (first
          | (refine wpList_load_run rfl 34 _ rfl _ _ rfl hld3 ?_)
          | (refine wpList_one_digest rfl _ rfl d rfl d32 ?_)
          | (at_builtin; refine app_digest rfl _ _ rfl (W.heap.size + 1) _ rfl ds HAT.out.o.o d d32 rfl (by omega) HAT.out.size ?_; intro vo' w4 ho4 hg4 hat4))
        have h4 := (HAT.out.below (below_alloc1 w3 _)).grow ho4 hg4 hat4 (by simp)
        have HR4 := Lib.hid (show Ord1 W l (j + 1) a' b _ vo' (ds ++ [d]) w4 from ⟨h4, HORD.out, HR.out.bn, by simp; omega⟩)
        clear h4 ho4 hg4 hat4 hld3 HAT HORD KA LA
        gi_wp2
        go_roundw
        case rel => exact ⟨j + 1, a', b, _, _, by omega, by go_num, Lib.hid hpa', HB, HR4⟩
        case measure => simp [intOf]; omega
      | some y =>
        have HF := Lib.hid (show findI a.rs.flatten d ≠ none by rw [hf]; simp); clear hf
        gi_wp2
        refine to_plain ?_
        refine wp_region_quiet_tail 11 (by kernel_rfl) (by kernel_rfl) ?_
        simp only [List.take_succ_cons, List.take_zero, List.drop_succ_cons, List.drop_zero]
        go_big_quiet_step (fail)
        go_big_quiet_step (fail)
        go_big_quiet_step (fail)
        go_big_quiet_step (fail)
        refine wpQuiet_load rfl _ _ rfl _ _ rfl LA.out ?_
        simp only [Act.put, List.setIfInBounds_toArray, List.set_cons_zero, List.set_cons_succ]
        repeat (go_big_quiet_step (fail))
        refine wpQuiet_nil ?_
        intro _ hw'; obtain ⟨nq, hw''⟩ := hw'; subst hw''
        rw [HWD.out]
        go_wp2_with (go_at_call 12; refine ((KA.out nq).2 HF.out).mono ?_; rintro e w3 ⟨rfl, hR3⟩)
        have HR3 := Lib.hid hR3; clear hR3 KA LA
        gi_wp2
        go_roundw
        case rel => exact ⟨j + 1, a, b, _, _, by omega, by go_num, HA, HB, HR3⟩
        case measure => simp [intOf]; omega
    · have hjl : j = l.length := by omega
      subst hjl
      obtain ⟨Ao, co, e0, b1, b2⟩ := HR.out.at_.o.o.form
      subst e0
      have hcnt := HR.out.cnt
      obtain ⟨k0, hk0, HK⟩ : ∃ c : Nat, (c < ds.length ∨ ds.length = 0) ∧ Hid (∀ i : Nat, i < ds.length → (wrap64 (wrap64 (p.tmod (ds.length : Int) + (ds.length : Int)) + (i : Int))).tmod (ds.length : Int) = (turnK ds.length c i : Int)) := by
        rcases Nat.eq_zero_or_pos ds.length with h | h
        · exact ⟨0, .inr h, Lib.hid (fun i hi => by omega)⟩
        · obtain ⟨c, h1, h2⟩ := turn_place p ds.length h (by omega)
          exact ⟨c, .inl h1, Lib.hid h2⟩
      have HR2 := Lib.hid (show Ord2 W k0 0 a b items [] (.slice Ao ds.length co) ds wr from ⟨HR.out.at_, HR.out.ord, by rw [HR.out.bn]; exact OrdB.nil _ _⟩)
      clear HR
      gi_wp2
      obtain ⟨wo, hwo⟩ : ∃ wo : World, wo = wr := ⟨_, rfl⟩
      subst hwo
      have HB0 := HB
      clear HB
      gi_loopw [10] (fun i wr => ∃ (j : Nat) (b : IxT) (ib : List Item), j ≤ ds.length ∧ i = .int .i64 (j : Int) ∧ Hid (b.p = pb) ∧ Hid (Ord2 W k0 j a b items ib (.slice Ao ds.length co) ds wr)) (fun i _ => ds.length - (intOf i).toNat)
      case atStart => exact ⟨0, _, _, by omega, rfl, HB0, HR2⟩
      case round =>
        obtain ⟨j, b, ib, hj2, rfl, HB, HS⟩ := hrel
        clear HR2
        by_cases hlt2 : j < ds.length
        · have hk1 : k0 < ds.length := by omega
          have hkk : turnK ds.length k0 j < ds.length := by unfold turnK; split <;> omega
          have HKJ := Lib.hid (HK.out j hlt2)
          have hd? : ds[turnK ds.length k0 j]? = some ds[turnK ds.length k0 j] := List.getElem?_eq_getElem hkk
          obtain ⟨g, o, hA, hra⟩ := HS.out.at_.o.o.ds.at_ (turnK ds.length k0 j) hkk
          subst hA
          have d32 := HS.out.ord.wid _ (List.getElem_mem hkk)
          generalize ds[turnK ds.length k0 j] = d at *
          have KA := Lib.hid (fun nq => (HS.out.later (below_drewN (Below.refl _ _) nq)).add HB.out hk1 hlt2 (by omega) hd?)
          have HKT : ∃ kt : Nat, kt = turnK ds.length k0 j := ⟨_, rfl⟩
          clear hd?
          generalize turnK ds.length k0 j = kt at hkk HKJ hra
          have LA := Lib.hid (fun w' (hq : ∃ n, w' = wr.drewN n) => (show (Instr.loadAt 34 (.pointer (some ⟨g, o + kt * 32, none⟩))).run Try.prog w' = .ok (.agg (u8s d).toArray) w' by obtain ⟨n, rfl⟩ := hq; exact load_digest d32 (rangeAt_drewN hra n)))
          have hch := load_hd d32 hra
          have HWD := Lib.hid (show wrap64 (hd0 d : Int) = (hd0 d : Int) by have := hd0_lt d; unfold wrap64; omega)
          have j0 : (0 : Int) ≤ (kt : Int) := Int.natCast_nonneg _
          have j1 : (kt : Int) < (ds.length : Int) := by omega
          clear hra HKT
          gi_wp2
          rw [HKJ.out]
          refine to_plain ?_
          refine wp_region_quiet_tail 11 (by kernel_rfl) (by kernel_rfl) ?_
          simp only [List.take_succ_cons, List.take_zero, List.drop_succ_cons, List.drop_zero]
          go_big_quiet_step (fail)
          go_big_quiet_step (fail)
          go_big_quiet_step (fail)
          go_big_quiet_step (fail)
          refine wpQuiet_load rfl _ _ rfl _ _ rfl LA.out ?_
          simp only [Act.put, List.setIfInBounds_toArray, List.set_cons_zero, List.set_cons_succ]
          repeat (go_big_quiet_step (fail))
          refine wpQuiet_nil ?_
          intro _ hw'; obtain ⟨nq, hw''⟩ := hw'; subst hw''
          rw [HWD.out]
          go_wp2_with (go_at_call 12; refine (KA.out nq).mono ?_; rintro e w3 ⟨rfl, b', ib', hpb', hS3⟩)
          have HS3 := Lib.hid hS3; clear hS3 KA LA hch
          gi_wp2
          go_roundw
          case rel => exact ⟨j + 1, b', ib', by omega, by go_num, Lib.hid hpb', HS3⟩
          case measure => simp [intOf]; omega
        · have hjd : j = ds.length := by omega
          have hs2 := HS.out
          rw [hjd] at hs2
          have HS2 := Lib.hid hs2
          clear HS HK hs2
          have tokA : True := trivial
          have hsame := orders_same HS2.out.ord HS2.out.orb hk0
          have KC := Lib.hid (cloneT a (W.heap.size + 1) wr HS2.out.at_.o.xa HS2.out.at_.size HS2.out.ord.good.ne)
          rw [HA.out] at KC
          have HSM := Lib.hid hsame; clear hsame
          have hfn := fun f cs bs W => eql_func_nil (P := Try.prog) 48 _ _ _ Try.underlying48 f cs bs W
          gi_wp2_with (first
            | (refine ⟨trivial, ?_⟩; gi_at_call 17; refine (callsIn_wide.2 KC.out).mono ?_; rintro e w5 ⟨y, rfl, y1, y2, y3, y4, y5, hB5⟩; have HY := Lib.hid (And.intro y1 (And.intro y2 (And.intro y3 (And.intro y4 y5)))); have HT5 := Lib.hid (HS2.out.later hB5); clear y1 y2 y3 y4 y5)
            | (refine ⟨trivial, ?_⟩; gi_at_call 16; have _t := tokA; refine (callsIn_wide.2 (all_calls _ _)).mono ?_; clear tokA; rintro e w6 ⟨rfl, hB6, -⟩)
            | (refine ⟨trivial, ?_⟩; gi_at_call 16; have _t := HSM; refine (callsIn_wide.2 (all_calls _ _)).mono ?_; have HSM2 := HSM; clear HSM; rintro e w7 ⟨rfl, hB7, -⟩; have hb57 := below_then hB6 hB7; have KD := Lib.hid (addC y (W.heap.size + 1) wr w7 (HY.out.2.2.2.2.below hb57) (Nat.le_trans HT5.out.at_.size hb57.size) HY.out.2.2.1 HY.out.2.2.2.1 (below_then hB5 hb57) (by rw [HY.out.1, HS2.out.ord.len]; omega) (by rw [HY.out.1]; exact HS2.out.ord.good.ne)))
            | (refine ⟨trivial, ?_⟩; gi_at_call 12; refine (callsIn_wide.2 KD.out).mono ?_; rintro e w8 ⟨⟨nr, rfl⟩, hB8⟩; have HT8 := Lib.hid (HS2.out.later hB8); have hcl := new_cell w8 (.slice none 0 0) 29; have hfl := new_frozen w8 #[.slice none 0 0] 29 0)
            | (refine ⟨trivial, ?_⟩; gi_at_call 16; refine (callsIn_wide.2 (all_calls _ _)).mono ?_; rintro e w9 ⟨rfl, hB9, hc9⟩))
          have HT9 := Lib.hid ((HT8.out.later (below_alloc1 w8 _)).later hB9)
          have hcl9 := cell_below hB9 hcl
          have hfl9 := frozen_below hB9 hcl hfl
          have hs9 := hB9.size
          simp only [World.size_alloc] at hc9 hs9
          have HBL := Lib.hid (fun k (hk : a.Has k ∨ b.Has k ∨ (Value.slice Ao ds.length co).ownBlock = some k) => (show k ≠ w8.heap.size from fun e => by have := HT8.out.at_.o.lt hk; omega))
          have hbr : W.heap.size ≠ w8.heap.size := by have := HT8.out.at_.size; omega
          have hbr2 : W.heap.size + 1 ≤ w8.heap.size := HT8.out.at_.size
          clear HT8 HT5 HY hB5 hB6 hB7 hb57 KD KC hB8 hB9 hcl hfl HS2
          generalize w8.heap.size = bl at *
          have HIX := Lib.hid (fun V (hV : Nearly bl w9 V) => (show Ord2 W k0 ds.length a b items ib (.slice Ao ds.length co) ds V from
            ⟨HT9.out.at_.keep (HT9.out.at_.o.kept fun k hk => hV.block k (HT9.out.at_.o.lt hk) (HBL.out k hk)) (fun k hk => hV.block k (by have := HT9.out.at_.size; omega) (by omega)) hV.os hV.tape hV.output hV.size, HT9.out.ord, HT9.out.orb⟩))
          have hit := digAll_iter 8 (by omega) (bl + 1) pa a.vr a.us a.rs
          rw [HT9.out.ord.good.all] at hit
          refine wpIn_rangeM rfl (by omega) (gf := 31) (lb := #[.pointer (some ⟨bl + 1, 0, none⟩)]) rfl trivial (enters_of Try.func31 (by kernel_rfl) rfl)
            hit HandI.steady (by rintro x args W0 W1 ⟨h, -⟩; rw [h]; rfl)
            (fun M pre V => LAt w9 bl M pre V) (fun _ _ _ => False)
            (fun M s X Y row h hg hr => LAt.turn h hg hr) (fun M s X Y row h hg hr => h)
            (fun V hV => ⟨cell_below hV hc9, by have h := ((HIX.out V (Nearly.of_below hV)).at_.o.xa).read; rw [HA.out] at h; exact h⟩)
            (fun V hV => ⟨⟨_, cell_below hV hcl9, DsO.nil _ _⟩, frozen_below hV hcl9 hfl9, Nearly.of_below hV, hV.size⟩) ?round ?done ?stop
          case round =>
            rintro lp x args W0 W1 hs0 hb ⟨rfl, x32⟩
            have HST := Lib.hid (store_digest_new W1 x32)
            have hrn := range_new W1 x.1
            gi_wp2_with (first | (refine wpListIn_store_run rfl 34 _ _ rfl _ _ rfl rfl _ (HST.out _ rfl) ?_; simp only [Act.put]))
            refine ⟨below_alloc1 _ _, BoxD W1.heap.size x.1, hrn, BoxD.turn, ?_⟩
            generalize W1.heap.size = bx at *
            clear HST hrn
            intro l' M pre rest V0 V2 hl' hsz hM hxs hI hbV _ hbox
            have hL := hI.below hbV
            obtain ⟨vl, hvl, hol⟩ := hL.vl
            have hel : (pre.map (·.1)).length = pre.length := by simp
            obtain ⟨es, hes⟩ : ∃ es, pre.map (·.1) = es := ⟨_, rfl⟩
            rw [hes] at hol hel
            have HES := Lib.hid hes; clear hes
            have hbig := hL.big
            have hvf := hL.fr
            have hch := load_hd x32 hbox
            have hld := load_digest x32 hbox
            obtain ⟨hm1, hm2⟩ := HT9.out.ord.mem x (HT9.out.ord.good.perm.mem_iff.2 (by rw [hxs]; simp))
            have hcn : pre.length + 1 ≤ ds.length := by
              have h1 := HT9.out.ord.len
              have h2 := HT9.out.ord.good.perm.length_eq
              rw [hxs] at h2
              simp only [List.length_append, List.length_cons] at h2
              omega
            have hlt := hd0_lt x.1
            obtain ⟨d, pl⟩ := x
            simp only at x32 hbox hch hld hm1 hm2 hlt
            subst hm2
            have HL := Lib.hid hL
            have HOL := Lib.hid hol
            obtain ⟨Al, cl, rfl, l1, l2⟩ := hol.form
            have hen : es.length + 1 ≤ 4000000 := by omega
            have hbw := below_alloc1 V2 (.cells (u8s d).toArray 34)
            have hbl9 : bl < w9.heap.size := by omega
            have hMV := Nat.le_trans hM hbV.size
            have hblV : bl < (V2.alloc (.cells (u8s d).toArray 34)).heap.size := by simp only [World.size_alloc]; omega
            have hblo : some bl ≠ (Value.slice Al es.length cl).ownBlock := fun e => by have := owns_ge HOL.out.1 bl e.symm; omega
            clear hxs hI hm1 hol hL hbox hel
            gi_wp2_with (first
              | (refine wpListIn_load_run rfl 34 _ rfl _ _ rfl hld ?_)
              | (refine wpListIn_one_digest rfl _ rfl d rfl x32 ?_)
              | (gi_at_builtin; refine wpListIn_app_digest rfl _ _ rfl M (.slice Al es.length cl) rfl es HOL.out d x32 rfl hen hMV ?_; intro vl' V4 ho4 hg4 hat4; have HO4 := Lib.hid ho4; obtain ⟨A4, c4, e4, r1, r2⟩ := ho4.form; subst e4; have hv4 := (cell_mods (a := ⟨bl, 0, none⟩) (hg4.block bl hblV hblo)).trans (cell_below hbw hvl); have hf4 := (frozen_mods (a := ⟨bl, 0, none⟩) (hg4.block bl hblV hblo)).trans (frozen_below hbw hvl hvf)))
            have hfin := LAt.add (x := (d, (hd0 d : Int))) (HL.out.below hbw) hbl9 (Nat.le_trans hMV hbw.size) (cell_below hbw hvl) (by rw [HES.out]; exact HOL.out.below hbw) (by rw [HES.out]; exact HO4.out) hg4
            rw [show (es ++ [d]).length = es.length + 1 by simp] at hfin
            exact ⟨KeepsFrom.trans' (KeepsFrom.below _ hbw) hfin.2.2, (SameB.below _ hbw hMV).trans hfin.2.1, hfin.1⟩
          case done =>
            intro D M W0 V hD hsz hI hb hK
            have hL := hI.below hb
            obtain ⟨vl, hvl, hol⟩ := hL.vl
            have hib := HSM2.out
            have hlen1 := HT9.out.orb.len
            have hlen2 := HT9.out.orb.good.perm.length_eq
            obtain ⟨es, hes⟩ : ∃ es, items.map (·.1) = es := ⟨_, rfl⟩
            rw [hes] at hol hib
            have hel : es.length = ds.length := by rw [← hib, List.length_map]; omega
            have HV := HIX.out V hL.near
            have HOL := Lib.hid hol
            obtain ⟨Al, cl, rfl, l1, l2⟩ := hol.form
            have hDV : D < V.heap.size := (Array.getElem?_eq_some_iff.1 hK).1
            have hblV : bl < V.heap.size := World.block_lt_of_cell? V _ hvl
            have hci := new_cell V (.int .i64 0) 3
            have hfi := new_frozen V #[.int .i64 0] 3 0
            have hbi := below_alloc1 V (.cells #[.int .i64 0] 3)
            clear hit hI hcl9 hfl9 hc9 hL hol hes
            gi_wp2_with (first
              | (refine ⟨trivial, ?_⟩; gi_at_call 16; refine (callsIn_wide.2 (all_calls _ _)).mono ?_; rintro e w11 ⟨rfl, hB11, hc11⟩))
            have hci1 := cell_below hB11 hci
            have hfi1 := frozen_below hB11 hci hfi
            have hs11 := hB11.size
            simp only [World.size_alloc] at hc11 hs11
            have hBV := below_then hbi hB11
            have hvl1 := cell_below hBV hvl
            have HO1 := Lib.hid (HOL.out.below hBV)
            have hK1 := mark_below hBV hK
            have HV1 := Lib.hid (HV.later hBV)
            have HBI := Lib.hid (fun k (hk : a.Has k ∨ b.Has k ∨ (Value.slice Ao ds.length co).ownBlock = some k) => (show k ≠ V.heap.size from fun e => by have := HV.at_.o.lt hk; omega))
            have HLI := Lib.hid (fun k (hk : (Value.slice Al es.length cl).ownBlock = some k) => (show k ≠ V.heap.size from fun e => by have := owns_lt HOL.out.1 k hk; omega))
            have hbr3 : W.heap.size < V.heap.size := HV.at_.size
            clear hbi hB11 hci hfi hBV hvl hK HOL HV HBL hb hsz
            generalize V.heap.size = bi at *
            have HIY := Lib.hid (fun V (hV : Nearly bi w11 V) => (show Ord2 W k0 ds.length a b items ib (.slice Ao ds.length co) ds V from
              ⟨HV1.out.at_.keep (HV1.out.at_.o.kept fun k hk => hV.block k (HV1.out.at_.o.lt hk) (HBI.out k hk)) (fun k hk => hV.block k (by have := HV1.out.at_.size; omega) (by omega)) hV.os hV.tape hV.output hV.size, HV1.out.ord, HV1.out.orb⟩))
            have HLV := Lib.hid (fun V (hV : Nearly bi w11 V) => HO1.out.kept fun k hk => hV.block k (owns_lt HO1.out.1 k hk) (HLI.out k hk))
            have hit := digAll_iter 8 (by omega) (bi + 1) pb b.vr b.us b.rs
            rw [HV1.out.orb.good.all] at hit
            have HEL := Lib.hid hel
            have HLEN := Lib.hid (And.intro hlen1 hlen2)
            have HIB := Lib.hid hib
            clear hel hlen1 hlen2 hib
            refine wpIn_rangeM (by rfl) (by omega) (gf := 31) (lb := #[.pointer (some ⟨bi + 1, 0, none⟩)]) (by rfl) trivial (enters_of Try.func31 (by kernel_rfl) rfl)
              hit HandI.steady (by rintro x args W0 W1 ⟨h, -⟩; rw [h]; rfl)
              (fun _ pre V => KAt w11 bi pre.length V) (fun _ _ _ => False)
              (fun M s X Y row h hg hr => KAt.turn h hg hr) (fun M s X Y row h hg hr => h)
              (fun V hV => ⟨cell_below hV hc11, by have h := ((HIY.out V (Nearly.of_below hV)).at_.o.xb).read; rw [HB.out] at h; exact h⟩)
              (fun V hV => ⟨cell_below hV hci1, frozen_below hV hci1 hfi1, Nearly.of_below hV⟩) ?round2 ?done2 ?stop2
            case round2 =>
              rintro lp x args W0 W1 hs0 hb ⟨rfl, x32⟩
              have HST := Lib.hid (store_digest_new W1 x32)
              have hrn := range_new W1 x.1
              gi_wp2_with (first | (refine wpListIn_store_run rfl 34 _ _ rfl _ _ rfl rfl _ (HST.out _ rfl) ?_; simp only [Act.put]))
              refine ⟨below_alloc1 _ _, BoxD W1.heap.size x.1, hrn, BoxD.turn, ?_⟩
              generalize W1.heap.size = bx at *
              clear HST hrn
              intro l' M' pre rest V0 V2 hl' hsz hM hxs hI hbV _ hbox
              have hL := hI.below hbV
              have hci2 := hL.i
              have hfi2 := hL.fr
              have hvl2 := hL.near.cell hvl1 (by show bl ≠ bi; omega)
              have hpl : pre.length < es.length := by rw [← HIB.out, List.length_map, hxs]; simp
              obtain ⟨g, o, hA, hra⟩ := (HLV.out V2 hL.near).ds.at_ pre.length hpl
              subst hA
              have hex : es[pre.length] = x.1 := by
                have : es[pre.length]? = some x.1 := by rw [← HIB.out, hxs]; simp
                rw [List.getElem?_eq_getElem hpl] at this
                exact Option.some.inj this
              rw [hex] at hra
              have LA := Lib.hid (fun w' (hq : ∃ n, w' = V2.drewN n) => (show (Instr.loadAt 34 (.pointer (some ⟨g, o + pre.length * 32, none⟩))).run Try.prog w' = .ok (.agg (u8s x.1).toArray) w' by obtain ⟨n, rfl⟩ := hq; exact load_digest x32 (rangeAt_drewN hra n)))
              have LB := Lib.hid (fun w' (hq : ∃ n, w' = V2.drewN n) => (show (Instr.loadAt 34 (.pointer (some ⟨bx, 0, none⟩))).run Try.prog w' = .ok (.agg (u8s x.1).toArray) w' by obtain ⟨n, rfl⟩ := hq; exact load_digest x32 (rangeAt_drewN hbox n)))
              have g3 : decide ((es.length : Int) ≤ (pre.length : Int)) = false := by rw [decide_eq_false_iff_not]; omega
              have g4 : decide (es.length ≤ pre.length) = false := by rw [decide_eq_false_iff_not]; omega
              have g5 : (0 : Int) ≤ (pre.length : Int) := by omega
              have g6 : (pre.length : Int) < (es.length : Int) := by omega
              have g7 : (pre.length : Int) + 1 ≤ 9223372036854775807 := by omega
              have HL := Lib.hid hL
              clear hra hbox hL hxs hI hex
              gi_wp2
              refine wpIn_region_quiet_any (by kernel_rfl) (by kernel_rfl) (by kernel_rfl) ?_
              gi_big_quiet_step (fail)
              gi_big_quiet_step (fail)
              gi_big_quiet_step (fail)
              gi_big_quiet_step (fail)
              gi_big_quiet_step (fail)
              refine wpQuietIn_run (by rfl) (fun _ => by simp [Oper.about]) (.agg (u8s x.1).toArray) (fun w' hw => run_op_load _ _ rfl _ _ (by rfl) w' (LB.out w' hw)) ?_
              simp only [Act.put, List.setIfInBounds_toArray, List.set_cons_zero, List.set_cons_succ]
              gi_big_quiet_step (fail)
              gi_big_quiet_step (fail)
              gi_big_quiet_step (fail)
              refine wpQuietIn_run (by rfl) (fun _ => by simp [Oper.about]) (.agg (u8s x.1).toArray) (fun w' hw => run_op_load _ _ rfl _ _ (by rfl) w' (LA.out w' hw)) ?_
              simp only [Act.put, List.setIfInBounds_toArray, List.set_cons_zero, List.set_cons_succ]
              refine wpQuietIn_run (by rfl) (fun _ => by simp [Oper.about]) (.bool (x.1 != x.1)) (fun w' _ => run_op_neq _ _ _ rfl x.1 x.1 x32 x32 (by rfl) (by rfl) w') ?_
              simp only [Act.put, List.setIfInBounds_toArray, List.set_cons_zero, List.set_cons_succ]
              have hbn : (x.1 != x.1) = false := by simp
              rw [hbn]
              gi_big_quiet_step (fail)
              refine wpQuietIn_nil ?_
              intro _ hw'; obtain ⟨nq, hw''⟩ := hw'; subst hw''
              have hD := below_drewN (Below.refl V2.heap.size V2) nq
              generalize V2.drewN nq = V3 at hD ⊢
              have hL3 := HL.out.below hD
              have hM3 : M' ≤ V2.heap.size := Nat.le_trans hM hbV.size
              clear LA LB hbn g3 g4 hci2 hfi2 hvl2 HL
              have hci3 := hL3.i
              have hfi3 := hL3.fr
              gi_wp2
              have hset := hL3.set (pre.length + 1) (by omega) (w11.heap.size + 2) M' (by omega)
              rw [show ((pre.length + 1 : Nat) : Int) = (pre.length : Int) + 1 by omega] at hset
              exact ⟨KeepsFrom.trans' (KeepsFrom.below _ hD) hset.2.2, (SameB.below _ hD hM3).trans hset.2.1, by show KAt _ _ (pre ++ [x]).length _; rw [show (pre ++ [x]).length = pre.length + 1 by simp]; exact hset.1⟩
            case done2 =>
              intro D2 M' W02 V2 hD2 hsz2 hI hb hK2
              have hL := hI.below hb
              have hci2 := hL.i
              have hvl2 := hL.near.cell hvl1 (by show bl ≠ bi; omega)
              have hT := HIY.out V2 hL.near
              have hKD := (hL.near.block D (by omega) (by omega)).trans hK1
              have hlb : ib.length = ds.length := by rw [← HLEN.out.2]; exact HLEN.out.1
              rw [hlb, ← HEL.out] at hci2
              have hla := hT.ord.len
              have KL := len_calls a.p a.vr a.us a.rs V2 hT.at_.o.xa.read (by have := count_le hT.ord.good.ne; omega)
              rw [hla, HA.out, ← HEL.out] at KL
              have HKL := Lib.hid KL
              have hres := hT.at_.res
              have hfres := hT.at_.fr
              have hBel := hT.at_.bel
              have hne : D ≠ D2 := by omega
              have hDW : W.heap.size + 1 ≤ D := by omega
              have hneq : (es.length : Int) = (ds.length : Int) := by rw [HEL.out]
              have HNEQ := Lib.hid hneq
              clear hit hI hci1 hfi1 hL KL hla hlb hneq hT
              rw [← HEL.out]
              generalize es.length = n at *
              gi_wp2_with (first
                | (refine ⟨trivial, ?_⟩; gi_at_call 15; refine (callsIn_wide.2 HKL.out).mono ?_; rintro e w12 ⟨rfl, hB12⟩; have hr12 := cell_below hB12 hres; have hf12 := frozen_below hB12 hres hfres))
              have hM1 := mark_set (a := ⟨W.heap.size, 0, none⟩) (mark_below hB12 hKD) (by show D ≠ W.heap.size; omega) (.bool true)
              have hM2 := mark_set (a := ⟨W.heap.size, 0, none⟩) (mark_below hB12 hK2) (by show D2 ≠ W.heap.size; omega) (.bool true)
              exact leaves_two_cell (w := W) hM1 hM2 hne (by omega) (by omega) ((hBel.trans (hB12.mono hBel.size)).setCell (p := ⟨W.heap.size, 0, none⟩) (by show W.heap.size ≤ W.heap.size; omega) _) (set_cell hr12 _) (fun W' h => by simp [results, Try.results7, go_sem, h]) (fun W' hb => ⟨rfl, hb⟩)
            case stop2 =>
              rintro D M c' W0 W _ _ h
              exact h.elim
          case stop =>
            rintro D M c' W0 W _ _ h
            exact h.elim
end Go.Proofs.Ythgjecofmnomfaa
