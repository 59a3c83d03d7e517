/- WALK of the law DigestsPlays. No statement of the seed is proved here. -/
import Derived.Test.YthgjecofmnomfaaDigPl
import Derived.Test.YthgjecofmnomfaaQuietMix
namespace Go.Proofs.Ythgjecofmnomfaa
open Go.RowKit
set_option maxRecDepth 100000

theorem RunV.lt {w : World} {v : Value} {xs : List Item} (h : RunV w v xs) (hw : Wid xs) (hne : 0 < xs.length) : ∀ k, v.ownBlock = some k → k < w.heap.size := by
  obtain ⟨A, c, rfl, h1, h2, h3, h4⟩ := h
  intro k hk
  cases A with
  | none => cases hk
  | some ad =>
    cases hk
    have hl := itemsL_length xs hw
    have := (h4 ad rfl).2 0 _ (List.getElem?_eq_getElem (show 0 < (itemsL xs).length by omega))
    exact World.block_lt_of_cell? w ⟨ad.block, ad.off + 0, none⟩ this
theorem Row.lt {w : World} {v : Value} {n : Nat} {cs : List Value} (h : Row w v n cs) (hne : 0 < cs.length) : ∀ k, v.ownBlock = some k → k < w.heap.size := by
  obtain ⟨A, c, rfl, h1, h2, h3, h4⟩ := h
  intro k hk
  cases A with
  | none => cases hk
  | some ad =>
    cases hk
    obtain ⟨ad', e, hc⟩ := h4 0 _ (List.getElem?_eq_getElem hne)
    cases e
    exact World.block_lt_of_cell? w _ hc
theorem carryN_pos : ∀ (rr : List Nat) (m : Nat), 0 < (carryN rr m).length
  | [], m => by simp [carryN]
  | r :: rr, m => by
    unfold carryN
    split
    · exact carryN_pos rr (2 * m)
    · simp
/-- One act, in the program and in the reference. -/
theorem play_add {W : World} {bA bR : Nat} {ask : List UInt8} {x : IxT} {vi vn : Value} {items : List Item} {ns : List Nat} {w : World} (h : PAt W bA bR ask x vi vn items ns w) (d : List UInt8) (hd : d.length = 32) (place : Int) (hi : items.length + 1 ≤ 900000) :
    ∃ (code : Int) (items' : List Item) (ns' : List Nat), items'.length ≤ items.length + 1 ∧
      (Calls Try.prog 12 #[.pointer (some ⟨x.p, 0, none⟩), .agg (u8s d).toArray, .int .i64 place] w fun e w' => e = .returned (.int .i64 code) ∧ ∃ y : IxT, y.p = x.p ∧ PMid W bA bR ask y vi vn items ns w' ∧ Good y.rs items' ∧ y.rs.map List.length = ns') ∧
      (∀ (y : IxT) (w2 : World), PMid W bA bR ask y vi vn items ns w2 → Calls Try.prog 19 #[.agg #[vi, vn], .agg (u8s d).toArray, .int .i64 place] w2 fun e w' => ∃ vi' vn', e = .returned (.tuple #[.agg #[vi', vn'], .int .i64 code]) ∧ Below w2.heap.size w2 w' ∧ RefV w' vi' vn' items' ns' ∧
        ((∀ k, vi'.ownBlock = some k → (w2.heap.size ≤ k ∧ k < w'.heap.size) ∨ vi.ownBlock = some k) ∧ (∀ k, vn'.ownBlock = some k → (w2.heap.size ≤ k ∧ k < w'.heap.size) ∨ vn.ownBlock = some k))) := by
  have hg := h.side.good
  have hlen := hg.perm.length_eq
  by_cases hp : place < 0
  · refine ⟨2, items, ns, by omega, (add_neg x.p d place w h.side.at_.c0 hp).mono ?_, fun y w2 h2 => (radd_neg vi vn items ns d place w2 h2.ref hp).mono ?_⟩
    · rintro e w' ⟨rfl, hb⟩
      exact ⟨rfl, x, rfl, (h.below hb).mid, hg, h.side.lens⟩
    · rintro e w' ⟨rfl, hb⟩
      exact ⟨vi, vn, rfl, hb, h2.ref.below hb, fun k hk => .inr hk, fun k hk => .inr hk⟩
  · obtain ⟨n, rfl⟩ := Int.eq_ofNat_of_zero_le (show 0 ≤ place by omega)
    obtain ⟨k1, k2⟩ := addT x (W.heap.size + 1) d n w h.side.at_ hd (by have := h.ltR; have := h.geR; omega) (by omega) hg.ne
    by_cases hf : findI x.rs.flatten d = none
    · have hf2 : findI items d = none := by rw [← hg.find]; exact hf
      have hlr := count_le hg.ne
      have hns : ns.sum = items.length := by rw [← h.side.lens, ← List.length_flatten]; exact hlen
      have hnl : ns.length ≤ items.length := by rw [← h.side.lens, List.length_map]; omega
      have hg' := hg.add (x := (d, (n : Int))) hd hf2
      have hil : (insI items (d, (n : Int))).length ≤ items.length + 1 := by unfold insI; simp; omega
      refine ⟨0, insI items (d, (n : Int)), addN ns, hil, (k1 hf).mono ?_, fun y w2 h2 => (radd_new vi vn items ns d hd (n : Int) w2 h2.ref (by omega) hf2 (by omega) (by omega) (by omega)).mono ?_⟩
      · rintro e w' ⟨rfl, y, e1, e2, e3⟩
        exact ⟨rfl, y, e3.1.symm, h.step e2 e3, by rw [e1]; exact hg', by rw [e1, addRuns_lens, h.side.lens]⟩
      · rintro e w' ⟨vi', vn', rfl, hr, n1, n2, hb⟩
        refine ⟨vi', vn', rfl, hb, hr, fun k hk => .inl ⟨n1 k hk, ?_⟩, fun k hk => .inl ⟨n2 k hk, ?_⟩⟩
        · exact hr.itm.lt hr.wid (by unfold insI; rw [List.length_append, List.length_cons]; omega) k hk
        · exact hr.runs.lt (by rw [natsL_length]; unfold addN; rw [List.length_reverse]; exact carryN_pos _ _) k hk
    · have hf2 : findI items d ≠ none := by rw [← hg.find]; exact hf
      refine ⟨120, items, ns, by omega, (k2 hf).mono ?_, fun y w2 h2 => (radd_there vi vn items ns d hd (n : Int) w2 h2.ref (by omega) hf2).mono ?_⟩
      · rintro e w' ⟨rfl, hb⟩
        exact ⟨rfl, x, rfl, (h.below hb).mid, hg, h.side.lens⟩
      · rintro e w' ⟨rfl, hb⟩
        exact ⟨vi, vn, rfl, hb, h2.ref.below hb, fun k hk => .inr hk, fun k hk => .inr hk⟩
theorem RefV.nil (w : World) : RefV w (.slice none 0 0) (.slice none 0 0) [] [] :=
  ⟨RunV.nil w, fun x hx => (by cases hx), ⟨none, 0, rfl, Nat.le_refl _, by unfold maxLen; omega, fun _ => rfl, fun j u hu => by simp [natsL] at hu⟩, by simp, by simp⟩
/-- The beginning. -/
theorem PAt.start {W w0 w1 : World} {ask : List UInt8} (hb0 : Below W.heap.size W w0) (hs0 : w0.heap.size = W.heap.size + 1) (hr : w0.rangeAt W.heap.size 0 (u8s ask)) (hx : (IxT.mk w0.heap.size (.slice none 0 0) [] []).At w1 (W.heap.size + 1)) (hb1 : Below w0.heap.size w0 w1) :
    PAt W W.heap.size w1.heap.size ask ⟨w0.heap.size, .slice none 0 0, [], []⟩ (.slice none 0 0) (.slice none 0 0) [] [] (w1.alloc (.cells #[.slice none 0 0, .slice none 0 0] 54)) := by
  have hb2 := below_alloc1 w1 (.cells #[.slice none 0 0, .slice none 0 0] 54)
  have hlt : w0.heap.size < w1.heap.size := hx.lt (.inl rfl)
  refine ⟨⟨hx.below hb2, RefV.nil _, Good.nil, rfl⟩, fun hk => ?_, fun k _ => ⟨fun e => (by cases e), fun e => (by cases e)⟩, ⟨fun e => (by cases e), fun e => (by cases e)⟩, ⟨fun k e => (by cases e), fun k e => (by cases e)⟩, rangeAt_below (rangeAt_below hr hb1) hb2, rfl,
    cell_of_row _ w1.heap.size 0 _ _ (0, 0) (heap_alloc_new w1 _), cell_of_row _ w1.heap.size 1 _ _ (0, 0) (heap_alloc_new w1 _), new_frozen w1 _ _ 0, new_frozen w1 _ _ 1, ?_, below_then (below_then hb0 hb1) hb2⟩
  · have := IxT.fresh_has hk
    omega
  · have := hb1.size; omega
theorem load_ref {w : World} {b : Nat} {vi vn : Value} (h0 : w.cell? ⟨b, 0, none⟩ = some vi) (h1 : w.cell? ⟨b, 1, none⟩ = some vn) : (Instr.loadAt 54 (.pointer (some ⟨b, 0, none⟩))).run Try.prog w = .ok (.agg #[vi, vn]) w := by
  have hs : (Try.prog.info? 54).map (·.size) = some 2 := by kernel_rfl
  have := run_loadAt_mid (P := Try.prog) w b 0 54 [vi, vn] _ (fun j v hv => by
    rw [Nat.zero_add]
    rcases j with _ | _ | j
    · cases hv; exact h0
    · cases hv; exact h1
    · simp at hv) Try.underlying54 rfl (by rw [hs]; rfl)
  exact this
set_option maxHeartbeats 4000000 in
theorem digestsPlays_walk (v : Value) (acts : List ActD) (ask : List UInt8) (W : World) (hA : Acts W v acts) (h32 : ask.length = 32) (hn : acts.length ≤ 890000) : Calls Try.prog 6 #[v, .agg (u8s ask).toArray] W fun e w' => e = .returned (.bool true) ∧ Below W.heap.size W w' := by
  have HD := Lib.hid hA
  obtain ⟨A, c, rfl, a1, a2⟩ := hA.form
  clear hA
  have hb0 := below_alloc1 W (.cells (u8s ask).toArray 34)
  have hrn := range_new W ask
  have hs0 : (W.alloc (.cells (u8s ask).toArray 34)).heap.size = W.heap.size + 1 := by simp
  have HB0 := Lib.hid hb0
  have HRN := Lib.hid hrn
  clear hb0 hrn
  have HS0 := Lib.hid hs0
  have K0 := Lib.hid (new_ixT (W.alloc (.cells (u8s ask).toArray 34)) (W.heap.size + 1) (by omega))
  rw [hs0] at K0
  clear hs0
  go_enter Try.func6, Try.ntmps6
  go_wp2_with (first
    | (go_at_call 11; refine K0.out.mono ?_; rintro e w1 ⟨rfl, hx1, hB1⟩; have hst := PAt.start HB0.out HS0.out HRN.out (by rw [HS0.out]; exact hx1) (by rw [HS0.out]; exact hB1); rw [HS0.out] at hst; have HST := Lib.hid hst; have hld0 := load_digest h32 hst.ask; clear hst hx1 hB1)
    | (refine wpList_load_want rfl 34 _ rfl _ _ rfl hld0 ?_)
    | (go_at_call 18; refine (stands_calls _ _ _ _ _ _ ask h32 _ HST.out.side).mono ?_; rintro e w3 ⟨rfl, hB3⟩))
  obtain ⟨bR, hbR⟩ : ∃ bR, w1.heap.size = bR := ⟨_, rfl⟩
  rw [hbR] at HST
  rw [hbR]
  have H3 := Lib.hid (HST.out.below hB3)
  clear HST hB3 hld0 K0 HB0 HRN HS0 hbR
  go_loopw [5, 7] (fun xp i wr => ∃ (j px : Nat), j ≤ acts.length ∧ xp = .pointer (some ⟨px, 0, none⟩) ∧ i = .int .i64 (j : Int) ∧ Hid (∃ (x : IxT) (vi vn : Value) (items : List Item) (ns : List Nat), x.p = px ∧ items.length ≤ j ∧ PAt W W.heap.size bR ask x vi vn items ns wr)) (fun _ i _ => acts.length - (intOf i).toNat)
  case atStart => exact ⟨0, _, by omega, rfl, rfl, Lib.hid ⟨_, _, _, _, _, rfl, by simp, H3.out⟩⟩
  case round =>
    obtain ⟨j, px, hj, rfl, rfl, HX⟩ := hrel
    clear H3
    by_cases hlt : j < acts.length
    · obtain ⟨x, vi, vn, items, ns, hpx, hil, hP⟩ := HX.out
      clear HX
      obtain ⟨d32, g, o, hA, hra⟩ := (HD.out.below hP.bel).at_ j hlt
      subst hA
      have hcl := act_clones d32 hra
      rcases hq : acts[j] with ⟨d, place, cl⟩
      rw [hq] at d32 hra hcl
      simp only at d32 hcl
      have HQ := Lib.hid hq
      have HP := Lib.hid hP
      have HPX := Lib.hid hpx
      have HRA := Lib.hid hra
      have KC := Lib.hid (cloneT x (W.heap.size + 1) wr hP.side.at_ (by have := hP.ltR; have := hP.geR; omega) hP.side.good.ne)
      rw [hpx] at KC
      have j0 : (0 : Int) ≤ (j : Int) := Int.natCast_nonneg _
      have j1 : (j : Int) < (acts.length : Int) := by omega
      clear hq hpx hra hP
      rcases cl with _ | _
      · go_wp2_with fail
        have hraC := Lib.hid ((HD.out.below HP.out.bel).at_ j hlt |> fun ⟨_, g', o', e1, e2⟩ => (show wr.rangeAt g (o + j * 34) (actL (d, place, false)) by cases e1; rw [HQ.out] at e2; exact e2))
        have hpl := act_place (a := (d, place, false)) d32 hraC.out
        simp only at hpl
        have LA := Lib.hid (fun w' (hq : ∃ n, w' = wr.drewN n) => (show (Instr.loadAt 34 (.pointer (some ⟨g, o + j * 34, none⟩))).run Try.prog w' = .ok (.agg (u8s d).toArray) w' by obtain ⟨n, rfl⟩ := hq; exact load_digest d32 (rangeAt_drewN (act_digest (a := (d, place, false)) d32 hraC.out) n)))
        have KP := Lib.hid (fun nq => play_add (HP.out.below (below_drewN (Below.refl _ _) nq)) d d32 place (by omega))
        refine wp_region_quiet_tail 11 (by kernel_rfl) (by kernel_rfl) ?_
        simp only [List.take_succ_cons, List.take_zero, List.drop_succ_cons, List.drop_zero]
        go_big_quiet_step (fail)
        go_big_quiet_step (fail)
        go_big_quiet_step (fail)
        go_big_quiet_step (fail)
        go_big_quiet_step (fail)
        refine wpQuiet_load rfl _ _ rfl _ _ rfl LA.out ?_
        simp only [Act.put, List.setIfInBounds_toArray, List.set_cons_zero, List.set_cons_succ]
        repeat (go_big_quiet_step (fail))
        refine wpQuiet_nil ?_
        intro _ hw'; obtain ⟨nq, hw''⟩ := hw'; subst hw''
        obtain ⟨code, items', ns', hil', KA, KB⟩ := KP.out nq
        rw [HPX.out] at KA
        have HKA := Lib.hid KA; have HKB := Lib.hid KB
        clear KA KB KP LA hpl
        go_wp2_with (first | (go_at_call 12; refine HKA.out.mono ?_; rintro e wd ⟨rfl, z, hz, hM, hgz, hlz⟩; have HM := Lib.hid hM; have HG := Lib.hid (And.intro hz (And.intro hgz hlz)); clear hM hz hgz hlz))
        have hraD := Lib.hid ((HD.out.below HM.out.bel).at_ j hlt |> fun ⟨_, g', o', e1, e2⟩ => (show wd.rangeAt g (o + j * 34) (actL (d, place, false)) by cases e1; rw [HQ.out] at e2; exact e2))
        have hpl2 := act_place (a := (d, place, false)) d32 hraD.out
        simp only at hpl2
        have LA2 := Lib.hid (fun w' (hq : ∃ n, w' = wd.drewN n) => (show (Instr.loadAt 34 (.pointer (some ⟨g, o + j * 34, none⟩))).run Try.prog w' = .ok (.agg (u8s d).toArray) w' by obtain ⟨n, rfl⟩ := hq; exact load_digest d32 (rangeAt_drewN (act_digest (a := (d, place, false)) d32 hraD.out) n)))
        have LR2 := Lib.hid (fun w' (hq : ∃ n, w' = wd.drewN n) => (show (Instr.loadAt 54 (.pointer (some ⟨bR, 0, none⟩))).run Try.prog w' = .ok (.agg #[vi, vn]) w' by obtain ⟨n, rfl⟩ := hq; exact load_ref (cell_below (below_drewN (Below.refl _ _) n) HM.out.r0) (cell_below (below_drewN (Below.refl _ _) n) HM.out.r1)))
        refine wp_region_noPanic ?_
        refine wp_region_quiet_mix (C := fun w' => ∃ n, w' = wd.drewN n) 11 [11, 12] [14] [13, 15, 16] (by kernel_rfl) (by kernel_rfl) (fun _ _ _ _ h => h) ⟨1, rfl⟩ ?_
        simp only [opsL, List.getElem?_cons_zero, List.getElem?_cons_succ, Option.toList_some, List.singleton_append]
        simp only [List.take_succ_cons, List.take_zero, List.drop_succ_cons, List.drop_zero]
        refine wpQuiet_load rfl _ _ rfl _ _ rfl LR2.out ?_
        simp only [Act.put, List.setIfInBounds_toArray, List.set_cons_zero, List.set_cons_succ]
        go_big_quiet_step (fail)
        go_big_quiet_step (fail)
        go_big_quiet_step (fail)
        go_big_quiet_step (fail)
        refine wpQuiet_load rfl _ _ rfl _ _ rfl LA2.out ?_
        simp only [Act.put, List.setIfInBounds_toArray, List.set_cons_zero, List.set_cons_succ]
        repeat (go_big_quiet_step (fail))
        refine wpQuiet_nil ?_
        intro _ hw'; obtain ⟨nr, hw''⟩ := hw'; subst hw''
        have HMn := Lib.hid (HM.out.below (below_drewN (Below.refl _ _) nr))
        clear LA2 LR2 hpl2
        generalize wd.drewN nr = we at *
        go_wp2_with (first | (go_at_call 19; refine (HKB.out z we HMn.out).mono ?_; rintro e wf ⟨vi', vn', rfl, hBf, hRf, hNf⟩; have HRF := Lib.hid hRf; have HNF := Lib.hid hNf; obtain ⟨A5, c5, e5, -, -⟩ := hRf.itm.form; subst e5; obtain ⟨A6, c6, e6, -, -⟩ := row_form hRf.runs; subst e6; have HMF := Lib.hid (HMn.out.below hBf); have s0 := HMF.out.r0; have s1 := HMF.out.r1; have s2 := HMF.out.f0; have s3 := HMF.out.f1; clear hRf hNf))
        simp only [NormK]
        refine takes_run rfl (.int .i64 code) (fun w' => by go_simp) ?_
        simp only [wpTk, Act.put, List.setIfInBounds_toArray, List.set_cons_zero, List.set_cons_succ]
        go_wp2_with fail
        obtain ⟨n5, hn5⟩ : ∃ n5, items'.length = n5 := ⟨_, rfl⟩
        obtain ⟨n6, hn6⟩ : ∃ n6, ns'.length = n6 := ⟨_, rfl⟩
        have HPF := Lib.hid (HMn.out.put hBf HRF.out HNF.out HG.out.2.1 HG.out.2.2)
        clear s0 s1 s2 s3 hBf HNF HMF HRF HKB HKA
        generalize (wf.setCell ⟨bR, 0, none⟩ (.slice A5 items'.length c5)).setCell ⟨bR, 1, none⟩ (.slice A6 ns'.length c6) = wg at *
        rw [hn5, hn6] at *
        have hraF := (HD.out.below HPF.out.bel).at_ j hlt |> fun ⟨_, g', o', e1, e2⟩ => (show wg.rangeAt g (o + j * 34) (actL (d, place, false)) by cases e1; rw [HQ.out] at e2; exact e2)
        have KS1 := Lib.hid (fun w' (hw : Below wg.heap.size wg w') => (show Calls Try.prog 18 #[.pointer (some ⟨px, 0, none⟩), .agg #[.slice A5 n5 c5, .slice A6 n6 c6], .agg (u8s ask).toArray] w' fun e w'' => e = .returned (.bool true) ∧ Below wg.heap.size wg w'' from by
          rw [← HG.out.1]
          exact (stands_calls z _ _ _ _ _ ask h32 w' (HPF.out.side.below hw)).mono fun _ _ ⟨h1, h2⟩ => ⟨h1, hw.trans (h2.mono hw.size)⟩))
        have KS2 := Lib.hid (fun w' (hw : Below wg.heap.size wg w') => (show Calls Try.prog 18 #[.pointer (some ⟨px, 0, none⟩), .agg #[.slice A5 n5 c5, .slice A6 n6 c6], .agg (u8s d).toArray] w' fun e w'' => e = .returned (.bool true) ∧ Below wg.heap.size wg w'' from by
          rw [← HG.out.1]
          exact (stands_calls z _ _ _ _ _ d d32 w' (HPF.out.side.below hw)).mono fun _ _ ⟨h1, h2⟩ => ⟨h1, hw.trans (h2.mono hw.size)⟩))
        simp only [NoPanic]
        go_wp2_with fail
        refine wp_region_litC (C := fun w' => Below wg.heap.size wg w') (below_drew1 wg) (by kernel_rfl) (by kernel_rfl) ?_
        refine wpQuiet_run (by rfl) (.int .i64 code) (fun w' hw => run_op_move _ rfl _ (by rfl) w') ?_
        simp only [Act.put, List.setIfInBounds_toArray, List.set_cons_zero, List.set_cons_succ]
        refine wpQuiet_run (by rfl) (.int .i64 code) (fun w' hw => run_op_move _ rfl _ (by rfl) w') ?_
        simp only [Act.put, List.setIfInBounds_toArray, List.set_cons_zero, List.set_cons_succ]
        refine wpQuiet_run (by rfl) (.bool false) (fun w' hw => by go_simp) ?_
        simp only [Act.put, List.setIfInBounds_toArray, List.set_cons_zero, List.set_cons_succ]
        refine wpQuiet_run (by rfl) (.bool false) (fun w' hw => run_op_move _ rfl _ (by rfl) w') ?_
        simp only [Act.put, List.setIfInBounds_toArray, List.set_cons_zero, List.set_cons_succ]
        refine wpQuiet_run (by rfl) (.pointer (some ⟨px, 0, none⟩)) (fun w' hw => run_op_move _ rfl _ (by rfl) w') ?_
        simp only [Act.put, List.setIfInBounds_toArray, List.set_cons_zero, List.set_cons_succ]
        refine wpQuiet_run (by rfl) (.agg #[.slice A5 n5 c5, .slice A6 n6 c6]) (fun w' hw => run_op_load _ _ rfl _ _ (by rfl) w' (load_ref (cell_below hw HPF.out.r0) (cell_below hw HPF.out.r1))) ?_
        simp only [Act.put, List.setIfInBounds_toArray, List.set_cons_zero, List.set_cons_succ]
        refine wpQuiet_run (by rfl) (.agg (u8s ask).toArray) (fun w' hw => run_op_load _ _ rfl _ _ (by rfl) w' (load_digest h32 (rangeAt_below HPF.out.ask hw))) ?_
        simp only [Act.put, List.setIfInBounds_toArray, List.set_cons_zero, List.set_cons_succ]
        refine wpQuiet_call (by rfl) _ _ (.bool true) (fun w' hw => by go_simp) (fun w' hw => KS1.out w' hw) ?_
        simp only [Act.put, List.setIfInBounds_toArray, List.set_cons_zero, List.set_cons_succ]
        refine wpQuiet_run (by rfl) (.bool false) (fun w' hw => by go_simp) ?_
        simp only [Act.put, List.setIfInBounds_toArray, List.set_cons_zero, List.set_cons_succ]
        refine wpQuiet_run (by rfl) (.bool false) (fun w' hw => by go_simp) ?_
        simp only [Act.put, List.setIfInBounds_toArray, List.set_cons_zero, List.set_cons_succ]
        refine wpQuiet_run (by rfl) (.bool false) (fun w' hw => run_op_move _ rfl _ (by rfl) w') ?_
        simp only [Act.put, List.setIfInBounds_toArray, List.set_cons_zero, List.set_cons_succ]
        refine wpQuiet_run (by rfl) (.pointer (some ⟨px, 0, none⟩)) (fun w' hw => run_op_move _ rfl _ (by rfl) w') ?_
        simp only [Act.put, List.setIfInBounds_toArray, List.set_cons_zero, List.set_cons_succ]
        refine wpQuiet_run (by rfl) (.agg #[.slice A5 n5 c5, .slice A6 n6 c6]) (fun w' hw => run_op_load _ _ rfl _ _ (by rfl) w' (load_ref (cell_below hw HPF.out.r0) (cell_below hw HPF.out.r1))) ?_
        simp only [Act.put, List.setIfInBounds_toArray, List.set_cons_zero, List.set_cons_succ]
        refine wpQuiet_run (by rfl) (.slice (some ⟨g, o, none⟩) acts.length c) (fun w' hw => run_op_move _ rfl _ (by rfl) w') ?_
        simp only [Act.put, List.setIfInBounds_toArray, List.set_cons_zero, List.set_cons_succ]
        refine wpQuiet_run (by rfl) (.int .i64 (j : Int)) (fun w' hw => run_op_move _ rfl _ (by rfl) w') ?_
        simp only [Act.put, List.setIfInBounds_toArray, List.set_cons_zero, List.set_cons_succ]
        refine wpQuiet_run (by rfl) (.pointer (some ⟨g, o + j * 34, none⟩)) (fun w' hw => by go_simp) ?_
        simp only [Act.put, List.setIfInBounds_toArray, List.set_cons_zero, List.set_cons_succ]
        refine wpQuiet_run (by rfl) (.pointer (some ⟨g, o + j * 34, none⟩)) (fun w' hw => by go_simp) ?_
        simp only [Act.put, List.setIfInBounds_toArray, List.set_cons_zero, List.set_cons_succ]
        refine wpQuiet_run (by rfl) (.agg (u8s d).toArray) (fun w' hw => run_op_load _ _ rfl _ _ (by rfl) w' (load_digest d32 (act_digest (a := (d, place, false)) d32 (rangeAt_below hraF hw)))) ?_
        simp only [Act.put, List.setIfInBounds_toArray, List.set_cons_zero, List.set_cons_succ]
        refine wpQuiet_call (by rfl) _ _ (.bool true) (fun w' hw => by go_simp) (fun w' hw => KS2.out w' hw) ?_
        simp only [Act.put, List.setIfInBounds_toArray, List.set_cons_zero, List.set_cons_succ]
        refine wpQuiet_run (by rfl) (.bool false) (fun w' hw => by go_simp) ?_
        simp only [Act.put, List.setIfInBounds_toArray, List.set_cons_zero, List.set_cons_succ]
        refine wpQuiet_run (by rfl) (.bool false) (fun w' hw => by go_simp) ?_
        simp only [Act.put, List.setIfInBounds_toArray, List.set_cons_zero, List.set_cons_succ]
        refine wpQuiet_nil ?_
        intro wh hwh
        have HPH := Lib.hid (HPF.out.below hwh)
        go_wp2_with fail
        go_roundw
        case rel => exact ⟨j + 1, px, by omega, rfl, by go_num, Lib.hid ⟨z, _, _, _, _, HG.out.1, by omega, HPH.out⟩⟩
        case measure => simp [intOf]; omega
      · go_wp2_with (go_at_call 17; refine KC.out.mono ?_; rintro e wc ⟨y, rfl, y1, y2, y3, y4, y5, hBc⟩; have HPc := Lib.hid (HP.out.clone y1 y2 y3 y4 y5 hBc); obtain ⟨py, hpy⟩ : ∃ py, y.p = py := ⟨_, rfl⟩; rw [hpy]; have HPY := Lib.hid hpy; clear y1 y2 y3 y4 y5 hpy)
        have hraC := Lib.hid ((HD.out.below HPc.out.bel).at_ j hlt |> fun ⟨_, g', o', e1, e2⟩ => (show wc.rangeAt g (o + j * 34) (actL (d, place, true)) by cases e1; rw [HQ.out] at e2; exact e2))
        have hpl := act_place (a := (d, place, true)) d32 hraC.out
        simp only at hpl
        have LA := Lib.hid (fun w' (hq : ∃ n, w' = wc.drewN n) => (show (Instr.loadAt 34 (.pointer (some ⟨g, o + j * 34, none⟩))).run Try.prog w' = .ok (.agg (u8s d).toArray) w' by obtain ⟨n, rfl⟩ := hq; exact load_digest d32 (rangeAt_drewN (act_digest (a := (d, place, true)) d32 hraC.out) n)))
        have KP := Lib.hid (fun nq => play_add (HPc.out.below (below_drewN (Below.refl _ _) nq)) d d32 place (by omega))
        refine wp_region_quiet_tail 11 (by kernel_rfl) (by kernel_rfl) ?_
        simp only [List.take_succ_cons, List.take_zero, List.drop_succ_cons, List.drop_zero]
        go_big_quiet_step (fail)
        go_big_quiet_step (fail)
        go_big_quiet_step (fail)
        go_big_quiet_step (fail)
        go_big_quiet_step (fail)
        refine wpQuiet_load rfl _ _ rfl _ _ rfl LA.out ?_
        simp only [Act.put, List.setIfInBounds_toArray, List.set_cons_zero, List.set_cons_succ]
        repeat (go_big_quiet_step (fail))
        refine wpQuiet_nil ?_
        intro _ hw'; obtain ⟨nq, hw''⟩ := hw'; subst hw''
        obtain ⟨code, items', ns', hil', KA, KB⟩ := KP.out nq
        rw [HPY.out] at KA
        have HKA := Lib.hid KA; have HKB := Lib.hid KB
        clear KA KB KP LA hpl
        go_wp2_with (first | (go_at_call 12; refine HKA.out.mono ?_; rintro e wd ⟨rfl, z, hz, hM, hgz, hlz⟩; have HM := Lib.hid hM; have HG := Lib.hid (And.intro hz (And.intro hgz hlz)); clear hM hz hgz hlz))
        have hraD := Lib.hid ((HD.out.below HM.out.bel).at_ j hlt |> fun ⟨_, g', o', e1, e2⟩ => (show wd.rangeAt g (o + j * 34) (actL (d, place, true)) by cases e1; rw [HQ.out] at e2; exact e2))
        have hpl2 := act_place (a := (d, place, true)) d32 hraD.out
        simp only at hpl2
        have LA2 := Lib.hid (fun w' (hq : ∃ n, w' = wd.drewN n) => (show (Instr.loadAt 34 (.pointer (some ⟨g, o + j * 34, none⟩))).run Try.prog w' = .ok (.agg (u8s d).toArray) w' by obtain ⟨n, rfl⟩ := hq; exact load_digest d32 (rangeAt_drewN (act_digest (a := (d, place, true)) d32 hraD.out) n)))
        have LR2 := Lib.hid (fun w' (hq : ∃ n, w' = wd.drewN n) => (show (Instr.loadAt 54 (.pointer (some ⟨bR, 0, none⟩))).run Try.prog w' = .ok (.agg #[vi, vn]) w' by obtain ⟨n, rfl⟩ := hq; exact load_ref (cell_below (below_drewN (Below.refl _ _) n) HM.out.r0) (cell_below (below_drewN (Below.refl _ _) n) HM.out.r1)))
        refine wp_region_noPanic ?_
        refine wp_region_quiet_mix (C := fun w' => ∃ n, w' = wd.drewN n) 11 [11, 12] [14] [13, 15, 16] (by kernel_rfl) (by kernel_rfl) (fun _ _ _ _ h => h) ⟨1, rfl⟩ ?_
        simp only [opsL, List.getElem?_cons_zero, List.getElem?_cons_succ, Option.toList_some, List.singleton_append]
        simp only [List.take_succ_cons, List.take_zero, List.drop_succ_cons, List.drop_zero]
        refine wpQuiet_load rfl _ _ rfl _ _ rfl LR2.out ?_
        simp only [Act.put, List.setIfInBounds_toArray, List.set_cons_zero, List.set_cons_succ]
        go_big_quiet_step (fail)
        go_big_quiet_step (fail)
        go_big_quiet_step (fail)
        go_big_quiet_step (fail)
        refine wpQuiet_load rfl _ _ rfl _ _ rfl LA2.out ?_
        simp only [Act.put, List.setIfInBounds_toArray, List.set_cons_zero, List.set_cons_succ]
        repeat (go_big_quiet_step (fail))
        refine wpQuiet_nil ?_
        intro _ hw'; obtain ⟨nr, hw''⟩ := hw'; subst hw''
        have HMn := Lib.hid (HM.out.below (below_drewN (Below.refl _ _) nr))
        clear LA2 LR2 hpl2
        generalize wd.drewN nr = we at *
        go_wp2_with (first | (go_at_call 19; refine (HKB.out z we HMn.out).mono ?_; rintro e wf ⟨vi', vn', rfl, hBf, hRf, hNf⟩; have HRF := Lib.hid hRf; have HNF := Lib.hid hNf; obtain ⟨A5, c5, e5, -, -⟩ := hRf.itm.form; subst e5; obtain ⟨A6, c6, e6, -, -⟩ := row_form hRf.runs; subst e6; have HMF := Lib.hid (HMn.out.below hBf); have s0 := HMF.out.r0; have s1 := HMF.out.r1; have s2 := HMF.out.f0; have s3 := HMF.out.f1; clear hRf hNf))
        simp only [NormK]
        refine takes_run rfl (.int .i64 code) (fun w' => by go_simp) ?_
        simp only [wpTk, Act.put, List.setIfInBounds_toArray, List.set_cons_zero, List.set_cons_succ]
        go_wp2_with fail
        obtain ⟨n5, hn5⟩ : ∃ n5, items'.length = n5 := ⟨_, rfl⟩
        obtain ⟨n6, hn6⟩ : ∃ n6, ns'.length = n6 := ⟨_, rfl⟩
        have HPF := Lib.hid (HMn.out.put hBf HRF.out HNF.out HG.out.2.1 HG.out.2.2)
        clear s0 s1 s2 s3 hBf HNF HMF HRF HKB HKA
        generalize (wf.setCell ⟨bR, 0, none⟩ (.slice A5 items'.length c5)).setCell ⟨bR, 1, none⟩ (.slice A6 ns'.length c6) = wg at *
        rw [hn5, hn6] at *
        have hraF := (HD.out.below HPF.out.bel).at_ j hlt |> fun ⟨_, g', o', e1, e2⟩ => (show wg.rangeAt g (o + j * 34) (actL (d, place, true)) by cases e1; rw [HQ.out] at e2; exact e2)
        have KS1 := Lib.hid (fun w' (hw : Below wg.heap.size wg w') => (show Calls Try.prog 18 #[.pointer (some ⟨py, 0, none⟩), .agg #[.slice A5 n5 c5, .slice A6 n6 c6], .agg (u8s ask).toArray] w' fun e w'' => e = .returned (.bool true) ∧ Below wg.heap.size wg w'' from by
          rw [← HG.out.1]
          exact (stands_calls z _ _ _ _ _ ask h32 w' (HPF.out.side.below hw)).mono fun _ _ ⟨h1, h2⟩ => ⟨h1, hw.trans (h2.mono hw.size)⟩))
        have KS2 := Lib.hid (fun w' (hw : Below wg.heap.size wg w') => (show Calls Try.prog 18 #[.pointer (some ⟨py, 0, none⟩), .agg #[.slice A5 n5 c5, .slice A6 n6 c6], .agg (u8s d).toArray] w' fun e w'' => e = .returned (.bool true) ∧ Below wg.heap.size wg w'' from by
          rw [← HG.out.1]
          exact (stands_calls z _ _ _ _ _ d d32 w' (HPF.out.side.below hw)).mono fun _ _ ⟨h1, h2⟩ => ⟨h1, hw.trans (h2.mono hw.size)⟩))
        simp only [NoPanic]
        go_wp2_with fail
        refine wp_region_litC (C := fun w' => Below wg.heap.size wg w') (below_drew1 wg) (by kernel_rfl) (by kernel_rfl) ?_
        refine wpQuiet_run (by rfl) (.int .i64 code) (fun w' hw => run_op_move _ rfl _ (by rfl) w') ?_
        simp only [Act.put, List.setIfInBounds_toArray, List.set_cons_zero, List.set_cons_succ]
        refine wpQuiet_run (by rfl) (.int .i64 code) (fun w' hw => run_op_move _ rfl _ (by rfl) w') ?_
        simp only [Act.put, List.setIfInBounds_toArray, List.set_cons_zero, List.set_cons_succ]
        refine wpQuiet_run (by rfl) (.bool false) (fun w' hw => by go_simp) ?_
        simp only [Act.put, List.setIfInBounds_toArray, List.set_cons_zero, List.set_cons_succ]
        refine wpQuiet_run (by rfl) (.bool false) (fun w' hw => run_op_move _ rfl _ (by rfl) w') ?_
        simp only [Act.put, List.setIfInBounds_toArray, List.set_cons_zero, List.set_cons_succ]
        refine wpQuiet_run (by rfl) (.pointer (some ⟨py, 0, none⟩)) (fun w' hw => run_op_move _ rfl _ (by rfl) w') ?_
        simp only [Act.put, List.setIfInBounds_toArray, List.set_cons_zero, List.set_cons_succ]
        refine wpQuiet_run (by rfl) (.agg #[.slice A5 n5 c5, .slice A6 n6 c6]) (fun w' hw => run_op_load _ _ rfl _ _ (by rfl) w' (load_ref (cell_below hw HPF.out.r0) (cell_below hw HPF.out.r1))) ?_
        simp only [Act.put, List.setIfInBounds_toArray, List.set_cons_zero, List.set_cons_succ]
        refine wpQuiet_run (by rfl) (.agg (u8s ask).toArray) (fun w' hw => run_op_load _ _ rfl _ _ (by rfl) w' (load_digest h32 (rangeAt_below HPF.out.ask hw))) ?_
        simp only [Act.put, List.setIfInBounds_toArray, List.set_cons_zero, List.set_cons_succ]
        refine wpQuiet_call (by rfl) _ _ (.bool true) (fun w' hw => by go_simp) (fun w' hw => KS1.out w' hw) ?_
        simp only [Act.put, List.setIfInBounds_toArray, List.set_cons_zero, List.set_cons_succ]
        refine wpQuiet_run (by rfl) (.bool false) (fun w' hw => by go_simp) ?_
        simp only [Act.put, List.setIfInBounds_toArray, List.set_cons_zero, List.set_cons_succ]
        refine wpQuiet_run (by rfl) (.bool false) (fun w' hw => by go_simp) ?_
        simp only [Act.put, List.setIfInBounds_toArray, List.set_cons_zero, List.set_cons_succ]
        refine wpQuiet_run (by rfl) (.bool false) (fun w' hw => run_op_move _ rfl _ (by rfl) w') ?_
        simp only [Act.put, List.setIfInBounds_toArray, List.set_cons_zero, List.set_cons_succ]
        refine wpQuiet_run (by rfl) (.pointer (some ⟨py, 0, none⟩)) (fun w' hw => run_op_move _ rfl _ (by rfl) w') ?_
        simp only [Act.put, List.setIfInBounds_toArray, List.set_cons_zero, List.set_cons_succ]
        refine wpQuiet_run (by rfl) (.agg #[.slice A5 n5 c5, .slice A6 n6 c6]) (fun w' hw => run_op_load _ _ rfl _ _ (by rfl) w' (load_ref (cell_below hw HPF.out.r0) (cell_below hw HPF.out.r1))) ?_
        simp only [Act.put, List.setIfInBounds_toArray, List.set_cons_zero, List.set_cons_succ]
        refine wpQuiet_run (by rfl) (.slice (some ⟨g, o, none⟩) acts.length c) (fun w' hw => run_op_move _ rfl _ (by rfl) w') ?_
        simp only [Act.put, List.setIfInBounds_toArray, List.set_cons_zero, List.set_cons_succ]
        refine wpQuiet_run (by rfl) (.int .i64 (j : Int)) (fun w' hw => run_op_move _ rfl _ (by rfl) w') ?_
        simp only [Act.put, List.setIfInBounds_toArray, List.set_cons_zero, List.set_cons_succ]
        refine wpQuiet_run (by rfl) (.pointer (some ⟨g, o + j * 34, none⟩)) (fun w' hw => by go_simp) ?_
        simp only [Act.put, List.setIfInBounds_toArray, List.set_cons_zero, List.set_cons_succ]
        refine wpQuiet_run (by rfl) (.pointer (some ⟨g, o + j * 34, none⟩)) (fun w' hw => by go_simp) ?_
        simp only [Act.put, List.setIfInBounds_toArray, List.set_cons_zero, List.set_cons_succ]
        refine wpQuiet_run (by rfl) (.agg (u8s d).toArray) (fun w' hw => run_op_load _ _ rfl _ _ (by rfl) w' (load_digest d32 (act_digest (a := (d, place, true)) d32 (rangeAt_below hraF hw)))) ?_
        simp only [Act.put, List.setIfInBounds_toArray, List.set_cons_zero, List.set_cons_succ]
        refine wpQuiet_call (by rfl) _ _ (.bool true) (fun w' hw => by go_simp) (fun w' hw => KS2.out w' hw) ?_
        simp only [Act.put, List.setIfInBounds_toArray, List.set_cons_zero, List.set_cons_succ]
        refine wpQuiet_run (by rfl) (.bool false) (fun w' hw => by go_simp) ?_
        simp only [Act.put, List.setIfInBounds_toArray, List.set_cons_zero, List.set_cons_succ]
        refine wpQuiet_run (by rfl) (.bool false) (fun w' hw => by go_simp) ?_
        simp only [Act.put, List.setIfInBounds_toArray, List.set_cons_zero, List.set_cons_succ]
        refine wpQuiet_nil ?_
        intro wh hwh
        have HPH := Lib.hid (HPF.out.below hwh)
        go_wp2_with fail
        go_roundw
        case rel => exact ⟨j + 1, py, by omega, rfl, by go_num, Lib.hid ⟨z, _, _, _, _, HG.out.1, by omega, HPH.out⟩⟩
        case measure => simp [intOf]; omega
    · have hja : j = acts.length := by omega
      obtain ⟨x, vi, vn, items, ns, hpx, hil, hP⟩ := HX.out
      have HB := Lib.hid hP.bel
      clear hP
      go_wp2_with (first | (go_at_call 20; refine (names_calls _).mono ?_; rintro e wn ⟨rfl, rfl⟩))
      go_ret
      exact ⟨rfl, HB.out⟩
end Go.Proofs.Ythgjecofmnomfaa
