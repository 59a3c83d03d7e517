/- WALK of hash's State.take where a rest lies. No statement of the seed is proved here. WALKS of hash.words and of what makes a State. No statement of the seed is proved here. WALKS of hash's New, none, Clone, Write, Sum of a State. No statement of the seed is proved here. WALK of hash's Sum of a State. No statement of the seed is proved here. WALKS of hash.Sum, tree.of and tree.Leaf. No statement of the seed is proved here. WALKS of tree.of and tree.Leaf. No statement of the seed is proved here. -/
import Derived.Test.YthgjecofmnomfaaDoorShaJ
namespace Go.Proofs.YthgjecofmnomfaaDoor
open Go.RowKit
set_option maxRecDepth 100000
theorem overN_shift (s : S8) (m : List UInt8) : ∀ j, overN s m (j + 1) = overN (compress s (m.take 64)) (m.drop 64) j
  | 0 => by rw [overN_succ, overN_zero, overN_zero]; rfl
  | j + 1 => by
    rw [overN_succ s m (j + 1), overN_shift s m j, overN_succ _ _ j]
    congr 1
    unfold blkAt
    rw [List.drop_drop]
    congr 2
    omega
theorem over_join (s : S8) (bb l2 : List UInt8) (h : bb.length = 64) : overN s (bb ++ l2) ((bb ++ l2).length / 64) = overN (compress s bb) l2 (l2.length / 64) ∧ (bb ++ l2).drop (64 * ((bb ++ l2).length / 64)) = l2.drop (64 * (l2.length / 64)) := by
  have e2 : (bb ++ l2).length / 64 = l2.length / 64 + 1 := by rw [List.length_append, h]; omega
  have t1 : (bb ++ l2).take 64 = bb := List.take_left' h
  have t2 : (bb ++ l2).drop 64 = l2 := List.drop_left' h
  rw [e2, overN_shift, t1, t2]
  refine ⟨rfl, ?_⟩
  rw [show 64 * (l2.length / 64 + 1) = 64 + 64 * (l2.length / 64) by omega, ← List.drop_drop, t2]
theorem Bs.tailX {w0 : World} {A : Option Addr} {len c : Nat} {l : List UInt8} (h0 : Bs w0 (.slice A len c) l) (k : Nat) (a : Int) (ha : a = (k : Int)) (hi : k ≤ l.length) :
    ∃ A' c', (∀ W : World, (Instr.slice 23 (.slice A len c) (some (.int .i64 a)) Option.none Option.none).run Tryd.prog W = .ok (.slice A' (len - k) c') W) ∧
      (∀ w, Bs w (.slice A len c) l → Bs w (.slice A' (len - k) c') (l.drop k)) ∧ (∀ ad, A' = some ad → ∃ ad0, A = some ad0 ∧ ad0.block = ad.block) := by
  subst ha
  have hcl : len = l.length ∧ l.length ≤ c := by obtain ⟨A0, c0, e, h1, h2, h0, h3⟩ := h0; cases e; exact ⟨rfl, h1⟩
  refine ⟨if c = k then A else A.map (·.add k), c - k, fun W => ?_, fun w h => ?_, fun ad e => ?_⟩
  · have hel : Tryd.prog.elem 23 = 5 := by simp [Program.elem, Tryd.underlying23]
    have hu : Tryd.prog.underlying 23 = some (.slice (Tryd.prog.elem 23)) := by rw [hel]; exact Tryd.underlying23
    rw [run_slice_l (ht := hu) (h0 := by omega) (h1 := by omega), hel]
    obtain ⟨i0, hi0, hz, hsz, hby⟩ := info_parts info_u8
    simp [sizeOf, typeInfo, hi0, hsz, sliced, Result.andThen]
  · obtain ⟨A0, c0, e, h1, h2, h0, h3⟩ := h
    cases e
    have hlen : (l.drop k).length = l.length - k := by simp
    refine ⟨_, _, by rw [hlen], by rw [hlen]; omega, by omega, ?_, ?_⟩
    · intro hA
      cases A with
      | none => have := h0 rfl; omega
      | some ad => split at hA <;> cases hA
    · intro j u hj
      have hju : (u8s l)[k + j]? = some u := by
        rw [← hj]
        simp only [u8s, List.getElem?_map]
        rw [List.getElem?_drop]
      have hlt : k + j < l.length := by have := (List.getElem?_eq_some_iff.1 hju).1; rwa [u8s_length] at this
      obtain ⟨ad, hA, hc⟩ := h3 (k + j) u hju
      subst hA
      rw [if_neg (by omega)]
      exact ⟨ad.add k, rfl, by rw [add_add]; exact hc⟩
  · cases A with
    | none => split at e <;> cases e
    | some ad0 =>
      refine ⟨ad0, rfl, ?_⟩
      split at e
      · cases e; rfl
      · cases e; exact (addr_block _ _).symm
theorem OwnB.head {w : World} {B : Nat} {A : Option Addr} {n c : Nat} {l : List UInt8} (h : OwnB w B (.slice A n c) l) : OwnB w B (.slice A 0 c) [] := by
  obtain ⟨hl, ⟨e, h0⟩ | ⟨g, cap, cur, e, hb, hg, hn, hm, hs, ht⟩⟩ := h
  · cases e
    exact OwnB.nil _ _
  · cases e
    exact ⟨rfl, .inr ⟨g, c, cur, rfl, hb, hg, Nat.zero_le _, hm, hs, by simp [u8s]⟩⟩
set_option maxHeartbeats 8000000 in
/-- Where a rest lies that comes to a whole block. -/
theorem take_rest (p : Nat) (s : S8) (n : Int) (v : Value) (rest l : List UInt8) (W : World) (hT : LaidH W) (B : Nat) (hB : B ≤ p) (hBs : B ≤ W.heap.size) (vr : Value) (hst : Arr W p (stL s n vr)) (hvr : OwnB W B vr rest) (hr0 : 0 < rest.length) (hr64 : rest.length < 64) (hrl : 64 ≤ rest.length + l.length) (hrp : vr.ownBlock ≠ some p) (hv : Bs W v l) (hne : ∀ ad n c, v = .slice (some ad) n c → ad.block ≠ p ∧ vr.ownBlock ≠ some ad.block) (hlt : ∀ ad n c, v = .slice (some ad) n c → ad.block < W.heap.size) (hl : l.length ≤ 140737490000000) (hg : 2 < B) :
    Calls Tryd.prog 77 #[.pointer (some ⟨p, 0, none⟩), v] W fun e w' => ∃ vr', e = .returned (.tuple #[]) ∧ Arr w' p (stL (overN s (rest ++ l) ((rest ++ l).length / 64)) n vr') ∧ OwnB w' B vr' ((rest ++ l).drop (64 * ((rest ++ l).length / 64))) ∧ vr'.ownBlock ≠ some p ∧ Below B W w' := by
  obtain ⟨A, c, rfl, h1, h2, h3⟩ := hv.form
  obtain ⟨r, hr⟩ : ∃ r, rest.length = r := ⟨_, rfl⟩
  obtain ⟨Ar, cr, rfl, h4, h5, h6⟩ := hvr.form_n r hr
  have hk : 64 - r ≤ l.length := by omega
  obtain ⟨hh1, hh2⟩ := hv.head (64 - r) (64 - (r : Int)) (by omega) hk
  obtain ⟨At, ct, ht1, ht2, ht3⟩ := hv.tailX (64 - r) (64 - (r : Int)) (by omega) hk
  have HTT := Lib.hid (And.intro ht2 ht3)
  have hc0 := St.rest hst
  have hmin : min (64 - (r : Int)) (l.length : Int) = 64 - (r : Int) := by omega
  have HH := Lib.hid hh2
  have HTL := Lib.hid (And.intro hv (And.intro hne hlt))
  have HST := Lib.hid (And.intro hst hvr)
  have HT := Lib.hid hT
  have HRP := Lib.hid hrp
  have LR := Lib.hid (fun w' (hq : ∃ n, w' = W.drewN n) => (show (Instr.loadAt 23 (.pointer (some ⟨p, 10, none⟩))).run Tryd.prog w' = .ok (.slice Ar r cr) w' by
    obtain ⟨nn, rfl⟩ := hq
    have := St.rest (hst.below (below_drewN (Below.refl _ _) nn))
    go_simp))
  clear hh2 ht2 ht3 hv hne hlt hst hvr hT hrp
  go_enter Tryd.func77, Tryd.ntmps77
  go_wp2
  refine wp_region_noPanic ?_
  refine wp_region_quiet_from (C := fun w' => ∃ n, w' = W.drewN n) 1 8 (by kernel_rfl) (by kernel_rfl) (fun _ _ _ _ h => h) ⟨1, rfl⟩ ?_
  simp only [List.take_succ_cons, List.take_zero, List.drop_succ_cons, List.drop_zero, show List.range 1 = [0] from rfl, opsL, List.getElem?_cons_zero, Option.toList_some, List.singleton_append]
  refine ⟨.pointer (some ⟨p, 0, none⟩), .inl ⟨rfl, fun w' _ => by go_simp⟩, ?_⟩
  simp only [wpTk, Act.put, List.setIfInBounds_toArray, List.set_cons_zero, List.set_cons_succ]
  repeat (go_big_quiet_step (fail))
  refine wpQuiet_nil ?_
  intro _ hw'; obtain ⟨nq, hw''⟩ := hw'; subst hw''
  have hbq : Below W.heap.size W (W.drewN nq) := below_drewN (Below.refl _ _) nq
  have HX := Lib.hid (And.intro (HST.out.1.below hbq) (And.intro (HST.out.2.below hbq) (And.intro (HH.out.below hbq) (And.intro hbq hbq.size))))
  clear hbq LR hc0
  generalize W.drewN nq = w1 at *
  have tok1 : True := trivial
  have hplt : p < w1.heap.size := HX.out.1.lt (by rw [stL_length]; omega)
  obtain ⟨lk, hlk⟩ : ∃ lk, l.take (64 - r) = lk := ⟨_, rfl⟩
  rw [hlk] at HX
  have HLK := Lib.hid hlk
  have hlk64 : lk.length = 64 - r := by rw [← hlk]; simp; omega
  clear hlk HH
  go_wp2_with (first
    | (at_builtin; have _t := tok1; (refine app_u8 rfl _ _ rfl B _ rfl rest HX.out.2.1 _ rfl lk HX.out.2.2.1 ?_ ?_ ?_); (· omega); (· omega); clear tok1; intro v4 w4 ho4 hg4 hw4; have HA4 := Lib.hid (HX.out.1.grown (by rw [stL_length]; omega) hg4 HRP.out); have hc4 := St.rest HA4.out; have hf4 := HA4.out.frozen (i := 10) (by rw [stL_length]; omega); have HO4 := Lib.hid (show OwnB w4 B v4 (rest ++ lk) ∧ Below B W w4 ∧ (v4.ownBlock = (Value.slice Ar r cr).ownBlock ∨ v4.ownBlock = some w1.heap.size) ∧ w1.grownBy w4 (Value.slice Ar r cr).ownBlock from ⟨ho4, below_grown (HX.out.2.2.2.1.mono hBs) hg4 HX.out.2.1 (by omega), hw4, hg4⟩); obtain ⟨A4, c4, e4, _, _, _⟩ := ho4.form_n 64 (by simp; omega); subst e4; clear ho4 hg4 hw4))
  have HY := Lib.hid (show Arr (w4.setCell ⟨p, 10, none⟩ (.slice A4 64 c4)) p (stL s n (.slice A4 64 c4)) ∧ OwnB (w4.setCell ⟨p, 10, none⟩ (.slice A4 64 c4)) B (.slice A4 64 c4) (rest ++ lk) ∧ Bs (w4.setCell ⟨p, 10, none⟩ (.slice A4 64 c4)) (.slice A l.length c) l ∧ (Value.slice A4 64 c4).ownBlock ≠ some p ∧ (∀ ad n' c', (Value.slice A l.length c) = .slice (some ad) n' c' → ad.block ≠ p ∧ (Value.slice A4 64 c4).ownBlock ≠ some ad.block) ∧ Below B W (w4.setCell ⟨p, 10, none⟩ (.slice A4 64 c4)) by
    have hop : (Value.slice A4 64 c4).ownBlock ≠ some p := by
      rcases HO4.out.2.2.1 with e | e
      · rw [e]; exact HRP.out
      · rw [e]; intro e2; have := Option.some.inj e2; omega
    have hnv : ∀ ad n' c', (Value.slice A l.length c) = .slice (some ad) n' c' → ad.block ≠ p ∧ (Value.slice A4 64 c4).ownBlock ≠ some ad.block := fun ad n' c' e => by
      obtain ⟨q1, q2⟩ := HTL.out.2.1 ad n' c' e
      have q3 := HTL.out.2.2 ad n' c' e
      refine ⟨q1, ?_⟩
      rcases HO4.out.2.2.1 with e1 | e1
      · rw [e1]; exact q2
      · rw [e1]; intro e2; have := Option.some.inj e2; have := HX.out.2.2.2.2; omega
    refine ⟨St.setRest HA4.out _, HO4.out.1.kept (grown_setCell _ _ _ _) ?_, ?_, hop, hnv, HO4.out.2.1.setCell (p := ⟨p, 10, none⟩) hB _⟩
    · cases hq' : (Value.slice A4 64 c4).ownBlock with
      | none => exact .inl rfl
      | some kk => exact .inr (fun e2 => hop (by rw [hq', e2]))
    · have b1 := HTL.out.1.below HX.out.2.2.2.1
      have b2 : Bs w4 (.slice A l.length c) l := by
        cases hq' : (Value.slice Ar r cr).ownBlock with
        | none =>
          have hgg := HO4.out.2.2.2
          rw [hq'] at hgg
          exact b1.grown (g := w1.heap.size) ⟨hgg.os, hgg.tape, hgg.output, hgg.size, fun k hk _ => hgg.block k hk (by simp)⟩ (fun ad n' c' e => by have := HTL.out.2.2 ad n' c' e; have := HX.out.2.2.2.2; omega)
        | some kk =>
          have hgg := HO4.out.2.2.2
          rw [hq'] at hgg
          exact b1.grown hgg (fun ad n' c' e => fun e2 => (HTL.out.2.1 ad n' c' e).2 (by rw [hq', e2]))
      exact b2.grown (grown_setCell _ _ _ _) (fun ad n' c' e => (HTL.out.2.1 ad n' c' e).1))
  clear HO4 HA4 hc4 hf4 HX HST HTL
  generalize w4.setCell ⟨p, 10, none⟩ (.slice A4 64 c4) = w5 at *
  have hcc := St.rest HY.out.1
  have hplt5 : p < w5.heap.size := HY.out.1.lt (by rw [stL_length]; omega)
  simp only [NoPanic]
  go_wp2
  have hcat : (rest ++ lk).length = 64 := by simp; omega
  obtain ⟨bb, hbb⟩ : ∃ bb, rest ++ lk = bb := ⟨_, rfl⟩
  rw [hbb] at HY hcat
  have HBB := Lib.hid hbb
  clear hbb
  obtain ⟨g0, o0, rfl, hld⟩ := block_of_bs HY.out.2.1.bs (by omega)
  rw [List.take_of_length_le (by omega)] at hld
  have LA := Lib.hid (fun w' (hq : ∃ n, w' = w5.drewN n) => (show (Instr.loadAt 115 (.pointer (some ⟨p, 1, none⟩))).run Tryd.prog w' = .ok (.agg (u32s s.l).toArray) w' by obtain ⟨n, rfl⟩ := hq; exact St.load (HY.out.1.below (below_drewN (Below.refl _ _) n))))
  have LB := Lib.hid (fun w' (hq : ∃ n, w' = w5.drewN n) => (show (Instr.loadAt 127 (.pointer (some ⟨g0, o0, none⟩))).run Tryd.prog w' = .ok (.agg (u8s bb).toArray) w' by
    obtain ⟨n, rfl⟩ := hq
    obtain ⟨g', o', e, h⟩ := block_of_bs (HY.out.2.1.bs.below (below_drewN (Below.refl _ _) n)) (by omega)
    cases e
    rw [List.take_of_length_le (by omega)] at h
    exact h))
  have hat : ∀ W : World, (Instr.arrayAt 127 (.slice (some ⟨g0, o0, none⟩) 64 c4)).run Tryd.prog W = .ok (.pointer (some ⟨g0, o0, none⟩)) W := fun W => run_arrayAt (P := Tryd.prog) W 127 5 64 _ 64 c4 Tryd.underlying127 (Nat.le_refl _)
  refine wp_region_noPanic ?_
  refine wp_region_quiet_from (C := fun w' => ∃ n, w' = w5.drewN n) 1 11 (by kernel_rfl) (by kernel_rfl) (fun _ _ _ _ h => h) ⟨1, rfl⟩ ?_
  simp only [List.take_succ_cons, List.take_zero, List.drop_succ_cons, List.drop_zero, show List.range 1 = [0] from rfl, opsL, List.getElem?_cons_zero, Option.toList_some, List.singleton_append]
  refine ⟨.pointer (some ⟨p, 0, none⟩), .inl ⟨rfl, fun w' _ => by go_simp⟩, ?_⟩
  simp only [wpTk, Act.put, List.setIfInBounds_toArray, List.set_cons_zero, List.set_cons_succ]
  go_big_quiet_step (fail)
  go_big_quiet_step (fail)
  go_big_quiet_step (fail)
  refine wpQuiet_ld rfl _ _ rfl _ _ rfl LA.out ?_
  simp only [Act.put, List.setIfInBounds_toArray, List.set_cons_zero, List.set_cons_succ]
  go_big_quiet_step (fail)
  go_big_quiet_step (fail)
  go_big_quiet_step (fail)
  go_big_quiet_step (fail)
  go_big_quiet_step (fail)
  refine wpQuiet_ld rfl _ _ rfl _ _ rfl LB.out ?_
  simp only [Act.put, List.setIfInBounds_toArray, List.set_cons_zero, List.set_cons_succ]
  refine wpQuiet_nil ?_
  intro _ hw'; obtain ⟨nr, hw''⟩ := hw'; subst hw''
  have hbq2 : Below w5.heap.size w5 (w5.drewN nr) := below_drewN (Below.refl _ _) nr
  have hBw5 : B ≤ w5.heap.size := Nat.le_trans hBs HY.out.2.2.2.2.2.size
  have KC := Lib.hid (compress_calls s bb hcat (w5.drewN nr) (HT.out.belowB hg (HY.out.2.2.2.2.2.trans (hbq2.mono hBw5))))
  have HX := Lib.hid (And.intro (HY.out.1.below hbq2) (And.intro (HY.out.2.1.below hbq2) (And.intro (HY.out.2.2.1.below hbq2) (HY.out.2.2.2.2.2.trans (hbq2.mono hBw5)))))
  have HYY := Lib.hid (And.intro HY.out.2.2.2.1 HY.out.2.2.2.2.1)
  clear hbq2 LA LB hat hld HY hcc
  generalize w5.drewN nr = w6 at *
  go_wp2_with (first
    | (go_at_call 84; refine KC.out.mono ?_; rintro e w7 ⟨rfl, hB2⟩; have HZ := Lib.hid (And.intro (HX.out.1.below hB2) (And.intro (HX.out.2.1.below hB2) (And.intro (HX.out.2.2.1.below hB2) (HX.out.2.2.2.trans (hB2.mono (Nat.le_trans hBs HX.out.2.2.2.size)))))); clear hB2; have HST := Lib.hid (St.store HZ.out.1 (compress s bb)))
    | (refine wpList_store_run rfl 115 _ _ rfl _ _ rfl rfl _ HST.out ?_; simp only [Act.put]))
  have HW := Lib.hid (show Arr (w7.setCells p 1 (u32s (compress s bb).l)) p (stL (compress s bb) n (.slice (some ⟨g0, o0, none⟩) 64 c4)) ∧ OwnB (w7.setCells p 1 (u32s (compress s bb).l)) B (.slice (some ⟨g0, o0, none⟩) 64 c4) bb ∧ Bs (w7.setCells p 1 (u32s (compress s bb).l)) (.slice A l.length c) l ∧ Below B W (w7.setCells p 1 (u32s (compress s bb).l)) from
    ⟨St.setH HZ.out.1 _, HZ.out.2.1.off p 1 _ HYY.out.1 (HZ.out.1.lt (by rw [stL_length]; omega)), HZ.out.2.2.1.off p 1 _ (fun ad n' c' e => (HYY.out.2 ad n' c' e).1), below_setCells HZ.out.2.2.2 p 1 hB _⟩)
  clear HX HZ KC HST
  obtain ⟨s2, hs2⟩ : ∃ s2, compress s bb = s2 := ⟨_, rfl⟩
  have HS2 := Lib.hid hs2
  simp only [hs2] at HW ⊢
  clear hs2
  generalize w7.setCells p 1 (u32s s2.l) = w8 at *
  have hcc := St.rest HW.out.1
  have hcf := HW.out.1.frozen (i := 10) (by rw [stL_length]; omega)
  obtain ⟨l2, hl2⟩ : ∃ l2, l.drop (64 - r) = l2 := ⟨_, rfl⟩
  have hl2l : l.length - (64 - r) = l2.length := by rw [← hl2]; simp
  have HEQ := Lib.hid (show overN s (rest ++ l) ((rest ++ l).length / 64) = overN s2 l2 (l2.length / 64) ∧ (rest ++ l).drop (64 * ((rest ++ l).length / 64)) = l2.drop (64 * (l2.length / 64)) by
    have e1 : rest ++ l = bb ++ l2 := by rw [← HBB.out, List.append_assoc, ← hl2, ← HLK.out, List.take_append_drop]
    rw [e1, ← HS2.out]
    exact over_join s bb l2 hcat)
  have hl2m : l2.length ≤ 140737490000000 := by omega
  have H0 := Lib.hid (show Arr (w8.setCell ⟨p, 10, none⟩ (.slice (some ⟨g0, o0, none⟩) 0 c4)) p (stL s2 n (.slice (some ⟨g0, o0, none⟩) 0 c4)) ∧ OwnB (w8.setCell ⟨p, 10, none⟩ (.slice (some ⟨g0, o0, none⟩) 0 c4)) B (.slice (some ⟨g0, o0, none⟩) 0 c4) [] ∧ Bs (w8.setCell ⟨p, 10, none⟩ (.slice (some ⟨g0, o0, none⟩) 0 c4)) (.slice At l2.length ct) l2 ∧ (∀ ad n c, (Value.slice At l2.length ct) = .slice (some ad) n c → ad.block ≠ p ∧ (Value.slice (some ⟨g0, o0, none⟩) 0 c4).ownBlock ≠ some ad.block) ∧ Below B W (w8.setCell ⟨p, 10, none⟩ (.slice (some ⟨g0, o0, none⟩) 0 c4)) by
    refine ⟨St.setRest HW.out.1 _, HW.out.2.1.head.kept (grown_setCell _ _ _ _) ?_, ?_, fun ad n' c' e => ?_, HW.out.2.2.2.setCell (p := ⟨p, 10, none⟩) hB _⟩
    · exact .inr (fun e2 => HYY.out.1 e2)
    · have b1 := HW.out.2.2.1.grown (grown_setCell w8 p 10 (.slice (some ⟨g0, o0, none⟩) 0 c4)) (fun ad n' c' e => (HYY.out.2 ad n' c' e).1)
      have b2 := HTT.out.1 _ b1
      rw [hl2, hl2l] at b2
      exact b2
    · cases e
      obtain ⟨ad0, e0, e1⟩ := HTT.out.2 _ rfl
      subst e0
      have := HYY.out.2 ad0 l.length c rfl
      rw [e1] at this
      exact this)
  have HRP2 := Lib.hid (show (Value.slice (some ⟨g0, o0, none⟩) 0 c4).ownBlock ≠ some p from HYY.out.1)
  have HL2 := Lib.hid (And.intro hl2 hl2l)
  simp only [NoPanic]
  clear hl2
  rw [hl2l] at *
  go_wp2
  clear hcc hcf
  go_loopw [1] (fun r wr => ∃ (k : Nat) (v : Value), 64 * k ≤ l2.length ∧ v = r ∧ Hid (Arr wr p (stL (overN s2 l2 k) n (.slice (some ⟨g0, o0, none⟩) 0 c4)) ∧ OwnB wr B (.slice (some ⟨g0, o0, none⟩) 0 c4) [] ∧ Bs wr v (l2.drop (64 * k)) ∧ (∀ ad n c, v = .slice (some ad) n c → ad.block ≠ p ∧ (Value.slice (some ⟨g0, o0, none⟩) 0 c4).ownBlock ≠ some ad.block) ∧ Below B W wr)) (fun v _ => lenSl v)
  case atStart => exact ⟨0, _, by omega, rfl, by rw [overN_zero]; exact H0⟩
  case round =>
    obtain ⟨k, v, hk, rfl, HB⟩ := hrel
    clear H0
    obtain ⟨m, hm⟩ : ∃ m, l2.drop (64 * k) = m := ⟨_, rfl⟩
    have HM := Lib.hid (show m.take 64 = blkAt l2 k ∧ m.drop 64 = l2.drop (64 * (k + 1)) by subst hm; exact ⟨rfl, by rw [List.drop_drop]; congr 1⟩)
    have hml : m.length = l2.length - 64 * k := by rw [← hm]; simp
    have HMM := Lib.hid hm
    rw [hm] at HB
    clear hm
    obtain ⟨q, hq⟩ : ∃ q, m.length = q := ⟨_, rfl⟩
    obtain ⟨A1, c1, rfl, h7, h8, h9⟩ := HB.out.2.2.1.form_n q hq
    have HN := Lib.hid (And.intro hq (hq.symm.trans hml))
    clear hq hml
    by_cases hlt : 64 ≤ q
    · have hml : 64 ≤ m.length := by have := HN.out.1; omega
      obtain ⟨g, o, rfl, hld⟩ := block_of_bs HB.out.2.2.1 hml
      rw [HM.out.1] at hld
      have hb64 : (blkAt l2 k).length = 64 := by rw [← HM.out.1]; simp; omega
      have HCE := Lib.hid (overN_succ s2 l2 k)
      obtain ⟨b, hb⟩ : ∃ b, blkAt l2 k = b := ⟨_, rfl⟩
      rw [hb] at hld hb64 HCE HM
      clear hb
      obtain ⟨s1, hs1⟩ : ∃ s1, overN s2 l2 k = s1 := ⟨_, rfl⟩
      rw [hs1] at HB HCE
      clear hs1
      have LA := Lib.hid (fun w' (hq : ∃ n, w' = wr.drewN n) => (show (Instr.loadAt 115 (.pointer (some ⟨p, 1, none⟩))).run Tryd.prog w' = .ok (.agg (u32s s1.l).toArray) w' by obtain ⟨n, rfl⟩ := hq; exact St.load (HB.out.1.below (below_drewN (Below.refl _ _) n))))
      have LB := Lib.hid (fun w' (hq : ∃ n, w' = wr.drewN n) => (show (Instr.loadAt 127 (.pointer (some ⟨g, o, none⟩))).run Tryd.prog w' = .ok (.agg (u8s b).toArray) w' by
        obtain ⟨n, rfl⟩ := hq
        obtain ⟨g', o', e, h⟩ := block_of_bs (HB.out.2.2.1.below (below_drewN (Below.refl _ _) n)) hml
        cases e
        rw [HM.out.1] at h
        exact h))
      clear hld
      go_wp2
      have hat : ∀ W : World, (Instr.arrayAt 127 (.slice (some ⟨g, o, none⟩) q c1)).run Tryd.prog W = .ok (.pointer (some ⟨g, o, none⟩)) W := fun W => run_arrayAt (P := Tryd.prog) W 127 5 64 _ q c1 Tryd.underlying127 hlt
      refine wp_region_noPanic ?_
      refine wp_region_quiet_from (C := fun w' => ∃ n, w' = wr.drewN n) 1 8 (by kernel_rfl) (by kernel_rfl) (fun _ _ _ _ h => h) ⟨1, rfl⟩ ?_
      simp only [List.take_succ_cons, List.take_zero, List.drop_succ_cons, List.drop_zero, show List.range 1 = [0] from rfl, opsL, List.getElem?_cons_zero, Option.toList_some, List.singleton_append]
      refine ⟨.pointer (some ⟨p, 0, none⟩), .inl ⟨rfl, fun w' _ => by go_simp⟩, ?_⟩
      simp only [wpTk, Act.put, List.setIfInBounds_toArray, List.set_cons_zero, List.set_cons_succ]
      go_big_quiet_step (fail)
      go_big_quiet_step (fail)
      go_big_quiet_step (fail)
      refine wpQuiet_ld rfl _ _ rfl _ _ rfl LA.out ?_
      simp only [Act.put, List.setIfInBounds_toArray, List.set_cons_zero, List.set_cons_succ]
      go_big_quiet_step (fail)
      go_big_quiet_step (fail)
      refine wpQuiet_ld rfl _ _ rfl _ _ rfl LB.out ?_
      simp only [Act.put, List.setIfInBounds_toArray, List.set_cons_zero, List.set_cons_succ]
      refine wpQuiet_nil ?_
      intro _ hw'; obtain ⟨nq, hw''⟩ := hw'; subst hw''
      have hbq : Below wr.heap.size wr (wr.drewN nq) := below_drewN (Below.refl _ _) nq
      have KC := Lib.hid (compress_calls s1 b hb64 (wr.drewN nq) (HT.out.belowB hg (HB.out.2.2.2.2.trans (hbq.mono (by have := HB.out.2.2.2.2.size; omega)))))
      have HX2 := Lib.hid (And.intro (HB.out.1.below hbq) (And.intro (HB.out.2.1.below hbq) (And.intro (HB.out.2.2.1.below hbq) (HB.out.2.2.2.2.trans (hbq.mono (by have := HB.out.2.2.2.2.size; omega))))))
      clear hbq LA LB
      generalize wr.drewN nq = w1 at *
      go_wp2_with (first
        | (go_at_call 84; refine KC.out.mono ?_; rintro e w2 ⟨rfl, hB2⟩; have HY2 := Lib.hid (And.intro (HX2.out.1.below hB2) (And.intro (HX2.out.2.1.below hB2) (And.intro (HX2.out.2.2.1.below hB2) (HX2.out.2.2.2.trans (hB2.mono (by have := HX2.out.2.2.2.size; omega)))))); clear hB2; have HST2 := Lib.hid (St.store HY2.out.1 (compress s1 b)))
        | (refine wpList_store_run rfl 115 _ _ rfl _ _ rfl rfl _ HST2.out ?_; simp only [Act.put]))
      have hgp := HB.out.2.2.2.1 ⟨g, o, none⟩ q c1 rfl
      simp only [NoPanic]
      go_wp2
      go_roundw
      case rel => exact ⟨k + 1, _, by have := HN.out.2; omega, rfl, Lib.hid ⟨by rw [HCE.out]; exact St.setH HY2.out.1 _, HY2.out.2.1.off p 1 _ HRP2.out (HY2.out.1.lt (by rw [stL_length]; omega)), by rw [← HM.out.2]; exact (HY2.out.2.2.1.tailV 64 hml).off p 1 _ (fun ad n' c' e => by
        have hb : ad.block = g := by split at e <;> (cases e; rfl)
        rw [hb]; exact hgp.1), fun ad n' c' e => by
        have hb : ad.block = g := by split at e <;> (cases e; rfl)
        rw [hb]; exact hgp, below_setCells HY2.out.2.2.2 p 1 hB _⟩⟩
      case measure => simp [lenSl]; have := HN.out.2; omega
    · have hr0 := St.rest HB.out.1
      have hfr := HB.out.1.frozen (i := 10) (by rw [stL_length]; omega)
      have HK2 := Lib.hid (show l2.length / 64 = k by have := HN.out.2; omega)
      have tok1 : True := trivial
      have hplt : p < wr.heap.size := HB.out.1.lt (by rw [stL_length]; omega)
      have hq64 : q ≤ 140737490000000 := by have := HN.out.2; omega
      go_wp2_with (first
        | (at_builtin; have _t := tok1; (refine app_u8 rfl _ _ rfl B _ rfl [] HB.out.2.1 _ rfl m HB.out.2.2.1 ?_ ?_ ?_); (· have := HN.out.1; simp; omega); (· have := HB.out.2.2.2.2.size; omega); clear tok1; intro v6 w6 ho6 hg6 hw6; have HQ4 := Lib.hid (HB.out.1.grown (by rw [stL_length]; omega) hg6 HRP2.out); have hc6 := St.rest HQ4.out; have hf6 := HQ4.out.frozen (i := 10) (by rw [stL_length]; omega); have HP4 := Lib.hid (And.intro ho6 (And.intro (below_grown HB.out.2.2.2.2 hg6 HB.out.2.1 (by have := HB.out.2.2.2.2.size; omega)) hw6)); obtain ⟨A6, c6, e6, _, _, _⟩ := ho6.form_n q (by have := HN.out.1; simp; omega); subst e6; clear ho6 hg6 hw6))
      have HP5 := Lib.hid (show OwnB (w6.setCell ⟨p, 10, none⟩ (.slice A6 q c6)) B (.slice A6 q c6) m ∧ Below B W (w6.setCell ⟨p, 10, none⟩ (.slice A6 q c6)) by
        refine ⟨?_, HP4.out.2.1.setCell (p := ⟨p, 10, none⟩) hB _⟩
        have ho := HP4.out.1
        rw [List.nil_append] at ho
        refine ho.kept (grown_setCell _ _ _ _) ?_
        rcases HP4.out.2.2 with e | e
        · cases hq' : (Value.slice A6 q c6).ownBlock with
          | none => exact .inl rfl
          | some kk => exact .inr (fun e2 => HRP2.out (by rw [← e2, ← hq', e]; rfl))
        · exact .inr (by rw [e]; intro e2; have := Option.some.inj e2; omega))
      refine bodyPost_end (results_none rfl _ _ _) rfl ?_
      refine ⟨_, rfl, by rw [HEQ.out.1, HK2.out]; exact St.setRest HQ4.out _, by rw [HEQ.out.2, HK2.out, HMM.out]; exact HP5.out.1, by
        rcases HP4.out.2.2 with e | e
        · rw [e]; exact HRP2.out
        · rw [e]; intro e2; have := Option.some.inj e2; omega, HP5.out.2⟩
end Go.Proofs.YthgjecofmnomfaaDoor
namespace Go.Proofs.YthgjecofmnomfaaDoor
open Go.RowKit
set_option maxRecDepth 100000
theorem byte4 (x : Nat) : be 4 x = [UInt8.ofNat (x / 256 ^ 3 % 256), UInt8.ofNat (x / 256 ^ 2 % 256), UInt8.ofNat (x / 256 ^ 1 % 256), UInt8.ofNat (x / 256 ^ 0 % 256)] := rfl
theorem run_index8 (l : List Int) (k : Nat) (x : Int) (hx : (u32s l)[k]? = some (.int .u32 x)) (hk : k < 8) (w : World) : (Instr.index 115 (.agg (u32s l).toArray) (.int .i64 (k : Int))).run Tryd.prog w = .ok (.int .u32 x) w := by
  obtain ⟨i, hi, hs⟩ : ∃ i, Tryd.prog.info? 22 = some i ∧ i.size = 1 := Option.map_eq_some_iff.1 (show (Tryd.prog.info? 22).map (·.size) = some 1 by kernel_rfl)
  have hz : (sizeOf 22).run Tryd.prog w = .ok 1 w := by rw [run_sizeOf _ hi]; simp [Program.cellsOf, hi, hs]
  have h8 : (k : Int) < 8 := by omega
  simp [Instr.index, asIntOf, run_underlying Tryd.underlying115, h8, hz, hk, Go.part, isAgg, run_underlying Tryd.underlying22, hx, Sem.run_bind]
set_option maxHeartbeats 2000000 in
theorem words_calls (s : S8) (hr : Rng s) (W : World) :
    Calls Tryd.prog 80 #[.agg (u32s s.l).toArray] W fun e w' => ∃ v', e = .returned v' ∧ OwnB w' (W.heap.size + 1) v' (wordsOf s) ∧ Below W.heap.size W w' := by
  have H0 := Lib.hid (And.intro (Arr.new W (u32s s.l) 115) (below_alloc1 W (.cells (u32s s.l).toArray 115)))
  have z0 : (W.alloc (.cells (u32s s.l).toArray 115)).heap.size = W.heap.size + 1 := by simp
  have HL := Lib.hid (H0.out.1.load (P := Tryd.prog) (ty := 115) Tryd.underlying115 rfl info_8w)
  go_enter Tryd.func80, Tryd.ntmps80
  go_wp2_with (refine wpList_load_run rfl 115 _ rfl _ _ rfl HL.out ?_; simp only [Act.put, List.setIfInBounds_toArray, List.set_cons_zero, List.set_cons_succ])
  go_loopw [3, 7] (fun r i wr => ∃ (k : Nat) (v : Value), k ≤ 8 ∧ i = .int .i64 (k : Int) ∧ v = r ∧ Hid (OwnB wr (W.heap.size + 1) v ((s.l.map fun x => be 4 x.toNat).take k).flatten ∧ Below (W.heap.size + 1) (W.alloc (.cells (u32s s.l).toArray 115)) wr)) (fun _ i _ => 8 - (intOf i).toNat)
  case atStart => exact ⟨0, _, by omega, rfl, rfl, OwnB.nil _ _, by rw [← z0]; exact Below.refl _ _⟩
  case round =>
    obtain ⟨k, v, hk, rfl, rfl, HB⟩ := hrel
    clear z0 HL
    by_cases hlt : k < 8
    · have hx := hr (s.l[k]?.getD 0) (by rw [List.getElem?_eq_getElem (show k < s.l.length from hlt)]; exact List.getElem_mem _)
      have hix : (u32s s.l)[k]? = some (.int .u32 (s.l[k]?.getD 0)) := S8.get s k hlt
      have HT := Lib.hid (show ((s.l.map fun x => be 4 x.toNat).take (k + 1)).flatten = ((s.l.map fun x => be 4 x.toNat).take k).flatten ++ be 4 (s.l[k]?.getD 0).toNat by
        rw [flat_take_succ _ k (by simp; exact hlt)]
        rw [List.getElem?_eq_getElem (show k < s.l.length from hlt)]
        simp)
      generalize s.l[k]?.getD 0 = x at *
      obtain ⟨n, rfl⟩ : ∃ n : Nat, x = (n : Int) := ⟨x.toNat, by omega⟩
      have hn : n < 4294967296 := by omega
      rw [Int.toNat_natCast, byte4] at HT
      have e3 : (n : Int) / 16777216 = ((UInt8.ofNat (n / 256 ^ 3 % 256)).toNat : Int) := by rw [UInt8.toNat_ofNat', Nat.mod_mod_of_dvd _ (by decide)]; omega
      have e2 : (n : Int) / 65536 % 256 = ((UInt8.ofNat (n / 256 ^ 2 % 256)).toNat : Int) := by rw [UInt8.toNat_ofNat', Nat.mod_mod_of_dvd _ (by decide)]; omega
      have e1 : (n : Int) / 256 % 256 = ((UInt8.ofNat (n / 256 ^ 1 % 256)).toNat : Int) := by rw [UInt8.toNat_ofNat', Nat.mod_mod_of_dvd _ (by decide)]; omega
      have e0 : (n : Int) % 256 = ((UInt8.ofNat (n / 256 ^ 0 % 256)).toNat : Int) := by rw [UInt8.toNat_ofNat', Nat.mod_mod_of_dvd _ (by decide)]; omega
      generalize UInt8.ofNat (n / 256 ^ 3 % 256) = y3 at *
      generalize UInt8.ofNat (n / 256 ^ 2 % 256) = y2 at *
      generalize UInt8.ofNat (n / 256 ^ 1 % 256) = y1 at *
      generalize UInt8.ofNat (n / 256 ^ 0 % 256) = y0 at *
      have hin := run_index8 s.l k n hix hlt
      have tok1 : True := trivial
      have HFL := Lib.hid (show ((s.l.map fun x => be 4 x.toNat).take k).flatten.length ≤ 32 by
        have := flat_take_le (s.l.map fun x => be 4 x.toNat) k
        have h2 := wordsOf_length s
        unfold wordsOf at h2
        omega)
      have hws : W.heap.size + 1 ≤ wr.heap.size := by have := HB.out.2.size; simpa using this
      have HBS := Lib.hid (OwnB.fresh wr [y3, y2, y1, y0] [] 4 4 rfl rfl (by unfold maxLen; omega)).bs
      clear hx
      go_wp2_with (at_builtin; have _t := tok1; (refine app_u8 rfl _ _ rfl (W.heap.size + 1) _ rfl _ (HB.out.1.alloc _) _ rfl [y3, y2, y1, y0] HBS.out ?_ ?_ ?_); (· have := HFL.out; simp at this ⊢; omega); (· exact le_alloc hws _); clear tok1; intro v4 w4 ho4 hg4 _; have HB4 := Lib.hid (And.intro ho4 (below_grown (HB.out.2.alloc hws _) hg4 (HB.out.1.alloc _) (le_alloc hws _))); clear ho4 hg4)
      go_roundw
      case rel => exact ⟨k + 1, _, by omega, by go_num, rfl, Lib.hid (by rw [HT.out]; exact HB4.out)⟩
      case measure => simp [intOf]; omega
    · obtain rfl : k = 8 := by omega
      go_wp2
      go_ret
      exact ⟨_, rfl, HB.out.1, H0.out.2.trans (HB.out.2.mono (by omega))⟩
end Go.Proofs.YthgjecofmnomfaaDoor
namespace Go.Proofs.YthgjecofmnomfaaDoor
open Go.RowKit
set_option maxRecDepth 100000
theorem stnone_calls (p : Nat) (s : S8) (n : Int) (r : Value) (W : World) (h : Arr W p (stL s n r)) : Calls Tryd.prog 76 #[.pointer (some ⟨p, 0, none⟩)] W fun e w' => e = .returned (.bool false) ∧ w' = W := by
  have hm := St.made h
  clear h
  go_enter Tryd.func76, Tryd.ntmps76
  go_wp2
  go_ret
  exact ⟨rfl, rfl⟩
theorem info_state : (Tryd.prog.info? 130).map (·.size) = some 11 := by kernel_rfl
set_option maxHeartbeats 2000000 in
theorem stnew_calls (W : World) : Calls Tryd.prog 71 #[] W fun e w' => ∃ p, e = .returned (.pointer (some ⟨p, 0, none⟩)) ∧ W.heap.size ≤ p ∧ Arr w' p (stL beginS 0 (.slice none 0 0)) ∧ Below W.heap.size W w' := by
  go_enter Tryd.func71, Tryd.ntmps71
  go_wp2_with (go_at_call 75; refine (begin_calls _).mono ?_; rintro e w1 ⟨rfl, hB1⟩; have HB1 := Lib.hid hB1; clear hB1)
  go_ret
  exact ⟨_, rfl, HB1.out.size, Arr.new w1 (stL beginS 0 (.slice none 0 0)) 130, HB1.out.alloc HB1.out.size _⟩
theorem stL_one (s : S8) (n : Int) (A : Option Addr) (k c : Nat) : ∀ v ∈ stL s n (.slice A k c), v.oneCell' = true := by
  intro v hv
  simp only [stL, List.mem_append, List.mem_cons, List.not_mem_nil, or_false] at hv
  rcases hv with (rfl | h) | (rfl | rfl)
  · rfl
  · exact u32s_one _ v h
  · rfl
  · rfl
set_option maxHeartbeats 2000000 in
theorem stclone_calls (p : Nat) (s : S8) (n : Int) (r : Value) (rest : List UInt8) (W : World) (h : Arr W p (stL s n r)) (hr : Bs W r rest) (hl : rest.length ≤ 150000000000000) : Calls Tryd.prog 78 #[.pointer (some ⟨p, 0, none⟩)] W fun e w' => ∃ r', e = .returned (.pointer (some ⟨W.heap.size, 0, none⟩)) ∧ Arr w' W.heap.size (stL s n r') ∧ OwnB w' (W.heap.size + 1) r' rest ∧ Below W.heap.size W w' := by
  obtain ⟨A, c, rfl, -, -, -⟩ := hr.form
  have HL := Lib.hid (h.load (P := Tryd.prog) (ty := 130) Tryd.underlying130 rfl info_state)
  have hb := below_alloc1 W (.cells (stL s n (.slice A rest.length c)).toArray 130)
  have hn := Arr.new W (stL s n (.slice A rest.length c)) 130
  have hz : (W.alloc (.cells (stL s n (.slice A rest.length c)).toArray 130)).heap.size = W.heap.size + 1 := by simp
  have KC := Lib.hid (clone_calls _ rest (W.alloc (.cells (stL s n (.slice A rest.length c)).toArray 130)) (hr.below hb) hl)
  have HB := Lib.hid (And.intro hb (And.intro hn (And.intro hz (h.below hb))))
  have hrest := St.rest (h.below hb)
  clear hb hn hz hr
  go_enter Tryd.func78, Tryd.ntmps78
  go_wp2_with (first
    | (go_at_call 76; refine (stnone_calls p s n _ _ h).mono ?_; rintro e w1 ⟨rfl, rfl⟩)
    | (refine wpList_load_run rfl 130 _ rfl _ _ rfl HL.out ?_; simp only [Act.put, List.setIfInBounds_toArray, List.set_cons_zero, List.set_cons_succ])
    | (refine wpList_store_run rfl 130 _ _ rfl _ _ rfl rfl _ (run_storeAt_new (P := Tryd.prog) _ 130 _ _ info_state rfl (all_oneCell_toArray (stL_one _ _ _ _ _))) ?_; simp only [Act.put])
    | (go_at_call 35; refine KC.out.mono ?_; rintro e w2 ⟨r2, rfl, ho2, hB2⟩; obtain ⟨A2, c2, e2, _, _, _⟩ := ho2.form_n rest.length rfl; subst e2; have HN := Lib.hid (HB.out.2.1.below hB2); have hc2 := St.rest HN.out; have hf2 := HN.out.frozen (i := 10) (by rw [stL_length]; omega); have HO2 := Lib.hid (And.intro ho2 hB2); clear ho2 hB2))
  go_ret
  have hz := HB.out.2.2.1
  have ho := HO2.out.1
  rw [hz] at ho
  refine ⟨_, rfl, St.setRest HN.out _, ho.kept (grown_setCell _ _ _ _) ?_, (HB.out.1.trans (HO2.out.2.mono (by rw [hz]; omega))).setCell (Nat.le_refl _) _⟩
  cases hq : (Value.slice A2 rest.length c2).ownBlock with
  | none => exact .inl rfl
  | some k => exact .inr (fun e2 => by have e3 := Option.some.inj e2; have := (ho.lt k hq).1; omega)
set_option maxHeartbeats 2000000 in
theorem stwrite_calls (p : Nat) (s : S8) (v : Value) (l : List UInt8) (W : World) (hT : LaidH W) (B : Nat) (hB : B ≤ p) (hBs : B ≤ W.heap.size) (vr : Value) (hst : Arr W p (stL s 0 vr)) (hvr : OwnB W B vr []) (hrp : vr.ownBlock ≠ some p) (hv : Bs W v l) (hne : ∀ ad n c, v = .slice (some ad) n c → ad.block ≠ p ∧ vr.ownBlock ≠ some ad.block) (hl : l.length ≤ 140737490000000) (hg : 2 < B) :
    Calls Tryd.prog 72 #[.pointer (some ⟨p, 0, none⟩), v] W fun e w' => ∃ vr', e = .returned (.int .i64 0) ∧ Arr w' p (stL (overN s l (l.length / 64)) (l.length : Int) vr') ∧ OwnB w' B vr' (l.drop (64 * (l.length / 64))) ∧ vr'.ownBlock ≠ some p ∧ Below B W w' := by
  obtain ⟨A, c, rfl, h1, h2, h3⟩ := hv.form
  have hnum := St.num hst
  have KT := Lib.hid (take_none p s 0 (.slice A l.length c) l W hT B hB hBs vr hst hvr hrp hv hne hl hg)
  have HS := Lib.hid hst
  clear hst hvr hrp hv hne hT
  go_enter Tryd.func72, Tryd.ntmps72
  go_wp2_with (first
    | (go_at_call 76; refine (stnone_calls p s 0 vr _ HS.out).mono ?_; rintro e w1 ⟨rfl, rfl⟩)
    | (go_at_call 77; refine KT.out.mono ?_; rintro e w2 ⟨vr', rfl, ha, ho, hop, hb⟩; have HA := Lib.hid (And.intro ha (And.intro ho (And.intro hop hb))); have hn2 := St.num ha; have hf2 := ha.frozen (i := 9) (by rw [stL_length]; omega); clear ha ho hop hb))
  go_ret
  refine ⟨vr', rfl, St.setNum HA.out.1 _, HA.out.2.1.kept (grown_setCell _ _ _ _) ?_, HA.out.2.2.1, HA.out.2.2.2.setCell (p := ⟨p, 9, none⟩) hB _⟩
  cases hq : vr'.ownBlock with
  | none => exact .inl rfl
  | some k => exact .inr (fun e2 => HA.out.2.2.1 (by rw [hq, e2]))
end Go.Proofs.YthgjecofmnomfaaDoor
namespace Go.Proofs.YthgjecofmnomfaaDoor
open Go.RowKit
set_option maxRecDepth 100000
/-- What take leaves behind, whichever way: a rest and bytes that come to whole blocks. -/
theorem take_whole (p : Nat) (s : S8) (n : Int) (v : Value) (rest l : List UInt8) (W : World) (hT : LaidH W) (B : Nat) (hB : B ≤ p) (hBs : B ≤ W.heap.size) (vr : Value) (hst : Arr W p (stL s n vr)) (hvr : OwnB W B vr rest) (hr64 : rest.length < 64) (hrl : (rest.length + l.length) % 64 = 0) (hl0 : 0 < l.length) (hrp : vr.ownBlock ≠ some p) (hv : Bs W v l) (hne : ∀ ad n c, v = .slice (some ad) n c → ad.block ≠ p ∧ vr.ownBlock ≠ some ad.block) (hlt : ∀ ad n c, v = .slice (some ad) n c → ad.block < W.heap.size) (hl : l.length ≤ 140737490000000) (hg : 2 < B) :
    Calls Tryd.prog 77 #[.pointer (some ⟨p, 0, none⟩), v] W fun e w' => ∃ vr', e = .returned (.tuple #[]) ∧ Arr w' p (stL (over s (rest ++ l)) n vr') ∧ Below B W w' := by
  by_cases h0 : rest.length = 0
  · obtain rfl : rest = [] := List.eq_nil_of_length_eq_zero h0
    refine (take_none p s n v l W hT B hB hBs vr hst hvr hrp hv hne hl hg).mono ?_
    rintro e w' ⟨vr', rfl, h1, -, -, h2⟩
    exact ⟨vr', rfl, h1, h2⟩
  · refine (take_rest p s n v rest l W hT B hB hBs vr hst hvr (by omega) hr64 (by omega) hrp hv hne hlt hl hg).mono ?_
    rintro e w' ⟨vr', rfl, h1, -, -, h2⟩
    exact ⟨vr', rfl, h1, h2⟩
theorem overN_pre (s : S8) (l m : List UInt8) : ∀ k, 64 * k ≤ l.length → overN s (l ++ m) k = overN s l k
  | 0, _ => by rw [overN_zero, overN_zero]
  | k + 1, h => by
    rw [overN_succ, overN_succ, overN_pre s l m k (by omega)]
    congr 1
    unfold blkAt
    rw [List.drop_append_of_le_length (by omega), List.take_append_of_le_length (by simp; omega)]
/-- Whole blocks first, then the rest with what comes behind: the words are the same. -/
theorem over_split (s : S8) (l m : List UInt8) : over (overN s l (l.length / 64)) (l.drop (64 * (l.length / 64)) ++ m) = over s (l ++ m) := by
  have key : ∀ (k : Nat), 64 * k ≤ l.length → ∀ j, overN (overN s l k) (l.drop (64 * k) ++ m) j = overN s (l ++ m) (k + j) := by
    intro k hk j
    induction j with
    | zero => rw [overN_zero, Nat.add_zero, overN_pre s l m k hk]
    | succ j ih =>
      rw [overN_succ, ih, ← Nat.add_assoc, overN_succ]
      congr 1
      unfold blkAt
      rw [show 64 * (k + j) = 64 * k + 64 * j by omega, ← List.drop_drop, List.drop_append_of_le_length hk]
  unfold over
  rw [key _ (by omega)]
  congr 1
  simp only [List.length_append, List.length_drop]
  omega
theorem dig_of_bs {w : World} {A : Option Addr} {len c : Nat} {l : List UInt8} (h : Bs w (.slice A len c) l) (hl : l.length = 32) : ∃ g o, A = some ⟨g, o, none⟩ ∧ (Instr.loadAt 63 (.pointer (some ⟨g, o, none⟩))).run Tryd.prog w = .ok (.agg (u8s l).toArray) w ∧ (∀ W : World, (Instr.arrayAt 63 (.slice (some ⟨g, o, none⟩) 32 c)).run Tryd.prog W = .ok (.pointer (some ⟨g, o, none⟩)) W) := by
  obtain ⟨g, o, e, hr⟩ := h.cells 32 (by omega) (by omega)
  rw [List.take_of_length_le (by omega)] at hr
  exact ⟨g, o, e, run_loadAt_mid w g o 63 (u8s l) _ hr Tryd.underlying63 rfl (by rw [u8s_length, hl]; exact info_dig), fun W => run_arrayAt (P := Tryd.prog) W 63 5 32 _ 32 c Tryd.underlying63 (Nat.le_refl _)⟩
theorem stsum_take (W w2 w3 : World) (l : List UInt8) (vr2 vp : Value) (hl : l.length ≤ 140737480000000) (hT : LaidH w2) (hg : 2 < W.heap.size) (ha : Arr w2 (W.heap.size + 1) (stL (overN beginS l (l.length / 64)) (l.length : Int) vr2)) (ho : OwnB w2 (W.heap.size + 1 + 1) vr2 (l.drop (64 * (l.length / 64)))) (hdl : (l.drop (64 * (l.length / 64))).length < 64) (hs : W.heap.size + 1 < w2.heap.size) (hp : OwnB w3 w2.heap.size vp (pad l.length)) (hB : Below w2.heap.size w2 w3) :
    Calls Tryd.prog 77 #[.pointer (some ⟨W.heap.size + 1, 0, none⟩), vp] w3 fun e w' => ∃ vr', e = .returned (.tuple #[]) ∧ Arr w' (W.heap.size + 1) (stL (over beginS (l ++ pad l.length)) (l.length : Int) vr') ∧ Below (W.heap.size + 1) w3 w' := by
  have hpl := pad_length l.length
  have hpw := pad_whole l.length
  have hsz := hB.size
  have hpb : ∀ ad n c, vp = .slice (some ad) n c → w2.heap.size ≤ ad.block ∧ ad.block < w3.heap.size := fun ad n c e => hp.lt ad.block (by rw [e]; rfl)
  have := take_whole (W.heap.size + 1) (overN beginS l (l.length / 64)) (l.length : Int) vp (l.drop (64 * (l.length / 64))) (pad l.length) w3 (hT.below hB) (W.heap.size + 1) (Nat.le_refl _) (by omega) vr2 (ha.below hB) ((ho.below hB).lower (by omega)) hdl (by rw [List.length_drop]; omega) (by omega) (fun e => by have := (ho.lt _ e).1; omega) hp.bs (fun ad n c e => ⟨by have := (hpb ad n c e).1; omega, fun e2 => by have h1 := (ho.lt _ e2).2; have h2 := (hpb ad n c e).1; omega⟩) (fun ad n c e => (hpb ad n c e).2) (by omega) (by omega)
  rw [over_split] at this
  exact this
theorem stsum_arr (W w2 w3 w4 w5 : World) (h0 : Arr (W.alloc (.cells (u8s (List.replicate 32 0)).toArray 63)) W.heap.size (u8s (List.replicate 32 0))) (hz : (W.alloc (.cells (u8s (List.replicate 32 0)).toArray 63)).heap.size = W.heap.size + 1)
    (b2 : Below (W.alloc (.cells (u8s (List.replicate 32 0)).toArray 63)).heap.size (W.alloc (.cells (u8s (List.replicate 32 0)).toArray 63)) w2) (b3 : Below w2.heap.size w2 w3) (b4 : Below (W.heap.size + 1) w3 w4) (b5 : Below w4.heap.size w4 w5) : Arr w5 W.heap.size (u8s (List.replicate 32 0)) := by
  have a3 := (h0.below b2).below b3
  have a4 : Arr w4 W.heap.size (u8s (List.replicate 32 0)) := ⟨fun j v hv => (b4.cell (p := ⟨W.heap.size, 0 + j, none⟩) (Nat.lt_succ_self _)).trans (a3.rng j v hv), fun j hj => ⟨by rw [b4.cell (p := ⟨W.heap.size, 0 + j, none⟩) (Nat.lt_succ_self _)]; exact (a3.thr j hj).1, by rw [b4.frozen (p := ⟨W.heap.size, 0 + j, none⟩) (Nat.lt_succ_self _)]; exact (a3.thr j hj).2⟩⟩
  exact a4.below b5
theorem stsum_store (W w2 w3 w4 w5 : World) (l : List UInt8) (h0 : Arr (W.alloc (.cells (u8s (List.replicate 32 0)).toArray 63)) W.heap.size (u8s (List.replicate 32 0))) (hz : (W.alloc (.cells (u8s (List.replicate 32 0)).toArray 63)).heap.size = W.heap.size + 1)
    (b2 : Below (W.alloc (.cells (u8s (List.replicate 32 0)).toArray 63)).heap.size (W.alloc (.cells (u8s (List.replicate 32 0)).toArray 63)) w2) (b3 : Below w2.heap.size w2 w3) (b4 : Below (W.heap.size + 1) w3 w4) (b5 : Below w4.heap.size w4 w5) :
    (Instr.storeAt 63 (.pointer (some ⟨W.heap.size, 0, none⟩)) (.agg (u8s (wordsOf (over beginS (l ++ pad l.length)))).toArray)).run Tryd.prog w5 = .ok () (w5.setCells W.heap.size 0 (u8s (wordsOf (over beginS (l ++ pad l.length))))) :=
  (stsum_arr W w2 w3 w4 w5 h0 hz b2 b3 b4 b5).store (u8s (wordsOf (over beginS (l ++ pad l.length)))) (by rw [u8s_length, wordsOf_length]; rfl) info_dig (u8s_one _)
set_option maxHeartbeats 4000000 in
theorem stsum_calls (p : Nat) (l : List UInt8) (hl : l.length ≤ 140737480000000) (vr : Value) (W : World) (hT : LaidH W) (hg : 2 < W.heap.size) (hst : Arr W p (stL (overN beginS l (l.length / 64)) (l.length : Int) vr)) (hvr : Bs W vr (l.drop (64 * (l.length / 64)))) :
    Calls Tryd.prog 73 #[.pointer (some ⟨p, 0, none⟩)] W fun e w' => e = .returned (.agg (u8s (sha l)).toArray) ∧ Below W.heap.size W w' := by
  have b0 := below_alloc1 W (.cells (u8s (List.replicate 32 0)).toArray 63)
  have z0 : (W.alloc (.cells (u8s (List.replicate 32 0)).toArray 63)).heap.size = W.heap.size + 1 := by simp
  have H0 := Lib.hid (And.intro (Arr.new W (u8s (List.replicate 32 0)) 63) (And.intro b0 (And.intro z0 (And.intro (hst.below b0) (hvr.below b0)))))
  have HT := Lib.hid (hT.below b0)
  have hdl : (l.drop (64 * (l.length / 64))).length < 64 := by simp; omega
  clear b0 z0 hst hvr hT
  go_enter Tryd.func73, Tryd.ntmps73
  go_wp2_with (first
    | (go_at_call 76; refine (stnone_calls p _ _ vr _ H0.out.2.2.2.1).mono ?_; rintro e w1 ⟨rfl, rfl⟩)
    | (go_at_call 78; refine (stclone_calls p _ _ vr _ _ H0.out.2.2.2.1 H0.out.2.2.2.2 (by omega)).mono ?_; rintro e w2 ⟨vr2, rfl, ha2, ho2, hB2⟩; have H2 := Lib.hid (And.intro ha2 (And.intro ho2 (And.intro hB2 (And.intro (H0.out.1.below hB2) (H0.out.2.2.2.1.below hB2))))); have hn2 := St.num (H0.out.2.2.2.1.below hB2); clear ha2 ho2 hB2)
    | (go_at_call 79; refine (padding_calls l.length _ (by omega)).mono ?_; rintro e w3 ⟨vp, rfl, ho3, hB3⟩; have H3 := Lib.hid (And.intro ho3 hB3); have KT := Lib.hid (stsum_take W w2 w3 l vr2 vp hl (HT.out.below (H2.out.2.2.1)) hg (by rw [← H0.out.2.2.1]; exact H2.out.1) (by rw [← H0.out.2.2.1]; exact H2.out.2.1) hdl (by have h9 := H2.out.1.lt (by rw [stL_length]; omega); rw [H0.out.2.2.1] at h9; exact h9) ho3 hB3); clear ho3 hB3)
    | (go_at_call 77; refine KT.out.mono ?_; rintro e w4 ⟨vr4, rfl, ha4, hB4⟩; have H4 := Lib.hid (And.intro ha4 hB4); have HLD := Lib.hid (St.load ha4); clear ha4 hB4)
    | (refine wpList_load_run rfl 115 _ rfl _ _ rfl HLD.out ?_; simp only [Act.put, List.setIfInBounds_toArray, List.set_cons_zero, List.set_cons_succ])
    | (go_at_call 80; refine (words_calls _ (over_rng _ _ beginS_rng) _).mono ?_; rintro e w5 ⟨v5, rfl, ho5, hB5⟩; obtain ⟨A5, c5, e5, _, _, _⟩ := ho5.form_n 32 (wordsOf_length _); subst e5; obtain ⟨g5, o5, rfl, hld5, hat5⟩ := dig_of_bs ho5.bs (wordsOf_length _); have HL5 := Lib.hid hld5; have H5 := Lib.hid (And.intro ho5 hB5); clear ho5 hB5 hld5)
    | (refine wpList_load_run rfl 63 _ rfl _ _ rfl HL5.out ?_; simp only [Act.put, List.setIfInBounds_toArray, List.set_cons_zero, List.set_cons_succ])
    | (refine wpList_store_run rfl 63 _ _ rfl _ _ rfl rfl _ (stsum_store W w2 w3 w4 w5 l H0.out.1 H0.out.2.2.1 H2.out.2.2.1 H3.out.2 H4.out.2 H5.out.2) ?_; simp only [Act.put]))
  have HA := Lib.hid (stsum_arr W w2 w3 w4 w5 H0.out.1 H0.out.2.2.1 H2.out.2.2.1 H3.out.2 H4.out.2 H5.out.2)
  have hz := H0.out.2.2.1
  have s2 := H2.out.2.2.1.size
  have s3 := H3.out.2.size
  have s4 := H4.out.2.size
  have HBW := Lib.hid ((((H0.out.2.1.trans (H2.out.2.2.1.mono (by omega))).trans (H3.out.2.mono (by omega))).trans (H4.out.2.mono (by omega))).trans (H5.out.2.mono (by omega)))
  have hput := HA.out.put (u8s (wordsOf (over beginS (l ++ pad l.length)))) (by rw [u8s_length, wordsOf_length]; rfl)
  refine bodyPost_ret (results_arr Tryd.results73 _ hput rfl Tryd.underlying63 rfl (by rw [u8s_length, wordsOf_length]; exact info_dig)) rfl ⟨by unfold sha; rfl, below_setCells HBW.out W.heap.size 0 (Nat.le_refl _) _⟩
end Go.Proofs.YthgjecofmnomfaaDoor
namespace Go.Proofs.YthgjecofmnomfaaDoor
open Go.RowKit
set_option maxRecDepth 100000
theorem hsum_arr (W w1 w2 w3 : World) (h0 : Arr (W.alloc (.cells (u8s (List.replicate 32 0)).toArray 63)) W.heap.size (u8s (List.replicate 32 0))) (hz : (W.alloc (.cells (u8s (List.replicate 32 0)).toArray 63)).heap.size = W.heap.size + 1)
    (b1 : Below (W.alloc (.cells (u8s (List.replicate 32 0)).toArray 63)).heap.size (W.alloc (.cells (u8s (List.replicate 32 0)).toArray 63)) w1) (b2 : Below (W.heap.size + 1) w1 w2) (b3 : Below w2.heap.size w2 w3) : Arr w3 W.heap.size (u8s (List.replicate 32 0)) := by
  have a3 := h0.below b1
  have a4 : Arr w2 W.heap.size (u8s (List.replicate 32 0)) := ⟨fun j v hv => (b2.cell (p := ⟨W.heap.size, 0 + j, none⟩) (Nat.lt_succ_self _)).trans (a3.rng j v hv), fun j hj => ⟨by rw [b2.cell (p := ⟨W.heap.size, 0 + j, none⟩) (Nat.lt_succ_self _)]; exact (a3.thr j hj).1, by rw [b2.frozen (p := ⟨W.heap.size, 0 + j, none⟩) (Nat.lt_succ_self _)]; exact (a3.thr j hj).2⟩⟩
  exact a4.below b3
set_option maxHeartbeats 4000000 in
theorem hsum_calls (v : Value) (l : List UInt8) (hl : l.length ≤ 140737480000000) (hl0 : 0 < l.length) (W : World) (hT : LaidH W) (hg : 2 < W.heap.size) (hv : Bs W v l) :
    Calls Tryd.prog 66 #[v] W fun e w' => e = .returned (.agg (u8s (sha l)).toArray) ∧ Below W.heap.size W w' := by
  obtain ⟨A, c, rfl, h1, h2, h3⟩ := hv.form
  have hblk : ∀ ad n' c', Value.slice A l.length c = .slice (some ad) n' c' → ad.block < W.heap.size := fun ad n' c' e => by
    obtain ⟨ad', e2, hc⟩ := hv.at_ 0 hl0
    cases e
    cases e2
    have := World.block_lt_of_cell? W _ hc
    rwa [addr_block] at this
  have HBL := Lib.hid hblk
  clear hblk
  have b0 := below_alloc1 W (.cells (u8s (List.replicate 32 0)).toArray 63)
  have z0 : (W.alloc (.cells (u8s (List.replicate 32 0)).toArray 63)).heap.size = W.heap.size + 1 := by simp
  have H0 := Lib.hid (And.intro (Arr.new W (u8s (List.replicate 32 0)) 63) (And.intro b0 (And.intro z0 (hv.below b0))))
  have HT := Lib.hid (hT.below b0)
  go_enter Tryd.func66, Tryd.ntmps66
  go_wp2_with (first
    | (go_at_call 71; refine (stnew_calls _).mono ?_; rintro e w1 ⟨p, rfl, hp, ha, hB1⟩; have hzz := H0.out.2.2.1; have H1 := Lib.hid (And.intro hp (And.intro ha hB1)); have hp := Nat.le_trans (Nat.le_of_eq hzz.symm) hp; have hs1 := Nat.le_trans (Nat.le_of_eq hzz.symm) hB1.size; have KW := Lib.hid (stwrite_calls p beginS (.slice A l.length c) l w1 (HT.out.below hB1) (W.heap.size + 1) hp hs1 (.slice none 0 0) ha (OwnB.nil _ _) (fun e => by cases e) (H0.out.2.2.2.below hB1) (fun ad n' c' e => ⟨by have := HBL.out ad n' c' e; omega, fun e2 => by cases e2⟩) (by omega) (by omega)); clear hp ha hB1 hzz)
    | (go_at_call 72; refine KW.out.mono ?_; rintro e w2 ⟨vr2, rfl, ha2, ho2, hop2, hB2⟩; have H2 := Lib.hid (And.intro ha2 (And.intro ho2 hB2)); have HTW := Lib.hid ((HT.out.below H1.out.2.2).belowB (B := W.heap.size + 1) (by omega) hB2); have hs2 := hB2.size; clear ha2 ho2 hB2 hop2)
    | (go_at_call 73; refine (stsum_calls p l hl vr2 w2 HTW.out (by omega) H2.out.1 H2.out.2.1.bs).mono ?_; rintro e w3 ⟨rfl, hB3⟩; have HA := Lib.hid (hsum_arr W w1 w2 w3 H0.out.1 H0.out.2.2.1 H1.out.2.2 H2.out.2.2 hB3); have HBW := Lib.hid (((H0.out.2.1.trans (H1.out.2.2.mono (H0.out.2.1.size))).trans (H2.out.2.2.mono (by omega))).trans (hB3.mono (by omega))); have HST := Lib.hid (HA.out.store (P := Tryd.prog) (ty := 63) (u8s (sha l)) (by rw [u8s_length, sha_length]; rfl) info_dig (u8s_one _)); clear hB3)
    | (refine wpList_store_run rfl 63 _ _ rfl _ _ rfl rfl _ HST.out ?_; simp only [Act.put]))
  have hput := HA.out.put (u8s (sha l)) (by rw [u8s_length, sha_length]; rfl)
  refine bodyPost_ret (results_arr Tryd.results66 _ hput rfl Tryd.underlying63 rfl (by rw [u8s_length, sha_length]; exact info_dig)) rfl ⟨rfl, below_setCells HBW.out W.heap.size 0 (Nat.le_refl _) _⟩
end Go.Proofs.YthgjecofmnomfaaDoor
namespace Go.Proofs.YthgjecofmnomfaaDoor
open Go.RowKit
set_option maxRecDepth 100000
set_option maxHeartbeats 4000000 in
theorem of_calls (x : UInt8) (v : Value) (vd : Value) (l : List UInt8) (hl : l.length ≤ 130000000000000) (W : World) (hT : LaidH W) (hg : 2 < W.heap.size) (hv : Row W v 1 [vd]) (hd : Bs W vd l) :
    Calls Tryd.prog 63 #[.int .u8 (x.toNat : Int), v] W fun e w' => e = .returned (.agg (u8s (sha (x :: l))).toArray) ∧ Below W.heap.size W w' := by
  have hv0 := hv
  obtain ⟨A, c, rfl, -, -, -, -⟩ := hv
  have b0 := below_alloc1 W (.cells (u8s (List.replicate 32 0)).toArray 63)
  have z0 : (W.alloc (.cells (u8s (List.replicate 32 0)).toArray 63)).heap.size = W.heap.size + 1 := by simp
  have c1 := below_alloc1 (W.alloc (.cells (u8s (List.replicate 32 0)).toArray 63)) (.cells (u8s [x]).toArray 5)
  have ho := OwnB.fresh (W.alloc (.cells (u8s (List.replicate 32 0)).toArray 63)) [x] [] 1 1 rfl rfl (by unfold maxLen; omega)
  rw [z0] at ho
  have b1 := b0.alloc (by rw [z0]; omega) (.cells (u8s [x]).toArray 5)
  have KC := Lib.hid (concat_calls A 1 c [vd] [l] ((W.alloc (.cells (u8s (List.replicate 32 0)).toArray 63)).alloc (.cells (u8s [x]).toArray 5)) ((hv0.below b0).below c1) rfl (BsAll.cons ((hd.below b0).below c1) (BsAll.nil _)) (by simp; omega))
  have H0 := Lib.hid (And.intro ((Arr.new W (u8s (List.replicate 32 0)) 63).below c1) (And.intro b1 (And.intro ho ((hT.below b0).below c1))))
  have HZ := Lib.hid (show W.heap.size + 1 ≤ ((W.alloc (.cells (u8s (List.replicate 32 0)).toArray 63)).alloc (.cells (u8s [x]).toArray 5)).heap.size by simp)
  have HTW := Lib.hid hT
  clear b0 z0 c1 ho b1 hv0 hd hT
  have tok1 : True := trivial
  go_enter Tryd.func63, Tryd.ntmps63
  go_wp2_with (first
    | (go_at_call 38; refine KC.out.mono ?_; rintro e w2 ⟨v2, rfl, ho2, hB2⟩; have hb2 := ho2.bs; rw [show [l].flatten = l by simp] at hb2; have H2 := Lib.hid (And.intro hb2 (And.intro hB2 (H0.out.2.2.1.below hB2))); clear ho2 hB2)
    | (at_builtin; have _t := tok1; (refine app_u8 rfl _ _ rfl (W.heap.size + 1) _ rfl [x] H2.out.2.2 _ rfl l H2.out.1 ?_ ?_ ?_); (· simp; omega); (· exact Nat.le_trans HZ.out H2.out.2.1.size); clear tok1; intro v4 w4 ho4 hg4 _; have hA4 := (H0.out.1.below H2.out.2.1).grown (by simp [u8s]) hg4 (fun e => by have e2 : W.heap.size + 1 = W.heap.size := Option.some.inj e; omega); have hB4 := below_grown (H0.out.2.1.trans (H2.out.2.1.mono (by have := HZ.out; omega))) hg4 (H2.out.2.2.lower (by omega)) (by have := HZ.out; have := H2.out.2.1.size; omega); have HW4 := Lib.hid (HTW.out.below hB4); have hs4 := hB4.size; have H4 := Lib.hid (And.intro hA4 (And.intro hB4 ho4.bs)); clear ho4 hg4 hA4 hB4)
    | (go_at_call 66; refine (hsum_calls v4 (x :: l) (by simp; omega) (by simp) w4 HW4.out (by omega) H4.out.2.2).mono ?_; rintro e w5 ⟨rfl, hB5⟩; have HA := Lib.hid (H4.out.1.below hB5); have HBW := Lib.hid (H4.out.2.1.trans (hB5.mono (by omega))); have HST := Lib.hid (HA.out.store (P := Tryd.prog) (ty := 63) (u8s (sha (x :: l))) (by rw [u8s_length, sha_length]; rfl) info_dig (u8s_one _)); clear hB5)
    | (refine wpList_store_run rfl 63 _ _ rfl _ _ rfl rfl _ HST.out ?_; simp only [Act.put]))
  have hput := HA.out.put (u8s (sha (x :: l))) (by rw [u8s_length, sha_length]; rfl)
  refine bodyPost_ret (results_arr Tryd.results63 _ hput rfl Tryd.underlying63 rfl (by rw [u8s_length, sha_length]; exact info_dig)) rfl ⟨rfl, below_setCells HBW.out W.heap.size 0 (Nat.le_refl _) _⟩
set_option maxHeartbeats 4000000 in
theorem leaf_calls (v : Value) (l : List UInt8) (hl : l.length ≤ 120000000000000) (W : World) (hT : LaidH W) (hg : 2 < W.heap.size) (hv : Bs W v l) :
    Calls Tryd.prog 59 #[v] W fun e w' => e = .returned (.agg (u8s (sha (0 :: l))).toArray) ∧ Below W.heap.size W w' := by
  obtain ⟨A, c, rfl, -, -, -⟩ := hv.form
  have b0 := below_alloc1 W (.cells (u8s (List.replicate 32 0)).toArray 63)
  have z0 : (W.alloc (.cells (u8s (List.replicate 32 0)).toArray 63)).heap.size = W.heap.size + 1 := by simp
  have c1 := below_alloc1 (W.alloc (.cells (u8s (List.replicate 32 0)).toArray 63)) (.cells #[.slice A l.length c] 23)
  have hrow := Row.new (W.alloc (.cells (u8s (List.replicate 32 0)).toArray 63)) [.slice A l.length c] 23 1 1 (Nat.le_refl _) (by unfold maxLen; omega)
  have b1 := b0.alloc (by rw [z0]; omega) (.cells #[.slice A l.length c] 23)
  have hs : W.heap.size ≤ ((W.alloc (.cells (u8s (List.replicate 32 0)).toArray 63)).alloc (.cells #[.slice A l.length c] 23)).heap.size := b1.size
  have KO := Lib.hid (of_calls 0 _ (.slice A l.length c) l (by omega) _ ((hT.below b0).below c1) (by omega) hrow ((hv.below b0).below c1))
  rw [z0] at KO
  have H0 := Lib.hid (And.intro ((Arr.new W (u8s (List.replicate 32 0)) 63).below c1) b1)
  clear b0 z0 c1 hrow b1 hs hT hv
  go_enter Tryd.func59, Tryd.ntmps59
  go_wp2_with (first
    | (go_at_call 63; refine KO.out.mono ?_; rintro e w5 ⟨rfl, hB5⟩; have HA := Lib.hid (H0.out.1.below hB5); have HBW := Lib.hid (H0.out.2.trans (hB5.mono H0.out.2.size)); have HST := Lib.hid (HA.out.store (P := Tryd.prog) (ty := 63) (u8s (sha (0 :: l))) (by rw [u8s_length, sha_length]; rfl) info_dig (u8s_one _)); clear hB5)
    | (refine wpList_store_run rfl 63 _ _ rfl _ _ rfl rfl _ HST.out ?_; simp only [Act.put]))
  have hput := HA.out.put (u8s (sha (0 :: l))) (by rw [u8s_length, sha_length]; rfl)
  refine bodyPost_ret (results_arr Tryd.results59 _ hput rfl Tryd.underlying63 rfl (by rw [u8s_length, sha_length]; exact info_dig)) rfl ⟨rfl, below_setCells HBW.out W.heap.size 0 (Nat.le_refl _) _⟩
end Go.Proofs.YthgjecofmnomfaaDoor
