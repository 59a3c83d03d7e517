/- WALKS of package digests: Add. No statement of the seed is proved here. -/
import Derived.Test.YthgjecofmnomfaaDigE
namespace Go.Proofs.Ythgjecofmnomfaa
open Go.RowKit
set_option maxRecDepth 100000

theorem own_one {w : World} {B : Nat} (hB : B ≤ w.heap.size) (x : Item) (hx : x.1.length = 32) : (w.alloc (.cells (itemL x).toArray 63)).ownsRow B 63 33 (.slice (some ⟨w.heap.size, 0, none⟩) 1 1) 1 (itemsL [x]) := by
  have hl := itemL_length x hx
  rw [itemsL_one]
  refine ⟨by omega, .inr ⟨w.heap.size, 1, (itemL x).toArray, rfl, hB, heap_alloc_new w _, Nat.le_refl _, by unfold maxLen; omega, by simp [hl], ?_⟩⟩
  simp [← hl]
theorem count_le : ∀ {rs : List (List Item)}, (∀ r ∈ rs, r ≠ []) → rs.length ≤ rs.flatten.length
  | [], _ => Nat.le_refl _
  | r :: rs, h => by
    have ih := count_le (rs := rs) (fun s hs => h s (by simp [hs]))
    have h1 : 0 < r.length := List.length_pos_iff.2 (h r (by simp))
    rw [List.flatten_cons, List.length_append, List.length_cons]
    omega
set_option maxHeartbeats 2000000 in
theorem add_calls (p : Nat) (vr : Value) (us : List Value) (rs : List (List Item)) (B : Nat) (d : List UInt8) (place : Nat) (w : World) (hx : Ix w B p vr us rs) (hd : d.length = 32) (hB : B ≤ w.heap.size) (hs : rs.flatten.length + 1 ≤ 1000000) (hne : ∀ r ∈ rs, r ≠ []) :
    Calls Try.prog 12 #[.pointer (some ⟨p, 0, none⟩), .agg (u8s d).toArray, .int .i64 (place : Int)] w fun e w' =>
      (findI rs.flatten d ≠ none ∧ e = .returned (.int .i64 120) ∧ Below w.heap.size w w') ∨
      (findI rs.flatten d = none ∧ e = .returned (.int .i64 0) ∧ ∃ vr' us', Ix w' B p vr' us' (addRuns rs (d, (place : Int))) ∧ Step w p vr us w' vr' us') := by
  obtain ⟨A, c, rfl, a1, a2, a3⟩ := owns_form hx.own
  have hb0 := below_alloc1 w (.cells (u8s d).toArray 34)
  have hr0 : (w.alloc (.cells (u8s d).toArray 34)).rangeAt w.heap.size 0 (u8s d) := fun j u hu => by
    rw [Nat.zero_add, cell_of_row _ w.heap.size j _ _ (0, 0) (heap_alloc_new w _)]
    simpa using hu
  have hWd : w.alloc (.cells (u8s d).toArray 34) = w.alloc (.cells (u8s d).toArray 34) := rfl
  have hW0 : w.heap.size < (w.alloc (.cells (u8s d).toArray 34)).heap.size := by simp
  have hx1 := hx.below hb0
  generalize hW : w.alloc (.cells (u8s d).toArray 34) = W at hb0 hr0 hW0 hx1
  clear hWd
  have c0 := hx1.c0
  have c1 := hx1.c1
  have KF := Lib.hid (find_calls p (.slice A rs.length c) us rs d W hx1.read hd)
  have LD := Lib.hid (fun w1 (h : Below W.heap.size W w1) => load_digest hd (rangeAt_below hr0 h))
  have HX := Lib.hid hx; clear hx
  have hrl := count_le hne
  clear hne
  have HX1 := Lib.hid hx1; clear hx1 hr0
  have hp0 : (0 : Int) ≤ (place : Int) := Int.natCast_nonneg _
  cases hfi : findI rs.flatten d with
  | some y =>
    have hv : findV rs.flatten d = (y.2, true) := by unfold findV; rw [hfi]
    rw [hv] at KF
    go_enter Try.func12, Try.ntmps12
    go_wp2_with (first
      | (go_at_call 25; refine (none_calls _ _ c0).mono ?_; rintro e w1 ⟨rfl, rfl⟩)
      | (refine wpList_load_run rfl 34 _ rfl _ _ rfl (LD.out _ (Below.refl _ _)) ?_)
      | (go_at_call 13; refine KF.out.mono ?_; rintro e w1 ⟨rfl, hB1⟩))
    go_ret
    exact .inl ⟨by simp, rfl, hb0.trans (hB1.mono (by omega))⟩
  | none =>
    have hv : findV rs.flatten d = (0, false) := by unfold findV; rw [hfi]
    rw [hv] at KF
    go_enter Try.func12, Try.ntmps12
    go_wp2_with (first
      | (go_at_call 25; refine (none_calls _ _ c0).mono ?_; rintro e w1 ⟨rfl, rfl⟩)
      | (refine wpList_load_run rfl 34 _ rfl _ _ rfl (LD.out _ (Below.refl _ _)) ?_)
      | (go_at_call 13; refine KF.out.mono ?_; rintro e w1 ⟨rfl, hB1⟩)
      | (refine wpList_load_run rfl 34 _ rfl _ _ rfl (LD.out _ hB1) ?_)
      | (refine wpList_item rfl _ _ rfl d hd (place : Int) rfl rfl ?_)
      | (refine wpList_one_item rfl _ rfl (itemL (d, (place : Int))) rfl (itemL_length _ hd) ?_; have hE := hB1.alloc hB1.size (.cells (itemL (d, (place : Int))).toArray 63); have e0 := (HX1.out.below hE).c0; have e1 := (HX1.out.below hE).c1))
    have hx2 := HX1.out.below hE
    have hown := own_one (w := w1) (B := w.heap.size) (by have := hB1.size; omega) (d, (place : Int)) hd
    have hN : Nearly p w (w1.alloc (.cells (itemL (d, (place : Int))).toArray 63)) := (Nearly.of_below hb0).then_below hE
    have hst : AtLoop w B p us rs (d, (place : Int)) A c rs.length (.slice (some ⟨w1.heap.size, 0, none⟩) 1 1) [(d, (place : Int))] (w1.alloc (.cells (itemL (d, (place : Int))).toArray 63)) :=
      ⟨Nat.le_refl _, hown, fun y hy => by simp at hy; subst hy; exact hd, List.pairwise_singleton _ _, by simp, by rw [List.take_length]; simp; omega, by rw [List.take_length], trivial, hx2.c0, hx2.c1, hx2.f1, hN⟩
    clear hown hN hx2 e0 e1
    generalize w1.alloc (.cells (itemL (d, (place : Int))).toArray 63) = w2 at hst hE
    go_loopw [9, 10] (fun v i wr => ∃ (m : Nat) (run : List Item), i = .int .i64 (m : Int) ∧ AtLoop w B p us rs (d, (place : Int)) A c m v run wr) (fun _ i _ => (intOf i).toNat)
    case atStart => exact ⟨rs.length, _, rfl, hst⟩
    case round =>
      obtain ⟨m, run, rfl, hL⟩ := hrel
      clear hst
      have z0 := hL.c0
      have z1 := hL.c1
      have z2 := hL.f1
      have HL := Lib.hid hL
      obtain ⟨Av, cv, rfl, v1, v2, v3⟩ := owns_form hL.own
      have hle := hL.le
      clear hL
      cases m with
      | zero =>
        have hrow := HL.out.row HX.out
        have hsz : B ≤ wr.heap.size := Nat.le_trans hB HL.out.near.size
        have hplt : (⟨p, 0, none⟩ : Addr).block < wr.heap.size := World.block_lt_of_cell? wr _ z0
        have hpl1 : ∀ o, (⟨p, 0, none⟩ : Addr).block < (wr.alloc o).heap.size := fun o => by rw [World.size_alloc]; omega
        have hpv : some (⟨p, 0, none⟩ : Addr).block ≠ (Value.slice A 0 c).ownBlock := fun e => HX.out.pv (by cases A <;> simp_all [Value.ownBlock])
        go_wp2_with (first | (at_builtin; refine app_row rfl _ _ 43 64 rfl Try.underlying43 info_row rfl (by omega) B (.slice A 0 c) rfl 0 (us.take 0) hrow (.slice Av run.length cv) rfl rfl ?_ hsz ?_; (· omega); intro ve w3 hown3 hg3 hat3; obtain ⟨Ae, ce, rfl, g1, g2, g3⟩ := owns_form hown3; have y0 := (hg3.cell_far ⟨p, 0, none⟩ (hpl1 _) hpv).trans (cell_below (below_alloc1 wr _) z0); have y1 := (hg3.cell_far ⟨p, 1, none⟩ (hpl1 _) hpv).trans (cell_below (below_alloc1 wr _) z1); have y2 := (hg3.frozen_far ⟨p, 1, none⟩ (hpl1 _) hpv).trans (frozen_below (below_alloc1 wr _) z1 z2)))
        go_ret
        refine ⟨rfl, _, _, add_end HX.out HL.out hB hs (by rw [List.take_zero]; rfl) hown3 hg3 hat3 y0 y1 y2⟩
      | succ k =>
        obtain ⟨ad, u, hA, hus, hcu, hou⟩ := HL.out.at_ HX.out k (by omega)
        subst hA
        obtain ⟨Au, cu, rfl, u1, u2, u3⟩ := owns_form hou
        have htk : (rs.take (k + 1)).reverse = rs[k] :: (rs.take k).reverse := by
          rw [List.take_succ_eq_append_getElem (by omega), List.reverse_append]; rfl
        have hfl : (rs.take (k + 1)).flatten.length = (rs.take k).flatten.length + rs[k].length := by
          rw [List.take_succ_eq_append_getElem (by omega), List.flatten_append, List.length_append, List.flatten_cons, List.flatten_nil, List.append_nil]
        have hrow := HL.out.row HX.out
        have hsz : B ≤ wr.heap.size := Nat.le_trans hB HL.out.near.size
        have hplt : (⟨p, 0, none⟩ : Addr).block < wr.heap.size := World.block_lt_of_cell? wr _ z0
        have hpl1 : ∀ o, (⟨p, 0, none⟩ : Addr).block < (wr.alloc o).heap.size := fun o => by rw [World.size_alloc]; omega
        have hpv : some (⟨p, 0, none⟩ : Addr).block ≠ (Value.slice (some ad) (k + 1) c).ownBlock := fun e => HX.out.pv (by simp_all [Value.ownBlock])
        have HT := Lib.hid htk
        have HFL := Lib.hid hfl
        clear htk hfl
        by_cases hlen : rs[k].length = run.length
        · have HLEN := Lib.hid hlen; clear hlen
          have KM := Lib.hid (merged_calls (.slice Au rs[k].length cu) (.slice Av run.length cv) rs[k] run wr (RunV.of_owns hou) (RunV.of_owns HL.out.own) (HX.out.wid _ (List.getElem_mem (by omega))) HL.out.wid (by have := HL.out.total; have := HFL.out; omega))
          have hlen2 : (rs[k].length : Int) = (run.length : Int) := by have := HLEN.out; omega
          clear hrow hou
          go_wp2_with (first | (go_at_call 26; refine KM.out.mono ?_; rintro e w3 ⟨v3, rfl, hown3, hB3⟩; obtain ⟨A3, c3, rfl, g1, g2, g3⟩ := owns_form hown3; have y0 := cell_below hB3 z0; have y1 := cell_below hB3 z1; have y2 := frozen_below hB3 z1 z2))
          refine ⟨⟨k, rs[k].merge run leI, rfl, ?_⟩, by simp [intOf]⟩
          have hwm : Wid (rs[k].merge run leI) := fun y hy => by
            rcases List.mem_append.1 ((merge_perm rs[k] run).mem_iff.1 hy) with h | h
            · exact HX.out.wid _ (List.getElem_mem (by omega)) y h
            · exact HL.out.wid y h
          have hst : ∀ q, q ≠ p → (w3.setCell ⟨p, 1, none⟩ (.slice (some ad) k c)).heap[q]? = w3.heap[q]? := fun q hq => Below.heap_setCell _ _ _ _ hq
          refine ⟨by omega, ?_, hwm, sorted_merge (HX.out.sorted _ (List.getElem_mem (by omega))) HL.out.sorted, ?_, ?_, ?_, trivial, ?_, set_cell y1 _, set_frozen y2 _, (HL.out.near.then_below hB3).set 1 _⟩
          · rw [merge_length]
            exact owns_lower (owns_mods hown3 fun q hq _ => hst q (fun e => by have := owns_ge hown3 q hq; omega)) HL.out.near.size
          · intro e
            have := merge_length rs[k] run
            rw [e] at this
            have h1 := HL.out.ne
            have : run = [] := List.eq_nil_of_length_eq_zero (by simp at this; omega)
            exact h1 this
          · have := HL.out.total; have := HFL.out; rw [merge_length]; omega
          · rw [← HL.out.carry, HT.out, carry_go HLEN.out]
          · exact (World.cell?_setCell_other w3 _ _ _ (by simp)).trans y0
        · have hlen2 : ¬ (rs[k].length : Int) = (run.length : Int) := by omega
          have HLEN := Lib.hid hlen; clear hlen
          go_wp2_with (first | (at_builtin; refine app_row rfl _ _ 43 64 rfl Try.underlying43 info_row rfl (by omega) B (.slice (some ad) (k + 1) c) rfl (k + 1) (us.take (k + 1)) hrow (.slice Av run.length cv) rfl rfl ?_ hsz ?_; (· omega); intro ve w3 hown3 hg3 hat3; obtain ⟨Ae, ce, rfl, g1, g2, g3⟩ := owns_form hown3; have y0 := (hg3.cell_far ⟨p, 0, none⟩ (hpl1 _) hpv).trans (cell_below (below_alloc1 wr _) z0); have y1 := (hg3.cell_far ⟨p, 1, none⟩ (hpl1 _) hpv).trans (cell_below (below_alloc1 wr _) z1); have y2 := (hg3.frozen_far ⟨p, 1, none⟩ (hpl1 _) hpv).trans (frozen_below (below_alloc1 wr _) z1 z2)))
          go_ret
          refine ⟨rfl, _, _, add_end HX.out HL.out hB hs ?_ hown3 hg3 hat3 y0 y1 y2⟩
          rw [HT.out]
          exact carry_stop (fun r hr => by cases hr; exact HLEN.out)
end Go.Proofs.Ythgjecofmnomfaa
