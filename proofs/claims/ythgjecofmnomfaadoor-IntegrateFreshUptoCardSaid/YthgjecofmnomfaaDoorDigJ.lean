/- WALKS of package digests: Clone. No statement of the seed is proved here. -/
import Derived.Test.YthgjecofmnomfaaDoorDigH
namespace Go.Proofs.YthgjecofmnomfaaDoor
open Go.RowKit
set_option maxRecDepth 100000

theorem sclone_calls (v : Value) (n : Nat) (us : List Value) (w : World) (h : Row w v n us) (hl : us.length = n) (h1 : ∀ u ∈ us, u.oneCell' = true) (hn : n ≤ 1000000) :
    Calls Tryd.prog 57 #[v] w fun e w' => ∃ v2, e = .returned v2 ∧ w'.ownsRow w.heap.size 91 1 v2 n us ∧ Below w.heap.size w w' := by
  have HR := Lib.hid h
  obtain ⟨A, c, rfl, a1, a2, a3, -⟩ := h
  unfold maxLen at a2
  cases A with
  | none =>
    have hc := a3 rfl
    subst hc
    have hn0 : n = 0 := by omega
    subst hn0
    have hu : us = [] := List.eq_nil_of_length_eq_zero hl
    subst hu
    have kk := fun (w : World) => Lib.run_eql_slice_nil (P := Tryd.prog) w 84 91 Option.none 0 0 0 0 Tryd.underlying84
    go_enter Tryd.func57, Tryd.ntmps57
    go_wp2
    go_ret
    exact ⟨_, rfl, World.ownsRow_nil _ _ _ _, Below.refl _ _⟩
  | some ad =>
    have hb1 := below_alloc1 w (.cells #[] 91)
    have hown : (w.alloc (.cells #[] 91)).ownsRow w.heap.size 91 1 (.slice (some ⟨w.heap.size, 0, none⟩) 0 0) 0 [] := World.ownsRow_made w #[] 0 (Nat.le_refl _) (by unfold maxLen; omega) rfl
    have hr1 := HR.out.below hb1
    have HB := Lib.hid hb1
    have HL := Lib.hid hl
    have H1 := Lib.hid h1
    clear hb1 a3 hl h1
    have kk := fun (w : World) => Lib.run_eql_slice_nil (P := Tryd.prog) w 84 91 (some ad) n c 0 0 Tryd.underlying84
    go_enter Tryd.func57, Tryd.ntmps57
    go_wp2_with (first
      | (at_builtin; refine wpList_app _ rfl _ _ 84 rfl w.heap.size 91 (.slice none 0 0) 1 24 Tryd.underlying84 info_row rfl (by omega) (by omega) _ rfl 0 [] hown _ rfl n us hr1 (by have := HL.out; omega) H1.out (by omega) (by simp) ?_; intro v2 w2 ho2 hg2 hat2))
    go_ret
    have ho3 : w2.ownsRow w.heap.size 91 1 v2 n us := by simpa using ho2
    exact ⟨v2, rfl, ho3, grown_below HB.out hg2 hown (by simp)⟩
/-- An index's clone. -/
theorem cloneIx_calls (p : Nat) (vr : Value) (us : List Value) (rs : List (List Item)) (B : Nat) (w : World) (hx : Ix w B p vr us rs) (hB : B ≤ w.heap.size) (hne : ∀ r ∈ rs, r ≠ []) :
    Calls Tryd.prog 47 #[.pointer (some ⟨p, 0, none⟩)] w fun e w' => ∃ q vr2, e = .returned (.pointer (some ⟨q, 0, none⟩)) ∧ w.heap.size ≤ q ∧ Ix w' B q vr2 us rs ∧ (∀ k, vr2.ownBlock = some k → w.heap.size ≤ k) ∧ Below w.heap.size w w' := by
  have hlen := count_le hne
  have hsm := hx.small
  have hul : us.length = rs.length := by have := hx.own.1; omega
  have h1 : ∀ u ∈ us, u.oneCell' = true := fun u hu => by
    obtain ⟨j, hj⟩ := List.mem_iff_getElem?.1 hu
    have hj' : j < rs.length := by rw [← hul]; exact (List.getElem?_eq_some_iff.1 hj).1
    obtain ⟨u', h1, h2, -⟩ := hx.runs j hj'
    rw [hj] at h1; cases h1
    obtain ⟨A, c, rfl, -⟩ := owns_form h2
    rfl
  have K := Lib.hid (sclone_calls vr rs.length us w (Row.of_owns hx.own) hul h1 (by omega))
  have c0 := hx.c0
  have c1 := hx.c1
  have hne' := Lib.hid hne
  have HX := Lib.hid hx
  obtain ⟨A, c, rfl, a1, a2, a3⟩ := owns_form hx.own
  clear hx hlen hsm hul h1 hne
  go_enter Tryd.func47, Tryd.ntmps47
  go_wp2_with (first
    | (go_at_call 41; refine (none_calls2 _ _ c0).mono ?_; rintro e w1 ⟨rfl, rfl⟩)
    | (go_at_call 57; refine K.out.mono ?_; rintro e w2 ⟨v2, rfl, hown, hB2⟩; have HO := Lib.hid hown; obtain ⟨A2, c2, rfl, b1, b2, b3⟩ := owns_form hown; clear hown))
  go_ret
  have hb3 := below_alloc1 w2 (.cells #[.bool true, .slice A2 rs.length c2] 86)
  have hx3 := (HX.out.below hB2).below hb3
  have hge := owns_ge HO.out
  have hlt := owns_lt HO.out
  have hs2 := hB2.size
  have hxl := HX.out.lt
  refine ⟨w2.heap.size, _, rfl, hB2.size, ⟨cell_of_row _ w2.heap.size 0 _ _ (0, 0) (heap_alloc_new w2 _), cell_of_row _ w2.heap.size 1 _ _ (0, 0) (heap_alloc_new w2 _), new_frozen w2 _ _ 1, by omega, owns_lower (owns_below HO.out hb3) hB, ?_, ?_, hx3.wid, hx3.sorted, hx3.small⟩, hge, below_then hB2 hb3⟩
  · intro j hj
    obtain ⟨u, u1, u2, u3, u4⟩ := HX.out.runs j hj
    have hul := owns_lt u2
    refine ⟨u, u1, owns_below (owns_below u2 hB2) hb3, fun k hk e => ?_, fun e => ?_⟩
    · have := hul k hk
      have := hge k e
      omega
    · have := hul _ e
      omega
  · intro e
    have := hlt _ e
    omega
/-- An index beside one that was added to. -/
theorem Ix.beside {w w' : World} {B p q : Nat} {vr vr2 vr' : Value} {us us2 us' : List Value} {rs : List (List Item)} (h : Ix w B p vr us rs) (hs : Step w q vr2 us2 w' vr' us') (hpq : p ≠ q) (hv : Apart vr vr2) (hvq : vr.ownBlock ≠ some q) (hp : vr2.ownBlock ≠ some p)
    (hu : ∀ u ∈ us, u.ownBlock ≠ some q ∧ Apart u vr2) : Ix w' B p vr us rs := by
  refine h.kept ?_ ?_ ?_
  · exact hs.block p h.lt hpq hp
  · intro k hk
    exact hs.block k (owns_lt h.own k hk) (fun e => hvq (by rw [hk, e])) (fun e => hv k hk e)
  · intro u hu2 k hk
    obtain ⟨h1, h2⟩ := hu u hu2
    have hlt : k < w.heap.size := by
      obtain ⟨j, hj⟩ := List.mem_iff_getElem?.1 hu2
      have hl : us.length = rs.length := by have := h.own.1; omega
      have hj' : j < rs.length := by rw [← hl]; exact (List.getElem?_eq_some_iff.1 hj).1
      obtain ⟨u', e1, e2, -⟩ := h.runs j hj'
      rw [hj] at e1; cases e1
      exact owns_lt e2 k hk
    exact hs.block k hlt (fun e => h1 (by rw [hk, e])) (fun e => h2 k hk e)
end Go.Proofs.YthgjecofmnomfaaDoor
