/- A WALK of package disk: Raw. No statement of the seed is proved here. -/
import Derived.Test.YtjllkmkngjdjjaaDoorDskF
namespace Go.Proofs.YtjllkmkngjdjjaaDoor
open Go.RowKit
set_option maxRecDepth 100000
theorem below_box2 (W : World) (o1 o2 : Obj) : Below W.heap.size W ((W.alloc o1).alloc o2) :=
  ((Below.refl _ _).alloc (Nat.le_refl _) o1).alloc (by simp) o2
theorem box_after {W w2 : World} {u0 u1 u2 u3 u4 v0 v1 v2 v3 v4 : Value} {t : TypeId} (h : Below ((W.alloc (.cells #[u0, u1, u2, u3, u4] t)).alloc (.cells #[v0, v1, v2, v3, v4] t)).heap.size ((W.alloc (.cells #[u0, u1, u2, u3, u4] t)).alloc (.cells #[v0, v1, v2, v3, v4] t)) w2) :
    w2.cell? ⟨W.heap.size + 1, 0, none⟩ = some v0 ∧ w2.cell? ⟨W.heap.size + 1, 1, none⟩ = some v1 ∧ w2.cell? ⟨W.heap.size + 1, 2, none⟩ = some v2 ∧ w2.cell? ⟨W.heap.size + 1, 3, none⟩ = some v3 ∧ w2.cell? ⟨W.heap.size + 1, 4, none⟩ = some v4 ∧
    w2.cell? ⟨W.heap.size, 0, none⟩ = some u0 ∧ w2.cell? ⟨W.heap.size, 1, none⟩ = some u1 ∧ w2.cell? ⟨W.heap.size, 2, none⟩ = some u2 ∧ w2.cell? ⟨W.heap.size, 3, none⟩ = some u3 ∧ w2.cell? ⟨W.heap.size, 4, none⟩ = some u4 ∧
    (∀ j, w2.frozen? ⟨W.heap.size + 1, j, none⟩ = false) ∧ ∀ j, w2.frozen? ⟨W.heap.size, j, none⟩ = false := by
  have hr := range_below (range_box (W.alloc (.cells #[u0, u1, u2, u3, u4] t)) [v0, v1, v2, v3, v4] t) h
  rw [World.size_alloc] at hr
  have hr1 := range_below (range_below (range_box W [u0, u1, u2, u3, u4] t) (below_alloc1 _ (.cells #[v0, v1, v2, v3, v4] t))) h
  have hf : ∀ j, ((W.alloc (.cells #[u0, u1, u2, u3, u4] t)).alloc (.cells #[v0, v1, v2, v3, v4] t)).frozen? ⟨W.heap.size + 1, j, none⟩ = false := fun j =>
    World.frozen?_alloc_at _ _ _ _ (by simp)
  have hf1 : ∀ j, ((W.alloc (.cells #[u0, u1, u2, u3, u4] t)).alloc (.cells #[v0, v1, v2, v3, v4] t)).frozen? ⟨W.heap.size, j, none⟩ = false := fun j =>
    (World.frozen?_alloc_past _ _ _ (by simp)).trans (World.frozen?_alloc_at _ _ _ _ rfl)
  exact ⟨hr 0 _ rfl, hr 1 _ rfl, hr 2 _ rfl, hr 3 _ rfl, hr 4 _ rfl, hr1 0 _ rfl, hr1 1 _ rfl, hr1 2 _ rfl, hr1 3 _ rfl, hr1 4 _ rfl, fun j => (h.frozen (by simp)).trans (hf j), fun j => (h.frozen (by simp; omega)).trans (hf1 j)⟩
theorem box_set5 {w : World} {b : Nat} {u0 u1 u2 u3 u4 : Value} (p0 : w.cell? ⟨b, 0, none⟩ = some u0) (p1 : w.cell? ⟨b, 1, none⟩ = some u1) (p2 : w.cell? ⟨b, 2, none⟩ = some u2) (p3 : w.cell? ⟨b, 3, none⟩ = some u3) (p4 : w.cell? ⟨b, 4, none⟩ = some u4) (v0 v1 v2 v3 v4 : Value) :
    (((((w.setCell ⟨b, 0, none⟩ v0).setCell ⟨b, 1, none⟩ v1).setCell ⟨b, 2, none⟩ v2).setCell ⟨b, 3, none⟩ v3).setCell ⟨b, 4, none⟩ v4).rangeAt b 0 [v0, v1, v2, v3, v4] := by
  have o : ∀ (w : World) (i j : Nat) (u v : Value), i ≠ j → w.cell? ⟨b, j, none⟩ = some v → (w.setCell ⟨b, i, none⟩ u).cell? ⟨b, j, none⟩ = some v := fun w i j u v hij h => (World.cell?_setCell_other w _ _ u (by simp [hij])).trans h
  intro j v hv
  match j, hv with
  | 0, hv => cases hv; exact (o _ 4 0 _ _ (by decide) (o _ 3 0 _ _ (by decide) (o _ 2 0 _ _ (by decide) (o _ 1 0 _ _ (by decide) (set_cell p0 v0)))))
  | 1, hv => cases hv; exact (o _ 4 1 _ _ (by decide) (o _ 3 1 _ _ (by decide) (o _ 2 1 _ _ (by decide) (set_cell (o _ 0 1 _ _ (by decide) p1) v1))))
  | 2, hv => cases hv; exact (o _ 4 2 _ _ (by decide) (o _ 3 2 _ _ (by decide) (set_cell (o _ 1 2 _ _ (by decide) (o _ 0 2 _ _ (by decide) p2)) v2)))
  | 3, hv => cases hv; exact (o _ 4 3 _ _ (by decide) (set_cell (o _ 2 3 _ _ (by decide) (o _ 1 3 _ _ (by decide) (o _ 0 3 _ _ (by decide) p3))) v3))
  | 4, hv => cases hv; exact (set_cell (o _ 3 4 _ _ (by decide) (o _ 2 4 _ _ (by decide) (o _ 1 4 _ _ (by decide) (o _ 0 4 _ _ (by decide) p4)))) v4)
  | j + 5, hv => simp at hv
set_option maxHeartbeats 1000000 in
theorem draw_calls (x : DT) (s : DSt) (W : World) (B : Nat) (hx : x.At s W B) (i : Nat) (r : RawD) (hi : s.raws[i]? = some r) (hl : r.bytes.length ≤ 100000000000000) :
    Calls Tryd.prog 10 #[.pointer (some ⟨x.p, 0, none⟩), .int .i64 (i : Int)] W fun e w' => ∃ v, e = .returned (.tuple #[.agg (rawL r v).toArray, .int .i64 0]) ∧ OwnB w' W.heap.size v r.bytes ∧ Below W.heap.size W w' := by
  have K := Lib.hid (fun w (hb : Below W.heap.size W w) => dnone_calls x s w B (hx.below hb))
  have hp : x.p < W.heap.size := hx.lt (.inl (.inl rfl))
  have c2 := hx.c2
  have hlt := (List.getElem?_eq_some_iff.1 hi).1
  obtain ⟨u, hu⟩ : ∃ u, x.us[i]? = some u := ⟨_, List.getElem?_eq_getElem (by have := hx.raws.ul; omega)⟩
  have hob := hx.raws.rb i r u hi hu
  obtain ⟨g, cr, er, r1, r2, hcell⟩ : ∃ g cr, x.vr = .slice (some ⟨g, 0, none⟩) s.raws.length cr ∧ s.raws.length ≤ cr ∧ cr ≤ maxLen ∧ W.rangeAt g (i * 5) (rawL r u) := by
    have hr := hx.raws.row
    obtain ⟨A, c, e, h1, h2, h0, h3⟩ := Row.of_owns hr
    have hg := fun j hj => h3 (i * 5 + j) _ ((rawsL_get s.raws x.us i r u j hi hu hj).trans (List.getElem?_eq_getElem (by simp [rawL]; exact hj)))
    have hA : ∃ g, A = some ⟨g, 0, none⟩ := by
      obtain ⟨hl, ⟨e1, e2⟩ | ⟨g, cap, cur, ev, hb, hg, hn, hm, hs, ht⟩⟩ := hr
      · omega
      · rw [e] at ev; cases ev; exact ⟨g, rfl⟩
    obtain ⟨g, rfl⟩ := hA
    refine ⟨g, c, e, h1, h2, fun j v hv => ?_⟩
    have hj : j < 5 := by have := (List.getElem?_eq_some_iff.1 hv).1; simpa [rawL] using this
    obtain ⟨ad, ea, hc⟩ := hg j hj
    cases ea
    rw [List.getElem?_eq_getElem (by simp [rawL]; exact hj)] at hv
    cases hv
    have ea : (⟨g, 0, none⟩ : Addr).add (i * 5 + j) = ⟨g, i * 5 + j, none⟩ := by unfold Addr.add; split <;> simp_all
    rw [ea] at hc
    exact hc
  have hidx : ∀ w : World, (Instr.indexAt 54 (.slice (some ⟨g, 0, none⟩) s.raws.length cr) (.int .i64 (i : Int))).run Tryd.prog w = .ok (.pointer (some ⟨g, i * 5, none⟩)) w := fun w => by
    have hel : Tryd.prog.elem 54 = 36 := by simp [Program.elem, Tryd.underlying54]
    have e1 := run_indexAt_slice (P := Tryd.prog) (w := w) 54 ⟨g, 0, none⟩ s.raws.length cr .i64 (i : Int) (by rw [hel]; exact Tryd.underlying54)
    rw [if_pos ⟨by omega, by omega⟩, hel] at e1
    obtain ⟨i0, hi0, hz⟩ := Option.map_eq_some_iff.1 size_raw
    rw [e1]
    have ea : (⟨g, 0, none⟩ : Addr).add (i * 5) = ⟨g, i * 5, none⟩ := by unfold Addr.add; split <;> simp_all
    simp [sizeOf, typeInfo, hi0, hz, Result.andThen, ea]
  obtain ⟨Au, cu, eu, u1, u2, u3⟩ := hob.form
  subst eu
  have KC := Lib.hid (fun w (hb : Below W.heap.size W w) => bclone_calls _ _ w (hob.bs.below hb) hl)
  have hgW : g < W.heap.size := World.block_lt_of_cell? _ _ (hcell 0 _ rfl)
  have k0 : W.cell? ⟨g, i * 5, none⟩ = some (.int .i64 (r.kind : Int)) := hcell 0 _ rfl
  have k1 : W.cell? ⟨g, i * 5 + 1, none⟩ = some (.string r.name) := hcell 1 _ rfl
  have k2 : W.cell? ⟨g, i * 5 + 2, none⟩ = some (.slice Au r.bytes.length cu) := hcell 2 _ rfl
  have k3 : W.cell? ⟨g, i * 5 + 3, none⟩ = some (.int .i64 (r.size : Int)) := hcell 3 _ rfl
  have k4 : W.cell? ⟨g, i * 5 + 4, none⟩ = some (.string r.to) := hcell 4 _ rfl
  have g1 : decide ((i : Int) < 0) = false := by rw [decide_eq_false_iff_not]; omega
  have g2 : decide ((s.raws.length : Int) ≤ (i : Int)) = false := by rw [decide_eq_false_iff_not]; omega
  rw [er] at c2
  clear hx er hob hcell
  go_enter Tryd.func10, Tryd.ntmps10
  go_wp2_with (first | (go_at_call 15; refine (K.out _ (below_alloc1 _ _)).mono ?_; rintro e w1 ⟨rfl, rfl⟩) | (go_at_call 24; refine (KC.out _ (below_box2 _ _ _)).mono ?_; rintro e w2 ⟨v2, rfl, ho2, hB2⟩; obtain ⟨A2, c2', e2, h21, h22, h23⟩ := ho2.form; subst e2; obtain ⟨q0, q1, q2, q3, q4, p0, p1, p2, p3, p4, f2, f1⟩ := box_after hB2; have hB3 := Lib.hid hB2; clear hB2))
  have oz : ∀ (j : Nat) (u : Value), w2.cell? ⟨W.heap.size, j, none⟩ = some u → (w2.setCell ⟨W.heap.size + 1, 2, none⟩ (.slice A2 r.bytes.length c2')).cell? ⟨W.heap.size, j, none⟩ = some u := fun j u h => set_other h (by simp) _
  have hrg := box_set5 (oz _ _ p0) (oz _ _ p1) (oz _ _ p2) (oz _ _ p3) (oz _ _ p4) (.int .i64 (r.kind : Int)) (.string r.name) (.slice A2 r.bytes.length c2') (.int .i64 (r.size : Int)) (.string r.to)
  have hlv := run_loadVar_mid (P := Tryd.prog) _ _ _ 36 _ _ hrg Tryd.underlying36 rfl (by rw [size_raw]; rfl)
  have hz : ((W.alloc (.cells #[.int .i64 0, .string ⟨#[]⟩, .slice none 0 0, .int .i64 0, .string ⟨#[]⟩] 36)).alloc (.cells #[.int .i64 (r.kind : Int), .string r.name, .slice Au r.bytes.length cu, .int .i64 (r.size : Int), .string r.to] 36)).heap.size = W.heap.size + 2 := by simp
  have hB4 := (below_box2 W _ _).trans ((hB3.out).mono (by rw [hz]; omega))
  have hge : ∀ k, (Value.slice A2 r.bytes.length c2').ownBlock = some k → W.heap.size + 2 ≤ k := fun k hk => by have := (ho2.lt k hk).1; omega
  refine bodyPost_ret (v := .tuple #[.agg (rawL r (.slice A2 r.bytes.length c2')).toArray, .int .i64 0]) (by rw [Go.results_cell_tmp Tryd.results10]; simp [asAddr, hlv, Result.andThen, rawL]) rfl ?_
  refine ⟨.slice A2 r.bytes.length c2', rfl, mods_owns (ho2.lower (by omega)) fun k hk => ?_, ?_⟩
  · have hk2 := hge k hk
    iterate 6 refine (Below.heap_setCell _ _ _ k (by show k ≠ _; simp; omega)).trans ?_
    rfl
  · iterate 6 refine Below.setCell ?_ (by show _ ≤ _; simp) _
    exact hB4
end Go.Proofs.YtjllkmkngjdjjaaDoor
