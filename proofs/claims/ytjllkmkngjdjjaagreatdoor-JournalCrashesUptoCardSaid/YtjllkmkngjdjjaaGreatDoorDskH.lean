/- A WALK of package disk: Raw. No statement of the seed is proved here. WALK of package disk's do, once more: a cut, a removal, a renaming. No statement of the seed is proved here. -/
import Derived.Test.YtjllkmkngjdjjaaGreatDoorDskF
namespace Go.Proofs.YtjllkmkngjdjjaaGreatDoor
open Go.RowKit
set_option maxRecDepth 100000
theorem below_box2 (W : World) (o1 o2 : Obj) : Below W.heap.size W ((W.alloc o1).alloc o2) :=
  ((Below.refl _ _).alloc (Nat.le_refl _) o1).alloc (by simp) o2
theorem box_after {W w2 : World} {u0 u1 u2 u3 u4 v0 v1 v2 v3 v4 : Value} {t : TypeId} (h : Below ((W.alloc (.cells #[u0, u1, u2, u3, u4] t)).alloc (.cells #[v0, v1, v2, v3, v4] t)).heap.size ((W.alloc (.cells #[u0, u1, u2, u3, u4] t)).alloc (.cells #[v0, v1, v2, v3, v4] t)) w2) :
    w2.cell? ⟨W.heap.size + 1, 0, none⟩ = some v0 ∧ w2.cell? ⟨W.heap.size + 1, 1, none⟩ = some v1 ∧ w2.cell? ⟨W.heap.size + 1, 2, none⟩ = some v2 ∧ w2.cell? ⟨W.heap.size + 1, 3, none⟩ = some v3 ∧ w2.cell? ⟨W.heap.size + 1, 4, none⟩ = some v4 ∧
    w2.cell? ⟨W.heap.size, 0, none⟩ = some u0 ∧ w2.cell? ⟨W.heap.size, 1, none⟩ = some u1 ∧ w2.cell? ⟨W.heap.size, 2, none⟩ = some u2 ∧ w2.cell? ⟨W.heap.size, 3, none⟩ = some u3 ∧ w2.cell? ⟨W.heap.size, 4, none⟩ = some u4 ∧
    (∀ j, w2.frozen? ⟨W.heap.size + 1, j, none⟩ = false) ∧ ∀ j, w2.frozen? ⟨W.heap.size, j, none⟩ = false := by
  have hr := range_below (range_box (W.alloc (.cells #[u0, u1, u2, u3, u4] t)) [v0, v1, v2, v3, v4] t) h
  rw [World.size_alloc] at hr
  have hr1 := range_below (range_below (range_box W [u0, u1, u2, u3, u4] t) (below_alloc1 _ (.cells #[v0, v1, v2, v3, v4] t))) h
  have hf : ∀ j, ((W.alloc (.cells #[u0, u1, u2, u3, u4] t)).alloc (.cells #[v0, v1, v2, v3, v4] t)).frozen? ⟨W.heap.size + 1, j, none⟩ = false := fun j =>
    World.frozen?_alloc_at _ _ _ _ (by simp)
  have hf1 : ∀ j, ((W.alloc (.cells #[u0, u1, u2, u3, u4] t)).alloc (.cells #[v0, v1, v2, v3, v4] t)).frozen? ⟨W.heap.size, j, none⟩ = false := fun j =>
    (World.frozen?_alloc_past _ _ _ (by simp)).trans (World.frozen?_alloc_at _ _ _ _ rfl)
  exact ⟨hr 0 _ rfl, hr 1 _ rfl, hr 2 _ rfl, hr 3 _ rfl, hr 4 _ rfl, hr1 0 _ rfl, hr1 1 _ rfl, hr1 2 _ rfl, hr1 3 _ rfl, hr1 4 _ rfl, fun j => (h.frozen (by simp)).trans (hf j), fun j => (h.frozen (by simp; omega)).trans (hf1 j)⟩
theorem box_set5 {w : World} {b : Nat} {u0 u1 u2 u3 u4 : Value} (p0 : w.cell? ⟨b, 0, none⟩ = some u0) (p1 : w.cell? ⟨b, 1, none⟩ = some u1) (p2 : w.cell? ⟨b, 2, none⟩ = some u2) (p3 : w.cell? ⟨b, 3, none⟩ = some u3) (p4 : w.cell? ⟨b, 4, none⟩ = some u4) (v0 v1 v2 v3 v4 : Value) :
    (((((w.setCell ⟨b, 0, none⟩ v0).setCell ⟨b, 1, none⟩ v1).setCell ⟨b, 2, none⟩ v2).setCell ⟨b, 3, none⟩ v3).setCell ⟨b, 4, none⟩ v4).rangeAt b 0 [v0, v1, v2, v3, v4] := by
  have o : ∀ (w : World) (i j : Nat) (u v : Value), i ≠ j → w.cell? ⟨b, j, none⟩ = some v → (w.setCell ⟨b, i, none⟩ u).cell? ⟨b, j, none⟩ = some v := fun w i j u v hij h => (World.cell?_setCell_other w _ _ u (by simp [hij])).trans h
  intro j v hv
  match j, hv with
  | 0, hv => cases hv; exact (o _ 4 0 _ _ (by decide) (o _ 3 0 _ _ (by decide) (o _ 2 0 _ _ (by decide) (o _ 1 0 _ _ (by decide) (set_cell p0 v0)))))
  | 1, hv => cases hv; exact (o _ 4 1 _ _ (by decide) (o _ 3 1 _ _ (by decide) (o _ 2 1 _ _ (by decide) (set_cell (o _ 0 1 _ _ (by decide) p1) v1))))
  | 2, hv => cases hv; exact (o _ 4 2 _ _ (by decide) (o _ 3 2 _ _ (by decide) (set_cell (o _ 1 2 _ _ (by decide) (o _ 0 2 _ _ (by decide) p2)) v2)))
  | 3, hv => cases hv; exact (o _ 4 3 _ _ (by decide) (set_cell (o _ 2 3 _ _ (by decide) (o _ 1 3 _ _ (by decide) (o _ 0 3 _ _ (by decide) p3))) v3))
  | 4, hv => cases hv; exact (set_cell (o _ 3 4 _ _ (by decide) (o _ 2 4 _ _ (by decide) (o _ 1 4 _ _ (by decide) (o _ 0 4 _ _ (by decide) p4)))) v4)
  | j + 5, hv => simp at hv
end Go.Proofs.YtjllkmkngjdjjaaGreatDoor
namespace Go.Proofs.YtjllkmkngjdjjaaGreatDoor
open Go.RowKit
set_option maxRecDepth 100000
theorem op_sliceH {P : Program} {o : Oper} {ρ : Operand → Value} (t : TypeId) (ht : P.underlying t = some (.slice (P.elem t))) (x y : Operand) (ho : o.op = .slice t x none (some y) none) (vx vy v : Value) (hx : ρ x = vx) (hy : ρ y = vy) (w : World) (hr : (Instr.slice t vx none (some vy) none).run P w = .ok v w) : (execOp ρ o).run P w = .ok (.value v) w := by
  unfold execOp
  simp only [ho, hx, hy, Option.map_some, Option.map_none, Sem.run_bind, Sem.run_pure, run_sliceAt_slice (h := ht), hr, Result.andThen_ok]
theorem under_bytes : Tryz.prog.underlying 35 = some (.slice (Tryz.prog.elem 35)) := by kernel_rfl
theorem run_remove_fs (fs : Fs) (n : ByteArray) : fsDo fs (rRemove n) = upd fs n none := rfl
theorem run_cut_fs (fs : Fs) (n : ByteArray) (k : Nat) : fsDo fs (rCut n k) = upd fs n (some (((fs n).getD []).take k)) := rfl
theorem run_rename_fs (fs : Fs) (n m : ByteArray) : fsDo fs (rRename n m) = upd (upd fs n none) m (some ((fs n).getD [])) := rfl
/-- The files' change is another map: only the map's block has turned. -/
theorem DMid.turned {x : DT} {s : DSt} {r : RawD} {vb : Value} {W wa wb : World} {B : Nat} {f' : ByteArray → Option Value} (hx : x.At s W B) (hba : Below W.heap.size W wa) (hza : W.heap.size + 1 ≤ wa.heap.size) (hbox : wb.rangeAt W.heap.size 0 (rawL r vb))
    (hs : ∀ k, k ≠ x.mb → wb.heap[k]? = wa.heap[k]?) (hz : wb.heap.size = wa.heap.size) (ho : wb.os = wa.os ∧ wb.tape = wa.tape ∧ wb.output = wa.output) (hmap : MapAt wb x.mb (s.raws.length + 1) f') (hv : Vals wb B f' (fsDo s.fs r)) (hsrc : ∀ m z k, f' m = some z → z.ownBlock = some k → ∃ q u, x.f q = some u ∧ u.ownBlock = some k) : DMid x s r vb W B f' wb where
  map := hmap
  vals := hv
  src := fun m z k hz' hk => .inr (hsrc m z k hz' hk)
  block := fun k hk _ h2 => (hs k h2).trans (hba.block k hk)
  plain := fun k o hk _ h2 => (hs k h2).trans (hba.block k (Array.getElem?_eq_some_iff.1 hk).1)
  box := hbox
  os := ho.1.trans hba.os
  tape := ho.2.1.trans hba.tape
  output := ho.2.2.trans hba.output
  size := by omega
set_option maxHeartbeats 4000000 in
theorem do_cut (x : DT) (s : DSt) (n : ByteArray) (l : List UInt8) (q : Nat) (A : Option Addr) (c : Nat) (W : World) (B : Nat) (hx : x.At s W B) (hB : B ≤ W.heap.size) (hvb : OwnB W B (.slice A 0 c) []) (hap : ∀ k, (Value.slice A 0 c).ownBlock = some k → ¬ x.Mut k) (hn : s.fs n = some l) (hnm : n.size ≤ 128) (hq : q ≤ l.length) (hl : l.length ≤ 100000000000000) (hr : s.raws.length + 1 ≤ 1000000000000) :
    Calls Tryz.prog 69 #[.pointer (some ⟨x.p, 0, none⟩), .agg #[.int .i64 3, .string n, .slice A 0 c, .int .i64 (q : Int), .string ByteArray.empty]] W fun e w' => e = .returned (.tuple #[]) ∧ ∃ y : DT, y.At (s.run (rCut n q)) w' B ∧ DStepV (.slice A 0 c) x W y w' := by
  obtain ⟨v0, hv0, ho0⟩ := hx.vals.at_ hn
  obtain ⟨A0, c0, rfl, -, -, -⟩ := ho0.form
  have hsz : n.size ≤ maxLen := by unfold maxLen; omega
  have HLK := Lib.hid (fun w' (hw : Below W.heap.size W w') => (show (Instr.lookup 104 (.map (some x.mb)) (.string n) false).run Tryz.prog w' = .ok (.slice A0 l.length c0) w' by
    have h := (hx.below hw).map.look under_files (zero_bs w') n hsz
    rw [hv0] at h
    exact h))
  have b0 := below_alloc1 W (.cells (rawL (rCut n q) (.slice A 0 c)).toArray 123)
  have hS0 : DS x W.heap.size (rCut n q) (.slice A 0 c) (W.alloc (.cells (rawL (rCut n q) (.slice A 0 c)).toArray 123)) := ⟨cell_below b0 hx.c1, range_box W _ _⟩
  go_enter Tryz.func69, Tryz.ntmps69
  go_wp2
  refine wp_region_noPanic ?_
  refine wp_region_rowS (S := fun w' => Below W.heap.size W w' ∧ DS x W.heap.size (rCut n q) (.slice A 0 c) w') [0, 1, 2, 3, 4, 5, 6, 7] [] (by kernel_rfl) (by kernel_rfl) (fun _ _ _ _ h => h) ⟨b0.drew, hS0.below (below_drew1 _)⟩ ?_
  simp only [opsL, List.getElem?_cons_zero, List.getElem?_cons_succ, Option.toList_some, List.singleton_append]
  refine takesS_run rfl (.pointer (some ⟨x.p, 0, none⟩)) (fun w' hw => op_move _ rfl _ (by rfl) w') ?_
  simp only [Act.put, List.setIfInBounds_toArray, List.set_cons_zero, List.set_cons_succ]
  refine takesS_run rfl (.pointer (some ⟨x.p, 0, none⟩)) (fun w' hw => by go_simp) ?_
  simp only [Act.put, List.setIfInBounds_toArray, List.set_cons_zero, List.set_cons_succ]
  refine takesS_run rfl (.pointer (some ⟨x.p, 1, none⟩)) (fun w' hw => by go_simp) ?_
  simp only [Act.put, List.setIfInBounds_toArray, List.set_cons_zero, List.set_cons_succ]
  refine takesS_run rfl (.map (some x.mb)) (fun w' hw => op_load _ _ rfl _ _ (by rfl) w' (ld_cell under_files rfl hw.2.c1)) ?_
  simp only [Act.put, List.setIfInBounds_toArray, List.set_cons_zero, List.set_cons_succ]
  refine takesS_run rfl (.pointer (some ⟨W.heap.size, 1, none⟩)) (fun w' hw => by go_simp) ?_
  simp only [Act.put, List.setIfInBounds_toArray, List.set_cons_zero, List.set_cons_succ]
  refine takesS_run rfl (.string n) (fun w' hw => op_load _ _ rfl _ _ (by rfl) w' (ld_cell Tryz.underlying9 rfl hw.2.name)) ?_
  simp only [Act.put, List.setIfInBounds_toArray, List.set_cons_zero, List.set_cons_succ]
  refine takesS_run rfl (.slice A0 l.length c0) (fun w' hw => op_lookup _ _ _ _ rfl _ _ _ (by rfl) (by rfl) w' (HLK.out w' hw.1)) ?_
  simp only [Act.put, List.setIfInBounds_toArray, List.set_cons_zero, List.set_cons_succ]
  refine takesS_run rfl (.slice A0 l.length c0) (fun w' hw => op_assign _ rfl _ (by rfl) w') ?_
  simp only [Act.put, List.setIfInBounds_toArray, List.set_cons_zero, List.set_cons_succ]
  simp only [wpTkS, wpRowS]
  rename_i Kx hKx
  refine hKx _ _ ?_
  clear hKx
  obtain ⟨wa, hwa⟩ : ∃ wa, wa = (W.alloc (.cells (rawL (rCut n q) (.slice A 0 c)).toArray 123)).drew := ⟨_, rfl⟩
  have hba : Below W.heap.size W wa := by rw [hwa]; exact b0.drew
  have hSa : DS x W.heap.size (rCut n q) (.slice A 0 c) wa := by rw [hwa]; exact hS0.below (below_drew1 _)
  have hza : W.heap.size + 1 ≤ wa.heap.size := World.block_lt_of_cell? wa _ hSa.kind
  change Code.wp _ _ _ _ ((W.alloc (.cells (rawL (rCut n q) (.slice A 0 c)).toArray 123)).drew)
  rw [← hwa]
  clear hwa b0 hS0
  have ck : wa.cell? ⟨W.heap.size, 0, none⟩ = some (.int .i64 3) := hSa.kind
  have hbs := ho0.bs
  obtain ⟨hsl, -⟩ := bsHead hbs q (q : Int) rfl hq
  go_wp2_with fail
  refine wp_region_noPanic ?_
  refine wp_region_rowS (S := fun w' => DS x W.heap.size (rCut n q) (.slice A 0 c) w') [0, 1, 2, 3, 4, 5, 6, 7, 8, 9] [10, 11] (by kernel_rfl) (by kernel_rfl) (fun _ _ _ _ h => h) (hSa.below (below_drew1 _)) ?_
  simp only [opsL, List.getElem?_cons_zero, List.getElem?_cons_succ, Option.toList_some, List.singleton_append]
  refine takesS_run rfl (.pointer (some ⟨x.p, 0, none⟩)) (fun w' hw => op_move _ rfl _ (by rfl) w') ?_
  simp only [Act.put, List.setIfInBounds_toArray, List.set_cons_zero, List.set_cons_succ]
  refine takesS_run rfl (.pointer (some ⟨x.p, 0, none⟩)) (fun w' hw => by go_simp) ?_
  simp only [Act.put, List.setIfInBounds_toArray, List.set_cons_zero, List.set_cons_succ]
  refine takesS_run rfl (.pointer (some ⟨x.p, 1, none⟩)) (fun w' hw => by go_simp) ?_
  simp only [Act.put, List.setIfInBounds_toArray, List.set_cons_zero, List.set_cons_succ]
  refine takesS_run rfl (.map (some x.mb)) (fun w' hw => op_load _ _ rfl _ _ (by rfl) w' (ld_cell under_files rfl hw.c1)) ?_
  simp only [Act.put, List.setIfInBounds_toArray, List.set_cons_zero, List.set_cons_succ]
  refine takesS_run rfl (.pointer (some ⟨W.heap.size, 1, none⟩)) (fun w' hw => by go_simp) ?_
  simp only [Act.put, List.setIfInBounds_toArray, List.set_cons_zero, List.set_cons_succ]
  refine takesS_run rfl (.string n) (fun w' hw => op_load _ _ rfl _ _ (by rfl) w' (ld_cell Tryz.underlying9 rfl hw.name)) ?_
  simp only [Act.put, List.setIfInBounds_toArray, List.set_cons_zero, List.set_cons_succ]
  refine takesS_run rfl (.slice A0 l.length c0) (fun w' hw => op_move _ rfl _ (by rfl) w') ?_
  simp only [Act.put, List.setIfInBounds_toArray, List.set_cons_zero, List.set_cons_succ]
  refine takesS_run rfl (.pointer (some ⟨W.heap.size, 3, none⟩)) (fun w' hw => by go_simp) ?_
  simp only [Act.put, List.setIfInBounds_toArray, List.set_cons_zero, List.set_cons_succ]
  refine takesS_run rfl (.int .i64 (q : Int)) (fun w' hw => op_load _ _ rfl _ _ (by rfl) w' (ld_cell Tryz.underlying3 rfl hw.size)) ?_
  simp only [Act.put, List.setIfInBounds_toArray, List.set_cons_zero, List.set_cons_succ]
  refine takesS_run rfl (.slice A0 q c0) (fun w' hw => op_sliceH _ under_bytes _ _ rfl _ _ _ (by rfl) (by rfl) w' (hsl w')) ?_
  simp only [Act.put, List.setIfInBounds_toArray, List.set_cons_zero, List.set_cons_succ]
  simp only [wpTkS, wpRowS, opsL, List.getElem?_cons_zero, List.getElem?_cons_succ, Option.toList_some, List.singleton_append]
  have hmW : x.mb < W.heap.size := hx.lt (.inl (.inr (.inl rfl)))
  have hbh := (bsHead ((hbs.below hba).below (below_drew1 wa)) q (q : Int) rfl hq).2
  go_wp2_with (go_at_call 96; refine (bclone_calls _ _ _ hbh (by rw [List.length_take]; omega)).mono ?_; rintro e w1 ⟨v1, rfl, ho1, hB1⟩)
  have hbw : Below W.heap.size W wa.drew := hba.drew
  have hzd : wa.drew.heap.size = wa.heap.size := rfl
  have hS1 : DS x W.heap.size (rCut n q) (.slice A 0 c) w1 := (hSa.below (below_drew1 _)).below hB1
  have hm1 : MapAt w1 x.mb s.raws.length x.f := hx.map.kept ((below_then hbw hB1).block _ hmW)
  obtain ⟨w2, hrun, hm2, ht⟩ := hm1.store under_files (by unfold maxLen; omega) n hsz v1
  have hS2 : DS x W.heap.size (rCut n q) (.slice A 0 c) w2 := hS1.mods (turned_block ht hx.pm) (turned_block ht (by omega))
  have hM : DMid x s (rCut n q) (.slice A 0 c) W B (upd x.f n (some v1)) w2 := DMid.put (wa := w1) (wc := w1) (row := none) hx (below_then hbw hB1) (by have := hB1.size; omega) hS2.box ⟨rfl, rfl, rfl, Nat.le_refl _, fun _ _ _ => rfl⟩ (.inl rfl) (ho1.lower (by omega)) (fun k hk => .inl (by have := (ho1.lt k hk).1; omega)) ht hm2 (by rw [run_cut_fs, hn]; rfl)
  refine norm_done hS1 ?_
  try simp only [Act.put, List.setIfInBounds_toArray, List.set_cons_zero, List.set_cons_succ]
  refine wpList_update rfl _ _ _ _ rfl (.map (some x.mb)) (.string n) v1 rfl rfl rfl hrun ?_
  refine wpList_done hS2 ?_
  rename_i Ky hKy
  refine hKy _ _ ?_
  clear hKy hm1 hrun ht hm2 hSa hba ck HLK ho1 hB1 hbh hbs ho0 hS1 hsl hbw
  have hok : RawOk (rCut n q) := ⟨hnm, by show ByteArray.empty.size ≤ 128; decide, by show q ≤ _; omega, by show 1 ≤ 3; omega, by show 3 ≤ 5; omega⟩
  go_wp2_with fail
  have hMd := hM.drew
  have hrow := hMd.row hx
  have hpb := hMd.pb hx
  have hc2 := (mods_cell (a := ⟨x.p, 2, none⟩) hpb).trans hx.c2
  have hf2 := (mods_frozen (a := ⟨x.p, 2, none⟩) hpb).trans hx.fr
  have hzM := hMd.size
  have hpW' : x.p < W.heap.size := hx.lt (.inl (.inl rfl))
  obtain ⟨vr', w3, hap3, ho3, hg3, hat3⟩ := run_app_any (w := w2.drew) 105 105 123 5 72 under_raws info_raw (by omega) (by omega) B s.raws.length x.vr (rawsL s.raws x.us) hrow (rawL (rCut n q) (.slice A 0 c)) rfl (rawL_one _ rfl) (by omega) (by omega)
  obtain ⟨hAt, hSt⟩ := hMd.record hx hvb hap hok ho3 hg3 hat3
  obtain ⟨Ar, cr, er, -, -, -⟩ := owns_form ho3
  subst er
  have hvrp : x.vr.ownBlock ≠ some x.p := hx.rp.1
  have hvrb : x.vr.ownBlock ≠ some W.heap.size := fun e => by have := hx.lt (.inl (.inr (.inr (.inl e)))); omega
  have hbx0 := hMd.box
  have hbx1 := range_below hbx0 (below_alloc1 w2.drew (.cells (rawL (rCut n q) (.slice A 0 c)).toArray 123))
  have hza1 : (w2.drew.alloc (.cells (rawL (rCut n q) (.slice A 0 c)).toArray 123)).heap.size = w2.drew.heap.size + 1 := by simp
  have hbx3 := range_mods hbx1 (hg3.block W.heap.size (by omega) (fun e => hvrb e.symm))
  have hp3 : w3.heap[x.p]? = w2.drew.heap[x.p]? := (hg3.block x.p (by omega) (fun e => hvrp e.symm)).trans ((below_alloc1 w2.drew _).block x.p (by omega))
  have hc3 := (mods_cell (a := ⟨x.p, 2, none⟩) hp3).trans hc2
  have hf3 := (mods_frozen (a := ⟨x.p, 2, none⟩) hp3).trans hf2
  have hbx4 : (w3.setCell ⟨x.p, 2, none⟩ (.slice Ar (s.raws.length + 1) cr)).rangeAt W.heap.size 0 (rawL (rCut n q) (.slice A 0 c)) := range_mods hbx3 (Below.heap_setCell _ _ _ _ (by show W.heap.size ≠ x.p; omega))
  have hcf := And.intro hc3 hf3
  refine wp_region_noPanic ?_
  refine wp_region_forkS (fun w' => w'.rangeAt W.heap.size 0 (rawL (rCut n q) (.slice A 0 c))) [0, 1, 2, 3, 5] 4 6 [7, 8, 9, 10] (by kernel_rfl) (by kernel_rfl) (fun _ _ _ _ h => h) hbx0 ?_
  simp only [opsL, List.getElem?_cons_zero, List.getElem?_cons_succ, Option.toList_some, List.singleton_append]
  refine takesS_run rfl (.pointer (some ⟨x.p, 0, none⟩)) (fun w' hw => op_move _ rfl _ (by rfl) w') ?_
  simp only [Act.put, List.setIfInBounds_toArray, List.set_cons_zero, List.set_cons_succ]
  refine takesS_run rfl (.pointer (some ⟨x.p, 0, none⟩)) (fun w' hw => op_move _ rfl _ (by rfl) w') ?_
  simp only [Act.put, List.setIfInBounds_toArray, List.set_cons_zero, List.set_cons_succ]
  refine takesS_run rfl (.pointer (some ⟨x.p, 0, none⟩)) (fun w' hw => by go_simp) ?_
  simp only [Act.put, List.setIfInBounds_toArray, List.set_cons_zero, List.set_cons_succ]
  refine takesS_run rfl (.pointer (some ⟨x.p, 2, none⟩)) (fun w' hw => by go_simp) ?_
  simp only [Act.put, List.setIfInBounds_toArray, List.set_cons_zero, List.set_cons_succ]
  refine takesS_run rfl (.agg (rawL (rCut n q) (.slice A 0 c)).toArray) (fun w' hw => op_load _ _ rfl _ _ (by rfl) w' (ld_raw hw)) ?_
  simp only [Act.put, List.setIfInBounds_toArray, List.set_cons_zero, List.set_cons_succ]
  simp only [wpTkS]
  have hc2a := cell_below (below_alloc1 w2.drew (.cells (rawL (rCut n q) (.slice A 0 c)).toArray 123)) hc2
  refine ⟨_, _, x.vr, .slice (some ⟨w2.drew.heap.size, 0, none⟩) 1 1, _, rfl, rfl, rfl, rfl, op_load _ _ rfl _ _ (by rfl) _ (ld_cell under_raws rfl hc2), run_op_one_any _ 105 123 5 72 rfl under_raws info_raw (by omega) (by omega) (rawL (rCut n q) (.slice A 0 c)) (by rfl) rfl, run_op_one_any _ 105 123 5 72 rfl under_raws info_raw (by omega) (by omega) (rawL (rCut n q) (.slice A 0 c)) (by rfl) rfl, op_load _ _ rfl _ _ (by rfl) _ (ld_cell under_raws rfl hc2a), hbx1, rfl, ?_⟩
  simp only [Act.put, List.setIfInBounds_toArray, List.set_cons_zero, List.set_cons_succ]
  simp only [wpRowS, opsL, List.getElem?_cons_zero, List.getElem?_cons_succ, Option.toList_some, List.singleton_append]
  refine wpList_val rfl _ _ (op_append _ _ _ rfl _ _ (by rfl) (by rfl) _ _ hap3) ?_
  refine wpList_done hbx3 ?_
  simp only [Act.put, List.setIfInBounds_toArray, List.set_cons_zero, List.set_cons_succ]
  go_wp2_with fail
  refine norm_done hbx3 ?_
  go_wp2_with fail
  refine norm_done hbx3 ?_
  go_wp2_with fail
  refine norm_done hbx4 ?_
  refine noPanic_normal ?_
  exact bodyPost_end (results_none rfl _ _ _) rfl ⟨rfl, _, hAt, hSt⟩
set_option maxHeartbeats 4000000 in
theorem do_remove (x : DT) (s : DSt) (n : ByteArray) (A : Option Addr) (c : Nat) (W : World) (B : Nat) (hx : x.At s W B) (hB : B ≤ W.heap.size) (hvb : OwnB W B (.slice A 0 c) []) (hap : ∀ k, (Value.slice A 0 c).ownBlock = some k → ¬ x.Mut k) (hnm : n.size ≤ 128) (hr : s.raws.length + 1 ≤ 1000000000000) :
    Calls Tryz.prog 69 #[.pointer (some ⟨x.p, 0, none⟩), .agg #[.int .i64 4, .string n, .slice A 0 c, .int .i64 0, .string ByteArray.empty]] W fun e w' => e = .returned (.tuple #[]) ∧ ∃ y : DT, y.At (s.run (rRemove n)) w' B ∧ DStepV (.slice A 0 c) x W y w' := by
  have hsz : n.size ≤ maxLen := by unfold maxLen; omega
  obtain ⟨v0, hv0⟩ : ∃ v0, v0 = (x.f n).getD (.slice none 0 0) := ⟨_, rfl⟩
  have HLK := Lib.hid (fun w' (hw : Below W.heap.size W w') => (show (Instr.lookup 104 (.map (some x.mb)) (.string n) false).run Tryz.prog w' = .ok v0 w' by
    rw [hv0]
    exact (hx.below hw).map.look under_files (zero_bs w') n hsz))
  clear hv0
  have b0 := below_alloc1 W (.cells (rawL (rRemove n) (.slice A 0 c)).toArray 123)
  have hS0 : DS x W.heap.size (rRemove n) (.slice A 0 c) (W.alloc (.cells (rawL (rRemove n) (.slice A 0 c)).toArray 123)) := ⟨cell_below b0 hx.c1, range_box W _ _⟩
  go_enter Tryz.func69, Tryz.ntmps69
  go_wp2
  refine wp_region_noPanic ?_
  refine wp_region_rowS (S := fun w' => Below W.heap.size W w' ∧ DS x W.heap.size (rRemove n) (.slice A 0 c) w') [0, 1, 2, 3, 4, 5, 6, 7] [] (by kernel_rfl) (by kernel_rfl) (fun _ _ _ _ h => h) ⟨b0.drew, hS0.below (below_drew1 _)⟩ ?_
  simp only [opsL, List.getElem?_cons_zero, List.getElem?_cons_succ, Option.toList_some, List.singleton_append]
  refine takesS_run rfl (.pointer (some ⟨x.p, 0, none⟩)) (fun w' hw => op_move _ rfl _ (by rfl) w') ?_
  simp only [Act.put, List.setIfInBounds_toArray, List.set_cons_zero, List.set_cons_succ]
  refine takesS_run rfl (.pointer (some ⟨x.p, 0, none⟩)) (fun w' hw => by go_simp) ?_
  simp only [Act.put, List.setIfInBounds_toArray, List.set_cons_zero, List.set_cons_succ]
  refine takesS_run rfl (.pointer (some ⟨x.p, 1, none⟩)) (fun w' hw => by go_simp) ?_
  simp only [Act.put, List.setIfInBounds_toArray, List.set_cons_zero, List.set_cons_succ]
  refine takesS_run rfl (.map (some x.mb)) (fun w' hw => op_load _ _ rfl _ _ (by rfl) w' (ld_cell under_files rfl hw.2.c1)) ?_
  simp only [Act.put, List.setIfInBounds_toArray, List.set_cons_zero, List.set_cons_succ]
  refine takesS_run rfl (.pointer (some ⟨W.heap.size, 1, none⟩)) (fun w' hw => by go_simp) ?_
  simp only [Act.put, List.setIfInBounds_toArray, List.set_cons_zero, List.set_cons_succ]
  refine takesS_run rfl (.string n) (fun w' hw => op_load _ _ rfl _ _ (by rfl) w' (ld_cell Tryz.underlying9 rfl hw.2.name)) ?_
  simp only [Act.put, List.setIfInBounds_toArray, List.set_cons_zero, List.set_cons_succ]
  refine takesS_run rfl (v0) (fun w' hw => op_lookup _ _ _ _ rfl _ _ _ (by rfl) (by rfl) w' (HLK.out w' hw.1)) ?_
  simp only [Act.put, List.setIfInBounds_toArray, List.set_cons_zero, List.set_cons_succ]
  refine takesS_run rfl (v0) (fun w' hw => op_assign _ rfl _ (by rfl) w') ?_
  simp only [Act.put, List.setIfInBounds_toArray, List.set_cons_zero, List.set_cons_succ]
  simp only [wpTkS, wpRowS]
  rename_i Kx hKx
  refine hKx _ _ ?_
  clear hKx
  obtain ⟨wa, hwa⟩ : ∃ wa, wa = (W.alloc (.cells (rawL (rRemove n) (.slice A 0 c)).toArray 123)).drew := ⟨_, rfl⟩
  have hba : Below W.heap.size W wa := by rw [hwa]; exact b0.drew
  have hSa : DS x W.heap.size (rRemove n) (.slice A 0 c) wa := by rw [hwa]; exact hS0.below (below_drew1 _)
  have hza : W.heap.size + 1 ≤ wa.heap.size := World.block_lt_of_cell? wa _ hSa.kind
  change Code.wp _ _ _ _ ((W.alloc (.cells (rawL (rRemove n) (.slice A 0 c)).toArray 123)).drew)
  rw [← hwa]
  clear hwa b0 hS0
  have ck : wa.cell? ⟨W.heap.size, 0, none⟩ = some (.int .i64 4) := hSa.kind
  go_wp2_with fail
  refine wp_region_noPanic ?_
  refine wp_region_rowS (S := fun w' => DS x W.heap.size (rRemove n) (.slice A 0 c) w') [0, 1, 2, 3, 4, 5] [6] (by kernel_rfl) (by kernel_rfl) (fun _ _ _ _ h => h) (hSa.below (below_drew1 _)) ?_
  simp only [opsL, List.getElem?_cons_zero, List.getElem?_cons_succ, Option.toList_some, List.singleton_append]
  refine takesS_run rfl (.pointer (some ⟨x.p, 0, none⟩)) (fun w' hw => op_move _ rfl _ (by rfl) w') ?_
  simp only [Act.put, List.setIfInBounds_toArray, List.set_cons_zero, List.set_cons_succ]
  refine takesS_run rfl (.pointer (some ⟨x.p, 0, none⟩)) (fun w' hw => by go_simp) ?_
  simp only [Act.put, List.setIfInBounds_toArray, List.set_cons_zero, List.set_cons_succ]
  refine takesS_run rfl (.pointer (some ⟨x.p, 1, none⟩)) (fun w' hw => by go_simp) ?_
  simp only [Act.put, List.setIfInBounds_toArray, List.set_cons_zero, List.set_cons_succ]
  refine takesS_run rfl (.map (some x.mb)) (fun w' hw => op_load _ _ rfl _ _ (by rfl) w' (ld_cell under_files rfl hw.c1)) ?_
  simp only [Act.put, List.setIfInBounds_toArray, List.set_cons_zero, List.set_cons_succ]
  refine takesS_run rfl (.pointer (some ⟨W.heap.size, 1, none⟩)) (fun w' hw => by go_simp) ?_
  simp only [Act.put, List.setIfInBounds_toArray, List.set_cons_zero, List.set_cons_succ]
  refine takesS_run rfl (.string n) (fun w' hw => op_load _ _ rfl _ _ (by rfl) w' (ld_cell Tryz.underlying9 rfl hw.name)) ?_
  simp only [Act.put, List.setIfInBounds_toArray, List.set_cons_zero, List.set_cons_succ]
  simp only [wpTkS, wpRowS, opsL, List.getElem?_cons_zero, List.getElem?_cons_succ, Option.toList_some, List.singleton_append]
  have hmW : x.mb < W.heap.size := hx.lt (.inl (.inr (.inl rfl)))
  have hm1 : MapAt wa.drew x.mb s.raws.length x.f := hx.map.kept (hba.block _ hmW)
  obtain ⟨w2, hrun, hm2, ht⟩ := hm1.drop under_files n hsz 0
  have hS2 : DS x W.heap.size (rRemove n) (.slice A 0 c) w2 := (hSa.below (below_drew1 _)).mods (turned_block ht hx.pm) (turned_block ht (by omega))
  have hM : DMid x s (rRemove n) (.slice A 0 c) W B (upd x.f n none) w2 := DMid.turned (wa := wa.drew) hx hba.drew hza hS2.box (fun k hk => turned_block ht hk) (turned_size ht) (turned_os ht) (hm2.mono (by omega)) (by
    rw [run_remove_fs]
    exact (hx.vals.hole n).kept fun m u k hu hk => by
      by_cases e : m = n
      · subst e; rw [upd_same] at hu; cases hu
      · rw [upd_other _ _ e] at hu
        rw [turned_block ht (fun e2 => (hx.fp m u hu).2.1 (by rw [← e2]; exact hk))]
        exact hba.drew.block k (hx.lt (.inl (.inr (.inr (.inr ⟨m, u, hu, hk⟩)))))) (fun m z k hz hk => by
      by_cases e : m = n
      · subst e; rw [upd_same] at hz; cases hz
      · rw [upd_other _ _ e] at hz; exact ⟨m, z, hz, hk⟩)
  refine wpList_val rfl _ _ (op_delete _ _ _ _ rfl (.map (some x.mb)) (.string n) _ (by rfl) (by rfl) hrun) ?_
  refine wpList_done hS2 ?_
  simp only [Act.put, List.setIfInBounds_toArray, List.set_cons_zero, List.set_cons_succ]
  rename_i Ky hKy
  refine hKy _ _ ?_
  clear hKy hm1 hrun ht hm2 hSa hba ck HLK
  have hok : RawOk (rRemove n) := ⟨hnm, by show ByteArray.empty.size ≤ 128; decide, by show 0 ≤ _; omega, by show 1 ≤ 4; omega, by show 4 ≤ 5; omega⟩
  go_wp2_with fail
  have hMd := hM.drew
  have hrow := hMd.row hx
  have hpb := hMd.pb hx
  have hc2 := (mods_cell (a := ⟨x.p, 2, none⟩) hpb).trans hx.c2
  have hf2 := (mods_frozen (a := ⟨x.p, 2, none⟩) hpb).trans hx.fr
  have hzM := hMd.size
  have hpW' : x.p < W.heap.size := hx.lt (.inl (.inl rfl))
  obtain ⟨vr', w3, hap3, ho3, hg3, hat3⟩ := run_app_any (w := w2.drew) 105 105 123 5 72 under_raws info_raw (by omega) (by omega) B s.raws.length x.vr (rawsL s.raws x.us) hrow (rawL (rRemove n) (.slice A 0 c)) rfl (rawL_one _ rfl) (by omega) (by omega)
  obtain ⟨hAt, hSt⟩ := hMd.record hx hvb hap hok ho3 hg3 hat3
  obtain ⟨Ar, cr, er, -, -, -⟩ := owns_form ho3
  subst er
  have hvrp : x.vr.ownBlock ≠ some x.p := hx.rp.1
  have hvrb : x.vr.ownBlock ≠ some W.heap.size := fun e => by have := hx.lt (.inl (.inr (.inr (.inl e)))); omega
  have hbx0 := hMd.box
  have hbx1 := range_below hbx0 (below_alloc1 w2.drew (.cells (rawL (rRemove n) (.slice A 0 c)).toArray 123))
  have hza1 : (w2.drew.alloc (.cells (rawL (rRemove n) (.slice A 0 c)).toArray 123)).heap.size = w2.drew.heap.size + 1 := by simp
  have hbx3 := range_mods hbx1 (hg3.block W.heap.size (by omega) (fun e => hvrb e.symm))
  have hp3 : w3.heap[x.p]? = w2.drew.heap[x.p]? := (hg3.block x.p (by omega) (fun e => hvrp e.symm)).trans ((below_alloc1 w2.drew _).block x.p (by omega))
  have hc3 := (mods_cell (a := ⟨x.p, 2, none⟩) hp3).trans hc2
  have hf3 := (mods_frozen (a := ⟨x.p, 2, none⟩) hp3).trans hf2
  have hbx4 : (w3.setCell ⟨x.p, 2, none⟩ (.slice Ar (s.raws.length + 1) cr)).rangeAt W.heap.size 0 (rawL (rRemove n) (.slice A 0 c)) := range_mods hbx3 (Below.heap_setCell _ _ _ _ (by show W.heap.size ≠ x.p; omega))
  have hcf := And.intro hc3 hf3
  refine wp_region_noPanic ?_
  refine wp_region_forkS (fun w' => w'.rangeAt W.heap.size 0 (rawL (rRemove n) (.slice A 0 c))) [0, 1, 2, 3, 5] 4 6 [7, 8, 9, 10] (by kernel_rfl) (by kernel_rfl) (fun _ _ _ _ h => h) hbx0 ?_
  simp only [opsL, List.getElem?_cons_zero, List.getElem?_cons_succ, Option.toList_some, List.singleton_append]
  refine takesS_run rfl (.pointer (some ⟨x.p, 0, none⟩)) (fun w' hw => op_move _ rfl _ (by rfl) w') ?_
  simp only [Act.put, List.setIfInBounds_toArray, List.set_cons_zero, List.set_cons_succ]
  refine takesS_run rfl (.pointer (some ⟨x.p, 0, none⟩)) (fun w' hw => op_move _ rfl _ (by rfl) w') ?_
  simp only [Act.put, List.setIfInBounds_toArray, List.set_cons_zero, List.set_cons_succ]
  refine takesS_run rfl (.pointer (some ⟨x.p, 0, none⟩)) (fun w' hw => by go_simp) ?_
  simp only [Act.put, List.setIfInBounds_toArray, List.set_cons_zero, List.set_cons_succ]
  refine takesS_run rfl (.pointer (some ⟨x.p, 2, none⟩)) (fun w' hw => by go_simp) ?_
  simp only [Act.put, List.setIfInBounds_toArray, List.set_cons_zero, List.set_cons_succ]
  refine takesS_run rfl (.agg (rawL (rRemove n) (.slice A 0 c)).toArray) (fun w' hw => op_load _ _ rfl _ _ (by rfl) w' (ld_raw hw)) ?_
  simp only [Act.put, List.setIfInBounds_toArray, List.set_cons_zero, List.set_cons_succ]
  simp only [wpTkS]
  have hc2a := cell_below (below_alloc1 w2.drew (.cells (rawL (rRemove n) (.slice A 0 c)).toArray 123)) hc2
  refine ⟨_, _, x.vr, .slice (some ⟨w2.drew.heap.size, 0, none⟩) 1 1, _, rfl, rfl, rfl, rfl, op_load _ _ rfl _ _ (by rfl) _ (ld_cell under_raws rfl hc2), run_op_one_any _ 105 123 5 72 rfl under_raws info_raw (by omega) (by omega) (rawL (rRemove n) (.slice A 0 c)) (by rfl) rfl, run_op_one_any _ 105 123 5 72 rfl under_raws info_raw (by omega) (by omega) (rawL (rRemove n) (.slice A 0 c)) (by rfl) rfl, op_load _ _ rfl _ _ (by rfl) _ (ld_cell under_raws rfl hc2a), hbx1, rfl, ?_⟩
  simp only [Act.put, List.setIfInBounds_toArray, List.set_cons_zero, List.set_cons_succ]
  simp only [wpRowS, opsL, List.getElem?_cons_zero, List.getElem?_cons_succ, Option.toList_some, List.singleton_append]
  refine wpList_val rfl _ _ (op_append _ _ _ rfl _ _ (by rfl) (by rfl) _ _ hap3) ?_
  refine wpList_done hbx3 ?_
  simp only [Act.put, List.setIfInBounds_toArray, List.set_cons_zero, List.set_cons_succ]
  go_wp2_with fail
  refine norm_done hbx3 ?_
  go_wp2_with fail
  refine norm_done hbx3 ?_
  go_wp2_with fail
  refine norm_done hbx4 ?_
  refine noPanic_normal ?_
  exact bodyPost_end (results_none rfl _ _ _) rfl ⟨rfl, _, hAt, hSt⟩
end Go.Proofs.YtjllkmkngjdjjaaGreatDoor
