/- WALK of shelf.count. No statement of the seed is proved here. -/
import Derived.Test.YtjllkmkngjdjjaaDoorShfB
import Derived.Test.YtjllkmkngjdjjaaDoorStill
import Derived.Test.YtjllkmkngjdjjaaDoorOps
namespace Go.Proofs.YtjllkmkngjdjjaaDoor
open Go.RowKit Go.Shelf
attribute [local go_sem] Oper.semAt_some
set_option maxRecDepth 100000
theorem HandS.steady : Steady HandS :=
  ⟨fun x args W0 W1 W2 ⟨v, e, h⟩ hb => ⟨v, e, owns_below h hb⟩, fun x args W0 W1 l o o' ⟨v, e, h⟩ h0 h1 hc => ⟨v, e, by
    have hs : (W0.putObj l o').heap.size = W0.heap.size := by simp [World.putObj]
    rw [hs]
    refine mods_owns h fun k hk => World.putObj_heap_other (fun e2 => ?_)
    subst e2
    obtain ⟨ob, g1, g2⟩ := owns_isCells h hk
    rw [h1] at g1; cases g1
    rw [hc] at g2; cases g2⟩⟩
/-- How many digests some files have, and how many bytes of the last are torn. -/
def cntS (xs : List (Nat × List UInt8)) : Nat × Nat := xs.foldl (fun a x => (a.1 + x.2.length / 32, x.2.length % 32)) (0, 0)
theorem cntS_snoc (xs : List (Nat × List UInt8)) (x : Nat × List UInt8) : cntS (xs ++ [x]) = ((cntS xs).1 + x.2.length / 32, x.2.length % 32) := by simp [cntS]
theorem Files.bound {s : DSt} {h lv k : Nat} {xs : List (Nat × List UInt8)} (h8 : h ≤ 8) (hF : Files s h lv k xs) : (∀ x ∈ xs, x.2.length ≤ 8192) ∧ (xs = [] ∨ k + xs.length ≤ 281474976710657) := by
  have h32 := shl32 h h8
  induction hF with
  | bad k hv => exact ⟨by simp, .inl rfl⟩
  | none k hv hn => exact ⟨by simp, .inl rfl⟩
  | part k l hv hn hl =>
    have := (tileV_small h lv k (2 ^ h) (by simpa using hv)).1
    exact ⟨by simp; omega, .inr (by simp; omega)⟩
  | full k l hv hn hl xs hx ih =>
    have := (tileV_small h lv k (2 ^ h) (by simpa using hv)).1
    refine ⟨fun x hx => ?_, .inr ?_⟩
    · rcases List.mem_cons.1 hx with rfl | hx
      · simp only [List.length_take]; omega
      · exact ih.1 x hx
    · rcases ih.2 with rfl | h2
      · simp; omega
      · simp at h2 ⊢; omega
theorem cntS_le {xs : List (Nat × List UInt8)} (hx : ∀ x ∈ xs, x.2.length ≤ 8192) : (cntS xs).1 ≤ xs.length * 256 := by
  have : ∀ (xs : List (Nat × List UInt8)) (a : Nat × Nat), (∀ x ∈ xs, x.2.length ≤ 8192) → (xs.foldl (fun a x => (a.1 + x.2.length / 32, x.2.length % 32)) a).1 ≤ a.1 + xs.length * 256 := by
    intro xs
    induction xs with
    | nil => intro a h; simp
    | cons x xs ih =>
      intro a h
      have h1 := h x (by simp)
      have := ih (a.1 + x.2.length / 32, x.2.length % 32) (fun y hy => h y (by simp [hy]))
      simp only [List.foldl_cons, List.length_cons]
      simp only at this
      omega
  have := this xs (0, 0) hx
  simpa [cntS] using this
/-- What count holds between two rounds. -/
structure CntI (W : World) (x : DT) (h lv n t : Nat) (V : World) : Prop where
  n0 : V.cell? ⟨W.heap.size, 0, none⟩ = some (.int .i64 (n : Int))
  f0 : V.frozen? ⟨W.heap.size, 0, none⟩ = false
  n1 : V.cell? ⟨W.heap.size + 1, 0, none⟩ = some (.int .i64 (t : Int))
  f1 : V.frozen? ⟨W.heap.size + 1, 0, none⟩ = false
  k0 : V.cell? ⟨W.heap.size + 2, 0, none⟩ = some (.pointer (some ⟨x.p, 0, none⟩))
  k1 : V.cell? ⟨W.heap.size + 3, 0, none⟩ = some (.int .i64 (h : Int))
  k2 : V.cell? ⟨W.heap.size + 4, 0, none⟩ = some (.int .i64 (lv : Int))
  bel : Below W.heap.size W V
theorem CntI.below {W : World} {x : DT} {h lv n t : Nat} {V V' : World} (c : CntI W x h lv n t V) (hb : Below V.heap.size V V') : CntI W x h lv n t V' :=
  ⟨cell_below hb c.n0, frozen_below hb c.n0 c.f0, cell_below hb c.n1, frozen_below hb c.n1 c.f1, cell_below hb c.k0, cell_below hb c.k1, cell_below hb c.k2, below_then c.bel hb⟩
theorem CntI.turn {W : World} {x : DT} {h lv n t : Nat} {V V' : World} {Bs : Nat} {row : Option Nat} (c : CntI W x h lv n t V) (hB : W.heap.size ≤ Bs) (hg : V.grownBy V' row) (hr : ∀ r, row = some r → Bs ≤ r ∧ ∃ o : Obj, V.heap[r]? = some o ∧ o.isCells = false) : CntI W x h lv n t V' := by
  have h2 : ∀ r, row = some r → ∃ o : Obj, V.heap[r]? = some o ∧ o.isCells = false := fun r e => (hr r e).2
  exact ⟨turn_cell hg h2 c.n0, turn_frozen hg h2 c.n0 c.f0, turn_cell hg h2 c.n1, turn_frozen hg h2 c.n1 c.f1, turn_cell hg h2 c.k0, turn_cell hg h2 c.k1, turn_cell hg h2 c.k2, turn_below hg hr hB c.bel.size c.bel⟩
theorem CntI.read {W : World} {x : DT} {s : DSt} {B h lv n t : Nat} {V : World} (c : CntI W x h lv n t V) (hx : x.At s W B) (hT : TabW W) : ReadS (W.heap.size + 2) x s B h lv V := ⟨c.k0, c.k1, c.k2, hx.below c.bel, tab_below hT c.bel⟩
theorem CntI.set {W : World} {x : DT} {h lv n t : Nat} {V : World} (c : CntI W x h lv n t V) (n' t' : Nat) : CntI W x h lv n' t' ((V.setCell ⟨W.heap.size, 0, none⟩ (.int .i64 (n' : Int))).setCell ⟨W.heap.size + 1, 0, none⟩ (.int .i64 (t' : Int))) :=
  ⟨set_other (set_cell c.n0 _) (by simp) _, set_frozen (set_frozen c.f0 _) _, set_cell (set_other c.n1 (by simp) _) _, set_frozen (set_frozen c.f1 _) _, set_other (set_other c.k0 (by simp) _) (by simp) _, set_other (set_other c.k1 (by simp) _) (by simp) _, set_other (set_other c.k2 (by simp) _) (by simp) _,
    (c.bel.setCell (p := ⟨W.heap.size, 0, none⟩) (Nat.le_refl _) _).setCell (p := ⟨W.heap.size + 1, 0, none⟩) (by show W.heap.size ≤ W.heap.size + 1; omega) _⟩
set_option maxHeartbeats 2000000 in
theorem scount_calls (x : DT) (s : DSt) (W : World) (B : Nat) (hx : x.At s W B) (hT : TabW W) (h lv : Nat) (h1 : 1 ≤ h) (h8 : h ≤ 8) (hfew : Few s) (xs : List (Nat × List UInt8)) (hF : Files s h lv 0 xs) :
    Calls Tryd.prog 18 #[.pointer (some ⟨x.p, 0, none⟩), .int .i64 (h : Int), .int .i64 (lv : Int)] W fun e w' => e = .returned (.tuple #[.int .i64 ((cntS xs).1 : Int), .int .i64 ((cntS xs).2 : Int)]) ∧ Below W.heap.size W w' := by
  obtain ⟨hlen, hxl⟩ := hF.bound h8
  refine (callsIn_wide (n := 9)).1 ?_
  refine callsIn_of_wp_marks Tryd.func18 rfl trivial ?_ rfl
  simp only [Tryd.ntmps18, List.size_toArray, List.length_cons, List.length_nil, Nat.reduceAdd, Nat.reduceSub, Array.replicate_succ, Array.replicate_zero, List.push_toArray, List.append_toArray, List.nil_append, List.cons_append]
  gi_wp2_with (refine ⟨trivial, ?_⟩; gi_at_call 26; refine (callsIn_wide.2 (files_calls _ ⟨_, rfl⟩ h lv _)).mono ?_; rintro e w1 ⟨rfl, hB1, k0, k1, k2⟩)
  have z2 : ((W.alloc (.cells #[.int .i64 0] 3)).alloc (.cells #[.int .i64 0] 3)).heap.size = W.heap.size + 2 := by simp
  have z1 : (W.alloc (.cells #[.int .i64 0] 3)).heap.size = W.heap.size + 1 := by simp
  have hC0 : CntI W x h lv 0 0 w1 := by
    have n0 := new_cell W (.int .i64 0) 3
    have n1 := new_cell (W.alloc (.cells #[.int .i64 0] 3)) (.int .i64 0) 3
    have b1 := below_alloc1 (W.alloc (.cells #[.int .i64 0] 3)) (.cells #[.int .i64 0] 3)
    have f0 := new_frozen W #[.int .i64 0] 3 0
    have f1 := new_frozen (W.alloc (.cells #[.int .i64 0] 3)) #[.int .i64 0] 3 0
    rw [z2] at k0 k1 k2
    rw [z1] at n1 f1
    have m0 := cell_below b1 n0
    exact ⟨cell_below hB1 m0, frozen_below hB1 m0 (frozen_below b1 n0 f0), cell_below hB1 n1, frozen_below hB1 n1 f1, k0, k1, k2, below_then (below_alloc1 _ _) (below_then b1 hB1)⟩
  have hWW : W.heap.size ≤ w1.heap.size := hC0.bel.size
  have HX := Lib.hid hx; clear hx
  clear k0 k1 k2 hB1 z1 z2
  refine wpIn_range2 (by rfl) (by omega) (gf := 35) (lb := #[.pointer (some ⟨W.heap.size + 2, 0, none⟩), .pointer (some ⟨W.heap.size + 2 + 1, 0, none⟩), .pointer (some ⟨W.heap.size + 2 + 2, 0, none⟩)]) (by rfl) trivial (enters_of Tryd.func35 (by kernel_rfl) rfl)
    (files_iter 8 (by omega) (W.heap.size + 2) x s B h lv h1 h8 hfew xs hF) HandS.steady (by rintro x args W0 W1 ⟨v, rfl, _⟩; rfl)
    (fun pre V => CntI W x h lv (cntS pre).1 (cntS pre).2 V) (fun _ _ => False)
    (fun s X Y row h hg hr => h.turn hWW hg hr) (fun s X Y row h hg hr => h) (fun pre V c => c.read HX.out hT) hC0 ?round ?done ?stop
  case round =>
    rintro lp ⟨k, m⟩ args W0 W1 hs0 hb ⟨v', rfl, ho⟩
    gi_wp2
    refine ⟨Below.refl _ _, ?_⟩
    rintro l' pre rest V0 V2 hl' hxs hC hbV ⟨v2, hv2, ho2⟩
    cases hv2
    obtain ⟨A2, c2, ev, -, -, -⟩ := ho2.form
    subst ev
    have hC2 := hC.below hbV
    have d0 := hC2.n0
    have d1 := hC2.n1
    have g0 := hC2.f0
    have g1 := hC2.f1
    have hm := hlen (k, m) (by rw [hxs]; simp)
    simp only at hm
    have hpl : (cntS pre).1 ≤ pre.length * 256 := cntS_le (fun y hy => hlen y (by rw [hxs]; simp [hy]))
    have hpx : pre.length ≤ 281474976710657 := by
      have := congrArg List.length hxs
      simp at this
      rcases hxl with rfl | h2
      · simp at this
      · omega
    have hsn := cntS_snoc pre (k, m)
    have HSN := Lib.hid hsn; clear hsn
    have HS := Lib.hid (hC2.set ((cntS pre).1 + m.length / 32) (m.length % 32))
    clear hC hC2 ho ho2
    gi_wp2
    have HS2 := HS.out
    rw [show (((cntS pre).1 + m.length / 32 : Nat) : Int) = ((cntS pre).1 : Int) + (m.length : Int) / 32 by push_cast; rfl, show ((m.length % 32 : Nat) : Int) = (m.length : Int) % 32 by push_cast; rfl] at HS2
    refine ⟨KeepsFrom.trans' ((KeepsOthers.setCell _ _ _).from _) ((KeepsOthers.setCell _ _ _).from _), ?_⟩
    show CntI W x h lv (cntS (pre ++ [(k, m)])).1 (cntS (pre ++ [(k, m)])).2 _
    rw [HSN.out]
    exact HS2
  case done =>
    rintro D W0 W2 hD hC hb hK
    have hC2 := hC.below hb
    have d0 := hC2.n0
    have d1 := hC2.n1
    have g0 := hC2.f0
    have g1 := hC2.f1
    gi_wp2
    refine to_plain ?_
    refine wp_region_noPanic ?_
    have hKd : W2.drew.heap[D]? = some (.deferred (some [])) := hK
    have d0' : W2.drew.cell? ⟨W.heap.size, 0, none⟩ = some (.int .i64 ((cntS xs).1 : Int)) := d0
    have d1' : W2.drew.cell? ⟨W.heap.size + 1, 0, none⟩ = some (.int .i64 ((cntS xs).2 : Int)) := d1
    have e0 := Lib.hid (congrArg World.drew (setCell_still d0))
    have e1 := Lib.hid (congrArg World.drew (setCell_still d1))
    refine wp_region_rowS (fun w' => w' = W2.drew) [0, 1] [2, 3] (by kernel_rfl) (by kernel_rfl) (fun _ _ _ _ h => h) rfl ?_
    simp only [opsL, List.getElem?_cons_zero, List.getElem?_cons_succ, Option.toList_some, List.singleton_append]
    refine takesS_run rfl (.int .i64 ((cntS xs).1 : Int)) (fun w' hw => by subst hw; exact op_load _ _ rfl _ _ (by rfl) _ (ld_cell Tryd.underlying3 rfl d0)) ?_
    simp only [Act.put, List.setIfInBounds_toArray, List.set_cons_zero, List.set_cons_succ]
    refine takesS_run rfl (.int .i64 ((cntS xs).2 : Int)) (fun w' hw => by subst hw; exact op_load _ _ rfl _ _ (by rfl) _ (ld_cell Tryd.underlying3 rfl d1)) ?_
    simp only [Act.put, List.setIfInBounds_toArray, List.set_cons_zero, List.set_cons_succ]
    simp only [wpTkS]
    simp only [wpRowS, opsL, List.getElem?_cons_zero, List.getElem?_cons_succ, Option.toList_some, List.singleton_append]
    go_wp2_with fail
    refine norm_done e0.out ?_
    rw [e0.out]
    go_wp2_with fail
    refine norm_done e1.out ?_
    rw [e1.out]
    refine noPanic_normal ?_
    rename_i Kx hKx
    refine hKx _ _ ?_
    gi_wp2
    refine ⟨by simp, .inl ⟨_, _, rfl, run_takeDeferred hKd, ?_⟩⟩
    exact ⟨_, by simp [results, Tryd.results18, go_sem, put_cell hKd d0', put_cell hKd d1'], rfl, (hC2.bel.drew).trans (belowK_b (w := W) (Nat.le_refl _) W2.drew D _ _ (by omega) hKd rfl rfl)⟩
  case stop =>
    rintro D c' W0 W _ h
    exact h.elim
end Go.Proofs.YtjllkmkngjdjjaaDoor
