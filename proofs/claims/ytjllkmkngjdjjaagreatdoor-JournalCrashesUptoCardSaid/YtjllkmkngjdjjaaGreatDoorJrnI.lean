/- A WALK of journal.Open. No statement of the seed is proved here. -/
import Derived.Test.YtjllkmkngjdjjaaGreatDoorJrnO
import Derived.Test.YtjllkmkngjdjjaaGreatDoorForkIn
namespace Go.Proofs.YtjllkmkngjdjjaaGreatDoor
open Go.RowKit Go.Shelf
attribute [local go_sem] Oper.semAt_some
set_option maxRecDepth 100000
def gsZ (gs : List Nat) : List Int := gs.map (fun g : Nat => (g : Int))
def jns (gs : List Nat) : List (List UInt8) := gs.map fun g => (jnm g).data.toList
theorem under_ints : Tryz.prog.underlying 167 = some (.slice 3) := by kernel_rfl
theorem wpIn_label {F : Fence} {n : Nat} {P : Program} {l : Nat} {Q : Exit → Act → World → Prop} {a : Act} {w : World} (h : Q .normal a w) : (Code.label l).wpIn F n P Q a w := by
  intro b k cs hro hb hr
  exact ⟨.normal, a, w, h, .one (fenced_calm hb hr rfl) stepR_label⟩
def gsort (gs : List Nat) : List Nat := gs.mergeSort fun x y => decide (x ≤ y)
theorem sortZ_gs (gs : List Nat) : sortZ (gsZ gs) = gsZ (gsort gs) := by
  unfold sortZ gsZ gsort
  rw [List.map_mergeSort]
  intro a _ b _
  simp
theorem gsort_length (gs : List Nat) : (gsort gs).length = gs.length := by unfold gsort; rw [List.length_mergeSort]
theorem gsort_mem (gs : List Nat) (g : Nat) : g ∈ gsort gs ↔ g ∈ gs := by unfold gsort; exact (List.mergeSort_perm gs _).mem_iff
/-- What Open makes of a disk. -/
def OpenS (s : DSt) (gs : List Nat) (g : Nat) (ls : List (List UInt8)) (s' : DSt) : Prop :=
  (gs = [] ∧ g = 1 ∧ ls = [] ∧ s' = s.run (rCreate (jnm 1))) ∨
  ∃ (rest : List Nat) (f : List UInt8), gsort gs = g :: rest ∧ s.fs (jnm g) = some f ∧ ls = (allF f 0).map (·.2) ∧ s' = (dCut (rmAll s (rest.map jnm)) (jnm g) (endF 0 (allF f 0) : Nat)).2
/-- A function is left whose two results lie in cells, over one range. -/
theorem leaves_two_res {F : Fence} {n : Nat} {P : Program} {fn : Func} {tmps : Array Value} {R : Ending → World → Prop} {W : World} {D : Nat} {v : Value} {a b : Addr} {x y : Value}
    (h1 : W.heap[D]? = some (.deferred (some []))) (ha : W.cell? a = some x) (hb : W.cell? b = some y)
    (hr : ∀ W', W'.cell? a = some x → W'.cell? b = some y → (results fn tmps).run P W' = .ok v W') (hR : ∀ W', W.grownBy W' (some D) → R (.returned v) W') :
    LeavesInM F n P fn tmps R [{ target := .collected D, args := #[] }] .returning W := by
  refine ⟨by simp, .inl ⟨_, _, rfl, run_takeDeferred h1, ?_⟩⟩
  exact ⟨_, hr _ (put_cell h1 ha _) (put_cell h1 hb _), hR _ (grown_putObj W h1 _)⟩
theorem two_cells {w : World} {p q : Nat} {a b x y : Value} (hpq : p ≠ q) (h1 : w.cell? ⟨p, 0, none⟩ = some a) (h2 : w.cell? ⟨q, 0, none⟩ = some b) : ((w.setCell ⟨p, 0, none⟩ x).setCell ⟨q, 0, none⟩ y).cell? ⟨p, 0, none⟩ = some x ∧ ((w.setCell ⟨p, 0, none⟩ x).setCell ⟨q, 0, none⟩ y).cell? ⟨q, 0, none⟩ = some y :=
  ⟨(World.cell?_setCell_other _ _ _ _ (by simp)).trans (set_cell h1 _), set_cell ((World.cell?_setCell_other _ _ _ _ (by simp)).trans h2) _⟩
/-- A new journal's cells. -/
theorem jnew_at {w F : World} {B pd g : Nat} (hB : B ≤ w.heap.size) (h : F.heap[w.heap.size]? = some (.cells #[.pointer (some ⟨pd, 0, none⟩), .int .i64 (g : Int), .slice none 0 0] 170)) : (JT.mk w.heap.size (.slice none 0 0) []).At pd g [] F B :=
  ⟨hB, by simp [World.cell?, h], by simp [World.cell?, h], by simp [World.cell?, h], by simp [World.frozen?, h], by simp [World.frozen?, h], World.ownsRow_nil _ _ _ _, Parts.nil _ _ _, fun e => (by cases e), fun u hu => (by cases hu)⟩
set_option maxHeartbeats 1000000 in
theorem jopen_calls (x : DT) (s : DSt) (W : World) (B : Nat) (hx : x.At s W B) (hB : B ≤ W.heap.size) (hT : ∀ w, Below B W w → TabW w) (hF0 : LaidF W) (hsec : 0 < s.sec) (gs : List Nat) (hN : NamesOf s.fs (jns gs)) (hgs : ∀ g ∈ gs, 1 ≤ g ∧ g ≤ 2147483647) (hgl : gs.length ≤ 1000) (hfew : ∀ n f, s.fs n = some f → f.length ≤ 1000000000000)
    (hbig : ∀ q rest f, gsort gs = q :: rest → s.fs (jnm q) = some f → ∀ z ∈ allF f 0, z.2.length ≤ 65535) (hr : s.raws.length + gs.length + 2 ≤ 1000000000000) :
    Calls Tryz.prog 37 #[.pointer (some ⟨x.p, 0, none⟩)] W fun e w' => ∃ (j : JT) (y : DT) (s' : DSt) (g : Nat) (ls : List (List UInt8)), e = .returned (.tuple #[.pointer (some ⟨j.p, 0, none⟩), .int .i64 0]) ∧ OpenS s gs g ls s' ∧ JD j y s' g ls w' B ∧ ONew x W j y w' := by
  have HF0 := Lib.hid hF0
  have HBIG := Lib.hid hbig
  clear hF0 hbig
  have KS := Lib.hid (fun w (hw : Below W.heap.size W w) => dsector_calls x s w B (hx.below hw))
  have HS := Lib.hid hsec
  have hs0 : ((s.sec : Int) == 0) = false := by simp; omega
  clear hsec
  refine (callsIn_wide (n := 9)).1 ?_
  refine callsIn_of_wp_marks Tryz.func37 rfl trivial ?_ rfl
  simp only [Tryz.ntmps37, List.size_toArray, List.length_cons, List.length_nil, Nat.reduceAdd, Nat.reduceSub, Array.replicate_succ, Array.replicate_zero, List.push_toArray, List.append_toArray, List.nil_append, List.cons_append]
  gi_wp2
  refine wpIn_scope_straight ?_
  gi_wp2_with (first
    | (refine wpIn_label ?_)
    | (refine ⟨trivial, ?_⟩; gi_at_call 93; refine (callsIn_wide.2 (KS.out _ (below_then (below_alloc1 W _) (below_alloc1 _ _)))).mono ?_; rintro e w2 ⟨rfl, rfl⟩)
    | (refine ⟨trivial, ?_⟩; gi_at_call 99; refine (callsIn_wide.2 (list_calls _ ⟨_, rfl⟩ _)).mono ?_; rintro e w3 ⟨rfl, hB3, k0⟩))
  have hk1 := new_cell (W.alloc (.cells #[.pointer none] 82)) (.int .i64 0) 25
  have k4 := cell_below hB3 (new_cell ((W.alloc (.cells #[.pointer none] 82)).alloc (.cells #[.int .i64 0] 25)) (.slice none 0 0) 167)
  have f4 := frozen_below hB3 (new_cell ((W.alloc (.cells #[.pointer none] 82)).alloc (.cells #[.int .i64 0] 25)) (.slice none 0 0) 167) (new_frozen _ #[.slice none 0 0] 167 0)
  have hb3 : Below W.heap.size W w3 := below_then (below_alloc1 W _) (below_then (below_alloc1 _ _) (below_then (below_alloc1 _ _) hB3))
  have hb2 := below_then (below_alloc1 (W.alloc (.cells #[.pointer none] 82)) (.cells #[.int .i64 0] 25)) (below_then (below_alloc1 _ _) hB3)
  have k2 := cell_below hb2 (new_cell W (.pointer none) 82)
  have f2 := frozen_below hb2 (new_cell W (.pointer none) 82) (new_frozen W #[.pointer none] 82 0)
  have k3 := cell_below (below_then (below_alloc1 _ _) hB3) hk1
  have f3 := frozen_below (below_then (below_alloc1 _ _) hB3) hk1 (new_frozen _ #[.int .i64 0] 25 0)
  simp only [World.size_alloc] at k0 k4 f4 k3 f3
  have hz3 : W.heap.size + 1 + 1 + 1 < w3.heap.size := World.block_lt_of_cell? _ _ k0
  have HX3 := Lib.hid (show ∀ V, Nearly (W.heap.size + 1 + 1) w3 V → x.At s V B from fun V hV => (hx.below hb3).kept fun k hk => hV.block k (Nat.lt_of_lt_of_le (hx.lt hk) hb3.size) (fun e => by have := hx.lt hk; omega))
  have HLOW := Lib.hid (fun V (hV : Nearly (W.heap.size + 1 + 1) w3 V) => hV.low2 hb3 (by omega))
  have HT := Lib.hid (fun w (hw : Below W.heap.size W w) => hT w (hw.mono hB))
  have HTB := Lib.hid hT
  have hit := list_iter 8 (by omega) (W.heap.size + 1 + 1 + 1) x s B (jns gs) hN (by omega)
  have HG := Lib.hid (And.intro hgs hgl)
  have HNM := Lib.hid hN
  clear hk1 hB3 hN hT hgs hgl hb2
  refine wpIn_rangeM (by rfl) (by omega) (gf := 149) (lb := #[.pointer (some ⟨W.heap.size + 1 + 1 + 1, 0, none⟩)]) (by rfl) trivial (enters_of Tryz.func149 (by kernel_rfl) rfl)
    hit HandN.steady (by rintro x args W0 W1 h; rw [h]; rfl)
    (fun M (pre : List (List UInt8)) V => SAt 3 w3 (W.heap.size + 1 + 1) M (zsL (gsZ (gs.take pre.length))) V) (fun _ _ _ => False)
    (fun M s X Y row (h : SAt 3 w3 (W.heap.size + 1 + 1) M (zsL (gsZ (gs.take s.length))) X) hg hr => SAt.turn h hg hr) (fun M s X Y row h hg hr => h)
    (fun V hV => ⟨cell_below hV k0, HX3.out V (Nearly.of_below hV)⟩)
    (fun V hV => ⟨⟨_, cell_below hV k4, World.ownsRow_nil _ _ _ _⟩, frozen_below hV k4 f4, Nearly.of_below hV, hV.size⟩) ?round ?done ?stop
  case round =>
    rintro lp nm args W0 W1 hs0' hb rfl
    gi_wp2
    refine ⟨Below.refl _ _, fun _ _ => True, trivial, fun _ _ _ _ _ _ _ _ _ => trivial, ?_⟩
    clear hb hs0'
    intro l' M pre rest V0 V2 hl' hsz hM hxs hI hbV _ _
    have hL := hI.below hbV
    obtain ⟨vl, hvl, hol⟩ := hL.vl
    have hvf := hL.fr
    have hpl : pre.length < gs.length := by have := congrArg List.length hxs; simp [jns] at this; omega
    have hnm : (⟨nm.toArray⟩ : ByteArray) = jnm gs[pre.length] := by
      have h := congrArg (fun l : List (List UInt8) => l[pre.length]?) hxs
      simp [jns, hpl] at h
      rw [← h]
    obtain ⟨hg1, hg2⟩ := HG.out.1 _ (List.getElem_mem hpl)
    have KO := Lib.hid (jof_calls gs[pre.length] hg1 hg2 V2 (HT.out _ (HLOW.out V2 hL.near)))
    have hes : zsL (gsZ (gs.take (pre.length + 1))) = zsL (gsZ (gs.take pre.length)) ++ [.int .i64 (gs[pre.length] : Int)] := by rw [List.take_succ_eq_append_getElem hpl]; simp only [gsZ, zsL, List.map_append, List.map_cons, List.map_nil]
    have hsl : (zsL (gsZ (gs.take pre.length))).length = pre.length := by simp [gsZ, zsL]; omega
    rw [hnm]
    have hg0 : ((gs[pre.length] : Int) == 0) = false := by simp; omega
    have hnum : (pre.length + 1 + (pre.length + 1) / 4 + 192) * 8 ≤ 281474976710656 := by have := HG.out.2; omega
    have HES := Lib.hid hes
    have HL := Lib.hid hL
    have hMV := Nat.le_trans hM hbV.size
    have hbig := hL.big
    obtain ⟨Al, cl, rfl, l1, l2, -⟩ := owns_form hol
    have HN := Lib.hid (And.intro hnum (And.intro hMV (And.intro hbig hsl)))
    rw [hsl] at hvl hol
    have HO := Lib.hid hol
    have hplen : (pre ++ [nm]).length = pre.length + 1 := by simp
    have HPL := Lib.hid hplen
    clear hes hL hxs hI hbV hM hsz hl' hnm hg1 hg2 hnum hMV hol hbig hsl l1 hplen
    generalize gs[pre.length] = g at *
    generalize zsL (gsZ (gs.take pre.length)) = us at *
    generalize pre.length = np at *
    clear hpl
    have hblo : some (W.heap.size + 1 + 1) ≠ (Value.slice Al np cl).ownBlock := fun e => by have := owns_ge HO.out _ e.symm; have := HN.out.2.2.1; omega
    gi_wp2_with (first
      | (refine ⟨trivial, ?_⟩; gi_at_call 101; refine (callsIn_wide.2 KO.out).mono ?_; rintro e w5 ⟨rfl, hB5⟩; have hL5 := HL.out.below hB5; have hv5 := cell_below hB5 hvl; have hf5 := frozen_below hB5 hvl hvf)
      | (gi_at_builtin; refine wpListIn_app_row rfl _ _ 167 3 rfl under_ints info_int rfl (by omega) M (.slice Al np cl) rfl np us (owns_below HO.out hB5) (.int .i64 (g : Int)) rfl rfl HN.out.1 (Nat.le_trans HN.out.2.1 hB5.size) ?_; intro vl' V4 ho4 hg4 hat4; have HO4 := Lib.hid ho4; obtain ⟨A4, c4, e4, -⟩ := owns_form ho4; subst e4; have hsl5 : W.heap.size + 1 + 1 < (w5.alloc (.cells #[.int .i64 (g : Int)] 3)).heap.size := (by have : W.heap.size + 1 + 1 < w5.heap.size := World.block_lt_of_cell? _ _ hv5; simp only [World.size_alloc]; omega); have hv4 := (cell_mods (a := ⟨W.heap.size + 1 + 1, 0, none⟩) (hg4.block _ hsl5 hblo)).trans (cell_below (below_alloc1 w5 _) hv5); have hf4 := (frozen_mods (a := ⟨W.heap.size + 1 + 1, 0, none⟩) (hg4.block _ hsl5 hblo)).trans (frozen_below (below_alloc1 w5 _) hv5 hf5)))
    have hbw := below_then hB5 (below_alloc1 w5 (.cells #[.int .i64 (g : Int)] 3))
    have hM5 := Nat.le_trans HN.out.2.1 hbw.size
    have hlen : us.length = np := HN.out.2.2.2
    have hfin := SAt.add (us' := us ++ [.int .i64 (g : Int)]) (HL.out.below hbw) (by omega) hM5 (cell_below hbw hvl) (by rw [hlen]; exact owns_below HO.out hbw) (by rw [List.length_append, hlen]; exact HO4.out) hg4
    rw [← HES.out] at hfin
    exact ⟨KeepsFrom.trans' (KeepsFrom.below _ hbw) hfin.2.2, (SameB.below _ hbw HN.out.2.1).trans hfin.2.1, by show SAt _ _ _ _ (zsL (gsZ (gs.take (pre ++ [nm]).length))) _; rw [HPL.out]; exact hfin.1⟩
  case done =>
    rintro D M W0 V hD hsz hI hb hK
    have hL := hI.below hb
    have hzl : gs.take (jns gs).length = gs := by rw [List.take_of_length_le (by simp [jns])]
    rw [hzl] at hL
    obtain ⟨vl, hvl, hol⟩ := hL.vl
    have hsl : (zsL (gsZ gs)).length = gs.length := by simp [gsZ, zsL]
    rw [hsl] at hol
    have hn2 := hL.near.cell k2 (show W.heap.size ≠ W.heap.size + 1 + 1 by omega)
    have hm2 := hL.near.frozen k2 f2 (show W.heap.size ≠ W.heap.size + 1 + 1 by omega)
    have hn3 := hL.near.cell k3 (show W.heap.size + 1 ≠ W.heap.size + 1 + 1 by omega)
    have hm3 := hL.near.frozen k3 f3 (show W.heap.size + 1 ≠ W.heap.size + 1 + 1 by omega)
    have HXV := Lib.hid (HX3.out V hL.near)
    have HTV := Lib.hid (HT.out _ (HLOW.out V hL.near))
    have HBV := Lib.hid (HLOW.out V hL.near)
    have HOL := Lib.hid hol
    have HL2 := Lib.hid (show W.heap.size + 1 + 1 < M from by have := hL.big; omega)
    have hDV : D < V.heap.size := (Array.getElem?_eq_some_iff.1 hK).1
    have HD := Lib.hid (And.intro hD (And.intro hDV (HLOW.out V hL.near).size))
    obtain ⟨Aa, ca, rfl, q1, q2, -⟩ := owns_form hol
    clear hit hI hb hL hol hsl hzl k0 k4 f4 k2 f2 k3 f3 HX3 HLOW hsz hD
    cases gs with
    | nil =>
      have K1 := Lib.hid (show Calls Tryz.prog 102 #[.int .i64 1] V fun e w' => e = .returned (.tuple #[.string (jnm 1), .int .i64 0]) ∧ Below V.heap.size V w' from jname_ok 1 (by omega) (by omega) V HTV.out)
      have hno : s.fs (jnm 1) = none := by
        cases hf : s.fs (jnm 1) with
        | none => rfl
        | some l =>
          have h := (HNM.out.2 (jnm 1).data.toList).2 (by rw [show (⟨(jnm 1).data.toList.toArray⟩ : ByteArray) = jnm 1 from rfl, hf]; rfl)
          simp [jns] at h
      have d1 : dWrong s (jnm 1) false = 0 := by unfold dWrong; rw [jnm_ok 1 (by omega), hno]; rfl
      have KC := Lib.hid (fun w (hw : Below V.heap.size V w) => dcreate_calls x s (jnm 1) w B (HXV.out.below hw) (Nat.le_trans hB (Nat.le_trans HD.out.2.2 hw.size)) (by simp at hr; omega))
      unfold dCreate at KC
      rw [if_pos d1] at KC
      have HXW := Lib.hid (fun k (hk : x.Has k) => (show k < W.heap.size from hx.lt hk))
      have HVL := Lib.hid (And.intro (show W.heap.size < V.heap.size from World.block_lt_of_cell? _ _ hn2) (show W.heap.size + 1 < V.heap.size from World.block_lt_of_cell? _ _ hn3))
      clear d1 hno hr hx hB
      gi_wp2_with (first
        | (refine ⟨trivial, ?_⟩; gi_at_call 102; refine (callsIn_wide.2 K1.out).mono ?_; rintro e w5 ⟨rfl, hB5⟩)
        | (refine ⟨trivial, ?_⟩; gi_at_call 78; refine (callsIn_wide.2 (KC.out _ hB5)).mono ?_; rintro e w6 ⟨rfl, y, hy, hs6⟩; have n6 := Lib.hid (show ∀ k, W.heap.size ≤ k → k < V.heap.size → w6.heap[k]? = V.heap[k]? from fun k h1 h2 => (hs6.block k (Nat.lt_of_lt_of_le h2 hB5.size) (fun e => Nat.lt_irrefl _ (Nat.lt_of_lt_of_le (HXW.out k (.inl e)) h1))).trans (hB5.block k h2)); have o2 := (mods_cell (a := ⟨W.heap.size, 0, none⟩) (n6.out _ (Nat.le_refl _) HVL.out.1)).trans hn2; have o2f := (mods_frozen (a := ⟨W.heap.size, 0, none⟩) (n6.out _ (Nat.le_refl _) HVL.out.1)).trans hm2; have o3 := (mods_cell (a := ⟨W.heap.size + 1, 0, none⟩) (n6.out _ (Nat.le_succ _) HVL.out.2)).trans hn3; have o3f := (mods_frozen (a := ⟨W.heap.size + 1, 0, none⟩) (n6.out _ (Nat.le_succ _) HVL.out.2)).trans hm3; have p2 := cell_below (below_alloc1 w6 (.cells #[.pointer (some ⟨x.p, 0, none⟩), .int .i64 1, .slice none 0 0] 170)) o2; have p2f := frozen_below (below_alloc1 w6 (.cells #[.pointer (some ⟨x.p, 0, none⟩), .int .i64 1, .slice none 0 0] 170)) o2 o2f; have p3 := cell_below (below_alloc1 w6 (.cells #[.pointer (some ⟨x.p, 0, none⟩), .int .i64 1, .slice none 0 0] 170)) o3; have p3f := frozen_below (below_alloc1 w6 (.cells #[.pointer (some ⟨x.p, 0, none⟩), .int .i64 1, .slice none 0 0] 170)) o3 o3f))
      have hD6 : w6.heap[D]? = some (.deferred (some [])) := (n6.out D (by have := HD.out.1; omega) HD.out.2.1).trans hK
      have hDlt : D < w6.heap.size := (Array.getElem?_eq_some_iff.1 hD6).1
      have hfr : ∀ k, k ≠ W.heap.size → k ≠ W.heap.size + 1 → (((w6.alloc (.cells #[.pointer (some ⟨x.p, 0, none⟩), .int .i64 1, .slice none 0 0] 170)).setCell ⟨W.heap.size, 0, none⟩ (.pointer (some ⟨w6.heap.size, 0, none⟩))).setCell ⟨W.heap.size + 1, 0, none⟩ (.int .i64 0)).heap[k]? = (w6.alloc (.cells #[.pointer (some ⟨x.p, 0, none⟩), .int .i64 1, .slice none 0 0] 170)).heap[k]? := fun k h1 h2 => by
        rw [Below.heap_setCell _ _ _ _ h2, Below.heap_setCell _ _ _ _ h1]
      have hDw := HD.out.1
      have hDF := (hfr D (by omega) (by omega)).trans (((below_alloc1 w6 _).block D hDlt).trans hD6)
      obtain ⟨e2, e3⟩ := two_cells (x := .pointer (some ⟨w6.heap.size, 0, none⟩)) (y := .int .i64 0) (show W.heap.size ≠ W.heap.size + 1 by omega) p2 p3
      refine leaves_two_res (v := .tuple #[.pointer (some ⟨w6.heap.size, 0, none⟩), .int .i64 0]) hDF e2 e3 (fun W' h1 h2 => ?_) (fun W' hg => ?_)
      · simp [results, Tryz.results37, go_sem, h1, h2]
      · refine ⟨⟨w6.heap.size, .slice none 0 0, []⟩, y, _, _, _, rfl, .inl ⟨rfl, rfl, rfl, rfl⟩, ?_⟩
        have z1 := HD.out.2.1
        have z2 := HVL.out
        have z5 := hB5.size
        have z6 := hs6.size
        have hall : ∀ k, k < w6.heap.size + 1 → k ≠ D → k ≠ W.heap.size → k ≠ W.heap.size + 1 → W'.heap[k]? = (w6.alloc (.cells #[.pointer (some ⟨x.p, 0, none⟩), .int .i64 1, .slice none 0 0] 170)).heap[k]? := fun k h0 h1 h2 h3 =>
          (hg.block k (by simp only [World.size_setCell, World.size_alloc]; exact h0) (fun e => h1 (Option.some.inj e))).trans (hfr k h2 h3)
        have hyk : ∀ k, y.Has k → k < w6.heap.size ∧ (k < W.heap.size ∨ V.heap.size ≤ k) := fun k hk => by
          refine ⟨hy.lt hk, ?_⟩
          rcases hs6.hasx hk with h | h
          · exact .inl (HXW.out k h)
          · exact .inr (by omega)
        refine ⟨⟨?_, hy.kept fun k hk => ?_, fun k hk hk2 => ?_⟩, ⟨DStep.fin (hs6.since (below_then HBV.out hB5)) (fun k hk => ?_) hg.os hg.tape hg.output ?_, fun k hk => ?_⟩⟩
        · rw [hs6.p]
          refine jnew_at (g := 1) (by have := hy.lt (.inl (.inl rfl)); have := hy.ge (.inl (.inl rfl)); omega) ?_
          rw [hall _ (by omega) (by omega) (by omega) (by omega)]
          exact heap_alloc_new w6 _
        · obtain ⟨a1, a2⟩ := hyk k hk
          rw [hall k (by omega) (by omega) (by omega) (by omega)]
          exact (below_alloc1 w6 _).block k a1
        · obtain ⟨a1, a2⟩ := hyk k hk2
          rcases hk with rfl | hk | ⟨u, hu, _⟩
          · exact Nat.lt_irrefl _ a1
          · cases hk
          · cases hu
        · rw [hall k (by omega) (by omega) (by omega) (by omega)]
          exact (below_alloc1 w6 _).block k (by omega)
        · have := hg.size
          simp only [World.size_setCell, World.size_alloc] at this
          omega
        · rcases hk with rfl | hk | ⟨u, hu, -⟩
          · show W.heap.size ≤ w6.heap.size
            omega
          · cases hk
          · cases hu
    | cons g0 gr =>
      have hn1 : 1 ≤ (g0 :: gr).length := by simp
      generalize hgs0 : g0 :: gr = gs at *
      have HGS := Lib.hid hgs0
      clear hgs0
      have hsz := HG.out.2
      have KT := Lib.hid (isort_calls HOL.out hn1 (by omega))
      rw [sortZ_gs] at KT
      have c1 : ((gs.length : Int) == 0) = false := by rw [beq_eq_false_iff_ne]; omega
      have hMB := HL2.out
      have hDne : ∀ k, (Value.slice Aa gs.length ca).ownBlock = some k → M ≤ k ∧ k ≠ D := fun k hk => by
        refine ⟨owns_ge HOL.out k hk, fun e => ?_⟩
        subst e
        obtain ⟨ob, g1, g2⟩ := owns_isCells HOL.out hk
        rw [hK] at g1; cases g1; cases g2
      have HDN := Lib.hid hDne
      have HWL := Lib.hid (And.intro (show W.heap.size + 1 + 1 < V.heap.size from World.block_lt_of_cell? _ _ hvl) (show W.heap.size + 1 + 1 < M by omega))
      obtain ⟨g, rest, hgr⟩ : ∃ g rest, gsort gs = g :: rest := by
        cases h : gsort gs with
        | nil => have := gsort_length gs; rw [h] at this; simp at this; omega
        | cons g rest => exact ⟨g, rest, rfl⟩
      obtain ⟨hg1, hg2⟩ := HG.out.1 g ((gsort_mem gs g).1 (by rw [hgr]; simp))
      rw [hgr] at KT
      have HGR := Lib.hid hgr
      have KN := Lib.hid (show ∀ w, Below W.heap.size W w → Calls Tryz.prog 102 #[.int .i64 (g : Int)] w fun e w' => e = .returned (.tuple #[.string (jnm g), .int .i64 0]) ∧ Below w.heap.size w w' from fun w (hw : Below W.heap.size W w) => jname_ok g hg1 hg2 w (HT.out _ hw))
      obtain ⟨f, hf⟩ : ∃ f, s.fs (jnm g) = some f := by
        have h := (HNM.out.2 (jnm g).data.toList).1 (List.mem_map.2 ⟨g, (gsort_mem gs g).1 (by rw [hgr]; simp), rfl⟩)
        exact Option.isSome_iff_exists.1 h
      have d1 : dWrong s (jnm g) true = 0 := by unfold dWrong; rw [jnm_ok g hg2, hf]; rfl
      have hfl := hfew _ f hf
      have hcut : cutB f 0 f.length = f := by unfold cutB; rw [List.drop_zero, Nat.sub_zero, Nat.min_self, List.take_length]
      have KS1 := Lib.hid (fun w (hw : x.At s w B) => dsize_calls x s (jnm g) w B hw)
      have KR1 := Lib.hid (fun w (hw : x.At s w B) => dread_ok x s (jnm g) f 0 f.length w B hw d1 hf (Nat.zero_le _) (by omega) (by omega))
      rw [d1, if_pos rfl, hf] at KS1
      rw [hcut] at KR1
      have HF := Lib.hid (And.intro hf hfl)
      have HXX := Lib.hid (show ∀ w, (∀ k, k < W.heap.size → w.heap[k]? = V.heap[k]?) → x.At s w B from fun w hw => HXV.out.kept fun k hk => hw k (hx.lt hk))
      clear hDne hMB hsz d1 hf hfl hcut
      gi_wp2_with (first
        | (refine ⟨trivial, ?_⟩; gi_at_call 103; refine (callsIn_wide.2 KT.out).mono ?_; rintro e w5 ⟨rfl, ho5, hg5⟩; have n5 := Lib.hid (show ∀ k, k ≤ W.heap.size + 1 + 1 ∨ k = D → k < V.heap.size → w5.heap[k]? = V.heap[k]? from fun k h1 h2 => hg5.block k h2 (fun e => by have := HDN.out k e.symm; have := HWL.out; omega)); have o4 := (mods_cell (a := ⟨W.heap.size + 1 + 1, 0, none⟩) (n5.out _ (.inl (Nat.le_refl _)) HWL.out.1)).trans hvl; obtain ⟨ad, hA, hcell⟩ := (Row.of_owns ho5).at_ 0 (u := .int .i64 (g : Int)) (by simp [zsL, gsZ]); subst hA; have hcell0 : w5.cell? ad = some (.int .i64 (g : Int)) := hcell; have hb5 : Below W.heap.size W w5 := HBV.out.grown hg5 HD.out.2.2 (fun k e => Nat.le_trans (Nat.le_of_lt (Nat.lt_of_le_of_lt (by omega) HWL.out.2)) (HDN.out k e).1); clear hcell; have hbb2 := below_then (below_alloc1 w5 (.cells #[.pointer (some ⟨x.p, 0, none⟩), .int .i64 (g : Int), .slice none 0 0] 170)) (below_alloc1 _ (.cells #[.pointer (some ⟨w5.heap.size, 0, none⟩)] 82)); have o42 := cell_below hbb2 o4; have hc2 := cell_below hbb2 hcell0; have hb7 := below_then hb5 hbb2)
        | (refine ⟨trivial, ?_⟩; gi_at_call 102; refine (callsIn_wide.2 (KN.out _ hb7)).mono ?_; rintro e w6 ⟨rfl, hB6⟩; have hB56 := below_then hbb2 hB6; have hx6 := HXX.out w6 (fun k hk => (hB56.block k (Nat.lt_of_lt_of_le hk hb5.size)).trans (n5.out k (.inl (by omega)) (Nat.lt_of_lt_of_le hk HD.out.2.2))))
        | (refine ⟨trivial, ?_⟩; gi_at_call 75; refine (callsIn_wide.2 (KS1.out _ hx6)).mono ?_; rintro e w7 ⟨rfl, rfl⟩)
        | (refine ⟨trivial, ?_⟩; gi_at_call 100; refine (callsIn_wide.2 (KR1.out _ hx6)).mono ?_; rintro e w8 ⟨v8, rfl, ho8, hB8⟩; obtain ⟨A8, c8, rfl, -, -, -⟩ := ho8.form; have hB58 := below_then hB56 hB8)
        | (refine ⟨trivial, ?_⟩; gi_at_call 104; refine (callsIn_wide.2 (allv_calls _ _ A8 f.length c8 rfl)).mono ?_; rintro e w9 ⟨rfl, hw9⟩))
      obtain ⟨m1, m2, m3, m4, m5, s1, s2, s3, b59, b89⟩ := open_mid hB6 hB8 hw9
      rw [← hw9]
      clear KT KS1 KR1 hB6 hB56 hB58 hb7 hc2 o42 hbb2 hx6 hcell0 hw9 c1
      have hWV := HD.out.2.2
      have zV := hg5.size
      have hwl := HWL.out
      have e59 : ∀ k, k < W.heap.size → w9.heap[k]? = V.heap[k]? := fun k hk => (b59.block k (by omega)).trans (n5.out k (.inl (by omega)) (by omega))
      have HX9 := Lib.hid (HXX.out w9 e59)
      have hbW9 := below_then hb5 b59
      have hlo : W.heap.size ≤ w5.heap.size := hb5.size
      have HP0 := Lib.hid (show OpAt x.p g w5.heap.size w8.heap.size B w9 [] w9 from ⟨⟨⟨w5.heap.size, .slice none 0 0, []⟩, rfl, jnew_at (by omega) m1, fun k hk => .inl (by
        rcases hk with h | h | ⟨u, hu, -⟩
        · exact h
        · cases h
        · cases hu)⟩, m3, m4, Near2.of_below (Below.refl _ _)⟩)
      have HRD := Lib.hid (show ∀ V', Near2 w5.heap.size w8.heap.size w9 V' → ReadF (w8.heap.size + 1) (.slice A8 f.length c8) f V' from fun V' hn => ⟨hn.cell m5 (by show w8.heap.size + 1 ≠ _; omega) (by show w8.heap.size + 1 ≠ _; omega), OwnB.bs (mods_owns ho8 fun k hk => by
          have h1 := ho8.lt k hk
          rw [hn.block k (by omega) (by omega) (by omega)]
          exact b89.block k h1.2), HF0.out.below (hn.low hbW9 hlo (by omega) (by omega))⟩)
      have hit := all_iter 8 (by omega) (w8.heap.size + 1) (.slice A8 f.length c8) f (by have := HF.out.2; omega)
      refine wpIn_range2 (by rfl) (by omega) (gf := 156) (lb := #[.pointer (some ⟨w8.heap.size + 1, 0, none⟩)]) (by rfl) trivial (enters_of Tryz.func156 (by kernel_rfl) rfl)
        hit HandJ.steady (by rintro x args W0 W1 ⟨v, h, -⟩; rw [h]; rfl)
        (fun pre V' => OpAt x.p g w5.heap.size w8.heap.size B w9 pre V') (fun _ _ => False) (fun s X Y row h hg hr => OpAt.turn h hg hr) (fun _ _ _ _ h _ _ => h) (fun pre V' h => HRD.out V' h.near) HP0.out ?round2 ?done2 ?stop2
      case stop2 => rintro D2 c W0 V2 _ h; exact h.elim
      case round2 =>
        rintro lp ⟨nx, m⟩ args Wa Wb hs1 hb ⟨v, rfl, hv⟩
        obtain ⟨Av, cv, rfl, -, -, -⟩ := hv.form
        clear hb hv hs1 hit
        gi_wp2
        refine ⟨Below.refl _ _, ?_⟩
        intro l' pre rst V0 V2 hl' hxs hI hbV hH
        obtain ⟨v2, hv2, hob⟩ := hH
        have hv2 : Value.slice Av m.length cv = v2 := by have := congrArg (fun a : Array Value => a[1]?) hv2; simpa using this
        subst hv2
        have hm : m.length ≤ 65535 := HBIG.out g rest f HGR.out HF.out.1 (nx, m) (by rw [hxs]; simp)
        have hn : pre.length ≤ 1000000000000 := by
          have h1 := allF_len f
          rw [hxs, List.length_append] at h1
          have := HF.out.2
          omega
        have hL := hI.below hbV
        obtain ⟨j, hjp, hjA0, hjk⟩ := hI.j
        have hjA := hjA0.below hbV
        have HLT := Lib.hid (show ∀ k, j.Has k → k < V0.heap.size from fun k hk => hjA0.lt hk)
        clear hjA0
        obtain ⟨Al, cl, evl, -, -, -⟩ := owns_form hjA.row
        have c2 := hjA.c2
        rw [hjp, evl] at c2
        have hpc := hL.near.cell m2 (by show w5.heap.size + 1 ≠ _; omega) (by show w5.heap.size + 1 ≠ _; omega)
        have hpe := hL.e
        have g1 : decide (65535 < m.length) = false := by rw [decide_eq_false_iff_not]; omega
        have g2 : decide ((65535 : Int) < (m.length : Int)) = false := by rw [decide_eq_false_iff_not]; omega
        have g3 : decide ((m.length : Int) > 65535) = false := by rw [decide_eq_false_iff_not]; omega
        have HJ := Lib.hid (And.intro hjp (And.intro hjA (And.intro hjk evl)))
        have HL := Lib.hid hL
        have HOB := Lib.hid hob
        have HN := Lib.hid (And.intro hn hbV)
        have hV0 := hI.near.size
        have HZ := Lib.hid (And.intro hV0 (And.intro s1 (And.intro s2 (And.intro s3 (And.intro hlo hB)))))
        clear hl' hxs hI hbV hv2 hob hm hn hL hjA hjk evl hV0 s1 s2 s3 hlo b59 b89 hbW9 e59 hWV zV hwl m1 m2 m3 m4 m5 hb5 o4 hg5 ho5 ho8 hB8 hK hn2 hm2 hn3 hm3 hvl q1 q2 hDV hgr hg1 hg2 hx hfew hr hB hs0 hb3 hz3 hn1 HDN
        gi_wp2
        have hpc1 := cell_below (below_drew1 V2) hpc
        have c21 := cell_below (below_drew1 V2) c2
        have hb2 := below_alloc1 V2.drew (.cells #[.slice Av m.length cv] 35)
        have hpc2 := cell_below hb2 hpc1
        have c22 := cell_below hb2 c21
        refine wpIn_region_forkN (fun w' => w'.cell? ⟨w5.heap.size + 1, 0, none⟩ = some (.pointer (some ⟨w5.heap.size, 0, none⟩))) [0, 1, 2, 3, 5] 4 6 [7, 8, 9, 10] (by kernel_rfl) (by kernel_rfl) (by kernel_rfl) hpc1 ?_
        simp only [opsL, List.getElem?_cons_zero, List.getElem?_cons_succ, Option.toList_some, List.singleton_append]
        refine takesS_run rfl (.pointer (some ⟨w5.heap.size, 0, none⟩)) (fun w' hw => op_load _ _ rfl _ _ (by rfl) w' (ld_cell Tryz.underlying82 rfl hw)) ?_
        simp only [Act.put, List.setIfInBounds_toArray, List.set_cons_zero, List.set_cons_succ]
        refine takesS_run rfl (.pointer (some ⟨w5.heap.size, 0, none⟩)) (fun w' hw => op_load _ _ rfl _ _ (by rfl) w' (ld_cell Tryz.underlying82 rfl hw)) ?_
        simp only [Act.put, List.setIfInBounds_toArray, List.set_cons_zero, List.set_cons_succ]
        refine takesS_run rfl (.pointer (some ⟨w5.heap.size, 0, none⟩)) (fun w' hw => by go_simp) ?_
        simp only [Act.put, List.setIfInBounds_toArray, List.set_cons_zero, List.set_cons_succ]
        refine takesS_run rfl (.pointer (some ⟨w5.heap.size, 2, none⟩)) (fun w' hw => by go_simp) ?_
        simp only [Act.put, List.setIfInBounds_toArray, List.set_cons_zero, List.set_cons_succ]
        refine takesS_run rfl (.slice Av m.length cv) (fun w' hw => op_move _ rfl _ (by rfl) w') ?_
        simp only [Act.put, List.setIfInBounds_toArray, List.set_cons_zero, List.set_cons_succ]
        simp only [wpTkS]
        refine ⟨_, _, .slice Al (List.map (fun x => x.snd) pre).length cl, .slice (some ⟨V2.drew.heap.size, 0, none⟩) 1 1, _, rfl, rfl, rfl, rfl, op_load _ _ rfl _ _ (by rfl) _ (ld_cell under_lists rfl c21), run_op_one_slice _ rfl Av m.length cv (by rfl), run_op_one_slice _ rfl Av m.length cv (by rfl), op_load _ _ rfl _ _ (by rfl) _ (ld_cell under_lists rfl c22), hpc2, rfl, ?_⟩
        simp only [Act.put, List.setIfInBounds_toArray, List.set_cons_zero, List.set_cons_succ]
        simp only [wpRowS, opsL, List.getElem?_cons_zero, List.getElem?_cons_succ, Option.toList_some, List.singleton_append]
        obtain ⟨hjp, hjA, hjk, evl⟩ := HJ.out
        obtain ⟨hn, hbV⟩ := HN.out
        have hml : (List.map (fun x : Nat × List UInt8 => x.2) pre).length = pre.length := List.length_map _
        have hd := below_drew1 V2
        have hrow := owns_below hjA.row hd
        rw [evl, hml] at hrow
        have hBV : B ≤ V2.drew.heap.size := by have := HL.out.near.size; have := HZ.out.2.2.2.2; have := HZ.out; have := hd.size; omega
        rw [hml]
        refine app_row rfl _ _ 22 35 rfl under_lists info_bs rfl (by omega) B (.slice Al pre.length cl) rfl pre.length j.us hrow (.slice Av m.length cv) rfl rfl (by omega) hBV ?_
        intro v' w6' ho6 hg6 hat6
        obtain ⟨A6, c6, rfl, -⟩ := owns_form ho6
        have hvl' : j.vl = .slice Al pre.length cl := by rw [evl, hml]
        have hd0 := hd.size
        have hnr := HL.out.near.size
        obtain ⟨hV0, s1, s2, s3, hlo, hB0⟩ := HZ.out
        have hVV := hbV.size
        have hblk : ∀ k, k < V2.heap.size → ¬ j.vl.ownBlock = some k → w6'.heap[k]? = V2.drew.heap[k]? := fun k hk hne => by
          rw [hvl'] at hne
          rw [hg6.block k (by simp only [World.size_alloc]; omega) (fun e => hne e.symm)]
          exact (below_alloc1 V2.drew _).block k (by omega)
        have bjp := hblk w5.heap.size (by omega) (fun e => hjA.vp (by rw [hjp]; exact e))
        have bpc := hblk (w5.heap.size + 1) (by omega) (fun e => by
          rcases hjk _ (.inr (.inl e)) with h | h
          · omega
          · omega)
        have bpe := hblk w8.heap.size (by omega) (fun e => by
          rcases hjk _ (.inr (.inl e)) with h | h
          · omega
          · omega)
        have c26 := (mods_cell (a := ⟨w5.heap.size, 2, none⟩) bjp).trans c21
        have hf2 := (hjA.below hd).f2
        rw [hjp] at hf2
        have f26 := (mods_frozen (a := ⟨w5.heap.size, 2, none⟩) bjp).trans hf2
        have p26 := (mods_cell (a := ⟨w5.heap.size + 1, 0, none⟩) bpc).trans hpc1
        have e21 := (HL.out.below hd).e
        have ef21 := (HL.out.below hd).ef
        have e26 := (mods_cell (a := ⟨w8.heap.size, 0, none⟩) bpe).trans e21
        have ef26 := (mods_frozen (a := ⟨w8.heap.size, 0, none⟩) bpe).trans ef21
        have e27 := set_other (a := ⟨w5.heap.size, 2, none⟩) e26 (by show w5.heap.size ≠ w8.heap.size; omega) (.slice A6 (pre.length + 1) c6)
        have ef27 := set_frozen (a := ⟨w5.heap.size, 2, none⟩) ef26 (.slice A6 (pre.length + 1) c6)
        have p27 := set_other (a := ⟨w5.heap.size, 2, none⟩) p26 (by show w5.heap.size ≠ w5.heap.size + 1; omega) (.slice A6 (pre.length + 1) c6)
        have hfin := OpAt.add (x := (nx, m)) hjp (hjA.below hd) hjk e21 ef21 (HL.out.below hd).near (by omega) (by omega) (by omega) hV0 ((HOB.out).below hd) (fun k hk hj => by
          have h1 := (HOB.out).lt k hk
          have h2 := HLT.out k hj
          omega) ho6 (by rw [hvl']; exact hg6) (by rw [hvl']; exact hat6) rfl
        have HFIN := Lib.hid hfin
        have HD2 := Lib.hid hd
        clear hfin hblk bjp bpc bpe c21 hf2 e21 ef21 hpc1 hpc2 c22 hb2 hpc c2 hpe hrow hBV hg6 hat6 ho6 hvl' hjA hjk evl hml hd0 hnr hV0 s1 s2 s3 hlo hB0 hVV hbV hn hd HJ HLT HL HOB HN HZ HP0 HRD HX9
        refine wpList_done p26 ?_
        simp only [Act.put, List.setIfInBounds_toArray, List.set_cons_zero, List.set_cons_succ]
        go_wp2_with fail
        refine norm_done p26 ?_
        go_wp2_with fail
        refine norm_done p26 ?_
        go_wp2_with fail
        refine norm_done p27 ?_
        refine onlyN_normal ?_
        first
          | (rename_i Kx hKx; refine hKx _ _ ?_)
          | (rename_i Kx hKx Qx hQx; refine hKx _ _ ?_)
        gi_wp2
        exact ⟨KeepsFrom.trans' (KeepsFrom.below _ HD2.out) HFIN.out.2, HFIN.out.1⟩
      case done2 =>
        rintro D2 Wz V2 hD2 hI2 hb2 hK2
        have hL := hI2.below hb2
        obtain ⟨j, hjp, hjA, hjk⟩ := hL.j
        have hnr := hL.near
        have hns := hnr.size
        have zl := gsort_length gs
        rw [hgr, List.length_cons] at zl
        have e29 : ∀ k, k < w5.heap.size → V2.heap[k]? = w5.heap[k]? := fun k hk => (hnr.block k (by omega) (by omega) (by omega)).trans (b59.block k hk)
        have e2V : ∀ k, k ≤ W.heap.size + 1 + 1 ∨ k = D → k < V.heap.size → V2.heap[k]? = V.heap[k]? := fun k h1 h2 => (e29 k (by omega)).trans (n5.out k h1 h2)
        have HX2 := Lib.hid (HX9.out.kept fun k hk => hnr.block k (by have := hx.lt hk; omega) (by have := hx.lt hk; omega) (by have := hx.lt hk; omega))
        have hbW2 := hnr.low hbW9 hlo (by omega) (by omega)
        have k2 := (mods_cell (a := ⟨W.heap.size, 0, none⟩) (e2V _ (by left; show W.heap.size ≤ _; omega) (by show W.heap.size < _; omega))).trans hn2
        have kf2 := (mods_frozen (a := ⟨W.heap.size, 0, none⟩) (e2V _ (by left; show W.heap.size ≤ _; omega) (by show W.heap.size < _; omega))).trans hm2
        have k3 := (mods_cell (a := ⟨W.heap.size + 1, 0, none⟩) (e2V _ (by left; show W.heap.size + 1 ≤ _; omega) (by show W.heap.size + 1 < _; omega))).trans hn3
        have kf3 := (mods_frozen (a := ⟨W.heap.size + 1, 0, none⟩) (e2V _ (by left; show W.heap.size + 1 ≤ _; omega) (by show W.heap.size + 1 < _; omega))).trans hm3
        have k4 := (mods_cell (a := ⟨W.heap.size + 1 + 1, 0, none⟩) (e29 _ (by show W.heap.size + 1 + 1 < _; omega))).trans o4
        have kD := (e2V D (.inr rfl) hDV).trans hK
        have kpc := hnr.cell m2 (by show w5.heap.size + 1 ≠ _; omega) (by show w5.heap.size + 1 ≠ _; omega)
        have kpe := hL.e
        have hrow := row_mods (w' := V2) (Row.of_owns ho5) fun k hk => e29 k (owns_lt ho5 k hk)
        have hrow2 := Row.subX hrow (by simp [zsL, gsZ]; omega) 1 hn1
        have hzt := zTail (some ad) gs.length ca 1 1 rfl hn1 q1
        have hdr : (zsL (gsZ (g :: rest))).drop 1 = zsL (gsZ rest) := rfl
        have hnl : gs.length - 1 = rest.length := by omega
        rw [hdr, hnl] at hrow2
        rw [hnl] at hzt
        have hAb : ∀ ad', (if ca = 1 then some ad else Option.map (fun x => x.add 1) (some ad)) = some ad' → M ≤ ad'.block := fun ad' e => by
          have hM := owns_ge ho5 ad.block rfl
          split at e
          · cases e; exact hM
          · cases e; rw [addr_blk]; exact hM
        generalize (if ca = 1 then some ad else Option.map (fun x => x.add 1) (some ad)) = A' at *
        generalize ca - 1 = c' at *
        have hnod : ∀ k, j.Has k → k ≠ D ∧ k ≠ D2 := fun k hk => by
          obtain ⟨ob, q1, q2⟩ := hjA.cells hk
          refine ⟨fun e => ?_, fun e => ?_⟩
          · subst e; rw [kD] at q1; cases q1; cases q2
          · subst e; rw [hK2] at q1; cases q1; cases q2
        have KNA := Lib.hid (show ∀ q ∈ rest, ∀ w, TabW w → Calls Tryz.prog 102 #[.int .i64 (q : Int)] w fun e w' => e = .returned (.tuple #[.string (jnm q), .int .i64 0]) ∧ Below w.heap.size w w' from fun q hq w hw => by
          obtain ⟨a1, a2⟩ := HG.out.1 q ((gsort_mem gs q).1 (by rw [hgr]; simp [hq]))
          exact jname_ok q a1 a2 w hw)
        have HDD := Lib.hid (And.intro hD2 (And.intro kD hK2))
        have HJJ := Lib.hid (And.intro hjp (And.intro hjA (And.intro hjk hnod)))
        have HSZ := Lib.hid (And.intro hns (And.intro s1 (And.intro s2 (And.intro s3 (And.intro hlo (And.intro zV (And.intro hwl.1 (And.intro hwl.2 hAb))))))))
        have HR2 := Lib.hid hrow2
        have HRS := Lib.hid (And.intro hx (And.intro hfew (And.intro hr hB)))
        have HB2 := Lib.hid hbW2
        have hrl : rest.length ≤ 1000 := by have := HG.out.2; omega
        have HRL := Lib.hid (And.intro hrl (And.intro zl (And.intro hDV hz3)))
        clear hAb hL hjA hjk hnr hns e29 e2V hbW2 hrow hrow2 hdr hnod hD2 hb2 hI2 b59 b89 hbW9 e59 hWV zV hwl m1 m2 m3 m4 m5 s1 s2 s3 hlo hb5 o4 hg5 ho5 ho8 hB8 hn2 hm2 hn3 hm3 hvl q1 q2 hDV hx hfew hr hB hb3 hz3 HDN zl HOL HXX HX9 HP0 HRD hit hgr n5 hn1 kD
        gi_wp2
        clear hzt k4 hrl
        gi_loopw [103] (fun i wr => ∃ (k : Nat) (y : DT), k ≤ rest.length ∧ i = .int .i64 (k : Int) ∧ y.p = x.p ∧ y.At (rmAll s ((rest.take k).map jnm)) wr B ∧ DStep x V2 y wr) (fun i _ => rest.length - (intOf i).toNat)
        case atStart => exact ⟨0, x, Nat.zero_le _, rfl, rfl, HX2.out, DStep.of_below (Below.refl _ _)⟩
        case round =>
          obtain ⟨k, y, hk, rfl, hyp, hy, hst⟩ := hrel
          have hB2 : B ≤ V2.heap.size := by have := HB2.out.size; have := HRS.out.2.2.2; omega
          have hBr : B ≤ wr.heap.size := by have := hst.size; omega
          have hbB : Below B W wr := ⟨hst.os.trans HB2.out.os, hst.tape.trans HB2.out.tape, hst.output.trans HB2.out.output, Nat.le_trans HB2.out.size hst.size, fun q hq => (hst.block q (by omega) (fun hm => by have := HX2.out.ge (.inl hm); omega)).trans (HB2.out.block q (by have := HRS.out.2.2.2; omega))⟩
          have hkeep : ∀ q, W.heap.size ≤ q → q < V2.heap.size → wr.heap[q]? = V2.heap[q]? := fun q h1 h2 => hst.block q h2 (fun hm => by have := HRS.out.1.lt (.inl hm); omega)
          have hrw := rmAll_raws ((rest.take k).map jnm) s
          have hrfs := fun (m : ByteArray) (l : List UInt8) (h : (rmAll s ((rest.take k).map jnm)).fs m = some l) => HRS.out.2.1 m l (rmAll_fs _ h)
          rw [List.length_map, List.length_take] at hrw
          have hrq : (rmAll s ((rest.take k).map jnm)).raws.length + 1 ≤ 1000000000000 := by have := HRS.out.2.2.1; have := HRL.out; omega
          have HKP := Lib.hid hkeep
          have HST := Lib.hid hst
          by_cases hlt : k < rest.length
          · have hu : (zsL (gsZ rest))[k]? = some (.int .i64 (rest[k] : Int)) := by simp [zsL, gsZ, hlt]
            obtain ⟨A0, hA, hcell0⟩ := HR2.out.at_ k hu
            subst hA
            have hcell := (mods_cell (hkeep (A0.add k).block (by have := HSZ.out.2.2.2.2.2.2.2.2 A0 rfl; have := HSZ.out; rw [addr_blk]; omega) (World.block_lt_of_cell? _ _ hcell0))).trans hcell0
            obtain ⟨hwk, n1, n2, n3, n4⟩ := lt_nums hlt (by have := HRL.out; omega)
            have htk := List.take_succ_eq_append_getElem hlt
            have hrm : rmAll s ((rest.take (k + 1)).map jnm) = (dRemove (rmAll s ((rest.take k).map jnm)) (jnm rest[k])).2 := by rw [htk, List.map_append, List.map_cons, List.map_nil, rmAll_snoc]
            have KN1 := Lib.hid (KNA.out rest[k] (List.getElem_mem hlt) wr (HTB.out wr hbB))
            have KR1 := Lib.hid (fun w (hw : Below wr.heap.size wr w) => hyp ▸ dremove_calls y _ (jnm rest[k]) w B (hy.below hw) (Nat.le_trans hBr hw.size) hrq)
            have HRM := Lib.hid hrm
            have HLT := Lib.hid hlt
            have HYP := Lib.hid hyp
            clear htk hrm hu hcell0 hbB hkeep hy hst hrw hrfs hrq hk hBr hB2
            generalize rest[k] = q at *
            generalize rmAll s ((rest.take k).map jnm) = sk at *
            clear hlt
            gi_wp2_with (first
              | (refine ⟨trivial, ?_⟩; gi_at_call 102; refine (callsIn_wide.2 KN1.out).mono ?_; rintro e wa ⟨rfl, hBa⟩)
              | (refine ⟨trivial, ?_⟩; gi_at_call 73; refine (callsIn_wide.2 (KR1.out _ hBa)).mono ?_; rintro e wb ⟨rfl, y2, hy2, hs2⟩))
            go_roundw
            case rel => exact ⟨k + 1, y2, HLT.out, by first | rw [hwk] | rfl, hs2.p.trans HYP.out, by rw [HRM.out]; exact hy2, HST.out.trans ((DStep.of_below hBa).trans hs2)⟩
            case measure => first | (rw [hwk]; exact down_next HLT.out) | exact down_next HLT.out
          · have hkn : k = rest.length := by omega
            subst hkn
            rw [List.take_length] at hy hrw hrfs hrq
            have zz : W.heap.size + 1 < V2.heap.size ∧ w5.heap.size + 1 < V2.heap.size ∧ W.heap.size ≤ w5.heap.size + 1 ∧ w8.heap.size < V2.heap.size ∧ W.heap.size ≤ w8.heap.size := by have := HSZ.out; omega
            have KC := Lib.hid (show Calls Tryz.prog 76 #[.pointer (some ⟨x.p, 0, none⟩), .string (jnm g), .int .i64 (endF 0 (allF f 0) : Nat)] wr _ from hyp ▸ dcut_calls y _ (jnm g) (endF 0 (allF f 0) : Nat) wr B hy hBr hrq (fun l hl => by have := hrfs _ l hl; omega))
            have qpe := (mods_cell (a := ⟨w8.heap.size, 0, none⟩) (hkeep _ zz.2.2.2.2 zz.2.2.2.1)).trans kpe
            have HYP := Lib.hid hyp
            have ZZ := Lib.hid zz
            clear hyp hst hB2 hBr hbB hkeep hk hy hrw hrfs hrq hlt zz kpe KNA HKP
            obtain ⟨sk, hsk⟩ : ∃ sk, rmAll s (List.map jnm rest) = sk := ⟨_, rfl⟩
            rw [hsk] at KC
            have HSK := Lib.hid hsk
            clear hsk
            gi_wp2_with (first
              | (refine ⟨trivial, ?_⟩; gi_at_call 76; refine (callsIn_wide.2 KC.out).mono ?_; rintro e wc ⟨rfl, y2, hy2, hs2⟩; have hk2 := Lib.hid (show ∀ q, W.heap.size ≤ q → q < V2.heap.size → wc.heap[q]? = V2.heap[q]? from fun q h1 h2 => (HST.out.trans hs2).block q h2 (fun hm => absurd (HRS.out.1.lt (.inl hm)) (Nat.not_lt.2 h1))); have r2 := (mods_cell (a := ⟨W.heap.size, 0, none⟩) (hk2.out _ (Nat.le_refl _) (Nat.lt_of_succ_lt ZZ.out.1))).trans k2; have rf2 := (mods_frozen (a := ⟨W.heap.size, 0, none⟩) (hk2.out _ (Nat.le_refl _) (Nat.lt_of_succ_lt ZZ.out.1))).trans kf2; have r3 := (mods_cell (a := ⟨W.heap.size + 1, 0, none⟩) (hk2.out _ (Nat.le_succ _) ZZ.out.1)).trans k3; have rf3 := (mods_frozen (a := ⟨W.heap.size + 1, 0, none⟩) (hk2.out _ (Nat.le_succ _) ZZ.out.1)).trans kf3; have rpc := (mods_cell (a := ⟨w5.heap.size + 1, 0, none⟩) (hk2.out _ ZZ.out.2.2.1 ZZ.out.2.1)).trans kpc))
            rw [Exit.noGoto_ret]
            gi_wp2
            obtain ⟨hD2, kD, hK2⟩ := HDD.out
            obtain ⟨-, hjA, hjk, hnod⟩ := HJJ.out
            have hst2 := HST.out.trans hs2
            have hsz := HSZ.out
            have hDa := HD.out.1
            have hD2V : D2 < V2.heap.size := (Array.getElem?_eq_some_iff.1 hK2).1
            have hDV := HRL.out.2.2.1
            have hz3 := HRL.out.2.2.2
            have zwc := hst2.size
            have hWB := HB2.out.size
            have hfr : ∀ q, q ≠ W.heap.size → q ≠ W.heap.size + 1 → ((wc.setCell ⟨W.heap.size, 0, none⟩ (.pointer (some ⟨w5.heap.size, 0, none⟩))).setCell ⟨W.heap.size + 1, 0, none⟩ (.int .i64 0)).heap[q]? = wc.heap[q]? := fun q h1 h2 => by
              rw [Below.heap_setCell _ _ _ _ h2, Below.heap_setCell _ _ _ _ h1]
            have hDF := (hfr D (by omega) (by omega)).trans ((hk2.out D (by omega) (by omega)).trans kD)
            have hD2F := (hfr D2 (by omega) (by omega)).trans ((hk2.out D2 (by omega) (by omega)).trans hK2)
            obtain ⟨e2, e3⟩ := two_cells (x := .pointer (some ⟨w5.heap.size, 0, none⟩)) (y := .int .i64 0) (show W.heap.size ≠ W.heap.size + 1 by omega) r2 r3
            refine leaves_two_res2 (v := .tuple #[.pointer (some ⟨w5.heap.size, 0, none⟩), .int .i64 0]) hDF hD2F (by omega) e2 e3 (fun W' h1 h2 => ?_) (fun W' i1 i2 i3 i4 i5 => ?_)
            · simp [results, Tryz.results37, go_sem, h1, h2]
            · simp only [World.size_setCell] at i4
              have hall : ∀ q, q ≠ D → q ≠ D2 → q ≠ W.heap.size → q ≠ W.heap.size + 1 → W'.heap[q]? = wc.heap[q]? := fun q h1 h2 h3 h4 => (i5 q h1 h2).trans (hfr q h3 h4)
              have hjW : ∀ q, j.Has q → W.heap.size + 2 ≤ q ∧ q < V2.heap.size := fun q hq => ⟨by rcases hjk q hq with h | h <;> omega, hjA.lt hq⟩
              have hyk : ∀ q, y2.Has q → q < W.heap.size ∨ V2.heap.size ≤ q := fun q hq => (hst2.hasx hq).imp (fun h => HRS.out.1.lt h) id
              refine ⟨j, y2, _, g, _, by rw [hjp], by rw [HGS.out]; exact .inr ⟨rest, f, HGR.out, HF.out.1, rfl, by rw [HSK.out]⟩, ⟨?_, hy2.kept fun q hq => ?_, fun q hq hq2 => ?_⟩, ⟨DStep.fin (hst2.since HB2.out) (fun q hq => ?_) i1 i2 i3 (by omega), fun q hq => by have := hjW q hq; omega⟩⟩
              · rw [hst2.p]
                exact hjA.kept fun q hq => by
                  obtain ⟨h1, h2⟩ := hjW q hq
                  obtain ⟨h3, h4⟩ := hnod q hq
                  rw [hall q h3 h4 (by omega) (by omega)]
                  exact hk2.out q (by omega) h2
              · have := hyk q hq
                exact hall q (by omega) (by omega) (by omega) (by omega)
              · have h1 := hjW q hq
                have h2 := hyk q hq2
                omega
              · exact hall q (by omega) (by omega) (by omega) (by omega)
  case stop => rintro D M c W0 V hD hsz hI; exact hI.elim
end Go.Proofs.YtjllkmkngjdjjaaGreatDoor
