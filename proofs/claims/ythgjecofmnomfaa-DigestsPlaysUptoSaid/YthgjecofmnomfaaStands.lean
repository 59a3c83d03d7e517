/- WALK of coppicelaw16.stands: an index tells what the reference's does. No statement of the seed is proved here. -/
import Derived.Test.YthgjecofmnomfaaDigI
import Derived.Test.YthgjecofmnomfaaRefC
import Derived.Test.YthgjecofmnomfaaQuietC
import Derived.Shelf.Abstract
namespace Go.Proofs.Ythgjecofmnomfaa
open Go.RowKit Go.Shelf
attribute [local go_sem] Oper.semAt_some
set_option maxRecDepth 100000

/-- An index and the reference's, side by side. -/
structure Side (B : Nat) (x : IxT) (vi vn : Value) (items : List Item) (ns : List Nat) (w : World) : Prop where
  at_ : x.At w B
  ref : RefV w vi vn items ns
  good : Good x.rs items
  lens : x.rs.map List.length = ns
theorem Side.below {B : Nat} {x : IxT} {vi vn : Value} {items : List Item} {ns : List Nat} {w w' : World} (h : Side B x vi vn items ns w) (hb : Below w.heap.size w w') : Side B x vi vn items ns w' := ⟨h.at_.below hb, h.ref.below hb, h.good, h.lens⟩
def boxes4 (w : World) (vi vn : Value) (d : List UInt8) : World := (((w.alloc (.cells #[vi, vn] 54)).alloc (.cells (u8s d).toArray 34)).alloc (.cells #[.bool false] 4)).alloc (.cells #[.int .i64 0] 3)
/-- The boxes of 'stands'. -/
structure SBox (w : World) (vi vn : Value) (d : List UInt8) (W : World) : Prop where
  bel : Below w.heap.size w W
  b0 : W.cell? ⟨w.heap.size, 0, none⟩ = some vi
  b1 : W.cell? ⟨w.heap.size, 1, none⟩ = some vn
  dg : W.rangeAt (w.heap.size + 1) 0 (u8s d)
  r0 : W.cell? ⟨w.heap.size + 1 + 1, 0, none⟩ = some (.bool false)
  f0 : W.frozen? ⟨w.heap.size + 1 + 1, 0, none⟩ = false
theorem sBox (w : World) (vi vn : Value) (d : List UInt8) : SBox w vi vn d (boxes4 w vi vn d) ∧ (boxes4 w vi vn d).cell? ⟨w.heap.size + 1 + 1 + 1, 0, none⟩ = some (.int .i64 0) ∧ (boxes4 w vi vn d).frozen? ⟨w.heap.size + 1 + 1 + 1, 0, none⟩ = false ∧ (boxes4 w vi vn d).heap.size = w.heap.size + 1 + 1 + 1 + 1 := by
  unfold boxes4
  have hb4 := below_alloc1 (((w.alloc (.cells #[vi, vn] 54)).alloc (.cells (u8s d).toArray 34)).alloc (.cells #[.bool false] 4)) (.cells #[.int .i64 0] 3)
  have hb3 := below_then (below_alloc1 ((w.alloc (.cells #[vi, vn] 54)).alloc (.cells (u8s d).toArray 34)) (.cells #[.bool false] 4)) hb4
  have hb2 := below_then (below_alloc1 (w.alloc (.cells #[vi, vn] 54)) (.cells (u8s d).toArray 34)) hb3
  have hr := new_cell ((w.alloc (.cells #[vi, vn] 54)).alloc (.cells (u8s d).toArray 34)) (.bool false) 4
  have hfr := new_frozen ((w.alloc (.cells #[vi, vn] 54)).alloc (.cells (u8s d).toArray 34)) #[.bool false] 4 0
  have hn := new_cell (((w.alloc (.cells #[vi, vn] 54)).alloc (.cells (u8s d).toArray 34)).alloc (.cells #[.bool false] 4)) (.int .i64 0) 3
  have hfn := new_frozen (((w.alloc (.cells #[vi, vn] 54)).alloc (.cells (u8s d).toArray 34)).alloc (.cells #[.bool false] 4)) #[.int .i64 0] 3 0
  have q0 := cell_below hb4 hr
  have q1 := frozen_below hb4 hr hfr
  have hdg := rangeAt_below (range_new (w.alloc (.cells #[vi, vn] 54)) d) hb3
  simp only [World.size_alloc] at q0 q1 hn hfn hdg
  exact ⟨⟨below_then (below_alloc1 _ _) hb2, cell_below hb2 (cell_of_row _ w.heap.size 0 _ _ (0, 0) (heap_alloc_new w _)), cell_below hb2 (cell_of_row _ w.heap.size 1 _ _ (0, 0) (heap_alloc_new w _)), hdg, q0, q1⟩, hn, hfn, by simp⟩
theorem SBox.later {w W W' : World} {vi vn : Value} {d : List UInt8} (h : SBox w vi vn d W) (hb : Below W.heap.size W W') : SBox w vi vn d W' :=
  ⟨h.bel.trans (hb.mono h.bel.size), cell_below hb h.b0, cell_below hb h.b1, rangeAt_below h.dg hb, cell_below hb h.r0, frozen_below hb h.r0 h.f0⟩
/-- All but one block of its own is as it was. -/
theorem SBox.nearly {w W W' : World} {vi vn : Value} {d : List UInt8} {b : Nat} (h : SBox w vi vn d W) (hn : Nearly b W W') (hb : w.heap.size + 3 ≤ b) : SBox w vi vn d W' :=
  ⟨⟨hn.os.trans h.bel.os, hn.tape.trans h.bel.tape, hn.output.trans h.bel.output, Nat.le_trans h.bel.size hn.size, fun k hk => (hn.block k (Nat.lt_of_lt_of_le hk h.bel.size) (by omega)).trans (h.bel.block k hk)⟩,
    hn.cell h.b0 (by show w.heap.size ≠ b; omega), hn.cell h.b1 (by show w.heap.size ≠ b; omega), fun j u hu => hn.cell (h.dg j u hu) (by show w.heap.size + 1 ≠ b; omega), hn.cell h.r0 (by show w.heap.size + 1 + 1 ≠ b; omega), hn.frozen h.r0 h.f0 (by show w.heap.size + 1 + 1 ≠ b; omega)⟩
theorem Side.in {B : Nat} {x : IxT} {vi vn : Value} {items : List Item} {ns : List Nat} {w W : World} {d : List UInt8} (h : Side B x vi vn items ns w) (hs : SBox w vi vn d W) : Side B x vi vn items ns W := h.below hs.bel
/-- Where the loop over the runs' lengths stands. -/
structure LS (va : Value) (ns : List Nat) (wB : World) (j : Nat) (wr : World) : Prop where
  cells : ∀ g, va.ownBlock = some g → ∀ q (h : q < ns.length), j ≤ q → wr.cell? ⟨g, q, none⟩ = some (.int .i64 ((ns[q]'h : Nat) : Int))
  fr : ∀ g, va.ownBlock = some g → ∀ q, wr.frozen? ⟨g, q, none⟩ = false
  os : wr.os = wB.os
  tape : wr.tape = wB.tape
  output : wr.output = wB.output
  size : wB.heap.size ≤ wr.heap.size
  block : ∀ k, k < wB.heap.size → va.ownBlock ≠ some k → wr.heap[k]? = wB.heap[k]?
theorem owns_frozen {w : World} {B : Nat} {e : TypeId} {s n : Nat} {v : Value} {xs : List Value} (h : w.ownsRow B e s v n xs) {g : Nat} (hg : v.ownBlock = some g) (j : Nat) : w.frozen? ⟨g, j, none⟩ = false := by
  rcases h with ⟨hl, ⟨rfl, hn⟩ | ⟨g', cap, cur, rfl, hb, hg', -⟩⟩
  · cases hg
  · cases hg
    unfold World.frozen?
    simp only [hg']
    simp
theorem LS.start {va : Value} {ns : List Nat} {wB : World} {B : Nat} (h : wB.ownsRow B 3 1 va ns.length (natsL ns)) : LS va ns wB 0 wB := by
  refine ⟨fun g hg q hq _ => ?_, fun g hg q => owns_frozen h hg q, rfl, rfl, rfl, Nat.le_refl _, fun _ _ _ => rfl⟩
  obtain ⟨A, c, rfl, -⟩ := owns_form h
  obtain ⟨ad, hA, hc⟩ := (Row.of_owns h).at_ q (natsL_get ns q hq)
  subst hA
  obtain ⟨g', hg'⟩ := owns_addr h (by omega)
  cases hg'
  cases hg
  rwa [add_plain] at hc
theorem LS.below {va : Value} {ns : List Nat} {wB wr w' : World} {j : Nat} (h : LS va ns wB j wr) (hv : ∀ g, va.ownBlock = some g → g < wB.heap.size) (hb : Below wr.heap.size wr w') : LS va ns wB j w' :=
  ⟨fun g hg q hq hj => cell_below hb (h.cells g hg q hq hj), fun g hg q => by
    rw [frozen_mods (hb.block g (Nat.lt_of_lt_of_le (hv g hg) h.size))]; exact h.fr g hg q, hb.os.trans h.os, hb.tape.trans h.tape, hb.output.trans h.output, Nat.le_trans h.size hb.size, fun k hk hn => (hb.block k (Nat.lt_of_lt_of_le hk h.size)).trans (h.block k hk hn)⟩
theorem LS.set {va : Value} {ns : List Nat} {wB wr : World} {j g : Nat} (h : LS va ns wB j wr) (hg : va.ownBlock = some g) (x : Value) : LS va ns wB (j + 1) (wr.setCell ⟨g, j, none⟩ x) := by
  refine ⟨fun g' hg' q hq hj => ?_, fun g' hg' q => set_frozen (h.fr g' hg' q) _, h.os, h.tape, h.output, by simpa [World.setCell] using h.size, fun k hk hn => ?_⟩
  · exact (World.cell?_setCell_other wr _ _ x (by intro e; cases e; omega)).trans (h.cells g' hg' q hq (by omega))
  · rw [Below.heap_setCell _ _ _ _ (by show k ≠ g; intro e; exact hn (by rw [e]; exact hg))]
    exact h.block k hk hn
theorem LS.cell {va : Value} {ns : List Nat} {wB wr : World} {j : Nat} (h : LS va ns wB j wr) {a : Addr} {v : Value} (hc : wB.cell? a = some v) (hn : va.ownBlock ≠ some a.block) : wr.cell? a = some v := (cell_mods (h.block _ (World.block_lt_of_cell? wB a hc) hn)).trans hc
/-- The boxes, in the loop. -/
theorem SBox.ls {w W W' : World} {vi vn va : Value} {d : List UInt8} {ns : List Nat} {j : Nat} (h : SBox w vi vn d W) (hn : LS va ns W j W') (hv : ∀ g, va.ownBlock = some g → w.heap.size + 1 + 1 + 1 ≤ g) : SBox w vi vn d W' :=
  have hne : ∀ k, k < w.heap.size + 1 + 1 + 1 → va.ownBlock ≠ some k := fun k hk e => by have := hv k e; omega
  ⟨⟨hn.os.trans h.bel.os, hn.tape.trans h.bel.tape, hn.output.trans h.bel.output, Nat.le_trans h.bel.size hn.size, fun k hk => (hn.block k (Nat.lt_of_lt_of_le hk h.bel.size) (hne k (by omega))).trans (h.bel.block k hk)⟩,
    hn.cell h.b0 (hne _ (by show w.heap.size < _; omega)), hn.cell h.b1 (hne _ (by show w.heap.size < _; omega)), fun j u hu => hn.cell (h.dg j u hu) (hne _ (by show w.heap.size + 1 < _; omega)), hn.cell h.r0 (hne _ (by show w.heap.size + 1 + 1 < _; omega)),
    (frozen_mods (hn.block _ (World.block_lt_of_cell? W _ h.r0) (hne _ (by show w.heap.size + 1 + 1 < _; omega)))).trans h.f0⟩
set_option maxHeartbeats 4000000 in
theorem stands_calls (x : IxT) (B : Nat) (vi vn : Value) (items : List Item) (ns : List Nat) (d : List UInt8) (hd : d.length = 32) (w : World) (h : Side B x vi vn items ns w) :
    Calls Try.prog 18 #[.pointer (some ⟨x.p, 0, none⟩), .agg #[vi, vn], .agg (u8s d).toArray] w fun e w' => e = .returned (.bool true) ∧ Below w.heap.size w w' := by
  obtain ⟨hsb, hn0, hnf, hsz⟩ := sBox w vi vn d
  have HS := Lib.hid h
  obtain ⟨A, c, rfl, a1, a2⟩ := h.ref.itm.form
  obtain ⟨A2, c2, e2, a3, a4⟩ := row_form h.ref.runs
  subst e2
  clear h
  refine (callsIn_wide (n := 9)).1 ?_
  refine callsIn_of_wp_marks Try.func18 rfl trivial ?_ rfl
  simp only [Try.ntmps18, List.size_toArray, List.length_cons, List.length_nil, Nat.reduceAdd, Nat.reduceSub, Array.replicate_succ, Array.replicate_zero, List.push_toArray, List.append_toArray, List.nil_append, List.cons_append]
  have hfn := fun f cs bs W => eql_func_nil (P := Try.prog) 48 _ _ _ Try.underlying48 f cs bs W
  have HSB := Lib.hid hsb
  unfold boxes4 at HSB hn0 hnf hsz
  have tokA : True := trivial
  clear hsb
  gi_wp2_with (first
    | (refine ⟨trivial, ?_⟩; gi_at_call 16; have _t := tokA; refine (callsIn_wide.2 (all_calls _ _)).mono ?_; clear tokA; rintro e w6 ⟨rfl, hB6, -⟩)
    | (refine ⟨trivial, ?_⟩; gi_at_call 16; refine (callsIn_wide.2 (all_calls _ _)).mono ?_; rintro e w7 ⟨rfl, hB7, hc7⟩))
  have hs6 := hB6.size
  rw [hsz] at hB6 hs6
  have hbs : Below (w.heap.size + 1 + 1 + 1 + 1) _ w7 := hB6.trans (hB7.mono hs6)
  have HSB7 := Lib.hid (HSB.out.later (by rw [hsz]; exact hbs))
  have k0 := (hbs.cell (p := ⟨w.heap.size + 1 + 1 + 1, 0, none⟩) (by show w.heap.size + 1 + 1 + 1 < _; omega)).trans hn0
  have kf := (hbs.frozen (p := ⟨w.heap.size + 1 + 1 + 1, 0, none⟩) (by show w.heap.size + 1 + 1 + 1 < _; omega)).trans hnf
  have hs7 := hB7.size
  clear HSB hn0 hnf hsz hB6 hB7 hbs
  generalize w6.heap.size = bq at *
  have hbi : w.heap.size + 1 + 1 + 1 < w7.heap.size := by omega
  have HSV := Lib.hid (fun V (hV : Nearly (w.heap.size + 1 + 1 + 1) w7 V) => HSB7.out.nearly hV (Nat.le_refl _))
  have hit := digAll_iter 8 (by omega) bq x.p x.vr x.us x.rs
  rw [HS.out.good.all] at hit
  have hnew : items.length ≤ 1000000 := HS.out.ref.few
  refine wpIn_rangeM rfl (by omega) (gf := 31) (lb := #[.pointer (some ⟨bq, 0, none⟩)]) (by rfl) trivial (enters_of Try.func31 (by kernel_rfl) rfl)
    hit HandI.steady (by rintro x args W0 W1 ⟨h, -⟩; rw [h]; rfl)
    (fun _ pre V => KAt w7 (w.heap.size + 1 + 1 + 1) pre.length V) (fun _ _ _ => False)
    (fun M s X Y row h hg hr => KAt.turn h hg hr) (fun M s X Y row h hg hr => h)
    (fun V hV => ⟨cell_below hV hc7, (HS.out.in (HSV.out V (Nearly.of_below hV))).at_.read⟩)
    (fun V hV => ⟨cell_below hV k0, frozen_below hV k0 kf, Nearly.of_below hV⟩) ?round ?done ?stop
  case round =>
    rintro lp y args W0 W1 hs0 hb ⟨rfl, y32⟩
    have HST := Lib.hid (store_digest_new W1 y32)
    have hrn := range_new W1 y.1
    gi_wp2_with (first | (refine wpListIn_store_run rfl 34 _ _ rfl _ _ rfl rfl _ (HST.out _ rfl) ?_; simp only [Act.put]))
    refine ⟨below_alloc1 _ _, BoxD W1.heap.size y.1, hrn, BoxD.turn, ?_⟩
    generalize W1.heap.size = bx at *
    clear HST hrn
    intro l' M' pre rest V0 V2 hl' hsz2 hM hxs hI hbV _ hbox
    have hL := hI.below hbV
    have hX := HSV.out V2 hL.near
    have hci := hL.i
    have hfi := hL.fr
    have hc0 := hX.b0
    have hpl : pre.length < items.length := by rw [hxs]; simp
    have hyx : items[pre.length] = y := by
      have : items[pre.length]? = some y := by rw [hxs]; simp
      rw [List.getElem?_eq_getElem hpl] at this
      exact Option.some.inj this
    obtain ⟨g, o, c3, e3, m1, m2, hra⟩ := (HS.out.in hX).ref.itm.at_ (HS.out.ref.wid) pre.length hpl
    cases e3
    rw [hyx] at hra
    have LA := Lib.hid (fun w' (hq : ∃ n, w' = V2.drewN n) => (show (Instr.loadAt 34 (.pointer (some ⟨g, o + pre.length * 33, none⟩))).run Try.prog w' = .ok (.agg (u8s y.1).toArray) w' by obtain ⟨n, rfl⟩ := hq; exact load_digest y32 (range_digest y32 (rangeAt_drewN hra n))))
    have LB := Lib.hid (fun w' (hq : ∃ n, w' = V2.drewN n) => (show (Instr.loadAt 34 (.pointer (some ⟨bx, 0, none⟩))).run Try.prog w' = .ok (.agg (u8s y.1).toArray) w' by obtain ⟨n, rfl⟩ := hq; exact load_digest y32 (rangeAt_drewN hbox n)))
    have hplc := range_place y32 hra
    have g3 : decide ((items.length : Int) ≤ (pre.length : Int)) = false := by rw [decide_eq_false_iff_not]; omega
    have g4 : decide (items.length ≤ pre.length) = false := by rw [decide_eq_false_iff_not]; omega
    have g5 : (0 : Int) ≤ (pre.length : Int) := by omega
    have g6 : (pre.length : Int) < (items.length : Int) := by omega
    have g7 : (pre.length : Int) + 1 ≤ 9223372036854775807 := by omega
    have g8 : ((y.2 : Int) != (y.2 : Int)) = false := by simp
    have HL := Lib.hid hL
    clear hra hbox hL hxs hI hyx hX
    gi_wp2
    refine wpIn_region_quiet_any (by kernel_rfl) (by kernel_rfl) (by kernel_rfl) ?_
    gi_big_quiet_step (fail)
    gi_big_quiet_step (fail)
    gi_big_quiet_step (fail)
    gi_big_quiet_step (fail)
    gi_big_quiet_step (fail)
    gi_big_quiet_step (fail)
    refine wpQuietIn_run (by rfl) (fun _ => by simp [Oper.about]) (.agg (u8s y.1).toArray) (fun w' hw => run_op_load _ _ rfl _ _ (by rfl) w' (LB.out w' hw)) ?_
    simp only [Act.put, List.setIfInBounds_toArray, List.set_cons_zero, List.set_cons_succ]
    gi_big_quiet_step (fail)
    gi_big_quiet_step (fail)
    gi_big_quiet_step (fail)
    gi_big_quiet_step (fail)
    gi_big_quiet_step (fail)
    refine wpQuietIn_run (by rfl) (fun _ => by simp [Oper.about]) (.agg (u8s y.1).toArray) (fun w' hw => run_op_load _ _ rfl _ _ (by rfl) w' (LA.out w' hw)) ?_
    simp only [Act.put, List.setIfInBounds_toArray, List.set_cons_zero, List.set_cons_succ]
    refine wpQuietIn_run (by rfl) (fun _ => by simp [Oper.about]) (.bool (y.1 != y.1)) (fun w' _ => run_op_neq _ _ _ rfl y.1 y.1 y32 y32 (by rfl) (by rfl) w') ?_
    simp only [Act.put, List.setIfInBounds_toArray, List.set_cons_zero, List.set_cons_succ]
    have hbn : (y.1 != y.1) = false := by simp
    rw [hbn]
    repeat (gi_big_quiet_step (fail))
    refine wpQuietIn_nil ?_
    intro _ hw'; obtain ⟨nq, hw''⟩ := hw'; subst hw''
    have hD := below_drewN (Below.refl V2.heap.size V2) nq
    generalize V2.drewN nq = V3 at hD ⊢
    have hL3 := HL.out.below hD
    have hM3 : M' ≤ V2.heap.size := Nat.le_trans hM hbV.size
    clear LA LB hbn g3 g4 hci hfi hc0 HL g8 hplc
    have hci3 := hL3.i
    have hfi3 := hL3.fr
    gi_wp2
    have hset := hL3.set (pre.length + 1) (by omega) (w7.heap.size + 2) M' (by omega)
    rw [show ((pre.length + 1 : Nat) : Int) = (pre.length : Int) + 1 by omega] at hset
    exact ⟨KeepsFrom.trans' (KeepsFrom.below _ hD) hset.2.2, (SameB.below _ hD hM3).trans hset.2.1, by show KAt _ _ (pre ++ [y]).length _; rw [show (pre ++ [y]).length = pre.length + 1 by simp]; exact hset.1⟩
  case stop =>
    rintro D M c' W0 W _ _ h
    exact h.elim
  case done =>
    intro D M W0 V hD hsz2 hI hb hK
    have hL := hI.below hb
    have hX := HSV.out V hL.near
    have hci := hL.i
    have hnl : x.rs.length ≤ 1000000 := by have := count_le HS.out.good.ne; have := HS.out.good.perm.length_eq; omega
    have HXV := Lib.hid hX
    have KR := Lib.hid (fun W' (hW : SBox w (.slice A items.length c) (.slice A2 ns.length c2) d W') => (show Calls Try.prog 14 #[.pointer (some ⟨x.p, 0, none⟩)] W' fun e w' => ∃ v, e = .returned v ∧ w'.ownsRow W'.heap.size 3 1 v ns.length (natsL ns) ∧ Below W'.heap.size W' w' from by
      have h := runs_calls x.p x.vr x.us x.rs W' (HS.out.in hW).at_.read hnl
      rw [HS.out.lens] at h
      have e : x.rs.length = ns.length := by rw [← HS.out.lens]; simp
      rw [e] at h
      exact h))
    have hVs : w.heap.size + 1 + 1 + 1 + 1 ≤ V.heap.size := by have := hL.near.size; omega
    have hDV : D < V.heap.size := (Array.getElem?_eq_some_iff.1 hK).1
    have hDw : w.heap.size + 1 + 1 + 1 + 1 ≤ D := by omega
    have tokB : True := trivial
    clear hit hI hL hX k0 kf hc7 hb hsz2 HSV HSB7
    gi_wp2_with (first
      | (refine ⟨trivial, ?_⟩; gi_at_call 14; have _t := tokB; refine (callsIn_wide.2 (KR.out V HXV.out)).mono ?_; clear tokB; rintro e wA ⟨va, rfl, hva, hBA⟩; have HVA := Lib.hid hva; obtain ⟨Aa, ca, ea, -, -, -⟩ := owns_form hva; subst ea; have HXA := Lib.hid (HXV.out.later hBA); clear hva)
      | (refine ⟨trivial, ?_⟩; gi_at_call 14; refine (callsIn_wide.2 (KR.out wA HXA.out)).mono ?_; rintro e wB ⟨vb, rfl, hvb, hBB⟩; have HVB := Lib.hid hvb; obtain ⟨Ab, cb, eb, -, -, -⟩ := owns_form hvb; subst eb; have HXB := Lib.hid (HXA.out.later hBB); clear hvb))
    have hBV := below_then hBA hBB
    have ci := cell_below hBV hci
    have x0 := HXB.out.b0
    have x1 := HXB.out.b1
    have hKB := mark_below hBV hK
    have HVA2 := Lib.hid (owns_below HVA.out hBB)
    have hgeA := Lib.hid (owns_ge HVA.out)
    have hltA := Lib.hid (fun g hg => Nat.lt_of_lt_of_le (owns_lt HVA.out g hg) hBB.size)
    have hABne := Lib.hid (fun g (hg : (Value.slice Aa ns.length ca).ownBlock = some g) gb (hgb : (Value.slice Ab ns.length cb).ownBlock = some gb) => (show gb ≠ g from fun e => by have := owns_lt HVA.out g hg; have := owns_ge HVB.out gb hgb; omega))
    have hBs : V.heap.size ≤ wB.heap.size := hBV.size
    have KL := Lib.hid (fun w' (hw : Below wB.heap.size wB w') => (show Calls Try.prog 15 #[.pointer (some ⟨x.p, 0, none⟩)] w' fun e w'' => e = .returned (.int .i64 (items.length : Int)) ∧ Below wB.heap.size wB w'' from by
      have h := len_calls x.p x.vr x.us x.rs w' (HS.out.in (HXB.out.later hw)).at_.read hnl
      rw [HS.out.good.perm.length_eq] at h
      exact h.mono fun _ _ ⟨h1, h2⟩ => ⟨h1, hw.trans (h2.mono hw.size)⟩))
    clear KR hci hK HXA hBA hBB HVA
    refine to_plain ?_
    refine wp_region_litC (C := fun w' => Below wB.heap.size wB w') (below_drew1 wB) (by kernel_rfl) (by kernel_rfl) ?_
    refine wpQuiet_run (by rfl) (.int .i64 (items.length : Int)) (fun w' hw => run_op_load _ _ rfl _ _ (by rfl) w' (load_cell Try.underlying3 rfl (cell_below hw ci))) ?_
    simp only [Act.put, List.setIfInBounds_toArray, List.set_cons_zero, List.set_cons_succ]
    refine wpQuiet_run (by rfl) (.pointer (some ⟨w.heap.size, 0, none⟩)) (fun w' hw => by go_simp) ?_
    simp only [Act.put, List.setIfInBounds_toArray, List.set_cons_zero, List.set_cons_succ]
    refine wpQuiet_run (by rfl) (.slice A items.length c) (fun w' hw => run_op_load _ _ rfl _ _ (by rfl) w' (load_cell under_ritems rfl (cell_below hw x0))) ?_
    simp only [Act.put, List.setIfInBounds_toArray, List.set_cons_zero, List.set_cons_succ]
    refine wpQuiet_run (by rfl) (.int .i64 (items.length : Int)) (fun w' hw => by go_simp) ?_
    simp only [Act.put, List.setIfInBounds_toArray, List.set_cons_zero, List.set_cons_succ]
    refine wpQuiet_run (by rfl) (.bool false) (fun w' hw => by go_simp) ?_
    simp only [Act.put, List.setIfInBounds_toArray, List.set_cons_zero, List.set_cons_succ]
    refine wpQuiet_run (by rfl) (.bool false) (fun w' hw => run_op_move _ rfl _ (by rfl) w') ?_
    simp only [Act.put, List.setIfInBounds_toArray, List.set_cons_zero, List.set_cons_succ]
    refine wpQuiet_run (by rfl) (.pointer (some ⟨x.p, 0, none⟩)) (fun w' hw => run_op_move _ rfl _ (by rfl) w') ?_
    simp only [Act.put, List.setIfInBounds_toArray, List.set_cons_zero, List.set_cons_succ]
    refine wpQuiet_call (by rfl) _ _ (.int .i64 (items.length : Int)) (fun w' hw => by go_simp) (fun w' hw => KL.out w' hw) ?_
    simp only [Act.put, List.setIfInBounds_toArray, List.set_cons_zero, List.set_cons_succ]
    refine wpQuiet_run (by rfl) (.int .i64 (items.length : Int)) (fun w' hw => run_op_load _ _ rfl _ _ (by rfl) w' (load_cell Try.underlying3 rfl (cell_below hw ci))) ?_
    simp only [Act.put, List.setIfInBounds_toArray, List.set_cons_zero, List.set_cons_succ]
    refine wpQuiet_run (by rfl) (.bool false) (fun w' hw => by go_simp) ?_
    simp only [Act.put, List.setIfInBounds_toArray, List.set_cons_zero, List.set_cons_succ]
    refine wpQuiet_run (by rfl) (.bool false) (fun w' hw => by go_simp) ?_
    simp only [Act.put, List.setIfInBounds_toArray, List.set_cons_zero, List.set_cons_succ]
    refine wpQuiet_run (by rfl) (.bool false) (fun w' hw => run_op_move _ rfl _ (by rfl) w') ?_
    simp only [Act.put, List.setIfInBounds_toArray, List.set_cons_zero, List.set_cons_succ]
    refine wpQuiet_run (by rfl) (.slice Aa ns.length ca) (fun w' hw => run_op_move _ rfl _ (by rfl) w') ?_
    simp only [Act.put, List.setIfInBounds_toArray, List.set_cons_zero, List.set_cons_succ]
    refine wpQuiet_run (by rfl) (.int .i64 (ns.length : Int)) (fun w' hw => by go_simp) ?_
    simp only [Act.put, List.setIfInBounds_toArray, List.set_cons_zero, List.set_cons_succ]
    refine wpQuiet_run (by rfl) (.pointer (some ⟨w.heap.size, 1, none⟩)) (fun w' hw => by go_simp) ?_
    simp only [Act.put, List.setIfInBounds_toArray, List.set_cons_zero, List.set_cons_succ]
    refine wpQuiet_run (by rfl) (.slice A2 ns.length c2) (fun w' hw => run_op_load _ _ rfl _ _ (by rfl) w' (load_cell Try.underlying37 rfl (cell_below hw x1))) ?_
    simp only [Act.put, List.setIfInBounds_toArray, List.set_cons_zero, List.set_cons_succ]
    refine wpQuiet_run (by rfl) (.int .i64 (ns.length : Int)) (fun w' hw => by go_simp) ?_
    simp only [Act.put, List.setIfInBounds_toArray, List.set_cons_zero, List.set_cons_succ]
    refine wpQuiet_run (by rfl) (.bool false) (fun w' hw => by go_simp) ?_
    simp only [Act.put, List.setIfInBounds_toArray, List.set_cons_zero, List.set_cons_succ]
    refine wpQuiet_run (by rfl) (.bool false) (fun w' hw => by go_simp) ?_
    simp only [Act.put, List.setIfInBounds_toArray, List.set_cons_zero, List.set_cons_succ]
    refine wpQuiet_run (by rfl) (.bool false) (fun w' hw => run_op_move _ rfl _ (by rfl) w') ?_
    simp only [Act.put, List.setIfInBounds_toArray, List.set_cons_zero, List.set_cons_succ]
    refine wpQuiet_run (by rfl) (.slice Ab ns.length cb) (fun w' hw => run_op_move _ rfl _ (by rfl) w') ?_
    simp only [Act.put, List.setIfInBounds_toArray, List.set_cons_zero, List.set_cons_succ]
    refine wpQuiet_run (by rfl) (.int .i64 (ns.length : Int)) (fun w' hw => by go_simp) ?_
    simp only [Act.put, List.setIfInBounds_toArray, List.set_cons_zero, List.set_cons_succ]
    refine wpQuiet_run (by rfl) (.slice Aa ns.length ca) (fun w' hw => run_op_move _ rfl _ (by rfl) w') ?_
    simp only [Act.put, List.setIfInBounds_toArray, List.set_cons_zero, List.set_cons_succ]
    refine wpQuiet_run (by rfl) (.int .i64 (ns.length : Int)) (fun w' hw => by go_simp) ?_
    simp only [Act.put, List.setIfInBounds_toArray, List.set_cons_zero, List.set_cons_succ]
    refine wpQuiet_run (by rfl) (.bool false) (fun w' hw => by go_simp) ?_
    simp only [Act.put, List.setIfInBounds_toArray, List.set_cons_zero, List.set_cons_succ]
    refine wpQuiet_run (by rfl) (.bool false) (fun w' hw => by go_simp) ?_
    simp only [Act.put, List.setIfInBounds_toArray, List.set_cons_zero, List.set_cons_succ]
    refine wpQuiet_nil ?_
    intro wr0 hw0
    have HXr := Lib.hid (HXB.out.later hw0)
    have HVAr := Lib.hid (owns_below HVA2.out hw0)
    have HVBr := Lib.hid (owns_below HVB.out hw0)
    have hKr := Lib.hid (mark_below hw0 hKB)
    have hBr := Lib.hid hw0
    have hws := hw0.size
    have HROW := Lib.hid ((HS.out.in HXr.out).ref.runs)
    clear KL hw0 ci x0 x1 hKB HXB HVA2 HVB
    go_wp2
    gi_wp2
    gi_loopw [12] (fun i wr => ∃ j : Nat, j ≤ ns.length ∧ i = .int .i64 (j : Int) ∧ Hid (LS (.slice Aa ns.length ca) ns wr0 j wr)) (fun i _ => ns.length - (intOf i).toNat)
    case atStart => exact ⟨0, by omega, rfl, Lib.hid (LS.start HVAr.out)⟩
    case round =>
      obtain ⟨j, hj, rfl, HLS⟩ := hrel
      by_cases hlt : j < ns.length
      · obtain ⟨ga, eA⟩ := owns_addr HVAr.out (by omega)
        subst eA
        obtain ⟨gb, eB⟩ := owns_addr HVBr.out (by omega)
        subst eB
        obtain ⟨adn, eN, hcw⟩ := HS.out.ref.runs.at_ j (natsL_get ns j hlt)
        subst eN
        have hga := hgeA.out ga rfl
        have hgl := hltA.out ga rfl
        have hgab := hABne.out ga rfl gb rfl
        have hXj := HXr.out.ls HLS.out (fun g hg => by have := hgeA.out g hg; omega)
        have hadn := World.block_lt_of_cell? w _ hcw
        have cca := HLS.out.cells ga rfl j hlt (Nat.le_refl _)
        have cfr := HLS.out.fr ga rfl j
        have ccr := hXj.b1
        have ccn := HLS.out.cell (cell_below HXr.out.bel hcw) (fun e => by have e2 : ga = (adn.add j).block := Option.some.inj e; omega)
        have ccb : wr.cell? ⟨gb, j, none⟩ = some (.int .i64 ((ns[j] : Nat) : Int)) := by
          obtain ⟨ad, e, hc⟩ := (Row.of_owns HVBr.out).at_ j (natsL_get ns j hlt)
          cases e
          rw [add_plain] at hc
          exact HLS.out.cell hc (by intro e; cases e; exact hgab rfl)
        have j0 : (0 : Int) ≤ (j : Int) := Int.natCast_nonneg _
        have j1 : (j : Int) < (ns.length : Int) := by omega
        have hmx : ns.length ≤ 9223372036854775807 := by have := HS.out.ref.few2; omega
        have hne1 : ga ≠ (adn.add j).block := by omega
        have hne2 : ga ≠ w.heap.size := by omega
        have hne3 : ga ≠ gb := fun e => hgab e.symm
        generalize ns[j] = q at *
        clear hXj hcw
        gi_wp2
        refine to_plain ?_
        go_quiet (fail)
        have hD1 := below_drewN (Below.refl wr.heap.size wr) nq
        have HL1 := Lib.hid (HLS.out.below (fun g hg => Nat.lt_of_lt_of_le (hltA.out g hg) hws) hD1)
        have cca1 := cell_below hD1 cca
        have cfr1 := frozen_below hD1 cca cfr
        have ccr1 := set_other (a := ⟨ga, j, none⟩) (cell_below hD1 ccr) hne2 (.int .i64 (-1))
        have ccn1 := set_other (a := ⟨ga, j, none⟩) (cell_below hD1 ccn) hne1 (.int .i64 (-1))
        have ccb1 := set_other (a := ⟨ga, j, none⟩) (cell_below hD1 ccb) hne3 (.int .i64 (-1))
        have HL2 := Lib.hid (HL1.out.set (g := ga) rfl (.int .i64 (-1)))
        generalize wr.drewN nq = w1 at *
        clear cca ccr ccn ccb cfr HL1 HLS hD1
        go_wp2
        gi_wp2
        generalize w1.setCell ⟨ga, j, none⟩ (.int .i64 (-1)) = w2 at *
        refine to_plain ?_
        go_quiet (fail)
        have hD2 := below_drewN (Below.refl w2.heap.size w2) nq
        have HL3 := Lib.hid (HL2.out.below (fun g hg => Nat.lt_of_lt_of_le (hltA.out g hg) hws) hD2)
        generalize w2.drewN nq = w3 at *
        clear ccr1 ccn1 ccb1 cca1 cfr1 HL2 hD2
        go_wp2
        gi_wp2
        go_roundw
        case rel => exact ⟨j + 1, by omega, by go_num, HL3⟩
        case measure => simp [intOf]; omega
      · have hXj := HXr.out.ls HLS.out (fun g hg => by have := hgeA.out g hg; omega)
        have hS := HS.out.in hXj
        have KF := find_calls x.p x.vr x.us x.rs d wr hS.at_.read hd
        have hge := HS.out.good.find d
        have hfv : findV x.rs.flatten d = findV items d := by unfold findV; rw [hge]
        rw [hfv] at KF
        have HKF := Lib.hid KF
        have hld := load_digest hd hXj.dg
        have x0 := hXj.b0
        have x1 := hXj.b1
        have HXj := Lib.hid hXj
        have hKj : wr.heap[D]? = some (.deferred (some [])) := (HLS.out.block D (by have := (Array.getElem?_eq_some_iff.1 hKr.out).1; exact this) (fun e => by have := hgeA.out D e; omega)).trans hKr.out
        have HKj := Lib.hid hKj
        rcases hq : findV items d with ⟨fi, fb⟩
        rw [hq] at HKF
        have KRF := Lib.hid (fun w4 (hB4 : Below wr.heap.size wr w4) => (show Calls Try.prog 33 #[.agg #[.slice A items.length c, .slice A2 ns.length c2], .agg (u8s d).toArray] w4 fun e w' => e = .returned (.tuple #[.int .i64 fi, .bool fb]) ∧ Below w4.heap.size w4 w' from by
          have h := rfind_calls _ _ items ns d hd w4 (HS.out.in (HXj.out.later hB4)).ref
          rw [hq] at h
          exact h))
        have HBD := Lib.hid hXj.bel
        have hDj : w.heap.size + 1 + 1 + 1 + 1 ≤ D := hDw
        clear KF hge hfv hXj hS hq hKj HLS
        gi_wp2_with (first
          | (refine wpListIn_load_run rfl 34 _ rfl _ _ rfl hld ?_)
          | (refine ⟨trivial, ?_⟩; gi_at_call 13; refine (callsIn_wide.2 HKF.out).mono ?_; rintro e w4 ⟨rfl, hB4⟩; have HX4 := Lib.hid (HXj.out.later hB4); have hld4 := load_digest hd HX4.out.dg; have y0 := HX4.out.b0; have y1 := HX4.out.b1)
          | (refine wpListIn_load_run rfl 34 _ rfl _ _ rfl hld4 ?_)
          | (refine ⟨trivial, ?_⟩; gi_at_call 33; refine (callsIn_wide.2 (KRF.out w4 hB4)).mono ?_; rintro e w5 ⟨rfl, hB5⟩; have HX5 := Lib.hid (HX4.out.later hB5); have z0 := HX5.out.r0; have z1 := HX5.out.f0))
        have hM := mark_set (a := ⟨w.heap.size + 1 + 1, 0, none⟩) (mark_below (below_then hB4 hB5) HKj.out) (by show D ≠ w.heap.size + 1 + 1; omega) (.bool true)
        exact leaves_one_cell (w := w) hM (by omega) (HX5.out.bel.setCell (p := ⟨w.heap.size + 1 + 1, 0, none⟩) (by show w.heap.size ≤ w.heap.size + 1 + 1; omega) _) (set_cell z0 _) (fun W' h => by simp [results, Try.results18, go_sem, h]) (fun W' hb => ⟨rfl, hb⟩)
end Go.Proofs.Ythgjecofmnomfaa
