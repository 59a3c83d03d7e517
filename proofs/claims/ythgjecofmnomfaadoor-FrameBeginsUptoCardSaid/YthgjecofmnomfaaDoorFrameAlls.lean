/- WALK of the law FrameAlls: the whole frames of any bytes are told in order, also where the loop over them is left. -/
import Derived.Test.YthgjecofmnomfaaDoorFrameAllR
import Derived.Test.YthgjecofmnomfaaDoorPair
import Derived.Test.YthgjecofmnomfaaDoorQuietR
import Derived.Test.YthgjecofmnomfaaDoorIter2
namespace Go.Proofs.YthgjecofmnomfaaDoor
open Go.RowKit Go.Shelf
attribute [local go_sem] Oper.semAt_some
set_option maxRecDepth 100000

/-- What the law's boxes hold: stop, want, ends, the result; what the walk reads beside them. -/
structure FBox (w : World) (v vo ve : Value) (l : List UInt8) (vs : List Value) (stop : Int) (k : Nat) (W : World) : Prop where
  stop : W.cell? ⟨w.heap.size, 0, none⟩ = some (.int .i64 stop)
  res : W.cell? ⟨w.heap.size + 1, 0, none⟩ = some (.bool false) ∧ W.frozen? ⟨w.heap.size + 1, 0, none⟩ = false
  want : W.cell? ⟨k, 0, none⟩ = some vo
  ends : W.cell? ⟨k + 1, 0, none⟩ = some ve
  all : AllR W w.heap.size vo ve (allF l 0) vs
  low : Below w.heap.size w W
theorem FBox.below {w : World} {v vo ve : Value} {l : List UInt8} {vs : List Value} {stop : Int} {k : Nat} {W W1 : World} (h : FBox w v vo ve l vs stop k W) (hb : Below W.heap.size W W1) : FBox w v vo ve l vs stop k W1 :=
  ⟨cell_below hb h.stop, ⟨cell_below hb h.res.1, frozen_below hb h.res.1 h.res.2⟩, cell_below hb h.want, cell_below hb h.ends, h.all.below hb, below_then h.low hb⟩
/-- What a round reads. -/
theorem AllR.at {w : World} {B : Nat} {vo ve : Value} {xs pre rest : List (Nat × List UInt8)} {x : Nat × List UInt8} {vs : List Value} (h : AllR w B vo ve xs vs) (e : xs = pre ++ x :: rest) :
    ∃ ad ad2 u, (∀ {A n c}, vo = .slice A n c → A = some ad) ∧ (∀ {A n c}, ve = .slice A n c → A = some ad2) ∧ w.cell? (ad.add pre.length) = some u ∧ w.cell? (ad2.add pre.length) = some (.int .i64 (x.1 : Int)) ∧ Bs w u x.2 := by
  obtain ⟨A, c, e1, _, _, _, h3⟩ := Row.of_owns h.ends
  obtain ⟨A2, c2, e2, _, _, _, h4⟩ := Row.of_owns h.out
  subst e1 e2 e
  obtain ⟨ad2, hA, hc⟩ := h3 pre.length (.int .i64 (x.1 : Int)) (by simp [intsV])
  obtain ⟨u, hu, hb⟩ := h.parts.bs pre.length (by simp)
  obtain ⟨ad, hA2, hc2⟩ := h4 pre.length u hu
  refine ⟨ad, ad2, u, fun e => by cases e; exact hA2, fun e => by cases e; exact hA, hc2, hc, ?_⟩
  have : ((pre ++ x :: rest).map Prod.snd)[pre.length]'(by simp) = x.2 := by simp
  rw [this] at hb
  exact hb
theorem owns_cells {w : World} {B : Nat} {e : TypeId} {size n : Nat} {v : Value} {xs : List Value} (h : w.ownsRow B e size v n xs) (k : Nat) (hk : v.ownBlock = some k) (o : Obj) (ho : w.heap[k]? = some o) : o.isCells = true := by
  rcases h.2 with ⟨rfl, _⟩ | ⟨g, cap, cur, rfl, _, hg, _⟩
  · cases hk
  · have : g = k := by simpa [Value.ownBlock] using hk
    subst this
    rw [hg] at ho
    cases ho
    rfl
theorem handF_steady : Steady HandF := by
  refine ⟨?_, ?_⟩
  · rintro x args W0 W1 W2 ⟨v, rfl, ho⟩ hb
    exact ⟨v, rfl, ho.below hb⟩
  · rintro x args W0 W1 l o o' ⟨v, rfl, ho⟩ h1 h2 h3
    refine ⟨v, rfl, ?_⟩
    rw [World.putObj_size]
    exact ownsRow_putObj ho o' h2 h3
/-- What a round of the law's loop holds: 'Ws' is the world that the round began in. -/
structure FRnd (Ws : World) (ib : Nat) (v : Value) (n : Nat) (W : World) : Prop where
  low : Below Ws.heap.size Ws W
  i : W.cell? ⟨ib, 0, none⟩ = some (.int .i64 (n : Int)) ∧ W.frozen? ⟨ib, 0, none⟩ = false
  cap : W.cell? ⟨ib + 1, 0, none⟩ = some v
theorem FRnd.below {Ws : World} {ib : Nat} {v : Value} {n : Nat} {W W1 : World} (h : FRnd Ws ib v n W) (hb : Below W.heap.size W W1) : FRnd Ws ib v n W1 :=
  ⟨below_then h.low hb, ⟨cell_below hb h.i.1, frozen_below hb h.i.1 h.i.2⟩, cell_below hb h.cap⟩
theorem FRnd.turn {Ws : World} {ib : Nat} {v : Value} {n : Nat} {A A' : World} {row : Option Nat} {B : Nat} (hB : Ws.heap.size ≤ B) (hg : A.grownBy A' row) (hr : ∀ r, row = some r → B ≤ r ∧ ∃ o : Obj, A.heap[r]? = some o ∧ o.isCells = false)
    (h : FRnd Ws ib v n A) : FRnd Ws ib v n A' := by
  have h2 : ∀ r, row = some r → ∃ o : Obj, A.heap[r]? = some o ∧ o.isCells = false := fun r e => (hr r e).2
  exact ⟨turn_below hg hr hB h.low.size h.low, ⟨turn_cell hg h2 h.i.1, turn_frozen hg h2 h.i.1 h.i.2⟩, turn_cell hg h2 h.cap⟩
theorem FRnd.set {Ws : World} {ib : Nat} {v : Value} {n : Nat} {W : World} (h : FRnd Ws ib v n W) (hi : Ws.heap.size ≤ ib) (m : Nat) : FRnd Ws ib v m (W.setCell ⟨ib, 0, none⟩ (.int .i64 (m : Int))) :=
  ⟨h.low.setCell (p := ⟨ib, 0, none⟩) hi _, ⟨set_cell h.i.1 _, set_frozen h.i.2 _⟩, set_other h.cap (by simp) _⟩
theorem box_made (w : World) (x y : Value) (t1 t2 : TypeId) : ((w.alloc (.cells #[x] t1)).alloc (.cells #[y] t2)).cell? ⟨w.heap.size, 0, none⟩ = some x ∧ ((w.alloc (.cells #[x] t1)).alloc (.cells #[y] t2)).cell? ⟨w.heap.size + 1, 0, none⟩ = some y ∧
    ((w.alloc (.cells #[x] t1)).alloc (.cells #[y] t2)).frozen? ⟨w.heap.size + 1, 0, none⟩ = false ∧ Below w.heap.size w ((w.alloc (.cells #[x] t1)).alloc (.cells #[y] t2)) := by
  have h1 := new_cell (w.alloc (.cells #[x] t1)) y t2
  have h2 := new_frozen (w.alloc (.cells #[x] t1)) #[y] t2 0
  rw [World.size_alloc] at h1 h2
  exact ⟨cell_below (below_alloc1 _ _) (new_cell w x t1), h1, h2, below_then (below_alloc1 _ _) (below_alloc1 _ _)⟩
set_option maxHeartbeats 4000000 in
theorem frameAlls_walk (stop : Int) (v : Value) (l : List UInt8) (w : World) (hT : LaidF w) (hv : Bs w v l) (hl : l.length ≤ 1048576) :
    Calls Tryd.prog 6 #[v, .int .i64 stop] w fun e w' => e = .returned (.bool true) ∧ Below w.heap.size w w' := by
  obtain ⟨A, c, rfl, hlc, hc, hn⟩ := hv.form
  have K1 := fun {w1 : World} (hb : Below w.heap.size w w1) => Lib.hid (rall_calls (.slice A l.length c) l w1 (hv.below hb) (by omega))
  have K2 := fun {w1 : World} (hb : Below w.heap.size w w1) => Lib.hid (whole_calls (.slice A l.length c) l w1 (hT.below hb) (hv.below hb) (by omega))
  have K3 := fun {w1 : World} (hb : Below w.heap.size w w1) => Lib.hid (rwhole_calls (.slice A l.length c) l w1 (hv.below hb) (by omega))
  generalize hee : errAt l (endF 0 (allF l 0)) = er at K1 K2 K3
  generalize hef : endF 0 (allF l 0) = ef at K2 K3
  clear hee hef
  refine (callsIn_wide (n := 9)).1 ?_
  refine callsIn_of_wp_marks Tryd.func6 rfl trivial ?_ rfl
  simp only [Tryd.ntmps6, List.size_toArray, List.length_cons, List.length_nil, Nat.reduceAdd, Nat.reduceSub, Array.replicate_succ, Array.replicate_zero, List.push_toArray, List.append_toArray, List.nil_append, List.cons_append]
  have hfn := fun f cs bs W => eql_func_nil (P := Tryd.prog) 49 _ _ _ Tryd.underlying49 f cs bs W
  obtain ⟨m1, m2, m3, hb0⟩ := box_made w (.int .i64 stop) (.bool false) 3 4
  have toka : True := trivial
  gi_wp2_with (first
    | (refine ⟨trivial, ?_⟩; gi_at_call 21; refine (callsIn_wide.2 (K1 hb0).out).mono ?_; rintro e w1 ⟨vo, ve, vs, rfl, hA, hB1⟩; have n1 := cell_below hB1 m1; have n2 := cell_below hB1 m2; have n3 := frozen_below hB1 m2 m3; have hA := AllR.lower hA hb0.size; obtain ⟨Ao, co, rfl, ho1, ho2, ho3⟩ := owns_form hA.out; obtain ⟨Ae, ce, rfl, he1, he2, he3⟩ := owns_form hA.ends; obtain ⟨p1, p2, -, hb2⟩ := box_made w1 (.slice Ao (allF l 0).length co) (.slice Ae (allF l 0).length ce) 41 42; have hX : FBox w (.slice A l.length c) _ _ l vs stop w1.heap.size _ := ⟨cell_below hb2 n1, ⟨cell_below hb2 n2, frozen_below hb2 n2 n3⟩, p1, p2, hA.below hb2, below_then (below_then hb0 hB1) hb2⟩; clear n1 n2 n3 p1 p2 m1 m2 m3)
    | (refine ⟨trivial, ?_⟩; gi_at_call 22; refine (callsIn_wide.2 (K2 hX.low).out).mono ?_; rintro e w3 ⟨rfl, hB3⟩; have hX3 := hX.below hB3)
    | (refine ⟨trivial, ?_⟩; gi_at_call 23; refine (callsIn_wide.2 (K3 hX3.low).out).mono ?_; rintro e w4 ⟨rfl, hB4⟩; have hX4 := hX3.below hB4)
    | (refine ⟨trivial, ?_⟩; gi_at_call 24; have _t := toka; refine (callsIn_wide.2 (allv_calls _ _ A l.length c rfl)).mono ?_; clear toka; rintro e w5 ⟨rfl, rfl⟩; have hX5 := hX4.below (below_alloc1 w4 (.cells #[.slice A l.length c] 23))))
  have r0 := new_cell (w4.alloc (.cells #[.slice A l.length c] 23)) (.int .i64 0) 3
  have r0f := new_frozen (w4.alloc (.cells #[.slice A l.length c] 23)) #[.int .i64 0] 3 0
  have hX6 := hX5.below (below_alloc1 _ (.cells #[.int .i64 0] 3))
  rw [World.size_alloc] at r0 r0f
  generalize hrb : w4.heap.size + 1 = rb at r0 r0f ⊢
  clear hrb hX5 hX4 hX3
  generalize (w4.alloc (.cells #[.slice A l.length c] 23)).alloc (.cells #[.int .i64 0] 3) = W at hX6 r0 r0f ⊢
  refine wpIn_loop_rounds 3 ?_
  rw [roundsIn_succ]
  have tokd : True := trivial
  have std := hX6.stop
  have cd := r0
  gi_wp2_with (first
    | (refine ⟨trivial, ?_⟩; gi_at_call 24; have _t := tokd; refine (callsIn_wide.2 (allv_calls _ _ A l.length c rfl)).mono ?_; clear tokd; rintro e w5d ⟨rfl, rfl⟩))
  clear std cd
  have hfrd : FRnd W W.heap.size (.slice A l.length c) 0 ((W.alloc (.cells #[.int .i64 0] 3)).alloc (.cells #[.slice A l.length c] 23)) := by
    obtain ⟨q1, q2, q3, q4⟩ := box_made W (.int .i64 0) (.slice A l.length c) 3 23
    exact ⟨q4, ⟨q1, frozen_below (below_alloc1 _ _) (new_cell W _ _) (new_frozen W _ _ 0)⟩, q2⟩
  refine wpIn_range2 rfl (by omega) (gf := 40) (lb := #[.pointer (some ⟨W.heap.size + 1, 0, none⟩)]) rfl trivial (enters_of Tryd.func40 (by kernel_rfl) rfl)
    (all_iter 8 (by omega) (W.heap.size + 1) (.slice A l.length c) l (by omega)) handF_steady (by rintro x args W0 W1 ⟨v, rfl, _⟩; rfl)
    (fun pre V => FRnd W W.heap.size (.slice A l.length c) pre.length V) (fun cd V => cd = .exit 2 ∧ FRnd W W.heap.size (.slice A l.length c) stop.toNat V ∧ 0 ≤ stop)
    (fun s X Y row h hg hr => FRnd.turn (by simp; omega) hg hr h) (fun s X Y row h hg hr => ⟨h.1, FRnd.turn (by simp; omega) hg hr h.2.1, h.2.2⟩)
    (fun pre V h => ⟨h.cap, hv.below (hX6.below h.low).low, hT.below (hX6.below h.low).low⟩) hfrd ?roundd ?doned ?stopd
  case roundd =>
    rintro lp x args W0 W1 hs hb ⟨v', rfl, ho⟩
    gi_wp2
    refine ⟨Below.refl _ _, ?_⟩
    rintro l' pre rest V0 V2 hl' hxs hI hbV ⟨v'', e, hoV⟩
    obtain rfl : v' = v'' := by cases e; rfl
    clear e ho
    have hJ := hI.below hbV
    have hY := hX6.below hJ.low
    obtain ⟨ad, ad2, u, hAo, hAe, hcu, hce, hbu⟩ := hY.all.at hxs
    obtain rfl := hAo rfl
    obtain rfl := hAe rfl
    clear hAo hAe
    obtain ⟨Au, cu, rfl, hu1, hu2, hu3⟩ := hbu.form
    obtain ⟨Av, cv, rfl, hv1, hv2, hv3⟩ := hoV.form
    have cvu : ∀ n, (convert 23 9 (.slice Au x.2.length cu)).run Tryd.prog (V2.drewN n) = .ok (.string ⟨x.2.toArray⟩) (V2.drewN n) := fun n => str_u8 hbu
    have cvv : ∀ n, (convert 23 9 (.slice Av x.2.length cv)).run Tryd.prog (V2.drewN n) = .ok (.string ⟨x.2.toArray⟩) (V2.drewN n) := fun n => str_u8 hoV.bs
    have hlen : pre.length < (allF l 0).length := by rw [hxs]; simp
    have hxl : x.2.length ≤ 9223372036854775807 := hu3
    have ci := hJ.i.1
    have cw := hY.want
    have ce := hY.ends
    have g1 : (0 : Int) ≤ (pre.length : Int) := Int.natCast_nonneg _
    have g2 : (pre.length : Int) < ((allF l 0).length : Int) := by omega
    have g3 : decide (((allF l 0).length : Int) ≤ (pre.length : Int)) = false := by rw [decide_eq_false_iff_not]; omega
    have g4 : decide ((allF l 0).length ≤ pre.length) = false := by rw [decide_eq_false_iff_not]; omega
    have HXS := Lib.hid hxs; clear hxs
    generalize hN : (allF l 0).length = N at *
    have HN := Lib.hid hN; clear hN
    gi_wp2
    refine wpIn_region_quiet_any (by kernel_rfl) (by kernel_rfl) (by kernel_rfl) ?_
    repeat (gi_big_quiet_step (fail))
    refine wpQuietIn_nil ?_
    intro _ hw'; obtain ⟨nq, hw''⟩ := hw'; subst hw''
    have hD := below_drewN (Below.refl V2.heap.size V2) nq
    have hoD := hoV.below hD
    generalize V2.drewN nq = V3 at hD hoD ⊢
    have g5 : (pre.length : Int) + 1 ≤ 9223372036854775807 := by omega
    have hne1 : W.heap.size ≠ rb := Nat.ne_of_gt (World.block_lt_of_cell? W ⟨rb, 0, none⟩ r0)
    have hne2 : W.heap.size ≠ w.heap.size := Nat.ne_of_gt (World.block_lt_of_cell? W ⟨w.heap.size, 0, none⟩ hX6.stop)
    clear cvu cvv cw ce hcu hce g2 g3 g4 hbu ci hY
    by_cases hst : (pre.length : Int) + 1 = stop
    · subst hst
      have gs : ((pre.length : Int) + 1 == (pre.length : Int) + 1) = true := by simp
      gi_wp2_with (refine ⟨trivial, ?_⟩; gi_at_call 16; refine (callsIn_wide.2 (spoil_calls _ x.2 _ _ hoD)).mono ?_; rintro e V4 ⟨rfl, ho4, hg4⟩; have hb4 : Below V0.heap.size V0 V4 := (hbV.trans (hD.mono hbV.size)).grown hg4 (by have := hD.size; have := hbV.size; omega) (fun k hk => (hoD.lt k hk).1); have hJ4 := hI.below hb4; have hY4 := hX6.below hJ4.low; obtain ⟨ci4, cf4⟩ := hJ4.i; have cr4 := cell_below hJ4.low r0; have cs4 := hY4.stop; have cr5 := set_other (a := ⟨W.heap.size, 0, none⟩) cr4 hne1 (.int .i64 ((pre.length : Int) + 1)); have cs5 := set_other (a := ⟨W.heap.size, 0, none⟩) cs4 hne2 (.int .i64 ((pre.length : Int) + 1)); have ci5 := set_cell ci4 (.int .i64 ((pre.length : Int) + 1)))
      have hset := hJ4.set (Nat.le_refl _) (pre.length + 1)
      rw [show ((pre.length + 1 : Nat) : Int) = (pre.length : Int) + 1 by omega] at hset
      have hK := KeepsFrom.trans' (KeepsFrom.below ((W.alloc (.cells #[.int .i64 0] 3)).alloc (.cells #[.slice A l.length c] 23)).heap.size hD) (KeepsFrom.trans' (KeepsFrom.grown _ hg4 (fun k hk => .inr (owns_cells hoD k hk))) ((KeepsOthers.setCell V4 ⟨W.heap.size, 0, none⟩ (.int .i64 ((pre.length : Int) + 1))).from _))
      exact ⟨hK, rfl, by rw [show ((pre.length : Int) + 1).toNat = pre.length + 1 by omega]; exact hset, by omega⟩
    · have gs : ((pre.length : Int) + 1 == stop) = false := by simpa using hst
      gi_wp2_with (refine ⟨trivial, ?_⟩; gi_at_call 16; refine (callsIn_wide.2 (spoil_calls _ x.2 _ _ hoD)).mono ?_; rintro e V4 ⟨rfl, ho4, hg4⟩; have hb4 : Below V0.heap.size V0 V4 := (hbV.trans (hD.mono hbV.size)).grown hg4 (by have := hD.size; have := hbV.size; omega) (fun k hk => (hoD.lt k hk).1); have hJ4 := hI.below hb4; have hY4 := hX6.below hJ4.low; obtain ⟨ci4, cf4⟩ := hJ4.i; have cr4 := cell_below hJ4.low r0; have cs4 := hY4.stop; have cr5 := set_other (a := ⟨W.heap.size, 0, none⟩) cr4 hne1 (.int .i64 ((pre.length : Int) + 1)); have cs5 := set_other (a := ⟨W.heap.size, 0, none⟩) cs4 hne2 (.int .i64 ((pre.length : Int) + 1)); have ci5 := set_cell ci4 (.int .i64 ((pre.length : Int) + 1)))
      have hset := hJ4.set (Nat.le_refl _) (pre.length + 1)
      rw [show ((pre.length + 1 : Nat) : Int) = (pre.length : Int) + 1 by omega] at hset
      have hK := KeepsFrom.trans' (KeepsFrom.below ((W.alloc (.cells #[.int .i64 0] 3)).alloc (.cells #[.slice A l.length c] 23)).heap.size hD) (KeepsFrom.trans' (KeepsFrom.grown _ hg4 (fun k hk => .inr (owns_cells hoD k hk))) ((KeepsOthers.setCell V4 ⟨W.heap.size, 0, none⟩ (.int .i64 ((pre.length : Int) + 1))).from _))
      exact ⟨hK, by show FRnd _ _ _ (pre ++ [x]).length _; rw [show (pre ++ [x]).length = pre.length + 1 by simp]; exact hset⟩
  case doned =>
    intro Dd W0d W2d hDd hId hbd hKd
    have hJd := hId.below hbd
    have hYd := hX6.below hJd.low
    have ci := hJd.i.1
    have cw := hYd.want
    have cs := hYd.stop
    have cr := cell_below hJd.low r0
    have crf := frozen_below hJd.low r0 r0f
    gi_wp2
    have hXdb := hYd.below (below_alloc1 W2d (.cells #[.int .i64 1] 3))
    have rdb := new_cell W2d (.int .i64 1) 3
    have rdbf := new_frozen W2d #[.int .i64 1] 3 0
    have hMdb := mark_below (below_alloc1 W2d (.cells #[.int .i64 1] 3)) hKd
    have hLdb := hJd.low.trans ((below_alloc1 W2d (.cells #[.int .i64 1] 3)).mono hJd.low.size)
    clear ci cw cs cr crf
    generalize hrbdb : W2d.heap.size = rbdb at rdb rdbf ⊢
    clear hrbdb
    generalize W2d.alloc (.cells #[.int .i64 1] 3) = Wbd at hXdb rdb rdbf hMdb hLdb ⊢
    rw [roundsIn_succ]
    have tokdb : True := trivial
    have stdb := hXdb.stop
    have cdb := rdb
    gi_wp2_with (first
      | (refine ⟨trivial, ?_⟩; gi_at_call 24; have _t := tokdb; refine (callsIn_wide.2 (allv_calls _ _ A l.length c rfl)).mono ?_; clear tokdb; rintro e w5db ⟨rfl, rfl⟩))
    clear stdb cdb
    have hfrdb : FRnd Wbd Wbd.heap.size (.slice A l.length c) 0 ((Wbd.alloc (.cells #[.int .i64 0] 3)).alloc (.cells #[.slice A l.length c] 23)) := by
      obtain ⟨q1, q2, q3, q4⟩ := box_made Wbd (.int .i64 0) (.slice A l.length c) 3 23
      exact ⟨q4, ⟨q1, frozen_below (below_alloc1 _ _) (new_cell Wbd _ _) (new_frozen Wbd _ _ 0)⟩, q2⟩
    refine wpIn_range2 rfl (by omega) (gf := 40) (lb := #[.pointer (some ⟨Wbd.heap.size + 1, 0, none⟩)]) rfl trivial (enters_of Tryd.func40 (by kernel_rfl) rfl)
      (all_iter 8 (by omega) (Wbd.heap.size + 1) (.slice A l.length c) l (by omega)) handF_steady (by rintro x args W0 W1 ⟨v, rfl, _⟩; rfl)
      (fun pre V => FRnd Wbd Wbd.heap.size (.slice A l.length c) pre.length V) (fun _ _ => False)
      (fun s X Y row h hg hr => FRnd.turn (by simp; omega) hg hr h) (fun s X Y row h hg hr => h)
      (fun pre V h => ⟨h.cap, hv.below (hXdb.below h.low).low, hT.below (hXdb.below h.low).low⟩) hfrdb ?rounddb ?donedb ?stopdb
    case rounddb =>
      rintro lp x args W0 W1 hs hb ⟨v', rfl, ho⟩
      gi_wp2
      refine ⟨Below.refl _ _, ?_⟩
      rintro l' pre rest V0 V2 hl' hxs hI hbV ⟨v'', e, hoV⟩
      obtain rfl : v' = v'' := by cases e; rfl
      clear e ho
      have hJ := hI.below hbV
      have hY := hXdb.below hJ.low
      obtain ⟨ad, ad2, u, hAo, hAe, hcu, hce, hbu⟩ := hY.all.at hxs
      obtain rfl := hAo rfl
      obtain rfl := hAe rfl
      clear hAo hAe
      obtain ⟨Au, cu, rfl, hu1, hu2, hu3⟩ := hbu.form
      obtain ⟨Av, cv, rfl, hv1, hv2, hv3⟩ := hoV.form
      have cvu : ∀ n, (convert 23 9 (.slice Au x.2.length cu)).run Tryd.prog (V2.drewN n) = .ok (.string ⟨x.2.toArray⟩) (V2.drewN n) := fun n => str_u8 hbu
      have cvv : ∀ n, (convert 23 9 (.slice Av x.2.length cv)).run Tryd.prog (V2.drewN n) = .ok (.string ⟨x.2.toArray⟩) (V2.drewN n) := fun n => str_u8 hoV.bs
      have hlen : pre.length < (allF l 0).length := by rw [hxs]; simp
      have hxl : x.2.length ≤ 9223372036854775807 := hu3
      have ci := hJ.i.1
      have cw := hY.want
      have ce := hY.ends
      have g1 : (0 : Int) ≤ (pre.length : Int) := Int.natCast_nonneg _
      have g2 : (pre.length : Int) < ((allF l 0).length : Int) := by omega
      have g3 : decide (((allF l 0).length : Int) ≤ (pre.length : Int)) = false := by rw [decide_eq_false_iff_not]; omega
      have g4 : decide ((allF l 0).length ≤ pre.length) = false := by rw [decide_eq_false_iff_not]; omega
      have HXS := Lib.hid hxs; clear hxs
      generalize hN : (allF l 0).length = N at *
      have HN := Lib.hid hN; clear hN
      gi_wp2
      refine wpIn_region_quiet_any (by kernel_rfl) (by kernel_rfl) (by kernel_rfl) ?_
      repeat (gi_big_quiet_step (fail))
      refine wpQuietIn_nil ?_
      intro _ hw'; obtain ⟨nq, hw''⟩ := hw'; subst hw''
      have hD := below_drewN (Below.refl V2.heap.size V2) nq
      have hoD := hoV.below hD
      generalize V2.drewN nq = V3 at hD hoD ⊢
      have g5 : (pre.length : Int) + 1 ≤ 9223372036854775807 := by omega
      have hne1 : Wbd.heap.size ≠ rbdb := Nat.ne_of_gt (World.block_lt_of_cell? Wbd ⟨rbdb, 0, none⟩ rdb)
      have hne2 : Wbd.heap.size ≠ w.heap.size := Nat.ne_of_gt (World.block_lt_of_cell? Wbd ⟨w.heap.size, 0, none⟩ hXdb.stop)
      clear cvu cvv cw ce hcu hce g2 g3 g4 hbu ci hY
      gi_wp2_with (refine ⟨trivial, ?_⟩; gi_at_call 16; refine (callsIn_wide.2 (spoil_calls _ x.2 _ _ hoD)).mono ?_; rintro e V4 ⟨rfl, ho4, hg4⟩; have hb4 : Below V0.heap.size V0 V4 := (hbV.trans (hD.mono hbV.size)).grown hg4 (by have := hD.size; have := hbV.size; omega) (fun k hk => (hoD.lt k hk).1); have hJ4 := hI.below hb4; have hY4 := hXdb.below hJ4.low; obtain ⟨ci4, cf4⟩ := hJ4.i; have cr4 := cell_below hJ4.low rdb; have cs4 := hY4.stop; have cr5 := set_other (a := ⟨Wbd.heap.size, 0, none⟩) cr4 hne1 (.int .i64 ((pre.length : Int) + 1)); have cs5 := set_other (a := ⟨Wbd.heap.size, 0, none⟩) cs4 hne2 (.int .i64 ((pre.length : Int) + 1)); have ci5 := set_cell ci4 (.int .i64 ((pre.length : Int) + 1)))
      have hset := hJ4.set (Nat.le_refl _) (pre.length + 1)
      rw [show ((pre.length + 1 : Nat) : Int) = (pre.length : Int) + 1 by omega] at hset
      have hK := KeepsFrom.trans' (KeepsFrom.below ((Wbd.alloc (.cells #[.int .i64 0] 3)).alloc (.cells #[.slice A l.length c] 23)).heap.size hD) (KeepsFrom.trans' (KeepsFrom.grown _ hg4 (fun k hk => .inr (owns_cells hoD k hk))) ((KeepsOthers.setCell V4 ⟨Wbd.heap.size, 0, none⟩ (.int .i64 ((pre.length : Int) + 1))).from _))
      exact ⟨hK, by show FRnd _ _ _ (pre ++ [x]).length _; rw [show (pre ++ [x]).length = pre.length + 1 by simp]; exact hset⟩
    case donedb =>
      intro Ddb W0db W2db hDdb hIdb hbdb hKdb
      have hJdb := hIdb.below hbdb
      have hYdb := hXdb.below hJdb.low
      have ci := hJdb.i.1
      have cw := hYdb.want
      have cs := hYdb.stop
      have cr := cell_below hJdb.low rdb
      have crf := frozen_below hJdb.low rdb rdbf
      gi_wp2
      rw [roundsIn_succ]
      have hYr := (hYdb.below (below_alloc1 W2db (.cells #[.int .i64 2] 3)))
      obtain ⟨rs1, rs2⟩ := hYr.res
      gi_wp2_with (refine ⟨trivial, ?_⟩; gi_at_call 17; refine (callsIn_wide.2 (names11_calls _)).mono ?_; rintro e w9 ⟨rfl, rfl⟩)
      have hMx := mark_below (hJdb.low) hMdb
      have hlt1 := (Array.getElem?_eq_some_iff.1 hMdb).1
      have hlt2 := hfrdb.low.size
      have hlt3 := hYd.low.size
      have hlt4 := hX6.low.size
      have hlt5 := World.block_lt_of_cell? W ⟨w.heap.size + 1, 0, none⟩ hX6.res.1
      have hlt6 := hfrd.low.size
      simp only at hlt5
      have hM1 := mark_set (a := ⟨w.heap.size + 1, 0, none⟩) (mark_below (below_alloc1 W2db (.cells #[.int .i64 2] 3)) hMx) (by show Dd ≠ w.heap.size + 1; omega) (.bool true)
      have hM2 := mark_set (a := ⟨w.heap.size + 1, 0, none⟩) (mark_below (below_alloc1 W2db (.cells #[.int .i64 2] 3)) hKdb) (by show Ddb ≠ w.heap.size + 1; omega) (.bool true)
      exact leaves_two_cell (w := w) hM1 hM2 (by omega) (by omega) (by omega) (hYr.low.setCell (p := ⟨w.heap.size + 1, 0, none⟩) (by show w.heap.size ≤ w.heap.size + 1; omega) _) (set_cell rs1 _) (fun W' h => by simp [results, Tryd.results6, go_sem, h]) (fun W' hb => ⟨rfl, hb⟩)
    case stopdb =>
      rintro D c' W0 W _ h
      exact h.elim

  case stopd =>
    rintro Dd cd W0d W2d hDd ⟨rfl, hId, hst⟩ hbd hKd
    have hJd := hId.below hbd
    have hYd := hX6.below hJd.low
    have ci := hJd.i.1
    have cw := hYd.want
    have cs := hYd.stop
    have cr := cell_below hJd.low r0
    have crf := frozen_below hJd.low r0 r0f
    have gs : (stop.toNat : Int) = stop := by omega
    have gs2 : ((stop.toNat : Int) == stop) = true := by simp; omega
    gi_wp2
    all_goals
      have hXdb := hYd.below (below_alloc1 W2d (.cells #[.int .i64 1] 3))
      have rdb := new_cell W2d (.int .i64 1) 3
      have rdbf := new_frozen W2d #[.int .i64 1] 3 0
      have hMdb := mark_below (below_alloc1 W2d (.cells #[.int .i64 1] 3)) hKd
      have hLdb := hJd.low.trans ((below_alloc1 W2d (.cells #[.int .i64 1] 3)).mono hJd.low.size)
      clear ci cw cs cr crf
      generalize hrbdb : W2d.heap.size = rbdb at rdb rdbf ⊢
      clear hrbdb
      generalize W2d.alloc (.cells #[.int .i64 1] 3) = Wbd at hXdb rdb rdbf hMdb hLdb ⊢
      rw [roundsIn_succ]
      have tokdb : True := trivial
      have stdb := hXdb.stop
      have cdb := rdb
      gi_wp2_with (first
        | (refine ⟨trivial, ?_⟩; gi_at_call 24; have _t := tokdb; refine (callsIn_wide.2 (allv_calls _ _ A l.length c rfl)).mono ?_; clear tokdb; rintro e w5db ⟨rfl, rfl⟩))
      clear stdb cdb
      have hfrdb : FRnd Wbd Wbd.heap.size (.slice A l.length c) 0 ((Wbd.alloc (.cells #[.int .i64 0] 3)).alloc (.cells #[.slice A l.length c] 23)) := by
        obtain ⟨q1, q2, q3, q4⟩ := box_made Wbd (.int .i64 0) (.slice A l.length c) 3 23
        exact ⟨q4, ⟨q1, frozen_below (below_alloc1 _ _) (new_cell Wbd _ _) (new_frozen Wbd _ _ 0)⟩, q2⟩
      refine wpIn_range2 rfl (by omega) (gf := 40) (lb := #[.pointer (some ⟨Wbd.heap.size + 1, 0, none⟩)]) rfl trivial (enters_of Tryd.func40 (by kernel_rfl) rfl)
        (all_iter 8 (by omega) (Wbd.heap.size + 1) (.slice A l.length c) l (by omega)) handF_steady (by rintro x args W0 W1 ⟨v, rfl, _⟩; rfl)
        (fun pre V => FRnd Wbd Wbd.heap.size (.slice A l.length c) pre.length V) (fun _ _ => False)
        (fun s X Y row h hg hr => FRnd.turn (by simp; omega) hg hr h) (fun s X Y row h hg hr => h)
        (fun pre V h => ⟨h.cap, hv.below (hXdb.below h.low).low, hT.below (hXdb.below h.low).low⟩) hfrdb ?rounddb ?donedb ?stopdb
      case rounddb =>
        rintro lp x args W0 W1 hs hb ⟨v', rfl, ho⟩
        gi_wp2
        refine ⟨Below.refl _ _, ?_⟩
        rintro l' pre rest V0 V2 hl' hxs hI hbV ⟨v'', e, hoV⟩
        obtain rfl : v' = v'' := by cases e; rfl
        clear e ho
        have hJ := hI.below hbV
        have hY := hXdb.below hJ.low
        obtain ⟨ad, ad2, u, hAo, hAe, hcu, hce, hbu⟩ := hY.all.at hxs
        obtain rfl := hAo rfl
        obtain rfl := hAe rfl
        clear hAo hAe
        obtain ⟨Au, cu, rfl, hu1, hu2, hu3⟩ := hbu.form
        obtain ⟨Av, cv, rfl, hv1, hv2, hv3⟩ := hoV.form
        have cvu : ∀ n, (convert 23 9 (.slice Au x.2.length cu)).run Tryd.prog (V2.drewN n) = .ok (.string ⟨x.2.toArray⟩) (V2.drewN n) := fun n => str_u8 hbu
        have cvv : ∀ n, (convert 23 9 (.slice Av x.2.length cv)).run Tryd.prog (V2.drewN n) = .ok (.string ⟨x.2.toArray⟩) (V2.drewN n) := fun n => str_u8 hoV.bs
        have hlen : pre.length < (allF l 0).length := by rw [hxs]; simp
        have hxl : x.2.length ≤ 9223372036854775807 := hu3
        have ci := hJ.i.1
        have cw := hY.want
        have ce := hY.ends
        have g1 : (0 : Int) ≤ (pre.length : Int) := Int.natCast_nonneg _
        have g2 : (pre.length : Int) < ((allF l 0).length : Int) := by omega
        have g3 : decide (((allF l 0).length : Int) ≤ (pre.length : Int)) = false := by rw [decide_eq_false_iff_not]; omega
        have g4 : decide ((allF l 0).length ≤ pre.length) = false := by rw [decide_eq_false_iff_not]; omega
        have HXS := Lib.hid hxs; clear hxs
        generalize hN : (allF l 0).length = N at *
        have HN := Lib.hid hN; clear hN
        gi_wp2
        refine wpIn_region_quiet_any (by kernel_rfl) (by kernel_rfl) (by kernel_rfl) ?_
        repeat (gi_big_quiet_step (fail))
        refine wpQuietIn_nil ?_
        intro _ hw'; obtain ⟨nq, hw''⟩ := hw'; subst hw''
        have hD := below_drewN (Below.refl V2.heap.size V2) nq
        have hoD := hoV.below hD
        generalize V2.drewN nq = V3 at hD hoD ⊢
        have g5 : (pre.length : Int) + 1 ≤ 9223372036854775807 := by omega
        have hne1 : Wbd.heap.size ≠ rbdb := Nat.ne_of_gt (World.block_lt_of_cell? Wbd ⟨rbdb, 0, none⟩ rdb)
        have hne2 : Wbd.heap.size ≠ w.heap.size := Nat.ne_of_gt (World.block_lt_of_cell? Wbd ⟨w.heap.size, 0, none⟩ hXdb.stop)
        clear cvu cvv cw ce hcu hce g2 g3 g4 hbu ci hY
        gi_wp2_with (refine ⟨trivial, ?_⟩; gi_at_call 16; refine (callsIn_wide.2 (spoil_calls _ x.2 _ _ hoD)).mono ?_; rintro e V4 ⟨rfl, ho4, hg4⟩; have hb4 : Below V0.heap.size V0 V4 := (hbV.trans (hD.mono hbV.size)).grown hg4 (by have := hD.size; have := hbV.size; omega) (fun k hk => (hoD.lt k hk).1); have hJ4 := hI.below hb4; have hY4 := hXdb.below hJ4.low; obtain ⟨ci4, cf4⟩ := hJ4.i; have cr4 := cell_below hJ4.low rdb; have cs4 := hY4.stop; have cr5 := set_other (a := ⟨Wbd.heap.size, 0, none⟩) cr4 hne1 (.int .i64 ((pre.length : Int) + 1)); have cs5 := set_other (a := ⟨Wbd.heap.size, 0, none⟩) cs4 hne2 (.int .i64 ((pre.length : Int) + 1)); have ci5 := set_cell ci4 (.int .i64 ((pre.length : Int) + 1)))
        have hset := hJ4.set (Nat.le_refl _) (pre.length + 1)
        rw [show ((pre.length + 1 : Nat) : Int) = (pre.length : Int) + 1 by omega] at hset
        have hK := KeepsFrom.trans' (KeepsFrom.below ((Wbd.alloc (.cells #[.int .i64 0] 3)).alloc (.cells #[.slice A l.length c] 23)).heap.size hD) (KeepsFrom.trans' (KeepsFrom.grown _ hg4 (fun k hk => .inr (owns_cells hoD k hk))) ((KeepsOthers.setCell V4 ⟨Wbd.heap.size, 0, none⟩ (.int .i64 ((pre.length : Int) + 1))).from _))
        exact ⟨hK, by show FRnd _ _ _ (pre ++ [x]).length _; rw [show (pre ++ [x]).length = pre.length + 1 by simp]; exact hset⟩
      case donedb =>
        intro Ddb W0db W2db hDdb hIdb hbdb hKdb
        have hJdb := hIdb.below hbdb
        have hYdb := hXdb.below hJdb.low
        have ci := hJdb.i.1
        have cw := hYdb.want
        have cs := hYdb.stop
        have cr := cell_below hJdb.low rdb
        have crf := frozen_below hJdb.low rdb rdbf
        gi_wp2
        rw [roundsIn_succ]
        have hYr := (hYdb.below (below_alloc1 W2db (.cells #[.int .i64 2] 3)))
        obtain ⟨rs1, rs2⟩ := hYr.res
        gi_wp2_with (refine ⟨trivial, ?_⟩; gi_at_call 17; refine (callsIn_wide.2 (names11_calls _)).mono ?_; rintro e w9 ⟨rfl, rfl⟩)
        have hMx := mark_below (hJdb.low) hMdb
        have hlt1 := (Array.getElem?_eq_some_iff.1 hMdb).1
        have hlt2 := hfrdb.low.size
        have hlt3 := hYd.low.size
        have hlt4 := hX6.low.size
        have hlt5 := World.block_lt_of_cell? W ⟨w.heap.size + 1, 0, none⟩ hX6.res.1
        have hlt6 := hfrd.low.size
        simp only at hlt5
        have hM1 := mark_set (a := ⟨w.heap.size + 1, 0, none⟩) (mark_below (below_alloc1 W2db (.cells #[.int .i64 2] 3)) hMx) (by show Dd ≠ w.heap.size + 1; omega) (.bool true)
        have hM2 := mark_set (a := ⟨w.heap.size + 1, 0, none⟩) (mark_below (below_alloc1 W2db (.cells #[.int .i64 2] 3)) hKdb) (by show Ddb ≠ w.heap.size + 1; omega) (.bool true)
        exact leaves_two_cell (w := w) hM1 hM2 (by omega) (by omega) (by omega) (hYr.low.setCell (p := ⟨w.heap.size + 1, 0, none⟩) (by show w.heap.size ≤ w.heap.size + 1; omega) _) (set_cell rs1 _) (fun W' h => by simp [results, Tryd.results6, go_sem, h]) (fun W' hb => ⟨rfl, hb⟩)
      case stopdb =>
        rintro D c' W0 W _ h
        exact h.elim

end Go.Proofs.YthgjecofmnomfaaDoor
