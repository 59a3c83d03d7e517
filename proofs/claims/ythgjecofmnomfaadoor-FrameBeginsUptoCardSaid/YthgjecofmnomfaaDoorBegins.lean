/- WALK of the law FrameBegins: of any beginning of frames just those are told that lie in it whole. -/
import Derived.Test.YthgjecofmnomfaaDoorBeginsM
import Derived.Test.YthgjecofmnomfaaDoorFrameAlls
import Derived.Test.YthgjecofmnomfaaDoorQuietTail
namespace Go.Proofs.YthgjecofmnomfaaDoor
open Go.RowKit Go.Shelf
attribute [local go_sem] Oper.semAt_some
set_option maxRecDepth 100000

/-- A [][]byte that came in. -/
structure LL (w : World) (v : Value) (ms : List (List UInt8)) (vs : List Value) : Prop where
  row : Row w v ms.length vs
  parts : ∀ (j : Nat) (hj : j < ms.length), ∃ u, vs[j]? = some u ∧ Bs w u ms[j]
theorem LL.below {w w1 : World} {v : Value} {ms : List (List UInt8)} {vs : List Value} (h : LL w v ms vs) (hb : Below w.heap.size w w1) : LL w1 v ms vs :=
  ⟨h.row.below hb, fun j hj => let ⟨u, a, b⟩ := h.parts j hj; ⟨u, a, b.below hb⟩⟩
theorem LL.form {w : World} {v : Value} {ms : List (List UInt8)} {vs : List Value} (h : LL w v ms vs) : ∃ A c, v = .slice A ms.length c ∧ ms.length ≤ c ∧ c ≤ 9223372036854775807 ∧ ms.length ≤ 9223372036854775807 := by
  obtain ⟨A, c, e, h1, h2, h0, _⟩ := h.row
  unfold maxLen at h2
  exact ⟨A, c, e, h1, h2, by omega⟩
theorem LL.at_ {w : World} {A : Option Addr} {n c : Nat} {ms : List (List UInt8)} {vs : List Value} (h : LL w (.slice A n c) ms vs) (j : Nat) (hj : j < ms.length) : ∃ ad u, A = some ad ∧ w.cell? (ad.add j) = some u ∧ Bs w u ms[j] := by
  obtain ⟨u, hu, hb⟩ := h.parts j hj
  have hn : n = ms.length := by obtain ⟨A', c', e, _⟩ := h.row; cases e; rfl
  subst hn
  obtain ⟨ad, hA, hc⟩ := h.row.at_ j hu
  exact ⟨ad, u, hA, hc, hb⟩
theorem sum_take_le : ∀ (l : List Nat) (k : Nat), (l.take k).sum ≤ l.sum
  | [], k => by simp
  | x :: r, 0 => by simp
  | x :: r, k + 1 => by have := sum_take_le r k; simp; omega
theorem len_le_sum : ∀ {ms : List (List UInt8)} {m : List UInt8}, m ∈ ms → m.length ≤ (ms.map List.length).sum
  | x :: r, m, h => by
    rcases List.mem_cons.1 h with e | e
    · subst e; simp
    · have := len_le_sum e; simp; omega
theorem frs_take_le (ms : List (List UInt8)) (k : Nat) : (frs (ms.take k)).length ≤ (frs ms).length := by
  rw [frs_length, frs_length, List.map_take]
  have := sum_take_le (ms.map List.length) k
  have := List.length_take_le k ms
  rw [List.length_take] at *
  omega
set_option maxHeartbeats 2000000 in
theorem framed_calls (v : Value) (ms : List (List UInt8)) (vs : List Value) (w : World) (hT : LaidF w) (hv : LL w v ms vs) (hs : (ms.map List.length).sum ≤ 1048576) (hn : ms.length ≤ 1048576) :
    Calls Tryd.prog 25 #[v] w fun e w' => ∃ vb ve, e = .returned (.tuple #[vb, ve, .bool true]) ∧ OwnB w' w.heap.size vb (frs ms) ∧ w'.ownsRow w.heap.size 3 1 ve ms.length (intsV (endsL 0 ms)) ∧ Below w.heap.size w w' := by
  obtain ⟨A, c, rfl, hlc, hc, hn2⟩ := hv.form
  have hfl := frs_length ms
  go_enter Tryd.func25, Tryd.ntmps25
  go_wp2
  go_loopw [5, 6, 7] (fun b e i wr => ∃ k : Nat, k ≤ ms.length ∧ i = .int .i64 (k : Int) ∧ OwnB wr w.heap.size b (frs (ms.take k)) ∧ wr.ownsRow w.heap.size 3 1 e k (intsV (endsL 0 (ms.take k))) ∧ Below w.heap.size w wr) (fun _ _ i _ => ms.length - (intOf i).toNat)
  case atStart => exact ⟨0, by omega, rfl, by simpa [frs] using OwnB.nil w w.heap.size, by simpa [endsL, intsV] using World.ownsRow_nil w w.heap.size 3 1, Below.refl _ _⟩
  case round =>
    obtain ⟨k, hk, rfl, hob, hoe, hb⟩ := hrel
    obtain ⟨Ab, cb, rfl, hb1, hb2, hb3⟩ := hob.form
    obtain ⟨Ae, ce, rfl, he1, he2, he3⟩ := owns_form hoe
    have hfk := frs_take_le ms k
    by_cases hlt : k < ms.length
    · obtain ⟨ad, u, rfl, hcell, hbu⟩ := (hv.below hb).at_ k hlt
      obtain ⟨Au, cu, rfl, hu1, hu2, hu3⟩ := hbu.form
      have hml : ms[k].length ≤ 1048576 := Nat.le_trans (len_le_sum (List.getElem_mem hlt)) hs
      have hsn : ms.take (k + 1) = ms.take k ++ [ms[k]] := by rw [List.take_succ_eq_append_getElem hlt]
      have KP := Lib.hid (fput_calls (.slice Ab (frs (ms.take k)).length cb) (.slice Au ms[k].length cu) _ _ wr (hT.below hb) hob.bs hbu hml (by omega))
      have HF : Hid (frs (ms.take (k + 1)) = frs (ms.take k) ++ fr ms[k]) := by rw [hsn, frs_snoc]; rfl
      have HE : Hid (endsL 0 (ms.take (k + 1)) = endsL 0 (ms.take k) ++ [(frs (ms.take k) ++ fr ms[k]).length]) := by rw [hsn, endsL_snoc, frs_snoc, Nat.zero_add]; rfl
      have hfk2 : (frs (ms.take k) ++ fr ms[k]).length ≤ (frs ms).length := by rw [← HF.out]; exact frs_take_le ms (k + 1)
      have hE0 := endsL_length (ms.take k) 0
      clear hsn hob hbu hv hT
      generalize frs (ms.take k) ++ fr ms[k] = f2 at KP HF HE hfk2
      generalize endsL 0 (ms.take k) = el at hoe HE hE0
      have tok1 : True := trivial
      go_wp2_with (first
        | (go_at_call 18; refine KP.out.mono ?_; rintro e w1 ⟨v1, rfl, ho1, hB1⟩; obtain ⟨A1, c1, rfl, hq1, hq2, hq3⟩ := ho1.form; have hb1 := below_then hb hB1; have hoe1 := owns_below hoe hB1; have hap := (Apart.newer (owns_lt hoe) (fun k hk => (ho1.lt k hk).1)).symm.ne; have ho1 := ho1.lower hb.size)
        | (at_builtin; refine app_row rfl _ _ 42 3 rfl Tryd.underlying42 info_int rfl (by omega) w.heap.size (.slice Ae k ce) rfl k (intsV el) hoe1 (.int .i64 (f2.length : Int)) rfl rfl ?_ hb1.size ?_; (· omega); intro ve2 w3 hown3 hg3 hat3))
      go_roundw
      case rel =>
        refine ⟨k + 1, by omega, by go_num, ?_, ?_, ?_⟩
        · rw [HF.out]
          exact (ho1.alloc _).kept hg3 hap
        · rw [HE.out, intsV, List.map_append]; exact hown3
        · exact (hb1.alloc hb1.size _).grown hg3 (by have := hb1.size; simp; omega) (fun k hk => owns_ge hoe k hk)
      case measure => simp [intOf]; omega
    · have hk' : k = ms.length := by omega
      subst hk'
      rw [List.take_length] at *
      clear hv hT
      go_wp2
      go_ret3
      exact ⟨_, _, rfl, hob, hoe, hb⟩
theorem begins_place (p : Int) (n : Nat) (hn : n ≤ 1000000000) : ∃ q : Nat, (wrap64 (p.tmod ((n : Int) + 1) + ((n : Int) + 1))).tmod ((n : Int) + 1) = (q : Int) ∧ q ≤ n := by
  have e : (n : Int) + 1 = ((n + 1 : Nat) : Int) := by omega
  rw [e]
  have h1 := Int.tmod_lt_of_pos p (show (0 : Int) < ((n + 1 : Nat) : Int) by omega)
  have h2 : -((n + 1 : Nat) : Int) < p.tmod ((n + 1 : Nat) : Int) := Int.lt_tmod_of_pos p (show (0 : Int) < ((n + 1 : Nat) : Int) by omega)
  generalize p.tmod ((n + 1 : Nat) : Int) = q at h1 h2
  have hw : wrap64 (q + ((n + 1 : Nat) : Int)) = q + ((n + 1 : Nat) : Int) := by unfold wrap64; omega
  rw [hw]
  obtain ⟨m, hm⟩ := Int.eq_ofNat_of_zero_le (show 0 ≤ q + ((n + 1 : Nat) : Int) by omega)
  rw [hm]
  have h3 : ((m : Int).tmod ((n + 1 : Nat) : Int)) = ((m % (n + 1) : Nat) : Int) := by rw [Int.tmod_eq_emod_of_nonneg (by omega)]; rfl
  rw [h3]
  have h4 := Nat.mod_lt m (show 0 < n + 1 by omega)
  exact ⟨m % (n + 1), rfl, by omega⟩
/-- What the law's boxes hold, and what is read beside them: 'e' is the box of the ends. -/
structure GBox (w : World) (vl vb ve : Value) (ms : List (List UInt8)) (vs : List Value) (q e : Nat) (W : World) : Prop where
  l : W.cell? ⟨w.heap.size, 0, none⟩ = some vl
  cut : W.cell? ⟨w.heap.size + 1, 0, none⟩ = some (.int .i64 (q : Int))
  res : W.cell? ⟨w.heap.size + 2, 0, none⟩ = some (.bool false) ∧ W.frozen? ⟨w.heap.size + 2, 0, none⟩ = false
  ends : W.cell? ⟨e, 0, none⟩ = some ve
  all : LL W vl ms vs
  row : Row W ve ms.length (intsV (endsL 0 ms))
  bs : Bs W vb (frs ms)
  low : Below w.heap.size w W
theorem GBox.below {w : World} {vl vb ve : Value} {ms : List (List UInt8)} {vs : List Value} {q e : Nat} {W W1 : World} (h : GBox w vl vb ve ms vs q e W) (hb : Below W.heap.size W W1) : GBox w vl vb ve ms vs q e W1 :=
  ⟨cell_below hb h.l, cell_below hb h.cut, ⟨cell_below hb h.res.1, frozen_below hb h.res.1 h.res.2⟩, cell_below hb h.ends, h.all.below hb, h.row.below hb, h.bs.below hb, below_then h.low hb⟩
/-- What a round holds: 'Ws' is the world ahead of the loop. -/
structure BRnd (Ws : World) (v : Value) (n at_ : Nat) (W : World) : Prop where
  low : Below Ws.heap.size Ws W
  k : W.cell? ⟨Ws.heap.size, 0, none⟩ = some (.int .i64 (n : Int)) ∧ W.frozen? ⟨Ws.heap.size, 0, none⟩ = false
  at_ : W.cell? ⟨Ws.heap.size + 1, 0, none⟩ = some (.int .i64 (at_ : Int)) ∧ W.frozen? ⟨Ws.heap.size + 1, 0, none⟩ = false
  cap : W.cell? ⟨Ws.heap.size + 3, 0, none⟩ = some v
theorem BRnd.below {Ws : World} {v : Value} {n at_ : Nat} {W W1 : World} (h : BRnd Ws v n at_ W) (hb : Below W.heap.size W W1) : BRnd Ws v n at_ W1 :=
  ⟨below_then h.low hb, ⟨cell_below hb h.k.1, frozen_below hb h.k.1 h.k.2⟩, ⟨cell_below hb h.at_.1, frozen_below hb h.at_.1 h.at_.2⟩, cell_below hb h.cap⟩
theorem BRnd.turn {Ws : World} {v : Value} {n at_ : Nat} {A A' : World} {row : Option Nat} {B : Nat} (hB : Ws.heap.size ≤ B) (hg : A.grownBy A' row) (hr : ∀ r, row = some r → B ≤ r ∧ ∃ o : Obj, A.heap[r]? = some o ∧ o.isCells = false)
    (h : BRnd Ws v n at_ A) : BRnd Ws v n at_ A' := by
  have h2 : ∀ r, row = some r → ∃ o : Obj, A.heap[r]? = some o ∧ o.isCells = false := fun r e => (hr r e).2
  exact ⟨turn_below hg hr hB h.low.size h.low, ⟨turn_cell hg h2 h.k.1, turn_frozen hg h2 h.k.1 h.k.2⟩, ⟨turn_cell hg h2 h.at_.1, turn_frozen hg h2 h.at_.1 h.at_.2⟩, turn_cell hg h2 h.cap⟩
theorem BRnd.set {Ws : World} {v : Value} {n at_ : Nat} {W : World} (h : BRnd Ws v n at_ W) (m a : Nat) : BRnd Ws v m a ((W.setCell ⟨Ws.heap.size + 1, 0, none⟩ (.int .i64 (a : Int))).setCell ⟨Ws.heap.size, 0, none⟩ (.int .i64 (m : Int))) :=
  ⟨(h.low.setCell (p := ⟨Ws.heap.size + 1, 0, none⟩) (Nat.le_succ _) _).setCell (p := ⟨Ws.heap.size, 0, none⟩) (Nat.le_refl _) _,
    ⟨set_cell (set_other h.k.1 (by simp) _) _, set_frozen (set_frozen h.k.2 _) _⟩, ⟨set_other (set_cell h.at_.1 _) (by simp) _, set_frozen (set_frozen h.at_.2 _) _⟩, set_other (set_other h.cap (by simp) _) (by simp) _⟩
set_option maxHeartbeats 4000000 in
theorem frameBegins_walk (cut : Int) (v : Value) (ms : List (List UInt8)) (vs : List Value) (w : World) (hT : LaidF w) (hv : LL w v ms vs) (hs : (ms.map List.length).sum ≤ 1048576) (hn : ms.length ≤ 1048576) :
    Calls Tryd.prog 8 #[v, .int .i64 cut] w fun e w' => e = .returned (.bool true) ∧ Below w.heap.size w w' := by
  obtain ⟨A, c, rfl, hlc, hc, hn2⟩ := hv.form
  have hfl : (frs ms).length ≤ 9437184 := by rw [frs_length]; omega
  obtain ⟨q, hq, hqn⟩ := begins_place cut (frs ms).length (by omega)
  have KF := fun {w1 : World} (hb : Below w.heap.size w w1) => Lib.hid (framed_calls (.slice A ms.length c) ms vs w1 (hT.below hb) (hv.below hb) hs hn)
  have hz : (((frs ms).length : Int) + 1 == 0) = false := by simp; omega
  refine (callsIn_wide (n := 9)).1 ?_
  refine callsIn_of_wp_marks Tryd.func8 rfl trivial ?_ rfl
  simp only [Tryd.ntmps8, List.size_toArray, List.length_cons, List.length_nil, Nat.reduceAdd, Nat.reduceSub, Array.replicate_succ, Array.replicate_zero, List.push_toArray, List.append_toArray, List.nil_append, List.cons_append]
  have hfn := fun f cs bs W => eql_func_nil (P := Tryd.prog) 49 _ _ _ Tryd.underlying49 f cs bs W
  have hb0 : Below w.heap.size w (((w.alloc (.cells #[.slice A ms.length c] 41)).alloc (.cells #[.int .i64 cut] 3)).alloc (.cells #[.bool false] 4)) := below_then (below_then (below_alloc1 _ _) (below_alloc1 _ _)) (below_alloc1 _ _)
  have z0 := new_cell w (.slice A ms.length c) 41
  have z1 := new_cell (w.alloc (.cells #[.slice A ms.length c] 41)) (.int .i64 cut) 3
  have z1f := new_frozen (w.alloc (.cells #[.slice A ms.length c] 41)) #[.int .i64 cut] 3 0
  have z2 := new_cell ((w.alloc (.cells #[.slice A ms.length c] 41)).alloc (.cells #[.int .i64 cut] 3)) (.bool false) 4
  have z2f := new_frozen ((w.alloc (.cells #[.slice A ms.length c] 41)).alloc (.cells #[.int .i64 cut] 3)) #[.bool false] 4 0
  simp only [World.size_alloc] at z1 z1f z2 z2f
  have y0 := cell_below (below_alloc1 _ (.cells #[.bool false] 4)) (cell_below (below_alloc1 _ (.cells #[.int .i64 cut] 3)) z0)
  have y1 := cell_below (below_alloc1 _ (.cells #[.bool false] 4)) z1
  have y1f := frozen_below (below_alloc1 _ (.cells #[.bool false] 4)) z1 z1f
  clear z0 z1 z1f
  have toka : True := trivial
  gi_wp2_with fail
  refine ⟨trivial, ?_⟩
  gi_at_call 25
  refine (callsIn_wide.2 (KF hb0).out).mono ?_
  rintro e w1 ⟨vb, ve, rfl, hbb, hrow, hB1⟩
  have x0 := cell_below hB1 y0
  have x1 := cell_below hB1 y1
  have x1f := frozen_below hB1 y1 y1f
  have x2 := cell_below hB1 z2
  have x2f := frozen_below hB1 z2 z2f
  have hb1 := below_then hb0 hB1
  obtain ⟨Ab, cb, rfl, p1, p2, p3⟩ := hbb.form
  obtain ⟨Ae, ce, rfl, e1, e2, e3⟩ := owns_form hrow
  have u1 := cell_below (below_alloc1 w1 (.cells #[.slice Ae ms.length ce] 42)) x1
  have u1f := frozen_below (below_alloc1 w1 (.cells #[.slice Ae ms.length ce] 42)) x1 x1f
  have u2 := set_cell u1 (.int .i64 (q : Int))
  have hq1 : w.heap.size + 1 + 1 + 1 ≤ w1.heap.size := by
    have := hB1.size
    simpa using this
  have u4 := fun (o1 o2 : Obj) => cell_below (below_alloc1 _ o2) (cell_below (below_alloc1 _ o1) u2)
  have u5 := fun (o1 o2 o3 : Obj) => cell_below (below_alloc1 _ o3) (u4 o1 o2)
  gi_wp2_with (first
    | (refine ⟨trivial, ?_⟩; gi_at_call 24; have _t := toka; refine (callsIn_wide.2 (allv_calls _ _ Ab q cb rfl)).mono ?_; clear toka; rintro e w5 ⟨rfl, rfl⟩)
    | (refine ⟨trivial, ?_⟩; gi_at_call 24; refine (callsIn_wide.2 (allv_calls _ _ Ab q cb rfl)).mono ?_; rintro e w5 ⟨rfl, rfl⟩)
    | fail)
  have hbs : Below w.heap.size w ((w1.alloc (.cells #[.slice Ae ms.length ce] 42)).setCell ⟨w.heap.size + 1, 0, none⟩ (.int .i64 (q : Int))) :=
    ((hb1.alloc hb1.size _)).setCell (p := ⟨w.heap.size + 1, 0, none⟩) (by show w.heap.size ≤ w.heap.size + 1; omega) _
  have hG : GBox w (.slice A ms.length c) (.slice Ab (frs ms).length cb) (.slice Ae ms.length ce) ms vs q w1.heap.size ((w1.alloc (.cells #[.slice Ae ms.length ce] 42)).setCell ⟨w.heap.size + 1, 0, none⟩ (.int .i64 (q : Int))) := by
    have hz3 : ((((w.alloc (.cells #[.slice A ms.length c] 41)).alloc (.cells #[.int .i64 cut] 3)).alloc (.cells #[.bool false] 4))).heap.size = w.heap.size + 1 + 1 + 1 := by simp
    have hne : ∀ k, w.heap.size + 1 + 1 + 1 ≤ k → k ≠ w.heap.size + 1 := fun k hk => by omega
    have o1 := (hbb.alloc (.cells #[.slice Ae ms.length ce] 42)).kept (grown_setCell _ (w.heap.size + 1) 0 (.int .i64 (q : Int))) (by
      cases hv : (Value.slice Ab (frs ms).length cb).ownBlock with
      | none => exact .inl rfl
      | some k => exact .inr (by have := (hbb.lt k hv).1; rw [hz3] at this; simpa using hne k this))
    have o2 := World.ownsRow.kept (World.ownsRow.alloc hrow (.cells #[.slice Ae ms.length ce] 42)) (grown_setCell _ (w.heap.size + 1) 0 (.int .i64 (q : Int))) (by
      cases hv : (Value.slice Ae ms.length ce).ownBlock with
      | none => exact .inl rfl
      | some k => exact .inr (by have := owns_ge hrow k hv; rw [hz3] at this; simpa using hne k this))
    refine ⟨?_, u2, ⟨?_, ?_⟩, ?_, hv.below hbs, Row.of_owns o2, o1.bs, hbs⟩
    · exact set_other (cell_below (below_alloc1 _ _) x0) (by simp) _
    · exact set_other (cell_below (below_alloc1 _ _) x2) (by simp) _
    · exact set_frozen (frozen_below (below_alloc1 _ _) x2 x2f) _
    · exact set_other (new_cell w1 _ _) (by show w.heap.size + 1 ≠ w1.heap.size; omega) _
  clear u1 u1f u2 u4 u5 x0 x1 x1f x2 x2f y0 y1 y1f z2 z2f hbb hrow hbs
  generalize hWs : (w1.alloc (.cells #[.slice Ae ms.length ce] 42)).setCell ⟨w.heap.size + 1, 0, none⟩ (.int .i64 (q : Int)) = Ws at hG ⊢
  have hsz : Ws.heap.size = w1.heap.size + 1 := by rw [← hWs]; simp [World.setCell]
  clear hWs
  simp only [← hsz]
  clear hsz
  have hnil : (frs ms).take q ++ (frs ms).drop q = frs ms := List.take_append_drop q _
  have hql : ((frs ms).take q).length = q := by rw [List.length_take]; omega
  have hqb : ∀ {V : World}, Below Ws.heap.size Ws V → Bs V (.slice Ab q cb) ((frs ms).take q) := fun {V} hb => by
    have h1 := (hG.below hb).bs
    rw [← hnil] at h1
    exact h1.pre hql.symm
  have hms : ∀ m ∈ ms, m.length ≤ 1048576 := fun m hm => Nat.le_trans (len_le_sum hm) hs
  have hte := told_eq ms [] q hms
  obtain ⟨hter, htle⟩ := told_err ms [] q hms hqn
  simp only [List.nil_append, List.length_nil, Nat.zero_add] at hte hter htle
  have KW := fun {V : World} (hb : Below Ws.heap.size Ws V) => Lib.hid (whole_calls (.slice Ab q cb) ((frs ms).take q) V (hT.below (hG.below hb).low) (hqb hb) (by omega))
  rw [hte, hter] at KW
  have hit := all_iter 8 (by omega) (Ws.heap.size + 3) (.slice Ab q cb) ((frs ms).take q) (by omega)
  rw [hte] at hit
  have HTN := Lib.hid (told_next ms 0 q)
  have hkl := told_le ms 0 q
  have HTG := Lib.hid (told_get ms 0 q)
  rw [Nat.zero_add] at HTN HTG
  clear hte hter hnil
  have hel := endsL_length ms 0
  generalize told 0 ms q = ts at *
  have hbr : BRnd Ws (.slice Ab q cb) 0 0 ((((Ws.alloc (.cells #[.int .i64 0] 3)).alloc (.cells #[.int .i64 0] 3)).alloc (.cells #[.slice Ab q cb] 23)).alloc (.cells #[.slice Ab q cb] 23)) := by
    obtain ⟨q1, q2, q3, q4⟩ := box_made Ws (.int .i64 0) (.int .i64 0) 3 3
    obtain ⟨r1, r2, r3, r4⟩ := box_made ((Ws.alloc (.cells #[.int .i64 0] 3)).alloc (.cells #[.int .i64 0] 3)) (.slice Ab q cb) (.slice Ab q cb) 23 23
    simp only [World.size_alloc] at r2
    have f0 := frozen_below (below_alloc1 _ (.cells #[.int .i64 0] 3)) (new_cell Ws (.int .i64 0) 3) (new_frozen Ws #[.int .i64 0] 3 0)
    exact ⟨below_then q4 r4, ⟨cell_below r4 q1, frozen_below r4 q1 f0⟩, ⟨cell_below r4 q2, frozen_below r4 q2 q3⟩, r2⟩
  refine wpIn_range2 rfl (by omega) (gf := 40) (lb := #[.pointer (some ⟨Ws.heap.size + 3, 0, none⟩)]) (by rfl) trivial (enters_of Tryd.func40 (by kernel_rfl) rfl)
    hit handF_steady (by rintro x args W0 W1 ⟨v, rfl, _⟩; rfl)
    (fun pre V => BRnd Ws (.slice Ab q cb) pre.length (endF 0 pre) V) (fun _ _ => False)
    (fun s X Y row h hg hr => BRnd.turn (by simp; omega) hg hr h) (fun s X Y row h hg hr => h)
    (fun pre V h => ⟨h.cap, hqb h.low, hT.below (hG.below h.low).low⟩) hbr ?round ?done ?stop
  case round =>
    rintro lp x args W0 W1 hs0 hb ⟨v', rfl, ho⟩
    gi_wp2
    refine ⟨Below.refl _ _, ?_⟩
    rintro l' pre rest V0 V2 hl' hxs hI hbV ⟨v'', e, hoV⟩
    obtain rfl : v' = v'' := by cases e; rfl
    clear e ho
    have hJ := hI.below hbV
    have hY := hG.below hJ.low
    obtain ⟨ge, gm, gq⟩ := HTG.out pre.length x (by rw [hxs]; simp)
    have hlt : pre.length < ms.length := by have := (List.getElem?_eq_some_iff.1 gm).1; exact this
    obtain ⟨ad, u, rfl, hcu, hbu⟩ := hY.all.at_ pre.length hlt
    have hmx : ms[pre.length] = x.2 := by rw [List.getElem?_eq_getElem hlt] at gm; exact Option.some.inj gm
    rw [hmx] at hbu
    obtain ⟨ad2, rfl, hce⟩ := hY.row.at_ pre.length (u := .int .i64 (x.1 : Int)) (by simp [intsV, ge])
    obtain ⟨Au, cu, rfl, hu1, hu2, hu3⟩ := hbu.form
    obtain ⟨Av, cv, rfl, hv1, hv2, hv3⟩ := hoV.form
    have cvu : ∀ n, (convert 23 9 (.slice Au x.2.length cu)).run Tryd.prog (V2.drewN n) = .ok (.string ⟨x.2.toArray⟩) (V2.drewN n) := fun n => str_u8 hbu
    have cvv : ∀ n, (convert 23 9 (.slice Av x.2.length cv)).run Tryd.prog (V2.drewN n) = .ok (.string ⟨x.2.toArray⟩) (V2.drewN n) := fun n => str_u8 hoV.bs
    obtain ⟨ci, cif⟩ := hJ.k
    obtain ⟨ca, caf⟩ := hJ.at_
    have cl := hY.l
    have ce1 := hY.ends
    have cc := hY.cut
    have g1 : (0 : Int) ≤ (pre.length : Int) := Int.natCast_nonneg _
    have g2 : (pre.length : Int) < (ms.length : Int) := by omega
    have g3 : decide ((ms.length : Int) ≤ (pre.length : Int)) = false := by rw [decide_eq_false_iff_not]; omega
    have g4 : decide (ms.length ≤ pre.length) = false := by rw [decide_eq_false_iff_not]; omega
    have g6 : decide ((q : Int) < (x.1 : Int)) = false := by rw [decide_eq_false_iff_not]; omega
    have g7 : decide (q < x.1) = false := by rw [decide_eq_false_iff_not]; omega
    have g5 : (pre.length : Int) + 1 ≤ 9223372036854775807 := by omega
    clear ge gm hmx HTG HTN hxs
    gi_wp2
    refine wpIn_region_quiet_any (by kernel_rfl) (by kernel_rfl) (by kernel_rfl) ?_
    repeat (gi_big_quiet_step (fail))
    refine wpQuietIn_nil ?_
    intro _ hw'; obtain ⟨nq, hw''⟩ := hw'; subst hw''
    have hD := below_drewN (Below.refl V2.heap.size V2) nq
    generalize V2.drewN nq = V3 at hD ⊢
    have hJ3 := hJ.below hD
    clear cvu cvv ci cif ca caf cl ce1 cc g1 g2 g3 g4 g6 g7 hbu hoV hcu hce
    obtain ⟨ci, cif⟩ := hJ3.k
    obtain ⟨ca, caf⟩ := hJ3.at_
    have ci2 := set_other (a := ⟨Ws.heap.size + 1, 0, none⟩) ci (by simp) (.int .i64 (x.1 : Int))
    gi_wp2
    have hset := hJ3.set (pre.length + 1) x.1
    rw [show ((pre.length + 1 : Nat) : Int) = (pre.length : Int) + 1 by omega] at hset
    exact ⟨KeepsFrom.trans' (KeepsFrom.below _ hD) (KeepsFrom.trans' ((KeepsOthers.setCell V3 ⟨Ws.heap.size + 1, 0, none⟩ (.int .i64 (x.1 : Int))).from _) ((KeepsOthers.setCell _ ⟨Ws.heap.size, 0, none⟩ (.int .i64 ((pre.length : Int) + 1))).from _)),
      by show BRnd _ _ (pre ++ [x]).length (endF 0 (pre ++ [x])) _; rw [endF_snoc, show (pre ++ [x]).length = pre.length + 1 by simp]; exact hset⟩
  case done =>
    intro D W0 W2 hD hI hb hK
    have hJ := hI.below hb
    have hY := hG.below hJ.low
    have KW1 := (KW hJ.low).out
    obtain ⟨ci, cif⟩ := hJ.k
    obtain ⟨ca, caf⟩ := hJ.at_
    have cl := hY.l
    have cc := hY.cut
    clear KW HTG hit hbr
    generalize endF 0 ts = E at *
    obtain ⟨er, b1, KW2, gE, he⟩ : ∃ (er : Int) (b1 : Bool), Hid (Calls Tryd.prog 22 #[.slice Ab q cb] W2 fun e w' => e = .returned (.tuple #[.int .i64 (E : Int), .int .i64 er]) ∧ Below W2.heap.size W2 w') ∧ ((E : Int) == (q : Int)) = b1 ∧ ((er = 0 ∧ b1 = true) ∨ (er = 111 ∧ b1 = false)) := by
      by_cases h : E = q
      · rw [if_pos h] at KW1
        exact ⟨0, true, KW1, by simp [h], .inl ⟨rfl, rfl⟩⟩
      · rw [if_neg h] at KW1
        exact ⟨111, false, KW1, by simp; omega, .inr ⟨rfl, rfl⟩⟩
    clear KW1
    rcases HTN.out with hk | ⟨e2, hk1, hk2⟩
    · have gk : ((ts.length : Int) == (ms.length : Int)) = true := by simp [hk]
      clear HTN hk
      generalize ts.length = n at *
      rcases he with ⟨rfl, rfl⟩ | ⟨rfl, rfl⟩
      all_goals
        have gz : decide ((q : Int) < (q : Int)) = false := by simp
        gi_wp2_with (refine ⟨trivial, ?_⟩; gi_at_call 22; refine (callsIn_wide.2 KW2.out).mono ?_; rintro e w9 ⟨rfl, hB9⟩; have hJ9 := hJ.below hB9; have hY9 := hG.below hJ9.low; have ci9 := hJ9.k.1; have ca9 := hJ9.at_.1; have cl9 := hY9.l; have cc9 := hY9.cut; have ce9 := hY9.ends; obtain ⟨cr9, crf9⟩ := hY9.res)
        refine to_plain ?_
        refine wp_region_quiet_tail 33 (by kernel_rfl) (by kernel_rfl) ?_
        simp only [List.take_succ_cons, List.take_zero, List.drop_succ_cons, List.drop_zero]
        repeat (go_big_quiet_step (fail))
        refine wpQuiet_nil ?_
        intro _ hw'; obtain ⟨nq, hw''⟩ := hw'; subst hw''
        have hD9 := below_drewN (Below.refl w9.heap.size w9) nq
        have hr9 := cell_below hD9 cr9
        have hf9 := frozen_below hD9 cr9 crf9
        have hM9 := mark_below hD9 (mark_below hB9 hK)
        have hL9 := (hY9.below hD9).low
        generalize w9.drewN nq = w8 at hD9 hr9 hf9 hM9 hL9 ⊢
        go_wp2
        gi_wp2
        have hlt := World.block_lt_of_cell? Ws ⟨w.heap.size + 2, 0, none⟩ hG.res.1
        simp only at hlt
        have hD4 : Ws.heap.size + 1 + 1 + 1 + 1 ≤ D := by simpa using hD
        exact leaves_one_cell (w := w) (mark_set (a := ⟨w.heap.size + 2, 0, none⟩) hM9 (by show D ≠ w.heap.size + 2; omega) (.bool true)) (by omega) (hL9.setCell (p := ⟨w.heap.size + 2, 0, none⟩) (by show w.heap.size ≤ w.heap.size + 2; omega) _) (set_cell hr9 _) (fun W' h => by simp [results, Tryd.results8, go_sem, h]) (fun W' hb => ⟨rfl, hb⟩)
    · have hlt : ts.length < ms.length := by have := (List.getElem?_eq_some_iff.1 hk1).1; rw [hel] at this; exact this
      have gk : ((ts.length : Int) == (ms.length : Int)) = false := by simp; omega
      obtain ⟨ad2, rfl, hce⟩ := hY.row.at_ ts.length (u := .int .i64 (e2 : Int)) (by simp [intsV, hk1])
      have g1 : (0 : Int) ≤ (ts.length : Int) := Int.natCast_nonneg _
      have g2 : (ts.length : Int) < (ms.length : Int) := by omega
      have g6 : decide ((q : Int) < (e2 : Int)) = true := by rw [decide_eq_true_iff]; omega
      have g7 : decide (q < e2) = true := by rw [decide_eq_true_iff]; omega
      clear HTN hk1
      generalize ts.length = n at *
      rcases he with ⟨rfl, rfl⟩ | ⟨rfl, rfl⟩
      all_goals
        have gz : decide ((q : Int) < (q : Int)) = false := by simp
        gi_wp2_with (refine ⟨trivial, ?_⟩; gi_at_call 22; refine (callsIn_wide.2 KW2.out).mono ?_; rintro e w9 ⟨rfl, hB9⟩; have hJ9 := hJ.below hB9; have hY9 := hG.below hJ9.low; have ci9 := hJ9.k.1; have ca9 := hJ9.at_.1; have cl9 := hY9.l; have cc9 := hY9.cut; have ce9 := hY9.ends; obtain ⟨cr9, crf9⟩ := hY9.res; have hce9 := cell_below hB9 hce)
        refine to_plain ?_
        refine wp_region_quiet_tail 33 (by kernel_rfl) (by kernel_rfl) ?_
        simp only [List.take_succ_cons, List.take_zero, List.drop_succ_cons, List.drop_zero]
        repeat (go_big_quiet_step (fail))
        refine wpQuiet_nil ?_
        intro _ hw'; obtain ⟨nq, hw''⟩ := hw'; subst hw''
        have hD9 := below_drewN (Below.refl w9.heap.size w9) nq
        have hr9 := cell_below hD9 cr9
        have hf9 := frozen_below hD9 cr9 crf9
        have hM9 := mark_below hD9 (mark_below hB9 hK)
        have hL9 := (hY9.below hD9).low
        generalize w9.drewN nq = w8 at hD9 hr9 hf9 hM9 hL9 ⊢
        go_wp2
        gi_wp2
        have hlt := World.block_lt_of_cell? Ws ⟨w.heap.size + 2, 0, none⟩ hG.res.1
        simp only at hlt
        have hD4 : Ws.heap.size + 1 + 1 + 1 + 1 ≤ D := by simpa using hD
        exact leaves_one_cell (w := w) (mark_set (a := ⟨w.heap.size + 2, 0, none⟩) hM9 (by show D ≠ w.heap.size + 2; omega) (.bool true)) (by omega) (hL9.setCell (p := ⟨w.heap.size + 2, 0, none⟩) (by show w.heap.size ≤ w.heap.size + 2; omega) _) (set_cell hr9 _) (fun W' h => by simp [results, Tryd.results8, go_sem, h]) (fun W' hb => ⟨rfl, hb⟩)
  case stop =>
    rintro D c' W0 W _ h
    exact h.elim
end Go.Proofs.YthgjecofmnomfaaDoor
