/- WALK of coppicelaw14.ShelfStays. No statement of the seed is proved here. -/
import Derived.Test.YtjllkmkngjdjjaaDoorShfE
namespace Go.Proofs.YtjllkmkngjdjjaaDoor
open Go.RowKit Go.Shelf
attribute [local go_sem] Oper.semAt_some
set_option maxRecDepth 100000
theorem hgt_calls (a : Int) (W : World) : Calls Tryd.prog 5 #[.int .i64 a] W fun e w' => ∃ h : Nat, e = .returned (.int .i64 (h : Int)) ∧ 1 ≤ h ∧ h ≤ 8 ∧ W = w' := by
  have t1 := Int.tmod_lt_of_pos a (show (0 : Int) < 8 by decide)
  have t2 := Int.lt_tmod_of_pos a (show (0 : Int) < 8 by decide)
  have e1 : wrap64 (a.tmod 8 + 8) = a.tmod 8 + 8 := by unfold wrap64; omega
  have e2 : (a.tmod 8 + 8).tmod 8 = (a.tmod 8 + 8) % 8 := Int.tmod_eq_emod_of_nonneg (by omega)
  have e3 : wrap64 (1 + (a.tmod 8 + 8) % 8) = ((1 + ((a.tmod 8 + 8) % 8).toNat : Nat) : Int) := by unfold wrap64; omega
  go_enter Tryd.func5, Tryd.ntmps5
  go_wp2
  go_ret
  refine ⟨1 + (a.tmod 8 % 8).toNat, ?_, by omega, by omega, rfl⟩
  show Ending.returned (.int .i64 (1 + a.tmod 8 % 8)) = _
  congr 2
  omega
/-- What the last put makes, and what it answers. -/
theorem stays_after (x : DT) (s : DSt) (sec : Nat) (hsec : 0 < sec) (L : List (List UInt8)) (W : World) (B : Nat) (hx : x.At s W B) (hB : B ≤ W.heap.size) (hT : TabW W) (h : Nat) (h1 : 1 ≤ h) (h8 : h ≤ 8) (H : Filled s sec h L) (hL : L.length ≤ 1000000) (b : List UInt8) (hb : b.length = 32) :
    ∃ (s' : DSt) (rs : List RawD), s'.raws = s.raws ++ rs ∧ rs.length ≤ 33 ∧ (∀ r ∈ rs, r.name = tname h 0 (L.length / 2 ^ h) ∧ (r.kind = 1 ∨ r.kind = 2)) ∧ (rs.map RawD.bytes).flatten = b ∧ s.raws.length ≤ 40000000 ∧
      Hid (Calls Tryd.prog 7 #[.pointer (some ⟨x.p, 0, none⟩)] W fun e w' => e = .returned (.int .i64 (s.raws.length : Int)) ∧ W = w') ∧
      Hid (Calls Tryd.prog 8 #[.pointer (some ⟨x.p, 0, none⟩), .int .i64 (h : Int), .int .i64 0, .int .i64 (L.length : Int), .agg (u8s b).toArray] W fun e w' => e = .returned (.int .i64 0) ∧ ∃ y : DT, y.At s' w' B ∧ DStep x W y w') := by
  have hs : 0 < s.sec := by rw [H.sec]; exact hsec
  obtain ⟨rs, e1, e2, e3, e4⟩ := sPut_raws s (tname h 0 (L.length / 2 ^ h)) b hs
  have := H.raws
  exact ⟨_, rs, e1, by omega, e3, e4, by omega, Lib.hid (dwrites_calls x s W B hx), Lib.hid (fput_calls x s sec L W B hx hB hT h h1 h8 H (by omega) b hb)⟩
theorem lname_calls (n : Nat) (w : World) (hT : TabW w) (h : Nat) (h1 : 1 ≤ h) (h8 : h ≤ 8) (hn : n ≤ 1000000000) : Calls Tryd.prog 9 #[.int .i64 (h : Int), .int .i64 0, .int .i64 ((n : Int) / 2 ^ h)] w fun e w' => e = .returned (.tuple #[.string (tname h 0 (n / 2 ^ h)), .int .i64 0]) ∧ Below w.heap.size w w' := by
  have K := sname h 0 (n / 2 ^ h : Nat) w hT
  have hv := Filled.tile (L := List.replicate n []) h1 h8 (by simp; omega) (n / 2 ^ h) (by simp; exact Nat.div_mul_le_self _ _)
  have hno := nameV_ok (l := 0) h1 h8 hv
  rw [show ((0 : Nat) : Int) = 0 from rfl] at hno
  rw [hno, show ((n / 2 ^ h : Nat) : Int) = (n : Int) / 2 ^ h by push_cast; rfl] at K
  exact K
theorem tot_step (rs : List RawD) (j : Nat) (hj : j < rs.length) : ((rs.take (j + 1)).map RawD.bytes).flatten.length = ((rs.take j).map RawD.bytes).flatten.length + rs[j].bytes.length := by
  rw [List.take_succ_eq_append_getElem hj, List.map_append, List.flatten_append, List.length_append]
  simp
theorem tot_le (rs : List RawD) (j : Nat) : ((rs.take j).map RawD.bytes).flatten.length ≤ (rs.map RawD.bytes).flatten.length := by
  have e : (rs.map RawD.bytes).flatten = ((rs.take j).map RawD.bytes).flatten ++ ((rs.drop j).map RawD.bytes).flatten := by rw [← List.flatten_append, ← List.map_append, List.take_append_drop]
  rw [e, List.length_append]
  omega
theorem stay_lt {q j n : Nat} (h : j < n) : decide (((q + j : Nat) : Int) < (q : Int) + (n : Int)) = true := by rw [decide_eq_true_iff]; omega
theorem stay_ge (q n : Nat) : decide (((q + n : Nat) : Int) < (q : Int) + (n : Int)) = false := by rw [decide_eq_false_iff_not]; omega
theorem stay_sum {t r n : Nat} (h : n = t + r) (hn : n ≤ 32) : wrap64 ((t : Int) + (r : Int)) = ((n : Nat) : Int) := by unfold wrap64; omega
theorem stay_next {q j : Nat} (h : q ≤ 40000000) (hj : j < 33) : wrap64 (((q + j : Nat) : Int) + 1) = ((q + (j + 1) : Nat) : Int) := by unfold wrap64; omega
theorem stay_down {q j n : Nat} (h : q ≤ 40000000) (hj : j < n) (hn : n ≤ 33) : q + n - (intOf (.int .i64 (wrap64 (((q + j : Nat) : Int) + 1)))).toNat < q + n - (intOf (.int .i64 ((q + j : Nat) : Int))).toNat := by
  rw [stay_next h (by omega)]
  simp only [intOf, Int.toNat_natCast]
  omega
set_option maxHeartbeats 2000000 in
theorem shelfStays_walk (a : Int) (v : Value) (L : List (List UInt8)) (b : List UInt8) (W : World) (hT : TabW W) (hv : Ds W v L) (hL : L.length ≤ 1000000) (hb : b.length = 32) :
    Calls Tryd.prog 3 #[.int .i64 a, v, .agg (u8s b).toArray] W fun e w' => e = .returned (.bool true) ∧ Below W.heap.size W w' := by
  have K0 := Lib.hid (hgt_calls a)
  obtain ⟨A, c, rfl, l1, l2⟩ := hv.form
  have hbW := below_alloc1 W (.cells (u8s b).toArray 24)
  have hrb : (W.alloc (.cells (u8s b).toArray 24)).rangeAt W.heap.size 0 (u8s b) := range_box W (u8s b) _
  have hz1 : (W.alloc (.cells (u8s b).toArray 24)).heap.size = W.heap.size + 1 := by simp
  have KF := Lib.hid (fun h h1 h8 => filled_calls 7 h h1 h8 (by omega) _ L _ (tab_below hT hbW) (hv.below hbW) (by omega))
  rw [show ((7 : Nat) : Int) = 7 from rfl] at KF
  have HTb := Lib.hid (tab_below hT hbW)
  clear hv hT
  go_enter Tryd.func3, Tryd.ntmps3
  go_wp2_with (first
    | (go_at_call 5; refine (K0.out _).mono ?_; rintro e w1 ⟨h, rfl, h1, h8, rfl⟩)
    | (go_at_call 6; refine (KF.out h h1 h8).mono ?_; rintro e w2 ⟨x, s, rfl, hx, hF, hB2⟩; obtain ⟨s', rs, e1, e2, e3, e4, e5, KW, KP⟩ := stays_after x s 8 (by omega) L w2 _ hx hB2.size (tab_below HTb.out hB2) h h1 h8 hF hL b hb; have HLd := Lib.hid (load_digest hb (range_below hrb hB2)); have HB2 := Lib.hid hB2; have HXX := Lib.hid hx; clear hx hF hB2)
    | (go_at_call 7; refine KW.out.mono ?_; rintro e w3 ⟨rfl, rfl⟩)
    | (refine wpList_load_run rfl 24 _ rfl _ _ rfl HLd.out ?_; simp only [Act.put, List.setIfInBounds_toArray, List.set_cons_zero, List.set_cons_succ])
    | (go_at_call 8; refine KP.out.mono ?_; rintro e w3 ⟨rfl, y, hy, hst⟩)
    | (go_at_call 9; have hb3 := hst.below HXX.out HB2.out HB2.out.size; refine (lname_calls L.length _ (tab_below HTb.out hb3) h h1 h8 (by omega)).mono ?_; rintro e w4 ⟨rfl, hB4⟩))
  have hy4 := hy.below hB4
  have hW4 := below_then hbW (below_then hb3 hB4)
  have hyp := hst.p
  clear KW KP HLd HB2 HXX hB4 hb3 hst hy HTb KF K0 hrb hz1
  have hnlen : ((rs.map RawD.bytes).flatten).length = 32 := by rw [e4, hb]
  have hql : s'.raws.length = s.raws.length + rs.length := by rw [e1, List.length_append]
  have hget : ∀ (j : Nat) (hj : j < rs.length), s'.raws[s.raws.length + j]? = some rs[j] := fun j hj => by rw [e1, List.getElem?_append_right (by omega), Nat.add_sub_cancel_left, List.getElem?_eq_getElem hj]
  clear e1 e4
  generalize tname h 0 (L.length / 2 ^ h) = nm at *
  generalize s.raws.length = q at *
  generalize W.alloc (.cells (u8s b).toArray 24) = W1 at *
  go_loopw [11, 12] (fun bt i wr => ∃ j : Nat, j ≤ rs.length ∧ i = .int .i64 ((q + j : Nat) : Int) ∧ bt = .int .i64 (((rs.take j).map RawD.bytes).flatten.length : Int) ∧ Below w4.heap.size w4 wr) (fun _ i _ => q + rs.length - (intOf i).toNat)
  case atStart => exact ⟨0, Nat.zero_le _, rfl, rfl, Below.refl _ _⟩
  case round =>
    obtain ⟨j, hj, rfl, rfl, hbl⟩ := hrel
    have hyr := hy4.below hbl
    have KW2 := dwrites_calls y s' wr _ hyr
    rw [hyp, hql, show ((q + rs.length : Nat) : Int) = (q : Int) + (rs.length : Int) by push_cast; rfl] at KW2
    have KW2 := Lib.hid KW2
    have htl := tot_le rs j
    rw [hnlen] at htl
    by_cases hlt : j < rs.length
    · have hst := tot_step rs j hlt
      have htl1 := tot_le rs (j + 1)
      rw [hnlen] at htl1
      have hrb : rs[j].bytes.length ≤ 32 := by omega
      have KR := draw_calls y s' wr _ hyr (q + j) rs[j] (hget j hlt) (by omega)
      obtain ⟨hname, hkind⟩ := e3 rs[j] (List.getElem_mem hlt)
      rw [hyp] at KR
      unfold rawL at KR
      rw [hname] at KR
      generalize rs[j] = r at *
      generalize ht1 : ((rs.take (j + 1)).map RawD.bytes).flatten.length = T1 at *
      generalize ht0 : ((rs.take j).map RawD.bytes).flatten.length = T0 at *
      have HT1 := Lib.hid ht1
      have HST := Lib.hid hst
      have HTL := Lib.hid htl1
      have hwT : wrap64 ((T0 : Int) + (r.bytes.length : Int)) = ((T1 : Nat) : Int) := stay_sum hst htl1
      have hwj : wrap64 (((q + j : Nat) : Int) + 1) = ((q + (j + 1) : Nat) : Int) := stay_next e5 (by omega)
      have g1 : decide (((q + j : Nat) : Int) < (q : Int) + (rs.length : Int)) = true := stay_lt hlt
      clear ht1 ht0 hget hyr hst e3 hname htl htl1
      have HQ := Lib.hid hql
      clear hql
      generalize hqj : q + j = qj at *
      have HQJ := Lib.hid hqj; clear hqj
      rcases hkind with hk | hk
      · rw [hk] at KR
        have KR := Lib.hid KR
        clear hk
        go_wp2_with (first
          | (go_at_call 7; refine KW2.out.mono ?_; rintro e w5 ⟨rfl, rfl⟩)
          | (go_at_call 10; refine KR.out.mono ?_; rintro e w6 ⟨v6, rfl, ho6, hB6⟩; obtain ⟨A6, c6, ev6, -, -, -⟩ := ho6.form; subst ev6))
        have HB6 := Lib.hid hB6
        refine ⟨⟨j + 1, by omega, by rw [← HQJ.out]; exact congrArg _ (stay_next e5 (by omega)), by rw [HT1.out]; exact congrArg _ (stay_sum HST.out HTL.out), below_then hbl (below_then HB6.out (below_alloc1 _ _))⟩, ?_⟩
        rw [← HQJ.out]
        exact stay_down e5 hlt e2
      · rw [hk] at KR
        have KR := Lib.hid KR
        clear hk
        go_wp2_with (first
          | (go_at_call 7; refine KW2.out.mono ?_; rintro e w5 ⟨rfl, rfl⟩)
          | (go_at_call 10; refine KR.out.mono ?_; rintro e w6 ⟨v6, rfl, ho6, hB6⟩; obtain ⟨A6, c6, ev6, -, -, -⟩ := ho6.form; subst ev6))
        have HB6 := Lib.hid hB6
        refine ⟨⟨j + 1, by omega, by rw [← HQJ.out]; exact congrArg _ (stay_next e5 (by omega)), by rw [HT1.out]; exact congrArg _ (stay_sum HST.out HTL.out), below_then hbl (below_then HB6.out (below_alloc1 _ _))⟩, ?_⟩
        rw [← HQJ.out]
        exact stay_down e5 hlt e2
    · have e : j = rs.length := by omega
      subst e
      rw [List.take_length, hnlen] at *
      have g1 : decide (((q + rs.length : Nat) : Int) < (q : Int) + (rs.length : Int)) = false := stay_ge q rs.length
      clear hget hyr e3 htl
      go_wp2_with (first
          | (go_at_call 7; refine KW2.out.mono ?_; rintro e w5 ⟨rfl, rfl⟩))
      go_ret
      exact ⟨rfl, below_then hW4 hbl⟩
end Go.Proofs.YtjllkmkngjdjjaaDoor
