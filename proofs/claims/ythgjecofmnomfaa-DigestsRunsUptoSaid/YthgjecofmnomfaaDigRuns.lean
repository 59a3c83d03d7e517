/- WALK of the law DigestsRuns. No statement of the seed is proved here. -/
import Derived.Test.YthgjecofmnomfaaDigH
namespace Go.Proofs.Ythgjecofmnomfaa
open Go.RowKit
set_option maxRecDepth 100000

/-- Where the law stands behind i digests. -/
structure RunsAt (W wr : World) (l : List (List UInt8)) (i p : Nat) (vr : Value) (us : List Value) (rs : List (List Item)) : Prop where
  ix : Ix wr W.heap.size p vr us rs
  pl : Placed l i rs
  bel : Below W.heap.size W wr
  cnt : rs.flatten.length ≤ i
theorem runs_add {W wr : World} {l : List (List UInt8)} {j p : Nat} {vr : Value} {us : List Value} {rs : List (List Item)} (h : RunsAt W wr l j p vr us rs) (hj : j < l.length) (hn : l.length ≤ 900000) (d32 : l[j].length = 32) :
    ∃ (code : Int) (rs' : List (List Item)), ((code = 0 ∧ rs'.flatten.length = rs.flatten.length + 1) ∨ (code = 120 ∧ rs'.flatten.length = rs.flatten.length)) ∧
      Calls Try.prog 12 #[.pointer (some ⟨p, 0, none⟩), .agg (u8s l[j]).toArray, .int .i64 (j : Int)] wr fun e w' => e = .returned (.int .i64 code) ∧ ∃ vr' us', RunsAt W w' l (j + 1) p vr' us' rs' := by
  have hd? : l[j]? = some l[j] := List.getElem?_eq_getElem hj
  have K := add_calls p vr us rs W.heap.size l[j] j wr h.ix d32 h.bel.size (by omega) (by have := h.cnt; omega) h.pl.ne
  by_cases hf : findI rs.flatten l[j] = none
  · refine ⟨0, addRuns rs (l[j], (j : Int)), .inl ⟨rfl, addRuns_len _ _⟩, K.mono ?_⟩
    rintro e w' (⟨h1, -⟩ | ⟨-, rfl, vr', us', h2, h3⟩)
    · exact absurd hf h1
    · exact ⟨rfl, vr', us', h2, h.pl.new hd?, h3.below h.ix h.bel h.bel.size, by rw [addRuns_len]; have := h.cnt; omega⟩
  · refine ⟨120, rs, .inr ⟨rfl, rfl⟩, K.mono ?_⟩
    rintro e w' (⟨-, rfl, h2⟩ | ⟨h1, -⟩)
    · exact ⟨rfl, vr, us, h.ix.below h2, h.pl.old hd? hf, h.bel.trans (h2.mono h.bel.size), by have := h.cnt; omega⟩
    · exact absurd h1 hf
theorem RunsAt.finds {W wr : World} {l : List (List UInt8)} {j p : Nat} {vr : Value} {us : List Value} {rs : List (List Item)} (h : RunsAt W wr l (j + 1) p vr us rs) (hj : j < l.length) (d32 : l[j].length = 32) :
    ∃ q : Nat, q ≤ j ∧ l[q]? = some l[j] ∧ Calls Try.prog 13 #[.pointer (some ⟨p, 0, none⟩), .agg (u8s l[j]).toArray] wr fun e w' => e = .returned (.tuple #[.int .i64 (q : Int), .bool true]) ∧ Below wr.heap.size wr w' := by
  obtain ⟨q, h1, h2, h3⟩ := h.pl.finds (List.getElem?_eq_getElem hj)
  refine ⟨q, h2, h3, (find_calls p vr us rs l[j] wr h.ix.read d32).mono ?_⟩
  rintro e w' ⟨rfl, h4⟩
  rw [h1]
  exact ⟨rfl, h4⟩
theorem RunsAt.later {W wr w' : World} {l : List (List UInt8)} {j p : Nat} {vr : Value} {us : List Value} {rs : List (List Item)} (h : RunsAt W wr l j p vr us rs) (hb : Below wr.heap.size wr w') : RunsAt W w' l j p vr us rs :=
  ⟨h.ix.below hb, h.pl, h.bel.trans (hb.mono h.bel.size), h.cnt⟩
set_option maxHeartbeats 8000000 in
theorem digestsRuns_walk (v : Value) (l : List (List UInt8)) (W : World) (hl : Ds W v l) (hn : l.length ≤ 900000) : Calls Try.prog 4 #[v] W fun e w' => e = .returned (.bool true) ∧ Below W.heap.size W w' := by
  have HD := Lib.hid hl
  obtain ⟨A, c, rfl, a1, a2⟩ := hl.form
  clear hl
  go_enter Try.func4, Try.ntmps4
  go_wp2_with (first | (go_at_call 11; refine (new_ix _).mono ?_; rintro e w1 ⟨rfl, hx1, hB1⟩))
  have hst : RunsAt W w1 l 0 W.heap.size (.slice none 0 0) [] [] := ⟨hx1, Placed.nil l, hB1, by simp⟩
  clear hx1 hB1
  go_loopw [4, 5] (fun n i wr => ∃ (j m : Nat) (vr : Value) (us : List Value) (rs : List (List Item)), j ≤ l.length ∧ m ≤ j ∧ i = .int .i64 (j : Int) ∧ n = .int .i64 (m : Int) ∧ Hid (rs.flatten.length = m) ∧ Hid (RunsAt W wr l j W.heap.size vr us rs)) (fun _ i _ => l.length - (intOf i).toNat)
  case atStart => exact ⟨0, 0, _, _, [], by omega, by omega, rfl, rfl, Lib.hid rfl, Lib.hid hst⟩
  case round =>
    obtain ⟨j, m, vr, us, rs, hj, hm, rfl, rfl, HM, HR⟩ := hrel
    clear hst
    by_cases hlt : j < l.length
    · have d32 := HD.out.wid j hlt
      obtain ⟨g, o, hA, hra⟩ := (HD.out.below HR.out.bel).at_ j hlt
      subst hA
      have hld := load_digest d32 hra
      clear hra
      obtain ⟨code, rs', hcode, KA⟩ := runs_add HR.out hlt hn d32
      have KA' := Lib.hid KA; clear KA
      rw [HM.out] at hcode
      obtain ⟨m', hcode, hm'⟩ : ∃ m', ((code = 0 ∧ m' = m + 1) ∨ (code = 120 ∧ m' = m)) ∧ rs'.flatten.length = m' := ⟨_, hcode, rfl⟩
      have HM' := Lib.hid hm'; clear hm'
      rcases hcode with ⟨rfl, rfl⟩ | ⟨rfl, rfl⟩
      all_goals
        go_wp2_with (first
          | (refine wpList_load_run rfl 34 _ rfl _ _ rfl hld ?_)
          | (go_at_call 12; refine KA'.out.mono ?_; rintro e w2 ⟨rfl, vr2, us2, hR2⟩; have HR2 := Lib.hid hR2; clear hR2; obtain ⟨g2, o2, hA2, hra2⟩ := (HD.out.below HR2.out.bel).at_ j hlt; cases hA2; have hld2 := load_digest d32 hra2; clear hra2; obtain ⟨q, hq, hlq, KF⟩ := HR2.out.finds hlt d32; have KF' := Lib.hid KF; clear KF; have HLQ := Lib.hid hlq; clear hlq)
          | (refine wpList_load_run rfl 34 _ rfl _ _ rfl hld2 ?_)
          | (go_at_call 13; refine KF'.out.mono ?_; rintro e w3 ⟨rfl, hB3⟩; have HR3 := Lib.hid (HR2.out.later hB3); clear hB3))
        have hql : q < l.length := (List.getElem?_eq_some_iff.1 HLQ.out).1
        obtain ⟨g3, o3, hA3, hra3⟩ := (HD.out.below HR3.out.bel).at_ j hlt
        cases hA3
        obtain ⟨g4, o4, hA4, hra4⟩ := (HD.out.below HR3.out.bel).at_ q hql
        cases hA4
        rw [(List.getElem?_eq_some_iff.1 HLQ.out).2] at hra4
        have LA := Lib.hid (fun w' (hq : ∃ n, w' = w3.drewN n) => (show (Instr.loadAt 34 (.pointer (some ⟨g, o + q * 32, none⟩))).run Try.prog w' = .ok (.agg (u8s l[j]).toArray) w' by obtain ⟨n, rfl⟩ := hq; exact load_digest d32 (rangeAt_drewN hra4 n)))
        have LB := Lib.hid (fun w' (hq : ∃ n, w' = w3.drewN n) => (show (Instr.loadAt 34 (.pointer (some ⟨g, o + j * 32, none⟩))).run Try.prog w' = .ok (.agg (u8s l[j]).toArray) w' by obtain ⟨n, rfl⟩ := hq; exact load_digest d32 (rangeAt_drewN hra3 n)))
        have t1 : decide (j < q) = false := by simpa using hq
        have q0 : (0 : Int) ≤ (q : Int) := Int.natCast_nonneg _
        have q1 : (q : Int) < (l.length : Int) := by omega
        clear hra3 hra4 hld hld2 HR2 KA' KF'
        refine wp_region_quiet_lit (by kernel_rfl) (by kernel_rfl) ?_
        go_big_quiet_step (fail)
        go_big_quiet_step (fail)
        go_big_quiet_step (fail)
        go_big_quiet_step (fail)
        go_big_quiet_step (fail)
        go_big_quiet_step (fail)
        go_big_quiet_step (fail)
        go_big_quiet_step (fail)
        go_big_quiet_step (fail)
        go_big_quiet_step (fail)
        go_big_quiet_step (fail)
        refine wpQuiet_run (by rfl) (.agg (u8s l[j]).toArray) (fun w' hw => run_op_load _ _ rfl _ _ (by rfl) w' (LA.out w' hw)) ?_
        simp only [Act.put, List.setIfInBounds_toArray, List.set_cons_zero, List.set_cons_succ]
        go_big_quiet_step (fail)
        go_big_quiet_step (fail)
        go_big_quiet_step (fail)
        refine wpQuiet_run (by rfl) (.agg (u8s l[j]).toArray) (fun w' hw => run_op_load _ _ rfl _ _ (by rfl) w' (LB.out w' hw)) ?_
        simp only [Act.put, List.setIfInBounds_toArray, List.set_cons_zero, List.set_cons_succ]
        refine wpQuiet_run (by rfl) (.bool (l[j] != l[j])) (fun w' _ => run_op_neq _ _ _ rfl l[j] l[j] d32 d32 (by rfl) (by rfl) w') ?_
        simp only [Act.put, List.setIfInBounds_toArray, List.set_cons_zero, List.set_cons_succ]
        have hbn : (l[j] != l[j]) = false := by simp
        rw [hbn]
        go_big_quiet_step (fail)
        refine wpQuiet_nil ?_
        intro _ hw'
        obtain ⟨nq, hw''⟩ := hw'
        subst hw''
        have HR4 := Lib.hid (HR3.out.later (below_drewN (Below.refl _ _) nq))
        clear HR3 LA LB hbn
        go_wp2_with fail
        go_roundw
        case rel => exact ⟨j + 1, _, vr2, us2, rs', by omega, by omega, by go_num, by first | rfl | go_num, HM', HR4⟩
        case measure => simp [intOf]; omega
    · have hjl : j = l.length := by omega
      subst hjl
      have hnl : rs.length ≤ m := by have := count_le HR.out.pl.ne; have := HM.out; omega
      have KR := Lib.hid (runs_calls W.heap.size vr us rs wr HR.out.ix.read (by omega))
      have hsum : (rs.map List.length).sum = m := by have := HM.out; rw [List.length_flatten] at this; exact this
      have KL := Lib.hid (fun w1 (hb : Below wr.heap.size wr w1) => (show Calls Try.prog 15 #[.pointer (some ⟨W.heap.size, 0, none⟩)] w1 fun e w' => e = .returned (.int .i64 (m : Int)) ∧ Below w1.heap.size w1 w' by
        have h := len_calls W.heap.size vr us rs w1 (HR.out.ix.below hb).read (by omega)
        rw [HM.out] at h
        exact h))
      have hf := HR.out.pl.falls
      have hpos := HR.out.pl.pos (Nat.le_refl _)
      rw [HM.out] at hpos
      have HB := Lib.hid HR.out.bel
      have hll : rs.length = (rs.map List.length).length := by simp
      rw [hll] at KR
      have HF := Lib.hid hf
      have HS := Lib.hid hsum
      have HP := Lib.hid hpos
      have hnl2 : (rs.map List.length).length ≤ m := by simpa using hnl
      clear hf hsum hpos hll hnl HR HM
      generalize rs.map List.length = ns at *
      go_wp2_with (first | (go_at_call 14; refine KR.out.mono ?_; rintro e w2 ⟨v2, rfl, hown, hB2⟩; have HO := Lib.hid hown; obtain ⟨A2, c2, rfl, b1, b2, b3⟩ := owns_form hown; clear hown))
      clear KR
      go_loopw [9, 10] (fun sm i wq => ∃ k : Nat, k ≤ ns.length ∧ i = .int .i64 (k : Int) ∧ sm = .int .i64 (((ns.take k).sum : Nat) : Int) ∧ Below w2.heap.size w2 wq) (fun _ i _ => ns.length - (intOf i).toNat)
      case atStart => exact ⟨0, by omega, rfl, rfl, Below.refl _ _⟩
      case round =>
        obtain ⟨k, hk, rfl, rfl, hBq⟩ := hrel
        have HRO := Lib.hid ((Row.of_owns HO.out).below hBq)
        by_cases hkl : k < ns.length
        · obtain ⟨ad, hA2, hcell⟩ := HRO.out.at_ k (natsL_get ns k hkl)
          subst hA2
          have hss := sum_take_succ ns k hkl
          have hle := sum_take_le ns (k + 1)
          have HSS := Lib.hid hss
          rw [HS.out] at hle
          have hs1 : (ns.take k).sum ≤ 900000 := by omega
          have hs2 : ns[k] ≤ 900000 := by omega
          have hpw := HF.out.pow ns[k] (List.getElem_mem hkl)
          have hnd := pow2_and hpw (by omega)
          have ha1 : 1 ≤ ns[k] := by obtain ⟨x, hx⟩ := hpw; rw [hx]; exact Nat.one_le_two_pow
          have hm1 : IntKind.i64.wrap ((ns[k] : Int) - 1) = (ns[k] : Int) - 1 := by rw [IntKind.wrap_i64]; omega
          clear hss hle hpw
          rcases Nat.eq_zero_or_pos k with hk0 | hk0
          · subst hk0
            generalize ns[0] = a at *
            rw [show ((0 : Nat) : Int) = 0 from rfl]
            have hcell0 : wr.cell? ad = some (.int .i64 (a : Int)) := hcell
            go_wp2_with fail
            have t1 : decide ((a : Int) < 1) = false := by simp; omega
            have t2 : decide (a < 1) = false := by simp; omega
            have t3 : decide ((0 : Int) < 0) = false := by simp
            go_quiet (fail)
            have hBn := below_drewN hBq nq
            clear t1 t2 t3 hnd hm1
            go_wp2_with fail
            go_roundw
            case rel => exact ⟨0 + 1, by omega, by go_num, by rw [HSS.out]; first | rfl | go_num | simp, hBn⟩
            case measure => simp [intOf]; omega
          · obtain ⟨q, hq⟩ : ∃ q, q + 1 = k := ⟨k - 1, by omega⟩
            have hql : q < ns.length := by omega
            obtain ⟨ad2, hA3, hcellq⟩ := HRO.out.at_ q (natsL_get ns q hql)
            cases hA3
            have hfl : ns[k] < ns[q] := List.pairwise_iff_getElem.1 HF.out.fall q k hql hkl (by omega)
            have hi1 : IntKind.i64.wrap ((k : Int) - 1) = (q : Int) := by rw [IntKind.wrap_i64]; omega
            have hi2 : (0 : Int) < (k : Int) := by omega
            have hi3 : (q : Int) < (ns.length : Int) := by omega
            have hi4 : (0 : Int) ≤ (q : Int) := by omega
            have t0 : decide ((0 : Int) < (k : Int)) = true := by simpa using hk0
            have t0' : decide (0 < k) = true := by simpa using hk0
            clear hq
            generalize ns[k] = a at *
            generalize ns[q] = b at *
            have t1 : decide ((a : Int) < 1) = false := by simp; omega
            have t2 : decide (a < 1) = false := by simp; omega
            have t4 : decide (b ≤ a) = false := by simp; omega
            go_wp2_with fail
            go_quiet (fail)
            have hBn := below_drewN hBq nq
            clear t1 t2 t4 t0 t0' hnd hm1 hi1
            go_wp2_with fail
            go_roundw
            case rel => exact ⟨k + 1, by omega, by go_num, by rw [HSS.out]; go_num, hBn⟩
            case measure => simp [intOf]; omega
        · have hkn : k = ns.length := by omega
          subst hkn
          have hsn : (ns.take ns.length).sum = m := by rw [List.take_length]; exact HS.out
          rw [hsn]
          have KL' := Lib.hid (KL.out wr (hB2.trans (hBq.mono hB2.size)))
          have hBr := HB.out.trans ((hB2.trans (hBq.mono hB2.size)).mono HB.out.size)
          have hpos := HP.out
          have t5 : decide (0 < m) = decide (0 < l.length) := by rw [Bool.eq_iff_iff]; simpa using hpos
          have T5 := Lib.hid t5
          clear t5 hpos hsn KL
          go_wp2_with (first | (go_at_call 15; refine KL'.out.mono ?_; rintro e w9 ⟨rfl, hB9⟩))
          rw [T5.out]
          go_ret
          exact ⟨by simp, hBr.trans (hB9.mono hBr.size)⟩
end Go.Proofs.Ythgjecofmnomfaa
