/- WALK of the law JournalCrashes. No statement of the seed is proved here. -/
import Derived.Test.YtjllkmkngjdjjaaGreatDoorJrnW
namespace Go.Proofs.YtjllkmkngjdjjaaGreatDoor
open Go.RowKit Go.Shelf
set_option maxRecDepth 100000
theorem cutS_eq (s : DSt) (rs : List RawD) (q : Nat) : (emptyD (s.runs rs).sec).runs ((s.runs rs).raws.take (s.raws.length + q)) = cutS s rs q := by
  rw [DSt.runs_sec, DSt.runs_raws]
  rfl
theorem cutS_raws (s : DSt) (rs : List RawD) (q : Nat) : (cutS s rs q).raws.length ≤ s.raws.length + rs.length := by
  unfold cutS
  rw [DSt.runs_raws, List.length_append, List.length_take, List.length_append]
  simp only [emptyD, List.length_nil]
  omega
/-- A disk is opened that a loss of power has left. -/
theorem jopen_opens {t : DSt} {ls : List (List UInt8)} (hO : Opens t ls) (hs : 0 < t.sec) (hr : t.raws.length + 10 ≤ 1000000000000) (x : DT) (W : World) (B : Nat) (hx : x.At t W B) (hB : B ≤ W.heap.size) (hT : ∀ w, Below B W w → TabW w) (hF : LaidF W) :
    Calls Tryz.prog 37 #[.pointer (some ⟨x.p, 0, none⟩)] W fun e w' => ∃ (j : JT) (y : DT) (t' : DSt) (g : Nat), e = .returned (.tuple #[.pointer (some ⟨j.p, 0, none⟩), .int .i64 0]) ∧ JD j y t' g ls w' B ∧ ONew x W j y w' ∧ JG t' g ls ∧ g ≤ 2147483647 ∧ t'.raws.length ≤ t.raws.length + 1 := by
  obtain ⟨gs, g, hN, hgs, hgl, hbig, hfew, h1, h2, hop⟩ := hO
  refine (jopen_calls x t W B hx hB hT hF hs gs hN hgs (by omega) hfew hbig (by omega)).mono ?_
  rintro e w' ⟨j, y, t', g', ls', rfl, hO, hJ, hN⟩
  obtain ⟨rfl, rfl, hG, hr'⟩ := hop g' ls' t' hO
  exact ⟨j, y, t', g', rfl, hJ, hN, hG, h2, hr'⟩
theorem row_step {j j1 : JT} {x x1 : DT} {s : DSt} {g : Nat} {ls : List (List UInt8)} {wr wa wb : World} {B : Nat} (hJ : JD j x s g ls wr B) (hS : JStep j x wa j1 x1 wb) {t : TypeId} {v : Value} {n : Nat} {us : List Value} (ho : wa.ownsRow wr.heap.size t 1 v n us) : wb.ownsRow wr.heap.size t 1 v n us :=
  mods_owns ho fun q hq => hS.same (owns_lt ho q hq) (fun e => by have := hJ.lt e; have := owns_ge ho q hq; omega)
theorem open_low {y0 yo : DT} {jo : JT} {wc wd we : World} (hb : Below wc.heap.size wc wd) (hm : ∀ k, y0.Mut k → wc.heap.size ≤ k) (hN : ONew y0 wd jo yo we) : Below wc.heap.size wc we ∧ ∀ k, yo.Mut k → wc.heap.size ≤ k :=
  ⟨⟨hN.st.os.trans hb.os, hN.st.tape.trans hb.tape, hN.st.output.trans hb.output, Nat.le_trans hb.size hN.st.size, fun k hk => (hN.st.block k (Nat.lt_of_lt_of_le hk hb.size) (fun e => by have := hm k e; omega)).trans (hb.block k hk)⟩, fun k hk => by
    rcases hN.st.has k hk with h | h
    · exact hm k h
    · exact Nat.le_trans hb.size h⟩
theorem row_open {y yo : DT} {t : DSt} {jo : JT} {we wi wj : World} {B : Nat} (hy : y.At t we B) (hN : ONew y wi jo yo wj) {ty : TypeId} {v : Value} {n : Nat} {us : List Value} (ho : wi.ownsRow we.heap.size ty 1 v n us) : wj.ownsRow we.heap.size ty 1 v n us :=
  mods_owns ho fun q hq => hN.st.block q (owns_lt ho q hq) (fun e => by have := hy.lt (.inl e); have := owns_ge ho q hq; omega)
/-- What the rounds hold. -/
structure CAt (W : World) (jp xp : Nat) (aa : List ActJ) (i : Nat) (w : World) : Prop where
  ex : ∃ (j : JT) (x : DT) (s : DSt) (g : Nat) (ls : List (List UInt8)), j.p = jp ∧ x.p = xp ∧ JD j x s g ls w W.heap.size ∧ JB s g ls i (costJ (aa.take i)) ∧ Hist s
  bel : Below W.heap.size W w
theorem sec_of (a : Int) : ∃ sec : Nat, 1 ≤ sec ∧ sec ≤ 64 ∧ wrap64 (1 + (wrap64 (a.tmod 64 + 64)).tmod 64) = (sec : Int) := by
  have t1 := Int.tmod_lt_of_pos a (show (0 : Int) < 64 by decide)
  have t2 := Int.lt_tmod_of_pos a (show (0 : Int) < 64 by decide)
  have e1 : wrap64 (a.tmod 64 + 64) = a.tmod 64 + 64 := by unfold wrap64; omega
  have e2 : (a.tmod 64 + 64).tmod 64 = (a.tmod 64 + 64) % 64 := Int.tmod_eq_emod_of_nonneg (by omega)
  refine ⟨1 + ((a.tmod 64 + 64) % 64).toNat, by omega, by omega, ?_⟩
  rw [e1, e2]
  unfold wrap64
  omega
theorem mod_placeJ (p : Int) (n : Nat) (h0 : 0 < n) (hn : n ≤ 1000000000000) : ∃ c : Nat, c < n ∧ (wrap64 (p.tmod (n : Int) + (n : Int))).tmod (n : Int) = (c : Int) := by
  have h1 := Int.tmod_lt_of_pos p (show (0 : Int) < (n : Int) by omega)
  have h2 : -(n : Int) < p.tmod (n : Int) := Int.lt_tmod_of_pos p (show (0 : Int) < (n : Int) by omega)
  generalize p.tmod (n : Int) = q at h1 h2
  obtain ⟨m, hm⟩ := Int.eq_ofNat_of_zero_le (show 0 ≤ q + (n : Int) by omega)
  have hw : wrap64 (q + (n : Int)) = (m : Int) := by unfold wrap64; omega
  refine ⟨m % n, Nat.mod_lt _ h0, ?_⟩
  rw [hw, Int.tmod_eq_emod_of_nonneg (by omega)]
  rfl
theorem mod_placeK (p : Int) (n : Nat) (hn : n ≤ 900000000000) : ∃ c : Nat, c < n + 1 ∧ (wrap64 (p.tmod ((n : Int) + 1) + ((n : Int) + 1))).tmod ((n : Int) + 1) = (c : Int) := by
  obtain ⟨c, h1, h2⟩ := mod_placeJ p (n + 1) (by omega) (by omega)
  refine ⟨c, h1, ?_⟩
  rw [Int.natCast_add] at h2
  exact h2
theorem rs_small {a b c n : Nat} (h : a = b + c) (h2 : a ≤ 1 + (n + 1) * 2100000) (hn : n < 262144) : c ≤ 900000000000 := by omega
/-- The numbers and the model of a round. -/
structure CMod (s : DSt) (g : Nat) (ls : List (List UInt8)) (a : ActJ) (aa : List ActJ) (n q : Nat) (rs : List RawD) (ls2 : List (List UInt8)) : Prop where
  run : (actM s g ls a).s = s.runs rs
  len : (actM s g ls a).s.raws.length = s.raws.length + rs.length
  hist1 : Hist (actM s g ls a).s
  jb1 : JB (actM s g ls a).s (actM s g ls a).g (actM s g ls a).ls (n + 1) (costJ (aa.take (n + 1)))
  jb : JB s g ls n (costJ (aa.take n))
  hist : Hist s
  op : Opens (cutS s rs q) ls2
  l2 : ls2 = ls ∨ ls2 = (actM s g ls a).ls
  l2e : rs.length ≤ q → ls2 = (actM s g ls a).ls
  hq : q < rs.length + 1
  cn : n < aa.length
  cost : costJ aa ≤ 1048576
  few : aa.length ≤ 262144
section
variable {W wr wa wb wd we wf wi : World} {j j1 jo : JT} {x x1 y0 yo : DT} {s t2 : DSt} {g g2 : Nat} {ls ls2 : List (List UInt8)} {a : ActJ} {aa : List ActJ} {n q : Nat} {rs : List RawD}
theorem crash_mid (h : CMod s g ls a aa n q rs ls2) (hJ1 : JD j1 x1 (actM s g ls a).s (actM s g ls a).g (actM s g ls a).ls wb W.heap.size) (hS1 : JStep j x wa j1 x1 wb) (hbW : Below W.heap.size W wb) :
    (Calls Tryz.prog 46 #[.pointer (some ⟨j.p, 0, none⟩)] wb fun e w' => ∃ v, e = .returned v ∧ w'.ownsRow wb.heap.size 9 1 v (actM s g ls a).ls.length (strsL (actM s g ls a).ls) ∧ Below wb.heap.size wb w') ∧
    (∀ w, Below wb.heap.size wb w → Calls Tryz.prog 22 #[.pointer (some ⟨x.p, 0, none⟩)] w fun e w' => e = .returned (.int .i64 ((s.raws.length : Int) + (rs.length : Int))) ∧ w = w') ∧
    (∀ w, Below wb.heap.size wb w → Calls Tryz.prog 23 #[.pointer (some ⟨x.p, 0, none⟩), .int .i64 ((s.raws.length : Int) + (q : Int))] w fun e w' => ∃ y : DT, e = .returned (.tuple #[.pointer (some ⟨y.p, 0, none⟩), .int .i64 0]) ∧ y.At (cutS s rs q) w' W.heap.size ∧ (∀ k, y.Mut k → w.heap.size ≤ k) ∧ Below w.heap.size w w') := by
  have h1 := h.jb1.ln
  have h2 := h.jb1.rw
  have h3 := h.cn
  have h4 := h.few
  have h5 := h.len
  have h6 := h.hq
  refine ⟨?_, fun w hw => ?_, fun w hw => ?_⟩
  · rw [← hS1.jp]
    exact listed_calls j1 x1.p _ _ wb W.heap.size hJ1.ja (by omega) (fun m hm => by have := h.jb1.jg.few m hm; omega)
  · rw [← hS1.p, ← Int.natCast_add, ← h.len]
    exact dwrites_calls x1 _ w W.heap.size (hJ1.xa.below hw)
  · have K := dafter_calls x1 _ w W.heap.size (hJ1.xa.below hw) (Nat.le_trans hbW.size hw.size) h.hist1 (by omega) (s.raws.length + q) (by omega)
    rw [hS1.p, h.run, cutS_eq, Int.natCast_add] at K
    exact K
theorem crash_nums (h : CMod s g ls a aa n q rs ls2) : wrap64 ((s.raws.length : Int) + (rs.length : Int) - (s.raws.length : Int)) = (rs.length : Int) ∧ wrap64 ((rs.length : Int) + 1) = (rs.length : Int) + 1 ∧ wrap64 ((s.raws.length : Int) + (q : Int)) = (s.raws.length : Int) + (q : Int) ∧ ((rs.length : Int) + 1 == 0) = false ∧ ¬ ((rs.length : Int) + 1 = 0) ∧ wrap64 ((ls.length : Int) + 1) = (ls.length : Int) + 1 := by
  have h2 := h.jb1.rw
  have h3 := h.cn
  have h4 := h.few
  have h5 := h.len
  have h6 := h.hq
  have h7 := h.jb.ln
  clear h
  refine ⟨by unfold wrap64; omega, by unfold wrap64; omega, by unfold wrap64; omega, by rw [beq_eq_false_iff_ne]; omega, by omega, by unfold wrap64; omega⟩
theorem crash_sec (h : CMod s g ls a aa n q rs ls2) : 0 < (cutS s rs q).sec := by rw [cutS_sec]; exact h.jb.jg.sec
theorem crash_few (h : CMod s g ls a aa n q rs ls2) : (cutS s rs q).raws.length + 10 ≤ 1000000000000 := by
  have h1 := cutS_raws s rs q
  have h2 := h.jb1.rw
  have h3 := h.cn
  have h4 := h.few
  have h5 := h.len
  omega
theorem crash_listed (h : CMod s g ls a aa n q rs ls2) {w : World} (hJo : JD jo yo t2 g2 ls2 w W.heap.size) : Calls Tryz.prog 46 #[.pointer (some ⟨jo.p, 0, none⟩)] w fun e w' => ∃ v, e = .returned v ∧ w'.ownsRow w.heap.size 9 1 v ls2.length (strsL ls2) ∧ Below w.heap.size w w' := by
  have h1 := h.jb1.ln
  have h2 := h.jb.ln
  have h3 := h.cn
  have h4 := h.few
  refine listed_calls jo yo.p g2 ls2 w W.heap.size hJo.ja ?_ (fun m hm => ?_)
  · rcases h.l2 with e | e
    · rw [e]; omega
    · rw [e]; omega
  · rcases h.l2 with e | e
    · have := h.jb.jg.few m (e ▸ hm); omega
    · have := h.jb1.jg.few m (e ▸ hm); omega
theorem crash_w2 (hJo : JD jo yo t2 g2 ls2 wi W.heap.size) {p : Nat} (hp : yo.p = p) : ∀ w, Below wi.heap.size wi w → Calls Tryz.prog 22 #[.pointer (some ⟨p, 0, none⟩)] w fun e w' => e = .returned (.int .i64 (t2.raws.length : Int)) ∧ w = w' := fun w hw => by
  subst hp
  exact dwrites_calls yo t2 w W.heap.size (hJo.xa.below hw)
theorem crash_open2 (h : CMod s g ls a aa n q rs ls2) (hJo : JD jo yo t2 g2 ls2 we W.heap.size) (hp : yo.p = y0.p) (hG : JG t2 g2 ls2) (hg2 : g2 ≤ 2147483647) (hr2 : t2.raws.length ≤ (cutS s rs q).raws.length + 1) (hbf : Below we.heap.size we wf) (hbW : Below W.heap.size W we) (hT : ∀ w, Below W.heap.size W w → TabW w) (hF : ∀ w, Below W.heap.size W w → LaidF w) :
    ∀ w, Below wf.heap.size wf w → Calls Tryz.prog 37 #[.pointer (some ⟨y0.p, 0, none⟩)] w fun e w' => ∃ (j : JT) (y : DT), e = .returned (.tuple #[.pointer (some ⟨j.p, 0, none⟩), .int .i64 0]) ∧ JD j y t2 g2 ls2 w' W.heap.size ∧ ONew yo w j y w' := fun w hw => by
  have hb := below_then hbf hw
  have hbW2 := hbW.trans (hb.mono hbW.size)
  have h1 := cutS_raws s rs q
  have h2 := h.jb1.rw
  have h3 := h.cn
  have h4 := h.few
  have h5 := h.len
  have hz : (jfile ls2).length ≤ 1000000000000 := by
    have f1 := h.jb.fl
    have f2 := h.jb1.fl
    have l1 := cost_le aa n
    have l2 := cost_le aa (n + 1)
    have hc := h.cost
    rcases h.l2 with e | e
    · rw [e]; omega
    · rw [e]; omega
  rw [← hp]
  exact jopen_again hG hg2 hz (by omega) yo w W.heap.size (hJo.xa.below hb) hbW2.size (fun w' hw' => hT w' (hbW2.trans hw')) (hF w hbW2)
theorem crash_cases (h : CMod s g ls a aa n q rs ls2) : (decide (ls2 = ls) = true ∧ ((s.raws.length : Int) + (q : Int) == (s.raws.length : Int) + (rs.length : Int)) = true ∧ decide (ls2 = (actM s g ls a).ls) = true) ∨ (decide (ls2 = ls) = true ∧ ((s.raws.length : Int) + (q : Int) == (s.raws.length : Int) + (rs.length : Int)) = false) ∨ (decide (ls2 = ls) = false ∧ ((s.raws.length : Int) + (q : Int) == (s.raws.length : Int) + (rs.length : Int)) = true ∧ decide (ls2 = (actM s g ls a).ls) = true) ∨ (decide (ls2 = ls) = false ∧ ((s.raws.length : Int) + (q : Int) == (s.raws.length : Int) + (rs.length : Int)) = false ∧ decide (ls2 = (actM s g ls a).ls) = true) := by
  have h6 := h.hq
  by_cases e : q = rs.length
  · have h1 := h.l2e (by omega)
    have hb : ((s.raws.length : Int) + (q : Int) == (s.raws.length : Int) + (rs.length : Int)) = true := by rw [e, beq_self_eq_true]
    by_cases d : ls2 = ls
    · exact .inl ⟨decide_eq_true d, hb, decide_eq_true h1⟩
    · exact .inr (.inr (.inl ⟨decide_eq_false d, hb, decide_eq_true h1⟩))
  · have hb : ((s.raws.length : Int) + (q : Int) == (s.raws.length : Int) + (rs.length : Int)) = false := by rw [beq_eq_false_iff_ne]; omega
    by_cases d : ls2 = ls
    · exact .inr (.inl ⟨decide_eq_true d, hb⟩)
    · exact .inr (.inr (.inr ⟨decide_eq_false d, hb, decide_eq_true (h.l2.resolve_left d)⟩))
theorem crash_end (h : CMod s g ls a aa n q rs ls2) (hJ1 : JD j1 x1 (actM s g ls a).s (actM s g ls a).g (actM s g ls a).ls wb W.heap.size) (hS1 : JStep j x wa j1 x1 wb) {w : World} (hb : Below wb.heap.size wb w) (hbW : Below W.heap.size W wb) : CAt W j.p x.p aa (n + 1) w :=
  ⟨⟨j1, x1, _, _, _, hS1.jp, hS1.p, hJ1.below hb, h.jb1, h.hist1⟩, hbW.trans (hb.mono hbW.size)⟩
end
set_option maxHeartbeats 40000000 in
theorem journalCrashes_walk (a0 : Int) (p1 : -9223372036854775808 ≤ a0) (p2 : a0 ≤ 9223372036854775807) (v : Value) (aa : List ActJ) (us : List Value) (cut : Int) (c1 : -9223372036854775808 ≤ cut) (c2 : cut ≤ 9223372036854775807) (W : World) (hT : TabW W) (hF : LaidF W) (hA : JActs W v aa us) (hc : costJ aa ≤ 1048576) :
    Calls Tryz.prog 8 #[.int .i64 a0, v, .int .i64 cut] W fun e W' => e = .returned (.bool true) ∧ Below W.heap.size W W' := by
  have HA := Lib.hid hA
  obtain ⟨A1, k1, e1, -⟩ := hA.row
  subst e1
  obtain ⟨sec, s1, s2, hsec⟩ := sec_of a0
  have KN := Lib.hid (dnew_calls sec s1 (by omega) W)
  have HTT := Lib.hid (show ∀ w, Below W.heap.size W w → TabW w from fun w hw => tab_below hT hw)
  have HFF := Lib.hid (show ∀ w, Below W.heap.size W w → LaidF w from fun w hw => hF.below hw)
  have hll := costJ_len aa
  have HLL := Lib.hid (show aa.length ≤ 262144 from by omega)
  have HC := Lib.hid hc
  have HS1 := Lib.hid s1
  clear hT hF hA hc hll s1 s2 p1 p2
  go_enter Tryz.func8, Tryz.ntmps8
  go_wp2_with (first
    | (go_at_call 13; rw [hsec]; refine KN.out.mono ?_; rintro e w1 ⟨x, rfl, hx, hB1⟩; have KO := Lib.hid (jopen_new sec HS1.out x w1 W.heap.size hx hB1.size (fun w hw => HTT.out w (hB1.trans hw)) (HFF.out w1 hB1)))
    | (go_at_call 37; refine KO.out.mono ?_; rintro e w2 ⟨j, x2, rfl, hJ, hN⟩))
  have hbw : Below W.heap.size W w2 := hN.below hx hB1 (Nat.le_refl _) hB1.size
  have HG := Lib.hid (show CAt W j.p x.p aa 0 w2 from ⟨⟨j, x2, _, 1, [], rfl, hN.st.p, hJ, JB.start sec HS1.out, (Hist.empty sec).create _⟩, hbw⟩)
  clear KN KO hx hB1 hJ hN hbw hsec HS1
  generalize j.p = jp at *
  generalize x.p = xp at *
  -- ROUNDS
  go_loopw [11] (fun i wr => ∃ n : Nat, n ≤ aa.length ∧ i = .int .i64 (n : Int) ∧ Hid (CAt W jp xp aa n wr)) (fun i _ => aa.length - (intOf i).toNat)
  case atStart => exact ⟨0, Nat.zero_le _, rfl, HG⟩
  case round =>
    obtain ⟨n, hn, rfl, HR⟩ := hrel
    clear HG
    by_cases hlt : n < aa.length
    · have hltu : n < us.length := by rw [← HA.out.ul]; exact hlt
      obtain ⟨a, ha⟩ : ∃ a, aa[n]? = some a := ⟨_, List.getElem?_eq_getElem hlt⟩
      obtain ⟨u, hu⟩ : ∃ u, us[n]? = some u := ⟨_, List.getElem?_eq_getElem hltu⟩
      have hbs := HA.out.bs n a u ha hu
      obtain ⟨z1, z2⟩ := HA.out.z a (List.mem_of_getElem? ha)
      have hbel := HR.out.bel
      obtain ⟨gA, oA, cA, evl, -, -, -⟩ := jrow_at (HA.out.row.below hbel) ha hu
      obtain ⟨rfl, rfl⟩ : A1 = some ⟨gA, oA, none⟩ ∧ k1 = cA := by injection evl with e1 e2 e3; exact ⟨e1, e3⟩
      have hix := jrow_index gA oA aa.length k1 n hlt
      have HROW := Lib.hid (show ∀ w : World, Below W.heap.size W w → w.cell? ⟨gA, oA + n * 3, none⟩ = some (.bool a.1) ∧ w.cell? ⟨gA, oA + n * 3 + 1, none⟩ = some (.int .i64 a.2.1) ∧ w.cell? ⟨gA, oA + n * 3 + 2, none⟩ = some u from fun w hw => by
        obtain ⟨g1, o1, c1, e1, q0, q1, q2⟩ := jrow_at (HA.out.row.below hw) ha hu
        injection e1 with e1 e2 e3
        injection e1 with e1
        injection e1 with e1 e2
        subst e1 e2
        exact ⟨q0, q1, q2⟩)
      obtain ⟨hw1, n1, n2, n3, n4⟩ := lt_nums hlt (by have := HLL.out; omega)
      obtain ⟨j, x, s, g, ls, rfl, rfl, hJ, hJB, hH⟩ := HR.out.ex
      have hcl := cost_le aa n
      have hcc := HC.out
      have hl2 := HLL.out
      obtain ⟨hH1, rs, hrs, hcut⟩ := act_cut hJB hH (by omega) (by omega) a
      have hJB1 := hJB.act a (by omega) (by omega)
      obtain ⟨hA0, hA1⟩ := List.getElem?_eq_some_iff.1 ha
      rw [← hA1, ← cost_take hA0, hA1] at hJB1
      have hR1 := hJB1.rw
      have hR0 := hJB.rw
      have hlen : (actM s g ls a).s.raws.length = s.raws.length + rs.length := by rw [hrs, DSt.runs_raws, List.length_append]
      obtain ⟨q, hq, hqe⟩ := mod_placeK (wrap64 (cut + (n : Int))) rs.length (rs_small hlen hR1 (Nat.lt_of_lt_of_le hlt hl2))
      obtain ⟨ls2, hop, hls2, hls2e⟩ := hcut q
      have KL0 := Lib.hid (listed_calls j x.p g ls wr W.heap.size hJ.ja (by have := hJB.ln; omega) (fun m hm => by have := hJB.jg.few m hm; omega))
      have KW0 := Lib.hid (fun w (hw : Below wr.heap.size wr w) => dwrites_calls x s w W.heap.size (hJ.xa.below hw))
      have HMOD := Lib.hid (show CMod s g ls a aa n q rs ls2 from ⟨hrs, hlen, hH1, hJB1, hJB, hH, hop, hls2, hls2e, hq, hlt, HC.out, HLL.out⟩)
      obtain ⟨e1, e2, e3, e4, e4b, e5⟩ := crash_nums HMOD.out
      have HJ := Lib.hid hJ
      have HBEL := Lib.hid hbel
      have HBS := Lib.hid (And.intro hbs (And.intro z1 z2))
      have HLT := Lib.hid hlt
      have ML0 := Lib.hid trivial
      have ML1 := Lib.hid trivial
      have ML2 := Lib.hid trivial
      have MO1 := Lib.hid trivial
      have MW1 := Lib.hid trivial
      have MW2 := Lib.hid trivial
      have MW3 := Lib.hid trivial
      have MS1 := Lib.hid trivial
      have MW4 := Lib.hid trivial
      clear hltu ha hu hbs z1 z2 evl hJ hJB hH hcl hcc hl2 hH1 hrs hcut hJB1 hA0 hA1 hR1 hR0 hlen hop hls2 hls2e hq HR hbel hlt
      obtain ⟨b, z, m⟩ := a
      cases b with
      | true =>
        have hAD : (decide (ls2 = ls) = true ∧ ((s.raws.length : Int) + (q : Int) == (s.raws.length : Int) + (rs.length : Int)) = true ∧ decide (ls2 = (actM s g ls (true, z, m)).ls) = true) ∨ (decide (ls2 = ls) = true ∧ ((s.raws.length : Int) + (q : Int) == (s.raws.length : Int) + (rs.length : Int)) = false) ∨ (decide (ls2 = ls) = false ∧ ((s.raws.length : Int) + (q : Int) == (s.raws.length : Int) + (rs.length : Int)) = true ∧ decide (ls2 = (actM s g ls (true, z, m)).ls) = true) ∨ (decide (ls2 = ls) = false ∧ ((s.raws.length : Int) + (q : Int) == (s.raws.length : Int) + (rs.length : Int)) = false ∧ decide (ls2 = (actM s g ls (true, z, m)).ls) = true) := crash_cases HMOD.out
        rcases hAD with ⟨hA, hE, hC⟩ | ⟨hA, hE⟩ | ⟨hA, hE, hC⟩ | ⟨hA, hE, hC⟩
        · skip
          have KA := Lib.hid (fun w (hw : Below wr.heap.size wr w) => (show Calls Tryz.prog 41 #[.pointer (some ⟨j.p, 0, none⟩), .int .i64 z] w fun e w' => e = .returned (.int .i64 (actM s g ls (true, z, m)).code) ∧ ∃ (j' : JT) (y : DT), JD j' y (actM s g ls (true, z, m)).s (actM s g ls (true, z, m)).g (actM s g ls (true, z, m)).ls w' W.heap.size ∧ JStep j x w j' y w' from by
            have hbw := HBEL.out.trans (hw.mono HBEL.out.size)
            have hll := HLL.out
            have hcc := HC.out
            have hcl := cost_le aa n
            have hlt := HLT.out
            rw [actM_clear]
            exact jclear_all j x s g ls w W.heap.size (HJ.out.below hw) hbw.size (HTT.out w hbw) (fun w' hw' => HFF.out w' (hbw.trans hw')) HMOD.out.jb (by omega) (by omega) z HBS.out.2.1 HBS.out.2.2))
          go_wp2_with (first
            | (go_at_call 46; clear ML0; refine KL0.out.mono ?_; rintro e wa ⟨v0, rfl, ho0, hba⟩; obtain ⟨Aa, ca, ea, -⟩ := owns_form ho0; subst ea; have hbWa := HBEL.out.trans (hba.mono HBEL.out.size); obtain ⟨r0a, r1a, r2a⟩ := HROW.out wa hbWa)
            | (go_at_call 22; clear MW1; refine (KW0.out wa hba).mono ?_; rintro e wx ⟨rfl, rfl⟩)
            | (go_at_call 41; refine (KA.out wa hba).mono ?_; rintro e wb ⟨rfl, j1, x1, hJ1, hS1⟩; obtain ⟨K1, K2, K3⟩ := crash_mid HMOD.out hJ1 hS1 (hS1.below (HJ.out.below hba) hbWa (Nat.le_refl _) hbWa.size); have KL1 := Lib.hid K1; have KW1 := Lib.hid K2; have KAF := Lib.hid K3; have hbWb := hS1.below (HJ.out.below hba) hbWa (Nat.le_refl _) hbWa.size; have ho0b := row_step HJ.out hS1 ho0; obtain ⟨r0b, r1b, r2b⟩ := HROW.out wb hbWb; have HJ1 := Lib.hid hJ1; have HS1 := Lib.hid hS1; clear K1 K2 K3 hJ1 hS1)
            | (go_at_call 46; clear ML1; refine KL1.out.mono ?_; rintro e wc ⟨v1, rfl, ho1, hbc⟩; obtain ⟨Ab, cb, eb, -⟩ := owns_form ho1; subst eb; have hbWc := hbWb.trans (hbc.mono hbWb.size))
            | (go_at_call 22; clear MW2; refine (KW1.out wc hbc).mono ?_; rintro e wx ⟨rfl, rfl⟩)
            | (go_at_call 23; refine (KAF.out wc hbc).mono ?_; rintro e wd ⟨y0, rfl, hy0, hm0, hbd⟩; have hbWd := hbWc.trans (hbd.mono hbWc.size); have KOP := Lib.hid (jopen_opens HMOD.out.op (crash_sec HMOD.out) (crash_few HMOD.out) y0 wd W.heap.size hy0 hbWd.size (fun w hw => HTT.out w (hbWd.trans hw)) (HFF.out wd hbWd)))
            | (go_at_call 37; clear MO1; refine KOP.out.mono ?_; rintro e we ⟨jo, yo, t2, gg2, rfl, hJo, hNo, hGo, hg2, hr2⟩; have hlow := open_low hbd hm0 hNo; have hbe := below_then hbc hlow.1; have hbWe := hbWb.trans (hbe.mono hbWb.size); have KL2 := Lib.hid (crash_listed HMOD.out hJo))
            | (go_at_call 46; clear ML2; refine KL2.out.mono ?_; rintro e wf ⟨v2, rfl, ho2, hbf⟩; obtain ⟨Ac, cc, ec, -⟩ := owns_form ho2; subst ec; have hcf := below_then hlow.1 hbf; have hbef := below_then hbe hbf; have KS1 := same_calls _ _ ls2 ls wf (Row.of_owns ho2) (Row.of_owns (owns_below ho0b hbef)); rw [hA] at KS1; have KS1 := Lib.hid KS1; have KS23 := Lib.hid (fun w (hw : Below wf.heap.size wf w) => same_calls _ _ ls2 _ w (Row.of_owns (owns_below ho2 hw)) (Row.of_owns (owns_below ho1 (below_then hcf hw)))); have KWO := Lib.hid (crash_w2 (hJo.below hbf) hNo.st.p); have KOP2 := Lib.hid (crash_open2 HMOD.out hJo hNo.st.p hGo hg2 hr2 hbf hbWe HTT.out HFF.out))
            | (go_at_call 48; clear MS1; refine KS1.out.mono ?_; rintro e wg ⟨rfl, hcur⟩)
            | (go_at_call 48; refine KS4.out.mono ?_; rintro e wl ⟨rfl, hbl⟩)
            | (go_at_call 48; have KS5 := KS23.out _ hcur; rw [hC] at KS5; refine KS5.mono ?_; rintro e wh ⟨rfl, hbh⟩; have hcur := below_then hcur hbh)
            | (go_at_call 22; clear MW3; refine (KW1.out _ (below_then hbef hcur)).mono ?_; rintro e wx ⟨rfl, rfl⟩)
            | (go_at_call 22; clear MW4; refine (KWO.out _ hcur).mono ?_; rintro e wx ⟨rfl, rfl⟩)
            | (go_at_call 37; refine (KOP2.out _ hcur).mono ?_; rintro e wi ⟨jo2, yo2, rfl, hJo2, hNo2⟩; have hlow2 := open_low (below_then hcf hcur) hlow.2 hNo2; have ho2i := row_open hJo.xa hNo2 (owns_below ho2 hcur); have KL3 := Lib.hid (crash_listed HMOD.out hJo2); have KWO2 := Lib.hid (crash_w2 hJo2 (hNo2.st.p.trans hNo.st.p)))
            | (go_at_call 46; refine KL3.out.mono ?_; rintro e wk ⟨v3, rfl, ho3, hbk⟩; obtain ⟨Ad, cd, ed, -⟩ := owns_form ho3; subst ed; have KS4 := same_calls _ _ ls2 ls2 wk (Row.of_owns ho3) (Row.of_owns (owns_below ho2i hbk)); rw [decide_eq_true rfl] at KS4; have KS4 := Lib.hid KS4)
            | (go_at_call 22; refine (KWO2.out _ (below_then hbk hbl)).mono ?_; rintro e wx ⟨rfl, rfl⟩))
          have hbfin := below_then (below_then hlow2.1 hbk) hbl
          go_roundw
          case rel => exact ⟨n + 1, HLT.out, by first | rw [hw1] | rfl, Lib.hid (crash_end HMOD.out HJ1.out HS1.out (below_then hbc hbfin) hbWb)⟩
          case measure => first | (rw [hw1]; exact down_next HLT.out) | exact down_next HLT.out
        · skip
          have KA := Lib.hid (fun w (hw : Below wr.heap.size wr w) => (show Calls Tryz.prog 41 #[.pointer (some ⟨j.p, 0, none⟩), .int .i64 z] w fun e w' => e = .returned (.int .i64 (actM s g ls (true, z, m)).code) ∧ ∃ (j' : JT) (y : DT), JD j' y (actM s g ls (true, z, m)).s (actM s g ls (true, z, m)).g (actM s g ls (true, z, m)).ls w' W.heap.size ∧ JStep j x w j' y w' from by
            have hbw := HBEL.out.trans (hw.mono HBEL.out.size)
            have hll := HLL.out
            have hcc := HC.out
            have hcl := cost_le aa n
            have hlt := HLT.out
            rw [actM_clear]
            exact jclear_all j x s g ls w W.heap.size (HJ.out.below hw) hbw.size (HTT.out w hbw) (fun w' hw' => HFF.out w' (hbw.trans hw')) HMOD.out.jb (by omega) (by omega) z HBS.out.2.1 HBS.out.2.2))
          go_wp2_with (first
            | (go_at_call 46; clear ML0; refine KL0.out.mono ?_; rintro e wa ⟨v0, rfl, ho0, hba⟩; obtain ⟨Aa, ca, ea, -⟩ := owns_form ho0; subst ea; have hbWa := HBEL.out.trans (hba.mono HBEL.out.size); obtain ⟨r0a, r1a, r2a⟩ := HROW.out wa hbWa)
            | (go_at_call 22; clear MW1; refine (KW0.out wa hba).mono ?_; rintro e wx ⟨rfl, rfl⟩)
            | (go_at_call 41; refine (KA.out wa hba).mono ?_; rintro e wb ⟨rfl, j1, x1, hJ1, hS1⟩; obtain ⟨K1, K2, K3⟩ := crash_mid HMOD.out hJ1 hS1 (hS1.below (HJ.out.below hba) hbWa (Nat.le_refl _) hbWa.size); have KL1 := Lib.hid K1; have KW1 := Lib.hid K2; have KAF := Lib.hid K3; have hbWb := hS1.below (HJ.out.below hba) hbWa (Nat.le_refl _) hbWa.size; have ho0b := row_step HJ.out hS1 ho0; obtain ⟨r0b, r1b, r2b⟩ := HROW.out wb hbWb; have HJ1 := Lib.hid hJ1; have HS1 := Lib.hid hS1; clear K1 K2 K3 hJ1 hS1)
            | (go_at_call 46; clear ML1; refine KL1.out.mono ?_; rintro e wc ⟨v1, rfl, ho1, hbc⟩; obtain ⟨Ab, cb, eb, -⟩ := owns_form ho1; subst eb; have hbWc := hbWb.trans (hbc.mono hbWb.size))
            | (go_at_call 22; clear MW2; refine (KW1.out wc hbc).mono ?_; rintro e wx ⟨rfl, rfl⟩)
            | (go_at_call 23; refine (KAF.out wc hbc).mono ?_; rintro e wd ⟨y0, rfl, hy0, hm0, hbd⟩; have hbWd := hbWc.trans (hbd.mono hbWc.size); have KOP := Lib.hid (jopen_opens HMOD.out.op (crash_sec HMOD.out) (crash_few HMOD.out) y0 wd W.heap.size hy0 hbWd.size (fun w hw => HTT.out w (hbWd.trans hw)) (HFF.out wd hbWd)))
            | (go_at_call 37; clear MO1; refine KOP.out.mono ?_; rintro e we ⟨jo, yo, t2, gg2, rfl, hJo, hNo, hGo, hg2, hr2⟩; have hlow := open_low hbd hm0 hNo; have hbe := below_then hbc hlow.1; have hbWe := hbWb.trans (hbe.mono hbWb.size); have KL2 := Lib.hid (crash_listed HMOD.out hJo))
            | (go_at_call 46; clear ML2; refine KL2.out.mono ?_; rintro e wf ⟨v2, rfl, ho2, hbf⟩; obtain ⟨Ac, cc, ec, -⟩ := owns_form ho2; subst ec; have hcf := below_then hlow.1 hbf; have hbef := below_then hbe hbf; have KS1 := same_calls _ _ ls2 ls wf (Row.of_owns ho2) (Row.of_owns (owns_below ho0b hbef)); rw [hA] at KS1; have KS1 := Lib.hid KS1; have KS23 := Lib.hid (fun w (hw : Below wf.heap.size wf w) => same_calls _ _ ls2 _ w (Row.of_owns (owns_below ho2 hw)) (Row.of_owns (owns_below ho1 (below_then hcf hw)))); have KWO := Lib.hid (crash_w2 (hJo.below hbf) hNo.st.p); have KOP2 := Lib.hid (crash_open2 HMOD.out hJo hNo.st.p hGo hg2 hr2 hbf hbWe HTT.out HFF.out))
            | (go_at_call 48; clear MS1; refine KS1.out.mono ?_; rintro e wg ⟨rfl, hcur⟩)
            | (go_at_call 48; refine KS4.out.mono ?_; rintro e wl ⟨rfl, hbl⟩)
            | (go_at_call 48; have KS5 := KS23.out _ hcur; rw [hC] at KS5; refine KS5.mono ?_; rintro e wh ⟨rfl, hbh⟩; have hcur := below_then hcur hbh)
            | (go_at_call 22; clear MW3; refine (KW1.out _ (below_then hbef hcur)).mono ?_; rintro e wx ⟨rfl, rfl⟩)
            | (go_at_call 22; clear MW4; refine (KWO.out _ hcur).mono ?_; rintro e wx ⟨rfl, rfl⟩)
            | (go_at_call 37; refine (KOP2.out _ hcur).mono ?_; rintro e wi ⟨jo2, yo2, rfl, hJo2, hNo2⟩; have hlow2 := open_low (below_then hcf hcur) hlow.2 hNo2; have ho2i := row_open hJo.xa hNo2 (owns_below ho2 hcur); have KL3 := Lib.hid (crash_listed HMOD.out hJo2); have KWO2 := Lib.hid (crash_w2 hJo2 (hNo2.st.p.trans hNo.st.p)))
            | (go_at_call 46; refine KL3.out.mono ?_; rintro e wk ⟨v3, rfl, ho3, hbk⟩; obtain ⟨Ad, cd, ed, -⟩ := owns_form ho3; subst ed; have KS4 := same_calls _ _ ls2 ls2 wk (Row.of_owns ho3) (Row.of_owns (owns_below ho2i hbk)); rw [decide_eq_true rfl] at KS4; have KS4 := Lib.hid KS4)
            | (go_at_call 22; refine (KWO2.out _ (below_then hbk hbl)).mono ?_; rintro e wx ⟨rfl, rfl⟩))
          have hbfin := below_then (below_then hlow2.1 hbk) hbl
          go_roundw
          case rel => exact ⟨n + 1, HLT.out, by first | rw [hw1] | rfl, Lib.hid (crash_end HMOD.out HJ1.out HS1.out (below_then hbc hbfin) hbWb)⟩
          case measure => first | (rw [hw1]; exact down_next HLT.out) | exact down_next HLT.out
        · skip
          have KA := Lib.hid (fun w (hw : Below wr.heap.size wr w) => (show Calls Tryz.prog 41 #[.pointer (some ⟨j.p, 0, none⟩), .int .i64 z] w fun e w' => e = .returned (.int .i64 (actM s g ls (true, z, m)).code) ∧ ∃ (j' : JT) (y : DT), JD j' y (actM s g ls (true, z, m)).s (actM s g ls (true, z, m)).g (actM s g ls (true, z, m)).ls w' W.heap.size ∧ JStep j x w j' y w' from by
            have hbw := HBEL.out.trans (hw.mono HBEL.out.size)
            have hll := HLL.out
            have hcc := HC.out
            have hcl := cost_le aa n
            have hlt := HLT.out
            rw [actM_clear]
            exact jclear_all j x s g ls w W.heap.size (HJ.out.below hw) hbw.size (HTT.out w hbw) (fun w' hw' => HFF.out w' (hbw.trans hw')) HMOD.out.jb (by omega) (by omega) z HBS.out.2.1 HBS.out.2.2))
          go_wp2_with (first
            | (go_at_call 46; clear ML0; refine KL0.out.mono ?_; rintro e wa ⟨v0, rfl, ho0, hba⟩; obtain ⟨Aa, ca, ea, -⟩ := owns_form ho0; subst ea; have hbWa := HBEL.out.trans (hba.mono HBEL.out.size); obtain ⟨r0a, r1a, r2a⟩ := HROW.out wa hbWa)
            | (go_at_call 22; clear MW1; refine (KW0.out wa hba).mono ?_; rintro e wx ⟨rfl, rfl⟩)
            | (go_at_call 41; refine (KA.out wa hba).mono ?_; rintro e wb ⟨rfl, j1, x1, hJ1, hS1⟩; obtain ⟨K1, K2, K3⟩ := crash_mid HMOD.out hJ1 hS1 (hS1.below (HJ.out.below hba) hbWa (Nat.le_refl _) hbWa.size); have KL1 := Lib.hid K1; have KW1 := Lib.hid K2; have KAF := Lib.hid K3; have hbWb := hS1.below (HJ.out.below hba) hbWa (Nat.le_refl _) hbWa.size; have ho0b := row_step HJ.out hS1 ho0; obtain ⟨r0b, r1b, r2b⟩ := HROW.out wb hbWb; have HJ1 := Lib.hid hJ1; have HS1 := Lib.hid hS1; clear K1 K2 K3 hJ1 hS1)
            | (go_at_call 46; clear ML1; refine KL1.out.mono ?_; rintro e wc ⟨v1, rfl, ho1, hbc⟩; obtain ⟨Ab, cb, eb, -⟩ := owns_form ho1; subst eb; have hbWc := hbWb.trans (hbc.mono hbWb.size))
            | (go_at_call 22; clear MW2; refine (KW1.out wc hbc).mono ?_; rintro e wx ⟨rfl, rfl⟩)
            | (go_at_call 23; refine (KAF.out wc hbc).mono ?_; rintro e wd ⟨y0, rfl, hy0, hm0, hbd⟩; have hbWd := hbWc.trans (hbd.mono hbWc.size); have KOP := Lib.hid (jopen_opens HMOD.out.op (crash_sec HMOD.out) (crash_few HMOD.out) y0 wd W.heap.size hy0 hbWd.size (fun w hw => HTT.out w (hbWd.trans hw)) (HFF.out wd hbWd)))
            | (go_at_call 37; clear MO1; refine KOP.out.mono ?_; rintro e we ⟨jo, yo, t2, gg2, rfl, hJo, hNo, hGo, hg2, hr2⟩; have hlow := open_low hbd hm0 hNo; have hbe := below_then hbc hlow.1; have hbWe := hbWb.trans (hbe.mono hbWb.size); have KL2 := Lib.hid (crash_listed HMOD.out hJo))
            | (go_at_call 46; clear ML2; refine KL2.out.mono ?_; rintro e wf ⟨v2, rfl, ho2, hbf⟩; obtain ⟨Ac, cc, ec, -⟩ := owns_form ho2; subst ec; have hcf := below_then hlow.1 hbf; have hbef := below_then hbe hbf; have KS1 := same_calls _ _ ls2 ls wf (Row.of_owns ho2) (Row.of_owns (owns_below ho0b hbef)); rw [hA] at KS1; have KS1 := Lib.hid KS1; have KS23 := Lib.hid (fun w (hw : Below wf.heap.size wf w) => same_calls _ _ ls2 _ w (Row.of_owns (owns_below ho2 hw)) (Row.of_owns (owns_below ho1 (below_then hcf hw)))); have KWO := Lib.hid (crash_w2 (hJo.below hbf) hNo.st.p); have KOP2 := Lib.hid (crash_open2 HMOD.out hJo hNo.st.p hGo hg2 hr2 hbf hbWe HTT.out HFF.out))
            | (go_at_call 48; clear MS1; refine KS1.out.mono ?_; rintro e wg ⟨rfl, hcur⟩)
            | (go_at_call 48; refine KS4.out.mono ?_; rintro e wl ⟨rfl, hbl⟩)
            | (go_at_call 48; have KS5 := KS23.out _ hcur; rw [hC] at KS5; refine KS5.mono ?_; rintro e wh ⟨rfl, hbh⟩; have hcur := below_then hcur hbh)
            | (go_at_call 22; clear MW3; refine (KW1.out _ (below_then hbef hcur)).mono ?_; rintro e wx ⟨rfl, rfl⟩)
            | (go_at_call 22; clear MW4; refine (KWO.out _ hcur).mono ?_; rintro e wx ⟨rfl, rfl⟩)
            | (go_at_call 37; refine (KOP2.out _ hcur).mono ?_; rintro e wi ⟨jo2, yo2, rfl, hJo2, hNo2⟩; have hlow2 := open_low (below_then hcf hcur) hlow.2 hNo2; have ho2i := row_open hJo.xa hNo2 (owns_below ho2 hcur); have KL3 := Lib.hid (crash_listed HMOD.out hJo2); have KWO2 := Lib.hid (crash_w2 hJo2 (hNo2.st.p.trans hNo.st.p)))
            | (go_at_call 46; refine KL3.out.mono ?_; rintro e wk ⟨v3, rfl, ho3, hbk⟩; obtain ⟨Ad, cd, ed, -⟩ := owns_form ho3; subst ed; have KS4 := same_calls _ _ ls2 ls2 wk (Row.of_owns ho3) (Row.of_owns (owns_below ho2i hbk)); rw [decide_eq_true rfl] at KS4; have KS4 := Lib.hid KS4)
            | (go_at_call 22; refine (KWO2.out _ (below_then hbk hbl)).mono ?_; rintro e wx ⟨rfl, rfl⟩))
          have hbfin := below_then (below_then hlow2.1 hbk) hbl
          go_roundw
          case rel => exact ⟨n + 1, HLT.out, by first | rw [hw1] | rfl, Lib.hid (crash_end HMOD.out HJ1.out HS1.out (below_then hbc hbfin) hbWb)⟩
          case measure => first | (rw [hw1]; exact down_next HLT.out) | exact down_next HLT.out
        · skip
          have KA := Lib.hid (fun w (hw : Below wr.heap.size wr w) => (show Calls Tryz.prog 41 #[.pointer (some ⟨j.p, 0, none⟩), .int .i64 z] w fun e w' => e = .returned (.int .i64 (actM s g ls (true, z, m)).code) ∧ ∃ (j' : JT) (y : DT), JD j' y (actM s g ls (true, z, m)).s (actM s g ls (true, z, m)).g (actM s g ls (true, z, m)).ls w' W.heap.size ∧ JStep j x w j' y w' from by
            have hbw := HBEL.out.trans (hw.mono HBEL.out.size)
            have hll := HLL.out
            have hcc := HC.out
            have hcl := cost_le aa n
            have hlt := HLT.out
            rw [actM_clear]
            exact jclear_all j x s g ls w W.heap.size (HJ.out.below hw) hbw.size (HTT.out w hbw) (fun w' hw' => HFF.out w' (hbw.trans hw')) HMOD.out.jb (by omega) (by omega) z HBS.out.2.1 HBS.out.2.2))
          go_wp2_with (first
            | (go_at_call 46; clear ML0; refine KL0.out.mono ?_; rintro e wa ⟨v0, rfl, ho0, hba⟩; obtain ⟨Aa, ca, ea, -⟩ := owns_form ho0; subst ea; have hbWa := HBEL.out.trans (hba.mono HBEL.out.size); obtain ⟨r0a, r1a, r2a⟩ := HROW.out wa hbWa)
            | (go_at_call 22; clear MW1; refine (KW0.out wa hba).mono ?_; rintro e wx ⟨rfl, rfl⟩)
            | (go_at_call 41; refine (KA.out wa hba).mono ?_; rintro e wb ⟨rfl, j1, x1, hJ1, hS1⟩; obtain ⟨K1, K2, K3⟩ := crash_mid HMOD.out hJ1 hS1 (hS1.below (HJ.out.below hba) hbWa (Nat.le_refl _) hbWa.size); have KL1 := Lib.hid K1; have KW1 := Lib.hid K2; have KAF := Lib.hid K3; have hbWb := hS1.below (HJ.out.below hba) hbWa (Nat.le_refl _) hbWa.size; have ho0b := row_step HJ.out hS1 ho0; obtain ⟨r0b, r1b, r2b⟩ := HROW.out wb hbWb; have HJ1 := Lib.hid hJ1; have HS1 := Lib.hid hS1; clear K1 K2 K3 hJ1 hS1)
            | (go_at_call 46; clear ML1; refine KL1.out.mono ?_; rintro e wc ⟨v1, rfl, ho1, hbc⟩; obtain ⟨Ab, cb, eb, -⟩ := owns_form ho1; subst eb; have hbWc := hbWb.trans (hbc.mono hbWb.size))
            | (go_at_call 22; clear MW2; refine (KW1.out wc hbc).mono ?_; rintro e wx ⟨rfl, rfl⟩)
            | (go_at_call 23; refine (KAF.out wc hbc).mono ?_; rintro e wd ⟨y0, rfl, hy0, hm0, hbd⟩; have hbWd := hbWc.trans (hbd.mono hbWc.size); have KOP := Lib.hid (jopen_opens HMOD.out.op (crash_sec HMOD.out) (crash_few HMOD.out) y0 wd W.heap.size hy0 hbWd.size (fun w hw => HTT.out w (hbWd.trans hw)) (HFF.out wd hbWd)))
            | (go_at_call 37; clear MO1; refine KOP.out.mono ?_; rintro e we ⟨jo, yo, t2, gg2, rfl, hJo, hNo, hGo, hg2, hr2⟩; have hlow := open_low hbd hm0 hNo; have hbe := below_then hbc hlow.1; have hbWe := hbWb.trans (hbe.mono hbWb.size); have KL2 := Lib.hid (crash_listed HMOD.out hJo))
            | (go_at_call 46; clear ML2; refine KL2.out.mono ?_; rintro e wf ⟨v2, rfl, ho2, hbf⟩; obtain ⟨Ac, cc, ec, -⟩ := owns_form ho2; subst ec; have hcf := below_then hlow.1 hbf; have hbef := below_then hbe hbf; have KS1 := same_calls _ _ ls2 ls wf (Row.of_owns ho2) (Row.of_owns (owns_below ho0b hbef)); rw [hA] at KS1; have KS1 := Lib.hid KS1; have KS23 := Lib.hid (fun w (hw : Below wf.heap.size wf w) => same_calls _ _ ls2 _ w (Row.of_owns (owns_below ho2 hw)) (Row.of_owns (owns_below ho1 (below_then hcf hw)))); have KWO := Lib.hid (crash_w2 (hJo.below hbf) hNo.st.p); have KOP2 := Lib.hid (crash_open2 HMOD.out hJo hNo.st.p hGo hg2 hr2 hbf hbWe HTT.out HFF.out))
            | (go_at_call 48; clear MS1; refine KS1.out.mono ?_; rintro e wg ⟨rfl, hcur⟩)
            | (go_at_call 48; refine KS4.out.mono ?_; rintro e wl ⟨rfl, hbl⟩)
            | (go_at_call 48; have KS5 := KS23.out _ hcur; rw [hC] at KS5; refine KS5.mono ?_; rintro e wh ⟨rfl, hbh⟩; have hcur := below_then hcur hbh)
            | (go_at_call 22; clear MW3; refine (KW1.out _ (below_then hbef hcur)).mono ?_; rintro e wx ⟨rfl, rfl⟩)
            | (go_at_call 22; clear MW4; refine (KWO.out _ hcur).mono ?_; rintro e wx ⟨rfl, rfl⟩)
            | (go_at_call 37; refine (KOP2.out _ hcur).mono ?_; rintro e wi ⟨jo2, yo2, rfl, hJo2, hNo2⟩; have hlow2 := open_low (below_then hcf hcur) hlow.2 hNo2; have ho2i := row_open hJo.xa hNo2 (owns_below ho2 hcur); have KL3 := Lib.hid (crash_listed HMOD.out hJo2); have KWO2 := Lib.hid (crash_w2 hJo2 (hNo2.st.p.trans hNo.st.p)))
            | (go_at_call 46; refine KL3.out.mono ?_; rintro e wk ⟨v3, rfl, ho3, hbk⟩; obtain ⟨Ad, cd, ed, -⟩ := owns_form ho3; subst ed; have KS4 := same_calls _ _ ls2 ls2 wk (Row.of_owns ho3) (Row.of_owns (owns_below ho2i hbk)); rw [decide_eq_true rfl] at KS4; have KS4 := Lib.hid KS4)
            | (go_at_call 22; refine (KWO2.out _ (below_then hbk hbl)).mono ?_; rintro e wx ⟨rfl, rfl⟩))
          have hbfin := below_then (below_then hlow2.1 hbk) hbl
          go_roundw
          case rel => exact ⟨n + 1, HLT.out, by first | rw [hw1] | rfl, Lib.hid (crash_end HMOD.out HJ1.out HS1.out (below_then hbc hbfin) hbWb)⟩
          case measure => first | (rw [hw1]; exact down_next HLT.out) | exact down_next HLT.out

      | false =>
        obtain ⟨Au, cu, eu, -, -, -⟩ := HBS.out.1.form
        subst eu
        have hm : m.length ≤ 65535 ∨ ¬ m.length ≤ 65535 := by omega
        rcases hm with hm | hm
        · have HM := Lib.hid hm
          have c65a : decide (m.length ≤ 65535) = true := by rw [decide_eq_true_iff]; exact hm
          have c65b : decide ((m.length : Int) ≤ 65535) = true := by rw [decide_eq_true_iff]; omega
          clear hm
          have hAD : (decide (ls2 = ls) = true ∧ ((s.raws.length : Int) + (q : Int) == (s.raws.length : Int) + (rs.length : Int)) = true ∧ decide (ls2 = (actM s g ls (false, z, m)).ls) = true) ∨ (decide (ls2 = ls) = true ∧ ((s.raws.length : Int) + (q : Int) == (s.raws.length : Int) + (rs.length : Int)) = false) ∨ (decide (ls2 = ls) = false ∧ ((s.raws.length : Int) + (q : Int) == (s.raws.length : Int) + (rs.length : Int)) = true ∧ decide (ls2 = (actM s g ls (false, z, m)).ls) = true) ∨ (decide (ls2 = ls) = false ∧ ((s.raws.length : Int) + (q : Int) == (s.raws.length : Int) + (rs.length : Int)) = false ∧ decide (ls2 = (actM s g ls (false, z, m)).ls) = true) := crash_cases HMOD.out
          rcases hAD with ⟨hA, hE, hC⟩ | ⟨hA, hE⟩ | ⟨hA, hE, hC⟩ | ⟨hA, hE, hC⟩
          · skip
            have KA := Lib.hid (fun w (hw : Below wr.heap.size wr w) => (show Calls Tryz.prog 43 #[.pointer (some ⟨j.p, 0, none⟩), .slice Au m.length cu] w fun e w' => e = .returned (.int .i64 0) ∧ ∃ (j' : JT) (y : DT), JD j' y (actM s g ls (false, z, m)).s (actM s g ls (false, z, m)).g (actM s g ls (false, z, m)).ls w' W.heap.size ∧ JStep j x w j' y w' from by
              have hbw := HBEL.out.trans (hw.mono HBEL.out.size)
              have hll := HLL.out
              have hcc := HC.out
              have hcl := cost_le aa n
              have hlt := HLT.out
              have h := jadd_all j x s g ls w W.heap.size (HJ.out.below hw) hbw.size (HTT.out w hbw) (HFF.out w hbw) HMOD.out.jb (by omega) (by omega) (.slice Au m.length cu) m (HBS.out.1.below hbw) (fun h0 k hk hm => by have := bs_lt HBS.out.1 h0 hk; have := HJ.out.xa.ge (.inl hm); have := hbw.size; omega)
              rw [actM_add]
              have hcode : (addM s g ls m).code = 0 := by unfold addM; rw [if_pos HM.out]
              rw [hcode] at h
              exact h))
            go_wp2_with (first
              | (go_at_call 46; clear ML0; refine KL0.out.mono ?_; rintro e wa ⟨v0, rfl, ho0, hba⟩; obtain ⟨Aa, ca, ea, -⟩ := owns_form ho0; subst ea; have hbWa := HBEL.out.trans (hba.mono HBEL.out.size); obtain ⟨r0a, r1a, r2a⟩ := HROW.out wa hbWa)
              | (go_at_call 22; clear MW1; refine (KW0.out wa hba).mono ?_; rintro e wx ⟨rfl, rfl⟩)
              | (go_at_call 43; refine (KA.out wa hba).mono ?_; rintro e wb ⟨rfl, j1, x1, hJ1, hS1⟩; have KLEN := Lib.hid (show Calls Tryz.prog 47 #[.pointer (some ⟨j.p, 0, none⟩)] wb fun e w' => e = .returned (.int .i64 ((ls.length : Int) + 1)) ∧ wb = w' from by have h := jlen_calls j1 x1.p _ _ wb W.heap.size hJ1.ja; rw [hS1.jp, actM_add, addM, if_pos HM.out] at h; simp only [List.length_append, List.length_singleton, Int.natCast_add, Int.cast_ofNat_Int] at h; exact h); obtain ⟨K1, K2, K3⟩ := crash_mid HMOD.out hJ1 hS1 (hS1.below (HJ.out.below hba) hbWa (Nat.le_refl _) hbWa.size); have KL1 := Lib.hid K1; have KW1 := Lib.hid K2; have KAF := Lib.hid K3; have hbWb := hS1.below (HJ.out.below hba) hbWa (Nat.le_refl _) hbWa.size; have ho0b := row_step HJ.out hS1 ho0; obtain ⟨r0b, r1b, r2b⟩ := HROW.out wb hbWb; have HJ1 := Lib.hid hJ1; have HS1 := Lib.hid hS1; clear K1 K2 K3 hJ1 hS1)
              | (go_at_call 47; refine KLEN.out.mono ?_; rintro e wx ⟨rfl, rfl⟩)
              | (go_at_call 46; clear ML1; refine KL1.out.mono ?_; rintro e wc ⟨v1, rfl, ho1, hbc⟩; obtain ⟨Ab, cb, eb, -⟩ := owns_form ho1; subst eb; have hbWc := hbWb.trans (hbc.mono hbWb.size))
              | (go_at_call 22; clear MW2; refine (KW1.out wc hbc).mono ?_; rintro e wx ⟨rfl, rfl⟩)
              | (go_at_call 23; refine (KAF.out wc hbc).mono ?_; rintro e wd ⟨y0, rfl, hy0, hm0, hbd⟩; have hbWd := hbWc.trans (hbd.mono hbWc.size); have KOP := Lib.hid (jopen_opens HMOD.out.op (crash_sec HMOD.out) (crash_few HMOD.out) y0 wd W.heap.size hy0 hbWd.size (fun w hw => HTT.out w (hbWd.trans hw)) (HFF.out wd hbWd)))
              | (go_at_call 37; clear MO1; refine KOP.out.mono ?_; rintro e we ⟨jo, yo, t2, gg2, rfl, hJo, hNo, hGo, hg2, hr2⟩; have hlow := open_low hbd hm0 hNo; have hbe := below_then hbc hlow.1; have hbWe := hbWb.trans (hbe.mono hbWb.size); have KL2 := Lib.hid (crash_listed HMOD.out hJo))
              | (go_at_call 46; clear ML2; refine KL2.out.mono ?_; rintro e wf ⟨v2, rfl, ho2, hbf⟩; obtain ⟨Ac, cc, ec, -⟩ := owns_form ho2; subst ec; have hcf := below_then hlow.1 hbf; have hbef := below_then hbe hbf; have KS1 := same_calls _ _ ls2 ls wf (Row.of_owns ho2) (Row.of_owns (owns_below ho0b hbef)); rw [hA] at KS1; have KS1 := Lib.hid KS1; have KS23 := Lib.hid (fun w (hw : Below wf.heap.size wf w) => same_calls _ _ ls2 _ w (Row.of_owns (owns_below ho2 hw)) (Row.of_owns (owns_below ho1 (below_then hcf hw)))); have KWO := Lib.hid (crash_w2 (hJo.below hbf) hNo.st.p); have KOP2 := Lib.hid (crash_open2 HMOD.out hJo hNo.st.p hGo hg2 hr2 hbf hbWe HTT.out HFF.out))
              | (go_at_call 48; clear MS1; refine KS1.out.mono ?_; rintro e wg ⟨rfl, hcur⟩)
              | (go_at_call 48; refine KS4.out.mono ?_; rintro e wl ⟨rfl, hbl⟩)
              | (go_at_call 48; have KS5 := KS23.out _ hcur; rw [hC] at KS5; refine KS5.mono ?_; rintro e wh ⟨rfl, hbh⟩; have hcur := below_then hcur hbh)
              | (go_at_call 22; clear MW3; refine (KW1.out _ (below_then hbef hcur)).mono ?_; rintro e wx ⟨rfl, rfl⟩)
              | (go_at_call 22; clear MW4; refine (KWO.out _ hcur).mono ?_; rintro e wx ⟨rfl, rfl⟩)
              | (go_at_call 37; refine (KOP2.out _ hcur).mono ?_; rintro e wi ⟨jo2, yo2, rfl, hJo2, hNo2⟩; have hlow2 := open_low (below_then hcf hcur) hlow.2 hNo2; have ho2i := row_open hJo.xa hNo2 (owns_below ho2 hcur); have KL3 := Lib.hid (crash_listed HMOD.out hJo2); have KWO2 := Lib.hid (crash_w2 hJo2 (hNo2.st.p.trans hNo.st.p)))
              | (go_at_call 46; refine KL3.out.mono ?_; rintro e wk ⟨v3, rfl, ho3, hbk⟩; obtain ⟨Ad, cd, ed, -⟩ := owns_form ho3; subst ed; have KS4 := same_calls _ _ ls2 ls2 wk (Row.of_owns ho3) (Row.of_owns (owns_below ho2i hbk)); rw [decide_eq_true rfl] at KS4; have KS4 := Lib.hid KS4)
              | (go_at_call 22; refine (KWO2.out _ (below_then hbk hbl)).mono ?_; rintro e wx ⟨rfl, rfl⟩))
            have hbfin := below_then (below_then hlow2.1 hbk) hbl
            go_roundw
            case rel => exact ⟨n + 1, HLT.out, by first | rw [hw1] | rfl, Lib.hid (crash_end HMOD.out HJ1.out HS1.out (below_then hbc hbfin) hbWb)⟩
            case measure => first | (rw [hw1]; exact down_next HLT.out) | exact down_next HLT.out
          · skip
            have KA := Lib.hid (fun w (hw : Below wr.heap.size wr w) => (show Calls Tryz.prog 43 #[.pointer (some ⟨j.p, 0, none⟩), .slice Au m.length cu] w fun e w' => e = .returned (.int .i64 0) ∧ ∃ (j' : JT) (y : DT), JD j' y (actM s g ls (false, z, m)).s (actM s g ls (false, z, m)).g (actM s g ls (false, z, m)).ls w' W.heap.size ∧ JStep j x w j' y w' from by
              have hbw := HBEL.out.trans (hw.mono HBEL.out.size)
              have hll := HLL.out
              have hcc := HC.out
              have hcl := cost_le aa n
              have hlt := HLT.out
              have h := jadd_all j x s g ls w W.heap.size (HJ.out.below hw) hbw.size (HTT.out w hbw) (HFF.out w hbw) HMOD.out.jb (by omega) (by omega) (.slice Au m.length cu) m (HBS.out.1.below hbw) (fun h0 k hk hm => by have := bs_lt HBS.out.1 h0 hk; have := HJ.out.xa.ge (.inl hm); have := hbw.size; omega)
              rw [actM_add]
              have hcode : (addM s g ls m).code = 0 := by unfold addM; rw [if_pos HM.out]
              rw [hcode] at h
              exact h))
            go_wp2_with (first
              | (go_at_call 46; clear ML0; refine KL0.out.mono ?_; rintro e wa ⟨v0, rfl, ho0, hba⟩; obtain ⟨Aa, ca, ea, -⟩ := owns_form ho0; subst ea; have hbWa := HBEL.out.trans (hba.mono HBEL.out.size); obtain ⟨r0a, r1a, r2a⟩ := HROW.out wa hbWa)
              | (go_at_call 22; clear MW1; refine (KW0.out wa hba).mono ?_; rintro e wx ⟨rfl, rfl⟩)
              | (go_at_call 43; refine (KA.out wa hba).mono ?_; rintro e wb ⟨rfl, j1, x1, hJ1, hS1⟩; have KLEN := Lib.hid (show Calls Tryz.prog 47 #[.pointer (some ⟨j.p, 0, none⟩)] wb fun e w' => e = .returned (.int .i64 ((ls.length : Int) + 1)) ∧ wb = w' from by have h := jlen_calls j1 x1.p _ _ wb W.heap.size hJ1.ja; rw [hS1.jp, actM_add, addM, if_pos HM.out] at h; simp only [List.length_append, List.length_singleton, Int.natCast_add, Int.cast_ofNat_Int] at h; exact h); obtain ⟨K1, K2, K3⟩ := crash_mid HMOD.out hJ1 hS1 (hS1.below (HJ.out.below hba) hbWa (Nat.le_refl _) hbWa.size); have KL1 := Lib.hid K1; have KW1 := Lib.hid K2; have KAF := Lib.hid K3; have hbWb := hS1.below (HJ.out.below hba) hbWa (Nat.le_refl _) hbWa.size; have ho0b := row_step HJ.out hS1 ho0; obtain ⟨r0b, r1b, r2b⟩ := HROW.out wb hbWb; have HJ1 := Lib.hid hJ1; have HS1 := Lib.hid hS1; clear K1 K2 K3 hJ1 hS1)
              | (go_at_call 47; refine KLEN.out.mono ?_; rintro e wx ⟨rfl, rfl⟩)
              | (go_at_call 46; clear ML1; refine KL1.out.mono ?_; rintro e wc ⟨v1, rfl, ho1, hbc⟩; obtain ⟨Ab, cb, eb, -⟩ := owns_form ho1; subst eb; have hbWc := hbWb.trans (hbc.mono hbWb.size))
              | (go_at_call 22; clear MW2; refine (KW1.out wc hbc).mono ?_; rintro e wx ⟨rfl, rfl⟩)
              | (go_at_call 23; refine (KAF.out wc hbc).mono ?_; rintro e wd ⟨y0, rfl, hy0, hm0, hbd⟩; have hbWd := hbWc.trans (hbd.mono hbWc.size); have KOP := Lib.hid (jopen_opens HMOD.out.op (crash_sec HMOD.out) (crash_few HMOD.out) y0 wd W.heap.size hy0 hbWd.size (fun w hw => HTT.out w (hbWd.trans hw)) (HFF.out wd hbWd)))
              | (go_at_call 37; clear MO1; refine KOP.out.mono ?_; rintro e we ⟨jo, yo, t2, gg2, rfl, hJo, hNo, hGo, hg2, hr2⟩; have hlow := open_low hbd hm0 hNo; have hbe := below_then hbc hlow.1; have hbWe := hbWb.trans (hbe.mono hbWb.size); have KL2 := Lib.hid (crash_listed HMOD.out hJo))
              | (go_at_call 46; clear ML2; refine KL2.out.mono ?_; rintro e wf ⟨v2, rfl, ho2, hbf⟩; obtain ⟨Ac, cc, ec, -⟩ := owns_form ho2; subst ec; have hcf := below_then hlow.1 hbf; have hbef := below_then hbe hbf; have KS1 := same_calls _ _ ls2 ls wf (Row.of_owns ho2) (Row.of_owns (owns_below ho0b hbef)); rw [hA] at KS1; have KS1 := Lib.hid KS1; have KS23 := Lib.hid (fun w (hw : Below wf.heap.size wf w) => same_calls _ _ ls2 _ w (Row.of_owns (owns_below ho2 hw)) (Row.of_owns (owns_below ho1 (below_then hcf hw)))); have KWO := Lib.hid (crash_w2 (hJo.below hbf) hNo.st.p); have KOP2 := Lib.hid (crash_open2 HMOD.out hJo hNo.st.p hGo hg2 hr2 hbf hbWe HTT.out HFF.out))
              | (go_at_call 48; clear MS1; refine KS1.out.mono ?_; rintro e wg ⟨rfl, hcur⟩)
              | (go_at_call 48; refine KS4.out.mono ?_; rintro e wl ⟨rfl, hbl⟩)
              | (go_at_call 48; have KS5 := KS23.out _ hcur; rw [hC] at KS5; refine KS5.mono ?_; rintro e wh ⟨rfl, hbh⟩; have hcur := below_then hcur hbh)
              | (go_at_call 22; clear MW3; refine (KW1.out _ (below_then hbef hcur)).mono ?_; rintro e wx ⟨rfl, rfl⟩)
              | (go_at_call 22; clear MW4; refine (KWO.out _ hcur).mono ?_; rintro e wx ⟨rfl, rfl⟩)
              | (go_at_call 37; refine (KOP2.out _ hcur).mono ?_; rintro e wi ⟨jo2, yo2, rfl, hJo2, hNo2⟩; have hlow2 := open_low (below_then hcf hcur) hlow.2 hNo2; have ho2i := row_open hJo.xa hNo2 (owns_below ho2 hcur); have KL3 := Lib.hid (crash_listed HMOD.out hJo2); have KWO2 := Lib.hid (crash_w2 hJo2 (hNo2.st.p.trans hNo.st.p)))
              | (go_at_call 46; refine KL3.out.mono ?_; rintro e wk ⟨v3, rfl, ho3, hbk⟩; obtain ⟨Ad, cd, ed, -⟩ := owns_form ho3; subst ed; have KS4 := same_calls _ _ ls2 ls2 wk (Row.of_owns ho3) (Row.of_owns (owns_below ho2i hbk)); rw [decide_eq_true rfl] at KS4; have KS4 := Lib.hid KS4)
              | (go_at_call 22; refine (KWO2.out _ (below_then hbk hbl)).mono ?_; rintro e wx ⟨rfl, rfl⟩))
            have hbfin := below_then (below_then hlow2.1 hbk) hbl
            go_roundw
            case rel => exact ⟨n + 1, HLT.out, by first | rw [hw1] | rfl, Lib.hid (crash_end HMOD.out HJ1.out HS1.out (below_then hbc hbfin) hbWb)⟩
            case measure => first | (rw [hw1]; exact down_next HLT.out) | exact down_next HLT.out
          · skip
            have KA := Lib.hid (fun w (hw : Below wr.heap.size wr w) => (show Calls Tryz.prog 43 #[.pointer (some ⟨j.p, 0, none⟩), .slice Au m.length cu] w fun e w' => e = .returned (.int .i64 0) ∧ ∃ (j' : JT) (y : DT), JD j' y (actM s g ls (false, z, m)).s (actM s g ls (false, z, m)).g (actM s g ls (false, z, m)).ls w' W.heap.size ∧ JStep j x w j' y w' from by
              have hbw := HBEL.out.trans (hw.mono HBEL.out.size)
              have hll := HLL.out
              have hcc := HC.out
              have hcl := cost_le aa n
              have hlt := HLT.out
              have h := jadd_all j x s g ls w W.heap.size (HJ.out.below hw) hbw.size (HTT.out w hbw) (HFF.out w hbw) HMOD.out.jb (by omega) (by omega) (.slice Au m.length cu) m (HBS.out.1.below hbw) (fun h0 k hk hm => by have := bs_lt HBS.out.1 h0 hk; have := HJ.out.xa.ge (.inl hm); have := hbw.size; omega)
              rw [actM_add]
              have hcode : (addM s g ls m).code = 0 := by unfold addM; rw [if_pos HM.out]
              rw [hcode] at h
              exact h))
            go_wp2_with (first
              | (go_at_call 46; clear ML0; refine KL0.out.mono ?_; rintro e wa ⟨v0, rfl, ho0, hba⟩; obtain ⟨Aa, ca, ea, -⟩ := owns_form ho0; subst ea; have hbWa := HBEL.out.trans (hba.mono HBEL.out.size); obtain ⟨r0a, r1a, r2a⟩ := HROW.out wa hbWa)
              | (go_at_call 22; clear MW1; refine (KW0.out wa hba).mono ?_; rintro e wx ⟨rfl, rfl⟩)
              | (go_at_call 43; refine (KA.out wa hba).mono ?_; rintro e wb ⟨rfl, j1, x1, hJ1, hS1⟩; have KLEN := Lib.hid (show Calls Tryz.prog 47 #[.pointer (some ⟨j.p, 0, none⟩)] wb fun e w' => e = .returned (.int .i64 ((ls.length : Int) + 1)) ∧ wb = w' from by have h := jlen_calls j1 x1.p _ _ wb W.heap.size hJ1.ja; rw [hS1.jp, actM_add, addM, if_pos HM.out] at h; simp only [List.length_append, List.length_singleton, Int.natCast_add, Int.cast_ofNat_Int] at h; exact h); obtain ⟨K1, K2, K3⟩ := crash_mid HMOD.out hJ1 hS1 (hS1.below (HJ.out.below hba) hbWa (Nat.le_refl _) hbWa.size); have KL1 := Lib.hid K1; have KW1 := Lib.hid K2; have KAF := Lib.hid K3; have hbWb := hS1.below (HJ.out.below hba) hbWa (Nat.le_refl _) hbWa.size; have ho0b := row_step HJ.out hS1 ho0; obtain ⟨r0b, r1b, r2b⟩ := HROW.out wb hbWb; have HJ1 := Lib.hid hJ1; have HS1 := Lib.hid hS1; clear K1 K2 K3 hJ1 hS1)
              | (go_at_call 47; refine KLEN.out.mono ?_; rintro e wx ⟨rfl, rfl⟩)
              | (go_at_call 46; clear ML1; refine KL1.out.mono ?_; rintro e wc ⟨v1, rfl, ho1, hbc⟩; obtain ⟨Ab, cb, eb, -⟩ := owns_form ho1; subst eb; have hbWc := hbWb.trans (hbc.mono hbWb.size))
              | (go_at_call 22; clear MW2; refine (KW1.out wc hbc).mono ?_; rintro e wx ⟨rfl, rfl⟩)
              | (go_at_call 23; refine (KAF.out wc hbc).mono ?_; rintro e wd ⟨y0, rfl, hy0, hm0, hbd⟩; have hbWd := hbWc.trans (hbd.mono hbWc.size); have KOP := Lib.hid (jopen_opens HMOD.out.op (crash_sec HMOD.out) (crash_few HMOD.out) y0 wd W.heap.size hy0 hbWd.size (fun w hw => HTT.out w (hbWd.trans hw)) (HFF.out wd hbWd)))
              | (go_at_call 37; clear MO1; refine KOP.out.mono ?_; rintro e we ⟨jo, yo, t2, gg2, rfl, hJo, hNo, hGo, hg2, hr2⟩; have hlow := open_low hbd hm0 hNo; have hbe := below_then hbc hlow.1; have hbWe := hbWb.trans (hbe.mono hbWb.size); have KL2 := Lib.hid (crash_listed HMOD.out hJo))
              | (go_at_call 46; clear ML2; refine KL2.out.mono ?_; rintro e wf ⟨v2, rfl, ho2, hbf⟩; obtain ⟨Ac, cc, ec, -⟩ := owns_form ho2; subst ec; have hcf := below_then hlow.1 hbf; have hbef := below_then hbe hbf; have KS1 := same_calls _ _ ls2 ls wf (Row.of_owns ho2) (Row.of_owns (owns_below ho0b hbef)); rw [hA] at KS1; have KS1 := Lib.hid KS1; have KS23 := Lib.hid (fun w (hw : Below wf.heap.size wf w) => same_calls _ _ ls2 _ w (Row.of_owns (owns_below ho2 hw)) (Row.of_owns (owns_below ho1 (below_then hcf hw)))); have KWO := Lib.hid (crash_w2 (hJo.below hbf) hNo.st.p); have KOP2 := Lib.hid (crash_open2 HMOD.out hJo hNo.st.p hGo hg2 hr2 hbf hbWe HTT.out HFF.out))
              | (go_at_call 48; clear MS1; refine KS1.out.mono ?_; rintro e wg ⟨rfl, hcur⟩)
              | (go_at_call 48; refine KS4.out.mono ?_; rintro e wl ⟨rfl, hbl⟩)
              | (go_at_call 48; have KS5 := KS23.out _ hcur; rw [hC] at KS5; refine KS5.mono ?_; rintro e wh ⟨rfl, hbh⟩; have hcur := below_then hcur hbh)
              | (go_at_call 22; clear MW3; refine (KW1.out _ (below_then hbef hcur)).mono ?_; rintro e wx ⟨rfl, rfl⟩)
              | (go_at_call 22; clear MW4; refine (KWO.out _ hcur).mono ?_; rintro e wx ⟨rfl, rfl⟩)
              | (go_at_call 37; refine (KOP2.out _ hcur).mono ?_; rintro e wi ⟨jo2, yo2, rfl, hJo2, hNo2⟩; have hlow2 := open_low (below_then hcf hcur) hlow.2 hNo2; have ho2i := row_open hJo.xa hNo2 (owns_below ho2 hcur); have KL3 := Lib.hid (crash_listed HMOD.out hJo2); have KWO2 := Lib.hid (crash_w2 hJo2 (hNo2.st.p.trans hNo.st.p)))
              | (go_at_call 46; refine KL3.out.mono ?_; rintro e wk ⟨v3, rfl, ho3, hbk⟩; obtain ⟨Ad, cd, ed, -⟩ := owns_form ho3; subst ed; have KS4 := same_calls _ _ ls2 ls2 wk (Row.of_owns ho3) (Row.of_owns (owns_below ho2i hbk)); rw [decide_eq_true rfl] at KS4; have KS4 := Lib.hid KS4)
              | (go_at_call 22; refine (KWO2.out _ (below_then hbk hbl)).mono ?_; rintro e wx ⟨rfl, rfl⟩))
            have hbfin := below_then (below_then hlow2.1 hbk) hbl
            go_roundw
            case rel => exact ⟨n + 1, HLT.out, by first | rw [hw1] | rfl, Lib.hid (crash_end HMOD.out HJ1.out HS1.out (below_then hbc hbfin) hbWb)⟩
            case measure => first | (rw [hw1]; exact down_next HLT.out) | exact down_next HLT.out
          · skip
            have KA := Lib.hid (fun w (hw : Below wr.heap.size wr w) => (show Calls Tryz.prog 43 #[.pointer (some ⟨j.p, 0, none⟩), .slice Au m.length cu] w fun e w' => e = .returned (.int .i64 0) ∧ ∃ (j' : JT) (y : DT), JD j' y (actM s g ls (false, z, m)).s (actM s g ls (false, z, m)).g (actM s g ls (false, z, m)).ls w' W.heap.size ∧ JStep j x w j' y w' from by
              have hbw := HBEL.out.trans (hw.mono HBEL.out.size)
              have hll := HLL.out
              have hcc := HC.out
              have hcl := cost_le aa n
              have hlt := HLT.out
              have h := jadd_all j x s g ls w W.heap.size (HJ.out.below hw) hbw.size (HTT.out w hbw) (HFF.out w hbw) HMOD.out.jb (by omega) (by omega) (.slice Au m.length cu) m (HBS.out.1.below hbw) (fun h0 k hk hm => by have := bs_lt HBS.out.1 h0 hk; have := HJ.out.xa.ge (.inl hm); have := hbw.size; omega)
              rw [actM_add]
              have hcode : (addM s g ls m).code = 0 := by unfold addM; rw [if_pos HM.out]
              rw [hcode] at h
              exact h))
            go_wp2_with (first
              | (go_at_call 46; clear ML0; refine KL0.out.mono ?_; rintro e wa ⟨v0, rfl, ho0, hba⟩; obtain ⟨Aa, ca, ea, -⟩ := owns_form ho0; subst ea; have hbWa := HBEL.out.trans (hba.mono HBEL.out.size); obtain ⟨r0a, r1a, r2a⟩ := HROW.out wa hbWa)
              | (go_at_call 22; clear MW1; refine (KW0.out wa hba).mono ?_; rintro e wx ⟨rfl, rfl⟩)
              | (go_at_call 43; refine (KA.out wa hba).mono ?_; rintro e wb ⟨rfl, j1, x1, hJ1, hS1⟩; have KLEN := Lib.hid (show Calls Tryz.prog 47 #[.pointer (some ⟨j.p, 0, none⟩)] wb fun e w' => e = .returned (.int .i64 ((ls.length : Int) + 1)) ∧ wb = w' from by have h := jlen_calls j1 x1.p _ _ wb W.heap.size hJ1.ja; rw [hS1.jp, actM_add, addM, if_pos HM.out] at h; simp only [List.length_append, List.length_singleton, Int.natCast_add, Int.cast_ofNat_Int] at h; exact h); obtain ⟨K1, K2, K3⟩ := crash_mid HMOD.out hJ1 hS1 (hS1.below (HJ.out.below hba) hbWa (Nat.le_refl _) hbWa.size); have KL1 := Lib.hid K1; have KW1 := Lib.hid K2; have KAF := Lib.hid K3; have hbWb := hS1.below (HJ.out.below hba) hbWa (Nat.le_refl _) hbWa.size; have ho0b := row_step HJ.out hS1 ho0; obtain ⟨r0b, r1b, r2b⟩ := HROW.out wb hbWb; have HJ1 := Lib.hid hJ1; have HS1 := Lib.hid hS1; clear K1 K2 K3 hJ1 hS1)
              | (go_at_call 47; refine KLEN.out.mono ?_; rintro e wx ⟨rfl, rfl⟩)
              | (go_at_call 46; clear ML1; refine KL1.out.mono ?_; rintro e wc ⟨v1, rfl, ho1, hbc⟩; obtain ⟨Ab, cb, eb, -⟩ := owns_form ho1; subst eb; have hbWc := hbWb.trans (hbc.mono hbWb.size))
              | (go_at_call 22; clear MW2; refine (KW1.out wc hbc).mono ?_; rintro e wx ⟨rfl, rfl⟩)
              | (go_at_call 23; refine (KAF.out wc hbc).mono ?_; rintro e wd ⟨y0, rfl, hy0, hm0, hbd⟩; have hbWd := hbWc.trans (hbd.mono hbWc.size); have KOP := Lib.hid (jopen_opens HMOD.out.op (crash_sec HMOD.out) (crash_few HMOD.out) y0 wd W.heap.size hy0 hbWd.size (fun w hw => HTT.out w (hbWd.trans hw)) (HFF.out wd hbWd)))
              | (go_at_call 37; clear MO1; refine KOP.out.mono ?_; rintro e we ⟨jo, yo, t2, gg2, rfl, hJo, hNo, hGo, hg2, hr2⟩; have hlow := open_low hbd hm0 hNo; have hbe := below_then hbc hlow.1; have hbWe := hbWb.trans (hbe.mono hbWb.size); have KL2 := Lib.hid (crash_listed HMOD.out hJo))
              | (go_at_call 46; clear ML2; refine KL2.out.mono ?_; rintro e wf ⟨v2, rfl, ho2, hbf⟩; obtain ⟨Ac, cc, ec, -⟩ := owns_form ho2; subst ec; have hcf := below_then hlow.1 hbf; have hbef := below_then hbe hbf; have KS1 := same_calls _ _ ls2 ls wf (Row.of_owns ho2) (Row.of_owns (owns_below ho0b hbef)); rw [hA] at KS1; have KS1 := Lib.hid KS1; have KS23 := Lib.hid (fun w (hw : Below wf.heap.size wf w) => same_calls _ _ ls2 _ w (Row.of_owns (owns_below ho2 hw)) (Row.of_owns (owns_below ho1 (below_then hcf hw)))); have KWO := Lib.hid (crash_w2 (hJo.below hbf) hNo.st.p); have KOP2 := Lib.hid (crash_open2 HMOD.out hJo hNo.st.p hGo hg2 hr2 hbf hbWe HTT.out HFF.out))
              | (go_at_call 48; clear MS1; refine KS1.out.mono ?_; rintro e wg ⟨rfl, hcur⟩)
              | (go_at_call 48; refine KS4.out.mono ?_; rintro e wl ⟨rfl, hbl⟩)
              | (go_at_call 48; have KS5 := KS23.out _ hcur; rw [hC] at KS5; refine KS5.mono ?_; rintro e wh ⟨rfl, hbh⟩; have hcur := below_then hcur hbh)
              | (go_at_call 22; clear MW3; refine (KW1.out _ (below_then hbef hcur)).mono ?_; rintro e wx ⟨rfl, rfl⟩)
              | (go_at_call 22; clear MW4; refine (KWO.out _ hcur).mono ?_; rintro e wx ⟨rfl, rfl⟩)
              | (go_at_call 37; refine (KOP2.out _ hcur).mono ?_; rintro e wi ⟨jo2, yo2, rfl, hJo2, hNo2⟩; have hlow2 := open_low (below_then hcf hcur) hlow.2 hNo2; have ho2i := row_open hJo.xa hNo2 (owns_below ho2 hcur); have KL3 := Lib.hid (crash_listed HMOD.out hJo2); have KWO2 := Lib.hid (crash_w2 hJo2 (hNo2.st.p.trans hNo.st.p)))
              | (go_at_call 46; refine KL3.out.mono ?_; rintro e wk ⟨v3, rfl, ho3, hbk⟩; obtain ⟨Ad, cd, ed, -⟩ := owns_form ho3; subst ed; have KS4 := same_calls _ _ ls2 ls2 wk (Row.of_owns ho3) (Row.of_owns (owns_below ho2i hbk)); rw [decide_eq_true rfl] at KS4; have KS4 := Lib.hid KS4)
              | (go_at_call 22; refine (KWO2.out _ (below_then hbk hbl)).mono ?_; rintro e wx ⟨rfl, rfl⟩))
            have hbfin := below_then (below_then hlow2.1 hbk) hbl
            go_roundw
            case rel => exact ⟨n + 1, HLT.out, by first | rw [hw1] | rfl, Lib.hid (crash_end HMOD.out HJ1.out HS1.out (below_then hbc hbfin) hbWb)⟩
            case measure => first | (rw [hw1]; exact down_next HLT.out) | exact down_next HLT.out

        · have HM := Lib.hid hm
          have c65a : decide (m.length ≤ 65535) = false := by rw [decide_eq_false_iff_not]; exact hm
          have c65b : decide ((m.length : Int) ≤ 65535) = false := by rw [decide_eq_false_iff_not]; omega
          clear hm
          have hAD : (decide (ls2 = ls) = true ∧ ((s.raws.length : Int) + (q : Int) == (s.raws.length : Int) + (rs.length : Int)) = true ∧ decide (ls2 = (actM s g ls (false, z, m)).ls) = true) ∨ (decide (ls2 = ls) = true ∧ ((s.raws.length : Int) + (q : Int) == (s.raws.length : Int) + (rs.length : Int)) = false) ∨ (decide (ls2 = ls) = false ∧ ((s.raws.length : Int) + (q : Int) == (s.raws.length : Int) + (rs.length : Int)) = true ∧ decide (ls2 = (actM s g ls (false, z, m)).ls) = true) ∨ (decide (ls2 = ls) = false ∧ ((s.raws.length : Int) + (q : Int) == (s.raws.length : Int) + (rs.length : Int)) = false ∧ decide (ls2 = (actM s g ls (false, z, m)).ls) = true) := crash_cases HMOD.out
          rcases hAD with ⟨hA, hE, hC⟩ | ⟨hA, hE⟩ | ⟨hA, hE, hC⟩ | ⟨hA, hE, hC⟩
          · skip
            have KA := Lib.hid (fun w (hw : Below wr.heap.size wr w) => (show Calls Tryz.prog 43 #[.pointer (some ⟨j.p, 0, none⟩), .slice Au m.length cu] w fun e w' => e = .returned (.int .i64 3) ∧ ∃ (j' : JT) (y : DT), JD j' y (actM s g ls (false, z, m)).s (actM s g ls (false, z, m)).g (actM s g ls (false, z, m)).ls w' W.heap.size ∧ JStep j x w j' y w' from by
              have hbw := HBEL.out.trans (hw.mono HBEL.out.size)
              have hll := HLL.out
              have hcc := HC.out
              have hcl := cost_le aa n
              have hlt := HLT.out
              have h := jadd_all j x s g ls w W.heap.size (HJ.out.below hw) hbw.size (HTT.out w hbw) (HFF.out w hbw) HMOD.out.jb (by omega) (by omega) (.slice Au m.length cu) m (HBS.out.1.below hbw) (fun h0 k hk hm => by have := bs_lt HBS.out.1 h0 hk; have := HJ.out.xa.ge (.inl hm); have := hbw.size; omega)
              rw [actM_add]
              have hcode : (addM s g ls m).code = 3 := by unfold addM; rw [if_neg HM.out]
              rw [hcode] at h
              exact h))
            go_wp2_with (first
              | (go_at_call 46; clear ML0; refine KL0.out.mono ?_; rintro e wa ⟨v0, rfl, ho0, hba⟩; obtain ⟨Aa, ca, ea, -⟩ := owns_form ho0; subst ea; have hbWa := HBEL.out.trans (hba.mono HBEL.out.size); obtain ⟨r0a, r1a, r2a⟩ := HROW.out wa hbWa)
              | (go_at_call 22; clear MW1; refine (KW0.out wa hba).mono ?_; rintro e wx ⟨rfl, rfl⟩)
              | (go_at_call 43; refine (KA.out wa hba).mono ?_; rintro e wb ⟨rfl, j1, x1, hJ1, hS1⟩; obtain ⟨K1, K2, K3⟩ := crash_mid HMOD.out hJ1 hS1 (hS1.below (HJ.out.below hba) hbWa (Nat.le_refl _) hbWa.size); have KL1 := Lib.hid K1; have KW1 := Lib.hid K2; have KAF := Lib.hid K3; have hbWb := hS1.below (HJ.out.below hba) hbWa (Nat.le_refl _) hbWa.size; have ho0b := row_step HJ.out hS1 ho0; obtain ⟨r0b, r1b, r2b⟩ := HROW.out wb hbWb; have HJ1 := Lib.hid hJ1; have HS1 := Lib.hid hS1; clear K1 K2 K3 hJ1 hS1)
              | (go_at_call 46; clear ML1; refine KL1.out.mono ?_; rintro e wc ⟨v1, rfl, ho1, hbc⟩; obtain ⟨Ab, cb, eb, -⟩ := owns_form ho1; subst eb; have hbWc := hbWb.trans (hbc.mono hbWb.size))
              | (go_at_call 22; clear MW2; refine (KW1.out wc hbc).mono ?_; rintro e wx ⟨rfl, rfl⟩)
              | (go_at_call 23; refine (KAF.out wc hbc).mono ?_; rintro e wd ⟨y0, rfl, hy0, hm0, hbd⟩; have hbWd := hbWc.trans (hbd.mono hbWc.size); have KOP := Lib.hid (jopen_opens HMOD.out.op (crash_sec HMOD.out) (crash_few HMOD.out) y0 wd W.heap.size hy0 hbWd.size (fun w hw => HTT.out w (hbWd.trans hw)) (HFF.out wd hbWd)))
              | (go_at_call 37; clear MO1; refine KOP.out.mono ?_; rintro e we ⟨jo, yo, t2, gg2, rfl, hJo, hNo, hGo, hg2, hr2⟩; have hlow := open_low hbd hm0 hNo; have hbe := below_then hbc hlow.1; have hbWe := hbWb.trans (hbe.mono hbWb.size); have KL2 := Lib.hid (crash_listed HMOD.out hJo))
              | (go_at_call 46; clear ML2; refine KL2.out.mono ?_; rintro e wf ⟨v2, rfl, ho2, hbf⟩; obtain ⟨Ac, cc, ec, -⟩ := owns_form ho2; subst ec; have hcf := below_then hlow.1 hbf; have hbef := below_then hbe hbf; have KS1 := same_calls _ _ ls2 ls wf (Row.of_owns ho2) (Row.of_owns (owns_below ho0b hbef)); rw [hA] at KS1; have KS1 := Lib.hid KS1; have KS23 := Lib.hid (fun w (hw : Below wf.heap.size wf w) => same_calls _ _ ls2 _ w (Row.of_owns (owns_below ho2 hw)) (Row.of_owns (owns_below ho1 (below_then hcf hw)))); have KWO := Lib.hid (crash_w2 (hJo.below hbf) hNo.st.p); have KOP2 := Lib.hid (crash_open2 HMOD.out hJo hNo.st.p hGo hg2 hr2 hbf hbWe HTT.out HFF.out))
              | (go_at_call 48; clear MS1; refine KS1.out.mono ?_; rintro e wg ⟨rfl, hcur⟩)
              | (go_at_call 48; refine KS4.out.mono ?_; rintro e wl ⟨rfl, hbl⟩)
              | (go_at_call 48; have KS5 := KS23.out _ hcur; rw [hC] at KS5; refine KS5.mono ?_; rintro e wh ⟨rfl, hbh⟩; have hcur := below_then hcur hbh)
              | (go_at_call 22; clear MW3; refine (KW1.out _ (below_then hbef hcur)).mono ?_; rintro e wx ⟨rfl, rfl⟩)
              | (go_at_call 22; clear MW4; refine (KWO.out _ hcur).mono ?_; rintro e wx ⟨rfl, rfl⟩)
              | (go_at_call 37; refine (KOP2.out _ hcur).mono ?_; rintro e wi ⟨jo2, yo2, rfl, hJo2, hNo2⟩; have hlow2 := open_low (below_then hcf hcur) hlow.2 hNo2; have ho2i := row_open hJo.xa hNo2 (owns_below ho2 hcur); have KL3 := Lib.hid (crash_listed HMOD.out hJo2); have KWO2 := Lib.hid (crash_w2 hJo2 (hNo2.st.p.trans hNo.st.p)))
              | (go_at_call 46; refine KL3.out.mono ?_; rintro e wk ⟨v3, rfl, ho3, hbk⟩; obtain ⟨Ad, cd, ed, -⟩ := owns_form ho3; subst ed; have KS4 := same_calls _ _ ls2 ls2 wk (Row.of_owns ho3) (Row.of_owns (owns_below ho2i hbk)); rw [decide_eq_true rfl] at KS4; have KS4 := Lib.hid KS4)
              | (go_at_call 22; refine (KWO2.out _ (below_then hbk hbl)).mono ?_; rintro e wx ⟨rfl, rfl⟩))
            have hbfin := below_then (below_then hlow2.1 hbk) hbl
            go_roundw
            case rel => exact ⟨n + 1, HLT.out, by first | rw [hw1] | rfl, Lib.hid (crash_end HMOD.out HJ1.out HS1.out (below_then hbc hbfin) hbWb)⟩
            case measure => first | (rw [hw1]; exact down_next HLT.out) | exact down_next HLT.out
          · skip
            have KA := Lib.hid (fun w (hw : Below wr.heap.size wr w) => (show Calls Tryz.prog 43 #[.pointer (some ⟨j.p, 0, none⟩), .slice Au m.length cu] w fun e w' => e = .returned (.int .i64 3) ∧ ∃ (j' : JT) (y : DT), JD j' y (actM s g ls (false, z, m)).s (actM s g ls (false, z, m)).g (actM s g ls (false, z, m)).ls w' W.heap.size ∧ JStep j x w j' y w' from by
              have hbw := HBEL.out.trans (hw.mono HBEL.out.size)
              have hll := HLL.out
              have hcc := HC.out
              have hcl := cost_le aa n
              have hlt := HLT.out
              have h := jadd_all j x s g ls w W.heap.size (HJ.out.below hw) hbw.size (HTT.out w hbw) (HFF.out w hbw) HMOD.out.jb (by omega) (by omega) (.slice Au m.length cu) m (HBS.out.1.below hbw) (fun h0 k hk hm => by have := bs_lt HBS.out.1 h0 hk; have := HJ.out.xa.ge (.inl hm); have := hbw.size; omega)
              rw [actM_add]
              have hcode : (addM s g ls m).code = 3 := by unfold addM; rw [if_neg HM.out]
              rw [hcode] at h
              exact h))
            go_wp2_with (first
              | (go_at_call 46; clear ML0; refine KL0.out.mono ?_; rintro e wa ⟨v0, rfl, ho0, hba⟩; obtain ⟨Aa, ca, ea, -⟩ := owns_form ho0; subst ea; have hbWa := HBEL.out.trans (hba.mono HBEL.out.size); obtain ⟨r0a, r1a, r2a⟩ := HROW.out wa hbWa)
              | (go_at_call 22; clear MW1; refine (KW0.out wa hba).mono ?_; rintro e wx ⟨rfl, rfl⟩)
              | (go_at_call 43; refine (KA.out wa hba).mono ?_; rintro e wb ⟨rfl, j1, x1, hJ1, hS1⟩; obtain ⟨K1, K2, K3⟩ := crash_mid HMOD.out hJ1 hS1 (hS1.below (HJ.out.below hba) hbWa (Nat.le_refl _) hbWa.size); have KL1 := Lib.hid K1; have KW1 := Lib.hid K2; have KAF := Lib.hid K3; have hbWb := hS1.below (HJ.out.below hba) hbWa (Nat.le_refl _) hbWa.size; have ho0b := row_step HJ.out hS1 ho0; obtain ⟨r0b, r1b, r2b⟩ := HROW.out wb hbWb; have HJ1 := Lib.hid hJ1; have HS1 := Lib.hid hS1; clear K1 K2 K3 hJ1 hS1)
              | (go_at_call 46; clear ML1; refine KL1.out.mono ?_; rintro e wc ⟨v1, rfl, ho1, hbc⟩; obtain ⟨Ab, cb, eb, -⟩ := owns_form ho1; subst eb; have hbWc := hbWb.trans (hbc.mono hbWb.size))
              | (go_at_call 22; clear MW2; refine (KW1.out wc hbc).mono ?_; rintro e wx ⟨rfl, rfl⟩)
              | (go_at_call 23; refine (KAF.out wc hbc).mono ?_; rintro e wd ⟨y0, rfl, hy0, hm0, hbd⟩; have hbWd := hbWc.trans (hbd.mono hbWc.size); have KOP := Lib.hid (jopen_opens HMOD.out.op (crash_sec HMOD.out) (crash_few HMOD.out) y0 wd W.heap.size hy0 hbWd.size (fun w hw => HTT.out w (hbWd.trans hw)) (HFF.out wd hbWd)))
              | (go_at_call 37; clear MO1; refine KOP.out.mono ?_; rintro e we ⟨jo, yo, t2, gg2, rfl, hJo, hNo, hGo, hg2, hr2⟩; have hlow := open_low hbd hm0 hNo; have hbe := below_then hbc hlow.1; have hbWe := hbWb.trans (hbe.mono hbWb.size); have KL2 := Lib.hid (crash_listed HMOD.out hJo))
              | (go_at_call 46; clear ML2; refine KL2.out.mono ?_; rintro e wf ⟨v2, rfl, ho2, hbf⟩; obtain ⟨Ac, cc, ec, -⟩ := owns_form ho2; subst ec; have hcf := below_then hlow.1 hbf; have hbef := below_then hbe hbf; have KS1 := same_calls _ _ ls2 ls wf (Row.of_owns ho2) (Row.of_owns (owns_below ho0b hbef)); rw [hA] at KS1; have KS1 := Lib.hid KS1; have KS23 := Lib.hid (fun w (hw : Below wf.heap.size wf w) => same_calls _ _ ls2 _ w (Row.of_owns (owns_below ho2 hw)) (Row.of_owns (owns_below ho1 (below_then hcf hw)))); have KWO := Lib.hid (crash_w2 (hJo.below hbf) hNo.st.p); have KOP2 := Lib.hid (crash_open2 HMOD.out hJo hNo.st.p hGo hg2 hr2 hbf hbWe HTT.out HFF.out))
              | (go_at_call 48; clear MS1; refine KS1.out.mono ?_; rintro e wg ⟨rfl, hcur⟩)
              | (go_at_call 48; refine KS4.out.mono ?_; rintro e wl ⟨rfl, hbl⟩)
              | (go_at_call 48; have KS5 := KS23.out _ hcur; rw [hC] at KS5; refine KS5.mono ?_; rintro e wh ⟨rfl, hbh⟩; have hcur := below_then hcur hbh)
              | (go_at_call 22; clear MW3; refine (KW1.out _ (below_then hbef hcur)).mono ?_; rintro e wx ⟨rfl, rfl⟩)
              | (go_at_call 22; clear MW4; refine (KWO.out _ hcur).mono ?_; rintro e wx ⟨rfl, rfl⟩)
              | (go_at_call 37; refine (KOP2.out _ hcur).mono ?_; rintro e wi ⟨jo2, yo2, rfl, hJo2, hNo2⟩; have hlow2 := open_low (below_then hcf hcur) hlow.2 hNo2; have ho2i := row_open hJo.xa hNo2 (owns_below ho2 hcur); have KL3 := Lib.hid (crash_listed HMOD.out hJo2); have KWO2 := Lib.hid (crash_w2 hJo2 (hNo2.st.p.trans hNo.st.p)))
              | (go_at_call 46; refine KL3.out.mono ?_; rintro e wk ⟨v3, rfl, ho3, hbk⟩; obtain ⟨Ad, cd, ed, -⟩ := owns_form ho3; subst ed; have KS4 := same_calls _ _ ls2 ls2 wk (Row.of_owns ho3) (Row.of_owns (owns_below ho2i hbk)); rw [decide_eq_true rfl] at KS4; have KS4 := Lib.hid KS4)
              | (go_at_call 22; refine (KWO2.out _ (below_then hbk hbl)).mono ?_; rintro e wx ⟨rfl, rfl⟩))
            have hbfin := below_then (below_then hlow2.1 hbk) hbl
            go_roundw
            case rel => exact ⟨n + 1, HLT.out, by first | rw [hw1] | rfl, Lib.hid (crash_end HMOD.out HJ1.out HS1.out (below_then hbc hbfin) hbWb)⟩
            case measure => first | (rw [hw1]; exact down_next HLT.out) | exact down_next HLT.out
          · skip
            have KA := Lib.hid (fun w (hw : Below wr.heap.size wr w) => (show Calls Tryz.prog 43 #[.pointer (some ⟨j.p, 0, none⟩), .slice Au m.length cu] w fun e w' => e = .returned (.int .i64 3) ∧ ∃ (j' : JT) (y : DT), JD j' y (actM s g ls (false, z, m)).s (actM s g ls (false, z, m)).g (actM s g ls (false, z, m)).ls w' W.heap.size ∧ JStep j x w j' y w' from by
              have hbw := HBEL.out.trans (hw.mono HBEL.out.size)
              have hll := HLL.out
              have hcc := HC.out
              have hcl := cost_le aa n
              have hlt := HLT.out
              have h := jadd_all j x s g ls w W.heap.size (HJ.out.below hw) hbw.size (HTT.out w hbw) (HFF.out w hbw) HMOD.out.jb (by omega) (by omega) (.slice Au m.length cu) m (HBS.out.1.below hbw) (fun h0 k hk hm => by have := bs_lt HBS.out.1 h0 hk; have := HJ.out.xa.ge (.inl hm); have := hbw.size; omega)
              rw [actM_add]
              have hcode : (addM s g ls m).code = 3 := by unfold addM; rw [if_neg HM.out]
              rw [hcode] at h
              exact h))
            go_wp2_with (first
              | (go_at_call 46; clear ML0; refine KL0.out.mono ?_; rintro e wa ⟨v0, rfl, ho0, hba⟩; obtain ⟨Aa, ca, ea, -⟩ := owns_form ho0; subst ea; have hbWa := HBEL.out.trans (hba.mono HBEL.out.size); obtain ⟨r0a, r1a, r2a⟩ := HROW.out wa hbWa)
              | (go_at_call 22; clear MW1; refine (KW0.out wa hba).mono ?_; rintro e wx ⟨rfl, rfl⟩)
              | (go_at_call 43; refine (KA.out wa hba).mono ?_; rintro e wb ⟨rfl, j1, x1, hJ1, hS1⟩; obtain ⟨K1, K2, K3⟩ := crash_mid HMOD.out hJ1 hS1 (hS1.below (HJ.out.below hba) hbWa (Nat.le_refl _) hbWa.size); have KL1 := Lib.hid K1; have KW1 := Lib.hid K2; have KAF := Lib.hid K3; have hbWb := hS1.below (HJ.out.below hba) hbWa (Nat.le_refl _) hbWa.size; have ho0b := row_step HJ.out hS1 ho0; obtain ⟨r0b, r1b, r2b⟩ := HROW.out wb hbWb; have HJ1 := Lib.hid hJ1; have HS1 := Lib.hid hS1; clear K1 K2 K3 hJ1 hS1)
              | (go_at_call 46; clear ML1; refine KL1.out.mono ?_; rintro e wc ⟨v1, rfl, ho1, hbc⟩; obtain ⟨Ab, cb, eb, -⟩ := owns_form ho1; subst eb; have hbWc := hbWb.trans (hbc.mono hbWb.size))
              | (go_at_call 22; clear MW2; refine (KW1.out wc hbc).mono ?_; rintro e wx ⟨rfl, rfl⟩)
              | (go_at_call 23; refine (KAF.out wc hbc).mono ?_; rintro e wd ⟨y0, rfl, hy0, hm0, hbd⟩; have hbWd := hbWc.trans (hbd.mono hbWc.size); have KOP := Lib.hid (jopen_opens HMOD.out.op (crash_sec HMOD.out) (crash_few HMOD.out) y0 wd W.heap.size hy0 hbWd.size (fun w hw => HTT.out w (hbWd.trans hw)) (HFF.out wd hbWd)))
              | (go_at_call 37; clear MO1; refine KOP.out.mono ?_; rintro e we ⟨jo, yo, t2, gg2, rfl, hJo, hNo, hGo, hg2, hr2⟩; have hlow := open_low hbd hm0 hNo; have hbe := below_then hbc hlow.1; have hbWe := hbWb.trans (hbe.mono hbWb.size); have KL2 := Lib.hid (crash_listed HMOD.out hJo))
              | (go_at_call 46; clear ML2; refine KL2.out.mono ?_; rintro e wf ⟨v2, rfl, ho2, hbf⟩; obtain ⟨Ac, cc, ec, -⟩ := owns_form ho2; subst ec; have hcf := below_then hlow.1 hbf; have hbef := below_then hbe hbf; have KS1 := same_calls _ _ ls2 ls wf (Row.of_owns ho2) (Row.of_owns (owns_below ho0b hbef)); rw [hA] at KS1; have KS1 := Lib.hid KS1; have KS23 := Lib.hid (fun w (hw : Below wf.heap.size wf w) => same_calls _ _ ls2 _ w (Row.of_owns (owns_below ho2 hw)) (Row.of_owns (owns_below ho1 (below_then hcf hw)))); have KWO := Lib.hid (crash_w2 (hJo.below hbf) hNo.st.p); have KOP2 := Lib.hid (crash_open2 HMOD.out hJo hNo.st.p hGo hg2 hr2 hbf hbWe HTT.out HFF.out))
              | (go_at_call 48; clear MS1; refine KS1.out.mono ?_; rintro e wg ⟨rfl, hcur⟩)
              | (go_at_call 48; refine KS4.out.mono ?_; rintro e wl ⟨rfl, hbl⟩)
              | (go_at_call 48; have KS5 := KS23.out _ hcur; rw [hC] at KS5; refine KS5.mono ?_; rintro e wh ⟨rfl, hbh⟩; have hcur := below_then hcur hbh)
              | (go_at_call 22; clear MW3; refine (KW1.out _ (below_then hbef hcur)).mono ?_; rintro e wx ⟨rfl, rfl⟩)
              | (go_at_call 22; clear MW4; refine (KWO.out _ hcur).mono ?_; rintro e wx ⟨rfl, rfl⟩)
              | (go_at_call 37; refine (KOP2.out _ hcur).mono ?_; rintro e wi ⟨jo2, yo2, rfl, hJo2, hNo2⟩; have hlow2 := open_low (below_then hcf hcur) hlow.2 hNo2; have ho2i := row_open hJo.xa hNo2 (owns_below ho2 hcur); have KL3 := Lib.hid (crash_listed HMOD.out hJo2); have KWO2 := Lib.hid (crash_w2 hJo2 (hNo2.st.p.trans hNo.st.p)))
              | (go_at_call 46; refine KL3.out.mono ?_; rintro e wk ⟨v3, rfl, ho3, hbk⟩; obtain ⟨Ad, cd, ed, -⟩ := owns_form ho3; subst ed; have KS4 := same_calls _ _ ls2 ls2 wk (Row.of_owns ho3) (Row.of_owns (owns_below ho2i hbk)); rw [decide_eq_true rfl] at KS4; have KS4 := Lib.hid KS4)
              | (go_at_call 22; refine (KWO2.out _ (below_then hbk hbl)).mono ?_; rintro e wx ⟨rfl, rfl⟩))
            have hbfin := below_then (below_then hlow2.1 hbk) hbl
            go_roundw
            case rel => exact ⟨n + 1, HLT.out, by first | rw [hw1] | rfl, Lib.hid (crash_end HMOD.out HJ1.out HS1.out (below_then hbc hbfin) hbWb)⟩
            case measure => first | (rw [hw1]; exact down_next HLT.out) | exact down_next HLT.out
          · skip
            have KA := Lib.hid (fun w (hw : Below wr.heap.size wr w) => (show Calls Tryz.prog 43 #[.pointer (some ⟨j.p, 0, none⟩), .slice Au m.length cu] w fun e w' => e = .returned (.int .i64 3) ∧ ∃ (j' : JT) (y : DT), JD j' y (actM s g ls (false, z, m)).s (actM s g ls (false, z, m)).g (actM s g ls (false, z, m)).ls w' W.heap.size ∧ JStep j x w j' y w' from by
              have hbw := HBEL.out.trans (hw.mono HBEL.out.size)
              have hll := HLL.out
              have hcc := HC.out
              have hcl := cost_le aa n
              have hlt := HLT.out
              have h := jadd_all j x s g ls w W.heap.size (HJ.out.below hw) hbw.size (HTT.out w hbw) (HFF.out w hbw) HMOD.out.jb (by omega) (by omega) (.slice Au m.length cu) m (HBS.out.1.below hbw) (fun h0 k hk hm => by have := bs_lt HBS.out.1 h0 hk; have := HJ.out.xa.ge (.inl hm); have := hbw.size; omega)
              rw [actM_add]
              have hcode : (addM s g ls m).code = 3 := by unfold addM; rw [if_neg HM.out]
              rw [hcode] at h
              exact h))
            go_wp2_with (first
              | (go_at_call 46; clear ML0; refine KL0.out.mono ?_; rintro e wa ⟨v0, rfl, ho0, hba⟩; obtain ⟨Aa, ca, ea, -⟩ := owns_form ho0; subst ea; have hbWa := HBEL.out.trans (hba.mono HBEL.out.size); obtain ⟨r0a, r1a, r2a⟩ := HROW.out wa hbWa)
              | (go_at_call 22; clear MW1; refine (KW0.out wa hba).mono ?_; rintro e wx ⟨rfl, rfl⟩)
              | (go_at_call 43; refine (KA.out wa hba).mono ?_; rintro e wb ⟨rfl, j1, x1, hJ1, hS1⟩; obtain ⟨K1, K2, K3⟩ := crash_mid HMOD.out hJ1 hS1 (hS1.below (HJ.out.below hba) hbWa (Nat.le_refl _) hbWa.size); have KL1 := Lib.hid K1; have KW1 := Lib.hid K2; have KAF := Lib.hid K3; have hbWb := hS1.below (HJ.out.below hba) hbWa (Nat.le_refl _) hbWa.size; have ho0b := row_step HJ.out hS1 ho0; obtain ⟨r0b, r1b, r2b⟩ := HROW.out wb hbWb; have HJ1 := Lib.hid hJ1; have HS1 := Lib.hid hS1; clear K1 K2 K3 hJ1 hS1)
              | (go_at_call 46; clear ML1; refine KL1.out.mono ?_; rintro e wc ⟨v1, rfl, ho1, hbc⟩; obtain ⟨Ab, cb, eb, -⟩ := owns_form ho1; subst eb; have hbWc := hbWb.trans (hbc.mono hbWb.size))
              | (go_at_call 22; clear MW2; refine (KW1.out wc hbc).mono ?_; rintro e wx ⟨rfl, rfl⟩)
              | (go_at_call 23; refine (KAF.out wc hbc).mono ?_; rintro e wd ⟨y0, rfl, hy0, hm0, hbd⟩; have hbWd := hbWc.trans (hbd.mono hbWc.size); have KOP := Lib.hid (jopen_opens HMOD.out.op (crash_sec HMOD.out) (crash_few HMOD.out) y0 wd W.heap.size hy0 hbWd.size (fun w hw => HTT.out w (hbWd.trans hw)) (HFF.out wd hbWd)))
              | (go_at_call 37; clear MO1; refine KOP.out.mono ?_; rintro e we ⟨jo, yo, t2, gg2, rfl, hJo, hNo, hGo, hg2, hr2⟩; have hlow := open_low hbd hm0 hNo; have hbe := below_then hbc hlow.1; have hbWe := hbWb.trans (hbe.mono hbWb.size); have KL2 := Lib.hid (crash_listed HMOD.out hJo))
              | (go_at_call 46; clear ML2; refine KL2.out.mono ?_; rintro e wf ⟨v2, rfl, ho2, hbf⟩; obtain ⟨Ac, cc, ec, -⟩ := owns_form ho2; subst ec; have hcf := below_then hlow.1 hbf; have hbef := below_then hbe hbf; have KS1 := same_calls _ _ ls2 ls wf (Row.of_owns ho2) (Row.of_owns (owns_below ho0b hbef)); rw [hA] at KS1; have KS1 := Lib.hid KS1; have KS23 := Lib.hid (fun w (hw : Below wf.heap.size wf w) => same_calls _ _ ls2 _ w (Row.of_owns (owns_below ho2 hw)) (Row.of_owns (owns_below ho1 (below_then hcf hw)))); have KWO := Lib.hid (crash_w2 (hJo.below hbf) hNo.st.p); have KOP2 := Lib.hid (crash_open2 HMOD.out hJo hNo.st.p hGo hg2 hr2 hbf hbWe HTT.out HFF.out))
              | (go_at_call 48; clear MS1; refine KS1.out.mono ?_; rintro e wg ⟨rfl, hcur⟩)
              | (go_at_call 48; refine KS4.out.mono ?_; rintro e wl ⟨rfl, hbl⟩)
              | (go_at_call 48; have KS5 := KS23.out _ hcur; rw [hC] at KS5; refine KS5.mono ?_; rintro e wh ⟨rfl, hbh⟩; have hcur := below_then hcur hbh)
              | (go_at_call 22; clear MW3; refine (KW1.out _ (below_then hbef hcur)).mono ?_; rintro e wx ⟨rfl, rfl⟩)
              | (go_at_call 22; clear MW4; refine (KWO.out _ hcur).mono ?_; rintro e wx ⟨rfl, rfl⟩)
              | (go_at_call 37; refine (KOP2.out _ hcur).mono ?_; rintro e wi ⟨jo2, yo2, rfl, hJo2, hNo2⟩; have hlow2 := open_low (below_then hcf hcur) hlow.2 hNo2; have ho2i := row_open hJo.xa hNo2 (owns_below ho2 hcur); have KL3 := Lib.hid (crash_listed HMOD.out hJo2); have KWO2 := Lib.hid (crash_w2 hJo2 (hNo2.st.p.trans hNo.st.p)))
              | (go_at_call 46; refine KL3.out.mono ?_; rintro e wk ⟨v3, rfl, ho3, hbk⟩; obtain ⟨Ad, cd, ed, -⟩ := owns_form ho3; subst ed; have KS4 := same_calls _ _ ls2 ls2 wk (Row.of_owns ho3) (Row.of_owns (owns_below ho2i hbk)); rw [decide_eq_true rfl] at KS4; have KS4 := Lib.hid KS4)
              | (go_at_call 22; refine (KWO2.out _ (below_then hbk hbl)).mono ?_; rintro e wx ⟨rfl, rfl⟩))
            have hbfin := below_then (below_then hlow2.1 hbk) hbl
            go_roundw
            case rel => exact ⟨n + 1, HLT.out, by first | rw [hw1] | rfl, Lib.hid (crash_end HMOD.out HJ1.out HS1.out (below_then hbc hbfin) hbWb)⟩
            case measure => first | (rw [hw1]; exact down_next HLT.out) | exact down_next HLT.out
    · have hkn : n = aa.length := by omega
      subst hkn
      clear hlt
      go_wp2
      go_ret
      exact ⟨rfl, HR.out.bel⟩
end Go.Proofs.YtjllkmkngjdjjaaGreatDoor
