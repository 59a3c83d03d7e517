/- WALKS of the reference's All and Whole. No statement of the seed is proved here. -/
import Derived.Test.YthgjecofmnomfaaDoorFrameI
import Derived.Test.YthgjecofmnomfaaDoorLists
namespace Go.Proofs.YthgjecofmnomfaaDoor
open Go.RowKit
set_option maxRecDepth 100000

def intsV (l : List Nat) : List Value := l.map fun (n : Nat) => .int .i64 (n : Int)
/-- What the reference's All hands back. -/
structure AllR (w : World) (B : Nat) (vo ve : Value) (xs : List (Nat × List UInt8)) (vs : List Value) : Prop where
  out : w.ownsRow B 23 1 vo xs.length vs
  parts : Parts w B vs (xs.map Prod.snd) [vo, ve]
  ends : w.ownsRow B 3 1 ve xs.length (intsV (xs.map Prod.fst))
  apart : Apart vo ve
theorem AllR.nil (w : World) (B : Nat) : AllR w B (.slice none 0 0) (.slice none 0 0) [] [] :=
  ⟨World.ownsRow_nil _ _ _ _, Parts.nil _ _ _, World.ownsRow_nil _ _ _ _, Apart.nil _ _ _⟩
theorem AllR.below {w w1 : World} {B : Nat} {vo ve : Value} {xs : List (Nat × List UInt8)} {vs : List Value} (h : AllR w B vo ve xs vs) (hb : Below w.heap.size w w1) : AllR w1 B vo ve xs vs :=
  ⟨owns_below h.out hb, h.parts.below hb, owns_below h.ends hb, h.apart⟩
/-- A frame's data are put behind the others. -/
theorem AllR.add1 {w w0 w1 w2 : World} {B : Nat} {vo ve u vo2 : Value} {xs : List (Nat × List UInt8)} {vs : List Value} {m : List UInt8} {o : Obj} (h0 : AllR w0 B vo ve xs vs) (hB1 : Below w0.heap.size w0 w1) (hb : Below B w w0) (hB : B ≤ w0.heap.size) (hm : OwnB w1 w0.heap.size u m)
    (hown : w2.ownsRow B 23 1 vo2 (xs.length + 1) (vs ++ [u])) (hg : (w1.alloc o).grownBy w2 vo.ownBlock) (hat : vo2.ownBlock = vo.ownBlock ∨ vo2.ownBlock = some (w1.heap.size + 1)) :
    Parts w2 B (vs ++ [u]) (xs.map Prod.snd ++ [m]) [vo2, ve] ∧ w2.ownsRow B 3 1 ve xs.length (intsV (xs.map Prod.fst)) ∧ Apart vo2 ve ∧ Below B w w2 ∧ B ≤ w2.heap.size := by
  have h1 := h0.below hB1
  have hs : (w1.alloc o).heap.size = w1.heap.size + 1 := by simp
  have a1 : Apart u vo := (Apart.newer (owns_lt h0.out) (fun k hk => (hm.lt k hk).1)).symm
  have a2 : Apart u ve := (Apart.newer (owns_lt h0.ends) (fun k hk => (hm.lt k hk).1)).symm
  have p1 : Parts w1 B (vs ++ [u]) (xs.map Prod.snd ++ [m]) [vo, ve] := h1.parts.snoc (hm.lower hB) (by intro s hs; simp at hs; rcases hs with rfl | rfl <;> assumption)
  have hbw : Below B w (w1.alloc o) := (hb.trans (hB1.mono hB)).alloc (Nat.le_trans hB hB1.size) _
  refine ⟨(p1.below (below_alloc1 w1 o)).grow (s := vo) (by simp) hg (by rw [hs]; exact hat) (by intro x hx; simp at hx; rcases hx with rfl | rfl <;> simp), ?_, ?_, ?_, ?_⟩
  · exact World.ownsRow.kept (World.ownsRow.alloc h1.ends o) hg (h0.apart.symm.ne)
  · refine Apart.symm (h0.apart.symm.grow (fun k hk => ?_) hat)
    have := owns_lt h1.ends k hk
    omega
  · exact hbw.grown hg (by rw [hs]; exact Nat.le_trans (Nat.le_trans hB hB1.size) (by omega)) (fun k hk => owns_ge h0.out k hk)
  · have := hg.size
    rw [hs] at this
    exact Nat.le_trans hB (Nat.le_trans hB1.size (by omega))
theorem AllR.add2 {w w2 w3 : World} {B : Nat} {vo2 ve ve2 u : Value} {xs : List (Nat × List UInt8)} {vs : List Value} {m : List UInt8} {nq : Nat} {o : Obj} (hown : w2.ownsRow B 23 1 vo2 (xs.length + 1) (vs ++ [u])) (hp : Parts w2 B (vs ++ [u]) (xs.map Prod.snd ++ [m]) [vo2, ve])
    (he : w2.ownsRow B 3 1 ve xs.length (intsV (xs.map Prod.fst))) (ha : Apart vo2 ve) (hb : Below B w w2) (hB : B ≤ w2.heap.size) (hown3 : w3.ownsRow B 3 1 ve2 (xs.length + 1) (intsV (xs.map Prod.fst) ++ [.int .i64 (nq : Int)])) (hg : (w2.alloc o).grownBy w3 ve.ownBlock)
    (hat : ve2.ownBlock = ve.ownBlock ∨ ve2.ownBlock = some (w2.heap.size + 1)) : AllR w3 B vo2 ve2 (xs ++ [(nq, m)]) (vs ++ [u]) ∧ Below B w w3 := by
  have hs : (w2.alloc o).heap.size = w2.heap.size + 1 := by simp
  refine ⟨⟨?_, ?_, ?_, ?_⟩, ?_⟩
  · rw [List.length_append]
    exact World.ownsRow.kept (World.ownsRow.alloc hown o) hg ha.ne
  · rw [List.map_append]
    exact (hp.below (below_alloc1 w2 o)).grow (s := ve) (by simp) hg (by rw [hs]; exact hat) (by intro x hx; simp at hx; rcases hx with rfl | rfl <;> simp)
  · rw [List.length_append, List.map_append, intsV, List.map_append]
    exact hown3
  · refine ha.grow (fun k hk => ?_) hat
    have := owns_lt hown k hk
    omega
  · exact (hb.alloc hB _).grown hg (by rw [hs]; omega) (fun k hk => owns_ge he k hk)
theorem owns_lower {w : World} {B B' : Nat} {e : TypeId} {size n : Nat} {v : Value} {xs : List Value} (h : w.ownsRow B e size v n xs) (hB : B' ≤ B) : w.ownsRow B' e size v n xs := by
  obtain ⟨h1, h2⟩ := h
  refine ⟨h1, ?_⟩
  rcases h2 with h2 | ⟨g, cap, cur, hv, hg, r⟩
  · exact .inl h2
  · exact .inr ⟨g, cap, cur, hv, by omega, r⟩
theorem AllR.lower {w : World} {B B' : Nat} {vo ve : Value} {xs : List (Nat × List UInt8)} {vs : List Value} (h : AllR w B vo ve xs vs) (hB : B' ≤ B) : AllR w B' vo ve xs vs :=
  ⟨owns_lower h.out hB, ⟨h.parts.1, fun j u hu => let ⟨m, a, b, c⟩ := h.parts.2 j u hu; ⟨m, a, b.lower hB, c⟩⟩, owns_lower h.ends hB, h.apart⟩
theorem AllR.last {w : World} {B : Nat} {vo ve : Value} {p : List (Nat × List UInt8)} {x : Nat × List UInt8} {vs : List Value} (h : AllR w B vo ve (p ++ [x]) vs) :
    ∃ ad, ∀ {A n c}, ve = .slice A n c → A = some ad ∧ w.cell? (ad.add p.length) = some (.int .i64 (x.1 : Int)) := by
  obtain ⟨A, c, e, h1, h2, h0, h3⟩ := Row.of_owns h.ends
  subst e
  obtain ⟨ad, hA, hc⟩ := h3 p.length (.int .i64 (x.1 : Int)) (by simp [intsV])
  exact ⟨ad, fun e => by cases e; exact ⟨hA, hc⟩⟩
theorem endF_count (l : List UInt8) : ∀ (pre rest : List (Nat × List UInt8)), allF l 0 = pre ++ rest → 8 * pre.length ≤ endF 0 pre := by
  intro pre
  refine snoc_ind (P := fun pre => ∀ rest, allF l 0 = pre ++ rest → 8 * pre.length ≤ endF 0 pre) ?_ ?_ pre
  · intro rest _; simp
  · intro p x ih rest h
    rw [List.append_assoc] at h
    have h1 := ih ([x] ++ rest) h
    have h2 := allF_pre l p ([x] ++ rest) 0 h
    rw [endF_snoc]
    obtain ⟨m, q, y, hr⟩ : ∃ m q y, frRead l ((endF 0 p : Nat) : Int) = (m, q, y) := ⟨_, _, _, rfl⟩
    by_cases hy : y = 0
    · subst hy
      rw [allF_ok hr] at h2
      simp only [List.cons_append, List.nil_append, List.cons.injEq] at h2
      obtain ⟨a1, a2, _⟩ := frRead_ok hr
      rw [h2.1]
      simp only [List.length_append, List.length_cons, List.length_nil]
      omega
    · rw [allF_bad (fun c => hy (by have := c.2; rw [hr] at this; exact this))] at h2
      simp at h2
set_option maxHeartbeats 2000000 in
theorem rall_calls (v : Value) (l : List UInt8) (w : World) (hv : Bs w v l) (hl : l.length ≤ 2000000) :
    Calls Tryd.prog 21 #[v] w fun e w' => ∃ vo ve vs, e = .returned (.tuple #[vo, ve, .int .i64 (errAt l (endF 0 (allF l 0)))]) ∧ AllR w' w.heap.size vo ve (allF l 0) vs ∧ Below w.heap.size w w' := by
  obtain ⟨A, c, rfl, hlc, hc, hn⟩ := hv.form
  go_enter Tryd.func21, Tryd.ntmps21
  go_wp2
  go_loopw [5, 6, 7] (fun vo ve p wr => ∃ (pre rest : List (Nat × List UInt8)) (vs : List Value), p = .int .i64 (endF 0 pre : Nat) ∧ allF l 0 = pre ++ rest ∧ AllR wr w.heap.size vo ve pre vs ∧ Below w.heap.size w wr) (fun _ _ p _ => l.length - (intOf p).toNat)
  case atStart => exact ⟨[], allF l 0, [], rfl, rfl, AllR.nil _ _, Below.refl _ _⟩
  case round =>
    obtain ⟨pre, rest, vs, rfl, hx, hA, hb⟩ := hrel
    have hrest := allF_pre l pre rest 0 hx
    have hle := endF_le l pre rest hx
    have hcnt := endF_count l pre rest hx
    have HE : Hid (∀ x : Nat × List UInt8, endF 0 (pre ++ [x]) = x.1) := endF_snoc 0 pre
    have HQ : Hid (endF 0 pre = endF 0 pre) := rfl
    have HX := Lib.hid hx; clear hx
    generalize hq0 : endF 0 pre = q at hrest hle hcnt
    have HQ0 := Lib.hid hq0; clear hq0 HQ
    have hbs := hv.below hb
    obtain ⟨Ao, co, rfl, ho1, ho2, ho3⟩ := owns_form hA.out
    obtain ⟨Ae, ce, rfl, he1, he2, he3⟩ := owns_form hA.ends
    by_cases hlt : q < l.length
    · obtain ⟨m, nx, y, hfr⟩ : ∃ m nx y, frRead l (q : Int) = (m, nx, y) := ⟨_, _, _, rfl⟩
      have KR := Lib.hid (rread_callsR hfr (.slice A l.length c) wr hbs)
      by_cases hy : y = 0
      · subst hy
        obtain ⟨a1, a2, -⟩ := frRead_ok hfr
        rw [allF_ok hfr] at hrest
        clear hfr hbs
        subst a2
        rw [Int.toNat_natCast] at hrest
        have HR := Lib.hid hrest; clear hrest
        generalize hnq : q + 8 + m.length = nq at *
        have HT := Lib.hid hnq; clear hnq
        have tok1 : True := trivial
        go_wp2_with (first
          | (go_at_call 15; refine KR.out.mono ?_; rintro e w1 ⟨v1, rfl, hm1, hB1⟩; have hb1 := below_then hb hB1; have hA1 := hA.below hB1; obtain ⟨Am, cm, rfl, hm2, hm3, hm4⟩ := hm1.form; clear hv)
          | (at_builtin; have _t := tok1; refine app_row rfl _ _ 41 23 rfl Tryd.underlying41 info_bs rfl (by omega) w.heap.size (.slice Ao pre.length co) rfl pre.length vs hA1.out (.slice Am m.length cm) rfl rfl ?_ hb1.size ?_; (· omega); clear tok1; intro vo2 w2 hown2 hg2 hat2; obtain ⟨hp2, he2, ha2, hb2, hs2⟩ := hA.add1 hB1 hb hb.size hm1 hown2 hg2 hat2; clear hA hA1 hg2 hat2)
          | (at_builtin; refine app_row rfl _ _ 42 3 rfl Tryd.underlying42 info_int rfl (by omega) w.heap.size (.slice Ae pre.length ce) rfl pre.length (intsV (pre.map Prod.fst)) he2 (.int .i64 (nq : Int)) rfl rfl ?_ hs2 ?_; (· omega); intro ve2 w3 hown3 hg3 hat3; obtain ⟨hA3, hb3⟩ := AllR.add2 hown2 hp2 he2 ha2 hb2 hs2 hown3 hg3 hat3; clear hown2 hp2 he2 ha2 hown3 hg3 hat3))
        go_roundw
        case rel => exact ⟨pre ++ [(nq, m)], allF l nq, _, by rw [HE.out], by rw [HX.out, HR.out]; simp, hA3, hb3⟩
        case measure => have := HT.out; simp [intOf]; omega
      · rw [allF_bad (fun c => hy (by have := c.2; rw [hfr] at this; exact this))] at hrest
        have HR := Lib.hid hrest; clear hrest
        have hy1 : (y != 0) = true := by simpa using hy
        have hy2 : (y == 0) = false := by simpa using hy
        have her : Hid (errAt l (endF 0 (allF l 0)) = y) := by
          rw [HX.out, HR.out, List.append_nil, HQ0.out]
          unfold errAt Hid
          rw [if_neg (by omega), hfr]
        clear hfr hbs hy
        go_wp2_with (go_at_call 15; refine KR.out.mono ?_; rintro e w1 ⟨v1, rfl, hm1, hB1⟩; have hb1 := below_then hb hB1; have hA1 := hA.below hB1; obtain ⟨Am, cm, rfl, hm2, hm3, hm4⟩ := hm1.form; clear hA hv)
        go_ret3
        exact ⟨_, _, _, by rw [her.out]; rfl, by rw [HX.out, HR.out, List.append_nil]; exact hA1, hb1⟩
    · rw [allF_bad (fun c => hlt c.1)] at hrest
      have HR := Lib.hid hrest; clear hrest
      have her : Hid (errAt l (endF 0 (allF l 0)) = 0) := by
        rw [HX.out, HR.out, List.append_nil, HQ0.out]
        unfold Hid
        rw [show q = l.length by omega]
        exact errAt_end
      clear hbs hv
      go_wp2
      go_ret3
      exact ⟨_, _, _, by rw [her.out]; rfl, by rw [HX.out, HR.out, List.append_nil]; exact hA, hb⟩
theorem rwhole_calls (v : Value) (l : List UInt8) (w : World) (hv : Bs w v l) (hl : l.length ≤ 2000000) :
    Calls Tryd.prog 23 #[v] w fun e w' => e = .returned (.tuple #[.int .i64 (endF 0 (allF l 0) : Nat), .int .i64 (errAt l (endF 0 (allF l 0)))]) ∧ Below w.heap.size w w' := by
  have K := Lib.hid (rall_calls v l w hv hl)
  rcases List.eq_nil_or_concat (allF l 0) with hx | ⟨p, x, hx⟩
  · rw [hx] at K ⊢
    generalize errAt l (endF 0 []) = er at K ⊢
    clear hv hx
    go_enter Tryd.func23, Tryd.ntmps23
    go_wp2_with (go_at_call 21; refine K.out.mono ?_; rintro e w1 ⟨vo, ve, vs, rfl, hA, hB1⟩; obtain ⟨Ae, ce, rfl, he1, he2, he3⟩ := owns_form hA.ends)
    go_ret2
    exact ⟨rfl, hB1⟩
  · rw [List.concat_eq_append] at hx
    rw [hx] at K ⊢
    rw [endF_snoc] at K ⊢
    generalize errAt l x.1 = er at K ⊢
    clear hv hx
    go_enter Tryd.func23, Tryd.ntmps23
    go_wp2_with (go_at_call 21; refine K.out.mono ?_; rintro e w1 ⟨vo, ve, vs, rfl, hA, hB1⟩; obtain ⟨ad, hc⟩ := AllR.last hA; obtain ⟨Ae, ce, rfl, he1, he2, he3⟩ := owns_form hA.ends; obtain ⟨rfl, hc1⟩ := hc rfl; simp only [List.length_append, List.length_cons, List.length_nil, Nat.zero_add] at he1 he2 he3)
    go_ret2
    exact ⟨rfl, hB1⟩
end Go.Proofs.YthgjecofmnomfaaDoor
