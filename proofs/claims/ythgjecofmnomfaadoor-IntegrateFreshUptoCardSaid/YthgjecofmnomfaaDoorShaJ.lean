/- WALK of hash's State.take. No statement of the seed is proved here. -/
import Derived.Test.YthgjecofmnomfaaDoorShaI
import Derived.Test.YthgjecofmnomfaaDoorQuietFrom
import Derived.Laws.Cover3
namespace Go.Proofs.YthgjecofmnomfaaDoor
open Go.RowKit
set_option maxRecDepth 100000
def stL (s : S8) (n : Int) (r : Value) : List Value := [.bool true] ++ u32s s.l ++ [.int .i64 n, r]
theorem stL_length (s : S8) (n : Int) (r : Value) : (stL s n r).length = 11 := rfl
theorem Arr.mid {w : World} {g : Nat} {a b c : List Value} (h : Arr w g (a ++ b ++ c)) : w.rangeAt g a.length b ∧ w.there g a.length b.length := by
  refine ⟨fun j v hv => ?_, fun j hj => ?_⟩
  · have hj : j < b.length := (List.getElem?_eq_some_iff.1 hv).1
    refine h.cell ?_
    rw [List.append_assoc, List.getElem?_append_right (by omega), Nat.add_sub_cancel_left, List.getElem?_append_left hj]
    exact hv
  · have := h.thr (a.length + j) (by simp; omega)
    rwa [Nat.zero_add] at this
theorem Arr.putMid {w : World} {g : Nat} {a b c : List Value} (h : Arr w g (a ++ b ++ c)) (b' : List Value) (hl : b'.length = b.length) : Arr (w.setCells g a.length b') g (a ++ b' ++ c) := by
  refine ⟨fun j v hv => ?_, World.there_setCells (by rw [show (a ++ b' ++ c).length = (a ++ b ++ c).length by simp [hl]]; exact h.thr) g a.length b'⟩
  rw [Nat.zero_add]
  have hj : j < (a ++ b' ++ c).length := (List.getElem?_eq_some_iff.1 hv).1
  by_cases h1 : j < a.length
  · rw [World.cell?_setCells_out g b' a.length w ⟨g, j, none⟩ (fun _ _ => .inl h1)]
    refine h.cell ?_
    rw [List.append_assoc, List.getElem?_append_left h1] at hv ⊢
    exact hv
  · by_cases h2 : j < a.length + b'.length
    · have e : j = a.length + (j - a.length) := by omega
      rw [e, World.cell?_setCells_in g b' a.length w (fun i hi => by
        have := (h.mid.2 i (by omega)).1
        exact this) (j - a.length) (by omega)]
      rw [List.append_assoc, List.getElem?_append_right (by omega), List.getElem?_append_left (by omega)] at hv
      rw [← hv, List.getElem?_eq_getElem (by omega)]
    · rw [World.cell?_setCells_out g b' a.length w ⟨g, j, none⟩ (fun _ _ => .inr (by show a.length + b'.length ≤ j; omega))]
      refine h.cell ?_
      rw [List.append_assoc, List.getElem?_append_right (by omega), List.getElem?_append_right (by omega)] at hv
      rw [List.append_assoc, List.getElem?_append_right (by omega), List.getElem?_append_right (by omega), ← hl]
      exact hv
theorem St.rest {w : World} {p : Nat} {s : S8} {n : Int} {r : Value} (h : Arr w p (stL s n r)) : w.cell? ⟨p, 10, none⟩ = some r := h.cell rfl
theorem St.num {w : World} {p : Nat} {s : S8} {n : Int} {r : Value} (h : Arr w p (stL s n r)) : w.cell? ⟨p, 9, none⟩ = some (.int .i64 n) := h.cell rfl
theorem St.made {w : World} {p : Nat} {s : S8} {n : Int} {r : Value} (h : Arr w p (stL s n r)) : w.cell? ⟨p, 0, none⟩ = some (.bool true) := h.cell rfl
theorem St.setRest {w : World} {p : Nat} {s : S8} {n : Int} {r : Value} (h : Arr w p (stL s n r)) (r' : Value) : Arr (w.setCell ⟨p, 10, none⟩ r') p (stL s n r') := h.set 10 r'
theorem St.setNum {w : World} {p : Nat} {s : S8} {n : Int} {r : Value} (h : Arr w p (stL s n r)) (n' : Int) : Arr (w.setCell ⟨p, 9, none⟩ (.int .i64 n')) p (stL s n' r) := h.set 9 _
theorem St.load {w : World} {p : Nat} {s : S8} {n : Int} {r : Value} (h : Arr w p (stL s n r)) : (Instr.loadAt 115 (.pointer (some ⟨p, 1, none⟩))).run Tryd.prog w = .ok (.agg (u32s s.l).toArray) w :=
  run_loadAt_mid w p 1 115 (u32s s.l) _ (Arr.mid (a := [.bool true]) h).1 Tryd.underlying115 rfl info_8w
theorem St.store {w : World} {p : Nat} {s : S8} {n : Int} {r : Value} (h : Arr w p (stL s n r)) (s' : S8) : (Instr.storeAt 115 (.pointer (some ⟨p, 1, none⟩)) (.agg (u32s s'.l).toArray)).run Tryd.prog w = .ok () (w.setCells p 1 (u32s s'.l)) :=
  run_storeAt_mid w p 1 115 (u32s s'.l).toArray (Arr.mid (a := [.bool true]) h).2 info_8w (all_oneCell_toArray (u32s_one _))
theorem St.setH {w : World} {p : Nat} {s : S8} {n : Int} {r : Value} (h : Arr w p (stL s n r)) (s' : S8) : Arr (w.setCells p 1 (u32s s'.l)) p (stL s' n r) := Arr.putMid (a := [.bool true]) h (u32s s'.l) rfl
/-- Bytes as an array's pointer, and the array there. -/
theorem block_of_bs {w : World} {A : Option Addr} {len c : Nat} {l : List UInt8} (h : Bs w (.slice A len c) l) (hl : 64 ≤ l.length) : ∃ g o, A = some ⟨g, o, none⟩ ∧ (Instr.loadAt 127 (.pointer (some ⟨g, o, none⟩))).run Tryd.prog w = .ok (.agg (u8s (l.take 64)).toArray) w := by
  obtain ⟨g, o, e, hr⟩ := h.cells 64 (by omega) hl
  exact ⟨g, o, e, run_loadAt_mid w g o 127 (u8s (l.take 64)) _ hr Tryd.underlying127 rfl (by rw [u8s_length, List.length_take, Nat.min_eq_left hl]; exact info_64b)⟩
theorem wpQuiet_ld {P : Program} {C : World → Prop} {ops : Array Oper} {Q : Act → Prop} {o : Oper} {rest : List Oper} {a : Act} (hg : o.guard = none) (ty : TypeId) (x : Operand) (ho : o.op = .load ty x) (p v : Value) (hx : a.eval x = p) (hr : ∀ w, C w → (Instr.loadAt ty p).run P w = .ok v w) (h : wpQuiet P ops C Q rest (a.put o.dst v)) : wpQuiet P ops C Q (o :: rest) a :=
  wpQuiet_step fun K hK => by
    rw [if_pos (by simp [Region.wanted, hg])]
    refine ⟨v, fun w hw => ?_, hK _ h⟩
    unfold Oper.quietAt
    rw [run_op_ld ty x ho p v hx w (hr w hw)]
    exact ⟨rfl, rfl⟩
theorem addr_block (a : Addr) (j : Nat) : (a.add j).block = a.block := by unfold Addr.add; split <;> rfl
theorem grown_setCells (b : Nat) : ∀ (vs : List Value) (o : Nat) (w : World), w.grownBy (w.setCells b o vs) (some b)
  | [], _, w => grown_refl w _
  | v :: r, o, w => by
    rw [World.setCells]
    exact grown_trans (grown_setCell w b o v) (grown_setCells b r (o + 1) _)
theorem Bs.off {w : World} {v : Value} {l : List UInt8} (h : Bs w v l) (b o : Nat) (vs : List Value) (hne : ∀ ad n c, v = .slice (some ad) n c → ad.block ≠ b) : Bs (w.setCells b o vs) v l := by
  obtain ⟨A, c, rfl, h1, h2, h3, h4⟩ := h
  refine ⟨A, c, rfl, h1, h2, h3, fun j u hu => ?_⟩
  obtain ⟨ad, rfl, hc⟩ := h4 j u hu
  refine ⟨ad, rfl, ?_⟩
  rw [World.cell?_setCells_out b vs o w (ad.add j) (fun hb _ => absurd (by rw [← addr_block ad j]; exact hb) (hne ad _ _ rfl))]
  exact hc
theorem LaidH.belowB {B : Nat} {w w1 : World} (h : LaidH w) (hg : 2 < B) (hb : Below B w w1) : LaidH w1 := ⟨fun i hi => (hb.cell (p := ⟨2, i, none⟩) hg).trans (h.tab i hi)⟩
theorem OwnB.off {w : World} {B : Nat} {v : Value} {l : List UInt8} (h : OwnB w B v l) (b o : Nat) (vs : List Value) (hne : v.ownBlock ≠ some b) (hb : b < w.heap.size) : OwnB (w.setCells b o vs) B v l := by
  refine h.kept (row := some b) ?_ (by
    cases hq : v.ownBlock with
    | none => exact .inl rfl
    | some k => exact .inr (fun e => hne (by rw [hq, e])))
  exact grown_setCells b vs o w
set_option maxHeartbeats 4000000 in
/-- Where no rest lies. -/
theorem take_none (p : Nat) (s : S8) (n : Int) (v : Value) (l : List UInt8) (W : World) (hT : LaidH W) (B : Nat) (hB : B ≤ p) (hBs : B ≤ W.heap.size) (vr : Value) (hst : Arr W p (stL s n vr)) (hvr : OwnB W B vr []) (hrp : vr.ownBlock ≠ some p) (hv : Bs W v l) (hne : ∀ ad n c, v = .slice (some ad) n c → ad.block ≠ p ∧ vr.ownBlock ≠ some ad.block) (hl : l.length ≤ 140737490000000) (hg : 2 < B) :
    Calls Tryd.prog 77 #[.pointer (some ⟨p, 0, none⟩), v] W fun e w' => ∃ vr', e = .returned (.tuple #[]) ∧ Arr w' p (stL (overN s l (l.length / 64)) n vr') ∧ OwnB w' B vr' (l.drop (64 * (l.length / 64))) ∧ vr'.ownBlock ≠ some p ∧ Below B W w' := by
  obtain ⟨A, c, rfl, h1, h2, h3⟩ := hv.form
  obtain ⟨Ar, cr, rfl, h4, h5, h6⟩ := hvr.form_n 0 rfl
  have hr0 := St.rest hst
  have H0 := Lib.hid (And.intro hst (And.intro hvr (And.intro hv (And.intro hne (Below.refl B W)))))
  have HT := Lib.hid hT
  have HRP := Lib.hid hrp
  clear hst hvr hv hne hT hrp
  go_enter Tryd.func77, Tryd.ntmps77
  go_wp2
  go_loopw [1] (fun r wr => ∃ (k : Nat) (v : Value), 64 * k ≤ l.length ∧ v = r ∧ Hid (Arr wr p (stL (overN s l k) n (.slice Ar 0 cr)) ∧ OwnB wr B (.slice Ar 0 cr) [] ∧ Bs wr v (l.drop (64 * k)) ∧ (∀ ad n c, v = .slice (some ad) n c → ad.block ≠ p ∧ (Value.slice Ar 0 cr).ownBlock ≠ some ad.block) ∧ Below B W wr)) (fun v _ => lenSl v)
  case atStart => exact ⟨0, _, by omega, rfl, by rw [overN_zero]; exact H0⟩
  case round =>
    obtain ⟨k, v, hk, rfl, HB⟩ := hrel
    clear H0 hr0
    obtain ⟨m, hm⟩ : ∃ m, l.drop (64 * k) = m := ⟨_, rfl⟩
    have HM := Lib.hid (show m.take 64 = blkAt l k ∧ m.drop 64 = l.drop (64 * (k + 1)) by subst hm; exact ⟨rfl, by rw [List.drop_drop]; congr 1⟩)
    have hml : m.length = l.length - 64 * k := by rw [← hm]; simp
    have HMM := Lib.hid hm
    rw [hm] at HB
    clear hm
    obtain ⟨q, hq⟩ : ∃ q, m.length = q := ⟨_, rfl⟩
    obtain ⟨A1, c1, rfl, h7, h8, h9⟩ := HB.out.2.2.1.form_n q hq
    have HN := Lib.hid (And.intro hq (hq.symm.trans hml))
    clear hq hml
    by_cases hlt : 64 ≤ q
    · have hml : 64 ≤ m.length := by have := HN.out.1; omega
      obtain ⟨g, o, rfl, hld⟩ := block_of_bs HB.out.2.2.1 hml
      rw [HM.out.1] at hld
      have hb64 : (blkAt l k).length = 64 := by rw [← HM.out.1]; simp; omega
      have HCE := Lib.hid (overN_succ s l k)
      obtain ⟨b, hb⟩ : ∃ b, blkAt l k = b := ⟨_, rfl⟩
      rw [hb] at hld hb64 HCE HM
      clear hb
      obtain ⟨s1, hs1⟩ : ∃ s1, overN s l k = s1 := ⟨_, rfl⟩
      rw [hs1] at HB HCE
      clear hs1
      have LA := Lib.hid (fun w' (hq : ∃ n, w' = wr.drewN n) => (show (Instr.loadAt 115 (.pointer (some ⟨p, 1, none⟩))).run Tryd.prog w' = .ok (.agg (u32s s1.l).toArray) w' by obtain ⟨n, rfl⟩ := hq; exact St.load (HB.out.1.below (below_drewN (Below.refl _ _) n))))
      have LB := Lib.hid (fun w' (hq : ∃ n, w' = wr.drewN n) => (show (Instr.loadAt 127 (.pointer (some ⟨g, o, none⟩))).run Tryd.prog w' = .ok (.agg (u8s b).toArray) w' by
        obtain ⟨n, rfl⟩ := hq
        obtain ⟨g', o', e, h⟩ := block_of_bs (HB.out.2.2.1.below (below_drewN (Below.refl _ _) n)) hml
        cases e
        rw [HM.out.1] at h
        exact h))
      clear hld
      go_wp2
      have hat : ∀ W : World, (Instr.arrayAt 127 (.slice (some ⟨g, o, none⟩) q c1)).run Tryd.prog W = .ok (.pointer (some ⟨g, o, none⟩)) W := fun W => run_arrayAt (P := Tryd.prog) W 127 5 64 _ q c1 Tryd.underlying127 hlt
      refine wp_region_noPanic ?_
      refine wp_region_quiet_from (C := fun w' => ∃ n, w' = wr.drewN n) 1 8 (by kernel_rfl) (by kernel_rfl) (fun _ _ _ _ h => h) ⟨1, rfl⟩ ?_
      simp only [List.take_succ_cons, List.take_zero, List.drop_succ_cons, List.drop_zero, show List.range 1 = [0] from rfl, opsL, List.getElem?_cons_zero, Option.toList_some, List.singleton_append]
      refine ⟨.pointer (some ⟨p, 0, none⟩), .inl ⟨rfl, fun w' _ => by go_simp⟩, ?_⟩
      simp only [wpTk, Act.put, List.setIfInBounds_toArray, List.set_cons_zero, List.set_cons_succ]
      go_big_quiet_step (fail)
      go_big_quiet_step (fail)
      go_big_quiet_step (fail)
      refine wpQuiet_ld rfl _ _ rfl _ _ rfl LA.out ?_
      simp only [Act.put, List.setIfInBounds_toArray, List.set_cons_zero, List.set_cons_succ]
      go_big_quiet_step (fail)
      go_big_quiet_step (fail)
      refine wpQuiet_ld rfl _ _ rfl _ _ rfl LB.out ?_
      simp only [Act.put, List.setIfInBounds_toArray, List.set_cons_zero, List.set_cons_succ]
      refine wpQuiet_nil ?_
      intro _ hw'; obtain ⟨nq, hw''⟩ := hw'; subst hw''
      have hbq : Below wr.heap.size wr (wr.drewN nq) := below_drewN (Below.refl _ _) nq
      have KC := Lib.hid (compress_calls s1 b hb64 (wr.drewN nq) (HT.out.belowB hg (HB.out.2.2.2.2.trans (hbq.mono (by have := HB.out.2.2.2.2.size; omega)))))
      have HX := Lib.hid (And.intro (HB.out.1.below hbq) (And.intro (HB.out.2.1.below hbq) (And.intro (HB.out.2.2.1.below hbq) (HB.out.2.2.2.2.trans (hbq.mono (by have := HB.out.2.2.2.2.size; omega))))))
      clear hbq LA LB
      generalize wr.drewN nq = w1 at *
      go_wp2_with (first
        | (go_at_call 84; refine KC.out.mono ?_; rintro e w2 ⟨rfl, hB2⟩; have HY := Lib.hid (And.intro (HX.out.1.below hB2) (And.intro (HX.out.2.1.below hB2) (And.intro (HX.out.2.2.1.below hB2) (HX.out.2.2.2.trans (hB2.mono (by have := HX.out.2.2.2.size; omega)))))); clear hB2; have HST := Lib.hid (St.store HY.out.1 (compress s1 b)))
        | (refine wpList_store_run rfl 115 _ _ rfl _ _ rfl rfl _ HST.out ?_; simp only [Act.put]))
      have hgp := HB.out.2.2.2.1 ⟨g, o, none⟩ q c1 rfl
      simp only [NoPanic]
      go_wp2
      go_roundw
      case rel => exact ⟨k + 1, _, by have := HN.out.2; omega, rfl, Lib.hid ⟨by rw [HCE.out]; exact St.setH HY.out.1 _, HY.out.2.1.off p 1 _ HRP.out (HY.out.1.lt (by rw [stL_length]; omega)), by rw [← HM.out.2]; exact (HY.out.2.2.1.tailV 64 hml).off p 1 _ (fun ad n' c' e => by
        have hb : ad.block = g := by split at e <;> (cases e; rfl)
        rw [hb]; exact hgp.1), fun ad n' c' e => by
        have hb : ad.block = g := by split at e <;> (cases e; rfl)
        rw [hb]; exact hgp, below_setCells HY.out.2.2.2 p 1 hB _⟩⟩
      case measure => simp [lenSl]; have := HN.out.2; omega
    · have hr0 := St.rest HB.out.1
      have hfr := HB.out.1.frozen (i := 10) (by rw [stL_length]; omega)
      have HK2 := Lib.hid (show l.length / 64 = k by have := HN.out.2; omega)
      have tok1 : True := trivial
      have hplt : p < wr.heap.size := HB.out.1.lt (by rw [stL_length]; omega)
      have hq64 : q ≤ 140737490000000 := by have := HN.out.2; omega
      go_wp2_with (first
        | (at_builtin; have _t := tok1; (refine app_u8 rfl _ _ rfl B _ rfl [] HB.out.2.1 _ rfl m HB.out.2.2.1 ?_ ?_ ?_); (· have := HN.out.1; simp; omega); (· have := HB.out.2.2.2.2.size; omega); clear tok1; intro v4 w4 ho4 hg4 hw4; have HA4 := Lib.hid (HB.out.1.grown (by rw [stL_length]; omega) hg4 HRP.out); have hc4 := St.rest HA4.out; have hf4 := HA4.out.frozen (i := 10) (by rw [stL_length]; omega); have HO4 := Lib.hid (And.intro ho4 (And.intro (below_grown HB.out.2.2.2.2 hg4 HB.out.2.1 (by have := HB.out.2.2.2.2.size; omega)) hw4)); obtain ⟨A4, c4, e4, _, _, _⟩ := ho4.form_n q (by have := HN.out.1; simp; omega); subst e4; clear ho4 hg4 hw4))
      have HO5 := Lib.hid (show OwnB (w4.setCell ⟨p, 10, none⟩ (.slice A4 q c4)) B (.slice A4 q c4) m ∧ Below B W (w4.setCell ⟨p, 10, none⟩ (.slice A4 q c4)) by
        refine ⟨?_, HO4.out.2.1.setCell (p := ⟨p, 10, none⟩) hB _⟩
        have ho := HO4.out.1
        rw [List.nil_append] at ho
        refine ho.kept (grown_setCell _ _ _ _) ?_
        rcases HO4.out.2.2 with e | e
        · cases hq' : (Value.slice A4 q c4).ownBlock with
          | none => exact .inl rfl
          | some kk => exact .inr (fun e2 => HRP.out (by rw [← e2, ← hq', e]; rfl))
        · exact .inr (by rw [e]; intro e2; have := Option.some.inj e2; omega))
      refine bodyPost_end (results_none rfl _ _ _) rfl ?_
      refine ⟨_, rfl, by rw [HK2.out]; exact St.setRest HA4.out _, by rw [HK2.out, HMM.out]; exact HO5.out.1, by
        rcases HO4.out.2.2 with e | e
        · rw [e]; exact HRP.out
        · rw [e]; intro e2; have := Option.some.inj e2; omega, HO5.out.2⟩
end Go.Proofs.YthgjecofmnomfaaDoor
