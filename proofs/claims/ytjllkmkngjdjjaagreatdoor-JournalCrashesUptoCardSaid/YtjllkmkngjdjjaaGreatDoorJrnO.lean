/- slices.Sort of a row of ints of one's own. No statement of the seed is proved here. PLAIN MATHEMATICS of frames one behind the other. No program in sight but 'frRead' (what is read at a place). No statement of the seed is proved here. THE ITERATOR frame.All: its contract. No statement of the seed is proved here. WHAT journal.Open's WALK NEEDS: two cells that rounds change, a journal that grows round by round. No statement of the seed is proved here. -/
import Derived.Test.YtjllkmkngjdjjaaGreatDoorJrnG
import Derived.Lib.OwnBridge
import Derived.Lib.SlKeysI
import Derived.Test.YtjllkmkngjdjjaaGreatDoorFrameP
import Derived.Test.YtjllkmkngjdjjaaGreatDoorPair
import Derived.Test.YtjllkmkngjdjjaaGreatDoorDsB
import Derived.Great.BuildSlice
namespace Go.Proofs.YtjllkmkngjdjjaaGreatDoor
open Go.RowKit Go.Shelf
set_option maxRecDepth 100000
def sortZ (zs : List Int) : List Int := zs.mergeSort fun x y => decide (x ≤ y)
def zsL (zs : List Int) : List Value := zs.map (Value.int .i64)
theorem isort_calls {v : Value} {zs : List Int} {n B : Nat} {w : World} (h : w.ownsRow B 3 1 v n (zsL zs)) (hn : 1 ≤ n) (hsz : n < 4611686018427387904) :
    Calls Tryz.prog 103 #[v] w fun e w' => e = .returned (.tuple #[]) ∧ w'.ownsRow B 3 1 v n (zsL (sortZ zs)) ∧ w.grownBy w' v.ownBlock := by
  have hv : v ≠ .slice none 0 0 := fun e => by
    subst e
    obtain ⟨A, c, e, -⟩ := owns_form h
    injection e with _ e2 _
    omega
  obtain ⟨g, cap, rfl, hb, hlt, hnc, hcap, hl, hH⟩ := Lib.holds_of_ownsRow h hv
  have K := AnyM.slices_Sort_int Tryz.sortI g 0 cap zs w hH hlt (by omega)
  rw [hl] at K
  refine K.mono ?_
  rintro e w' ⟨rfl, q, os, rfl⟩
  refine ⟨rfl, ?_, ⟨rfl, rfl, rfl, by simp, fun k hk hne => ?_⟩⟩
  rotate_left
  · rw [Sort.heap_grow_old _ _ (by simpa using hk)]
    have : g ≠ k := fun e => hne (by rw [← e]; rfl)
    simp [Sort.putRow, Sort.mapBlock, Sort.ahead, Array.getElem?_modify, this]
  have hr := Lib.ownsRow_putRow (q := q) (k := n) (ys := sortZ zs) h (by unfold sortZ; rw [List.length_mergeSort, hl]) (Nat.le_refl _)
  rw [List.take_of_length_le (by unfold sortZ; rw [List.length_mergeSort, hl]; exact Nat.le_refl _)] at hr
  refine mods_owns hr fun k hk => ?_
  exact Sort.heap_grow_old _ _ (owns_lt hr k hk)
end Go.Proofs.YtjllkmkngjdjjaaGreatDoor
namespace Go.Proofs.YtjllkmkngjdjjaaGreatDoor

theorem frRead_ok {l m : List UInt8} {at_ : Nat} {q : Int} (h : frRead l (at_ : Int) = (m, q, 0)) :
    at_ + 8 + m.length ≤ l.length ∧ q = ((at_ + 8 + m.length : Nat) : Int) ∧ m = (l.drop (at_ + 8)).take m.length ∧ m.length = beNat ((l.drop at_).take 4) ∧ m.length ≤ 1048576 ∧
      beNat ((l.drop (at_ + 4)).take 4) = ext (ext 0 ((l.drop at_).take 4)) m := by
  unfold frRead at h
  by_cases c1 : (at_ : Int) < 0 ∨ (l.length : Int) < at_
  · rw [if_pos c1] at h; simp at h
  rw [if_neg c1] at h
  by_cases c2 : (l.length : Int) - at_ < 8
  · rw [if_pos c2] at h; simp at h
  rw [if_neg c2] at h
  rw [show (at_ : Int).toNat = at_ from rfl] at h
  by_cases c3 : 1048576 < beNat ((l.drop at_).take 4)
  · rw [if_pos c3] at h; simp at h
  rw [if_neg c3] at h
  by_cases c4 : (l.length : Int) - at_ - 8 < beNat ((l.drop at_).take 4)
  · rw [if_pos c4] at h; simp at h
  rw [if_neg c4] at h
  by_cases c5 : beNat ((l.drop (at_ + 4)).take 4) ≠ ext (ext 0 ((l.drop at_).take 4)) ((l.drop (at_ + 8)).take (beNat ((l.drop at_).take 4)))
  · rw [if_pos c5] at h; simp at h
  rw [if_neg c5] at h
  simp only [Prod.mk.injEq, and_true] at h
  obtain ⟨h1, h2⟩ := h
  have hm : m.length = beNat ((l.drop at_).take 4) := by rw [← h1, List.length_take, List.length_drop]; omega
  refine ⟨by omega, by omega, by rw [hm]; exact h1.symm, hm, by omega, ?_⟩
  rw [← h1]
  exact Decidable.not_not.1 c5

/-- The frames from a place on, each with the place behind it. -/
def frAll : Nat → List UInt8 → Nat → List (Nat × List UInt8)
  | 0, _, _ => []
  | k + 1, l, at_ => if at_ < l.length ∧ (frRead l at_).2.2 = 0 then ((frRead l at_).2.1.toNat, (frRead l at_).1) :: frAll k l (frRead l at_).2.1.toNat else []
theorem frAll_more (l : List UInt8) : ∀ (k at_ : Nat), l.length ≤ at_ + k → frAll (k + 1) l at_ = frAll k l at_ := by
  intro k
  induction k with
  | zero =>
    intro at_ h
    simp only [frAll]
    rw [if_neg (by omega)]
  | succ k ih =>
    intro at_ h
    conv => lhs; unfold frAll
    conv => rhs; unfold frAll
    by_cases c : at_ < l.length ∧ (frRead l at_).2.2 = 0
    · rw [if_pos c, if_pos c]
      obtain ⟨m, q, x, hr⟩ : ∃ m q x, frRead l (at_ : Int) = (m, q, x) := ⟨_, _, _, rfl⟩
      have hx : x = 0 := by have := c.2; rw [hr] at this; exact this
      subst hx
      obtain ⟨a1, a2, _⟩ := frRead_ok hr
      rw [hr]
      simp only
      rw [ih]
      rw [a2]
      simp
      omega
    · rw [if_neg c, if_neg c]
def allF (l : List UInt8) (at_ : Nat) : List (Nat × List UInt8) := frAll l.length l at_
theorem allF_ok {l m : List UInt8} {at_ : Nat} {q : Int} (h : frRead l (at_ : Int) = (m, q, 0)) : allF l at_ = (q.toNat, m) :: allF l q.toNat := by
  obtain ⟨a1, a2, _⟩ := frRead_ok h
  unfold allF
  rw [← frAll_more l l.length at_ (by omega)]
  conv => lhs; unfold frAll
  rw [if_pos ⟨by omega, by rw [h]⟩, h]
theorem allF_bad {l : List UInt8} {at_ : Nat} (h : ¬ (at_ < l.length ∧ (frRead l at_).2.2 = 0)) : allF l at_ = [] := by
  unfold allF
  rw [← frAll_more l l.length at_ (by omega)]
  conv => lhs; unfold frAll
  rw [if_neg h]
/-- Where the frames end that are whole. -/
def endF (at_ : Nat) (xs : List (Nat × List UInt8)) : Nat := match xs.getLast? with | some x => x.1 | none => at_
theorem endF_nil (at_ : Nat) : endF at_ [] = at_ := rfl
theorem endF_snoc (at_ : Nat) (xs : List (Nat × List UInt8)) (x : Nat × List UInt8) : endF at_ (xs ++ [x]) = x.1 := by simp [endF]
/-- What is told from the place behind a beginning of it. -/
theorem allF_pre (l : List UInt8) : ∀ (pre rest : List (Nat × List UInt8)) (at_ : Nat), allF l at_ = pre ++ rest → rest = allF l (endF at_ pre) := by
  intro pre
  refine snoc_ind (P := fun pre => ∀ (rest : List (Nat × List UInt8)) (at_ : Nat), allF l at_ = pre ++ rest → rest = allF l (endF at_ pre)) ?_ ?_ pre
  · intro rest at_ h; rw [List.nil_append] at h; exact h.symm
  · intro pre x ih rest at_ h
    rw [List.append_assoc] at h
    have h1 := ih ([x] ++ rest) at_ h
    rw [endF_snoc]
    obtain ⟨m, q, y, hr⟩ : ∃ m q y, frRead l ((endF at_ pre : Nat) : Int) = (m, q, y) := ⟨_, _, _, rfl⟩
    by_cases hy : y = 0
    · subst hy
      rw [allF_ok hr] at h1
      simp only [List.cons_append, List.nil_append, List.cons.injEq] at h1
      rw [h1.1]
      exact h1.2
    · rw [allF_bad (fun c => hy (by have := c.2; rw [hr] at this; exact this))] at h1
      simp at h1
theorem endF_le (l : List UInt8) (pre rest : List (Nat × List UInt8)) (h : allF l 0 = pre ++ rest) : endF 0 pre ≤ l.length := by
  rcases List.eq_nil_or_concat pre with e | ⟨p, x, e⟩
  · subst e; simp [endF]
  · rw [List.concat_eq_append] at e
    subst e
    rw [endF_snoc]
    rw [List.append_assoc] at h
    have h1 := allF_pre l p ([x] ++ rest) 0 h
    obtain ⟨m, q, y, hr⟩ : ∃ m q y, frRead l ((endF 0 p : Nat) : Int) = (m, q, y) := ⟨_, _, _, rfl⟩
    by_cases hy : y = 0
    · subst hy
      rw [allF_ok hr] at h1
      simp only [List.cons_append, List.nil_append, List.cons.injEq] at h1
      obtain ⟨a1, a2, _⟩ := frRead_ok hr
      rw [h1.1]
      simp only
      omega
    · rw [allF_bad (fun c => hy (by have := c.2; rw [hr] at this; exact this))] at h1
      simp at h1
end Go.Proofs.YtjllkmkngjdjjaaGreatDoor
namespace Go.Proofs.YtjllkmkngjdjjaaGreatDoor
open Go.RowKit Go.Shelf
attribute [local go_sem] Oper.semAt_some
set_option maxRecDepth 100000

/-- A round is handed the place behind a frame and its data, in new memory. -/
def HandF (x : Nat × List UInt8) (args : Array Value) (W0 W1 : World) : Prop := ∃ v, args = #[.int .i64 (x.1 : Int), v] ∧ OwnB W1 W0.heap.size v x.2
/-- What the iterator reads. -/
def ReadF (bx : Nat) (v : Value) (l : List UInt8) (W : World) : Prop := W.cell? ⟨bx, 0, none⟩ = some v ∧ Bs W v l ∧ LaidF W

set_option maxHeartbeats 2000000 in
theorem all_iter (n : Nat) (h1 : 1 ≤ n) (bx : Nat) (v : Value) (l : List UInt8) (hl : l.length ≤ 150000000000000) :
    Iter Fence.wide n Tryz.prog 156 #[.pointer (some ⟨bx, 0, none⟩)] (allF l 0) HandF (ReadF bx v l) := by
  intro lp J Jx W hJR hJ0 hY
  refine callsIn_of_wp Tryz.func156 rfl trivial ?_ rfl
  simp only [Tryz.ntmps156, List.size_toArray, List.length_cons, List.length_nil, Nat.reduceAdd, Nat.reduceSub, Array.replicate_succ, Array.replicate_zero, List.push_toArray, List.append_toArray, List.nil_append, List.cons_append]
  have hR0 := (hJR [] W hJ0).2.1
  obtain ⟨A, c, rfl, hlc, hc, hn⟩ := hR0.form
  clear hR0
  gi_wp2
  gi_loopw [3, 4, 5, 6] (fun p _ _ _ wr => ∃ (pre rest : List (Nat × List UInt8)) (W0 : World), p = .int .i64 (endF 0 pre : Nat) ∧ allF l 0 = pre ++ rest ∧ J pre W0 ∧ Below W0.heap.size W0 wr) (fun p _ _ _ _ => l.length - (intOf p).toNat)
  case atStart => exact ⟨[], allF l 0, W, rfl, rfl, hJ0, Below.refl _ _⟩
  case round =>
    obtain ⟨pre, rest, W0, rfl, hx, hJ, hb⟩ := hrel
    obtain ⟨r1, r2, r3⟩ := hJR pre W0 hJ
    have hcell := (hb.cell (World.block_lt_of_cell? W0 _ r1)).trans r1
    have hbs := r2.below hb
    have hT := r3.below hb
    clear r1 r2 r3
    have hrest := allF_pre l pre rest 0 hx
    have hle := endF_le l pre rest hx
    have HE : Hid (∀ x : Nat × List UInt8, endF 0 (pre ++ [x]) = x.1) := endF_snoc 0 pre
    have HX := Lib.hid hx; clear hx
    generalize endF 0 pre = q at hrest hle
    by_cases hlt : q < l.length
    · obtain ⟨m, nx, y, hfr⟩ : ∃ m nx y, frRead l (q : Int) = (m, nx, y) := ⟨_, _, _, rfl⟩
      have KR := Lib.hid (read_callsR hfr (.slice A l.length c) wr hT hbs hl)
      by_cases hy : y = 0
      · subst hy
        obtain ⟨a1, a2, _⟩ := frRead_ok hfr
        rw [allF_ok hfr] at hrest
        clear hfr hbs hT
        subst a2
        rw [Int.toNat_natCast] at hrest
        have HR := Lib.hid hrest; clear hrest
        generalize hnq : q + 8 + m.length = nq at *
        have HT := Lib.hid hnq; clear hnq
        gi_wp2_with (first
          | (refine ⟨trivial, ?_⟩; gi_at_call 157; refine (callsIn_wide.2 KR.out).mono ?_; rintro e w1 ⟨v1, rfl, ho1, hB1⟩; have hbb : Below W0.heap.size W0 w1 := below_then hb hB1; obtain ⟨fn, tmps, assign, body, hy, hR⟩ := hY pre (nq, m) (allF l nq) #[.int .i64 (nq : Int), v1] W0 w1 (by rw [HX.out, HR.out]) hJ hbb ⟨v1, rfl, ho1.lower hb.size⟩))
        refine hR.mono ?_
        rintro e W3 (⟨rfl, hJ3⟩ | ⟨rfl, hJx3⟩)
        · gi_wp2
          go_roundw
          case rel => exact ⟨pre ++ [(nq, m)], allF l nq, W3, by rw [HE.out], by rw [HX.out, HR.out]; simp, hJ3, Below.refl _ _⟩
          case measure => have := HT.out; simp [intOf]; omega
        · gi_wp2
          refine bodyPost_ret (results_none rfl _ _ _) rfl ?_
          exact ⟨⟨_, rfl⟩, W3, Below.refl _ _, .inr ⟨_, hJx3⟩⟩
      · rw [allF_bad (fun c => hy (by have := c.2; rw [hfr] at this; exact this))] at hrest
        have HR := Lib.hid hrest; clear hrest
        have hy1 : (y != 0) = true := by simpa using hy
        have hy2 : (y == 0) = false := by simpa using hy
        clear hfr hbs hT hy
        gi_wp2_with (first
          | (refine ⟨trivial, ?_⟩; gi_at_call 157; refine (callsIn_wide.2 KR.out).mono ?_; rintro e w1 ⟨v1, rfl, ho1, hB1⟩; have hbb : Below W0.heap.size W0 w1 := below_then hb hB1))
        refine ⟨fun _ h => (by cases h), ?_⟩
        gi_wp2
        refine bodyPost_ret (results_none rfl _ _ _) rfl ?_
        exact ⟨⟨_, rfl⟩, W0, hbb, .inl (by rw [HX.out, HR.out]; simpa using hJ)⟩
    · rw [allF_bad (fun c => hlt c.1)] at hrest
      have HR := Lib.hid hrest; clear hrest
      clear hbs hT
      gi_wp2
      go_end0
      exact ⟨⟨_, rfl⟩, W0, hb, .inl (by rw [HX.out, HR.out]; simpa using hJ)⟩

theorem allv_calls (v : Value) (w : World) (A : Option Addr) (n c : Nat) (hv : v = .slice A n c) :
    Calls Tryz.prog 104 #[v] w fun e w' => e = .returned (.func (.func 156) #[] #[.pointer (some ⟨w.heap.size, 0, none⟩)]) ∧ w' = w.alloc (.cells #[v] 35) := by
  subst hv
  go_enter Tryz.func104, Tryz.ntmps104
  go_wp2
  go_ret
  exact ⟨rfl, rfl⟩

/-- The error at a place: none at the end. -/
def errAt (l : List UInt8) (at_ : Nat) : Int := if at_ = l.length then 0 else (frRead l at_).2.2
theorem errAt_end {l : List UInt8} : errAt l l.length = 0 := by simp [errAt]

end Go.Proofs.YtjllkmkngjdjjaaGreatDoor
namespace Go.Proofs.YtjllkmkngjdjjaaGreatDoor
open Go.RowKit Go.Shelf
set_option maxRecDepth 100000
/-- All but two blocks is as it was. -/
structure Near2 (p q : Nat) (w w' : World) : Prop where
  os : w'.os = w.os
  tape : w'.tape = w.tape
  output : w'.output = w.output
  size : w.heap.size ≤ w'.heap.size
  block : ∀ k, k < w.heap.size → k ≠ p → k ≠ q → w'.heap[k]? = w.heap[k]?
theorem Near2.of_below {p q : Nat} {w w' : World} (h : Below w.heap.size w w') : Near2 p q w w' := ⟨h.os, h.tape, h.output, h.size, fun k hk _ _ => h.block k hk⟩
theorem Near2.then_below {p q : Nat} {w w1 w2 : World} (h : Near2 p q w w1) (k : Below w1.heap.size w1 w2) : Near2 p q w w2 :=
  ⟨k.os.trans h.os, k.tape.trans h.tape, k.output.trans h.output, Nat.le_trans h.size k.size, fun i hi hp hq => (k.block i (Nat.lt_of_lt_of_le hi h.size)).trans (h.block i hi hp hq)⟩
theorem Near2.setp {p q : Nat} {w w1 : World} (h : Near2 p q w w1) (o : Nat) (v : Value) : Near2 p q w (w1.setCell ⟨p, o, none⟩ v) :=
  ⟨h.os, h.tape, h.output, by simpa [World.setCell] using h.size, fun i hi hp hq => (Below.heap_setCell _ _ _ _ hp).trans (h.block i hi hp hq)⟩
theorem Near2.setq {p q : Nat} {w w1 : World} (h : Near2 p q w w1) (o : Nat) (v : Value) : Near2 p q w (w1.setCell ⟨q, o, none⟩ v) :=
  ⟨h.os, h.tape, h.output, by simpa [World.setCell] using h.size, fun i hi hp hq => (Below.heap_setCell _ _ _ _ hq).trans (h.block i hi hp hq)⟩
theorem Near2.turn {p q : Nat} {w V V' : World} {row : Option Nat} (h : Near2 p q w V) (hg : V.grownBy V' row) (hr : ∀ r, row = some r → w.heap.size ≤ r) : Near2 p q w V' :=
  ⟨hg.os.trans h.os, hg.tape.trans h.tape, hg.output.trans h.output, Nat.le_trans h.size hg.size, fun k hk hkp hkq => (hg.block k (Nat.lt_of_lt_of_le hk h.size) (fun e => by have := hr k e.symm; omega)).trans (h.block k hk hkp hkq)⟩
theorem Near2.cell {p q : Nat} {w V : World} (h : Near2 p q w V) {a : Addr} {v : Value} (hc : w.cell? a = some v) (hp : a.block ≠ p) (hq : a.block ≠ q) : V.cell? a = some v := (cell_mods (h.block _ (World.block_lt_of_cell? w a hc) hp hq)).trans hc
theorem Near2.frozen {p q : Nat} {w V : World} (h : Near2 p q w V) {a : Addr} {v : Value} (hc : w.cell? a = some v) (hf : w.frozen? a = false) (hp : a.block ≠ p) (hq : a.block ≠ q) : V.frozen? a = false := (frozen_mods (h.block _ (World.block_lt_of_cell? w a hc) hp hq)).trans hf
theorem Near2.low {p q n : Nat} {w0 w V : World} (h : Near2 p q w V) (hb : Below n w0 w) (hp : n ≤ p) (hq : n ≤ q) (hn : n ≤ w.heap.size) : Below n w0 V :=
  ⟨h.os.trans hb.os, h.tape.trans hb.tape, h.output.trans hb.output, Nat.le_trans hb.size h.size, fun k hk => (h.block k (by omega) (by omega) (by omega)).trans (hb.block k hk)⟩
theorem JT.At.cells {j : JT} {pd g : Nat} {ls : List (List UInt8)} {w : World} {B : Nat} (h : j.At pd g ls w B) {k : Nat} (hk : j.Has k) : ∃ ob : Obj, w.heap[k]? = some ob ∧ ob.isCells = true := by
  rcases hk with rfl | hk | ⟨u, hu, hk⟩
  · exact cell_isCells h.c0
  · exact owns_isCells h.row hk
  · obtain ⟨m, -, ho, -⟩ := h.us hu
    exact owns_isCells ho hk
/-- What the rounds over the frames have made. -/
structure OpAt (pd g jp pe B : Nat) (ws : World) (pre : List (Nat × List UInt8)) (V : World) : Prop where
  j : ∃ j : JT, j.p = jp ∧ j.At pd g (pre.map (·.2)) V B ∧ ∀ k, j.Has k → k = jp ∨ ws.heap.size ≤ k
  e : V.cell? ⟨pe, 0, none⟩ = some (.int .i64 (endF 0 pre : Nat))
  ef : V.frozen? ⟨pe, 0, none⟩ = false
  near : Near2 jp pe ws V
theorem OpAt.below {pd g jp pe B : Nat} {ws : World} {pre : List (Nat × List UInt8)} {V V' : World} (h : OpAt pd g jp pe B ws pre V) (hb : Below V.heap.size V V') : OpAt pd g jp pe B ws pre V' := by
  obtain ⟨j, h1, h2, h3⟩ := h.j
  exact ⟨⟨j, h1, h2.below hb, h3⟩, cell_below hb h.e, frozen_below hb h.e h.ef, h.near.then_below hb⟩
theorem OpAt.turn {pd g jp pe B : Nat} {ws : World} {pre : List (Nat × List UInt8)} {V V' : World} {row : Option Nat} (h : OpAt pd g jp pe B ws pre V) (hg : V.grownBy V' row) (hr : ∀ r, row = some r → ws.heap.size ≤ r ∧ ∃ o : Obj, V.heap[r]? = some o ∧ o.isCells = false) : OpAt pd g jp pe B ws pre V' := by
  obtain ⟨j, h1, h2, h3⟩ := h.j
  refine ⟨⟨j, h1, h2.kept fun k hk => hg.block k (h2.lt hk) (fun e => ?_), h3⟩, turn_cell hg (fun r e => (hr r e).2) h.e, turn_frozen hg (fun r e => (hr r e).2) h.e h.ef, h.near.turn hg fun r e => (hr r e).1⟩
  obtain ⟨o, q1, q2⟩ := (hr k e.symm).2
  obtain ⟨ob, q3, q4⟩ := h2.cells hk
  rw [q1] at q3
  cases q3
  rw [q2] at q4
  cases q4
/-- A round. -/
theorem OpAt.add {pd g jp pe B : Nat} {ws : World} {pre : List (Nat × List UInt8)} {x : Nat × List UInt8} {V V' : World} {j : JT} (hp : j.p = jp) (hj : j.At pd g (pre.map (·.2)) V B) (hk : ∀ k, j.Has k → k = jp ∨ ws.heap.size ≤ k)
    (he : V.cell? ⟨pe, 0, none⟩ = some (.int .i64 (endF 0 pre : Nat))) (hf : V.frozen? ⟨pe, 0, none⟩ = false) (hn : Near2 jp pe ws V) (hpe : pe ≠ jp) (hpl : pe < ws.heap.size) (hBs : B ≤ ws.heap.size) {V0 : World} (hV0 : ws.heap.size ≤ V0.heap.size) {u vl' : Value} (hu : OwnB V V0.heap.size u x.2) (hun : ∀ k, u.ownBlock = some k → ¬ j.Has k)
    (ho : V'.ownsRow B 35 1 vl' (pre.length + 1) (j.us ++ [u])) (hg : (V.alloc (.cells #[u] 35)).grownBy V' j.vl.ownBlock) (hat : vl'.ownBlock = j.vl.ownBlock ∨ vl'.ownBlock = some (V.heap.size + 1)) {q : Int} (hq : q = (x.1 : Int)) :
    OpAt pd g jp pe B ws (pre ++ [x]) ((V'.setCell ⟨jp, 2, none⟩ vl').setCell ⟨pe, 0, none⟩ (.int .i64 q)) ∧ KeepsFrom ws.heap.size V ((V'.setCell ⟨jp, 2, none⟩ vl').setCell ⟨pe, 0, none⟩ (.int .i64 q)) := by
  subst hp
  have hvs := hn.size
  have hml : (pre.map (·.2)).length = pre.length := List.length_map _
  have hA := hj.add (m := x.2) (u := u) (vl' := vl') (w1 := V') (by omega) (hu.lower (by omega)) hun (by rw [hml]; exact ho) hg hat
  have hpeV : pe < V.heap.size := by omega
  have hpn : ¬ j.Has pe := fun h => by
    rcases hk pe h with e | e
    · exact hpe e
    · omega
  have hz : (V.alloc (.cells #[u] 35)).heap.size = V.heap.size + 1 := by simp
  have hV' : V'.heap[pe]? = V.heap[pe]? := (hg.block pe (by omega) (fun e => hpn (.inr (.inl e.symm)))).trans ((below_alloc1 V _).block pe hpeV)
  have hs1 : ∀ k, k ≠ j.p → (V'.setCell ⟨j.p, 2, none⟩ vl').heap[k]? = V'.heap[k]? := fun k h => Below.heap_setCell _ _ _ _ h
  have hs2 : ∀ k, k ≠ pe → ((V'.setCell ⟨j.p, 2, none⟩ vl').setCell ⟨pe, 0, none⟩ (.int .i64 q)).heap[k]? = (V'.setCell ⟨j.p, 2, none⟩ vl').heap[k]? := fun k h => Below.heap_setCell _ _ _ _ h
  have hhas : ∀ k, (JT.mk j.p vl' (j.us ++ [u])).Has k → k = j.p ∨ ws.heap.size ≤ k := fun k h => by
    rcases h with rfl | h | ⟨z, hz', h⟩
    · exact .inl rfl
    · rcases hat with h2 | h2
      · exact hk k (.inr (.inl (by rw [← h2]; exact h)))
      · rw [h2] at h; have := Option.some.inj h; exact .inr (by omega)
    · rcases List.mem_append.1 hz' with h2 | h2
      · exact hk k (.inr (.inr ⟨z, h2, h⟩))
      · simp at h2; subst h2; have := (hu.lt k h).1; exact .inr (by omega)
  have hpn2 : ∀ k, (JT.mk j.p vl' (j.us ++ [u])).Has k → k ≠ pe := fun k h e => by
    rcases hhas k h with e2 | e2
    · exact hpe (e ▸ e2)
    · omega
  have hcell : (V'.setCell ⟨j.p, 2, none⟩ vl').cell? ⟨pe, 0, none⟩ = some (.int .i64 (endF 0 pre : Nat)) := (mods_cell (a := ⟨pe, 0, none⟩) ((hs1 pe hpe).trans hV')).trans he
  have hfro : (V'.setCell ⟨j.p, 2, none⟩ vl').frozen? ⟨pe, 0, none⟩ = false := (mods_frozen (a := ⟨pe, 0, none⟩) ((hs1 pe hpe).trans hV')).trans hf
  refine ⟨⟨⟨⟨j.p, vl', j.us ++ [u]⟩, rfl, ?_, hhas⟩, ?_, set_frozen hfro _, ?_⟩, ?_⟩
  · rw [List.map_append, List.map_cons, List.map_nil]
    exact hA.kept fun k h => hs2 k (hpn2 k h)
  · rw [endF_snoc, hq]; exact set_cell hcell _
  · refine Near2.setq (Near2.setp ⟨hg.os.trans hn.os, hg.tape.trans hn.tape, hg.output.trans hn.output, by have := hg.size; omega, fun k h1 h2 h3 => ?_⟩ 2 _) 0 _
    rw [hg.block k (by omega) (fun e => by
      rcases hk k (.inr (.inl e.symm)) with e2 | e2
      · exact h2 e2
      · omega), (below_alloc1 V _).block k (by omega)]
    exact hn.block k h1 h2 h3
  · refine KeepsFrom.trans' (KeepsFrom.below _ (below_alloc1 V (.cells #[u] 35))) (KeepsFrom.trans' (KeepsFrom.grown _ hg (fun k hk2 => .inr fun o ho2 => ?_)) (KeepsFrom.trans' ((KeepsOthers.setCell V' ⟨j.p, 2, none⟩ vl').from _) ((KeepsOthers.setCell _ ⟨pe, 0, none⟩ _).from _)))
    obtain ⟨ob, q1, q2⟩ := owns_isCells (World.ownsRow.alloc hj.row (.cells #[u] 35)) hk2
    rw [ho2] at q1; cases q1
    exact q2
/-- A function is left whose two results lie in cells, over two ranges. -/
theorem leaves_two_res2 {F : Fence} {n : Nat} {P : Program} {fn : Func} {tmps : Array Value} {R : Ending → World → Prop} {W : World} {D D2 : Nat} {v : Value} {a b : Addr} {x y : Value}
    (h1 : W.heap[D]? = some (.deferred (some []))) (h2 : W.heap[D2]? = some (.deferred (some []))) (hne : D ≠ D2) (ha : W.cell? a = some x) (hb : W.cell? b = some y)
    (hr : ∀ W', W'.cell? a = some x → W'.cell? b = some y → (results fn tmps).run P W' = .ok v W')
    (hR : ∀ W', W'.os = W.os → W'.tape = W.tape → W'.output = W.output → W'.heap.size = W.heap.size → (∀ k, k ≠ D → k ≠ D2 → W'.heap[k]? = W.heap[k]?) → R (.returned v) W') :
    LeavesInM F n P fn tmps R [{ target := .collected D2, args := #[] }, { target := .collected D, args := #[] }] .returning W := by
  have h1' : (W.putObj D2 (.deferred Option.none)).heap[D]? = some (.deferred (some [])) := (World.putObj_heap_other hne).trans h1
  refine ⟨by simp, .inl ⟨_, _, rfl, run_takeDeferred h2, ?_⟩⟩
  refine ⟨by simp, .inl ⟨_, _, rfl, run_takeDeferred h1', ?_⟩⟩
  exact ⟨_, hr _ (put_cell h1' (put_cell h2 ha _) _) (put_cell h1' (put_cell h2 hb _) _), hR _ rfl rfl rfl (by simp [World.putObj]) (fun k h3 h4 => (World.putObj_heap_other h3).trans (World.putObj_heap_other h4))⟩
/-- What Open does to the heap: the disk's blocks may change; the journal is new. -/
structure ONew (x : DT) (W : World) (j : JT) (y : DT) (w' : World) : Prop where
  st : DStep x W y w'
  jn : ∀ k, j.Has k → W.heap.size ≤ k
theorem DStep.fin {x y : DT} {W w W' : World} (h : DStep x W y w) (hf : ∀ k, k < W.heap.size → W'.heap[k]? = w.heap[k]?) (h1 : W'.os = w.os) (h2 : W'.tape = w.tape) (h3 : W'.output = w.output) (hz : W.heap.size ≤ W'.heap.size) : DStep x W y W' :=
  ⟨h.p, h1.trans h.os, h2.trans h.tape, h3.trans h.output, hz, fun k hk hm => (hf k hk).trans (h.block k hk hm), fun k o hk ho hne => (hf k (Array.getElem?_eq_some_iff.1 hk).1).trans (h.plain k o hk ho hne), h.mb, h.has, h.us⟩
/-- A step that begins later. -/
theorem DStep.sinceB {x y : DT} {w0 w w' : World} (h : DStep x w y w') (hz : w0.heap.size ≤ w.heap.size) (ho : w.os = w0.os) (ht : w.tape = w0.tape) (hp : w.output = w0.output) (hb : ∀ k, k < w0.heap.size → w.heap[k]? = w0.heap[k]?) : DStep x w0 y w' :=
  h.since ⟨ho, ht, hp, hz, hb⟩
/-- The tail of a slice of ints. -/
theorem zTail (A : Option Addr) (len c k : Nat) (a : Int) (ha : a = (k : Int)) (hi : k ≤ len) (hc : len ≤ c) (W : World) :
    (Instr.slice 167 (.slice A len c) (some (.int .i64 a)) Option.none Option.none).run Tryz.prog W = .ok (.slice (if c = k then A else A.map (·.add k)) (len - k) (c - k)) W := by
  subst ha
  have hel : Tryz.prog.elem 167 = 3 := by simp [Program.elem, Tryz.underlying167]
  have hu : Tryz.prog.underlying 167 = some (.slice (Tryz.prog.elem 167)) := by rw [hel]; exact Tryz.underlying167
  rw [run_slice_l (ht := hu) (h0 := by omega) (h1 := by omega), hel]
  obtain ⟨i0, hi0, hz, hsz, hby⟩ := info_parts info_int
  simp [sizeOf, typeInfo, hi0, hsz, sliced, Result.andThen]
theorem frAll_len : ∀ (k : Nat) (l : List UInt8) (a : Nat), (frAll k l a).length ≤ k
  | 0, _, _ => by simp [frAll]
  | k + 1, l, a => by
    unfold frAll
    split
    · have := frAll_len k l (frRead l a).2.1.toNat
      simp only [List.length_cons]
      omega
    · simp
theorem allF_len (l : List UInt8) : (allF l 0).length ≤ l.length := frAll_len _ _ _
theorem open_mid {w5 w6 w8 w9 : World} {xp g : Nat} {b : Value}
    (hB6 : Below ((w5.alloc (.cells #[.pointer (some ⟨xp, 0, none⟩), .int .i64 (g : Int), .slice none 0 0] 170)).alloc (.cells #[.pointer (some ⟨w5.heap.size, 0, none⟩)] 82)).heap.size ((w5.alloc (.cells #[.pointer (some ⟨xp, 0, none⟩), .int .i64 (g : Int), .slice none 0 0] 170)).alloc (.cells #[.pointer (some ⟨w5.heap.size, 0, none⟩)] 82)) w6)
    (hB8 : Below w6.heap.size w6 w8) (hw9 : w9 = (w8.alloc (.cells #[.int .i64 0] 3)).alloc (.cells #[b] 35)) :
    w9.heap[w5.heap.size]? = some (.cells #[.pointer (some ⟨xp, 0, none⟩), .int .i64 (g : Int), .slice none 0 0] 170) ∧ w9.cell? ⟨w5.heap.size + 1, 0, none⟩ = some (.pointer (some ⟨w5.heap.size, 0, none⟩)) ∧ w9.cell? ⟨w8.heap.size, 0, none⟩ = some (.int .i64 0) ∧ w9.frozen? ⟨w8.heap.size, 0, none⟩ = false ∧
      w9.cell? ⟨w8.heap.size + 1, 0, none⟩ = some b ∧ w5.heap.size + 2 ≤ w6.heap.size ∧ w6.heap.size ≤ w8.heap.size ∧ w9.heap.size = w8.heap.size + 2 ∧ Below w5.heap.size w5 w9 ∧ Below w8.heap.size w8 w9 := by
  subst hw9
  have b1 := below_alloc1 w5 (.cells #[.pointer (some ⟨xp, 0, none⟩), .int .i64 (g : Int), .slice none 0 0] 170)
  have n1 := heap_alloc_new w5 (.cells #[.pointer (some ⟨xp, 0, none⟩), .int .i64 (g : Int), .slice none 0 0] 170)
  have z1 : (w5.alloc (.cells #[.pointer (some ⟨xp, 0, none⟩), .int .i64 (g : Int), .slice none 0 0] 170)).heap.size = w5.heap.size + 1 := by simp
  generalize w5.alloc (.cells #[.pointer (some ⟨xp, 0, none⟩), .int .i64 (g : Int), .slice none 0 0] 170) = u1 at *
  have b2 := below_alloc1 u1 (.cells #[.pointer (some ⟨w5.heap.size, 0, none⟩)] 82)
  have n2 := new_cell u1 (.pointer (some ⟨w5.heap.size, 0, none⟩)) 82
  have z2 : (u1.alloc (.cells #[.pointer (some ⟨w5.heap.size, 0, none⟩)] 82)).heap.size = u1.heap.size + 1 := by simp
  rw [z1] at n2
  generalize u1.alloc (.cells #[.pointer (some ⟨w5.heap.size, 0, none⟩)] 82) = u2 at *
  have b3 := below_alloc1 w8 (.cells #[.int .i64 0] 3)
  have n3 := new_cell w8 (.int .i64 0) 3
  have f3 := new_frozen w8 #[.int .i64 0] 3 0
  have z3 : (w8.alloc (.cells #[.int .i64 0] 3)).heap.size = w8.heap.size + 1 := by simp
  generalize w8.alloc (.cells #[.int .i64 0] 3) = u3 at *
  have b4 := below_alloc1 u3 (.cells #[b] 35)
  have n4 := new_cell u3 b 35
  have z4 : (u3.alloc (.cells #[b] 35)).heap.size = u3.heap.size + 1 := by simp
  rw [z3] at n4
  generalize u3.alloc (.cells #[b] 35) = u4 at *
  have z6 := hB6.size
  have z8 := hB8.size
  have b89 := below_then b3 b4
  have b29 := below_then (below_then hB6 hB8) b89
  refine ⟨?_, cell_below b29 n2, cell_below b4 n3, frozen_below b4 n3 f3, n4, by omega, z8, by omega, below_then b1 (below_then b2 b29), b89⟩
  rw [b29.block _ (by omega), b2.block _ (by omega)]
  exact n1
theorem run_op_one_slice {w : World} {o : Oper} {ρ : Operand → Value} (x : Operand) (ho : o.op = .buildSlice 22 1 #[(0, x)]) (A : Option Addr) (n c : Nat) (hx : ρ x = .slice A n c) :
    (execOp ρ o).run Tryz.prog w = .ok (.value (.slice (some ⟨w.heap.size, 0, none⟩) 1 1)) (w.alloc (.cells #[.slice A n c] 35)) := by
  obtain ⟨i, hi, hz, h1, h2⟩ := info_parts info_bs
  have hf := Great.fill_whole (s := 1) (by omega) [.slice A n c] ((Array.range (1 * 1)).map ((Value.slice none 0 0).cells[· % (Value.slice none 0 0).cells.size]!)) (by simp [Value.cells]) (by simp)
  unfold execOp
  simp only [ho, Sem.run_bind, Sem.run_pure]
  rw [run_buildSlice w 22 35 1 _ #[.slice A n c] i (.slice none 0 0) under_lists hi hz (by rw [h1]; omega) (by rw [h1]; omega) (by rw [h1]; simpa [hx, Value.cells] using hf)]
  rfl
/-- Files are taken away one by one. -/
def rmAll (s : DSt) (l : List ByteArray) : DSt := l.foldl (fun s n => (dRemove s n).2) s
theorem rmAll_snoc (s : DSt) (l : List ByteArray) (n : ByteArray) : rmAll s (l ++ [n]) = (dRemove (rmAll s l) n).2 := by simp [rmAll]
theorem remove_raws (s : DSt) (n : ByteArray) : (dRemove s n).2.raws.length ≤ s.raws.length + 1 := by
  unfold dRemove
  split
  · simp [DSt.run]
  · simp
theorem remove_fs {s : DSt} {n m : ByteArray} {l : List UInt8} (h : (dRemove s n).2.fs m = some l) : s.fs m = some l := by
  unfold dRemove at h
  split at h
  · rw [run_remove] at h
    by_cases e : m = n
    · subst e; rw [upd_same] at h; cases h
    · rw [upd_other _ _ e] at h; exact h
  · exact h
theorem rmAll_raws : ∀ (l : List ByteArray) (s : DSt), (rmAll s l).raws.length ≤ s.raws.length + l.length
  | [], s => by simp [rmAll]
  | n :: l, s => by
    have h1 := rmAll_raws l (dRemove s n).2
    have h2 := remove_raws s n
    show (rmAll (dRemove s n).2 l).raws.length ≤ _
    simp only [List.length_cons]
    omega
theorem rmAll_fs : ∀ (l : List ByteArray) {s : DSt} {m : ByteArray} {f : List UInt8}, (rmAll s l).fs m = some f → s.fs m = some f
  | [], _, _, _, h => h
  | n :: l, s, m, f, h => remove_fs (rmAll_fs l (s := (dRemove s n).2) h)
theorem lt_nums {k n : Nat} (h : k < n) (hn : n ≤ 100000000) : wrap64 ((k : Int) + 1) = ((k + 1 : Nat) : Int) ∧ (0 : Int) ≤ (k : Int) ∧ (k : Int) < (n : Int) ∧ decide (k < n) = true ∧ decide ((k : Int) < (n : Int)) = true :=
  ⟨by unfold wrap64; omega, by omega, by omega, by rw [decide_eq_true_iff]; exact h, by rw [decide_eq_true_iff]; omega⟩
end Go.Proofs.YtjllkmkngjdjjaaGreatDoor
