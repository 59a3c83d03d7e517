/- THE ITERATOR shelf.files: its contract. No statement of the seed is proved here. A LAW OF MY OWN: a region that draws its order and stores two named results where they lie already: nothing changes. No statement of the seed is proved here. WALK of shelf.count. No statement of the seed is proved here. THE PLAIN LAW of a filled level: its files, what a put does. No statement of the seed is proved here. -/
import Derived.Test.YtjllkmkngjdjjaaGreatDoorJrnP
import Derived.Test.YtjllkmkngjdjjaaGreatDoorIter2
import Derived.Test.YtjllkmkngjdjjaaGreatDoorDskC
import Derived.Test.YtjllkmkngjdjjaaGreatDoorDskD
namespace Go.Proofs.YtjllkmkngjdjjaaGreatDoor
open Go.RowKit Go.Shelf
attribute [local go_sem] Oper.semAt_some
set_option maxRecDepth 100000

/-- A round is handed a file's number and its bytes, in new memory. -/
def HandS (x : Nat × List UInt8) (args : Array Value) (W0 W1 : World) : Prop := ∃ v, args = #[.int .i64 (x.1 : Int), v] ∧ OwnB W1 W0.heap.size v x.2
/-- What the iterator reads. -/
structure ReadS (b : Nat) (x : DT) (s : DSt) (B h lv : Nat) (W : World) : Prop where
  c0 : W.cell? ⟨b, 0, none⟩ = some (.pointer (some ⟨x.p, 0, none⟩))
  c1 : W.cell? ⟨b + 1, 0, none⟩ = some (.int .i64 (h : Int))
  c2 : W.cell? ⟨b + 2, 0, none⟩ = some (.int .i64 (lv : Int))
  at_ : x.At s W B
  tab : TabW W
theorem ReadS.below {b : Nat} {x : DT} {s : DSt} {B h lv : Nat} {W W' : World} (r : ReadS b x s B h lv W) (hb : Below W.heap.size W W') : ReadS b x s B h lv W' :=
  ⟨cell_below hb r.c0, cell_below hb r.c1, cell_below hb r.c2, r.at_.below hb, tab_below r.tab hb⟩
/-- The files of a level from the k-th on, as the iterator tells them: whole ones, and at most one that is not. -/
inductive Files (s : DSt) (h lv : Nat) : Nat → List (Nat × List UInt8) → Prop
  | bad (k : Nat) (hv : tileV h lv k (2 ^ h) = false) : Files s h lv k []
  | none (k : Nat) (hv : tileV h lv k (2 ^ h) = true) (hn : s.fs (tname h lv k) = .none) : Files s h lv k []
  | part (k : Nat) (l : List UInt8) (hv : tileV h lv k (2 ^ h) = true) (hn : s.fs (tname h lv k) = some l) (hl : l.length < 32 * 2 ^ h) : Files s h lv k [(k, l)]
  | full (k : Nat) (l : List UInt8) (hv : tileV h lv k (2 ^ h) = true) (hn : s.fs (tname h lv k) = some l) (hl : 32 * 2 ^ h ≤ l.length) (xs : List (Nat × List UInt8)) (hx : Files s h lv (k + 1) xs) : Files s h lv k ((k, l.take (32 * 2 ^ h)) :: xs)

theorem files_calls (p : Value) (hp : ∃ a, p = .pointer a) (h lv : Int) (W : World) :
    Calls Tryz.prog 65 #[p, .int .i64 h, .int .i64 lv] W fun e w' => e = .returned (.func (.func 128) #[] #[.pointer (some ⟨W.heap.size, 0, none⟩), .pointer (some ⟨W.heap.size + 1, 0, none⟩), .pointer (some ⟨W.heap.size + 2, 0, none⟩)]) ∧
      Below W.heap.size W w' ∧ w'.cell? ⟨W.heap.size, 0, none⟩ = some p ∧ w'.cell? ⟨W.heap.size + 1, 0, none⟩ = some (.int .i64 h) ∧ w'.cell? ⟨W.heap.size + 2, 0, none⟩ = some (.int .i64 lv) := by
  obtain ⟨a, rfl⟩ := hp
  go_enter Tryz.func65, Tryz.ntmps65
  go_wp2
  go_ret
  have e2 : W.heap.size + 1 + 1 = W.heap.size + 2 := rfl
  have z1 : (W.alloc (.cells #[.pointer a] 24)).heap.size = W.heap.size + 1 := by simp
  have z2 : ((W.alloc (.cells #[.pointer a] 24)).alloc (.cells #[.int .i64 h] 3)).heap.size = W.heap.size + 2 := by simp
  have n0 := new_cell W (.pointer a) 24
  have n1 := new_cell (W.alloc (.cells #[.pointer a] 24)) (.int .i64 h) 3
  have n2 := new_cell ((W.alloc (.cells #[.pointer a] 24)).alloc (.cells #[.int .i64 h] 3)) (.int .i64 lv) 3
  rw [z1] at n1
  rw [z2] at n2
  exact ⟨rfl, below_then (below_alloc1 _ _) (below_then (below_alloc1 _ _) (below_alloc1 _ _)), cell_below (below_alloc1 _ _) (cell_below (below_alloc1 _ _) n0), cell_below (below_alloc1 _ _) n1, n2⟩

theorem Files.inv {s : DSt} {h lv k : Nat} {xs : List (Nat × List UInt8)} (hF : Files s h lv k xs) :
    (xs = [] ∧ (tileV h lv k (2 ^ h) = false ∨ (tileV h lv k (2 ^ h) = true ∧ s.fs (tname h lv k) = .none))) ∨
    ∃ l, tileV h lv k (2 ^ h) = true ∧ s.fs (tname h lv k) = some l ∧ ∃ m rest, l.take (32 * 2 ^ h) = m ∧ xs = (k, m) :: rest ∧ ((m.length < 32 * 2 ^ h ∧ rest = []) ∨ (m.length = 32 * 2 ^ h ∧ Files s h lv (k + 1) rest)) := by
  cases hF with
  | bad _ hv => exact .inl ⟨rfl, .inl hv⟩
  | none _ hv hn => exact .inl ⟨rfl, .inr ⟨hv, hn⟩⟩
  | part _ l hv hn hl => exact .inr ⟨l, hv, hn, l, [], List.take_of_length_le (by omega), rfl, .inl ⟨hl, rfl⟩⟩
  | full _ l hv hn hl xs hx => exact .inr ⟨l, hv, hn, _, xs, rfl, rfl, .inr ⟨by rw [List.length_take]; omega, hx⟩⟩
theorem sbytes_no (x : DT) (s : DSt) (W : World) (B : Nat) (hx : x.At s W B) (hT : TabW W) (h lv i : Nat) (h1 : 1 ≤ h) (h8 : h ≤ 8) (hno : tileV h lv i (2 ^ h) = false ∨ (tileV h lv i (2 ^ h) = true ∧ s.fs (tname h lv i) = .none)) :
    Calls Tryz.prog 95 #[.pointer (some ⟨x.p, 0, none⟩), .int .i64 (h : Int), .int .i64 (lv : Int), .int .i64 (i : Int)] W fun e w' => e = .returned (.tuple #[.slice .none 0 0, .bool false]) ∧ Below W.heap.size W w' := by
  rcases hno with hno | ⟨hv, hno⟩
  · exact sbytes_bad x s W B hx hT h lv i h1 h8 hno
  · exact sbytes_none x s W B hx hT h lv i h1 h8 hv hno

set_option maxHeartbeats 2000000 in
theorem files_iter (n : Nat) (h1n : 1 ≤ n) (b : Nat) (x : DT) (s : DSt) (B h lv : Nat) (h1 : 1 ≤ h) (h8 : h ≤ 8) (hfew : Few s) (xs : List (Nat × List UInt8)) (hF : Files s h lv 0 xs) :
    Iter Fence.wide n Tryz.prog 128 #[.pointer (some ⟨b, 0, none⟩), .pointer (some ⟨b + 1, 0, none⟩), .pointer (some ⟨b + 2, 0, none⟩)] xs HandS (ReadS b x s B h lv) := by
  intro lp J Jx W hJR hJ0 hY
  refine callsIn_of_wp Tryz.func128 rfl trivial ?_ rfl
  simp only [Tryz.ntmps128, List.size_toArray, List.length_cons, List.length_nil, Nat.reduceAdd, Nat.reduceSub, Array.replicate_succ, Array.replicate_zero, List.push_toArray, List.append_toArray, List.nil_append, List.cons_append]
  have h32 := shl32 h h8
  have hw : wrap64 (32 * 2 ^ h) = ((32 * 2 ^ h : Nat) : Int) := by
    rw [show (32 * 2 ^ h : Int) = ((32 * 2 ^ h : Nat) : Int) by push_cast; rfl]
    unfold wrap64
    omega
  gi_wp2
  gi_loopw [5, 6, 7] (fun p _ _ wr => ∃ (pre rest : List (Nat × List UInt8)) (W0 : World), p = .int .i64 (pre.length : Int) ∧ xs = pre ++ rest ∧ Files s h lv pre.length rest ∧ J pre W0 ∧ Below W0.heap.size W0 wr) (fun p _ _ _ => xs.length + 1 - (intOf p).toNat)
  case atStart => exact ⟨[], xs, W, rfl, rfl, hF, hJ0, Below.refl _ _⟩
  case round =>
    obtain ⟨pre, rest, W0, rfl, hx, hf, hJ, hb⟩ := hrel
    have r := (hJR pre W0 hJ).below hb
    have c0 := r.c0
    have c1 := r.c1
    have c2 := r.c2
    rcases hf.inv with ⟨rfl, hno⟩ | ⟨l, hv, hl, m, rest', hm, rfl, hcase⟩
    · have KB := Lib.hid (sbytes_no x s wr B r.at_ r.tab h lv pre.length h1 h8 hno)
      clear r hno hf
      generalize pre.length = k at *
      gi_wp2_with (first | (refine ⟨trivial, ?_⟩; gi_at_call 95; refine (callsIn_wide.2 KB.out).mono ?_; rintro e w1 ⟨rfl, hB1⟩))
      refine ⟨fun _ h => (by cases h), ?_⟩
      gi_wp2
      refine bodyPost_ret (results_none rfl _ _ _) rfl ?_
      exact ⟨⟨_, rfl⟩, W0, below_then hb hB1, .inl (by rw [hx, List.append_nil]; exact hJ)⟩
    · have KB := Lib.hid (sbytes_some x s wr B r.at_ r.tab h lv pre.length h1 h8 hv l hl hfew)
      rw [hm] at KB
      have hk := (tileV_small h lv pre.length (2 ^ h) (by simpa using hv)).1
      clear r hf hm hv hl
      have hXS := Lib.hid hx; clear hx
      generalize hk0 : pre.length = k at *
      have HK := Lib.hid hk0; clear hk0
      generalize 32 * 2 ^ h = k32 at *
      gi_wp2_with (first | (refine ⟨trivial, ?_⟩; gi_at_call 95; refine (callsIn_wide.2 KB.out).mono ?_; rintro e w1 ⟨v1, rfl, ho1, hB1⟩; have hbb : Below W0.heap.size W0 w1 := below_then hb hB1; have d0 := cell_below hB1 c0; have d1 := cell_below hB1 c1; have d2 := cell_below hB1 c2; obtain ⟨fn, tmps, assign, body, hy, hR⟩ := hY pre (k, m) rest' #[.int .i64 (k : Int), v1] W0 w1 hXS.out hJ hbb ⟨v1, rfl, ho1.lower hb.size⟩))
      clear hY d0 d1 d2 KB
      refine hR.mono ?_
      clear hR
      rintro e W3 (⟨rfl, hJ3⟩ | ⟨rfl, hJx3⟩)
      · have e1 := (hJR _ W3 hJ3).c1
        obtain ⟨A1, c1', ev, -, -, -⟩ := ho1.form
        subst ev
        rcases hcase with ⟨hlt, rfl⟩ | ⟨hlt, hfr⟩
        · have g5 : decide ((m.length : Int) < (k32 : Int)) = true := by rw [decide_eq_true_iff]; omega
          gi_wp2
          refine bodyPost_ret (results_none rfl _ _ _) rfl ?_
          exact ⟨⟨_, rfl⟩, W3, Below.refl _ _, .inl (by rw [hXS.out]; exact hJ3)⟩
        · have g5 : decide ((m.length : Int) < (k32 : Int)) = false := by rw [decide_eq_false_iff_not]; omega
          have hwk : wrap64 ((k : Int) + 1) = ((k + 1 : Nat) : Int) := by unfold wrap64; omega
          gi_wp2
          go_roundw
          case rel => exact ⟨pre ++ [(k, m)], rest', W3, by rw [List.length_append, HK.out]; rfl, by rw [hXS.out, List.append_assoc]; rfl, by rw [List.length_append, HK.out]; exact hfr, hJ3, Below.refl _ _⟩
          case measure =>
            have := congrArg List.length hXS.out
            simp [intOf] at this ⊢
            have := HK.out
            omega
      · gi_wp2
        refine bodyPost_ret (results_none rfl _ _ _) rfl ?_
        exact ⟨⟨_, rfl⟩, W3, Below.refl _ _, .inr ⟨_, hJx3⟩⟩
end Go.Proofs.YtjllkmkngjdjjaaGreatDoor
namespace Go.Proofs.YtjllkmkngjdjjaaGreatDoor
open Go.RowKit
theorem setCell_still {w : World} {a : Addr} {v : Value} (h : w.cell? a = some v) : w.setCell a v = w := by
  have hm : ∀ f : Obj → Obj, (∀ o, w.heap[a.block]? = some o → f o = o) → w.heap.modify a.block f = w.heap := fun f hf => by
    apply Array.ext_getElem?
    intro i
    rw [Array.getElem?_modify]
    split
    · rename_i e
      subst e
      cases hb : w.heap[a.block]? with
      | none => rfl
      | some o => simp [hf o hb]
    · rfl
  unfold World.setCell
  rw [hm]
  intro o ho
  unfold World.cell? at h
  rw [ho] at h
  cases o <;> try rfl
  rename_i c e f
  simp only at h
  split at h
  · cases h
  · rename_i hs
    simp only [hs]
    congr 1
    apply Array.ext_getElem?
    intro i
    simp only [Bool.false_eq_true, if_false]
    rw [Array.getElem?_setIfInBounds]
    split
    · rename_i e
      subst e
      split
      · exact h.symm
      · rename_i hx
        rw [h]
        exact absurd (Array.getElem?_eq_some_iff.1 h).1 hx
    · rfl
section
variable {P : Program} {ops : Array Oper} {Q : Exit → Act → World → Prop} {S : World → Prop}
theorem wpOp_skip {K : Act → World → Prop} {i : Nat} {o : Oper} {a : Act} {w w' : World} (h1 : ops[i]? = some o) (h2 : o.guard = none) (hd : o.dst = none) (h3 : (execOp a.eval o).run P w = .ok .skip w') (h : K a w') : wpOp P ops Q i K a w := by
  unfold wpOp
  simp only [h1]
  have hw : Region.wanted o (yielded ops a.tmps) = true := by simp [Region.wanted, h2]
  simp only [hw, if_true, Oper.wp, h3, Oper.upon]
  rw [hd]
  exact .inl h
/-- Two operations that change nothing. -/
def Still (P : Program) (ops : Array Oper) (Q : Exit → Act → World → Prop) (i j : Nat) (a : Act) (w : World) : Prop :=
  ∃ oi oj : Oper, ops[i]? = some oi ∧ ops[j]? = some oj ∧ oi.guard = none ∧ oj.guard = none ∧ oi.dst = none ∧ oj.dst = none ∧ (execOp a.eval oi).run P w = .ok .skip w ∧ (execOp a.eval oj).run P w = .ok .skip w ∧ Q .normal a w
theorem held_of_still {i j : Nat} {listed : Array Bool} {a : Act} {w : World} (h1 : Region.ready .any ops listed = [i, j]) (h2 : Region.ready .any ops (listed.setIfInBounds i true) = [j]) (h3 : Region.ready .any ops (listed.setIfInBounds j true) = [i])
    (h4 : Region.ready .any ops ((listed.setIfInBounds i true).setIfInBounds j true) = []) (h5 : Region.ready .any ops ((listed.setIfInBounds j true).setIfInBounds i true) = []) (hS : S w) (h : Still P ops Q i j a w) : wpAnyH P .any ops Q S 2 listed a w := by
  obtain ⟨oi, oj, e1, e2, g1, g2, t1, t2, r1, r2, hq⟩ := h
  refine ⟨fun e => (by rw [h1] at e; cases e), fun k hk => ?_⟩
  rw [h1] at hk
  have hk' : k = i ∨ k = j := by simpa using hk
  rcases hk' with rfl | rfl
  · refine wpOp_skip e1 g1 t1 r1 ⟨hS, fun e => (by rw [h2] at e; cases e), fun q hq' => ?_⟩
    rw [h2] at hq'
    have : q = j := by simpa using hq'
    subst this
    exact wpOp_skip e2 g2 t2 r2 ⟨hS, h4, hq⟩
  · refine wpOp_skip e2 g2 t2 r2 ⟨hS, fun e => (by rw [h3] at e; cases e), fun q hq' => ?_⟩
    rw [h3] at hq'
    have : q = i := by simpa using hq'
    subst this
    exact wpOp_skip e1 g1 t1 r1 ⟨hS, h5, hq⟩
/-- **THE LAW.** 'tk': what is taken first; then i and j, in either order, which change nothing. -/
theorem wp_region_still {id : Nat} {a : Act} {w : World} {l : List Oper} (S : World → Prop) (tk : List Nat) (i j : Nat) (hm : P.follows .mixedOrders = true)
    (hB : (Region.noSelect l.toArray && takeB .any l.toArray tk (Array.replicate l.toArray.size false) && decide (Region.ready .any l.toArray (tk.foldl (fun l i => l.setIfInBounds i true) (Array.replicate l.toArray.size false)) = [i, j]) &&
      decide (Region.ready .any l.toArray ((tk.foldl (fun l i => l.setIfInBounds i true) (Array.replicate l.toArray.size false)).setIfInBounds i true) = [j]) && decide (Region.ready .any l.toArray ((tk.foldl (fun l i => l.setIfInBounds i true) (Array.replicate l.toArray.size false)).setIfInBounds j true) = [i]) &&
      decide (Region.ready .any l.toArray (((tk.foldl (fun l i => l.setIfInBounds i true) (Array.replicate l.toArray.size false)).setIfInBounds i true).setIfInBounds j true) = []) &&
      decide (Region.ready .any l.toArray (((tk.foldl (fun l i => l.setIfInBounds i true) (Array.replicate l.toArray.size false)).setIfInBounds j true).setIfInBounds i true) = []) && decide (tk.length + 2 = l.toArray.size)) = true)
    (hQ : ∀ c a a' w, Q (.panic c) a w → Q (.panic c) a' w) (hS : S w.drew)
    (h : wpTkS P l.toArray S (fun a' => Still P l.toArray Q i j a' w.drew) (opsL l tk) a) : (Code.region id l.toArray true).wp P Q a w := by
  simp only [Bool.and_eq_true, decide_eq_true_eq] at hB
  obtain ⟨⟨⟨⟨⟨⟨⟨hsel, ht⟩, h1⟩, h2⟩, h3⟩, h4⟩, h5⟩, hlen⟩ := hB
  refine wp_region_held (S := S) hm ?_
  have := held_of_tkS (P := P) (Q := Q) l rfl hsel hQ w.drew hS 2 tk (Array.replicate l.toArray.size false) a ht (tkS_mono (fun a' h' => held_of_still h1 h2 h3 h4 h5 hS h') _ _ h)
  rw [hlen] at this
  exact this
end
end Go.Proofs.YtjllkmkngjdjjaaGreatDoor
namespace Go.Proofs.YtjllkmkngjdjjaaGreatDoor
open Go.RowKit Go.Shelf
attribute [local go_sem] Oper.semAt_some
set_option maxRecDepth 100000
theorem HandS.steady : Steady HandS :=
  ⟨fun x args W0 W1 W2 ⟨v, e, h⟩ hb => ⟨v, e, owns_below h hb⟩, fun x args W0 W1 l o o' ⟨v, e, h⟩ h0 h1 hc => ⟨v, e, by
    have hs : (W0.putObj l o').heap.size = W0.heap.size := by simp [World.putObj]
    rw [hs]
    refine mods_owns h fun k hk => World.putObj_heap_other (fun e2 => ?_)
    subst e2
    obtain ⟨ob, g1, g2⟩ := owns_isCells h hk
    rw [h1] at g1; cases g1
    rw [hc] at g2; cases g2⟩⟩
/-- How many digests some files have, and how many bytes of the last are torn. -/
def cntS (xs : List (Nat × List UInt8)) : Nat × Nat := xs.foldl (fun a x => (a.1 + x.2.length / 32, x.2.length % 32)) (0, 0)
theorem cntS_snoc (xs : List (Nat × List UInt8)) (x : Nat × List UInt8) : cntS (xs ++ [x]) = ((cntS xs).1 + x.2.length / 32, x.2.length % 32) := by simp [cntS]
theorem Files.bound {s : DSt} {h lv k : Nat} {xs : List (Nat × List UInt8)} (h8 : h ≤ 8) (hF : Files s h lv k xs) : (∀ x ∈ xs, x.2.length ≤ 8192) ∧ (xs = [] ∨ k + xs.length ≤ 281474976710657) := by
  have h32 := shl32 h h8
  induction hF with
  | bad k hv => exact ⟨by simp, .inl rfl⟩
  | none k hv hn => exact ⟨by simp, .inl rfl⟩
  | part k l hv hn hl =>
    have := (tileV_small h lv k (2 ^ h) (by simpa using hv)).1
    exact ⟨by simp; omega, .inr (by simp; omega)⟩
  | full k l hv hn hl xs hx ih =>
    have := (tileV_small h lv k (2 ^ h) (by simpa using hv)).1
    refine ⟨fun x hx => ?_, .inr ?_⟩
    · rcases List.mem_cons.1 hx with rfl | hx
      · simp only [List.length_take]; omega
      · exact ih.1 x hx
    · rcases ih.2 with rfl | h2
      · simp; omega
      · simp at h2 ⊢; omega
theorem cntS_le {xs : List (Nat × List UInt8)} (hx : ∀ x ∈ xs, x.2.length ≤ 8192) : (cntS xs).1 ≤ xs.length * 256 := by
  have : ∀ (xs : List (Nat × List UInt8)) (a : Nat × Nat), (∀ x ∈ xs, x.2.length ≤ 8192) → (xs.foldl (fun a x => (a.1 + x.2.length / 32, x.2.length % 32)) a).1 ≤ a.1 + xs.length * 256 := by
    intro xs
    induction xs with
    | nil => intro a h; simp
    | cons x xs ih =>
      intro a h
      have h1 := h x (by simp)
      have := ih (a.1 + x.2.length / 32, x.2.length % 32) (fun y hy => h y (by simp [hy]))
      simp only [List.foldl_cons, List.length_cons]
      simp only at this
      omega
  have := this xs (0, 0) hx
  simpa [cntS] using this
/-- What count holds between two rounds. -/
structure CntI (W : World) (x : DT) (h lv n t : Nat) (V : World) : Prop where
  n0 : V.cell? ⟨W.heap.size, 0, none⟩ = some (.int .i64 (n : Int))
  f0 : V.frozen? ⟨W.heap.size, 0, none⟩ = false
  n1 : V.cell? ⟨W.heap.size + 1, 0, none⟩ = some (.int .i64 (t : Int))
  f1 : V.frozen? ⟨W.heap.size + 1, 0, none⟩ = false
  k0 : V.cell? ⟨W.heap.size + 2, 0, none⟩ = some (.pointer (some ⟨x.p, 0, none⟩))
  k1 : V.cell? ⟨W.heap.size + 3, 0, none⟩ = some (.int .i64 (h : Int))
  k2 : V.cell? ⟨W.heap.size + 4, 0, none⟩ = some (.int .i64 (lv : Int))
  bel : Below W.heap.size W V
theorem CntI.below {W : World} {x : DT} {h lv n t : Nat} {V V' : World} (c : CntI W x h lv n t V) (hb : Below V.heap.size V V') : CntI W x h lv n t V' :=
  ⟨cell_below hb c.n0, frozen_below hb c.n0 c.f0, cell_below hb c.n1, frozen_below hb c.n1 c.f1, cell_below hb c.k0, cell_below hb c.k1, cell_below hb c.k2, below_then c.bel hb⟩
theorem CntI.turn {W : World} {x : DT} {h lv n t : Nat} {V V' : World} {Bs : Nat} {row : Option Nat} (c : CntI W x h lv n t V) (hB : W.heap.size ≤ Bs) (hg : V.grownBy V' row) (hr : ∀ r, row = some r → Bs ≤ r ∧ ∃ o : Obj, V.heap[r]? = some o ∧ o.isCells = false) : CntI W x h lv n t V' := by
  have h2 : ∀ r, row = some r → ∃ o : Obj, V.heap[r]? = some o ∧ o.isCells = false := fun r e => (hr r e).2
  exact ⟨turn_cell hg h2 c.n0, turn_frozen hg h2 c.n0 c.f0, turn_cell hg h2 c.n1, turn_frozen hg h2 c.n1 c.f1, turn_cell hg h2 c.k0, turn_cell hg h2 c.k1, turn_cell hg h2 c.k2, turn_below hg hr hB c.bel.size c.bel⟩
theorem CntI.read {W : World} {x : DT} {s : DSt} {B h lv n t : Nat} {V : World} (c : CntI W x h lv n t V) (hx : x.At s W B) (hT : TabW W) : ReadS (W.heap.size + 2) x s B h lv V := ⟨c.k0, c.k1, c.k2, hx.below c.bel, tab_below hT c.bel⟩
theorem CntI.set {W : World} {x : DT} {h lv n t : Nat} {V : World} (c : CntI W x h lv n t V) (n' t' : Nat) : CntI W x h lv n' t' ((V.setCell ⟨W.heap.size, 0, none⟩ (.int .i64 (n' : Int))).setCell ⟨W.heap.size + 1, 0, none⟩ (.int .i64 (t' : Int))) :=
  ⟨set_other (set_cell c.n0 _) (by simp) _, set_frozen (set_frozen c.f0 _) _, set_cell (set_other c.n1 (by simp) _) _, set_frozen (set_frozen c.f1 _) _, set_other (set_other c.k0 (by simp) _) (by simp) _, set_other (set_other c.k1 (by simp) _) (by simp) _, set_other (set_other c.k2 (by simp) _) (by simp) _,
    (c.bel.setCell (p := ⟨W.heap.size, 0, none⟩) (Nat.le_refl _) _).setCell (p := ⟨W.heap.size + 1, 0, none⟩) (by show W.heap.size ≤ W.heap.size + 1; omega) _⟩
set_option maxHeartbeats 2000000 in
theorem scount_calls (x : DT) (s : DSt) (W : World) (B : Nat) (hx : x.At s W B) (hT : TabW W) (h lv : Nat) (h1 : 1 ≤ h) (h8 : h ≤ 8) (hfew : Few s) (xs : List (Nat × List UInt8)) (hF : Files s h lv 0 xs) :
    Calls Tryz.prog 70 #[.pointer (some ⟨x.p, 0, none⟩), .int .i64 (h : Int), .int .i64 (lv : Int)] W fun e w' => e = .returned (.tuple #[.int .i64 ((cntS xs).1 : Int), .int .i64 ((cntS xs).2 : Int)]) ∧ Below W.heap.size W w' := by
  obtain ⟨hlen, hxl⟩ := hF.bound h8
  refine (callsIn_wide (n := 9)).1 ?_
  refine callsIn_of_wp_marks Tryz.func70 rfl trivial ?_ rfl
  simp only [Tryz.ntmps70, List.size_toArray, List.length_cons, List.length_nil, Nat.reduceAdd, Nat.reduceSub, Array.replicate_succ, Array.replicate_zero, List.push_toArray, List.append_toArray, List.nil_append, List.cons_append]
  gi_wp2_with (refine ⟨trivial, ?_⟩; gi_at_call 65; refine (callsIn_wide.2 (files_calls _ ⟨_, rfl⟩ h lv _)).mono ?_; rintro e w1 ⟨rfl, hB1, k0, k1, k2⟩)
  have z2 : ((W.alloc (.cells #[.int .i64 0] 3)).alloc (.cells #[.int .i64 0] 3)).heap.size = W.heap.size + 2 := by simp
  have z1 : (W.alloc (.cells #[.int .i64 0] 3)).heap.size = W.heap.size + 1 := by simp
  have hC0 : CntI W x h lv 0 0 w1 := by
    have n0 := new_cell W (.int .i64 0) 3
    have n1 := new_cell (W.alloc (.cells #[.int .i64 0] 3)) (.int .i64 0) 3
    have b1 := below_alloc1 (W.alloc (.cells #[.int .i64 0] 3)) (.cells #[.int .i64 0] 3)
    have f0 := new_frozen W #[.int .i64 0] 3 0
    have f1 := new_frozen (W.alloc (.cells #[.int .i64 0] 3)) #[.int .i64 0] 3 0
    rw [z2] at k0 k1 k2
    rw [z1] at n1 f1
    have m0 := cell_below b1 n0
    exact ⟨cell_below hB1 m0, frozen_below hB1 m0 (frozen_below b1 n0 f0), cell_below hB1 n1, frozen_below hB1 n1 f1, k0, k1, k2, below_then (below_alloc1 _ _) (below_then b1 hB1)⟩
  have hWW : W.heap.size ≤ w1.heap.size := hC0.bel.size
  have HX := Lib.hid hx; clear hx
  clear k0 k1 k2 hB1 z1 z2
  refine wpIn_range2 (by rfl) (by omega) (gf := 128) (lb := #[.pointer (some ⟨W.heap.size + 2, 0, none⟩), .pointer (some ⟨W.heap.size + 2 + 1, 0, none⟩), .pointer (some ⟨W.heap.size + 2 + 2, 0, none⟩)]) (by rfl) trivial (enters_of Tryz.func128 (by kernel_rfl) rfl)
    (files_iter 8 (by omega) (W.heap.size + 2) x s B h lv h1 h8 hfew xs hF) HandS.steady (by rintro x args W0 W1 ⟨v, rfl, _⟩; rfl)
    (fun pre V => CntI W x h lv (cntS pre).1 (cntS pre).2 V) (fun _ _ => False)
    (fun s X Y row h hg hr => h.turn hWW hg hr) (fun s X Y row h hg hr => h) (fun pre V c => c.read HX.out hT) hC0 ?round ?done ?stop
  case round =>
    rintro lp ⟨k, m⟩ args W0 W1 hs0 hb ⟨v', rfl, ho⟩
    gi_wp2
    refine ⟨Below.refl _ _, ?_⟩
    rintro l' pre rest V0 V2 hl' hxs hC hbV ⟨v2, hv2, ho2⟩
    cases hv2
    obtain ⟨A2, c2, ev, -, -, -⟩ := ho2.form
    subst ev
    have hC2 := hC.below hbV
    have d0 := hC2.n0
    have d1 := hC2.n1
    have g0 := hC2.f0
    have g1 := hC2.f1
    have hm := hlen (k, m) (by rw [hxs]; simp)
    simp only at hm
    have hpl : (cntS pre).1 ≤ pre.length * 256 := cntS_le (fun y hy => hlen y (by rw [hxs]; simp [hy]))
    have hpx : pre.length ≤ 281474976710657 := by
      have := congrArg List.length hxs
      simp at this
      rcases hxl with rfl | h2
      · simp at this
      · omega
    have hsn := cntS_snoc pre (k, m)
    have HSN := Lib.hid hsn; clear hsn
    have HS := Lib.hid (hC2.set ((cntS pre).1 + m.length / 32) (m.length % 32))
    clear hC hC2 ho ho2
    gi_wp2
    have HS2 := HS.out
    rw [show (((cntS pre).1 + m.length / 32 : Nat) : Int) = ((cntS pre).1 : Int) + (m.length : Int) / 32 by push_cast; rfl, show ((m.length % 32 : Nat) : Int) = (m.length : Int) % 32 by push_cast; rfl] at HS2
    refine ⟨KeepsFrom.trans' ((KeepsOthers.setCell _ _ _).from _) ((KeepsOthers.setCell _ _ _).from _), ?_⟩
    show CntI W x h lv (cntS (pre ++ [(k, m)])).1 (cntS (pre ++ [(k, m)])).2 _
    rw [HSN.out]
    exact HS2
  case done =>
    rintro D W0 W2 hD hC hb hK
    have hC2 := hC.below hb
    have d0 := hC2.n0
    have d1 := hC2.n1
    have g0 := hC2.f0
    have g1 := hC2.f1
    gi_wp2
    refine to_plain ?_
    refine wp_region_noPanic ?_
    have hKd : W2.drew.heap[D]? = some (.deferred (some [])) := hK
    have d0' : W2.drew.cell? ⟨W.heap.size, 0, none⟩ = some (.int .i64 ((cntS xs).1 : Int)) := d0
    have d1' : W2.drew.cell? ⟨W.heap.size + 1, 0, none⟩ = some (.int .i64 ((cntS xs).2 : Int)) := d1
    have e0 := Lib.hid (congrArg World.drew (setCell_still d0))
    have e1 := Lib.hid (congrArg World.drew (setCell_still d1))
    refine wp_region_rowS (fun w' => w' = W2.drew) [0, 1] [2, 3] (by kernel_rfl) (by kernel_rfl) (fun _ _ _ _ h => h) rfl ?_
    simp only [opsL, List.getElem?_cons_zero, List.getElem?_cons_succ, Option.toList_some, List.singleton_append]
    refine takesS_run rfl (.int .i64 ((cntS xs).1 : Int)) (fun w' hw => by subst hw; exact op_load _ _ rfl _ _ (by rfl) _ (ld_cell Tryz.underlying3 rfl d0)) ?_
    simp only [Act.put, List.setIfInBounds_toArray, List.set_cons_zero, List.set_cons_succ]
    refine takesS_run rfl (.int .i64 ((cntS xs).2 : Int)) (fun w' hw => by subst hw; exact op_load _ _ rfl _ _ (by rfl) _ (ld_cell Tryz.underlying3 rfl d1)) ?_
    simp only [Act.put, List.setIfInBounds_toArray, List.set_cons_zero, List.set_cons_succ]
    simp only [wpTkS]
    simp only [wpRowS, opsL, List.getElem?_cons_zero, List.getElem?_cons_succ, Option.toList_some, List.singleton_append]
    go_wp2_with fail
    refine norm_done e0.out ?_
    rw [e0.out]
    go_wp2_with fail
    refine norm_done e1.out ?_
    rw [e1.out]
    refine noPanic_normal ?_
    rename_i Kx hKx
    refine hKx _ _ ?_
    gi_wp2
    refine ⟨by simp, .inl ⟨_, _, rfl, run_takeDeferred hKd, ?_⟩⟩
    exact ⟨_, by simp [results, Tryz.results70, go_sem, put_cell hKd d0', put_cell hKd d1'], rfl, (hC2.bel.drew).trans (belowK_b (w := W) (Nat.le_refl _) W2.drew D _ _ (by omega) hKd rfl rfl)⟩
  case stop =>
    rintro D c' W0 W _ h
    exact h.elim
end Go.Proofs.YtjllkmkngjdjjaaGreatDoor
namespace Go.Proofs.YtjllkmkngjdjjaaGreatDoor
open Go.RowKit Go.Shelf
set_option maxRecDepth 100000
def fileL (L : List (List UInt8)) (h k : Nat) : List UInt8 := ((L.drop (k * 2 ^ h)).take (2 ^ h)).flatten
structure Filled (s : DSt) (sec h : Nat) (L : List (List UInt8)) : Prop where
  sec : s.sec = sec
  len : ∀ d ∈ L, d.length = 32
  fs : ∀ k, s.fs (tname h 0 k) = if k * 2 ^ h < L.length then some (fileL L h k) else none
  few : ∀ n l, s.fs n = some l → l.length ≤ 8192
  raws : s.raws.length ≤ 33 * L.length
theorem Filled.Few {s : DSt} {sec h : Nat} {L : List (List UInt8)} (H : Filled s sec h L) : Few s := fun n l e => by have := H.few n l e; omega
theorem flat_len {L : List (List UInt8)} (h : ∀ d ∈ L, d.length = 32) : L.flatten.length = 32 * L.length := by
  induction L with
  | nil => rfl
  | cons d L ih =>
    rw [List.flatten_cons, List.length_append, ih (fun x hx => h x (by simp [hx])), h d (by simp), List.length_cons]
    omega
theorem fileL_len {L : List (List UInt8)} (hL : ∀ d ∈ L, d.length = 32) (h k : Nat) : (fileL L h k).length = 32 * min (2 ^ h) (L.length - k * 2 ^ h) := by
  unfold fileL
  rw [flat_len (fun d hd => hL d (List.mem_of_mem_drop (List.mem_of_mem_take hd))), List.length_take, List.length_drop]
theorem fileL_before {L : List (List UInt8)} {h k : Nat} (d : List UInt8) (hk : (k + 1) * 2 ^ h ≤ L.length) : fileL (L ++ [d]) h k = fileL L h k := by
  have e : (k + 1) * 2 ^ h = k * 2 ^ h + 2 ^ h := by rw [Nat.add_mul, Nat.one_mul]
  have hp : 0 < 2 ^ h := Nat.two_pow_pos h
  unfold fileL
  rw [List.drop_append_of_le_length (by omega), List.take_append_of_le_length (by rw [List.length_drop]; omega)]
theorem fileL_here {L : List (List UInt8)} {h k : Nat} (d : List UInt8) (h1 : k * 2 ^ h ≤ L.length) (h2 : L.length < (k + 1) * 2 ^ h) : fileL (L ++ [d]) h k = fileL L h k ++ d := by
  have e : (k + 1) * 2 ^ h = k * 2 ^ h + 2 ^ h := by rw [Nat.add_mul, Nat.one_mul]
  unfold fileL
  rw [List.drop_append_of_le_length h1, List.take_of_length_le (by rw [List.length_append, List.length_drop, List.length_singleton]; omega), List.take_of_length_le (by rw [List.length_drop]; omega), List.flatten_append]
  simp
theorem runs_other (s : DSt) (n m : ByteArray) (hm : m ≠ n) (cs : List (List UInt8)) : (s.runs (cs.map (rAppend n))).fs m = s.fs m := by
  induction cs generalizing s with
  | nil => rfl
  | cons c cs ih =>
    rw [List.map_cons, DSt.runs_cons, ih, run_append, upd_other _ _ hm]
theorem len_le_flat {cs : List (List UInt8)} (h : ∀ c ∈ cs, c ≠ []) : cs.length ≤ cs.flatten.length := by
  induction cs with
  | nil => simp
  | cons c cs ih =>
    have h1 := ih (fun x hx => h x (by simp [hx]))
    have h2 : c ≠ [] := h c (by simp)
    have : 0 < c.length := List.length_pos_iff.2 h2
    simp only [List.length_cons, List.flatten_cons, List.length_append]
    omega
theorem appR_len (s : DSt) (n : ByteArray) (b : List UInt8) (hs : 0 < s.sec) : (appR s n b).length ≤ b.length := by
  unfold appR
  rw [List.length_map]
  have h1 := len_le_flat (chunks_ne (sec := s.sec) hs b.length ((s.fs n).getD []).length b)
  rw [chunks_flat hs _ _ _ (Nat.le_refl _)] at h1
  exact h1
/-- What a put makes of the disk. -/
def sPut (s : DSt) (nm : ByteArray) (b : List UInt8) : DSt :=
  match s.fs nm with
  | some _ => s.runs (appR s nm b)
  | none => (s.run (rCreate nm)).runs (appR (s.run (rCreate nm)) nm b)
theorem sPut_sec (s : DSt) (nm : ByteArray) (b : List UInt8) : (sPut s nm b).sec = s.sec := by
  unfold sPut
  split
  · rw [DSt.runs_sec]
  · rw [DSt.runs_sec]; rfl
theorem sPut_same (s : DSt) (nm : ByteArray) (b : List UInt8) (hs : 0 < s.sec) : (sPut s nm b).fs nm = some ((s.fs nm).getD [] ++ b) := by
  unfold sPut
  split
  · rename_i l hl
    rw [appR, run_len_append s nm l hl, chunks_flat hs _ _ _ (Nat.le_refl _), hl]
    rfl
  · rename_i hl
    have h1 : (s.run (rCreate nm)).fs nm = some [] := by rw [run_create, upd_same]
    rw [appR, run_len_append _ nm [] h1, chunks_flat (by exact hs) _ _ _ (Nat.le_refl _), hl]
    rfl
theorem sPut_other (s : DSt) (nm m : ByteArray) (b : List UInt8) (hm : m ≠ nm) : (sPut s nm b).fs m = s.fs m := by
  unfold sPut
  split
  · exact runs_other _ _ _ hm _
  · rw [appR, runs_other _ _ _ hm, run_create, upd_other _ _ hm]
/-- The raw writes that a put makes. -/
theorem sPut_raws (s : DSt) (nm : ByteArray) (b : List UInt8) (hs : 0 < s.sec) : ∃ rs : List RawD, (sPut s nm b).raws = s.raws ++ rs ∧ rs.length ≤ b.length + 1 ∧ (∀ r ∈ rs, r.name = nm ∧ (r.kind = 1 ∨ r.kind = 2)) ∧ (rs.map RawD.bytes).flatten = b := by
  have hcs : ∀ len : Nat, ((chunks s.sec len b.length b).map (rAppend nm)).map RawD.bytes = chunks s.sec len b.length b := fun len => by
    rw [List.map_map]
    have : (RawD.bytes ∘ rAppend nm) = id := by funext c; rfl
    rw [this, List.map_id]
  unfold sPut
  split
  · refine ⟨_, DSt.runs_raws _ _, by have := appR_len s nm b hs; omega, fun r hr => ?_, ?_⟩
    · obtain ⟨c, -, rfl⟩ := List.mem_map.1 hr
      exact ⟨rfl, .inr rfl⟩
    · rw [appR, hcs, chunks_flat hs _ _ _ (Nat.le_refl _)]
  · refine ⟨rCreate nm :: appR (s.run (rCreate nm)) nm b, by rw [DSt.runs_raws]; simp [DSt.run], ?_, fun r hr => ?_, ?_⟩
    · have := appR_len (s.run (rCreate nm)) nm b hs
      simp
      omega
    · rcases List.mem_cons.1 hr with rfl | hr
      · exact ⟨rfl, .inl rfl⟩
      · obtain ⟨c, -, rfl⟩ := List.mem_map.1 hr
        exact ⟨rfl, .inr rfl⟩
    · rw [List.map_cons, List.flatten_cons]
      have : ((appR (s.run (rCreate nm)) nm b).map RawD.bytes).flatten = b := by
        unfold appR
        exact (congrArg List.flatten (hcs _)).trans (chunks_flat hs _ _ _ (Nat.le_refl _))
      rw [this]
      rfl
theorem Filled.empty (sec h : Nat) : Filled (emptyD sec) sec h [] :=
  ⟨rfl, by simp, fun k => by simp [emptyD], fun n l e => by simp [emptyD] at e, by simp [emptyD]⟩
theorem Filled.here {s : DSt} {sec h : Nat} {L : List (List UInt8)} (H : Filled s sec h L) : (s.fs (tname h 0 (L.length / 2 ^ h))).getD [] = fileL L h (L.length / 2 ^ h) := by
  have hp : 0 < 2 ^ h := Nat.two_pow_pos h
  rw [H.fs]
  split
  · rfl
  · rename_i hk
    have := fileL_len H.len h (L.length / 2 ^ h)
    have h0 : (fileL L h (L.length / 2 ^ h)).length = 0 := by rw [this]; omega
    rw [List.eq_nil_of_length_eq_zero h0]
    rfl
theorem Filled.put {s : DSt} {sec h : Nat} {L : List (List UInt8)} (H : Filled s sec h L) (h8 : h ≤ 8) (hs : 0 < sec) (d : List UInt8) (hd : d.length = 32) : Filled (sPut s (tname h 0 (L.length / 2 ^ h)) d) sec h (L ++ [d]) := by
  have hp : 0 < 2 ^ h := Nat.two_pow_pos h
  have h32 := shl32 h h8
  have hss : 0 < s.sec := by rw [H.sec]; exact hs
  have hdm := Nat.div_add_mod L.length (2 ^ h)
  have hml := Nat.mod_lt L.length hp
  have e1 : 2 ^ h * (L.length / 2 ^ h) = (L.length / 2 ^ h) * 2 ^ h := Nat.mul_comm _ _
  have hlt : L.length < (L.length / 2 ^ h + 1) * 2 ^ h := by rw [Nat.add_mul, Nat.one_mul]; omega
  have hle : (L.length / 2 ^ h) * 2 ^ h ≤ L.length := by omega
  have hnl := fileL_len H.len h (L.length / 2 ^ h)
  have hlen : (fileL L h (L.length / 2 ^ h) ++ d).length ≤ 8192 := by
    rw [List.length_append, hnl, hd]
    omega
  refine ⟨by rw [sPut_sec]; exact H.sec, fun x hx => ?_, fun k => ?_, fun n l e => ?_, ?_⟩
  · rcases List.mem_append.1 hx with h1 | h1
    · exact H.len x h1
    · simp at h1; rw [h1]; exact hd
  · by_cases hk : k = L.length / 2 ^ h
    · subst hk
      rw [sPut_same _ _ _ hss, H.here, if_pos (by rw [List.length_append, List.length_singleton]; omega), fileL_here d hle hlt]
    · rw [sPut_other _ _ _ _ (fun e => hk (tname_inj e)), H.fs]
      by_cases hk2 : k < L.length / 2 ^ h
      · have h3 : (k + 1) * 2 ^ h ≤ (L.length / 2 ^ h) * 2 ^ h := Nat.mul_le_mul_right _ hk2
        have h4 : (k + 1) * 2 ^ h = k * 2 ^ h + 2 ^ h := by rw [Nat.add_mul, Nat.one_mul]
        rw [if_pos (by omega), if_pos (by rw [List.length_append]; omega), fileL_before d (by omega)]
      · have h3 : (L.length / 2 ^ h + 1) * 2 ^ h ≤ k * 2 ^ h := Nat.mul_le_mul_right _ (by omega)
        rw [if_neg (by omega), if_neg (by rw [List.length_append, List.length_singleton]; omega)]
  · by_cases hn : n = tname h 0 (L.length / 2 ^ h)
    · subst hn
      rw [sPut_same _ _ _ hss, H.here] at e
      cases e
      exact hlen
    · rw [sPut_other _ _ _ _ hn] at e
      exact H.few n l e
  · obtain ⟨rs, e1, e2, -, -⟩ := sPut_raws s (tname h 0 (L.length / 2 ^ h)) d hss
    have := H.raws
    rw [e1, List.length_append, List.length_append, List.length_singleton]
    omega
theorem Filled.tile {L : List (List UInt8)} {h : Nat} (h1 : 1 ≤ h) (h8 : h ≤ 8) (hL : L.length ≤ 1000000000000) (k : Nat) (hk : k * 2 ^ h ≤ L.length) : tileV h 0 k (2 ^ h) = true := by
  have h32 := shl32 h h8
  have hp : (0 : Int) < ((2 ^ h : Nat) : Int) := by have := Nat.two_pow_pos h; omega
  unfold tileV
  rw [decide_eq_true_iff, Int.toNat_natCast]
  have e : ((2 : Int) ^ h) = ((2 ^ h : Nat) : Int) := (pow_cast h).symm
  rw [e]
  have ek : (k : Int) * ((2 ^ h : Nat) : Int) = ((k * 2 ^ h : Nat) : Int) := by push_cast; rfl
  rw [ek]
  generalize 2 ^ h = p at *
  simp
  omega
/-- The files of a filled level from the k-th on. -/
theorem Filled.files {s : DSt} {sec h : Nat} {L : List (List UInt8)} (H : Filled s sec h L) (h1 : 1 ≤ h) (h8 : h ≤ 8) (hL : L.length ≤ 1000000000000) : ∀ (f k : Nat), L.length - k * 2 ^ h ≤ f → ∃ xs, Files s h 0 k xs ∧ (∀ a : Nat, xs.foldl (fun a x => (a.1 + x.2.length / 32, x.2.length % 32)) (a, 0) = (a + (L.length - k * 2 ^ h), 0)) ∧ (xs.map Prod.snd).flatten = (L.drop (k * 2 ^ h)).flatten := by
  have hp : 0 < 2 ^ h := Nat.two_pow_pos h
  intro f
  induction f with
  | zero =>
    intro k hk
    have hn := H.fs k
    rw [if_neg (by omega)] at hn
    refine ⟨[], ?_, fun a => by simp; omega, by rw [List.drop_of_length_le (by omega)]; rfl⟩
    cases hv : tileV h 0 k (2 ^ h) with
    | false => exact .bad k hv
    | true => exact .none k hv hn
  | succ f ih =>
    intro k hk
    have hn := H.fs k
    have hlen := fileL_len H.len h k
    by_cases h0 : k * 2 ^ h < L.length
    · rw [if_pos h0] at hn
      have hv := Filled.tile h1 h8 hL k (by omega)
      by_cases h2 : L.length - k * 2 ^ h < 2 ^ h
      · refine ⟨[(k, fileL L h k)], .part k _ hv hn (by rw [hlen]; omega), fun a => ?_, ?_⟩
        · simp only [List.foldl_cons, List.foldl_nil, hlen]
          rw [Nat.min_eq_right (by omega)]
          congr 1 <;> omega
        · simp only [List.map_cons, List.map_nil, List.flatten_cons, List.flatten_nil, List.append_nil]
          unfold fileL
          rw [List.take_of_length_le (by rw [List.length_drop]; omega)]
      · have e : (k + 1) * 2 ^ h = k * 2 ^ h + 2 ^ h := by rw [Nat.add_mul, Nat.one_mul]
        obtain ⟨xs, x1, x2, x3⟩ := ih (k + 1) (by omega)
        have hfl : (fileL L h k).length = 32 * 2 ^ h := by rw [hlen, Nat.min_eq_left (by omega)]
        refine ⟨_, .full k _ hv hn (by omega) xs x1, fun a => ?_, ?_⟩
        · rw [List.take_of_length_le (by omega), List.foldl_cons]
          simp only [hfl]
          rw [show 32 * 2 ^ h % 32 = 0 by omega, show 32 * 2 ^ h / 32 = 2 ^ h by omega, x2]
          congr 1
          omega
        · rw [List.take_of_length_le (by omega), List.map_cons, List.flatten_cons, x3]
          unfold fileL
          rw [e, ← List.drop_drop, ← List.flatten_append, List.take_append_drop]
    · rw [if_neg h0] at hn
      refine ⟨[], ?_, fun a => by simp; omega, by rw [List.drop_of_length_le (by omega)]; rfl⟩
      cases hv : tileV h 0 k (2 ^ h) with
      | false => exact .bad k hv
      | true => exact .none k hv hn
end Go.Proofs.YtjllkmkngjdjjaaGreatDoor
