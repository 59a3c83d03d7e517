/- THE ITERATOR of integrate.Fresh: its contract; what is new among leaves, in plain words. No statement of the seed is proved here. WALK of integrate.Fresh. No statement of the seed is proved here. WALK of integrate.Fresh, going on. No statement of the seed is proved here. WALK of the reference's Fresh. No statement of the seed is proved here. WALKS of the law's lent and kept, and of integrate.Fresh of no index. No statement of the seed is proved here. WALK of the law's kept. No statement of the seed is proved here. WORDS for the law IntegrateFresh: an index and the reference's under the known digests. No statement of the seed is proved here. WALK of the law IntegrateFresh. No statement of the seed is proved here. -/
import Derived.Test.YthgjecofmnomfaaDoorShaR
import Derived.Test.YthgjecofmnomfaaDoorIter2
import Derived.Test.YthgjecofmnomfaaDoorRefC
namespace Go.Proofs.YthgjecofmnomfaaDoor
open Go.RowKit Go.Shelf
attribute [local go_sem] Oper.semAt_some
set_option maxRecDepth 100000

/-- A [][]byte that came in. -/
structure LL (w : World) (v : Value) (ms : List (List UInt8)) (vs : List Value) : Prop where
  row : Row w v ms.length vs
  parts : ∀ (j : Nat) (hj : j < ms.length), ∃ u, vs[j]? = some u ∧ Bs w u ms[j]
theorem LL.below {w w1 : World} {v : Value} {ms : List (List UInt8)} {vs : List Value} (h : LL w v ms vs) (hb : Below w.heap.size w w1) : LL w1 v ms vs :=
  ⟨h.row.below hb, fun j hj => let ⟨u, a, b⟩ := h.parts j hj; ⟨u, a, b.below hb⟩⟩
theorem LL.form {w : World} {v : Value} {ms : List (List UInt8)} {vs : List Value} (h : LL w v ms vs) : ∃ A c, v = .slice A ms.length c ∧ ms.length ≤ c ∧ c ≤ 9223372036854775807 ∧ ms.length ≤ 9223372036854775807 := by
  obtain ⟨A, c, e, h1, h2, h0, _⟩ := h.row
  unfold maxLen at h2
  exact ⟨A, c, e, h1, h2, by omega⟩
theorem LL.at_ {w : World} {A : Option Addr} {n c : Nat} {ms : List (List UInt8)} {vs : List Value} (h : LL w (.slice A n c) ms vs) (j : Nat) (hj : j < ms.length) : ∃ ad u, A = some ad ∧ w.cell? (ad.add j) = some u ∧ Bs w u ms[j] := by
  obtain ⟨u, hu, hb⟩ := h.parts j hj
  have hn : n = ms.length := by obtain ⟨A', c', e, _⟩ := h.row; cases e; rfl
  subst hn
  obtain ⟨ad, hA, hc⟩ := h.row.at_ j hu
  exact ⟨ad, u, hA, hc, hb⟩
theorem len_le_sum : ∀ {ms : List (List UInt8)} {m : List UInt8}, m ∈ ms → m.length ≤ (ms.map List.length).sum
  | x :: r, m, h => by
    rcases List.mem_cons.1 h with e | e
    · subst e; simp
    · have := len_le_sum e; simp; omega

/-! ### what is new -/
/-- The next leaf's digest: taken if it is not known. -/
def frS (d : List UInt8) (i : Nat) (s : List (List Item) × List Nat) : List (List Item) × List Nat :=
  match findI s.1.flatten d with
  | none => (addRuns s.1 (d, (i : Int)), s.2 ++ [i])
  | some _ => s
/-- Behind i leaves: the index, and which are new. -/
def frN (ms : List (List UInt8)) (rs : List (List Item)) : Nat → List (List Item) × List Nat
  | 0 => (rs, [])
  | i + 1 => frS (sha (0 :: ms.getD i [])) i (frN ms rs i)
theorem frN_none {ms : List (List UInt8)} {rs : List (List Item)} {i : Nat} (hi : i < ms.length) (hf : findI (frN ms rs i).1.flatten (sha (0 :: ms[i])) = none) :
    frN ms rs (i + 1) = (addRuns (frN ms rs i).1 (sha (0 :: ms[i]), (i : Int)), (frN ms rs i).2 ++ [i]) := by
  have e : ms.getD i [] = ms[i] := by rw [List.getD_eq_getElem?_getD, List.getElem?_eq_getElem hi]; rfl
  show frS _ _ _ = _
  unfold frS
  rw [e, hf]
theorem frN_some {ms : List (List UInt8)} {rs : List (List Item)} {i : Nat} (hi : i < ms.length) (hf : findI (frN ms rs i).1.flatten (sha (0 :: ms[i])) ≠ none) :
    frN ms rs (i + 1) = frN ms rs i := by
  have e : ms.getD i [] = ms[i] := by rw [List.getD_eq_getElem?_getD, List.getElem?_eq_getElem hi]; rfl
  show frS _ _ _ = _
  unfold frS
  rw [e]
  cases hq : findI (frN ms rs i).1.flatten (sha (0 :: ms[i])) with
  | none => exact absurd hq hf
  | some y => rfl
theorem frN_good {ms : List (List UInt8)} {rs : List (List Item)} {items : List Item} (hg : Good rs items) : ∀ i, ∃ items', Good (frN ms rs i).1 items'
  | 0 => ⟨items, hg⟩
  | i + 1 => by
    obtain ⟨it, h⟩ := frN_good (ms := ms) hg i
    show ∃ items', Good (frS _ _ _).1 items'
    unfold frS
    cases hq : findI (frN ms rs i).1.flatten (sha (0 :: ms.getD i [])) with
    | none => exact ⟨_, h.add (by exact sha_length _) (by rw [← h.find]; exact hq)⟩
    | some y => exact ⟨it, h⟩
theorem frN_count (ms : List (List UInt8)) (rs : List (List Item)) : ∀ i, (frN ms rs i).1.flatten.length ≤ rs.flatten.length + i ∧ (frN ms rs i).2.length ≤ i
  | 0 => ⟨by simp [frN], by simp [frN]⟩
  | i + 1 => by
    obtain ⟨h1, h2⟩ := frN_count ms rs i
    show (frS _ _ _).1.flatten.length ≤ _ ∧ (frS _ _ _).2.length ≤ _
    unfold frS
    split
    · rw [addRuns_len, List.length_append, List.length_singleton]; omega
    · omega
theorem frN_sum (ms : List (List UInt8)) (rs : List (List Item)) : ∀ i, (frN ms rs i).1.flatten.length + (if findI (frN ms rs i).1.flatten (sha [0]) = none then 1 else 0) ≤ rs.flatten.length + 1 + ((ms.take i).map List.length).sum
  | 0 => by
    show rs.flatten.length + (if findI rs.flatten (sha [0]) = none then 1 else 0) ≤ rs.flatten.length + 1 + 0
    by_cases h : findI rs.flatten (sha [0]) = none
    · rw [if_pos h]; omega
    · rw [if_neg h]; omega
  | i + 1 => by
    have h1 := frN_sum ms rs i
    have hs : ((ms.take (i + 1)).map List.length).sum = ((ms.take i).map List.length).sum + (ms.getD i []).length := by
      by_cases hi : i < ms.length
      · rw [List.take_succ_eq_append_getElem hi, List.map_append, List.sum_append, List.getD_eq_getElem?_getD, List.getElem?_eq_getElem hi]; simp
      · rw [List.take_of_length_le (by omega), List.take_of_length_le (by omega), List.getD_eq_getElem?_getD, List.getElem?_eq_none (by omega)]; simp
    rw [hs]
    show (frS _ _ _).1.flatten.length + (if findI (frS _ _ _).1.flatten (sha [0]) = none then 1 else 0) ≤ _
    unfold frS
    generalize hm : ms.getD i [] = m at *
    cases hq : findI (frN ms rs i).1.flatten (sha (0 :: m)) with
    | some y => simp only; omega
    | none =>
      simp only
      have ha := findI_add (frN ms rs i).1 (sha (0 :: m), (i : Int)) (sha [0])
      rw [addRuns_len]
      cases m with
      | nil =>
        rw [if_neg (ha.2 (.inl rfl))]
        rw [if_pos hq] at h1
        simp only [List.length_nil]
        omega
      | cons y r =>
        simp only [List.length_cons]
        by_cases h0 : findI (frN ms rs i).1.flatten (sha [0]) = none
        · rw [if_pos h0] at h1
          split <;> omega
        · rw [if_neg (ha.2 (.inr h0))]
          rw [if_neg h0] at h1
          omega
theorem frN_few {ms : List (List UInt8)} {rs : List (List Item)} (hr : rs.flatten.length ≤ 100000) (hs : (ms.map List.length).sum + ms.length ≤ 1048576) {i : Nat} (hi : i ≤ ms.length) : (frN ms rs i).1.flatten.length + 2 ≤ 900000 := by
  have h1 := (frN_count ms rs i).1
  have h2 := frN_sum ms rs i
  have h3 : ((ms.take i).map List.length).sum ≤ (ms.map List.length).sum := by
    have : (ms.map List.length).sum = ((ms.take i).map List.length).sum + ((ms.drop i).map List.length).sum := by rw [← List.sum_append, ← List.map_append, List.take_append_drop]
    omega
  split at h2 <;> omega

/-! ### the iterator -/
/-- A round is handed a leaf's place and its digest. -/
def HandL (ms : List (List UInt8)) (x : Nat) (args : Array Value) (_ _ : World) : Prop := ∃ h : x < ms.length, args = #[.int .i64 (x : Int), .agg (u8s (sha (0 :: ms[x]))).toArray]
theorem HandL.steady (ms : List (List UInt8)) : Steady (HandL ms) := ⟨fun _ _ _ _ _ h _ => h, fun _ _ _ _ _ _ _ h _ _ _ => h⟩
/-- What the iterator reads. -/
def ReadL (bx : Nat) (v : Value) (ms : List (List UInt8)) (vs : List Value) (W : World) : Prop := W.cell? ⟨bx, 0, none⟩ = some v ∧ LL W v ms vs ∧ LaidH W ∧ 2 < W.heap.size
theorem range_split {n : Nat} {pre rest : List Nat} {x : Nat} (h : List.range n = pre ++ x :: rest) : pre = List.range pre.length ∧ x = pre.length ∧ pre.length < n := by
  have hl : n = pre.length + (rest.length + 1) := by have := congrArg List.length h; simpa using this
  have hx : (List.range n)[pre.length]? = some x := by rw [h]; simp
  rw [List.getElem?_range (by omega)] at hx
  refine ⟨?_, (Option.some.inj hx).symm, by omega⟩
  have := congrArg (List.take pre.length) h
  rw [List.take_append_of_le_length (Nat.le_refl _), List.take_length, List.take_range, Nat.min_eq_left (by omega)] at this
  exact this.symm
theorem range_at {n i : Nat} (h : i < n) : List.range n = List.range i ++ i :: (List.range n).drop (i + 1) := by
  have h1 : i < (List.range n).length := by simpa using h
  have h2 := List.getElem_cons_drop h1
  rw [List.getElem_range] at h2
  rw [h2]
  have h3 : (List.range n).take i = List.range i := by rw [List.take_range, Nat.min_eq_left (by omega)]
  rw [← h3, List.take_append_drop]
theorem hashed_calls (v : Value) (w : World) (A : Option Addr) (n c : Nat) (hv : v = .slice A n c) :
    Calls Tryd.prog 48 #[v] w fun e w' => e = .returned (.func (.func 58) #[] #[.pointer (some ⟨w.heap.size, 0, none⟩)]) ∧ w' = w.alloc (.cells #[v] 41) := by
  subst hv
  go_enter Tryd.func48, Tryd.ntmps48
  go_wp2
  go_ret
  exact ⟨rfl, rfl⟩
set_option maxHeartbeats 2000000 in
theorem hashed_iter (n : Nat) (h1 : 1 ≤ n) (bx : Nat) (v : Value) (ms : List (List UInt8)) (vs : List Value) (hl : ∀ m ∈ ms, m.length ≤ 120000000000000) :
    Iter Fence.wide n Tryd.prog 58 #[.pointer (some ⟨bx, 0, none⟩)] (List.range ms.length) (HandL ms) (ReadL bx v ms vs) := by
  intro lp J Jx W hJR hJ0 hY
  refine callsIn_of_wp Tryd.func58 rfl trivial ?_ rfl
  simp only [Tryd.ntmps58, List.size_toArray, List.length_cons, List.length_nil, Nat.reduceAdd, Nat.reduceSub, Array.replicate_succ, Array.replicate_zero, List.push_toArray, List.append_toArray, List.nil_append, List.cons_append]
  have hR0 := (hJR [] W hJ0).2.1
  have hc0 := (hJR [] W hJ0).1
  obtain ⟨A, c, rfl, hlc, hc, hn⟩ := hR0.form
  clear hR0
  gi_wp2
  gi_loopw [3, 7] (fun _ i wr => ∃ (j : Nat) (W0 : World), i = .int .i64 (j : Int) ∧ j ≤ ms.length ∧ J (List.range j) W0 ∧ Below W0.heap.size W0 wr) (fun _ i _ => ms.length - (intOf i).toNat)
  case atStart => exact ⟨0, W, rfl, by omega, hJ0, Below.refl _ _⟩
  case round =>
    obtain ⟨j, W0, rfl, hj, hJ, hb⟩ := hrel
    by_cases hlt : j < ms.length
    · obtain ⟨r1, r2, r3, r4⟩ := hJR _ W0 hJ
      obtain ⟨ad, u, rfl, hcell, hbu⟩ := (r2.below hb).at_ j hlt
      have hT := r3.below hb
      have hG := Nat.lt_of_lt_of_le r4 hb.size
      clear r1 r2 r3 r4 hc0
      have KL := Lib.hid (leaf_calls u ms[j] (hl _ (List.getElem_mem hlt)) wr hT hG hbu)
      obtain ⟨Au, cu, rfl, hu1, hu2, hu3⟩ := hbu.form
      have HX := Lib.hid (range_at hlt)
      have HH := Lib.hid (fun W1 => (show HandL ms j #[.int .i64 (j : Int), .agg (u8s (sha (0 :: ms[j]))).toArray] W0 W1 from ⟨hlt, rfl⟩))
      have j0 : (0 : Int) ≤ (j : Int) := Int.natCast_nonneg _
      have j1 : (j : Int) < (ms.length : Int) := by omega
      clear hT hG hbu
      gi_wp2_with (first
        | (refine ⟨trivial, ?_⟩; gi_at_call 59; refine (callsIn_wide.2 KL.out).mono ?_; rintro e w1 ⟨rfl, hB1⟩; have hbb : Below W0.heap.size W0 w1 := below_then hb hB1; obtain ⟨fn, tmps, assign, body, hy, hR⟩ := hY (List.range j) j _ _ W0 w1 HX.out hJ hbb (HH.out w1)))
      refine hR.mono ?_
      rintro e W3 (⟨rfl, hJ3⟩ | ⟨rfl, hJx3⟩)
      · gi_wp2
        go_roundw
        case rel => exact ⟨j + 1, W3, by go_num, by omega, by rw [List.range_succ]; exact hJ3, Below.refl _ _⟩
        case measure => simp [intOf]; omega
      · gi_wp2
        refine bodyPost_ret (results_none rfl _ _ _) rfl ?_
        exact ⟨⟨_, rfl⟩, W3, Below.refl _ _, .inr ⟨_, hJx3⟩⟩
    · have hjn : j = ms.length := by omega
      subst hjn
      gi_wp2
      go_end0
      exact ⟨⟨_, rfl⟩, W0, hb, .inl hJ⟩
end Go.Proofs.YthgjecofmnomfaaDoor
namespace Go.Proofs.YthgjecofmnomfaaDoor
open Go.RowKit Go.Shelf
attribute [local go_sem] Oper.semAt_some
set_option maxRecDepth 100000

theorem wpListIn_app_row {F : Fence} {n : Nat} {w : World} {ops : Array Oper} {rest : List Oper} {o : Oper} {a : Act} {Q : Exit → Act → World → Prop} (hgd : o.guard = none) (s x : Operand) (t e : TypeId)
    (ho : o.op = .call { callee := .builtin .append, args := #[s, x], argTypes := #[t, t] }) (ht : Tryd.prog.underlying t = some (.slice e)) {z : Value} {bytes : Nat} (hinfo : (Tryd.prog.info? e).map (fun i => (i.zero, i.size, i.bytes)) = some (some z, 1, bytes)) (hz : z.cells.size = 1) (hb0 : 0 < bytes)
    (B : Nat) (v : Value) (hs : a.eval s = v) (k : Nat) (xs : List Value) (hown : w.ownsRow B e 1 v k xs) (u : Value) (hx : a.eval x = .slice (some ⟨w.heap.size, 0, none⟩) 1 1) (hu : u.oneCell' = true)
    (hb : (k + 1 + (k + 1) / 4 + 192) * bytes ≤ 281474976710656) (hbase : B ≤ w.heap.size)
    (h : ∀ v' w', w'.ownsRow B e 1 v' (k + 1) (xs ++ [u]) → (w.alloc (.cells #[u] e)).grownBy w' v.ownBlock → (v'.ownBlock = v.ownBlock ∨ v'.ownBlock = some (w.heap.size + 1)) → wpListIn F n Tryd.prog ops Q rest (a.put o.dst v') w') :
    wpListIn F n Tryd.prog ops Q (o :: rest) a (w.alloc (.cells #[u] e)) := by
  obtain ⟨v', w', hr, h2, h3, h4⟩ := run_app (P := Tryd.prog) (w.alloc (.cells #[u] e)) B t o.type e z 1 bytes ht hinfo hz (by omega) hb0 v k xs (World.ownsRow.alloc hown _) (.slice (some ⟨w.heap.size, 0, none⟩) 1 1) 1 [u] (Row.new w [u] e 1 1 (Nat.le_refl _) (by unfold maxLen; omega)) rfl (by simpa using hu) hb (by simp; omega)
  exact wpListIn_val hgd (by rw [ho]; intro c hc; cases hc) (about_append s x _ ho) v' w' (run_op_append s x _ ho v _ hs hx v' w' hr) (h v' w' h2 h3 (by simpa using h4))
theorem natsL_snoc (l : List Nat) (i : Nat) : natsL (l ++ [i]) = natsL l ++ [.int .i64 (i : Int)] := by simp [natsL]
theorem step_below' {w w' w0 : World} {B p : Nat} {vr vr' : Value} {us us' : List Value} (h : Step w p vr us w' vr' us') (hp : B ≤ p) (hv : ∀ k, vr.ownBlock = some k → B ≤ k) (hb : Below B w0 w) (hB : B ≤ w.heap.size) : Below B w0 w' := by
  refine ⟨h.os.trans hb.os, h.tape.trans hb.tape, h.output.trans hb.output, Nat.le_trans hb.size h.size, fun k hk => ?_⟩
  rw [h.block k (by omega) (fun e => by omega) (fun e => by have := hv k e; omega), hb.block k hk]
theorem IxT.Step.keeps {x y : IxT} {w w' : World} {B C : Nat} (hx : x.At w B) (h : x.Step w y w') : KeepsFrom C w w' :=
  ⟨h.size, fun k o _ hk ho => by
    refine (h.same (Array.getElem?_eq_some_iff.1 hk).1 (fun hq => ?_)).trans hk
    obtain ⟨ob, h1, h2⟩ := hx.cells hq
    rw [hk] at h1; cases h1
    rw [ho] at h2; cases h2⟩
theorem IxT.At.turn {x : IxT} {A A' : World} {row : Option Nat} {B : Nat} (h : x.At A B) (hg : A.grownBy A' row) (hr : ∀ r, row = some r → ∃ o : Obj, A.heap[r]? = some o ∧ o.isCells = false) : x.At A' B :=
  h.kept fun k hk => hg.block k (h.lt hk) (fun e => by
    obtain ⟨o, h1, h2⟩ := hr k e.symm
    obtain ⟨ob, h3, h4⟩ := h.cells hk
    rw [h1] at h3; cases h3
    rw [h2] at h4; cases h4)
/-- What Fresh holds between two rounds: the clone y, what is new. -/
structure FI (W : World) (B b6 : Nat) (v : Value) (y : IxT) (vf : Value) (l : List Nat) (V : World) : Prop where
  at_ : y.At V B
  c4 : V.cell? ⟨W.heap.size, 0, none⟩ = some vf
  f4 : V.frozen? ⟨W.heap.size, 0, none⟩ = false
  c6 : V.cell? ⟨b6, 0, none⟩ = some (.pointer (some ⟨y.p, 0, none⟩))
  cx : V.cell? ⟨b6 + 1, 0, none⟩ = some v
  row : V.ownsRow (b6 + 2) 3 1 vf l.length (natsL l)
  low : W.heap.size < b6
  hp : W.heap.size ≤ y.p
  hv : ∀ k, y.vr.ownBlock = some k → W.heap.size ≤ k
  has : ∀ k, y.Has k → k ≠ W.heap.size ∧ k ≠ b6 ∧ k ≠ b6 + 1 ∧ vf.ownBlock ≠ some k
  bel : Below W.heap.size W V
theorem FI.size {W : World} {B b6 : Nat} {v : Value} {y : IxT} {vf : Value} {l : List Nat} {V : World} (h : FI W B b6 v y vf l V) : b6 + 2 ≤ V.heap.size := World.block_lt_of_cell? V _ h.cx
theorem FI.below {W : World} {B b6 : Nat} {v : Value} {y : IxT} {vf : Value} {l : List Nat} {V V' : World} (h : FI W B b6 v y vf l V) (hb : Below V.heap.size V V') : FI W B b6 v y vf l V' :=
  ⟨h.at_.below hb, cell_below hb h.c4, frozen_below hb h.c4 h.f4, cell_below hb h.c6, cell_below hb h.cx, owns_below h.row hb, h.low, h.hp, h.hv, h.has, h.bel.trans (hb.mono h.bel.size)⟩
theorem FI.turn {W : World} {B b6 Bs : Nat} {v : Value} {y : IxT} {vf : Value} {l : List Nat} {V V' : World} {row : Option Nat} (hB : W.heap.size ≤ Bs) (hg : V.grownBy V' row) (hr : ∀ r, row = some r → Bs ≤ r ∧ ∃ o : Obj, V.heap[r]? = some o ∧ o.isCells = false) (h : FI W B b6 v y vf l V) : FI W B b6 v y vf l V' := by
  have h2 : ∀ r, row = some r → ∃ o : Obj, V.heap[r]? = some o ∧ o.isCells = false := fun r e => (hr r e).2
  exact ⟨h.at_.turn hg h2, turn_cell hg h2 h.c4, turn_frozen hg h2 h.c4 h.f4, turn_cell hg h2 h.c6, turn_cell hg h2 h.cx, turn_owns hg h2 h.row, h.low, h.hp, h.hv, h.has, turn_below hg hr hB h.bel.size h.bel⟩
theorem FI.step {W : World} {B b6 : Nat} {v : Value} {y y' : IxT} {vf : Value} {l : List Nat} {V V' : World} (h : FI W B b6 v y vf l V) (ha : y'.At V' B) (hs : y.Step V y' V') : FI W B b6 v y' vf l V' := by
  have hz := h.size
  have hl := h.low
  have s4 := hs.same (k := W.heap.size) (by omega) (fun e => (h.has _ e).1 rfl)
  have s6 := hs.same (k := b6) (by omega) (fun e => (h.has _ e).2.1 rfl)
  have sx := hs.same (k := b6 + 1) (by omega) (fun e => (h.has _ e).2.2.1 rfl)
  have hvs := hs.2.vr
  refine ⟨ha, (cell_mods (a := ⟨W.heap.size, 0, none⟩) s4).trans h.c4, (frozen_mods (a := ⟨W.heap.size, 0, none⟩) s4).trans h.f4, ?_, (cell_mods (a := ⟨b6 + 1, 0, none⟩) sx).trans h.cx, owns_mods h.row fun k hk hkl => hs.same hkl (fun e => (h.has k e).2.2.2 hk), hl, by rw [← hs.1]; exact h.hp, fun k hk => ?_, fun k hk => ?_, step_below' hs.2 h.hp h.hv h.bel h.bel.size⟩
  · rw [← hs.1]; exact (cell_mods (a := ⟨b6, 0, none⟩) s6).trans h.c6
  · rcases hvs with e | ⟨q, e, hq⟩
    · exact h.hv k (by rw [← e]; exact hk)
    · rw [e] at hk; cases hk; omega
  · rcases hs.has hk with e | e
    · exact h.has k e
    · refine ⟨by omega, by omega, by omega, fun e2 => ?_⟩
      have := owns_lt h.row k e2
      omega
theorem FI.add {W : World} {B b6 : Nat} {v : Value} {y : IxT} {vf : Value} {l : List Nat} {V : World} (h : FI W B b6 v y vf l V) (d : List UInt8) (i py : Nat) (hpy : y.p = py) (hd : d.length = 32) (hs : y.rs.flatten.length + 1 ≤ 1000000) (hne : ∀ r ∈ y.rs, r ≠ []) (hB : B ≤ W.heap.size) :
    (findI y.rs.flatten d = none → Calls Tryd.prog 27 #[.pointer (some ⟨py, 0, none⟩), .agg (u8s d).toArray, .int .i64 (i : Int)] V fun e w' => e = .returned (.int .i64 0) ∧ ∃ y' : IxT, y'.p = py ∧ y'.rs = addRuns y.rs (d, (i : Int)) ∧ FI W B b6 v y' vf l w' ∧ ∀ C, KeepsFrom C V w') ∧
    (findI y.rs.flatten d ≠ none → Calls Tryd.prog 27 #[.pointer (some ⟨py, 0, none⟩), .agg (u8s d).toArray, .int .i64 (i : Int)] V fun e w' => e = .returned (.int .i64 120) ∧ FI W B b6 v y vf l w' ∧ ∀ C, KeepsFrom C V w') := by
  subst hpy
  have hz := h.size
  have hl := h.low
  obtain ⟨k1, k2⟩ := addT y B d i V h.at_ hd (by omega) hs hne
  refine ⟨fun hf => (k1 hf).mono ?_, fun hf => (k2 hf).mono ?_⟩
  · rintro e w' ⟨rfl, y', e1, e2, e3⟩
    exact ⟨rfl, y', e3.1.symm, e1, h.step e2 e3, fun C => e3.keeps h.at_⟩
  · rintro e w' ⟨rfl, hb⟩
    exact ⟨rfl, h.below hb, fun C => KeepsFrom.below C hb⟩
theorem FI.app {W : World} {B b6 : Nat} {v : Value} {y : IxT} {vf vf' : Value} {l : List Nat} {V V' : World} {i : Nat} (h : FI W B b6 v y vf l V) (ho : V'.ownsRow (b6 + 2) 3 1 vf' (l.length + 1) (natsL l ++ [.int .i64 (i : Int)]))
    (hg : (V.alloc (.cells #[.int .i64 (i : Int)] 3)).grownBy V' vf.ownBlock) (hat : vf'.ownBlock = vf.ownBlock ∨ vf'.ownBlock = some (V.heap.size + 1)) : FI W B b6 v y vf' (l ++ [i]) (V'.setCell ⟨W.heap.size, 0, none⟩ vf') ∧ ∀ C, KeepsFrom C V (V'.setCell ⟨W.heap.size, 0, none⟩ vf') := by
  have hb := below_alloc1 V (.cells #[.int .i64 (i : Int)] 3)
  have h1 := h.below hb
  have hz := h.size
  have hl := h.low
  have hz1 : (V.alloc (.cells #[.int .i64 (i : Int)] 3)).heap.size = V.heap.size + 1 := by simp
  have hge : ∀ k, vf.ownBlock = some k → b6 + 2 ≤ k := owns_ge h.row
  have hne : ∀ k, k < b6 + 2 → some k ≠ vf.ownBlock := fun k hk e => by have := hge k e.symm; omega
  have s4 := hg.block W.heap.size (by omega) (hne _ (by omega))
  have s6 := hg.block b6 (by omega) (hne _ (by omega))
  have sx := hg.block (b6 + 1) (by omega) (hne _ (by omega))
  have hst : ∀ k, k ≠ W.heap.size → (V'.setCell ⟨W.heap.size, 0, none⟩ vf').heap[k]? = V'.heap[k]? := fun k hk => Below.heap_setCell _ _ _ _ hk
  have c4' := (cell_mods (a := ⟨W.heap.size, 0, none⟩) s4).trans h1.c4
  refine ⟨⟨?_, set_cell c4' _, set_frozen ((frozen_mods (a := ⟨W.heap.size, 0, none⟩) s4).trans h1.f4) _, ?_, ?_, ?_, hl, h.hp, h.hv, fun k hk => ?_, ?_⟩, fun C => ?_⟩
  · exact (h1.at_.kept fun k hk => hg.block k (h1.at_.lt hk) (fun e => (h.has k hk).2.2.2 e.symm)).kept fun k hk => hst k (h.has k hk).1
  · exact set_other ((cell_mods (a := ⟨b6, 0, none⟩) s6).trans h1.c6) (by show W.heap.size ≠ b6; omega) _
  · exact set_other ((cell_mods (a := ⟨b6 + 1, 0, none⟩) sx).trans h1.cx) (by show W.heap.size ≠ b6 + 1; omega) _
  · rw [List.length_append, natsL_snoc]
    exact owns_mods ho fun k hk _ => hst k (fun e => by have := owns_ge ho k hk; omega)
  · refine ⟨(h.has k hk).1, (h.has k hk).2.1, (h.has k hk).2.2.1, fun e => ?_⟩
    rcases hat with e2 | e2
    · exact (h.has k hk).2.2.2 (by rw [← e2]; exact e)
    · rw [e2] at e; cases e
      have := h.at_.lt hk
      omega
  · exact (h1.bel.grown hg h1.bel.size (fun k hk => by have := hge k hk; omega)).setCell (p := ⟨W.heap.size, 0, none⟩) (Nat.le_refl _) _
  · refine KeepsFrom.trans' (KeepsFrom.below _ hb) (KeepsFrom.trans' (KeepsFrom.grown _ hg (fun k hk => .inr fun o ho2 => ?_)) ((KeepsOthers.setCell V' ⟨W.heap.size, 0, none⟩ vf').from _))
    obtain ⟨ob, e1, e2⟩ := owns_cells h1.row hk
    rw [ho2] at e1; cases e1
    exact e2
theorem FI.cell4 {W : World} {B b6 : Nat} {v : Value} {y : IxT} {vf : Value} {l : List Nat} {V V' : World} (h : FI W B b6 v y vf l V) (o : Obj) (hg : (V.alloc o).grownBy V' vf.ownBlock) : V'.cell? ⟨W.heap.size, 0, none⟩ = some vf ∧ V'.frozen? ⟨W.heap.size, 0, none⟩ = false := by
  have h1 := h.below (below_alloc1 V o)
  have hz := h.size
  have hl := h.low
  have hz1 : (V.alloc o).heap.size = V.heap.size + 1 := by simp
  have s4 := hg.block W.heap.size (by omega) (fun e => by have := owns_ge h.row _ e.symm; omega)
  exact ⟨(cell_mods (a := ⟨W.heap.size, 0, none⟩) s4).trans h1.c4, (frozen_mods (a := ⟨W.heap.size, 0, none⟩) s4).trans h1.f4⟩
end Go.Proofs.YthgjecofmnomfaaDoor
namespace Go.Proofs.YthgjecofmnomfaaDoor
open Go.RowKit Go.Shelf
attribute [local go_sem] Oper.semAt_some
set_option maxRecDepth 100000

theorem wpListIn_store_run {F : Fence} {n : Nat} {P : Program} {w : World} {ops : Array Oper} {rest : List Oper} {o : Oper} {a : Act} {Q : Exit → Act → World → Prop} (hg : o.guard = Option.none) (ty : TypeId) (x y : Operand) (ho : o.op = .store ty x y)
    (p v : Value) (hx : a.eval x = p) (hy : a.eval y = v) (w' : World) (hr : (Instr.storeAt ty p v).run P w = .ok () w') (h : wpListIn F n P ops Q rest (a.put o.dst undef) w') : wpListIn F n P ops Q (o :: rest) a w := by
  refine wpListIn_plain hg fun K' hK' => ?_
  unfold Oper.wpIn
  refine ⟨by simp [Oper.about, ho], ?_⟩
  rw [Oper.semAt_plain F _ _ (by rw [ho]; intro c hc'; cases hc')]
  simp [execOp, ho, hx, hy, hr, Result.andThen]
  exact hK' _ _ h
/-- The law of a range over a function, with what a round's assignment laid. -/
theorem wpIn_range3 {F : Fence} {n : Nat} {P : Program} {α : Type} {g : Operand} {ps : Array Tmp} {assign body : Code} {Q : Exit → Act → World → Prop} {a : Act} {w : World}
    (hro : F.round = none) (h1 : 1 ≤ n) {gf : Nat} {lb : Array Value} (hg : a.eval g = .func (.func gf) #[] lb) (hFg : F.fn gf) (eg : ∀ args w, (callFunc gf args).run P w = .ok (.enter gf args) w)
    {xs : List α} {Hand : α → Array Value → World → World → Prop} {R : World → Prop} (hit : Iter F (n - 1) P gf lb xs Hand R) (hH : Steady Hand)
    (hps : ∀ x args W0 W1, Hand x args W0 W1 → args.size = ps.size)
    (I : List α → World → Prop) (Ix : Code → World → Prop) (hI : OwnFrom w.heap.size I) (hIx : OwnFrom w.heap.size Ix) (hIR : ∀ pre W, I pre W → R W) (h0 : I [] w)
    (hround : ∀ (l : Nat) (x : α) (args : Array Value) (W0 W1 : World), w.heap.size ≤ W0.heap.size → Below W0.heap.size W0 W1 → Hand x args W0 W1 →
      assign.wpIn (F.inRound l) (n - 1 - 1) P (Exit.then (fun a' W2 => Below W1.heap.size W1 W2 ∧ ∃ Ex : World → World → Prop, Ex W0 W2 ∧ (∀ V0 V2 l o o', Ex V0 V2 → V0.heap[l]? = some o → V2.heap[l]? = some o → o.isCells = false → Ex (V0.putObj l o') (V2.putObj l o')) ∧
        ∀ (l' : Nat) (pre rest : List α) (V0 V2 : World), w.heap.size ≤ l' → xs = pre ++ x :: rest → I pre V0 → Below V0.heap.size V0 V2 → Hand x args V0 V2 → Ex V0 V2 →
        body.wpIn (F.inRound l') (n - 1 - 1) P (roundPost w.heap.size I Ix (pre ++ [x]) V2) a' V2) (fun _ _ _ => False)) { tmps := (ps.zip args).foldl (fun t (p, v) => t.setIfInBounds p v) a.tmps, defers := [] } W1)
    (hdone : ∀ (D : Nat) (W0 W : World), w.heap.size ≤ D → I xs W0 → Below W0.heap.size W0 W → W.heap[D]? = some (.deferred (some [])) → Q .normal { a with defers := { target := .collected D, args := #[] } :: a.defers } W)
    (hstop : ∀ (D : Nat) (c : Code) (W0 W : World), w.heap.size ≤ D → Ix c W0 → Below W0.heap.size W0 W → W.heap[D]? = some (.deferred (some [])) → c.wpIn F n P Q { a with defers := { target := .collected D, args := #[] } :: a.defers } W) :
    (Code.rangeFunc g ps assign body).wpIn F n P Q a w := by
  refine wpIn_range hro h1 hg hFg eg hit hps I Ix hI hIx hIR h0
    (fun x a' W0 W1 => ∃ (args : Array Value) (Ex : World → World → Prop), Hand x args W0 W1 ∧ Ex W0 W1 ∧ (∀ V0 V2 l o o', Ex V0 V2 → V0.heap[l]? = some o → V2.heap[l]? = some o → o.isCells = false → Ex (V0.putObj l o') (V2.putObj l o')) ∧ ∀ (l' : Nat) (pre rest : List α) (V0 V2 : World), w.heap.size ≤ l' → xs = pre ++ x :: rest → I pre V0 → Below V0.heap.size V0 V2 → Hand x args V0 V2 → Ex V0 V2 →
        body.wpIn (F.inRound l') (n - 1 - 1) P (roundPost w.heap.size I Ix (pre ++ [x]) V2) a' V2) ?_ ?_ ?_ hdone hstop
  · rintro x a' W0 W1 l o o' ⟨args, Ex, hh, hE, hX, hb⟩ h1 h2 h3
    exact ⟨args, Ex, hH.turn _ _ _ _ _ _ _ hh h1 h2 h3, hX _ _ _ _ _ hE h1 h2 h3, hX, hb⟩
  · intro l x args W0 W1 K hs hb hh hK
    refine wpIn_mono (hround l x args W0 W1 hs hb hh) ?_
    intro e a' W' h
    cases e with
    | normal => obtain ⟨h1, Ex, h2, h3, h4⟩ := h; exact hK a' W' h1 ⟨args, Ex, hH.later _ _ _ _ _ hh h1, h2, h3, h4⟩
    | _ => exact h
  · rintro l pre x rest a' W0 W1 hl _ hxs hi hb ⟨args, Ex, hh, hE, hX, hbd⟩
    exact hbd l pre rest W0 W1 hl hxs hi hb hh hE

/-- The function leaves with one mark; its result lies in a cell, and points into memory. -/
theorem leaves_one_turn {F : Fence} {n : Nat} {P : Program} {fn : Func} {tmps : Array Value} {R : Ending → World → Prop} {w W : World} {D : Nat} {a : Addr} {x : Value} (v : Value)
    (h1 : W.heap[D]? = some (.deferred (some []))) (hD : w.heap.size ≤ D) (hB : Below w.heap.size w W) (ha : W.cell? a = some x)
    (hr : ∀ W', W'.cell? a = some x → (results fn tmps).run P W' = .ok v W') (hR : ∀ W', W.grownBy W' (some D) → Below w.heap.size w W' → R (.returned v) W') :
    LeavesInM F n P fn tmps R [{ target := .collected D, args := #[] }] .returning W := by
  refine ⟨by simp, .inl ⟨_, _, rfl, run_takeDeferred h1, ?_⟩⟩
  exact ⟨_, hr _ (put_cell h1 ha _), hR _ (grown_putObj W h1 _) (hB.trans (belowK_b (w := w) (Nat.le_refl _) W D _ _ hD h1 rfl rfl))⟩
set_option maxHeartbeats 4000000 in
theorem ifresh_calls (x : IxT) (items : List Item) (v : Value) (ms : List (List UInt8)) (vs : List Value) (B : Nat) (W : World) (hx : x.At W B) (hB : B ≤ W.heap.size) (hg : Good x.rs items) (hv : LL W v ms vs) (hT : LaidH W) (hG : 2 < W.heap.size)
    (hr : x.rs.flatten.length ≤ 100000) (hs : (ms.map List.length).sum + ms.length ≤ 1048576) :
    Calls Tryd.prog 30 #[.pointer (some ⟨x.p, 0, none⟩), v] W fun e w' => ∃ vf, e = .returned (.tuple #[vf, .int .i64 0]) ∧ w'.ownsRow (W.heap.size + 1) 3 1 vf (frN ms x.rs ms.length).2.length (natsL (frN ms x.rs ms.length).2) ∧ Below W.heap.size W w' := by
  obtain ⟨A, c, rfl, hlc, hc, hn2⟩ := hv.form
  have HV := Lib.hid (And.intro hv (And.intro hT hG))
  have hms : ∀ m ∈ ms, m.length ≤ 120000000000000 := fun m hm => by have := len_le_sum hm; omega
  have HC := Lib.hid hms
  have HN := Lib.hid (fun i => frN_good (ms := ms) hg i)
  have HF := Lib.hid (fun i hi => frN_few (ms := ms) hr hs (i := i) hi)
  have HLT := Lib.hid (fun k => @IxT.At.lt x W B hx k)
  have b0 := below_alloc1 W (.cells #[.slice none 0 0] 42)
  have z0 : (W.alloc (.cells #[.slice none 0 0] 42)).heap.size = W.heap.size + 1 := by simp
  have n0 := new_cell W (.slice none 0 0) 42
  have f0 := new_frozen W #[.slice none 0 0] 42 0
  have KC := Lib.hid (cloneT x B _ (hx.below b0) (by omega) hg.ne)
  have H0 := Lib.hid (And.intro b0 (And.intro n0 f0))
  clear hv hT hG hms hg hr b0 n0 f0 hx hc
  refine (callsIn_wide (n := 9)).1 ?_
  refine callsIn_of_wp_marks Tryd.func30 rfl trivial ?_ rfl
  simp only [Tryd.ntmps30, List.size_toArray, List.length_cons, List.length_nil, Nat.reduceAdd, Nat.reduceSub, Array.replicate_succ, Array.replicate_zero, List.push_toArray, List.append_toArray, List.nil_append, List.cons_append]
  gi_wp2_with (first
    | (refine ⟨trivial, ?_⟩; gi_at_call 47; refine (callsIn_wide.2 KC.out).mono ?_; rintro e w1 ⟨y, rfl, e1, e2, e3, e4, e5, hB1⟩; rw [z0] at e3 hB1; have HE := Lib.hid (And.intro e1 (And.intro e2 (And.intro e4 (And.intro e5 hB1)))); clear e1 e2 e4 e5 hB1)
    | (refine ⟨trivial, ?_⟩; gi_at_call 48; refine (callsIn_wide.2 (hashed_calls _ _ A ms.length c rfl)).mono ?_; rintro e w2 ⟨rfl, rfl⟩))
  have hW1 : FI W B w1.heap.size (.slice A ms.length c) y (.slice none 0 0) [] ((w1.alloc (.cells #[.pointer (some ⟨y.p, 0, none⟩)] 56)).alloc (.cells #[.slice A ms.length c] 41)) := by
    obtain ⟨e1, e2, e4, e5, hB1⟩ := HE.out
    obtain ⟨b0, n0, f0⟩ := H0.out
    have hz1 := hB1.size
    rw [z0] at hz1
    have h4 : w1.cell? ⟨W.heap.size, 0, none⟩ = some (.slice none 0 0) := (hB1.cell (p := ⟨W.heap.size, 0, none⟩) (Nat.lt_succ_self _)).trans n0
    have h4f : w1.frozen? ⟨W.heap.size, 0, none⟩ = false := (hB1.frozen (p := ⟨W.heap.size, 0, none⟩) (Nat.lt_succ_self _)).trans f0
    have c1 := below_alloc1 w1 (.cells #[.pointer (some ⟨y.p, 0, none⟩)] 56)
    have c2 := below_alloc1 (w1.alloc (.cells #[.pointer (some ⟨y.p, 0, none⟩)] 56)) (.cells #[.slice A ms.length c] 41)
    have c12 := below_then c1 c2
    have hcx := new_cell (w1.alloc (.cells #[.pointer (some ⟨y.p, 0, none⟩)] 56)) (.slice A ms.length c) 41
    rw [World.size_alloc] at hcx
    refine ⟨e5.below c12, cell_below c12 h4, frozen_below c12 h4 h4f, cell_below c2 (new_cell w1 _ _), hcx, by simpa [natsL] using World.ownsRow_nil _ _ _ _, by omega, by omega, fun k hk => by have := e4 k hk; rw [z0] at this; omega, fun k hk => ?_, (b0.trans (hB1.mono (by omega))).trans (c12.mono (by omega))⟩
    have hlt := e5.lt hk
    have hne : k ≠ W.heap.size := fun e => by
      subst e
      rcases hk with h | h | ⟨u, hu, h⟩
      · omega
      · have := e4 _ h; rw [z0] at this; omega
      · have := HLT.out _ (.inr (.inr ⟨u, by rw [← e2]; exact hu, h⟩)); omega
    exact ⟨hne, by omega, by omega, fun e => by cases e⟩
  have HRS := Lib.hid HE.out.1
  have HV1 := Lib.hid (fun V (hb : Below W.heap.size W V) => (show LL V (.slice A ms.length c) ms vs ∧ LaidH V ∧ 2 < V.heap.size from ⟨HV.out.1.below hb, HV.out.2.1.below hb, Nat.lt_of_lt_of_le HV.out.2.2 hb.size⟩))
  clear HE KC H0 z0 HLT HV
  generalize w1.heap.size = b6 at *
  generalize hpy : y.p = py at *
  have HPY := Lib.hid hpy; clear hpy
  generalize hWs : (w1.alloc (.cells #[.pointer (some ⟨py, 0, none⟩)] 56)).alloc (.cells #[.slice A ms.length c] 41) = Ws at *
  have HW1 := Lib.hid hW1; clear hW1 hWs
  have hWW : W.heap.size ≤ Ws.heap.size := HW1.out.bel.size
  refine wpIn_range3 (by rfl) (by omega) (gf := 58) (lb := #[.pointer (some ⟨b6 + 1, 0, none⟩)]) (by rfl) trivial (enters_of Tryd.func58 (by kernel_rfl) rfl)
    (hashed_iter 8 (by omega) (b6 + 1) _ ms vs HC.out) (HandL.steady ms) (by rintro x args W0 W1 ⟨h, rfl⟩; rfl)
    (fun pre V => ∃ (y : IxT) (vf : Value), y.p = py ∧ y.rs = (frN ms x.rs pre.length).1 ∧ FI W B b6 (.slice A ms.length c) y vf (frN ms x.rs pre.length).2 V) (fun _ _ => False)
    (fun s X Y row h hg hr => let ⟨y, vf, e1, e2, h3⟩ := h; ⟨y, vf, e1, e2, h3.turn hWW hg hr⟩) (fun s X Y row h hg hr => h)
    (fun pre V h => let ⟨y, vf, e1, e2, h3⟩ := h; ⟨h3.cx, (HV1.out V h3.bel).1, (HV1.out V h3.bel).2.1, (HV1.out V h3.bel).2.2⟩) ⟨y, _, HPY.out, HRS.out, HW1.out⟩ ?round ?done ?stop
  case round =>
    rintro lp i args W0 W1 hs0 hb ⟨hi, rfl⟩
    have d32 := sha_length (0 :: ms[i])
    generalize hd : sha (0 :: ms[i]) = d at *
    have HD := Lib.hid hd; clear hd
    have HST := Lib.hid (store_digest_new W1 d32)
    have hrn := range_new W1 d
    gi_wp2_with (first | (refine wpListIn_store_run rfl 63 _ _ rfl _ _ rfl rfl _ (HST.out _ rfl) ?_; simp only [Act.put]))
    refine ⟨below_alloc1 _ _, BoxD W1.heap.size d, hrn, BoxD.turn, ?_⟩
    generalize W1.heap.size = b8 at *
    clear HST hrn
    rintro l' pre rest V0 V2 hl' hxs ⟨y', vf, hyp, hyr, hFI⟩ hbV _ hbox
    obtain ⟨-, p2, p3⟩ := range_split hxs
    subst p2
    have hF := hFI.below hbV
    have hld := load_digest d32 hbox
    have hfew := HF.out pre.length (by omega)
    obtain ⟨it, hgd⟩ := HN.out pre.length
    rw [← hyr] at hfew hgd
    obtain ⟨k1, k2⟩ := hF.add d pre.length py hyp d32 (by omega) hgd.ne hB
    have hcnt := (frN_count ms x.rs pre.length).2
    have c4 := hF.c4
    have c6 := hF.c6
    rw [hyp] at c6
    have HPL := Lib.hid (show (pre ++ [pre.length]).length = pre.length + 1 by simp)
    have HFS := Lib.hid (And.intro (fun h => frN_none (rs := x.rs) hi h) (fun h => frN_some (rs := x.rs) hi h))
    rw [HD.out] at HFS
    rw [← hyr] at HFS
    have HYR := Lib.hid hyr; clear hyr
    have HFO := Lib.hid hF
    obtain ⟨Af, cf, rfl, f1, f2, f3⟩ := owns_form hF.row
    clear hF hFI hxs hbox hgd hfew
    generalize hln : (frN ms x.rs pre.length).2.length = ln at *
    have HLN := Lib.hid hln; clear hln
    cases hf : findI y'.rs.flatten d with
    | none =>
      have KA := Lib.hid (k1 hf)
      have HS := Lib.hid (HFS.out.1 hf)
      clear k1 k2 hf HFS
      gi_wp2_with (first
        | (refine wpListIn_load_run rfl 63 _ rfl _ _ rfl hld ?_)
        | (refine ⟨trivial, ?_⟩; gi_at_call 27; refine (callsIn_wide.2 KA.out).mono ?_; rintro e w3 ⟨rfl, y2, e1, e2, hF3, hK3⟩; have c43 := hF3.c4; have hrow3 := hF3.row; rw [HLN.out] at hrow3; have HROW := Lib.hid hrow3; have HF3 := Lib.hid hF3; clear hF3 hrow3)
        | (gi_at_builtin; refine wpListIn_app_row rfl _ _ 42 3 rfl Tryd.underlying42 info_int rfl (by omega) (b6 + 2) (.slice Af ln cf) rfl ln (natsL (frN ms x.rs pre.length).2) HROW.out (.int .i64 (pre.length : Int)) rfl rfl ?_ HF3.out.size ?_; (· omega); intro vf2 w4 hown4 hg4 hat4; have hc44 := (HF3.out.cell4 _ hg4).1; have hf44 := (HF3.out.cell4 _ hg4).2; have hap := HF3.out.app (vf' := vf2) (V' := w4) (i := pre.length) (by rw [HLN.out]; exact hown4) hg4 hat4; have HAP := Lib.hid hap; obtain ⟨A4, q4, e4, -, -, -⟩ := owns_form hown4; subst e4; clear hap hown4 hg4 hat4))
      refine ⟨KeepsFrom.trans' (hK3 _) (HAP.out.2 _), y2, .slice A4 (ln + 1) q4, e1, ?_, ?_⟩
      · rw [HPL.out, HS.out]; exact e2
      · rw [HPL.out, HS.out]; exact HAP.out.1
    | some z =>
      have KA := Lib.hid (k2 (by rw [hf]; exact fun h => by cases h))
      have HS := Lib.hid (HFS.out.2 (by rw [hf]; exact fun h => by cases h))
      clear k1 k2 hf HFS
      gi_wp2_with (first
        | (refine wpListIn_load_run rfl 63 _ rfl _ _ rfl hld ?_)
        | (refine ⟨trivial, ?_⟩; gi_at_call 27; refine (callsIn_wide.2 KA.out).mono ?_; rintro e w3 ⟨rfl, hF3, hK3⟩; have HF3 := Lib.hid hF3; clear hF3))
      refine ⟨hK3 _, y', .slice Af ln cf, hyp, ?_, ?_⟩
      · rw [HPL.out, HS.out]; exact HYR.out
      · rw [HPL.out, HS.out]; exact HF3.out
  case done =>
    rintro D W0 V hD ⟨y', vf, hyp, hyr, hFI⟩ hb hK
    rw [List.length_range] at hFI
    have hF := hFI.below hb
    have c4 := hF.c4
    have f4 := hF.f4
    have HFO := Lib.hid hF
    obtain ⟨Af, cf, rfl, f1, f2, f3⟩ := owns_form hF.row
    have hM := mark_set (a := ⟨W.heap.size, 0, none⟩) hK (by show D ≠ W.heap.size; have := HW1.out.size; have := HW1.out.low; omega) (.slice Af (frN ms x.rs ms.length).2.length cf)
    have HM := Lib.hid hM
    clear hFI hF hyr hM hK
    generalize hln : (frN ms x.rs ms.length).2.length = ln at *
    have HLN := Lib.hid hln; clear hln
    gi_wp2
    have hcs := set_cell c4 (.slice Af ln cf)
    refine leaves_one_turn (w := W) (D := D) (a := ⟨W.heap.size, 0, none⟩) (x := .slice Af ln cf) (.tuple #[.slice Af ln cf, .int .i64 0]) HM.out (by omega) (HFO.out.bel.setCell (p := ⟨W.heap.size, 0, none⟩) (Nat.le_refl _) _) hcs (fun W' h => by simp [results, Tryd.results30, go_sem, h]) (fun W' hg hbw => ⟨.slice Af ln cf, rfl, ?_, hbw⟩)
    have hl := HFO.out.low
    have hrow := HFO.out.row
    rw [HLN.out] at hrow
    have h2 := owns_mods hrow (w' := V.setCell ⟨W.heap.size, 0, none⟩ (.slice Af ln cf)) fun k hk _ => Below.heap_setCell _ _ _ _ (fun e => by have := owns_ge hrow k hk; have e2 : k = W.heap.size := e; omega)
    have h3 := turn_owns hg (row := some D) (fun r e => by cases e; exact ⟨_, HM.out, rfl⟩) h2
    have h4 : W.heap.size + 1 ≤ b6 + 2 := by omega
    rw [HLN.out]
    exact owns_lower h3 h4
  case stop =>
    rintro D c' W0 W _ h
    exact h.elim
end Go.Proofs.YthgjecofmnomfaaDoor
namespace Go.Proofs.YthgjecofmnomfaaDoor
open Go.RowKit
set_option maxRecDepth 100000

theorem RunV.lt {w : World} {v : Value} {xs : List Item} (h : RunV w v xs) (hw : Wid xs) (hne : 0 < xs.length) : ∀ k, v.ownBlock = some k → k < w.heap.size := by
  obtain ⟨A, c, rfl, h1, h2, h3, h4⟩ := h
  intro k hk
  cases A with
  | none => cases hk
  | some ad =>
    cases hk
    have hl := itemsL_length xs hw
    have := (h4 ad rfl).2 0 _ (List.getElem?_eq_getElem (show 0 < (itemsL xs).length by omega))
    exact World.block_lt_of_cell? w ⟨ad.block, ad.off + 0, none⟩ this
theorem Row.lt {w : World} {v : Value} {n : Nat} {cs : List Value} (h : Row w v n cs) (hne : 0 < cs.length) : ∀ k, v.ownBlock = some k → k < w.heap.size := by
  obtain ⟨A, c, rfl, h1, h2, h3, h4⟩ := h
  intro k hk
  cases A with
  | none => cases hk
  | some ad =>
    cases hk
    obtain ⟨ad', e, hc⟩ := h4 0 _ (List.getElem?_eq_getElem hne)
    cases e
    exact World.block_lt_of_cell? w _ hc
theorem carryN_pos : ∀ (rr : List Nat) (m : Nat), 0 < (carryN rr m).length
  | [], m => by simp [carryN]
  | r :: rr, m => by
    unfold carryN
    split
    · exact carryN_pos rr (2 * m)
    · simp
theorem RunV.mods {w w' : World} {v : Value} {xs : List Item} (h : RunV w v xs) (hm : ∀ k, v.ownBlock = some k → w'.heap[k]? = w.heap[k]?) : RunV w' v xs := by
  obtain ⟨A, c, rfl, h1, h2, h3, h4⟩ := h
  refine ⟨A, c, rfl, h1, h2, h3, fun ad ha => ⟨(h4 ad ha).1, fun j u hu => ?_⟩⟩
  subst ha
  exact (cell_mods (a := ⟨ad.block, ad.off + j, none⟩) (hm ad.block rfl)).trans ((h4 ad rfl).2 j u hu)
theorem Row.mods {w w' : World} {v : Value} {n : Nat} {cs : List Value} (h : Row w v n cs) (hm : ∀ k, v.ownBlock = some k → w'.heap[k]? = w.heap[k]?) : Row w' v n cs := by
  obtain ⟨A, c, rfl, h1, h2, h3, h4⟩ := h
  refine ⟨A, c, rfl, h1, h2, h3, fun j u hu => ?_⟩
  obtain ⟨ad, ha, hc⟩ := h4 j u hu
  subst ha
  refine ⟨ad, rfl, (cell_mods ?_).trans hc⟩
  have hb : (ad.add j).block = ad.block := by unfold Addr.add; split <;> rfl
  rw [hb]
  exact hm ad.block rfl
theorem RefV.mods {w w' : World} {vi vn : Value} {items : List Item} {ns : List Nat} (h : RefV w vi vn items ns) (h1 : ∀ k, vi.ownBlock = some k → w'.heap[k]? = w.heap[k]?) (h2 : ∀ k, vn.ownBlock = some k → w'.heap[k]? = w.heap[k]?) : RefV w' vi vn items ns :=
  ⟨h.itm.mods h1, h.wid, h.runs.mods h2, h.few, h.few2⟩
/-- The reference's index under one addition: what is answered, what comes of it. -/
theorem radd_any (vi vn : Value) (items : List Item) (ns : List Nat) (rs : List (List Item)) (d : List UInt8) (hd : d.length = 32) (place : Nat) (w : World) (h : RefV w vi vn items ns) (hg : Good rs items) (hl : rs.map List.length = ns) (hi : rs.flatten.length + 1 ≤ 900000) :
    ∃ (code : Int) (rs' : List (List Item)) (items' : List Item) (ns' : List Nat), Good rs' items' ∧ rs'.map List.length = ns' ∧ (findI rs.flatten d = none → code = 0 ∧ rs' = addRuns rs (d, (place : Int))) ∧ (findI rs.flatten d ≠ none → code = 120 ∧ rs' = rs) ∧
      Calls Tryd.prog 28 #[.agg #[vi, vn], .agg (u8s d).toArray, .int .i64 (place : Int)] w fun e w' => ∃ vi' vn', e = .returned (.tuple #[.agg #[vi', vn'], .int .i64 code]) ∧ Below w.heap.size w w' ∧ RefV w' vi' vn' items' ns' ∧
        ((∀ k, vi'.ownBlock = some k → (w.heap.size ≤ k ∧ k < w'.heap.size) ∨ vi.ownBlock = some k) ∧ (∀ k, vn'.ownBlock = some k → (w.heap.size ≤ k ∧ k < w'.heap.size) ∨ vn.ownBlock = some k)) := by
  have hlen := hg.perm.length_eq
  by_cases hf : findI rs.flatten d = none
  · have hf2 : findI items d = none := by rw [← hg.find]; exact hf
    have hlr := count_le hg.ne
    have hns : ns.sum = items.length := by rw [← hl, ← List.length_flatten]; exact hlen
    have hnl : ns.length ≤ items.length := by rw [← hl, List.length_map]; omega
    refine ⟨0, addRuns rs (d, (place : Int)), insI items (d, (place : Int)), addN ns, hg.add (x := (d, (place : Int))) hd hf2, by rw [addRuns_lens, hl], fun _ => ⟨rfl, rfl⟩, fun h => absurd hf h, (radd_new vi vn items ns d hd (place : Int) w h (by omega) hf2 (by omega) (by omega) (by omega)).mono ?_⟩
    rintro e w' ⟨vi', vn', rfl, hr, n1, n2, hb⟩
    refine ⟨vi', vn', rfl, hb, hr, fun k hk => .inl ⟨n1 k hk, ?_⟩, fun k hk => .inl ⟨n2 k hk, ?_⟩⟩
    · exact hr.itm.lt hr.wid (by unfold insI; rw [List.length_append, List.length_cons]; omega) k hk
    · exact hr.runs.lt (by rw [natsL_length]; unfold addN; rw [List.length_reverse]; exact carryN_pos _ _) k hk
  · have hf2 : findI items d ≠ none := by rw [← hg.find]; exact hf
    refine ⟨120, rs, items, ns, hg, hl, fun h => absurd h hf, fun _ => ⟨rfl, rfl⟩, (radd_there vi vn items ns d hd (place : Int) w h (by omega) hf2).mono ?_⟩
    rintro e w' ⟨rfl, hb⟩
    exact ⟨vi, vn, rfl, hb, h.below hb, fun k hk => .inr hk, fun k hk => .inr hk⟩
/-- What the reference's Fresh holds: the index in its box, what is new. -/
structure RI (W : World) (vi vn : Value) (items : List Item) (ns : List Nat) (vf : Value) (l : List Nat) (V : World) : Prop where
  ref : RefV V vi vn items ns
  r0 : V.cell? ⟨W.heap.size, 0, none⟩ = some vi
  r1 : V.cell? ⟨W.heap.size, 1, none⟩ = some vn
  f0 : V.frozen? ⟨W.heap.size, 0, none⟩ = false
  f1 : V.frozen? ⟨W.heap.size, 1, none⟩ = false
  row : V.ownsRow (W.heap.size + 1) 3 1 vf l.length (natsL l)
  ne : ∀ k, (vi.ownBlock = some k ∨ vn.ownBlock = some k) → k ≠ W.heap.size ∧ k < V.heap.size ∧ vf.ownBlock ≠ some k
  bel : Below W.heap.size W V
theorem RI.size {W : World} {vi vn : Value} {items : List Item} {ns : List Nat} {vf : Value} {l : List Nat} {V : World} (h : RI W vi vn items ns vf l V) : W.heap.size + 1 ≤ V.heap.size := World.block_lt_of_cell? V _ h.r0
theorem RI.below {W : World} {vi vn : Value} {items : List Item} {ns : List Nat} {vf : Value} {l : List Nat} {V V' : World} (h : RI W vi vn items ns vf l V) (hb : Below V.heap.size V V') : RI W vi vn items ns vf l V' :=
  ⟨h.ref.below hb, cell_below hb h.r0, cell_below hb h.r1, frozen_below hb h.r0 h.f0, frozen_below hb h.r1 h.f1, owns_below h.row hb, fun k hk => ⟨(h.ne k hk).1, Nat.lt_of_lt_of_le (h.ne k hk).2.1 hb.size, (h.ne k hk).2.2⟩, h.bel.trans (hb.mono h.bel.size)⟩
theorem RI.put {W : World} {vi vn vi' vn' : Value} {items items' : List Item} {ns ns' : List Nat} {vf : Value} {l : List Nat} {V V' : World} (h : RI W vi vn items ns vf l V) (hb : Below V.heap.size V V') (hr : RefV V' vi' vn' items' ns')
    (hn : (∀ k, vi'.ownBlock = some k → (V.heap.size ≤ k ∧ k < V'.heap.size) ∨ vi.ownBlock = some k) ∧ (∀ k, vn'.ownBlock = some k → (V.heap.size ≤ k ∧ k < V'.heap.size) ∨ vn.ownBlock = some k)) :
    RI W vi' vn' items' ns' vf l ((V'.setCell ⟨W.heap.size, 0, none⟩ vi').setCell ⟨W.heap.size, 1, none⟩ vn') := by
  have h' := h.below hb
  have hz := h.size
  have hst : ∀ k, k ≠ W.heap.size → ((V'.setCell ⟨W.heap.size, 0, none⟩ vi').setCell ⟨W.heap.size, 1, none⟩ vn').heap[k]? = V'.heap[k]? := fun k hk => by
    rw [Below.heap_setCell _ _ _ _ hk, Below.heap_setCell _ _ _ _ hk]
  have hsz : ((V'.setCell ⟨W.heap.size, 0, none⟩ vi').setCell ⟨W.heap.size, 1, none⟩ vn').heap.size = V'.heap.size := by simp [World.setCell]
  have hne : ∀ k, (vi'.ownBlock = some k ∨ vn'.ownBlock = some k) → k ≠ W.heap.size ∧ k < V'.heap.size ∧ vf.ownBlock ≠ some k := fun k hk => by
    have : (V.heap.size ≤ k ∧ k < V'.heap.size) ∨ (vi.ownBlock = some k ∨ vn.ownBlock = some k) := by
      rcases hk with e | e
      · exact (hn.1 k e).imp id .inl
      · exact (hn.2 k e).imp id .inr
    rcases this with ⟨h1, h2⟩ | e
    · exact ⟨by omega, h2, fun e => by have := owns_lt h.row k e; omega⟩
    · exact h'.ne k e
  have c1 : (V'.setCell ⟨W.heap.size, 0, none⟩ vi').cell? ⟨W.heap.size, 1, none⟩ = some vn := (World.cell?_setCell_other V' _ _ vi' (by simp)).trans h'.r1
  refine ⟨hr.mods (fun k hk => hst k (hne k (.inl hk)).1) (fun k hk => hst k (hne k (.inr hk)).1), ?_, set_cell c1 vn', set_frozen (set_frozen h'.f0 _) _, set_frozen (set_frozen h'.f1 _) _, owns_mods h'.row fun k hk _ => hst k (fun e => by have := owns_ge h.row k hk; omega), fun k hk => by rw [hsz]; exact hne k hk, ?_⟩
  · exact (World.cell?_setCell_other _ _ _ vn' (by simp)).trans (set_cell h'.r0 vi')
  · exact (h'.bel.setCell (p := ⟨W.heap.size, 0, none⟩) (Nat.le_refl _) _).setCell (p := ⟨W.heap.size, 1, none⟩) (Nat.le_refl _) _
theorem RI.app {W : World} {vi vn : Value} {items : List Item} {ns : List Nat} {vf vf' : Value} {l : List Nat} {V V' : World} {i : Nat} (h : RI W vi vn items ns vf l V) (ho : V'.ownsRow (W.heap.size + 1) 3 1 vf' (l.length + 1) (natsL l ++ [.int .i64 (i : Int)]))
    (hg : (V.alloc (.cells #[.int .i64 (i : Int)] 3)).grownBy V' vf.ownBlock) (hat : vf'.ownBlock = vf.ownBlock ∨ vf'.ownBlock = some (V.heap.size + 1)) : RI W vi vn items ns vf' (l ++ [i]) V' := by
  have h1 := h.below (below_alloc1 V (.cells #[.int .i64 (i : Int)] 3))
  have hz := h.size
  have hz1 : (V.alloc (.cells #[.int .i64 (i : Int)] 3)).heap.size = V.heap.size + 1 := by simp
  have s0 := hg.block W.heap.size (by omega) (fun e => by have := owns_ge h.row _ e.symm; omega)
  refine ⟨h1.ref.mods (fun k hk => hg.block k (h1.ne k (.inl hk)).2.1 (fun e => (h.ne k (.inl hk)).2.2 e.symm)) (fun k hk => hg.block k (h1.ne k (.inr hk)).2.1 (fun e => (h.ne k (.inr hk)).2.2 e.symm)),
    (cell_mods (a := ⟨W.heap.size, 0, none⟩) s0).trans h1.r0, (cell_mods (a := ⟨W.heap.size, 1, none⟩) s0).trans h1.r1, (frozen_mods (a := ⟨W.heap.size, 0, none⟩) s0).trans h1.f0, (frozen_mods (a := ⟨W.heap.size, 1, none⟩) s0).trans h1.f1, by rw [List.length_append, natsL_snoc]; exact ho, fun k hk => ⟨(h.ne k hk).1, ?_, fun e => ?_⟩, h1.bel.grown hg h1.bel.size (fun k hk => by have := owns_ge h.row k hk; omega)⟩
  · exact Nat.lt_of_lt_of_le (h1.ne k hk).2.1 hg.size
  · rcases hat with e2 | e2
    · exact (h.ne k hk).2.2 (by rw [← e2]; exact e)
    · rw [e2] at e; cases e
      have := (h.ne _ hk).2.1
      omega
theorem load_ref {w : World} {b : Nat} {vi vn : Value} (h0 : w.cell? ⟨b, 0, none⟩ = some vi) (h1 : w.cell? ⟨b, 1, none⟩ = some vn) : (Instr.loadAt 60 (.pointer (some ⟨b, 0, none⟩))).run Tryd.prog w = .ok (.agg #[vi, vn]) w := by
  have hs : (Tryd.prog.info? 60).map (·.size) = some 2 := by kernel_rfl
  have := run_loadAt_mid (P := Tryd.prog) w b 0 60 [vi, vn] _ (fun j v hv => by
    rw [Nat.zero_add]
    rcases j with _ | _ | j
    · cases hv; exact h0
    · cases hv; exact h1
    · simp at hv) Tryd.underlying60 rfl (by rw [hs]; rfl)
  exact this
set_option maxHeartbeats 4000000 in
theorem rfresh_calls (vi vn : Value) (items : List Item) (ns : List Nat) (rs : List (List Item)) (v : Value) (ms : List (List UInt8)) (vs : List Value) (W : World) (hr : RefV W vi vn items ns) (hlt : ∀ k, (vi.ownBlock = some k ∨ vn.ownBlock = some k) → k < W.heap.size) (hg : Good rs items) (hl : rs.map List.length = ns)
    (hv : LL W v ms vs) (hrl : rs.flatten.length ≤ 100000) (hs : (ms.map List.length).sum + ms.length ≤ 1048576) :
    Calls Tryd.prog 31 #[.agg #[vi, vn], v] W fun e w' => ∃ vf, e = .returned vf ∧ w'.ownsRow (W.heap.size + 1) 3 1 vf (frN ms rs ms.length).2.length (natsL (frN ms rs ms.length).2) ∧ Below W.heap.size W w' := by
  obtain ⟨A, c, rfl, hlc, hc, hn2⟩ := hv.form
  obtain ⟨Ai, ci, rfl, i1, i2⟩ := hr.itm.form
  obtain ⟨An, cn, rfl, n1, n2⟩ := row_form hr.runs
  have HV := Lib.hid hv
  have HF := Lib.hid (fun i hi => frN_few (ms := ms) hrl hs (i := i) hi)
  have b0 := below_alloc1 W (.cells #[.slice Ai items.length ci, .slice An ns.length cn] 60)
  have h0 := heap_alloc_new W (.cells #[.slice Ai items.length ci, .slice An ns.length cn] 60)
  have H0 : Hid (∃ (vi' vn' : Value) (items' : List Item) (ns' : List Nat), Good (frN ms rs 0).1 items' ∧ (frN ms rs 0).1.map List.length = ns' ∧ RI W vi' vn' items' ns' (.slice none 0 0) (frN ms rs 0).2 (W.alloc (.cells #[.slice Ai items.length ci, .slice An ns.length cn] 60))) :=
    Lib.hid ⟨_, _, _, _, hg, hl, hr.below b0, cell_of_row _ W.heap.size 0 _ _ (0, 0) h0, cell_of_row _ W.heap.size 1 _ _ (0, 0) h0, new_frozen W _ _ 0, new_frozen W _ _ 1, by simpa [frN, natsL] using World.ownsRow_nil _ _ _ _, fun k hk => ⟨fun e => by have := hlt k hk; omega, by have := hlt k hk; simp; omega, fun e => by cases e⟩, b0⟩
  clear hv hr hlt hg hl hrl b0 h0 hc
  go_enter Tryd.func31, Tryd.ntmps31
  go_wp2
  go_loopw [5, 6] (fun vf i wr => ∃ (j : Nat), j ≤ ms.length ∧ i = .int .i64 (j : Int) ∧ Hid (∃ (vi vn : Value) (items : List Item) (ns : List Nat), Good (frN ms rs j).1 items ∧ (frN ms rs j).1.map List.length = ns ∧ RI W vi vn items ns vf (frN ms rs j).2 wr)) (fun _ i _ => ms.length - (intOf i).toNat)
  case atStart => exact ⟨0, by omega, rfl, H0⟩
  case round =>
    obtain ⟨j, hj, rfl, HR⟩ := hrel
    clear H0
    obtain ⟨vi, vn, items, ns, hg, hl, hR⟩ := HR.out
    clear HR
    obtain ⟨Af, cf, rfl, f1, f2, f3⟩ := owns_form hR.row
    by_cases hlt : j < ms.length
    · have hfew := HF.out j hj
      obtain ⟨ad, u, rfl, hcell, hbu⟩ := (HV.out.below hR.bel).at_ j hlt
      have KL := Lib.hid (rleaf_calls u ms[j] wr hbu (by have := len_le_sum (List.getElem_mem hlt); omega))
      obtain ⟨Au, cu, rfl, hu1, hu2, hu3⟩ := hbu.form
      have d32 := sha_length (0 :: ms[j])
      have HFS := Lib.hid (And.intro (fun h => frN_none (rs := rs) hlt h) (fun h => frN_some (rs := rs) hlt h))
      generalize hd : sha (0 :: ms[j]) = d at *
      have HR := Lib.hid hR
      have HGL := Lib.hid (And.intro hg (And.intro hl hfew))
      have j0 : (0 : Int) ≤ (j : Int) := Int.natCast_nonneg _
      have j1 : (j : Int) < (ms.length : Int) := by omega
      have hcnt := (frN_count ms rs j).2
      clear hR hg hl hfew hbu hd
      generalize hln : (frN ms rs j).2.length = ln at *
      have HLN := Lib.hid hln; clear hln
      cases hf : findI (frN ms rs j).1.flatten d with
      | none =>
        have HFF := Lib.hid hf
        have HS := Lib.hid (HFS.out.1 hf)
        clear hf HFS
        go_wp2_with (first
          | (go_at_call 49; refine KL.out.mono ?_; rintro e w1 ⟨rfl, hB1⟩; have HST := Lib.hid (store_digest_new w1 d32); have hR2 := (HR.out.below hB1).below (below_alloc1 w1 (.cells (u8s d).toArray 63)); have HLR := Lib.hid (load_ref hR2.r0 hR2.r1); have HLD := Lib.hid (load_digest d32 (range_new w1 d)); have HR2 := Lib.hid hR2; clear hR2 hB1)
          | (refine wpList_store_run rfl 63 _ _ rfl _ _ rfl rfl _ (HST.out _ rfl) ?_; simp only [Act.put])
          | (refine wpList_load_run rfl 60 _ rfl _ _ rfl HLR.out ?_)
          | (refine wpList_load_run rfl 63 _ rfl _ _ rfl HLD.out ?_)
          | (go_at_call 28; obtain ⟨code, rs', items', ns', g1, g2, g3, g4, K⟩ := radd_any vi vn items ns _ d d32 j _ HR2.out.ref HGL.out.1 HGL.out.2.1 (by have := HGL.out.2.2; omega); obtain ⟨q1, q2⟩ := g3 HFF.out; subst q1; subst q2; refine K.mono ?_; rintro e w3 ⟨vi', vn', rfl, hB3, hr3, hn3⟩; have H3 := Lib.hid (And.intro g1 (And.intro g2 (And.intro hB3 (And.intro hr3 hn3)))); obtain ⟨Ai', ci', e5, _, _⟩ := hr3.itm.form; obtain ⟨An', cn', e6, _, _⟩ := row_form hr3.runs; subst e5; subst e6; have p0 := cell_below hB3 HR2.out.r0; have p1 := cell_below hB3 HR2.out.r1; have t0 := frozen_below hB3 HR2.out.r0 HR2.out.f0; have t1 := frozen_below hB3 HR2.out.r1 HR2.out.f1; have HP := Lib.hid (HR2.out.put hB3 hr3 hn3); have hrow := HP.out.row; rw [HLN.out] at hrow; have HROW := Lib.hid hrow; have HG3 := Lib.hid (And.intro g1 g2); clear g1 g2 g3 g4 K hB3 hr3 hn3 hrow H3)
          | (at_builtin; refine app_row rfl _ _ 42 3 rfl Tryd.underlying42 info_int rfl (by omega) (W.heap.size + 1) (.slice Af ln cf) rfl ln (natsL (frN ms rs j).2) HROW.out (.int .i64 (j : Int)) (by rw [World.size_setCell, World.size_setCell]; rfl) rfl ?_ HP.out.size ?_; (· omega); intro vf2 w4 hown4 hg4 hat4; have HA := Lib.hid (HP.out.app (vf' := vf2) (V' := w4) (i := j) (by rw [HLN.out]; exact hown4) hg4 hat4); clear hown4 hg4 hat4))
        go_roundw
        case rel => exact ⟨j + 1, by omega, by go_num, Lib.hid ⟨_, _, items', ns', by rw [HS.out]; exact HG3.out.1, by rw [HS.out]; exact HG3.out.2, by rw [HS.out]; exact HA.out⟩⟩
        case measure => simp [intOf]; omega
      | some z =>
        have HFF := Lib.hid (show findI (frN ms rs j).1.flatten d ≠ none by rw [hf]; exact fun h => by cases h)
        have HS := Lib.hid (HFS.out.2 HFF.out)
        clear hf HFS
        go_wp2_with (first
          | (go_at_call 49; refine KL.out.mono ?_; rintro e w1 ⟨rfl, hB1⟩; have HST := Lib.hid (store_digest_new w1 d32); have hR2 := (HR.out.below hB1).below (below_alloc1 w1 (.cells (u8s d).toArray 63)); have HLR := Lib.hid (load_ref hR2.r0 hR2.r1); have HLD := Lib.hid (load_digest d32 (range_new w1 d)); have HR2 := Lib.hid hR2; clear hR2 hB1)
          | (refine wpList_store_run rfl 63 _ _ rfl _ _ rfl rfl _ (HST.out _ rfl) ?_; simp only [Act.put])
          | (refine wpList_load_run rfl 60 _ rfl _ _ rfl HLR.out ?_)
          | (refine wpList_load_run rfl 63 _ rfl _ _ rfl HLD.out ?_)
          | (go_at_call 28; obtain ⟨code, rs', items', ns', g1, g2, g3, g4, K⟩ := radd_any vi vn items ns _ d d32 j _ HR2.out.ref HGL.out.1 HGL.out.2.1 (by have := HGL.out.2.2; omega); obtain ⟨q1, q2⟩ := g4 HFF.out; subst q1; subst q2; refine K.mono ?_; rintro e w3 ⟨vi', vn', rfl, hB3, hr3, hn3⟩; obtain ⟨Ai', ci', e5, _, _⟩ := hr3.itm.form; obtain ⟨An', cn', e6, _, _⟩ := row_form hr3.runs; subst e5; subst e6; have p0 := cell_below hB3 HR2.out.r0; have p1 := cell_below hB3 HR2.out.r1; have t0 := frozen_below hB3 HR2.out.r0 HR2.out.f0; have t1 := frozen_below hB3 HR2.out.r1 HR2.out.f1; have HP := Lib.hid (HR2.out.put hB3 hr3 hn3); have HG3 := Lib.hid (And.intro g1 g2); clear g1 g2 g3 g4 K hB3 hr3 hn3))
        go_roundw
        case rel => exact ⟨j + 1, by omega, by go_num, Lib.hid ⟨_, _, items', ns', by rw [HS.out]; exact HG3.out.1, by rw [HS.out]; exact HG3.out.2, by rw [HS.out]; exact HP.out⟩⟩
        case measure => simp [intOf]; omega
    · have hjn : j = ms.length := by omega
      subst hjn
      have hrow := hR.row
      have hbel := hR.bel
      have HRW := Lib.hid hrow
      clear hR hrow
      generalize hln : (frN ms rs ms.length).2.length = ln at *
      have HLN := Lib.hid hln; clear hln
      go_wp2
      go_ret
      refine ⟨.slice Af ln cf, rfl, ?_, hbel⟩
      rw [HLN.out]; exact HRW.out
end Go.Proofs.YthgjecofmnomfaaDoor
namespace Go.Proofs.YthgjecofmnomfaaDoor
open Go.RowKit
set_option maxRecDepth 100000

theorem nil_none (w : World) : Calls Tryd.prog 41 #[.pointer none] w fun e w' => e = .returned (.bool true) ∧ w = w' := by
  go_enter Tryd.func41, Tryd.ntmps41
  go_wp2
  go_ret
  exact ⟨rfl, rfl⟩
theorem nil_clone (w : World) : Calls Tryd.prog 47 #[.pointer none] w fun e w' => e = .returned (.pointer none) ∧ w = w' := by
  go_enter Tryd.func47, Tryd.ntmps47
  go_wp2_with (go_at_call 41; refine (nil_none _).mono ?_; rintro e w' ⟨rfl, rfl⟩)
  go_ret
  exact ⟨rfl, rfl⟩
theorem nil_fresh (A : Option Addr) (n c : Nat) (w : World) : Calls Tryd.prog 30 #[.pointer none, .slice A n c] w fun e w' => e = .returned (.tuple #[.slice none 0 0, .int .i64 1]) ∧ Below w.heap.size w w' := by
  have n0 := new_cell w (.slice none 0 0) 42
  have f0 := new_frozen w #[.slice none 0 0] 42 0
  have b0 := below_alloc1 w (.cells #[.slice none 0 0] 42)
  have c1 := below_alloc1 (w.alloc (.cells #[.slice none 0 0] 42)) (.cells #[.pointer none] 56)
  have n1 := cell_below c1 n0
  have f1 := frozen_below c1 n0 f0
  have hb := below_then b0 c1
  go_enter Tryd.func30, Tryd.ntmps30
  go_wp2_with (go_at_call 47; refine (nil_clone _).mono ?_; rintro e w' ⟨rfl, rfl⟩)
  exact bodyPost_ret (v := .tuple #[.slice none 0 0, .int .i64 1]) (by simp [results, Tryd.results30, go_sem, n1]) rfl ⟨rfl, hb⟩
/-! ### leaves in memory of their own -/
/-- Slices that leave one byte of theirs behind. -/
def Lent (w : World) (B : Nat) (us : List Value) (ms : List (List UInt8)) (S : Value) : Prop :=
  us.length = ms.length ∧ ∀ (j : Nat) (hj : j < ms.length), ∃ A c, us[j]? = some (.slice A ms[j].length c) ∧ OwnB w B (.slice A (ms[j].length + 1) c) (ms[j] ++ [90]) ∧ Apart (.slice A (ms[j].length + 1) c) S
theorem Lent.below {w w1 : World} {B : Nat} {us : List Value} {ms : List (List UInt8)} {S : Value} (h : Lent w B us ms S) (hb : Below w.heap.size w w1) : Lent w1 B us ms S :=
  ⟨h.1, fun j hj => let ⟨A, c, h1, h2, h3⟩ := h.2 j hj; ⟨A, c, h1, h2.below hb, h3⟩⟩
theorem Lent.lower {w : World} {B B' : Nat} {us : List Value} {ms : List (List UInt8)} {S : Value} (h : Lent w B us ms S) (hB : B' ≤ B) : Lent w B' us ms S :=
  ⟨h.1, fun j hj => let ⟨A, c, h1, h2, h3⟩ := h.2 j hj; ⟨A, c, h1, h2.lower hB, h3⟩⟩
theorem Lent.snoc {w : World} {B : Nat} {us : List Value} {ms : List (List UInt8)} {S : Value} (h : Lent w B us ms S) {A : Option Addr} {c : Nat} {m : List UInt8} (ho : OwnB w B (.slice A (m.length + 1) c) (m ++ [90])) (ha : Apart (.slice A (m.length + 1) c) S) : Lent w B (us ++ [.slice A m.length c]) (ms ++ [m]) S := by
  refine ⟨by simp [h.1], fun j hj => ?_⟩
  by_cases hlt : j < ms.length
  · obtain ⟨A', c', h1, h2, h3⟩ := h.2 j hlt
    have e : (ms ++ [m])[j] = ms[j] := List.getElem_append_left hlt
    rw [e]
    exact ⟨A', c', by rw [List.getElem?_append_left (by rw [h.1]; exact hlt)]; exact h1, h2, h3⟩
  · have hj' : j = ms.length := by simp at hj; omega
    subst hj'
    have e : (ms ++ [m])[ms.length] = m := by simp
    rw [e]
    exact ⟨A, c, by rw [← h.1]; simp, ho, ha⟩
theorem Lent.grow {w w1 : World} {B : Nat} {us : List Value} {ms : List (List UInt8)} {S S' : Value} (h : Lent w B us ms S) (hg : w.grownBy w1 S.ownBlock) (hs : S'.ownBlock = S.ownBlock ∨ S'.ownBlock = some w.heap.size) : Lent w1 B us ms S' :=
  ⟨h.1, fun j hj => let ⟨A, c, h1, h2, h3⟩ := h.2 j hj; ⟨A, c, h1, h2.kept hg h3.ne, h3.grow (fun k hk => (h2.lt k hk).2) hs⟩⟩
theorem Lent.ll {w : World} {B B' : Nat} {us : List Value} {ms : List (List UInt8)} {S : Value} (h : Lent w B us ms S) (hr : w.ownsRow B' 23 1 S ms.length us) : LL w S ms us :=
  ⟨Row.of_owns hr, fun j hj => by
    obtain ⟨A, c, h1, h2, h3⟩ := h.2 j hj
    exact ⟨_, h1, h2.bs.pre rfl⟩⟩
theorem lent_step {W wr w2 w3 : World} {vo v3 : Value} {j : Nat} {us : List Value} {ms : List (List UInt8)} {m : List UInt8} {A2 : Option Addr} {c2 : Nat} (h1 : wr.ownsRow W.heap.size 23 1 vo j us) (h2 : Lent wr W.heap.size us ms vo) (hb : Below W.heap.size W wr)
    (ho : OwnB w2 wr.heap.size (.slice A2 (m.length + 1) c2) (m ++ [90])) (hB : Below wr.heap.size wr w2) (ho3 : w3.ownsRow W.heap.size 23 1 v3 (j + 1) (us ++ [.slice A2 m.length c2])) (hg : (w2.alloc (.cells #[.slice A2 m.length c2] 23)).grownBy w3 vo.ownBlock)
    (hat : v3.ownBlock = vo.ownBlock ∨ v3.ownBlock = some (w2.heap.size + 1)) : Lent w3 W.heap.size (us ++ [.slice A2 m.length c2]) (ms ++ [m]) v3 ∧ Below W.heap.size W w3 := by
  have hz : (w2.alloc (.cells #[.slice A2 m.length c2] 23)).heap.size = w2.heap.size + 1 := by simp
  have l2 := (h2.below hB).snoc (ho.lower hb.size) (Apart.newer (owns_lt h1) (fun k hk => (ho.lt k hk).1)).symm
  refine ⟨(l2.below (below_alloc1 w2 _)).grow hg (by rw [hz]; exact hat), ?_⟩
  exact ((hb.trans (hB.mono hb.size)).alloc (Nat.le_trans hb.size hB.size) _).grown hg (by rw [hz]; have := hb.size; have := hB.size; omega) (fun k hk => owns_ge h1 k hk)
set_option maxHeartbeats 4000000 in
theorem lent_calls (v : Value) (ms : List (List UInt8)) (vs : List Value) (W : World) (hv : LL W v ms vs) (hs : (ms.map List.length).sum + ms.length ≤ 1048576) :
    Calls Tryd.prog 29 #[v] W fun e w' => ∃ v' us, e = .returned v' ∧ w'.ownsRow W.heap.size 23 1 v' ms.length us ∧ Lent w' W.heap.size us ms v' ∧ Below W.heap.size W w' := by
  obtain ⟨A, c, rfl, hlc, hc, hn2⟩ := hv.form
  have HV := Lib.hid hv
  clear hv hc
  go_enter Tryd.func29, Tryd.ntmps29
  go_wp2
  go_loopw [3, 4] (fun vo i wr => ∃ (j : Nat) (us : List Value), j ≤ ms.length ∧ i = .int .i64 (j : Int) ∧ Hid (wr.ownsRow W.heap.size 23 1 vo j us ∧ Lent wr W.heap.size us (ms.take j) vo ∧ Below W.heap.size W wr)) (fun _ i _ => ms.length - (intOf i).toNat)
  case atStart => exact ⟨0, [], by omega, rfl, Lib.hid ⟨World.ownsRow_nil _ _ _ _, ⟨by simp, fun j hj => by simp at hj⟩, Below.refl _ _⟩⟩
  case round =>
    obtain ⟨j, us, hj, rfl, HR⟩ := hrel
    obtain ⟨Ao, co, rfl, o1, o2, o3⟩ := owns_form HR.out.1
    by_cases hlt : j < ms.length
    · have hb := HR.out.2.2
      obtain ⟨ad, u, rfl, hcell, hbu⟩ := (HV.out.below hb).at_ j hlt
      obtain ⟨Au, cu, rfl, hu1, hu2, hu3⟩ := hbu.form
      have hml := len_le_sum (List.getElem_mem hlt)
      have HT := Lib.hid (show ms.take (j + 1) = ms.take j ++ [ms[j]] by rw [List.take_succ_eq_append_getElem hlt])
      have HBU := Lib.hid hbu
      have hsz := hb.size
      have hml2 : ms[j].length ≤ 1048576 := by omega
      clear hbu hml hb
      generalize ms[j] = m at *
      have j0 : (0 : Int) ≤ (j : Int) := Int.natCast_nonneg _
      have j1 : (j : Int) < (ms.length : Int) := by omega
      have tok1 : True := trivial
      have hc0 := cell_below (below_alloc1 wr (.cells #[] 5)) hcell
      go_wp2_with (first
        | (at_builtin; have _t := tok1; refine app_u8 rfl _ _ rfl wr.heap.size _ rfl [] (OwnB.zero wr) _ rfl m (HBU.out.below (below_alloc1 wr _)) ?_ ?_ ?_; (· simp; omega); (· simp); clear tok1; intro v1 w1 ho1 hg1 hat1; rw [List.nil_append] at ho1; have hB1 : Below wr.heap.size wr w1 := below_grown (below_alloc1 wr _) hg1 (OwnB.zero wr) (by simp); have H1 := Lib.hid (And.intro ho1 hB1); have hs1 := hB1.size; have hc1 := cell_below hB1 hcell; obtain ⟨A1, c1, e1, _, _, _⟩ := ho1.form; subst e1; clear ho1 hg1 hat1 hB1)
        | (at_builtin; refine app_u8 rfl _ _ rfl wr.heap.size _ rfl m (H1.out.1.below (below_alloc1 w1 _)) _ rfl [90] (Bs.one w1 90 90 rfl) ?_ ?_ ?_; (· simp; omega); (· simp; omega); intro v2 w2 ho2 hg2 hat2; have hB2 : Below wr.heap.size wr w2 := below_grown (H1.out.2.trans ((below_alloc1 w1 _).mono hs1)) hg2 (H1.out.1.below (below_alloc1 w1 _)) (by simp; omega); have H2 := Lib.hid (And.intro ho2 hB2); have hc2 := cell_below hB2 hcell; obtain ⟨A2, c2, e2, q1, q2, _⟩ := ho2.form_n (m.length + 1) (by simp); subst e2; have hs2 := hB2.size; have HO := Lib.hid (owns_below HR.out.1 hB2); clear ho2 hg2 hat2 hB2)
        | (at_builtin; refine app_row rfl _ _ 41 23 rfl Tryd.underlying41 info_bs rfl (by omega) W.heap.size (.slice Ao j co) rfl j us HO.out (.slice A2 m.length c2) rfl rfl ?_ ?_ ?_; (· omega); (· omega); intro v3 w3 ho3 hg3 hat3; have HL := Lib.hid (lent_step HR.out.1 HR.out.2.1 HR.out.2.2 H2.out.1 H2.out.2 ho3 hg3 hat3); clear hg3 hat3; have HO3 := Lib.hid ho3; clear ho3))
      go_roundw
      case rel => exact ⟨j + 1, us ++ [.slice A2 m.length c2], by omega, by go_num, Lib.hid ⟨HO3.out, by rw [HT.out]; exact HL.out.1, HL.out.2⟩⟩
      case measure => simp [intOf]; omega
    · have hjn : j = ms.length := by omega
      subst hjn
      have hr := HR.out
      rw [List.take_length] at hr
      go_wp2
      go_ret
      exact ⟨_, us, rfl, hr.1, hr.2.1, hr.2.2⟩
end Go.Proofs.YthgjecofmnomfaaDoor
namespace Go.Proofs.YthgjecofmnomfaaDoor
open Go.RowKit
set_option maxRecDepth 100000
set_option maxHeartbeats 4000000 in
theorem kept_calls (a b : Value) (ms : List (List UInt8)) (us vs : List Value) (B B' : Nat) (W : World) (hl : Lent W B us ms a) (hr : W.ownsRow B' 23 1 a ms.length us) (hv : LL W b ms vs) (hs : (ms.map List.length).sum + ms.length ≤ 1048576) :
    Calls Tryd.prog 32 #[a, b] W fun e w' => e = .returned (.bool true) ∧ Below W.heap.size W w' := by
  have hla := hl.ll hr
  have HL := Lib.hid (And.intro hl (And.intro hla hv))
  obtain ⟨A, c, rfl, hlc, hc, hn⟩ := hla.form
  obtain ⟨Ab, cb, rfl, hlb, hcb, hnb⟩ := hv.form
  clear hl hr hv hla hc hcb
  go_enter Tryd.func32, Tryd.ntmps32
  go_wp2
  go_loopw [5] (fun i wr => ∃ (j : Nat), j ≤ ms.length ∧ i = .int .i64 (j : Int) ∧ Below W.heap.size W wr) (fun i _ => ms.length - (intOf i).toNat)
  case atStart => exact ⟨0, by omega, rfl, Below.refl _ _⟩
  case round =>
    obtain ⟨j, hj, rfl, hB⟩ := hrel
    by_cases hlt : j < ms.length
    · obtain ⟨ad, u, rfl, ca, hba⟩ := (HL.out.2.1.below hB).at_ j hlt
      obtain ⟨bd, u2, rfl, cb2, hbb⟩ := (HL.out.2.2.below hB).at_ j hlt
      obtain ⟨A1, c1, h1, h2, h3⟩ := (HL.out.1.below hB).2 j hlt
      have hu : u = .slice A1 ms[j].length c1 := by
        obtain ⟨ad', u', e1, e2, _⟩ := HL.out.2.1.at_ j hlt
        obtain ⟨ad2, e3, e4⟩ := HL.out.2.1.row.at_ j h1
        cases e3
        rw [cell_below hB e4] at ca
        exact (Option.some.inj ca).symm
      subst hu
      obtain ⟨Au, cu, rfl, k1, k2, k3⟩ := hbb.form
      have hml := len_le_sum (List.getElem_mem hlt)
      have hbs := h2.bs
      obtain ⟨ar, rfl, c90⟩ := hbs.at_ ms[j].length (by simp)
      obtain ⟨_, _, e90, l1, l2, _⟩ := h2.form_n (ms[j].length + 1) (by simp)
      have cva : ∀ n, (convert 23 9 (.slice (some ar) ms[j].length c1)).run Tryd.prog (wr.drewN n) = .ok (.string ⟨ms[j].toArray⟩) (wr.drewN n) := fun n => str_u8 hba
      have cvb : ∀ n, (convert 23 9 (.slice Au ms[j].length cu)).run Tryd.prog (wr.drewN n) = .ok (.string ⟨ms[j].toArray⟩) (wr.drewN n) := fun n => str_u8 hbb
      rw [show (ms[j] ++ [90])[ms[j].length]'(by simp) = 90 by simp] at c90
      have hc1 : ms[j].length + 1 ≤ c1 := by
        cases e90
        exact l1
      clear e90 l1 hbs h1 h2 h3 hba hbb
      have hml2 : ms[j].length ≤ 1048576 := by omega
      clear hml
      generalize ms[j] = m at *
      have g1 : (0 : Int) ≤ (j : Int) := Int.natCast_nonneg _
      have g2 : (j : Int) < (ms.length : Int) := by omega
      have g3 : decide ((ms.length : Int) ≤ (j : Int)) = false := by rw [decide_eq_false_iff_not]; omega
      have g4 : decide (ms.length ≤ j) = false := by rw [decide_eq_false_iff_not]; omega
      have g5 : (m.length : Int) + 1 ≤ (c1 : Int) := by omega
      have g6 : (0 : Int) ≤ (m.length : Int) + 1 := by omega
      have g7 : (m.length : Int) < (m.length : Int) + 1 := by omega
      have g8 : (0 : Int) ≤ (m.length : Int) := by omega
      go_wp2
      go_quiet (fail)
      have hBn := below_drewN hB nq
      clear cva cvb c90 ca cb2 g1 g2 g3 g4 g5 g6 g7 g8
      generalize wr.drewN nq = w3 at *
      go_wp2_with fail
      go_roundw
      case rel => exact ⟨j + 1, by omega, by go_num, hBn⟩
      case measure => simp [intOf]; omega
    · have hjn : j = ms.length := by omega
      subst hjn
      go_wp2_with fail
      go_ret
      exact ⟨rfl, hB⟩
end Go.Proofs.YthgjecofmnomfaaDoor
namespace Go.Proofs.YthgjecofmnomfaaDoor
open Go.RowKit
set_option maxRecDepth 100000

/-- An index and the reference's in its box. -/
structure FM (W : World) (bR : Nat) (y : IxT) (vi vn : Value) (items : List Item) (ns : List Nat) (w : World) : Prop where
  at_ : y.At w W.heap.size
  ref : RefV w vi vn items ns
  hasR : ¬ y.Has bR
  hasI : ∀ k, y.Has k → vi.ownBlock ≠ some k ∧ vn.ownBlock ≠ some k
  refR : vi.ownBlock ≠ some bR ∧ vn.ownBlock ≠ some bR
  ltI : (∀ k, vi.ownBlock = some k → k < w.heap.size) ∧ (∀ k, vn.ownBlock = some k → k < w.heap.size)
  r0 : w.cell? ⟨bR, 0, none⟩ = some vi
  r1 : w.cell? ⟨bR, 1, none⟩ = some vn
  f0 : w.frozen? ⟨bR, 0, none⟩ = false
  f1 : w.frozen? ⟨bR, 1, none⟩ = false
  geR : W.heap.size ≤ bR
  bel : Below W.heap.size W w
theorem FM.ltR {W : World} {bR : Nat} {y : IxT} {vi vn : Value} {items : List Item} {ns : List Nat} {w : World} (h : FM W bR y vi vn items ns w) : bR < w.heap.size := World.block_lt_of_cell? w _ h.r0
theorem FM.below {W : World} {bR : Nat} {y : IxT} {vi vn : Value} {items : List Item} {ns : List Nat} {w w' : World} (h : FM W bR y vi vn items ns w) (hb : Below w.heap.size w w') : FM W bR y vi vn items ns w' :=
  ⟨h.at_.below hb, h.ref.below hb, h.hasR, h.hasI, h.refR, ⟨fun k hk => Nat.lt_of_lt_of_le (h.ltI.1 k hk) hb.size, fun k hk => Nat.lt_of_lt_of_le (h.ltI.2 k hk) hb.size⟩, cell_below hb h.r0, cell_below hb h.r1, frozen_below hb h.r0 h.f0, frozen_below hb h.r1 h.f1, h.geR, h.bel.trans (hb.mono h.bel.size)⟩
theorem FM.step {W : World} {bR : Nat} {x y : IxT} {vi vn : Value} {items : List Item} {ns : List Nat} {w w' : World} (h : FM W bR x vi vn items ns w) (ha : y.At w' W.heap.size) (hs : x.Step w y w') : FM W bR y vi vn items ns w' := by
  have hbR := hs.same h.ltR h.hasR
  refine ⟨ha, h.ref.mods (fun k hk => hs.same (h.ltI.1 k hk) (fun e => (h.hasI k e).1 hk)) (fun k hk => hs.same (h.ltI.2 k hk) (fun e => (h.hasI k e).2 hk)), fun hk => ?_, fun k hk => ?_, h.refR, ⟨fun k hk => Nat.lt_of_lt_of_le (h.ltI.1 k hk) hs.size, fun k hk => Nat.lt_of_lt_of_le (h.ltI.2 k hk) hs.size⟩,
    (cell_mods hbR).trans h.r0, (cell_mods hbR).trans h.r1, (frozen_mods hbR).trans h.f0, (frozen_mods hbR).trans h.f1, h.geR, ?_⟩
  · rcases hs.has hk with e | e
    · exact h.hasR e
    · have := h.ltR; omega
  · rcases hs.has hk with e | e
    · exact h.hasI k e
    · exact ⟨fun e3 => by have := h.ltI.1 k e3; omega, fun e3 => by have := h.ltI.2 k e3; omega⟩
  · refine ⟨hs.2.os.trans h.bel.os, hs.2.tape.trans h.bel.tape, hs.2.output.trans h.bel.output, Nat.le_trans h.bel.size hs.size, fun k hk => ?_⟩
    rw [hs.same (Nat.lt_of_lt_of_le hk h.bel.size) (fun e => by have := h.at_.ge e; omega), h.bel.block k hk]
/-- The reference's answer is put into its box. -/
theorem FM.put {W : World} {bR : Nat} {y : IxT} {vi vn vi' vn' : Value} {items items' : List Item} {ns ns' : List Nat} {w w' : World} (h : FM W bR y vi vn items ns w) (hb : Below w.heap.size w w') (hr : RefV w' vi' vn' items' ns')
    (hn : (∀ k, vi'.ownBlock = some k → (w.heap.size ≤ k ∧ k < w'.heap.size) ∨ vi.ownBlock = some k) ∧ (∀ k, vn'.ownBlock = some k → (w.heap.size ≤ k ∧ k < w'.heap.size) ∨ vn.ownBlock = some k)) :
    FM W bR y vi' vn' items' ns' ((w'.setCell ⟨bR, 0, none⟩ vi').setCell ⟨bR, 1, none⟩ vn') := by
  have h' := h.below hb
  have hlR : bR < w.heap.size := World.block_lt_of_cell? w _ h.r0
  have hst : ∀ k, k ≠ bR → ((w'.setCell ⟨bR, 0, none⟩ vi').setCell ⟨bR, 1, none⟩ vn').heap[k]? = w'.heap[k]? := fun k hk => by
    rw [Below.heap_setCell _ _ _ _ hk, Below.heap_setCell _ _ _ _ hk]
  have hsz : ((w'.setCell ⟨bR, 0, none⟩ vi').setCell ⟨bR, 1, none⟩ vn').heap.size = w'.heap.size := by simp [World.setCell]
  have hI : ∀ k, vi'.ownBlock = some k → k ≠ bR := fun k hk e => by
    rcases hn.1 k hk with h1 | h1
    · omega
    · exact h.refR.1 (by rw [← e]; exact h1)
  have hN : ∀ k, vn'.ownBlock = some k → k ≠ bR := fun k hk e => by
    rcases hn.2 k hk with h1 | h1
    · omega
    · exact h.refR.2 (by rw [← e]; exact h1)
  have c1 : (w'.setCell ⟨bR, 0, none⟩ vi').cell? ⟨bR, 1, none⟩ = some vn := (World.cell?_setCell_other w' _ _ vi' (by simp)).trans h'.r1
  refine ⟨h'.at_.kept fun k hk => hst k (fun e => h.hasR (by rw [← e]; exact hk)), hr.mods (fun k hk => hst k (hI k hk)) (fun k hk => hst k (hN k hk)), h.hasR, fun k hk => ⟨fun e => ?_, fun e => ?_⟩, ⟨fun e => hI bR e rfl, fun e => hN bR e rfl⟩, ⟨fun k hk => ?_, fun k hk => ?_⟩, ?_, ?_, ?_, ?_, h.geR, ?_⟩
  · rcases hn.1 k e with h1 | h1
    · have := h.at_.lt hk; omega
    · exact (h.hasI k hk).1 h1
  · rcases hn.2 k e with h1 | h1
    · have := h.at_.lt hk; omega
    · exact (h.hasI k hk).2 h1
  · rw [hsz]
    rcases hn.1 k hk with h1 | h1
    · exact h1.2
    · exact Nat.lt_of_lt_of_le (h.ltI.1 k h1) hb.size
  · rw [hsz]
    rcases hn.2 k hk with h1 | h1
    · exact h1.2
    · exact Nat.lt_of_lt_of_le (h.ltI.2 k h1) hb.size
  · exact (World.cell?_setCell_other _ _ _ vn' (by simp)).trans (set_cell h'.r0 vi')
  · exact set_cell c1 vn'
  · exact set_frozen (set_frozen h'.f0 _) _
  · exact set_frozen (set_frozen h'.f1 _) _
  · exact (h'.bel.setCell (p := ⟨bR, 0, none⟩) (by have := h.geR; show W.heap.size ≤ bR; omega) _).setCell (p := ⟨bR, 1, none⟩) (by have := h.geR; show W.heap.size ≤ bR; omega) _
theorem RefV.nil (w : World) : RefV w (.slice none 0 0) (.slice none 0 0) [] [] :=
  ⟨RunV.nil w, fun x hx => (by cases hx), ⟨none, 0, rfl, Nat.le_refl _, by unfold maxLen; omega, fun _ => rfl, fun j u hu => by simp [natsL] at hu⟩, by simp, by simp⟩
theorem FM.start {W w1 : World} (hx : (IxT.mk W.heap.size (.slice none 0 0) [] []).At w1 W.heap.size) (hb1 : Below W.heap.size W w1) :
    FM W w1.heap.size ⟨W.heap.size, .slice none 0 0, [], []⟩ (.slice none 0 0) (.slice none 0 0) [] [] (w1.alloc (.cells #[.slice none 0 0, .slice none 0 0] 60)) := by
  have hb2 := below_alloc1 w1 (.cells #[.slice none 0 0, .slice none 0 0] 60)
  have hlt : W.heap.size < w1.heap.size := hx.lt (.inl rfl)
  refine ⟨hx.below hb2, RefV.nil _, fun hk => ?_, fun k _ => ⟨fun e => (by cases e), fun e => (by cases e)⟩, ⟨fun e => (by cases e), fun e => (by cases e)⟩, ⟨fun k e => (by cases e), fun k e => (by cases e)⟩,
    cell_of_row _ w1.heap.size 0 _ _ (0, 0) (heap_alloc_new w1 _), cell_of_row _ w1.heap.size 1 _ _ (0, 0) (heap_alloc_new w1 _), new_frozen w1 _ _ 0, new_frozen w1 _ _ 1, by omega, below_then hb1 hb2⟩
  have := IxT.fresh_has hk
  omega
/-- One known digest: what the index and the reference's answer. -/
theorem know_add {W : World} {bR : Nat} {x : IxT} {vi vn : Value} {items : List Item} {ns : List Nat} {w : World} (h : FM W bR x vi vn items ns w) (hg : Good x.rs items) (hl : x.rs.map List.length = ns) (d : List UInt8) (hd : d.length = 32) (i : Nat) (hi : x.rs.flatten.length + 1 ≤ 900000) :
    ∃ (code : Int) (rs' : List (List Item)) (items' : List Item) (ns' : List Nat), Good rs' items' ∧ rs'.map List.length = ns' ∧ rs'.flatten.length ≤ x.rs.flatten.length + 1 ∧
      (Calls Tryd.prog 27 #[.pointer (some ⟨x.p, 0, none⟩), .agg (u8s d).toArray, .int .i64 (i : Int)] w fun e w' => e = .returned (.int .i64 code) ∧ ∃ y : IxT, y.p = x.p ∧ y.rs = rs' ∧ FM W bR y vi vn items ns w') ∧
      (∀ (y : IxT) (w2 : World), FM W bR y vi vn items ns w2 → Calls Tryd.prog 28 #[.agg #[vi, vn], .agg (u8s d).toArray, .int .i64 (i : Int)] w2 fun e w' => ∃ vi' vn', e = .returned (.tuple #[.agg #[vi', vn'], .int .i64 code]) ∧ Below w2.heap.size w2 w' ∧ RefV w' vi' vn' items' ns' ∧
        ((∀ k, vi'.ownBlock = some k → (w2.heap.size ≤ k ∧ k < w'.heap.size) ∨ vi.ownBlock = some k) ∧ (∀ k, vn'.ownBlock = some k → (w2.heap.size ≤ k ∧ k < w'.heap.size) ∨ vn.ownBlock = some k))) := by
  have hlen := hg.perm.length_eq
  obtain ⟨k1, k2⟩ := addT x W.heap.size d i w h.at_ hd h.bel.size (by omega) hg.ne
  by_cases hf : findI x.rs.flatten d = none
  · have hf2 : findI items d = none := by rw [← hg.find]; exact hf
    have hlr := count_le hg.ne
    have hns : ns.sum = items.length := by rw [← hl, ← List.length_flatten]; exact hlen
    have hnl : ns.length ≤ items.length := by rw [← hl, List.length_map]; omega
    refine ⟨0, addRuns x.rs (d, (i : Int)), insI items (d, (i : Int)), addN ns, hg.add (x := (d, (i : Int))) hd hf2, by rw [addRuns_lens, hl], by rw [addRuns_len]; omega, (k1 hf).mono ?_, fun y w2 h2 => (radd_new vi vn items ns d hd (i : Int) w2 h2.ref (by omega) hf2 (by omega) (by omega) (by omega)).mono ?_⟩
    · rintro e w' ⟨rfl, y, e1, e2, e3⟩
      exact ⟨rfl, y, e3.1.symm, e1, h.step e2 e3⟩
    · rintro e w' ⟨vi', vn', rfl, hr, n1, n2, hb⟩
      refine ⟨vi', vn', rfl, hb, hr, fun k hk => .inl ⟨n1 k hk, ?_⟩, fun k hk => .inl ⟨n2 k hk, ?_⟩⟩
      · exact hr.itm.lt hr.wid (by unfold insI; rw [List.length_append, List.length_cons]; omega) k hk
      · exact hr.runs.lt (by rw [natsL_length]; unfold addN; rw [List.length_reverse]; exact carryN_pos _ _) k hk
  · have hf2 : findI items d ≠ none := by rw [← hg.find]; exact hf
    refine ⟨120, x.rs, items, ns, hg, hl, by omega, (k2 hf).mono ?_, fun y w2 h2 => (radd_there vi vn items ns d hd (i : Int) w2 h2.ref (by omega) hf2).mono ?_⟩
    · rintro e w' ⟨rfl, hb⟩
      exact ⟨rfl, x, rfl, rfl, h.below hb⟩
    · rintro e w' ⟨rfl, hb⟩
      exact ⟨vi, vn, rfl, hb, h2.ref.below hb, fun k hk => .inr hk, fun k hk => .inr hk⟩
/-- Where the last loop stands: what was told first is struck out up to j. -/
structure L2 (W : World) (vl vm vw : Value) (L : List Nat) (j : Nat) (V : World) : Prop where
  l : j < L.length → ∃ (ad : Addr) (g c : Nat), vl = .slice (some ad) L.length c ∧ Hid (ad = ⟨g, 0, none⟩) ∧ W.heap.size ≤ g ∧ (∀ q (hq : q < L.length), j ≤ q → V.cell? (ad.add q) = some (.int .i64 (L[q] : Int))) ∧ (∀ q, V.frozen? (ad.add q) = false) ∧ vm.ownBlock ≠ some g ∧ vw.ownBlock ≠ some g
  m : Row V vm L.length (natsL L)
  w : Row V vw L.length (natsL L)
  bel : Below W.heap.size W V
theorem L2.below {W : World} {vl vm vw : Value} {L : List Nat} {j : Nat} {V V' : World} (h : L2 W vl vm vw L j V) (hb : Below V.heap.size V V') : L2 W vl vm vw L j V' :=
  ⟨fun hj => let ⟨ad, g, c, h1, h2, h3, h4, h5, h6⟩ := h.l hj; ⟨ad, g, c, h1, h2, h3, fun q hq hjq => cell_below hb (h4 q hq hjq), fun q => by
    have hlt := World.block_lt_of_cell? V _ (h4 j hj (Nat.le_refl _))
    have e : (ad.add q).block = (ad.add j).block := by rw [h2.out, add_plain, add_plain]
    rw [hb.frozen (p := ad.add q) (by rw [e]; exact hlt)]; exact h5 q, h6⟩, h.m.below hb, h.w.below hb, h.bel.trans (hb.mono h.bel.size)⟩
theorem L2.set {W : World} {vm vw : Value} {L : List Nat} {j c : Nat} {ad : Addr} {V : World} (h : L2 W (.slice (some ad) L.length c) vm vw L j V) (hj : j < L.length) : L2 W (.slice (some ad) L.length c) vm vw L (j + 1) (V.setCell (ad.add j) (.int .i64 (-1))) := by
  obtain ⟨ad', g, c', e, h2, h3, h4, h5, h6, h7⟩ := h.l hj
  cases e
  have hb : ∀ q, (ad.add q) = ⟨g, q, none⟩ := fun q => by rw [h2.out, add_plain]
  have hst : ∀ k, k ≠ g → (V.setCell (ad.add j) (.int .i64 (-1))).heap[k]? = V.heap[k]? := fun k hk => by rw [hb]; exact Below.heap_setCell _ _ _ _ hk
  refine ⟨fun _ => ⟨ad, g, _, rfl, h2, h3, fun q hq hjq => ?_, fun q => set_frozen (h5 q) _, h6, h7⟩, h.m.mods fun k hk => hst k (fun e => h6 (by rw [← e]; exact hk)), h.w.mods fun k hk => hst k (fun e => h7 (by rw [← e]; exact hk)), ?_⟩
  · refine (World.cell?_setCell_other V _ _ _ ?_).trans (h4 q hq (by omega))
    rw [hb, hb]
    intro e
    injection e with _ e2
    omega
  · exact h.bel.setCell (p := ad.add j) (by rw [hb]; exact h3) _
theorem L2.start {W w3 w4 w5 w6 w7 : World} {vl vm vw : Value} {L : List Nat} (hW : Below W.heap.size W w3) (h1 : w4.ownsRow (w3.heap.size + 1) 3 1 vl L.length (natsL L)) (b1 : Below w3.heap.size w3 w4) (h2 : w5.ownsRow (w4.heap.size + 1) 3 1 vm L.length (natsL L)) (b2 : Below w4.heap.size w4 w5)
    (h3 : w6.ownsRow (w5.heap.size + 1) 3 1 vw L.length (natsL L)) (b3 : Below w5.heap.size w5 w6) (b4 : Below w6.heap.size w6 w7) : L2 W vl vm vw L 0 w7 := by
  have c1 := owns_below (owns_below (owns_below h1 b2) b3) b4
  have c2 := owns_below (owns_below h2 b3) b4
  have c3 := owns_below h3 b4
  have z1 := b1.size; have z2 := b2.size; have z3 := b3.size; have z0 := hW.size
  refine ⟨fun hj => ?_, Row.of_owns c2, Row.of_owns c3, (((hW.trans (b1.mono z0)).trans (b2.mono (by omega))).trans (b3.mono (by omega))).trans (b4.mono (by omega))⟩
  have hrow := Row.of_owns c1
  have hlt := owns_lt h1
  have hge := owns_ge h1
  rcases c1 with ⟨hl, ⟨rfl, hn⟩ | ⟨g, cap, cur, rfl, hb, hg, hn, hm, hs, ht⟩⟩
  · have : L.length = 0 := by simpa using hn
    omega
  · have hlt' := hlt g rfl
    refine ⟨⟨g, 0, none⟩, g, cap, rfl, Lib.hid rfl, by omega, fun q hq _ => ?_, fun q => ?_, fun e => ?_, fun e => ?_⟩
    · obtain ⟨ad, e, hc⟩ := hrow.at_ q (natsL_get L q hq)
      cases e
      exact hc
    · rw [add_plain]
      unfold World.frozen?
      simp only
      rw [hg]
      simp
    · have := owns_ge h2 g e; omega
    · have := owns_ge h3 g e; omega
end Go.Proofs.YthgjecofmnomfaaDoor
namespace Go.Proofs.YthgjecofmnomfaaDoor
open Go.RowKit
set_option maxRecDepth 100000
set_option maxHeartbeats 8000000 in
theorem integrateFresh_walk (v : Value) (ds : List (List UInt8)) (v1 : Value) (ms : List (List UInt8)) (vs : List Value) (W : World) (hT : LaidH W) (hG : 2 < W.heap.size) (hD : Ds W v ds) (hn : ds.length ≤ 90000) (hv : LL W v1 ms vs) (hs : (ms.map List.length).sum + ms.length ≤ 1048576) :
    Calls Tryd.prog 9 #[v, v1] W fun e w' => e = .returned (.bool true) ∧ Below W.heap.size W w' := by
  have HD := Lib.hid hD
  have HV := Lib.hid (And.intro hv (And.intro hT hG))
  obtain ⟨A, c, rfl, a1, a2⟩ := hD.form
  obtain ⟨A1, c1, rfl, b1, b2, b3⟩ := hv.form
  have K0 := Lib.hid (new_ixT W W.heap.size (Nat.le_refl _))
  clear hD hv hT hG b2
  go_enter Tryd.func9, Tryd.ntmps9
  go_wp2_with (first
    | (go_at_call 26; refine K0.out.mono ?_; rintro e w1 ⟨rfl, hx1, hB1⟩; have HST := Lib.hid (FM.start hx1 hB1); clear hx1 hB1))
  obtain ⟨bR, hbR⟩ : ∃ bR, w1.heap.size = bR := ⟨_, rfl⟩
  rw [hbR] at HST
  rw [hbR]
  have HX0 : Hid (∃ (x : IxT) (vi vn : Value) (items : List Item) (ns : List Nat), x.p = W.heap.size ∧ x.rs.flatten.length ≤ 0 ∧ Good x.rs items ∧ x.rs.map List.length = ns ∧ FM W bR x vi vn items ns (w1.alloc (.cells #[.slice none 0 0, .slice none 0 0] 60))) :=
    Lib.hid ⟨_, _, _, _, _, rfl, by simp, Good.nil, rfl, HST.out⟩
  clear hbR HST K0
  generalize w1.alloc (.cells #[.slice none 0 0, .slice none 0 0] 60) = w2 at *
  go_loopw [7] (fun i wr => ∃ (j : Nat), j ≤ ds.length ∧ i = .int .i64 (j : Int) ∧ Hid (∃ (x : IxT) (vi vn : Value) (items : List Item) (ns : List Nat), x.p = W.heap.size ∧ x.rs.flatten.length ≤ j ∧ Good x.rs items ∧ x.rs.map List.length = ns ∧ FM W bR x vi vn items ns wr)) (fun i _ => ds.length - (intOf i).toNat)
  case atStart => exact ⟨0, by omega, rfl, HX0⟩
  case round =>
    obtain ⟨j, hj, rfl, HX⟩ := hrel
    clear HX0
    by_cases hlt : j < ds.length
    · obtain ⟨x, vi, vn, items, ns, hpx, hil, hg, hl, hP⟩ := HX.out
      clear HX
      obtain ⟨g, o, hA, hra⟩ := (HD.out.below hP.bel).at_ j hlt
      subst hA
      have d32 := HD.out.wid j hlt
      obtain ⟨code, rs', items', ns', g1, g2, g3, KA, KB⟩ := know_add hP hg hl ds[j] d32 j (by omega)
      rw [hpx] at KA
      generalize hdj : ds[j] = d at *
      have HDJ := Lib.hid hdj; clear hdj
      have HKA := Lib.hid KA; have HKB := Lib.hid KB
      have HGG := Lib.hid (And.intro g1 (And.intro g2 g3))
      have hld := load_digest d32 hra
      have j0 : (0 : Int) ≤ (j : Int) := Int.natCast_nonneg _
      have j1 : (j : Int) < (ds.length : Int) := by omega
      clear KA KB g1 g2 g3 hg hl hP hra hpx
      go_wp2_with (first
        | (refine wpList_load_run rfl 63 _ rfl _ _ rfl hld ?_)
        | (go_at_call 27; refine HKA.out.mono ?_; rintro e wd ⟨rfl, y, hyp, hyr, hM⟩; have HM := Lib.hid hM; have HYP := Lib.hid (And.intro hyp hyr); clear hM hyp hyr))
      have hraD := (HD.out.below HM.out.bel).at_ j hlt |> fun ⟨g', o', e1, e2⟩ => (show wd.rangeAt g (o + j * 32) (u8s d) by cases e1; rw [HDJ.out] at e2; exact e2)
      have LA2 := Lib.hid (fun w' (hq : ∃ n, w' = wd.drewN n) => (show (Instr.loadAt 63 (.pointer (some ⟨g, o + j * 32, none⟩))).run Tryd.prog w' = .ok (.agg (u8s d).toArray) w' by obtain ⟨n, rfl⟩ := hq; exact load_digest d32 (rangeAt_drewN hraD n)))
      have LR2 := Lib.hid (fun w' (hq : ∃ n, w' = wd.drewN n) => (show (Instr.loadAt 60 (.pointer (some ⟨bR, 0, none⟩))).run Tryd.prog w' = .ok (.agg #[vi, vn]) w' by obtain ⟨n, rfl⟩ := hq; exact load_ref (cell_below (below_drewN (Below.refl _ _) n) HM.out.r0) (cell_below (below_drewN (Below.refl _ _) n) HM.out.r1)))
      clear hraD hld
      refine wp_region_noPanic ?_
      refine wp_region_quiet_mix (C := fun w' => ∃ n, w' = wd.drewN n) 6 [6, 7] [9] [8, 10] (by kernel_rfl) (by kernel_rfl) (fun _ _ _ _ h => h) ⟨1, rfl⟩ ?_
      simp only [opsL, List.getElem?_cons_zero, List.getElem?_cons_succ, Option.toList_some, List.singleton_append]
      simp only [List.take_succ_cons, List.take_zero, List.drop_succ_cons, List.drop_zero]
      refine wpQuiet_load rfl _ _ rfl _ _ rfl LR2.out ?_
      simp only [Act.put, List.setIfInBounds_toArray, List.set_cons_zero, List.set_cons_succ]
      go_big_quiet_step (fail)
      go_big_quiet_step (fail)
      go_big_quiet_step (fail)
      refine wpQuiet_load rfl _ _ rfl _ _ rfl LA2.out ?_
      simp only [Act.put, List.setIfInBounds_toArray, List.set_cons_zero, List.set_cons_succ]
      repeat (go_big_quiet_step (fail))
      refine wpQuiet_nil ?_
      intro _ hw'; obtain ⟨nr, hw''⟩ := hw'; subst hw''
      have HMn := Lib.hid (HM.out.below (below_drewN (Below.refl _ _) nr))
      clear LA2 LR2 HM
      generalize wd.drewN nr = we at *
      go_wp2_with (first | (go_at_call 28; refine (HKB.out y we HMn.out).mono ?_; rintro e wf ⟨vi', vn', rfl, hBf, hRf, hNf⟩; have HRF := Lib.hid hRf; have HNF := Lib.hid hNf; obtain ⟨A5, c5, e5, -, -⟩ := hRf.itm.form; subst e5; obtain ⟨A6, c6, e6, -, -⟩ := row_form hRf.runs; subst e6; have HMF := Lib.hid (HMn.out.below hBf); have s0 := HMF.out.r0; have s1 := HMF.out.r1; have s2 := HMF.out.f0; have s3 := HMF.out.f1; clear hRf hNf))
      simp only [NormK]
      refine takes_run rfl (.int .i64 code) (fun w' => by go_simp) ?_
      simp only [wpTk, Act.put, List.setIfInBounds_toArray, List.set_cons_zero, List.set_cons_succ]
      go_wp2_with fail
      have HPF := Lib.hid (HMn.out.put hBf HRF.out HNF.out)
      clear s0 s1 s2 s3 hBf HNF HMF HRF HKB HKA
      rename_i Kx hKx
      refine hKx _ _ ?_
      clear hKx
      go_wp2_with fail
      go_roundw
      case rel => exact ⟨j + 1, by omega, by go_num, Lib.hid ⟨y, _, _, _, _, HYP.out.1, by rw [HYP.out.2]; have := HGG.out.2.2; omega, by rw [HYP.out.2]; exact HGG.out.1, by rw [HYP.out.2]; exact HGG.out.2.1, HPF.out⟩⟩
      case measure => simp [intOf]; omega
    · have hjn : j = ds.length := by omega
      subst hjn
      obtain ⟨x, vi, vn, items, ns, hpx, hil, hg, hl, hP⟩ := HX.out
      have KL := Lib.hid (lent_calls (.slice A1 ms.length c1) ms vs wr (HV.out.1.below hP.bel) hs)
      have HP := Lib.hid hP
      have HG := Lib.hid (And.intro hpx (And.intro hil (And.intro hg hl)))
      have HK1 := Lib.hid (fun (v : Value) (us : List Value) (V : World) (hV : FM W bR x vi vn items ns V) (hv : LL V v ms us) => (show Calls Tryd.prog 30 #[.pointer (some ⟨W.heap.size, 0, none⟩), v] V fun e w' => ∃ vf, e = .returned (.tuple #[vf, .int .i64 0]) ∧ w'.ownsRow (V.heap.size + 1) 3 1 vf (frN ms x.rs ms.length).2.length (natsL (frN ms x.rs ms.length).2) ∧ Below V.heap.size V w' from by
        rw [← HG.out.1]
        exact ifresh_calls x items v ms us W.heap.size V hV.at_ hV.bel.size hg hv (HV.out.2.1.below hV.bel) (Nat.lt_of_lt_of_le HV.out.2.2 hV.bel.size) (by omega) hs))
      have HK2 := Lib.hid (fun (V : World) (hV : FM W bR x vi vn items ns V) => (show Calls Tryd.prog 31 #[.agg #[vi, vn], .slice A1 ms.length c1] V fun e w' => ∃ vf, e = .returned vf ∧ w'.ownsRow (V.heap.size + 1) 3 1 vf (frN ms x.rs ms.length).2.length (natsL (frN ms x.rs ms.length).2) ∧ Below V.heap.size V w' from
        rfresh_calls vi vn items ns x.rs _ ms vs V hV.ref (fun k hk => hk.elim (hV.ltI.1 k) (hV.ltI.2 k)) hg hl (HV.out.1.below hV.bel) (by omega) hs))
      have hLn := (frN_count ms x.rs ms.length).2
      clear HX hpx hil hg hl hP hlt hj
      generalize (frN ms x.rs ms.length).2 = L at *
      have tok1 : True := trivial
      go_wp2_with (first
        | (go_at_call 29; refine KL.out.mono ?_; rintro e w3 ⟨v8, us, rfl, ho8, hl8, hB3⟩; have H8 := Lib.hid (And.intro (And.intro ho8 hl8) (And.intro (hl8.ll ho8) (HP.out.below hB3))); obtain ⟨A8, c8, e8, _, _, _⟩ := owns_form ho8; subst e8; clear ho8 hl8 hB3)
        | (go_at_call 30; have _t := tok1; refine (HK1.out _ us _ H8.out.2.2 H8.out.2.1).mono ?_; clear tok1; rintro e w4 ⟨vf, rfl, hof, hB4⟩; have H4 := Lib.hid (And.intro hof (And.intro hB4 (H8.out.2.2.below hB4))); obtain ⟨A9, c9, e9, _, _, _⟩ := owns_form hof; subst e9; clear hof hB4)
        | (go_at_call 30; refine (HK1.out _ us _ H4.out.2.2 (H8.out.2.1.below H4.out.2.1)).mono ?_; rintro e w5 ⟨vm, rfl, hom, hB5⟩; have H5 := Lib.hid (And.intro hom (And.intro hB5 (H4.out.2.2.below hB5))); have HLR := Lib.hid (load_ref (H4.out.2.2.below hB5).r0 (H4.out.2.2.below hB5).r1); obtain ⟨A11, c11, e11, _, _, _⟩ := owns_form hom; subst e11; clear hom hB5)
        | (refine wpList_load_run rfl 60 _ rfl _ _ rfl HLR.out ?_)
        | (go_at_call 31; refine (HK2.out _ H5.out.2.2).mono ?_; rintro e w6 ⟨vw, rfl, how, hB6⟩; have H6 := Lib.hid (And.intro how (And.intro hB6 (H5.out.2.2.below hB6))); obtain ⟨A13, c13, e13, _, _, _⟩ := owns_form how; subst e13; clear how hB6))
      obtain ⟨Ai, ci, evi, i1, i2⟩ := H6.out.2.2.ref.itm.form
      have hlen := HG.out.2.2.1.perm.length_eq
      have HB36 : Below w3.heap.size w3 w6 := (H4.out.2.1.trans (H5.out.2.1.mono H4.out.2.1.size)).trans (H6.out.2.1.mono (Nat.le_trans H4.out.2.1.size H5.out.2.1.size))
      have KK := Lib.hid (fun w' (hw : Below w6.heap.size w6 w') => (show Calls Tryd.prog 32 #[.slice A8 ms.length c8, .slice A1 ms.length c1] w' fun e w'' => e = .returned (.bool true) ∧ Below w6.heap.size w6 w'' from
        (kept_calls _ _ ms us vs wr.heap.size wr.heap.size w' ((H8.out.1.2.below HB36).below hw) (owns_below (owns_below H8.out.1.1 HB36) hw) (HV.out.1.below (H6.out.2.2.below hw).bel) hs).mono fun e w'' ⟨h1, h2⟩ => ⟨h1, below_then hw h2⟩))
      have KN := Lib.hid (fun w' (hw : Below w6.heap.size w6 w') => (show Calls Tryd.prog 33 #[.pointer (some ⟨W.heap.size, 0, none⟩)] w' fun e w'' => e = .returned (.int .i64 (items.length : Int)) ∧ Below w6.heap.size w6 w'' from by
        have K := len_calls x.p x.vr x.us x.rs w' (H6.out.2.2.below hw).at_.read (by have := count_le HG.out.2.2.1.ne; have := HG.out.2.1; omega)
        rw [HG.out.1, hlen] at K
        exact K.mono fun e w'' ⟨h1, h2⟩ => ⟨h1, below_then hw h2⟩))
      have hr0 := H6.out.2.2.r0
      rw [evi] at hr0
      have HR0 := Lib.hid hr0
      clear hr0 evi hlen HK1 HK2 KL HLR
      generalize items.length = n5 at *
      refine wp_region_litC (C := fun w' => Below w6.heap.size w6 w') (below_drew1 w6) (by kernel_rfl) (by kernel_rfl) ?_
      refine wpQuiet_run (by rfl) (.int .i64 0) (fun w' hw => run_op_move _ rfl _ (by rfl) w') ?_
      simp only [Act.put, List.setIfInBounds_toArray, List.set_cons_zero, List.set_cons_succ]
      refine wpQuiet_run (by rfl) (.bool false) (fun w' hw => by go_simp) ?_
      simp only [Act.put, List.setIfInBounds_toArray, List.set_cons_zero, List.set_cons_succ]
      refine wpQuiet_run (by rfl) (.bool false) (fun w' hw => run_op_move _ rfl _ (by rfl) w') ?_
      simp only [Act.put, List.setIfInBounds_toArray, List.set_cons_zero, List.set_cons_succ]
      refine wpQuiet_run (by rfl) (.slice A9 L.length c9) (fun w' hw => run_op_move _ rfl _ (by rfl) w') ?_
      simp only [Act.put, List.setIfInBounds_toArray, List.set_cons_zero, List.set_cons_succ]
      refine wpQuiet_run (by rfl) (.int .i64 (L.length : Int)) (fun w' hw => by go_simp) ?_
      simp only [Act.put, List.setIfInBounds_toArray, List.set_cons_zero, List.set_cons_succ]
      refine wpQuiet_run (by rfl) (.slice A13 L.length c13) (fun w' hw => run_op_move _ rfl _ (by rfl) w') ?_
      simp only [Act.put, List.setIfInBounds_toArray, List.set_cons_zero, List.set_cons_succ]
      refine wpQuiet_run (by rfl) (.int .i64 (L.length : Int)) (fun w' hw => by go_simp) ?_
      simp only [Act.put, List.setIfInBounds_toArray, List.set_cons_zero, List.set_cons_succ]
      refine wpQuiet_run (by rfl) (.bool false) (fun w' hw => by go_simp) ?_
      simp only [Act.put, List.setIfInBounds_toArray, List.set_cons_zero, List.set_cons_succ]
      refine wpQuiet_run (by rfl) (.bool false) (fun w' hw => by go_simp) ?_
      simp only [Act.put, List.setIfInBounds_toArray, List.set_cons_zero, List.set_cons_succ]
      refine wpQuiet_run (by rfl) (.bool false) (fun w' hw => run_op_move _ rfl _ (by rfl) w') ?_
      simp only [Act.put, List.setIfInBounds_toArray, List.set_cons_zero, List.set_cons_succ]
      refine wpQuiet_run (by rfl) (.slice A11 L.length c11) (fun w' hw => run_op_move _ rfl _ (by rfl) w') ?_
      simp only [Act.put, List.setIfInBounds_toArray, List.set_cons_zero, List.set_cons_succ]
      refine wpQuiet_run (by rfl) (.int .i64 (L.length : Int)) (fun w' hw => by go_simp) ?_
      simp only [Act.put, List.setIfInBounds_toArray, List.set_cons_zero, List.set_cons_succ]
      refine wpQuiet_run (by rfl) (.slice A13 L.length c13) (fun w' hw => run_op_move _ rfl _ (by rfl) w') ?_
      simp only [Act.put, List.setIfInBounds_toArray, List.set_cons_zero, List.set_cons_succ]
      refine wpQuiet_run (by rfl) (.int .i64 (L.length : Int)) (fun w' hw => by go_simp) ?_
      simp only [Act.put, List.setIfInBounds_toArray, List.set_cons_zero, List.set_cons_succ]
      refine wpQuiet_run (by rfl) (.bool false) (fun w' hw => by go_simp) ?_
      simp only [Act.put, List.setIfInBounds_toArray, List.set_cons_zero, List.set_cons_succ]
      refine wpQuiet_run (by rfl) (.bool false) (fun w' hw => by go_simp) ?_
      simp only [Act.put, List.setIfInBounds_toArray, List.set_cons_zero, List.set_cons_succ]
      refine wpQuiet_run (by rfl) (.bool false) (fun w' hw => run_op_move _ rfl _ (by rfl) w') ?_
      simp only [Act.put, List.setIfInBounds_toArray, List.set_cons_zero, List.set_cons_succ]
      refine wpQuiet_run (by rfl) (.slice A8 ms.length c8) (fun w' hw => run_op_move _ rfl _ (by rfl) w') ?_
      simp only [Act.put, List.setIfInBounds_toArray, List.set_cons_zero, List.set_cons_succ]
      refine wpQuiet_run (by rfl) (.slice A1 ms.length c1) (fun w' hw => run_op_move _ rfl _ (by rfl) w') ?_
      simp only [Act.put, List.setIfInBounds_toArray, List.set_cons_zero, List.set_cons_succ]
      refine wpQuiet_call (by rfl) _ _ (.bool true) (fun w' hw => by go_simp) (fun w' hw => KK.out w' hw) ?_
      simp only [Act.put, List.setIfInBounds_toArray, List.set_cons_zero, List.set_cons_succ]
      refine wpQuiet_run (by rfl) (.bool false) (fun w' hw => by go_simp) ?_
      simp only [Act.put, List.setIfInBounds_toArray, List.set_cons_zero, List.set_cons_succ]
      refine wpQuiet_run (by rfl) (.bool false) (fun w' hw => by go_simp) ?_
      simp only [Act.put, List.setIfInBounds_toArray, List.set_cons_zero, List.set_cons_succ]
      refine wpQuiet_run (by rfl) (.bool false) (fun w' hw => run_op_move _ rfl _ (by rfl) w') ?_
      simp only [Act.put, List.setIfInBounds_toArray, List.set_cons_zero, List.set_cons_succ]
      refine wpQuiet_run (by rfl) (.pointer (some ⟨W.heap.size, 0, none⟩)) (fun w' hw => run_op_move _ rfl _ (by rfl) w') ?_
      simp only [Act.put, List.setIfInBounds_toArray, List.set_cons_zero, List.set_cons_succ]
      refine wpQuiet_call (by rfl) _ _ (.int .i64 (n5 : Int)) (fun w' hw => by go_simp) (fun w' hw => KN.out w' hw) ?_
      simp only [Act.put, List.setIfInBounds_toArray, List.set_cons_zero, List.set_cons_succ]
      refine wpQuiet_run (by rfl) (.pointer (some ⟨bR, 0, none⟩)) (fun w' hw => by go_simp) ?_
      simp only [Act.put, List.setIfInBounds_toArray, List.set_cons_zero, List.set_cons_succ]
      refine wpQuiet_run (by rfl) (.slice Ai n5 ci) (fun w' hw => run_op_load _ _ rfl _ _ (by rfl) w' (load_cell under_ritems rfl (cell_below hw HR0.out))) ?_
      simp only [Act.put, List.setIfInBounds_toArray, List.set_cons_zero, List.set_cons_succ]
      refine wpQuiet_run (by rfl) (.int .i64 (n5 : Int)) (fun w' hw => by go_simp) ?_
      simp only [Act.put, List.setIfInBounds_toArray, List.set_cons_zero, List.set_cons_succ]
      refine wpQuiet_run (by rfl) (.bool false) (fun w' hw => by go_simp) ?_
      simp only [Act.put, List.setIfInBounds_toArray, List.set_cons_zero, List.set_cons_succ]
      refine wpQuiet_run (by rfl) (.bool false) (fun w' hw => by go_simp) ?_
      simp only [Act.put, List.setIfInBounds_toArray, List.set_cons_zero, List.set_cons_succ]
      refine wpQuiet_nil ?_
      intro w7 hw7
      clear KK KN HR0
      go_wp2_with fail
      have HL0 := Lib.hid (L2.start H8.out.2.2.bel H4.out.1 H4.out.2.1 H5.out.1 H5.out.2.1 H6.out.1 H6.out.2.1 hw7)
      clear H4 H5 H6 H8 HB36 hw7 HP HG HV HD
      go_loopw [14] (fun i wq => ∃ (k : Nat), k ≤ L.length ∧ i = .int .i64 (k : Int) ∧ Hid (L2 W (.slice A9 L.length c9) (.slice A11 L.length c11) (.slice A13 L.length c13) L k wq)) (fun i _ => L.length - (intOf i).toNat)
      case atStart => exact ⟨0, by omega, rfl, HL0⟩
      case round =>
        obtain ⟨k, hk, rfl, HL⟩ := hrel
        clear HL0
        by_cases hlt : k < L.length
        · obtain ⟨ad, g, c', e, h2, h3, h4, h5, h6, h7⟩ := HL.out.l hlt
          cases e
          obtain ⟨am, hA, cm⟩ := HL.out.m.at_ k (natsL_get L k hlt)
          subst hA
          obtain ⟨aw, hA, cw⟩ := HL.out.w.at_ k (natsL_get L k hlt)
          subst hA
          have cl := h4 k hlt (Nat.le_refl _)
          have fl := h5 k
          have HS := Lib.hid (fun n => (HL.out.below (below_drewN (Below.refl _ _) n)).set hlt)
          have k0 : (0 : Int) ≤ (k : Int) := Int.natCast_nonneg _
          have k1 : (k : Int) < (L.length : Int) := by omega
          have k2 : (k : Int) + 1 ≤ 9223372036854775807 := by omega
          clear h4 h5 h6 h7 h3 h2
          generalize hx : L[k] = xk at *
          go_wp2_with fail
          go_quiet (fail)
          have hD := below_drewN (Below.refl wr.heap.size wr) nq
          have cl1 := cell_below hD cl
          have cm1 := cell_below hD cm
          have cw1 := cell_below hD cw
          have fl1 := frozen_below hD cl fl
          have HS2 := Lib.hid (HS.out nq)
          have cm2 : ((wr.drewN nq).setCell (ad.add k) (.int .i64 (-1))).cell? (am.add k) = some (.int .i64 (xk : Int)) := by
            obtain ⟨a, hA, hc⟩ := HS2.out.m.at_ k (natsL_get L k hlt)
            cases hA; rw [hx] at hc; exact hc
          have cw2 : ((wr.drewN nq).setCell (ad.add k) (.int .i64 (-1))).cell? (aw.add k) = some (.int .i64 (xk : Int)) := by
            obtain ⟨a, hA, hc⟩ := HS2.out.w.at_ k (natsL_get L k hlt)
            cases hA; rw [hx] at hc; exact hc
          clear HS cl cm cw fl hD cm1 cw1 HL hx
          generalize wr.drewN nq = wb at *
          go_wp2_with fail
          go_quiet (fail)
          have HS3 := Lib.hid (HS2.out.below (below_drewN (Below.refl _ _) nq))
          clear HS2 cm2 cw2 cl1 fl1 k2
          generalize (wb.setCell (ad.add k) (.int .i64 (-1))).drewN nq = wc at *
          go_wp2_with fail
          go_roundw
          case rel => exact ⟨k + 1, by omega, by go_num, HS3⟩
          case measure => simp [intOf]; omega
        · have hkn : k = L.length := by omega
          subst hkn
          have HB := Lib.hid HL.out.bel
          go_wp2_with (first | (go_at_call 30; refine (nil_fresh _ _ _ _).mono ?_; rintro e wz ⟨rfl, hBz⟩))
          go_ret
          exact ⟨rfl, HB.out.trans (hBz.mono HB.out.size)⟩
end Go.Proofs.YthgjecofmnomfaaDoor
