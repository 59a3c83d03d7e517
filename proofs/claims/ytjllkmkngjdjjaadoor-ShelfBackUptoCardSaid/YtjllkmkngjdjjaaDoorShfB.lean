/- THE ITERATOR shelf.files: its contract. No statement of the seed is proved here. -/
import Derived.Test.YtjllkmkngjdjjaaDoorShfA
import Derived.Test.YtjllkmkngjdjjaaDoorIter2
namespace Go.Proofs.YtjllkmkngjdjjaaDoor
open Go.RowKit Go.Shelf
attribute [local go_sem] Oper.semAt_some
set_option maxRecDepth 100000

/-- A round is handed a file's number and its bytes, in new memory. -/
def HandS (x : Nat × List UInt8) (args : Array Value) (W0 W1 : World) : Prop := ∃ v, args = #[.int .i64 (x.1 : Int), v] ∧ OwnB W1 W0.heap.size v x.2
/-- What the iterator reads. -/
structure ReadS (b : Nat) (x : DT) (s : DSt) (B h lv : Nat) (W : World) : Prop where
  c0 : W.cell? ⟨b, 0, none⟩ = some (.pointer (some ⟨x.p, 0, none⟩))
  c1 : W.cell? ⟨b + 1, 0, none⟩ = some (.int .i64 (h : Int))
  c2 : W.cell? ⟨b + 2, 0, none⟩ = some (.int .i64 (lv : Int))
  at_ : x.At s W B
  tab : TabW W
theorem ReadS.below {b : Nat} {x : DT} {s : DSt} {B h lv : Nat} {W W' : World} (r : ReadS b x s B h lv W) (hb : Below W.heap.size W W') : ReadS b x s B h lv W' :=
  ⟨cell_below hb r.c0, cell_below hb r.c1, cell_below hb r.c2, r.at_.below hb, tab_below r.tab hb⟩
/-- The files of a level from the k-th on, as the iterator tells them: whole ones, and at most one that is not. -/
inductive Files (s : DSt) (h lv : Nat) : Nat → List (Nat × List UInt8) → Prop
  | bad (k : Nat) (hv : tileV h lv k (2 ^ h) = false) : Files s h lv k []
  | none (k : Nat) (hv : tileV h lv k (2 ^ h) = true) (hn : s.fs (tname h lv k) = .none) : Files s h lv k []
  | part (k : Nat) (l : List UInt8) (hv : tileV h lv k (2 ^ h) = true) (hn : s.fs (tname h lv k) = some l) (hl : l.length < 32 * 2 ^ h) : Files s h lv k [(k, l)]
  | full (k : Nat) (l : List UInt8) (hv : tileV h lv k (2 ^ h) = true) (hn : s.fs (tname h lv k) = some l) (hl : 32 * 2 ^ h ≤ l.length) (xs : List (Nat × List UInt8)) (hx : Files s h lv (k + 1) xs) : Files s h lv k ((k, l.take (32 * 2 ^ h)) :: xs)

theorem files_calls (p : Value) (hp : ∃ a, p = .pointer a) (h lv : Int) (W : World) :
    Calls Tryd.prog 26 #[p, .int .i64 h, .int .i64 lv] W fun e w' => e = .returned (.func (.func 35) #[] #[.pointer (some ⟨W.heap.size, 0, none⟩), .pointer (some ⟨W.heap.size + 1, 0, none⟩), .pointer (some ⟨W.heap.size + 2, 0, none⟩)]) ∧
      Below W.heap.size W w' ∧ w'.cell? ⟨W.heap.size, 0, none⟩ = some p ∧ w'.cell? ⟨W.heap.size + 1, 0, none⟩ = some (.int .i64 h) ∧ w'.cell? ⟨W.heap.size + 2, 0, none⟩ = some (.int .i64 lv) := by
  obtain ⟨a, rfl⟩ := hp
  go_enter Tryd.func26, Tryd.ntmps26
  go_wp2
  go_ret
  have e2 : W.heap.size + 1 + 1 = W.heap.size + 2 := rfl
  have z1 : (W.alloc (.cells #[.pointer a] 26)).heap.size = W.heap.size + 1 := by simp
  have z2 : ((W.alloc (.cells #[.pointer a] 26)).alloc (.cells #[.int .i64 h] 3)).heap.size = W.heap.size + 2 := by simp
  have n0 := new_cell W (.pointer a) 26
  have n1 := new_cell (W.alloc (.cells #[.pointer a] 26)) (.int .i64 h) 3
  have n2 := new_cell ((W.alloc (.cells #[.pointer a] 26)).alloc (.cells #[.int .i64 h] 3)) (.int .i64 lv) 3
  rw [z1] at n1
  rw [z2] at n2
  exact ⟨rfl, below_then (below_alloc1 _ _) (below_then (below_alloc1 _ _) (below_alloc1 _ _)), cell_below (below_alloc1 _ _) (cell_below (below_alloc1 _ _) n0), cell_below (below_alloc1 _ _) n1, n2⟩

theorem Files.inv {s : DSt} {h lv k : Nat} {xs : List (Nat × List UInt8)} (hF : Files s h lv k xs) :
    (xs = [] ∧ (tileV h lv k (2 ^ h) = false ∨ (tileV h lv k (2 ^ h) = true ∧ s.fs (tname h lv k) = .none))) ∨
    ∃ l, tileV h lv k (2 ^ h) = true ∧ s.fs (tname h lv k) = some l ∧ ∃ m rest, l.take (32 * 2 ^ h) = m ∧ xs = (k, m) :: rest ∧ ((m.length < 32 * 2 ^ h ∧ rest = []) ∨ (m.length = 32 * 2 ^ h ∧ Files s h lv (k + 1) rest)) := by
  cases hF with
  | bad _ hv => exact .inl ⟨rfl, .inl hv⟩
  | none _ hv hn => exact .inl ⟨rfl, .inr ⟨hv, hn⟩⟩
  | part _ l hv hn hl => exact .inr ⟨l, hv, hn, l, [], List.take_of_length_le (by omega), rfl, .inl ⟨hl, rfl⟩⟩
  | full _ l hv hn hl xs hx => exact .inr ⟨l, hv, hn, _, xs, rfl, rfl, .inr ⟨by rw [List.length_take]; omega, hx⟩⟩
theorem sbytes_no (x : DT) (s : DSt) (W : World) (B : Nat) (hx : x.At s W B) (hT : TabW W) (h lv i : Nat) (h1 : 1 ≤ h) (h8 : h ≤ 8) (hno : tileV h lv i (2 ^ h) = false ∨ (tileV h lv i (2 ^ h) = true ∧ s.fs (tname h lv i) = .none)) :
    Calls Tryd.prog 30 #[.pointer (some ⟨x.p, 0, none⟩), .int .i64 (h : Int), .int .i64 (lv : Int), .int .i64 (i : Int)] W fun e w' => e = .returned (.tuple #[.slice .none 0 0, .bool false]) ∧ Below W.heap.size W w' := by
  rcases hno with hno | ⟨hv, hno⟩
  · exact sbytes_bad x s W B hx hT h lv i h1 h8 hno
  · exact sbytes_none x s W B hx hT h lv i h1 h8 hv hno

set_option maxHeartbeats 2000000 in
theorem files_iter (n : Nat) (h1n : 1 ≤ n) (b : Nat) (x : DT) (s : DSt) (B h lv : Nat) (h1 : 1 ≤ h) (h8 : h ≤ 8) (hfew : Few s) (xs : List (Nat × List UInt8)) (hF : Files s h lv 0 xs) :
    Iter Fence.wide n Tryd.prog 35 #[.pointer (some ⟨b, 0, none⟩), .pointer (some ⟨b + 1, 0, none⟩), .pointer (some ⟨b + 2, 0, none⟩)] xs HandS (ReadS b x s B h lv) := by
  intro lp J Jx W hJR hJ0 hY
  refine callsIn_of_wp Tryd.func35 rfl trivial ?_ rfl
  simp only [Tryd.ntmps35, List.size_toArray, List.length_cons, List.length_nil, Nat.reduceAdd, Nat.reduceSub, Array.replicate_succ, Array.replicate_zero, List.push_toArray, List.append_toArray, List.nil_append, List.cons_append]
  have h32 := shl32 h h8
  have hw : wrap64 (32 * 2 ^ h) = ((32 * 2 ^ h : Nat) : Int) := by
    rw [show (32 * 2 ^ h : Int) = ((32 * 2 ^ h : Nat) : Int) by push_cast; rfl]
    unfold wrap64
    omega
  gi_wp2
  gi_loopw [5, 6, 7] (fun p _ _ wr => ∃ (pre rest : List (Nat × List UInt8)) (W0 : World), p = .int .i64 (pre.length : Int) ∧ xs = pre ++ rest ∧ Files s h lv pre.length rest ∧ J pre W0 ∧ Below W0.heap.size W0 wr) (fun p _ _ _ => xs.length + 1 - (intOf p).toNat)
  case atStart => exact ⟨[], xs, W, rfl, rfl, hF, hJ0, Below.refl _ _⟩
  case round =>
    obtain ⟨pre, rest, W0, rfl, hx, hf, hJ, hb⟩ := hrel
    have r := (hJR pre W0 hJ).below hb
    have c0 := r.c0
    have c1 := r.c1
    have c2 := r.c2
    rcases hf.inv with ⟨rfl, hno⟩ | ⟨l, hv, hl, m, rest', hm, rfl, hcase⟩
    · have KB := Lib.hid (sbytes_no x s wr B r.at_ r.tab h lv pre.length h1 h8 hno)
      clear r hno hf
      generalize pre.length = k at *
      gi_wp2_with (first | (refine ⟨trivial, ?_⟩; gi_at_call 30; refine (callsIn_wide.2 KB.out).mono ?_; rintro e w1 ⟨rfl, hB1⟩))
      refine ⟨fun _ h => (by cases h), ?_⟩
      gi_wp2
      refine bodyPost_ret (results_none rfl _ _ _) rfl ?_
      exact ⟨⟨_, rfl⟩, W0, below_then hb hB1, .inl (by rw [hx, List.append_nil]; exact hJ)⟩
    · have KB := Lib.hid (sbytes_some x s wr B r.at_ r.tab h lv pre.length h1 h8 hv l hl hfew)
      rw [hm] at KB
      have hk := (tileV_small h lv pre.length (2 ^ h) (by simpa using hv)).1
      clear r hf hm hv hl
      have hXS := Lib.hid hx; clear hx
      generalize hk0 : pre.length = k at *
      have HK := Lib.hid hk0; clear hk0
      generalize 32 * 2 ^ h = k32 at *
      gi_wp2_with (first | (refine ⟨trivial, ?_⟩; gi_at_call 30; refine (callsIn_wide.2 KB.out).mono ?_; rintro e w1 ⟨v1, rfl, ho1, hB1⟩; have hbb : Below W0.heap.size W0 w1 := below_then hb hB1; have d0 := cell_below hB1 c0; have d1 := cell_below hB1 c1; have d2 := cell_below hB1 c2; obtain ⟨fn, tmps, assign, body, hy, hR⟩ := hY pre (k, m) rest' #[.int .i64 (k : Int), v1] W0 w1 hXS.out hJ hbb ⟨v1, rfl, ho1.lower hb.size⟩))
      clear hY d0 d1 d2 KB
      refine hR.mono ?_
      clear hR
      rintro e W3 (⟨rfl, hJ3⟩ | ⟨rfl, hJx3⟩)
      · have e1 := (hJR _ W3 hJ3).c1
        obtain ⟨A1, c1', ev, -, -, -⟩ := ho1.form
        subst ev
        rcases hcase with ⟨hlt, rfl⟩ | ⟨hlt, hfr⟩
        · have g5 : decide ((m.length : Int) < (k32 : Int)) = true := by rw [decide_eq_true_iff]; omega
          gi_wp2
          refine bodyPost_ret (results_none rfl _ _ _) rfl ?_
          exact ⟨⟨_, rfl⟩, W3, Below.refl _ _, .inl (by rw [hXS.out]; exact hJ3)⟩
        · have g5 : decide ((m.length : Int) < (k32 : Int)) = false := by rw [decide_eq_false_iff_not]; omega
          have hwk : wrap64 ((k : Int) + 1) = ((k + 1 : Nat) : Int) := by unfold wrap64; omega
          gi_wp2
          go_roundw
          case rel => exact ⟨pre ++ [(k, m)], rest', W3, by rw [List.length_append, HK.out]; rfl, by rw [hXS.out, List.append_assoc]; rfl, by rw [List.length_append, HK.out]; exact hfr, hJ3, Below.refl _ _⟩
          case measure =>
            have := congrArg List.length hXS.out
            simp [intOf] at this ⊢
            have := HK.out
            omega
      · gi_wp2
        refine bodyPost_ret (results_none rfl _ _ _) rfl ?_
        exact ⟨⟨_, rfl⟩, W3, Below.refl _ _, .inr ⟨_, hJx3⟩⟩
end Go.Proofs.YtjllkmkngjdjjaaDoor
