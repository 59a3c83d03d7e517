/- ACTS OF A JOURNAL in memory; two journals at once. No statement of the seed is proved here. WORDS for the rows of the journal's laws: a []Act that came in. No statement of the seed is proved here. ADD AND CLEAR, whatever is asked, on a disk that holds one journal. No statement of the seed is proved here. PLAIN LAW: what is opened behind a loss of power in an act. No statement of the seed is proved here. -/
import Derived.Test.YtjllkmkngjdjjaaGreatDoorDskS
import Derived.Test.YtjllkmkngjdjjaaGreatDoorPair
import Derived.Test.YtjllkmkngjdjjaaGreatDoorUptoB
import Derived.Test.YtjllkmkngjdjjaaGreatDoorJrnG
namespace Go.Proofs.YtjllkmkngjdjjaaGreatDoor
open Go.RowKit Go.Shelf
set_option maxRecDepth 100000
abbrev ActJ := Bool × Int × List UInt8
def actJ (a : ActJ) (u : Value) : List Value := [.bool a.1, .int .i64 a.2.1, u]
def actsJ : List ActJ → List Value → List Value
  | a :: aa, u :: us => actJ a u ++ actsJ aa us
  | _, _ => []
theorem actsJ_append : ∀ (aa : List ActJ) (us : List Value) (bs : List ActJ) (vs : List Value), aa.length = us.length → actsJ (aa ++ bs) (us ++ vs) = actsJ aa us ++ actsJ bs vs
  | [], [], _, _, _ => rfl
  | a :: aa, u :: us, bs, vs, h => by
    simp only [List.cons_append, actsJ]
    rw [actsJ_append aa us bs vs (by simpa using h), List.append_assoc]
  | [], _ :: _, _, _, h => by simp at h
  | _ :: _, [], _, _, h => by simp at h
theorem actsJ_length : ∀ (aa : List ActJ) (us : List Value), aa.length = us.length → (actsJ aa us).length = aa.length * 3
  | [], [], _ => rfl
  | a :: aa, u :: us, h => by
    rw [actsJ, List.length_append, actsJ_length aa us (by simpa using h)]
    simp [actJ]
    omega
  | [], _ :: _, h => by simp at h
  | _ :: _, [], h => by simp at h
theorem actsJ_get : ∀ (aa : List ActJ) (us : List Value) (i : Nat) (a : ActJ) (u : Value) (j : Nat), aa[i]? = some a → us[i]? = some u → j < 3 → (actsJ aa us)[i * 3 + j]? = (actJ a u)[j]?
  | [], _, i, _, _, _, h, _, _ => by simp at h
  | _ :: _, [], i, _, _, _, _, h, _ => by simp at h
  | a :: aa, u :: us, 0, a', u', j, h, k, hj => by
    simp at h k
    subst h k
    rw [actsJ, Nat.zero_mul, Nat.zero_add, List.getElem?_append_left (by simpa [actJ] using hj)]
  | a :: aa, u :: us, i + 1, a', u', j, h, k, hj => by
    rw [actsJ, List.getElem?_append_right (by simp [actJ]; omega), show (i + 1) * 3 + j - (actJ a u).length = i * 3 + j by simp [actJ]; omega]
    exact actsJ_get aa us i a' u' j (by simpa using h) (by simpa using k) hj
theorem actsJ_one : ∀ (aa : List ActJ) (us : List Value), (∀ u ∈ us, u.oneCell' = true) → ∀ u ∈ actsJ aa us, u.oneCell' = true
  | [], _, _, u, h => by simp [actsJ] at h
  | _ :: _, [], _, u, h => by simp [actsJ] at h
  | a :: aa, v :: us, hu, u, h => by
    rw [actsJ] at h
    rcases List.mem_append.1 h with h | h
    · simp only [actJ, List.mem_cons, List.not_mem_nil, or_false] at h
      rcases h with rfl | rfl | rfl
      · rfl
      · rfl
      · exact hu u (by simp)
    · exact actsJ_one aa us (fun w hw => hu w (by simp [hw])) u h
/-- A slice of acts. -/
structure JActs (W : World) (v : Value) (aa : List ActJ) (us : List Value) : Prop where
  row : Row W v aa.length (actsJ aa us)
  ul : aa.length = us.length
  bs : ∀ (j : Nat) (a : ActJ) (u : Value), aa[j]? = some a → us[j]? = some u → Bs W u a.2.2
  z : ∀ a ∈ aa, -9223372036854775808 ≤ a.2.1 ∧ a.2.1 ≤ 9223372036854775807
/-- An act of a slice. -/
theorem jrow_at {w : World} {v : Value} {aa : List ActJ} {us : List Value} (h : Row w v aa.length (actsJ aa us)) {i : Nat} {a : ActJ} {u : Value} (ha : aa[i]? = some a) (hu : us[i]? = some u) :
    ∃ g o c, v = .slice (some ⟨g, o, none⟩) aa.length c ∧ w.cell? ⟨g, o + i * 3, none⟩ = some (.bool a.1) ∧ w.cell? ⟨g, o + i * 3 + 1, none⟩ = some (.int .i64 a.2.1) ∧ w.cell? ⟨g, o + i * 3 + 2, none⟩ = some u := by
  obtain ⟨A, c, rfl, -, -, -, h3⟩ := h
  have hg := fun j hj => actsJ_get aa us i a u j ha hu hj
  obtain ⟨ad, e0, c0⟩ := h3 (i * 3 + 0) (.bool a.1) (hg 0 (by omega))
  subst e0
  obtain ⟨ad1, e1, c1⟩ := h3 (i * 3 + 1) (.int .i64 a.2.1) (hg 1 (by omega))
  cases e1
  obtain ⟨ad2, e2, c2⟩ := h3 (i * 3 + 2) u (hg 2 (by omega))
  cases e2
  have hs : ad.spot = none := by
    have hlt := (List.getElem?_eq_some_iff.1 (hg 0 (by omega))).1
    obtain ⟨ad0, e0, c00⟩ := h3 0 _ (List.getElem?_eq_getElem (show 0 < (actsJ aa us).length by omega))
    cases e0
    exact cell_spot c00
  obtain ⟨g, o, sp⟩ := ad
  simp only at hs
  subst hs
  rw [Addr.add_mid] at c0 c1 c2
  exact ⟨g, o, c, rfl, by rw [← c0]; rfl, by rw [← c1]; rfl, by rw [← c2]; rfl⟩
theorem size_act : (Tryz.prog.info? 89).map (·.size) = some 3 := by kernel_rfl
theorem jrow_index (g o n c i : Nat) (hi : i < n) (w : World) : (Instr.indexAt 80 (.slice (some ⟨g, o, none⟩) n c) (.int .i64 (i : Int))).run Tryz.prog w = .ok (.pointer (some ⟨g, o + i * 3, none⟩)) w := by
  have hel : Tryz.prog.elem 80 = 89 := by simp [Program.elem, Tryz.underlying80]
  have e1 := run_indexAt_slice (P := Tryz.prog) (w := w) 80 ⟨g, o, none⟩ n c .i64 (i : Int) (by rw [hel]; exact Tryz.underlying80)
  rw [if_pos ⟨by omega, by omega⟩, hel] at e1
  obtain ⟨i0, hi0, hz⟩ := Option.map_eq_some_iff.1 size_act
  rw [e1]
  have ea : (⟨g, o, none⟩ : Addr).add (i * 3) = ⟨g, o + i * 3, none⟩ := Addr.add_mid _ _ _
  simp [sizeOf, typeInfo, hi0, hz, Result.andThen, ea]
/-- What acts cost. -/
def costJ (aa : List ActJ) : Nat := (aa.map fun a => a.2.2.length + 4).sum
theorem costJ_append (aa bs : List ActJ) : costJ (aa ++ bs) = costJ aa + costJ bs := by simp [costJ]
theorem costJ_len (aa : List ActJ) : aa.length * 4 ≤ costJ aa := by
  induction aa with
  | nil => simp [costJ]
  | cons a aa ih => simp only [costJ, List.map_cons, List.sum_cons, List.length_cons] at ih ⊢; omega
/-! ### two journals -/
def JOwn (j : JT) (x : DT) (q : Nat) : Prop := j.Has q ∨ x.Has q
theorem JD.kept {j : JT} {x : DT} {s : DSt} {g : Nat} {ls : List (List UInt8)} {W W' : World} {B : Nat} (h : JD j x s g ls W B) (hs : ∀ k, JOwn j x k → W'.heap[k]? = W.heap[k]?) : JD j x s g ls W' B := ⟨h.ja.kept fun k hk => hs k (.inl hk), h.xa.kept fun k hk => hs k (.inr hk), h.sep⟩
theorem JD.lt {j : JT} {x : DT} {s : DSt} {g : Nat} {ls : List (List UInt8)} {W : World} {B : Nat} (h : JD j x s g ls W B) {k : Nat} (hk : JOwn j x k) : k < W.heap.size := hk.elim h.ja.lt h.xa.lt
theorem JD.ge {j : JT} {x : DT} {s : DSt} {g : Nat} {ls : List (List UInt8)} {W : World} {B : Nat} (h : JD j x s g ls W B) {k : Nat} (hk : JOwn j x k) : B ≤ k := hk.elim h.ja.ge h.xa.ge
theorem JStep.own {j j' : JT} {x y : DT} {W w' : World} (h : JStep j x W j' y w') {k : Nat} (hk : JOwn j' y k) : JOwn j x k ∨ W.heap.size ≤ k := by
  rcases hk with hk | hk | ⟨u, hu, hk⟩
  · exact (h.has k hk).imp .inl id
  · exact (h.mu k hk).imp (fun e => .inr (.inl e)) id
  · rcases h.us u hu with e | e
    · exact .inl (.inr (.inr ⟨u, e, hk⟩))
    · exact .inr (e k hk)
theorem JStep.same {j j' : JT} {x y : DT} {W w' : World} (h : JStep j x W j' y w') {k : Nat} (hk : k < W.heap.size) (hn : ¬ JOwn j x k) : w'.heap[k]? = W.heap[k]? := h.block k hk (fun e => hn (.inr (.inl e))) (fun e => hn (.inl e))
theorem JStep.below {j j' : JT} {x y : DT} {s : DSt} {g : Nat} {ls : List (List UInt8)} {W0 W w' : World} {B n : Nat} (h : JStep j x W j' y w') (hJ : JD j x s g ls W B) (hb : Below n W0 W) (hn : n ≤ B) (hz : n ≤ W.heap.size) : Below n W0 w' :=
  ⟨h.os.trans hb.os, h.tape.trans hb.tape, h.output.trans hb.output, Nat.le_trans hb.size h.size, fun k hk => (h.same (by omega) (fun e => by have := hJ.ge e; omega)).trans (hb.block k hk)⟩
theorem JStep.of_below {j : JT} {x : DT} {W w' : World} (hb : Below W.heap.size W w') : JStep j x W j x w' :=
  ⟨rfl, rfl, hb.os, hb.tape, hb.output, hb.size, fun k hk _ _ => hb.block k hk, fun k hk => .inl hk, fun k hk => .inl hk, fun u hu => .inl hu⟩
/-- Two journals, apart. -/
structure Two (j : JT) (x : DT) (s : DSt) (g : Nat) (ls : List (List UInt8)) (k : JT) (y : DT) (t : DSt) (g' : Nat) (ls' : List (List UInt8)) (W : World) (B : Nat) : Prop where
  a : JD j x s g ls W B
  b : JD k y t g' ls' W B
  ap : ∀ q, JOwn j x q → ¬ JOwn k y q
theorem Two.below {j k : JT} {x y : DT} {s t : DSt} {g g' : Nat} {ls ls' : List (List UInt8)} {W W' : World} {B : Nat} (h : Two j x s g ls k y t g' ls' W B) (hb : Below W.heap.size W W') : Two j x s g ls k y t g' ls' W' B := ⟨h.a.below hb, h.b.below hb, h.ap⟩
theorem Two.left {j k j' : JT} {x y x' : DT} {s t s' : DSt} {g g' h1 : Nat} {ls ls' ls1 : List (List UInt8)} {W W' : World} {B : Nat} (h : Two j x s g ls k y t g' ls' W B) (hJ : JD j' x' s' h1 ls1 W' B) (hS : JStep j x W j' x' W') : Two j' x' s' h1 ls1 k y t g' ls' W' B := by
  refine ⟨hJ, h.b.kept fun q hq => hS.same (h.b.lt hq) (fun e => h.ap q e hq), fun q hq hq2 => ?_⟩
  rcases hS.own hq with e | e
  · exact h.ap q e hq2
  · have := h.b.lt hq2; omega
theorem Two.right {j k k' : JT} {x y y' : DT} {s t t' : DSt} {g g' h1 : Nat} {ls ls' ls1 : List (List UInt8)} {W W' : World} {B : Nat} (h : Two j x s g ls k y t g' ls' W B) (hJ : JD k' y' t' h1 ls1 W' B) (hS : JStep k y W k' y' W') : Two j x s g ls k' y' t' h1 ls1 W' B := by
  refine ⟨h.a.kept fun q hq => hS.same (h.a.lt hq) (fun e => h.ap q hq e), hJ, fun q hq hq2 => ?_⟩
  rcases hS.own hq2 with e | e
  · exact h.ap q hq e
  · have := h.a.lt hq; omega
theorem JG.same {s t : DSt} {g : Nat} {ls : List (List UInt8)} (h : JG s g ls) (k : JG t g ls) : s.fs = t.fs := by rw [h.fs, k.fs]
theorem jfile_length (ls : List (List UInt8)) : (jfile ls).length = 8 * ls.length + (ls.map List.length).sum := by rw [← frs_jfile, frs_length]
end Go.Proofs.YtjllkmkngjdjjaaGreatDoor
namespace Go.Proofs.YtjllkmkngjdjjaaGreatDoor
open Go.ChangeShapes Go.WideShapes Go.ChangeAt Go.RowKit Go.Deep
set_option maxRecDepth 100000
/-- An Act that was read. -/
theorem actj_of_trod {H : Type} {enc : TypeId × Value → H} {W : World} {base : Nat} {spare : Nat → Bool} {held : Bool} {fuel : Nat} {cs : List Value} {x : DataW H × List MemPlace} (h : DataW.trod enc Tryz.prog W base spare held fuel 89 cs = some x) :
    ∃ (a : ActJ) (u : Value), cs = actJ a u ∧ Bs W u a.2.2 ∧ (-9223372036854775808 ≤ a.2.1 ∧ a.2.1 ≤ 9223372036854775807) ∧ a.2.2.length + 4 ≤ Rows.uptoBulk x.1 := by
  obtain ⟨xs, m, _, hx, hl, hn, hall⟩ := DataW.trod_struct Tryz.underlying89 h
  have hc : Tryz.prog.cellsOf 89 = 3 := by kernel_rfl
  have hs1 : Tryz.prog.cellsOf 35 = 1 := by kernel_rfl
  have hi1 : Tryz.prog.cellsOf 3 = 1 := by kernel_rfl
  have hb1 : Tryz.prog.cellsOf 4 = 1 := by kernel_rfl
  rw [hc] at hl
  have q0 : DataW.trod enc Tryz.prog W base spare held m 4 ((cs.drop 0).take (Tryz.prog.cellsOf 4)) = xs[0]? := hall 0 _ rfl
  have q1 : DataW.trod enc Tryz.prog W base spare held m 3 ((cs.drop 1).take (Tryz.prog.cellsOf 3)) = xs[1]? := hall 1 _ rfl
  have q2 : DataW.trod enc Tryz.prog W base spare held m 35 ((cs.drop 2).take (Tryz.prog.cellsOf 35)) = xs[2]? := hall 2 _ rfl
  rw [hb1] at q0
  rw [hi1] at q1
  rw [hs1] at q2
  have hn3 : xs.length = 3 := hn
  rw [List.getElem?_eq_getElem (show 0 < xs.length by omega)] at q0
  rw [List.getElem?_eq_getElem (show 1 < xs.length by omega)] at q1
  rw [List.getElem?_eq_getElem (show 2 < xs.length by omega)] at q2
  match cs, hl with
  | [c0, c1, c2], _ =>
    obtain ⟨b, e0, -⟩ := DataW.trod_bool Tryz.underlying4 q0
    obtain ⟨n, e1, -, hw⟩ := DataW.trod_int Tryz.underlying3 q1
    obtain ⟨l, e2, hb⟩ := bytes_of_trod Tryz.underlying35 Tryz.underlying5 (by kernel_rfl) (show DataW.trod enc Tryz.prog W base spare held m 35 [c2] = some xs[2] from q2)
    have f0 : c0 = .bool b := by simpa using e0
    have f1 : c1 = .int .i64 n := by simpa using e1
    subst f0 f1
    refine ⟨(b, n, l), c2, rfl, e2, bounds_i64 hw, ?_⟩
    have hall3 : Rows.uptoBulkAll (xs.map (·.1)) = Rows.uptoBulk xs[0].1 + (Rows.uptoBulk xs[1].1 + (Rows.uptoBulk xs[2].1 + 0)) := by
      obtain ⟨x0, x1, x2, rfl⟩ : ∃ x0 x1 x2, xs = [x0, x1, x2] := by
        match xs, hn3 with
        | [x0, x1, x2], _ => exact ⟨_, _, _, rfl⟩
      rfl
    rw [hx]
    simp only [Rows.uptoBulk]
    have h0 := bulk_one xs[0].1
    have h1 := bulk_one xs[1].1
    show l.length + 4 ≤ _
    omega
theorem bulk_costJ {H : Type} (D : Nat → DataW H) (f : Nat → ActJ) : ∀ (l : List Nat), (∀ i ∈ l, (f i).2.2.length + 4 ≤ Rows.uptoBulk (D i)) → costJ (l.map f) ≤ Rows.uptoBulkAll (l.map D)
  | [], _ => by simp [costJ]
  | i :: r, h => by
    have h1 := h i (by simp)
    have h2 := bulk_costJ D f r (fun j hj => h j (by simp [hj]))
    simp only [costJ, List.map_cons, List.sum_cons, Rows.uptoBulkAll] at h2 ⊢
    omega
theorem actsJ_at {f : Nat → ActJ} {g : Nat → Value} : ∀ (n : Nat) (j : Nat) (u : Value), (actsJ ((List.range n).map f) ((List.range n).map g))[j]? = some u → j / 3 < n ∧ (actJ (f (j / 3)) (g (j / 3)))[j % 3]? = some u := by
  intro n j u h
  have hl := actsJ_length ((List.range n).map f) ((List.range n).map g) (by simp)
  have hj := (List.getElem?_eq_some_iff.1 h).1
  rw [hl] at hj
  simp only [List.length_map, List.length_range] at hj
  have hd : j / 3 < n := by omega
  refine ⟨hd, ?_⟩
  have := actsJ_get ((List.range n).map f) ((List.range n).map g) (j / 3) (f (j / 3)) (g (j / 3)) (j % 3) (by simp [hd]) (by simp [hd]) (by omega)
  rw [show j / 3 * 3 + j % 3 = j by omega, h] at this
  exact this.symm
/-- A []Act that came in. -/
theorem open_jacts_u {H : Type} {enc : TypeId × Value → H} {W : World} {base base' : Nat} {spare : Nat → Bool} {held : Bool} {v : Value} {d : DataW H} {ps : List MemPlace}
    (hok : Value.okWide Tryz.prog W .any base 80 v) (h : DataW.Trod enc Tryz.prog W base' spare held 80 v d ps) : ∃ acts us, JActs W v acts us ∧ costJ acts + 1 ≤ Rows.uptoBulk d := by
  obtain ⟨a, len, cap, rfl⟩ := okWide_slice Tryz.underlying80 hok
  obtain ⟨fuel, hf⟩ := h
  have h3 : Tryz.prog.cellsOf 89 = 3 := by kernel_rfl
  rcases open_slice Tryz.underlying80 hf with ⟨hcs, _⟩ | ⟨x, l, c, m, n, D, Pl, hcs, _, hl, hm, hmm, hx, hcell⟩
  · simp [Value.cells] at hcs
    obtain ⟨rfl, rfl, rfl⟩ := hcs
    exact ⟨[], [], ⟨⟨none, 0, rfl, Nat.le_refl _, by unfold maxLen; omega, fun _ => rfl, fun j u hu => by simp [actsJ] at hu⟩, rfl, fun j a u h => by simp at h, fun a h => by cases h⟩, by have := bulk_one d; simp [costJ]; omega⟩
  · simp [Value.cells] at hcs
    obtain ⟨rfl, rfl, rfl⟩ := hcs
    obtain ⟨hx, _⟩ := Prod.mk.inj hx
    subst hx
    have hlm : len ≤ m := by rw [hmm]; split <;> omega
    rw [h3] at hcell
    obtain ⟨f, hff⟩ := choose_lt (α := ActJ × Value) (p := fun i s => (∀ j u, (actJ s.1 s.2)[j]? = some u → W.cell? ((x.add (i * 3)).add j) = some u) ∧ Bs W s.2 s.1.2.2 ∧ (-9223372036854775808 ≤ s.1.2.1 ∧ s.1.2.1 ≤ 9223372036854775807) ∧ s.1.2.2.length + 4 ≤ Rows.uptoBulk (D i)) (n := len) (fun i hi => by
      obtain ⟨cs', h1, h2⟩ := hcell i (Nat.lt_of_lt_of_le hi hlm)
      obtain ⟨a, u, d2, d3, d4, d5⟩ := actj_of_trod h2
      refine ⟨(a, u), fun j w hu => ?_, d3, d4, d5⟩
      have hj : j < 3 := by have := (List.getElem?_eq_some_iff.1 hu).1; simpa [actJ] using this
      obtain ⟨u', e1, e2⟩ := cells_get h1 j hj
      rw [d2, hu] at e1
      cases e1
      exact e2)
    refine ⟨(List.range len).map (fun i => (f i).1), (List.range len).map (fun i => (f i).2), ⟨⟨some x, cap, by simp, by simp; exact hl, hm, fun h => (by cases h), fun j u hj => ⟨x, rfl, ?_⟩⟩, by simp, fun j a u ha hu => ?_, fun a ha => ?_⟩, ?_⟩
    · obtain ⟨hd, hu⟩ := actsJ_at len j u hj
      have := (hff (j / 3) hd).1 (j % 3) u hu
      rw [add_add] at this
      rwa [show j / 3 * 3 + j % 3 = j by omega] at this
    · have hjl : j < len := by have := (List.getElem?_eq_some_iff.1 ha).1; simpa using this
      rw [List.getElem?_map, List.getElem?_range hjl] at ha hu
      cases ha
      cases hu
      exact (hff j hjl).2.1
    · obtain ⟨i, hi, rfl⟩ := List.mem_map.1 ha
      exact (hff i (by simpa using hi)).2.2.1
    · have h1 := bulk_costJ D (fun i => (f i).1) (List.range len) (fun i hi => (hff i (by simpa using hi)).2.2.2)
      simp only [Rows.uptoBulk]
      omega
end Go.Proofs.YtjllkmkngjdjjaaGreatDoor
namespace Go.Proofs.YtjllkmkngjdjjaaGreatDoor
open Go.RowKit Go.Shelf
set_option maxRecDepth 100000
/-- What an act makes: its code, the disk, the generation, the leaves. -/
structure JM where
  code : Int
  s : DSt
  g : Nat
  ls : List (List UInt8)
def addM (s : DSt) (g : Nat) (ls : List (List UInt8)) (m : List UInt8) : JM := if m.length ≤ 65535 then ⟨0, s.runs (appR s (jnm g) (fr m)), g, ls ++ [m]⟩ else ⟨3, s, g, ls⟩
def clearM (s : DSt) (g : Nat) (ls : List (List UInt8)) (K : Int) : JM := if K < 0 ∨ (ls.length : Int) < K then ⟨2, s, g, ls⟩ else if K = 0 then ⟨0, s, g, ls⟩ else ⟨0, clearS s g (jfile (ls.drop K.toNat)), g + 1, ls.drop K.toNat⟩
def actM (s : DSt) (g : Nat) (ls : List (List UInt8)) (a : ActJ) : JM := if a.1 then clearM s g ls a.2.1 else addM s g ls a.2.2
/-- How great a journal is, behind i acts of cost c. -/
structure JB (s : DSt) (g : Nat) (ls : List (List UInt8)) (i c : Nat) : Prop where
  jg : JG s g ls
  g2 : g ≤ i + 1
  ln : ls.length ≤ i
  fl : (jfile ls).length ≤ 2 * c
  rw : s.raws.length ≤ 1 + i * 2100000
theorem JB.start (sec : Nat) (h : 0 < sec) : JB ((emptyD sec).run (rCreate (jnm 1))) 1 [] 0 0 := ⟨JG.empty h, by omega, by simp, by simp [jfile], by simp [DSt.run, emptyD]⟩
theorem JB.act {s : DSt} {g : Nat} {ls : List (List UInt8)} {i c : Nat} (h : JB s g ls i c) (a : ActJ) (hi : i ≤ 262144) (hc : c ≤ 1048576) : JB (actM s g ls a).s (actM s g ls a).g (actM s g ls a).ls (i + 1) (c + (a.2.2.length + 4)) := by
  have stay : JB s g ls (i + 1) (c + (a.2.2.length + 4)) := ⟨h.jg, by have := h.g2; omega, by have := h.ln; omega, by have := h.fl; omega, Nat.le_trans h.rw (Nat.add_le_add_left (Nat.mul_le_mul_right _ (Nat.le_succ i)) 1)⟩
  have hg2 := h.g2
  have hln := h.ln
  have hfl := h.fl
  have hrw := h.rw
  unfold actM
  by_cases c1 : a.1 = true
  · rw [if_pos c1]
    unfold clearM
    by_cases c2 : a.2.1 < 0 ∨ (ls.length : Int) < a.2.1
    · rw [if_pos c2]; exact stay
    · rw [if_neg c2]
      by_cases c3 : a.2.1 = 0
      · rw [if_pos c3]; exact stay
      · rw [if_neg c3]
        have hd := jfile_drop_le ls a.2.1.toNat
        refine ⟨h.jg.clear (by omega) _, by simp only; omega, by simp only [List.length_drop]; omega, by simp only; omega, ?_⟩
        simp only
        rw [clearS_runs, DSt.runs_raws, List.length_append]
        unfold clearR
        have := appR_len (s.run (rCreate (jnm (g + 1)))) (jnm (g + 1)) (jfile (ls.drop a.2.1.toNat)) h.jg.sec
        simp only [List.length_cons, List.length_append, List.length_nil]
        omega
  · rw [if_neg c1]
    unfold addM
    by_cases c2 : a.2.2.length ≤ 65535
    · rw [if_pos c2]
      have := appR_len s (jnm g) (fr a.2.2) h.jg.sec
      rw [fr_length] at this
      refine ⟨h.jg.add c2, by simp only; omega, by simp only [List.length_append, List.length_singleton]; omega, ?_, ?_⟩
      · simp only
        rw [jfile_snoc, List.length_append, fr_length]
        omega
      · simp only
        rw [DSt.runs_raws, List.length_append]
        omega
    · rw [if_neg c2]; exact stay
theorem jadd_all (j : JT) (x : DT) (s : DSt) (g : Nat) (ls : List (List UInt8)) (W : World) (B : Nat) (hJ : JD j x s g ls W B) (hB : B ≤ W.heap.size) (hT : TabW W) (hF : LaidF W) {i c : Nat} (hb : JB s g ls i c) (hi : i ≤ 262144) (hc : c ≤ 1048576) (v : Value) (m : List UInt8) (hv : Bs W v m) (hvx : 0 < m.length → ∀ k, v.ownBlock = some k → ¬ x.Mut k) :
    Calls Tryz.prog 43 #[.pointer (some ⟨j.p, 0, none⟩), v] W fun e w' => e = .returned (.int .i64 (addM s g ls m).code) ∧ ∃ (j' : JT) (y : DT), JD j' y (addM s g ls m).s (addM s g ls m).g (addM s g ls m).ls w' B ∧ JStep j x W j' y w' := by
  unfold addM
  have hg2 := hb.g2
  have hln := hb.ln
  have hfl := hb.fl
  have hrw := hb.rw
  by_cases hm : m.length ≤ 65535
  · rw [if_pos hm]
    exact jadd_calls j x s g ls W B hJ hB hT hF hb.jg.g1 (by omega) v m hv hvx hm (jfile ls) (by rw [hb.jg.fs, upd_same]) (by omega) (by omega) (by omega)
  · rw [if_neg hm]
    refine (jadd_big j x.p g ls W B hJ.ja v m hv (by omega)).mono ?_
    rintro e w' ⟨rfl, rfl⟩
    exact ⟨rfl, j, x, hJ, JStep.of_below (Below.refl _ _)⟩
theorem jclear_all (j : JT) (x : DT) (s : DSt) (g : Nat) (ls : List (List UInt8)) (W : World) (B : Nat) (hJ : JD j x s g ls W B) (hB : B ≤ W.heap.size) (hT : TabW W) (hF : ∀ w, Below B W w → LaidF w) {i c : Nat} (hb : JB s g ls i c) (hi : i ≤ 262144) (hc : c ≤ 1048576) (K : Int) (hK1 : -9223372036854775808 ≤ K) (hK2 : K ≤ 9223372036854775807) :
    Calls Tryz.prog 41 #[.pointer (some ⟨j.p, 0, none⟩), .int .i64 K] W fun e w' => e = .returned (.int .i64 (clearM s g ls K).code) ∧ ∃ (j' : JT) (y : DT), JD j' y (clearM s g ls K).s (clearM s g ls K).g (clearM s g ls K).ls w' B ∧ JStep j x W j' y w' := by
  unfold clearM
  have hg2 := hb.g2
  have hln := hb.ln
  have hfl := hb.fl
  have hrw := hb.rw
  by_cases h1 : K < 0 ∨ (ls.length : Int) < K
  · rw [if_pos h1]
    refine (jclear_bad j x.p g ls W B hJ.ja K hK1 hK2 h1).mono ?_
    rintro e w' ⟨rfl, rfl⟩
    exact ⟨rfl, j, x, hJ, JStep.of_below (Below.refl _ _)⟩
  · rw [if_neg h1]
    by_cases h2 : K = 0
    · rw [if_pos h2]
      subst h2
      refine (jclear_zero j x.p g ls W B hJ.ja).mono ?_
      rintro e w' ⟨rfl, rfl⟩
      exact ⟨rfl, j, x, hJ, JStep.of_below (Below.refl _ _)⟩
    · rw [if_neg h2]
      obtain ⟨k, rfl⟩ := Int.eq_ofNat_of_zero_le (show 0 ≤ K by omega)
      have hne : jnm (g + 1) ≠ jnm g := fun e => by have := jnm_inj (g := g + 1) (g' := g) (by omega) (by omega) e; omega
      rw [show ((k : Nat) : Int).toNat = k from rfl]
      exact jclear_calls j x s g ls W B hJ hB hT hF hb.jg.g1 (by omega) k (by omega) (by omega) (jfile ls) (by rw [hb.jg.fs, upd_same]) (by rw [hb.jg.fs, upd_other _ _ hne]) hb.jg.sec (by omega) hb.jg.few (by omega) (by omega)
end Go.Proofs.YtjllkmkngjdjjaaGreatDoor
namespace Go.Proofs.YtjllkmkngjdjjaaGreatDoor
open Go.RowKit Go.Shelf
set_option maxRecDepth 100000
/-- A disk that is opened to a journal of these leaves. -/
def Opens (t : DSt) (ls : List (List UInt8)) : Prop :=
  ∃ (gs : List Nat) (g : Nat), NamesOf t.fs (jns gs) ∧ (∀ q ∈ gs, 1 ≤ q ∧ q ≤ 2147483647) ∧ gs.length ≤ 2 ∧ (∀ q rest f, gsort gs = q :: rest → t.fs (jnm q) = some f → ∀ x ∈ allF f 0, x.2.length ≤ 65535) ∧ (∀ n f, t.fs n = some f → f.length ≤ 1000000000000) ∧
    1 ≤ g ∧ g ≤ 2147483647 ∧ ∀ g' ls' t', OpenS t gs g' ls' t' → g' = g ∧ ls' = ls ∧ JG t' g ls ∧ t'.raws.length ≤ t.raws.length + 1
theorem few_of {ls : List (List UInt8)} (hls : ∀ m ∈ ls, m.length ≤ 65535) {f : List UInt8} (h : (allF f 0).map (·.2) = ls) : ∀ x ∈ allF f 0, x.2.length ≤ 65535 := fun x hx => hls _ (by rw [← h]; exact List.mem_map_of_mem hx)
theorem opens_one {t : DSt} {g : Nat} {ls : List (List UInt8)} {u : List UInt8} (h1 : 1 ≤ g) (h2 : g ≤ 2147483647) (hs : 0 < t.sec) (hfs : t.fs = upd (fun _ => none) (jnm g) (some (jfile ls ++ u))) (hls : ∀ m ∈ ls, m.length ≤ 65535) (hu : Torn u) (hz : (jfile ls ++ u).length ≤ 1000000000000) : Opens t ls := by
  obtain ⟨a1, a2⟩ := allF_torn hls hu
  refine ⟨[g], g, by rw [hfs]; exact names_one, fun q hq => by simp at hq; subst hq; exact ⟨h1, h2⟩, by simp, fun q rest f hq hf => ?_, fun n f hn => ?_, h1, h2, fun g' ls' t' h => ?_⟩
  · rw [gsort_of (List.Perm.refl _) (by simp)] at hq
    injection hq with e1 e2
    subst e1
    rw [hfs, upd_same] at hf
    cases hf
    exact few_of hls a1
  · rw [hfs] at hn
    by_cases e : n = jnm g
    · subst e; rw [upd_same] at hn; cases hn; exact hz
    · rw [upd_other _ _ e] at hn; cases hn
  · obtain ⟨b1, b2, b3, b4, b5, b6⟩ := openS_one h2 hfs hls hu h
    exact ⟨b1, b2, ⟨b3, hls, h1, by rw [b4]; exact hs⟩, b5⟩
theorem opens_two {t : DSt} {g : Nat} {ls : List (List UInt8)} {f' : List UInt8} (h1 : 1 ≤ g) (h2 : g + 1 ≤ 2147483647) (hs : 0 < t.sec) (hfs : t.fs = upd (upd (fun _ => none) (jnm g) (some (jfile ls))) (jnm (g + 1)) (some f')) (hls : ∀ m ∈ ls, m.length ≤ 65535) (hz : (jfile ls).length ≤ 1000000000000) (hz' : f'.length ≤ 1000000000000) : Opens t ls := by
  have hne : jnm g ≠ jnm (g + 1) := fun e => by have := jnm_inj (by omega) h2 e; omega
  obtain ⟨a1, a2⟩ := allF_torn hls (.inl rfl)
  rw [List.append_nil] at a1
  obtain ⟨gs, hgs, hN⟩ := names_two h2 (f := jfile ls) (f' := f')
  refine ⟨gs, g, by rw [hfs]; exact hN, fun q hq => ?_, by rw [hgs.length_eq]; simp, fun q rest f hq hf => ?_, fun n f hn => ?_, h1, by omega, fun g' ls' t' h => ?_⟩
  · have := hgs.mem_iff.1 hq
    simp at this
    omega
  · rw [gsort_of hgs (by simp)] at hq
    injection hq with e1 e2
    subst e1
    rw [hfs, upd_other _ _ hne, upd_same] at hf
    cases hf
    exact few_of hls a1
  · rw [hfs] at hn
    by_cases e : n = jnm (g + 1)
    · subst e; rw [upd_same] at hn; cases hn; exact hz'
    · rw [upd_other _ _ e] at hn
      by_cases e2 : n = jnm g
      · subst e2; rw [upd_same] at hn; cases hn; exact hz
      · rw [upd_other _ _ e2] at hn; cases hn
  · obtain ⟨b1, b2, b3, b4, b5⟩ := openS_two hgs h2 hfs hls h
    exact ⟨b1, b2, ⟨b3, hls, h1, by rw [b4]; exact hs⟩, b5⟩
theorem JG.opens {s : DSt} {g : Nat} {ls : List (List UInt8)} (h : JG s g ls) (hg : g ≤ 2147483647) (hz : (jfile ls).length ≤ 1000000000000) : Opens s ls :=
  opens_one h.g1 hg h.sec (u := []) (by rw [List.append_nil]; exact h.fs) h.few (.inl rfl) (by rw [List.append_nil]; exact hz)
/-- A journal's disk is opened as it is. -/
theorem JG.again {s : DSt} {g : Nat} {ls : List (List UInt8)} (h : JG s g ls) (hg : g ≤ 2147483647) {g' : Nat} {ls' : List (List UInt8)} {t' : DSt} (ho : OpenS s [g] g' ls' t') : g' = g ∧ ls' = ls ∧ t' = s := by
  obtain ⟨b1, b2, b3, b4, b5, b6⟩ := openS_one (t := []) hg (by rw [List.append_nil]; exact h.fs) h.few (.inl rfl) ho
  exact ⟨b1, b2, b6 rfl⟩
theorem JG.few1 {s : DSt} {g : Nat} {ls : List (List UInt8)} (h : JG s g ls) (hz : (jfile ls).length ≤ 1000000000000) : (∀ q rest f, gsort [g] = q :: rest → s.fs (jnm q) = some f → ∀ x ∈ allF f 0, x.2.length ≤ 65535) ∧ ∀ n f, s.fs n = some f → f.length ≤ 1000000000000 := by
  obtain ⟨a1, a2⟩ := allF_torn h.few (.inl rfl)
  rw [List.append_nil] at a1
  refine ⟨fun q rest f hq hf => ?_, fun n f hn => ?_⟩
  · rw [gsort_of (List.Perm.refl _) (by simp)] at hq
    injection hq with e1 e2
    subst e1
    rw [h.fs, upd_same] at hf
    cases hf
    exact few_of h.few a1
  · rw [h.fs] at hn
    by_cases e : n = jnm g
    · subst e; rw [upd_same] at hn; cases hn; exact hz
    · rw [upd_other _ _ e] at hn; cases hn
theorem torn_len {t : List UInt8} (h : Torn t) : t.length ≤ 65543 := by
  rcases h with rfl | ⟨m, k, h1, h2, rfl⟩
  · simp
  · rw [List.length_take]; omega
/-- THE LAW: behind a loss of power in an act. -/
theorem act_cut {s : DSt} {g : Nat} {ls : List (List UInt8)} {i c : Nat} (hb : JB s g ls i c) (hH : Hist s) (hi : i ≤ 262144) (hc : c ≤ 1048576) (a : ActJ) :
    Hist (actM s g ls a).s ∧ ∃ rs, (actM s g ls a).s = s.runs rs ∧ ∀ q, ∃ ls', Opens (cutS s rs q) ls' ∧ (ls' = ls ∨ ls' = (actM s g ls a).ls) ∧ (rs.length ≤ q → ls' = (actM s g ls a).ls) := by
  have hg2 := hb.g2
  have hfl := hb.fl
  have hg := hb.jg
  have stay : ∀ q, Opens (cutS s [] q) ls := fun q => by
    refine opens_one hg.g1 (by omega) (by rw [cutS_sec]; exact hg.sec) (u := []) ?_ hg.few (.inl rfl) (by rw [List.append_nil]; omega)
    rw [cutS_fs hH, List.take_nil, DSt.runs_nil, List.append_nil, hg.fs]
  unfold actM
  by_cases c1 : a.1 = true
  · rw [if_pos c1]
    unfold clearM
    by_cases c2 : a.2.1 < 0 ∨ (ls.length : Int) < a.2.1
    · rw [if_pos c2]; exact ⟨hH, [], rfl, fun q => ⟨ls, stay q, .inl rfl, fun _ => rfl⟩⟩
    · rw [if_neg c2]
      by_cases c3 : a.2.1 = 0
      · rw [if_pos c3]; exact ⟨hH, [], rfl, fun q => ⟨ls, stay q, .inl rfl, fun _ => rfl⟩⟩
      · rw [if_neg c3]
        generalize a.2.1.toNat = k
        have hd := jfile_drop_le ls k
        refine ⟨hH.clear hg.sec g _ (by omega), clearR s g (jfile (ls.drop k)), clearS_runs _ _ _, fun q => ?_⟩
        have hsec : 0 < (cutS s (clearR s g (jfile (ls.drop k))) q).sec := by rw [cutS_sec]; exact hg.sec
        have hcl : ∀ q, (clearR s g (jfile (ls.drop k))).length ≤ q → q = 0 → False := fun q h1 h2 => by subst h2; simp [clearR] at h1
        rcases clear_cut hg hH (by omega) k q with ⟨hq0, h⟩ | ⟨f', h0, h, hf'⟩ | ⟨h0, h⟩
        · exact ⟨ls, opens_one hg.g1 (by omega) hsec (u := []) (by rw [List.append_nil]; exact h) hg.few (.inl rfl) (by rw [List.append_nil]; omega), .inl rfl, fun hq => (hcl q hq (by assumption)).elim⟩
        · exact ⟨ls, opens_two hg.g1 (by omega) hsec h hg.few (by omega) (by omega), .inl rfl, fun hq => by omega⟩
        · refine ⟨ls.drop k, opens_one (g := g + 1) (by omega) (by omega) hsec (u := []) (by rw [List.append_nil]; exact h) (fun m hm => hg.few m (List.mem_of_mem_drop hm)) (.inl rfl) (by rw [List.append_nil]; omega), .inr rfl, fun _ => rfl⟩
  · rw [if_neg c1]
    unfold addM
    by_cases c2 : a.2.2.length ≤ 65535
    · rw [if_pos c2]
      have h0 : s.fs (jnm g) = some (jfile ls) := by rw [hg.fs, upd_same]
      refine ⟨hH.append hg.sec h0 (by rw [fr_length]; omega), appR s (jnm g) (fr a.2.2), rfl, fun q => ?_⟩
      obtain ⟨ls', t, e1, e2, e3, e4⟩ := add_cut_torn hg hH c2 q
      have htl := torn_len e2
      have hfew : ∀ m ∈ ls', m.length ≤ 65535 := by
        rcases e3 with rfl | rfl
        · exact hg.few
        · exact (hg.add c2).few
      have hz : (jfile ls').length ≤ 2 * c + 8 + 65535 := by
        rcases e3 with rfl | rfl
        · omega
        · rw [jfile_snoc, List.length_append, fr_length]; omega
      exact ⟨ls', opens_one hg.g1 (by omega) (by rw [cutS_sec]; exact hg.sec) e1 hfew e2 (by rw [List.length_append]; omega), e3, e4⟩
    · rw [if_neg c2]; exact ⟨hH, [], rfl, fun q => ⟨ls, stay q, .inl rfl, fun _ => rfl⟩⟩
theorem actM_same (s t : DSt) (g : Nat) (ls : List (List UInt8)) (a : ActJ) : (actM s g ls a).code = (actM t g ls a).code ∧ (actM s g ls a).g = (actM t g ls a).g ∧ (actM s g ls a).ls = (actM t g ls a).ls := by
  unfold actM clearM addM
  split
  · split
    · exact ⟨rfl, rfl, rfl⟩
    · split <;> exact ⟨rfl, rfl, rfl⟩
  · split <;> exact ⟨rfl, rfl, rfl⟩
end Go.Proofs.YtjllkmkngjdjjaaGreatDoor
