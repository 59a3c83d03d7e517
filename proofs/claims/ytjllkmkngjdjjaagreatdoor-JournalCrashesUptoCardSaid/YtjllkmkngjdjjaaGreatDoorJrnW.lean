/- WALK of the law JournalGoes. No statement of the seed is proved here. -/
import Derived.Test.YtjllkmkngjdjjaaGreatDoorJrnX
import Derived.Test.YtjllkmkngjdjjaaGreatDoorJrnG
import Derived.Test.YtjllkmkngjdjjaaGreatDoorDskD
namespace Go.Proofs.YtjllkmkngjdjjaaGreatDoor
open Go.RowKit Go.Shelf
set_option maxRecDepth 100000
theorem openS_none {s s' : DSt} {g : Nat} {ls : List (List UInt8)} (h : OpenS s [] g ls s') : g = 1 ∧ ls = [] ∧ s' = s.run (rCreate (jnm 1)) := by
  rcases h with ⟨-, h2, h3, h4⟩ | ⟨rest, f, h1, -⟩
  · exact ⟨h2, h3, h4⟩
  · have := gsort_length []; rw [h1] at this; simp at this
/-- A journal is opened on a new disk. -/
theorem jopen_new (sec : Nat) (hs : 1 ≤ sec) (x : DT) (W : World) (B : Nat) (hx : x.At (emptyD sec) W B) (hB : B ≤ W.heap.size) (hT : ∀ w, Below B W w → TabW w) (hF : LaidF W) :
    Calls Tryz.prog 37 #[.pointer (some ⟨x.p, 0, none⟩)] W fun e w' => ∃ (j : JT) (y : DT), e = .returned (.tuple #[.pointer (some ⟨j.p, 0, none⟩), .int .i64 0]) ∧ JD j y ((emptyD sec).run (rCreate (jnm 1))) 1 [] w' B ∧ ONew x W j y w' := by
  refine (jopen_calls x (emptyD sec) W B hx hB hT hF hs [] ⟨by simp [jns], fun n => by simp [jns, emptyD]⟩ (fun g hg => by cases hg) (by simp) (fun n f h => by cases h) (fun q rest f hq hf => by cases hf) (by simp [emptyD])).mono ?_
  rintro e w' ⟨j, y, s', g, ls, rfl, hO, hJ, hN⟩
  obtain ⟨rfl, rfl, rfl⟩ := openS_none hO
  exact ⟨j, y, rfl, hJ, hN⟩
/-- .. on a disk that holds one journal. -/
theorem jopen_again {s : DSt} {g : Nat} {ls : List (List UInt8)} (hG : JG s g ls) (hg : g ≤ 2147483647) (hz : (jfile ls).length ≤ 1000000000000) (hr : s.raws.length + 10 ≤ 1000000000000) (x : DT) (W : World) (B : Nat) (hx : x.At s W B) (hB : B ≤ W.heap.size) (hT : ∀ w, Below B W w → TabW w) (hF : LaidF W) :
    Calls Tryz.prog 37 #[.pointer (some ⟨x.p, 0, none⟩)] W fun e w' => ∃ (j : JT) (y : DT), e = .returned (.tuple #[.pointer (some ⟨j.p, 0, none⟩), .int .i64 0]) ∧ JD j y s g ls w' B ∧ ONew x W j y w' := by
  obtain ⟨f1, f2⟩ := hG.few1 hz
  refine (jopen_calls x s W B hx hB hT hF hG.sec [g] (by rw [hG.fs]; exact names_one) (fun q hq => by simp at hq; subst hq; exact ⟨hG.g1, hg⟩) (by simp) f2 f1 (by simp; omega)).mono ?_
  rintro e w' ⟨j, y, s', g', ls', rfl, hO, hJ, hN⟩
  obtain ⟨rfl, rfl, rfl⟩ := hG.again hg hO
  exact ⟨j, y, rfl, hJ, hN⟩
theorem ONew.own {x y : DT} {j : JT} {W W' : World} (h : ONew x W j y W') {q : Nat} (hq : JOwn j y q) : x.Has q ∨ W.heap.size ≤ q := by
  rcases hq with hq | hq
  · exact .inr (h.jn q hq)
  · exact h.st.hasx hq
theorem ONew.same {x y : DT} {j : JT} {W W' : World} (h : ONew x W j y W') {q : Nat} (hq : q < W.heap.size) (hn : ¬ x.Has q) : W'.heap[q]? = W.heap[q]? := h.st.block q hq (fun e => hn (.inl e))
theorem ONew.below {x y : DT} {s : DSt} {j : JT} {W0 W W' : World} {B n : Nat} (h : ONew x W j y W') (hx : x.At s W B) (hb : Below n W0 W) (hn : n ≤ B) (hz : n ≤ W.heap.size) : Below n W0 W' :=
  ⟨h.st.os.trans hb.os, h.st.tape.trans hb.tape, h.st.output.trans hb.output, Nat.le_trans hb.size h.st.size, fun k hk => (h.same (by omega) (fun e => by have := hx.ge e; omega)).trans (hb.block k hk)⟩
theorem Two.reopen {j k k' : JT} {x y y' : DT} {s t t' : DSt} {g g' h1 : Nat} {ls ls' ls1 : List (List UInt8)} {W W' : World} {B : Nat} (h : Two j x s g ls k y t g' ls' W B) (hJ : JD k' y' t' h1 ls1 W' B) (hN : ONew y W k' y' W') : Two j x s g ls k' y' t' h1 ls1 W' B := by
  refine ⟨h.a.kept fun q hq => hN.same (h.a.lt hq) (fun e => h.ap q hq (.inr e)), hJ, fun q hq hq2 => ?_⟩
  rcases hN.own hq2 with e | e
  · exact h.ap q hq (.inr e)
  · have := h.a.lt hq; omega
theorem JD.lower {j : JT} {x : DT} {s : DSt} {g : Nat} {ls : List (List UInt8)} {W : World} {B B' : Nat} (h : JD j x s g ls W B) (hB : B' ≤ B) : JD j x s g ls W B' := ⟨h.ja.lower hB, h.xa.lower hB, h.sep⟩
/-- What the rounds hold. -/
structure GAt (W : World) (jp xp yp : Nat) (vl : Value) (aa : List ActJ) (us : List Value) (i kp : Nat) (w : World) : Prop where
  ex : ∃ (j : JT) (x : DT) (s : DSt) (g : Nat) (ls : List (List UInt8)) (k : JT) (y : DT) (t : DSt), j.p = jp ∧ x.p = xp ∧ k.p = kp ∧ y.p = yp ∧ Two j x s g ls k y t g ls w W.heap.size ∧ JB s g ls i (costJ (aa.take i)) ∧ JB t g ls i (costJ (aa.take i)) ∧ ∀ q, vl.ownBlock = some q → ¬ JOwn j x q ∧ ¬ JOwn k y q
  row : w.ownsRow W.heap.size 89 3 vl aa.length (actsJ aa us)
  bel : Below W.heap.size W w
theorem op_index {P : Program} {o : Oper} {ρ : Operand → Value} (t : TypeId) (x ix : Operand) (ho : o.op = .indexAddr t x ix) (vx vi v : Value) (hx : ρ x = vx) (hi : ρ ix = vi) (w : World) (hr : (Instr.indexAt t vx vi).run P w = .ok v w) : (execOp ρ o).run P w = .ok (.value v) w := by
  unfold execOp
  simp only [ho, hx, hi, Sem.run_bind, Sem.run_pure, hr, Result.andThen_ok]
theorem info_actj : (Tryz.prog.info? 89).map (fun i => (i.zero, i.size, i.bytes)) = some (some (.agg #[.bool false, .int .i64 0, .slice none 0 0]), 3, 40) := by kernel_rfl
theorem under_acts : Tryz.prog.underlying 80 = some (.slice 89) := by kernel_rfl
/-- Both journals are opened. -/
theorem goes_start {W w1 w2 w3 w4 : World} {j k : JT} {x x2 y y2 : DT} {s0 : DSt} {g : Nat} {ls : List (List UInt8)} {sq tq : DSt} (hx : x.At sq w1 W.heap.size) (hB1 : Below W.heap.size W w1) (hJ : JD j x2 s0 g ls w2 W.heap.size) (hN : ONew x w1 j x2 w2) (hy : y.At tq w3 w2.heap.size) (hB3 : Below w2.heap.size w2 w3)
    (hK : JD k y2 s0 g ls w4 w2.heap.size) (hN2 : ONew y w3 k y2 w4) : Two j x2 s0 g ls k y2 s0 g ls w4 W.heap.size ∧ Below W.heap.size W w4 := by
  have b2 : Below W.heap.size W w2 := hN.below hx hB1 (Nat.le_refl _) hB1.size
  have b3 : Below W.heap.size W w3 := b2.trans (hB3.mono b2.size)
  refine ⟨⟨(hJ.below hB3).kept fun q hq => ?_, hK.lower b2.size, fun q hq hq2 => ?_⟩, hN2.below hy b3 b2.size b3.size⟩
  · have h1 := hJ.lt hq
    exact hN2.same (Nat.lt_of_lt_of_le h1 hB3.size) (fun e => by have := hy.ge e; omega)
  · have h1 := hJ.lt hq
    have h2 := hK.ge hq2
    omega
theorem run_op_none_act {w : World} {o : Oper} {ρ : Operand → Value} (ho : o.op = .buildSlice 80 0 #[]) : (execOp ρ o).run Tryz.prog w = .ok (.value (.slice (some ⟨w.heap.size, 0, none⟩) 0 0)) (w.alloc (.cells #[] 89)) := by
  obtain ⟨i, hi, hz, h1, h2⟩ := info_parts info_actj
  unfold execOp
  simp only [ho, Sem.run_bind, Sem.run_pure]
  simp [Instr.buildSlice, run_underlying under_acts, sizeOf, typeInfo, hi, newRow, Instr.fill]
  rw [show Array.range 0 = (#[] : Array Nat) from Array.eq_empty_of_size_eq_zero (by simp), Array.map_empty]
theorem own_none_act (w : World) : (w.alloc (.cells #[] 89)).ownsRow w.heap.size 89 3 (.slice (some ⟨w.heap.size, 0, none⟩) 0 0) 0 [] :=
  ⟨rfl, .inr ⟨w.heap.size, 0, #[], rfl, Nat.le_refl _, heap_alloc_new w _, Nat.le_refl _, by unfold maxLen; omega, rfl, rfl⟩⟩
theorem JActs.one {W : World} {v : Value} {aa : List ActJ} {us : List Value} (h : JActs W v aa us) : ∀ u ∈ actsJ aa us, u.oneCell' = true := actsJ_one aa us fun u hu => by
  obtain ⟨j, hj⟩ := List.mem_iff_getElem?.1 hu
  have hl : j < aa.length := by rw [h.ul]; exact (List.getElem?_eq_some_iff.1 hj).1
  obtain ⟨A, c, rfl, -, -, -⟩ := (h.bs j _ u (List.getElem?_eq_getElem hl) hj).form
  rfl
/-- The acts lie in one row. -/
theorem goes_mid {W w4 w6 : World} {j k : JT} {x y : DT} {aa : List ActJ} {us : List Value} {vl : Value} (hTw : Two j x ((emptyD 16).run (rCreate (jnm 1))) 1 [] k y ((emptyD 16).run (rCreate (jnm 1))) 1 [] w4 W.heap.size) (hb : Below W.heap.size W w4) (hb6 : Below w4.heap.size w4 w6)
    (ho : w6.ownsRow w4.heap.size 89 3 vl aa.length (actsJ aa us)) : GAt W j.p x.p y.p vl aa us 0 k.p w6 := by
  have hbz := hb.size
  refine ⟨⟨j, x, _, 1, [], k, y, _, rfl, rfl, rfl, rfl, hTw.below hb6, ?_, ?_, fun q hq => ?_⟩, owns_low ho hbz, hb.trans (hb6.mono hbz)⟩
  · exact JB.start 16 (by omega)
  · exact JB.start 16 (by omega)
  · have h1 := owns_ge ho q hq
    exact ⟨fun e => by have := hTw.a.lt e; omega, fun e => by have := hTw.b.lt e; omega⟩
theorem JActs.both {W : World} {v v2 : Value} {aa bb : List ActJ} {us vs : List Value} (hA : JActs W v aa us) (hB : JActs W v2 bb vs) : (aa ++ bb).length = (us ++ vs).length ∧ ∀ (i : Nat) (a : ActJ) (u : Value), (aa ++ bb)[i]? = some a → (us ++ vs)[i]? = some u → Bs W u a.2.2 ∧ -9223372036854775808 ≤ a.2.1 ∧ a.2.1 ≤ 9223372036854775807 := by
  refine ⟨by rw [List.length_append, List.length_append, hA.ul, hB.ul], fun i a u ha hu => ?_⟩
  by_cases h : i < aa.length
  · rw [List.getElem?_append_left h] at ha
    rw [List.getElem?_append_left (by rw [← hA.ul]; exact h)] at hu
    exact ⟨hA.bs i a u ha hu, hA.z a (List.mem_of_getElem? ha)⟩
  · rw [List.getElem?_append_right (by omega)] at ha
    rw [List.getElem?_append_right (by rw [← hA.ul]; omega), ← hA.ul] at hu
    exact ⟨hB.bs _ a u ha hu, hB.z a (List.mem_of_getElem? ha)⟩
theorem cost_take {aa : List ActJ} {i : Nat} (hi : i < aa.length) : costJ (aa.take (i + 1)) = costJ (aa.take i) + (aa[i].2.2.length + 4) := by
  rw [List.take_succ_eq_append_getElem hi, costJ_append]
  simp [costJ]
theorem cost_le (aa : List ActJ) (i : Nat) : costJ (aa.take i) ≤ costJ aa := by
  have e : costJ aa = costJ (aa.take i) + costJ (aa.drop i) := by rw [← costJ_append, List.take_append_drop]
  omega
theorem GAt.below {W : World} {jp xp yp : Nat} {vl : Value} {aa : List ActJ} {us : List Value} {i kp : Nat} {w w' : World} (h : GAt W jp xp yp vl aa us i kp w) (hb : Below w.heap.size w w') : GAt W jp xp yp vl aa us i kp w' := by
  obtain ⟨j, x, s, g, ls, k, y, t, h1, h2, h3, h4, h5, h6, h7, h8⟩ := h.ex
  exact ⟨⟨j, x, s, g, ls, k, y, t, h1, h2, h3, h4, h5.below hb, h6, h7, h8⟩, owns_below h.row hb, h.bel.trans (hb.mono h.bel.size)⟩
/-- .. behind an act of the first journal. -/
structure GMid (W : World) (jp xp yp : Nat) (vl : Value) (aa : List ActJ) (us : List Value) (i kp : Nat) (a : ActJ) (code : Int) (w : World) : Prop where
  ex : ∃ (j : JT) (x : DT) (s : DSt) (g : Nat) (ls : List (List UInt8)) (k : JT) (y : DT) (t : DSt), j.p = jp ∧ x.p = xp ∧ k.p = kp ∧ y.p = yp ∧ Two j x (actM s g ls a).s (actM s g ls a).g (actM s g ls a).ls k y t g ls w W.heap.size ∧ JB s g ls i (costJ (aa.take i)) ∧ JB t g ls i (costJ (aa.take i)) ∧ (∀ q, vl.ownBlock = some q → ¬ JOwn j x q ∧ ¬ JOwn k y q) ∧ code = (actM s g ls a).code
  row : w.ownsRow W.heap.size 89 3 vl aa.length (actsJ aa us)
  bel : Below W.heap.size W w
theorem goes_left {W : World} {jp xp yp : Nat} {vl : Value} {aa : List ActJ} {us : List Value} {i kp : Nat} {w : World} (h : GAt W jp xp yp vl aa us i kp w) (a : ActJ) {f : Nat} {args : Array Value}
    (hcall : ∀ (j : JT) (x : DT) (s : DSt) (g : Nat) (ls : List (List UInt8)), j.p = jp → JD j x s g ls w W.heap.size → JB s g ls i (costJ (aa.take i)) → Calls Tryz.prog f args w fun e w' => e = .returned (.int .i64 (actM s g ls a).code) ∧ ∃ (j' : JT) (y : DT), JD j' y (actM s g ls a).s (actM s g ls a).g (actM s g ls a).ls w' W.heap.size ∧ JStep j x w j' y w') :
    Calls Tryz.prog f args w fun e w' => ∃ code, e = .returned (.int .i64 code) ∧ GMid W jp xp yp vl aa us i kp a code w' := by
  obtain ⟨j, x, s, g, ls, k, y, t, h1, h2, h3, h4, h5, h6, h7, h8⟩ := h.ex
  refine (hcall j x s g ls h1 h5.a h6).mono ?_
  rintro e w' ⟨rfl, j', x', hJ, hS⟩
  have hlt : ∀ q, vl.ownBlock = some q → q < w.heap.size := fun q hq => owns_lt h.row q hq
  refine ⟨_, rfl, ⟨⟨j', x', s, g, ls, k, y, t, hS.jp.trans h1, hS.p.trans h2, h3, h4, h5.left hJ hS, h6, h7, fun q hq => ⟨fun e => ?_, (h8 q hq).2⟩, rfl⟩, mods_owns h.row fun q hq => hS.same (hlt q hq) (h8 q hq).1, hS.below h5.a h.bel (Nat.le_refl _) h.bel.size⟩⟩
  rcases hS.own e with e | e
  · exact (h8 q hq).1 e
  · have := hlt q hq; omega
theorem goes_right {W : World} {jp xp yp : Nat} {vl : Value} {aa : List ActJ} {us : List Value} {i kp : Nat} {w : World} {a : ActJ} {code : Int} (h : GMid W jp xp yp vl aa us i kp a code w) (hi : i < aa.length) (ha : aa[i] = a) (hc : costJ aa ≤ 1048576) {f : Nat} {args : Array Value}
    (hcall : ∀ (k : JT) (y : DT) (t : DSt) (g : Nat) (ls : List (List UInt8)), k.p = kp → JD k y t g ls w W.heap.size → JB t g ls i (costJ (aa.take i)) → Calls Tryz.prog f args w fun e w' => e = .returned (.int .i64 (actM t g ls a).code) ∧ ∃ (j' : JT) (x : DT), JD j' x (actM t g ls a).s (actM t g ls a).g (actM t g ls a).ls w' W.heap.size ∧ JStep k y w j' x w') :
    Calls Tryz.prog f args w fun e w' => e = .returned (.int .i64 code) ∧ GAt W jp xp yp vl aa us (i + 1) kp w' := by
  obtain ⟨j, x, s, g, ls, k, y, t, h1, h2, h3, h4, h5, h6, h7, h8, rfl⟩ := h.ex
  refine (hcall k y t g ls h3 h5.b h7).mono ?_
  rintro e w' ⟨rfl, k', y', hJ, hS⟩
  have hlt : ∀ q, vl.ownBlock = some q → q < w.heap.size := fun q hq => owns_lt h.row q hq
  obtain ⟨m1, m2, m3⟩ := actM_same s t g ls a
  have hl := costJ_len aa
  have hcl := cost_le aa i
  have b1 := h6.act a (by omega) (by omega)
  have b2 := h7.act a (by omega) (by omega)
  rw [← ha, ← cost_take hi, ha] at b1 b2
  rw [← m2, ← m3] at b2 hJ
  refine ⟨by rw [m1], ⟨⟨j, x, _, _, _, k', y', _, h1, h2, hS.jp.trans h3, hS.p.trans h4, h5.right hJ hS, b1, b2, fun q hq => ⟨(h8 q hq).1, fun e => ?_⟩⟩, mods_owns h.row fun q hq => hS.same (hlt q hq) (h8 q hq).2, hS.below h5.b h.bel (Nat.le_refl _) h.bel.size⟩⟩
  rcases hS.own e with e | e
  · exact (h8 q hq).2 e
  · have := hlt q hq; omega
theorem goes_reopen {W : World} {jp xp yp : Nat} {vl : Value} {aa : List ActJ} {us : List Value} {i kp : Nat} {w : World} (h : GAt W jp xp yp vl aa us i kp w) (hi : i ≤ aa.length) (hc : costJ aa ≤ 1048576) (hT : ∀ w, Below W.heap.size W w → TabW w) (hF : ∀ w, Below W.heap.size W w → LaidF w) :
    Calls Tryz.prog 37 #[.pointer (some ⟨yp, 0, none⟩)] w fun e w' => ∃ kp2, e = .returned (.tuple #[.pointer (some ⟨kp2, 0, none⟩), .int .i64 0]) ∧ GAt W jp xp yp vl aa us i kp2 w' := by
  obtain ⟨j, x, s, g, ls, k, y, t, h1, h2, h3, h4, h5, h6, h7, h8⟩ := h.ex
  have hl := costJ_len aa
  have hcl := cost_le aa i
  have g2 := h7.g2
  have gf := h7.fl
  have gr := h7.rw
  subst h4
  refine (jopen_again h7.jg (by omega) (by omega) (by omega) y w W.heap.size h5.b.xa h.bel.size (fun w' hw => hT w' (h.bel.trans hw)) (hF w h.bel)).mono ?_
  rintro e w' ⟨k', y', rfl, hJ, hN⟩
  have hlt : ∀ q, vl.ownBlock = some q → q < w.heap.size := fun q hq => owns_lt h.row q hq
  refine ⟨k'.p, rfl, ⟨⟨j, x, s, g, ls, k', y', t, h1, h2, rfl, hN.st.p, h5.reopen hJ hN, h6, h7, fun q hq => ⟨(h8 q hq).1, fun e => ?_⟩⟩, mods_owns h.row fun q hq => hN.same (hlt q hq) (fun e => (h8 q hq).2 (.inr e)), hN.below h5.b.xa h.bel (Nat.le_refl _) h.bel.size⟩⟩
  rcases hN.own e with e | e
  · exact (h8 q hq).2 (.inr e)
  · have := hlt q hq; omega
theorem actM_clear (s : DSt) (g : Nat) (ls : List (List UInt8)) (q : Int) (m : List UInt8) : actM s g ls (true, q, m) = clearM s g ls q := if_pos rfl
theorem actM_add (s : DSt) (g : Nat) (ls : List (List UInt8)) (q : Int) (m : List UInt8) : actM s g ls (false, q, m) = addM s g ls m := if_neg (by simp)
section
variable {W : World} {jp xp yp : Nat} {vl : Value} {aa : List ActJ} {us : List Value} {i kp : Nat} {w : World} {q : Int} {m : List UInt8} {u : Value} {code : Int}
theorem goes_lc (h : GAt W jp xp yp vl aa us i kp w) (hi : i ≤ aa.length) (hc : costJ aa ≤ 1048576) (hT : ∀ w, Below W.heap.size W w → TabW w) (hF : ∀ w, Below W.heap.size W w → LaidF w) (z1 : -9223372036854775808 ≤ q) (z2 : q ≤ 9223372036854775807) :
    Calls Tryz.prog 41 #[.pointer (some ⟨jp, 0, none⟩), .int .i64 q] w fun e w' => ∃ code, e = .returned (.int .i64 code) ∧ GMid W jp xp yp vl aa us i kp (true, q, m) code w' := by
  have hl := costJ_len aa
  have hcl := cost_le aa i
  refine goes_left h (true, q, m) fun j x s g ls hj hJ hb => ?_
  rw [actM_clear]
  subst hj
  exact jclear_all j x s g ls w W.heap.size hJ h.bel.size (hT w h.bel) (fun w' hw => hF w' (h.bel.trans hw)) hb (by omega) (by omega) q z1 z2
theorem goes_la (h : GAt W jp xp yp vl aa us i kp w) (hi : i ≤ aa.length) (hc : costJ aa ≤ 1048576) (hT : ∀ w, Below W.heap.size W w → TabW w) (hF : ∀ w, Below W.heap.size W w → LaidF w) (hv : Bs W u m) :
    Calls Tryz.prog 43 #[.pointer (some ⟨jp, 0, none⟩), u] w fun e w' => ∃ code, e = .returned (.int .i64 code) ∧ GMid W jp xp yp vl aa us i kp (false, q, m) code w' := by
  have hl := costJ_len aa
  have hcl := cost_le aa i
  refine goes_left h (false, q, m) fun j x s g ls hj hJ hb => ?_
  rw [actM_add]
  subst hj
  exact jadd_all j x s g ls w W.heap.size hJ h.bel.size (hT w h.bel) (hF w h.bel) hb (by omega) (by omega) u m (hv.below h.bel) (fun h0 k hk hm => by have := bs_lt hv h0 hk; have := hJ.xa.ge (.inl hm); omega)
theorem goes_rc (h : GMid W jp xp yp vl aa us i kp (true, q, m) code w) (hi : i < aa.length) (ha : aa[i] = (true, q, m)) (hc : costJ aa ≤ 1048576) (hT : ∀ w, Below W.heap.size W w → TabW w) (hF : ∀ w, Below W.heap.size W w → LaidF w) (z1 : -9223372036854775808 ≤ q) (z2 : q ≤ 9223372036854775807) :
    Calls Tryz.prog 41 #[.pointer (some ⟨kp, 0, none⟩), .int .i64 q] w fun e w' => e = .returned (.int .i64 code) ∧ GAt W jp xp yp vl aa us (i + 1) kp w' := by
  have hl := costJ_len aa
  have hcl := cost_le aa i
  refine goes_right h hi ha hc fun k y t g ls hj hJ hb => ?_
  rw [actM_clear]
  subst hj
  exact jclear_all k y t g ls w W.heap.size hJ h.bel.size (hT w h.bel) (fun w' hw => hF w' (h.bel.trans hw)) hb (by omega) (by omega) q z1 z2
theorem goes_ra (h : GMid W jp xp yp vl aa us i kp (false, q, m) code w) (hi : i < aa.length) (ha : aa[i] = (false, q, m)) (hc : costJ aa ≤ 1048576) (hT : ∀ w, Below W.heap.size W w → TabW w) (hF : ∀ w, Below W.heap.size W w → LaidF w) (hv : Bs W u m) :
    Calls Tryz.prog 43 #[.pointer (some ⟨kp, 0, none⟩), u] w fun e w' => e = .returned (.int .i64 code) ∧ GAt W jp xp yp vl aa us (i + 1) kp w' := by
  have hl := costJ_len aa
  have hcl := cost_le aa i
  refine goes_right h hi ha hc fun k y t g ls hj hJ hb => ?_
  rw [actM_add]
  subst hj
  exact jadd_all k y t g ls w W.heap.size hJ h.bel.size (hT w h.bel) (hF w h.bel) hb (by omega) (by omega) u m (hv.below h.bel) (fun h0 q hk hm => by have := bs_lt hv h0 hk; have := hJ.xa.ge (.inl hm); omega)
end
set_option maxHeartbeats 4000000 in
theorem journalGoes_walk (v : Value) (aa : List ActJ) (us : List Value) (v2 : Value) (bb : List ActJ) (vs : List Value) (W : World) (hT : TabW W) (hF : LaidF W) (hA : JActs W v aa us) (hB : JActs W v2 bb vs) (hc : costJ aa + costJ bb ≤ 1048576) :
    Calls Tryz.prog 9 #[v, v2] W fun e W' => e = .returned (.bool true) ∧ Below W.heap.size W W' := by
  have HA := Lib.hid hA
  have HB := Lib.hid hB
  obtain ⟨A1, c1, e1, -⟩ := hA.row
  obtain ⟨A2, c2, e2, -⟩ := hB.row
  subst e1 e2
  have KN1 := Lib.hid (show Calls Tryz.prog 13 #[.int .i64 16] W _ from dnew_calls 16 (by omega) (by omega) W)
  have HTT := Lib.hid (show ∀ w, Below W.heap.size W w → TabW w from fun w hw => tab_below hT hw)
  have HFF := Lib.hid (show ∀ w, Below W.heap.size W w → LaidF w from fun w hw => hF.below hw)
  have HC := Lib.hid hc
  have hla := costJ_len aa
  have hlb := costJ_len bb
  have HLN := Lib.hid (show ((0 + aa.length) + (0 + aa.length) / 4 + 192) * 40 ≤ 281474976710656 ∧ ((aa.length + bb.length) + (aa.length + bb.length) / 4 + 192) * 40 ≤ 281474976710656 from by omega)
  clear hla hlb
  have M1 := Lib.hid trivial
  have M2 := Lib.hid trivial
  have M3 := Lib.hid trivial
  clear hT hF hA hB hc
  go_enter Tryz.func9, Tryz.ntmps9
  go_wp2_with (first
    | (go_at_call 13; clear M1; refine KN1.out.mono ?_; rintro e w1 ⟨x, rfl, hx, hB1⟩; have KO1 := Lib.hid (jopen_new 16 (by omega) x w1 W.heap.size hx hB1.size (fun w hw => HTT.out w (hB1.trans hw)) (HFF.out w1 hB1)))
    | (go_at_call 37; clear M2; refine KO1.out.mono ?_; rintro e w2 ⟨j, x2, rfl, hJ, hN⟩; have b2 : Below W.heap.size W w2 := hN.below hx hB1 (Nat.le_refl _) hB1.size; have KN2 := Lib.hid (show Calls Tryz.prog 13 #[.int .i64 16] w2 _ from dnew_calls 16 (by omega) (by omega) w2))
    | (go_at_call 13; refine KN2.out.mono ?_; rintro e w3 ⟨y, rfl, hy, hB3⟩; have b3 : Below W.heap.size W w3 := b2.trans (hB3.mono b2.size); have KO2 := Lib.hid (jopen_new 16 (by omega) y w3 w2.heap.size hy hB3.size (fun w hw => HTT.out w (b3.trans (hw.mono b2.size))) (HFF.out w3 b3)))
    | (go_at_call 37; refine KO2.out.mono ?_; rintro e w4 ⟨k, y2, rfl, hK, hN2⟩; have hst := goes_start hx hB1 hJ hN hy hB3 hK hN2; have hTw := hst.1; have hbw := hst.2)
    | (refine wpList_val rfl _ _ (run_op_none_act rfl) ?_; have hz0 := own_none_act w4; have hba := below_alloc1 w4 (.cells #[] 89); have hbWa := hbw.trans (hba.mono hbw.size); simp only [Act.put, List.setIfInBounds_toArray, List.set_cons_zero, List.set_cons_succ])
    | (at_builtin; clear M3; refine wpList_app _ rfl _ _ 80 rfl w4.heap.size 89 _ 3 40 under_acts info_actj rfl (by omega) (by omega) (.slice (some ⟨w4.heap.size, 0, none⟩) 0 0) rfl 0 [] hz0 (.slice A1 aa.length c1) rfl aa.length (actsJ aa us) (HA.out.row.below hbWa) (actsJ_length _ _ HA.out.ul) HA.out.one (HLN.out.1) hba.size ?_; intro v5 w5 ho5 hg5 hat5; rw [Nat.zero_add, List.nil_append] at ho5; obtain ⟨A5, c5, e5, -⟩ := owns_form ho5; subst e5; have hb5 : Below w4.heap.size w4 w5 := hba.grown hg5 hba.size (fun q e => Nat.le_of_eq (Option.some.inj (show some w4.heap.size = some q from e))); have hbW5 := hbw.trans (hb5.mono hbw.size))
    | (at_builtin; refine wpList_app _ rfl _ _ 80 rfl w4.heap.size 89 _ 3 40 under_acts info_actj rfl (by omega) (by omega) (.slice A5 aa.length c5) rfl aa.length (actsJ aa us) ho5 (.slice A2 bb.length c2) rfl bb.length (actsJ bb vs) (HB.out.row.below hbW5) (actsJ_length _ _ HB.out.ul) HB.out.one (HLN.out.2) hb5.size ?_; intro v6 w6 ho6 hg6 hat6; obtain ⟨A6, c6, e6, -⟩ := owns_form ho6; subst e6; have hb6 : Below w4.heap.size w4 w6 := hb5.grown hg6 hb5.size (fun q e => owns_ge ho5 q e)))
  have hrow6 := ho6
  rw [← actsJ_append _ _ _ _ HA.out.ul, ← List.length_append] at hrow6
  have HG := Lib.hid (goes_mid hTw hbw hb6 hrow6)
  have hxp := hN.st.p
  have hyp := hN2.st.p
  rw [hxp, hyp] at HG
  rw [← List.length_append]
  obtain ⟨hul, hbs⟩ := HA.out.both HB.out
  have hcc : costJ (aa ++ bb) ≤ 1048576 := by rw [costJ_append]; exact HC.out
  have hna : aa.length ≤ (aa ++ bb).length := by rw [List.length_append]; omega
  clear HA HB HC HLN KN1 KO1 KN2 KO2 hx hB1 hJ hN b2 hy hB3 b3 hK hN2 hst hTw hbw hz0 hba hbWa hg5 ho5 hat5 hb5 hbW5 hg6 ho6 hat6 hb6 hrow6 hxp hyp
  have HUL := Lib.hid hul
  have HBS := Lib.hid hbs
  have HCC := Lib.hid hcc
  have hll := costJ_len (aa ++ bb)
  have HLL := Lib.hid (show (aa ++ bb).length ≤ 262144 from by omega)
  clear hul hbs hcc hll
  generalize aa ++ bb = ab at *
  generalize us ++ vs = uu at *
  generalize aa.length = na at *
  generalize j.p = jp at *
  generalize x.p = xp at *
  generalize y.p = yp at *
  generalize k.p = kp0 at *
  go_loopw [11, 14] (fun kv i wr => ∃ (n kp : Nat), n ≤ ab.length ∧ kv = .pointer (some ⟨kp, 0, none⟩) ∧ i = .int .i64 (n : Int) ∧ Hid (GAt W jp xp yp (.slice A6 ab.length c6) ab uu n kp wr)) (fun _ i _ => ab.length - (intOf i).toNat)
  case atStart => exact ⟨0, kp0, Nat.zero_le _, rfl, rfl, HG⟩
  case round =>
    obtain ⟨n, kp, hn, rfl, rfl, HR⟩ := hrel
    clear HG
    by_cases hlt : n < ab.length
    · have hltu : n < uu.length := by rw [← HUL.out]; exact hlt
      obtain ⟨a, ha⟩ : ∃ a, ab[n]? = some a := ⟨_, List.getElem?_eq_getElem hlt⟩
      obtain ⟨u, hu⟩ : ∃ u, uu[n]? = some u := ⟨_, List.getElem?_eq_getElem hltu⟩
      obtain ⟨hbs, z1, z2⟩ := HBS.out n a u ha hu
      obtain ⟨gA, oA, cA, evl, r0, r1, r2⟩ := jrow_at (Row.of_owns HR.out.row) ha hu
      obtain ⟨rfl, rfl⟩ : A6 = some ⟨gA, oA, none⟩ ∧ c6 = cA := by injection evl with e1 e2 e3; exact ⟨e1, e3⟩
      have hix := jrow_index gA oA ab.length c6 n hlt
      have HST := Lib.hid (show ∀ w : World, w.ownsRow W.heap.size 89 3 (.slice (some ⟨gA, oA, none⟩) ab.length c6) ab.length (actsJ ab uu) → w.cell? ⟨gA, oA + n * 3, none⟩ = some (.bool a.1) ∧ w.cell? ⟨gA, oA + n * 3 + 1, none⟩ = some (.int .i64 a.2.1) ∧ w.cell? ⟨gA, oA + n * 3 + 2, none⟩ = some u from fun w h => by
        obtain ⟨g1, o1, c1, e1, q0, q1, q2⟩ := jrow_at (Row.of_owns h) ha hu
        injection e1 with e1 e2 e3
        injection e1 with e1
        injection e1 with e1 e2
        subst e1 e2
        exact ⟨q0, q1, q2⟩)
      have HLT := Lib.hid hlt
      obtain ⟨hw1, n1, n2, n3, n4⟩ := lt_nums hlt (by have := HLL.out; omega)
      have HAN := Lib.hid (List.getElem?_eq_some_iff.1 ha)
      have HBS2 := Lib.hid (And.intro hbs (And.intro z1 z2))
      clear evl hltu HBS ha hu hbs z1 z2 hlt
      obtain ⟨b, q, m⟩ := a
      have KO := Lib.hid (goes_reopen HR.out hn HCC.out HTT.out HFF.out)
      have hcase : (n = na ∧ ((n : Int) == (na : Int)) = true) ∨ (n ≠ na ∧ ((n : Int) == (na : Int)) = false) := by
        by_cases e : n = na
        · exact .inl ⟨e, by simp [e]⟩
        · exact .inr ⟨e, by simp; omega⟩
      rcases hcase with ⟨-, hc0⟩ | ⟨-, hc0⟩
      · cases b with
        | true =>
          go_wp2_with (go_at_call 37; refine KO.out.mono ?_; rintro e wz ⟨kp2, rfl, HR2⟩; have HR2 := Lib.hid HR2; obtain ⟨r0, r1, r2⟩ := HST.out _ HR2.out.row)
          refine wp_region_noPanic ?_
          refine wp_region_rowS (S := fun w' => w'.cell? ⟨gA, oA + n * 3 + 1, none⟩ = some (.int .i64 q)) [0, 1, 2, 3, 4, 5, 7, 8, 9, 10, 11, 12] [6, 13, 14, 15] (by kernel_rfl) (by kernel_rfl) (fun _ _ _ _ h => h) (cell_below (below_drew1 _) (HST.out _ HR2.out.row).2.1) ?_
          simp only [opsL, List.getElem?_cons_zero, List.getElem?_cons_succ, Option.toList_some, List.singleton_append]
          refine takesS_run rfl (.pointer (some ⟨jp, 0, none⟩)) (fun w' hw => op_move _ rfl _ (by rfl) w') ?_
          simp only [Act.put, List.setIfInBounds_toArray, List.set_cons_zero, List.set_cons_succ]
          refine takesS_run rfl (.slice (some ⟨gA, oA, none⟩) ab.length c6) (fun w' hw => op_move _ rfl _ (by rfl) w') ?_
          simp only [Act.put, List.setIfInBounds_toArray, List.set_cons_zero, List.set_cons_succ]
          refine takesS_run rfl (.int .i64 (n : Int)) (fun w' hw => op_move _ rfl _ (by rfl) w') ?_
          simp only [Act.put, List.setIfInBounds_toArray, List.set_cons_zero, List.set_cons_succ]
          refine takesS_run rfl (.pointer (some ⟨gA, oA + n * 3, none⟩)) (fun w' hw => op_index _ _ _ rfl _ _ _ (by rfl) (by rfl) w' (hix w')) ?_
          simp only [Act.put, List.setIfInBounds_toArray, List.set_cons_zero, List.set_cons_succ]
          refine takesS_run rfl (.pointer (some ⟨gA, oA + n * 3 + 1, none⟩)) (fun w' hw => by go_simp) ?_
          simp only [Act.put, List.setIfInBounds_toArray, List.set_cons_zero, List.set_cons_succ]
          refine takesS_run rfl (.int .i64 q) (fun w' hw => op_load _ _ rfl _ _ (by rfl) w' (ld_cell Tryz.underlying3 rfl hw)) ?_
          simp only [Act.put, List.setIfInBounds_toArray, List.set_cons_zero, List.set_cons_succ]
          refine takesS_run rfl (.pointer (some ⟨kp2, 0, none⟩)) (fun w' hw => op_move _ rfl _ (by rfl) w') ?_
          simp only [Act.put, List.setIfInBounds_toArray, List.set_cons_zero, List.set_cons_succ]
          refine takesS_run rfl (.slice (some ⟨gA, oA, none⟩) ab.length c6) (fun w' hw => op_move _ rfl _ (by rfl) w') ?_
          simp only [Act.put, List.setIfInBounds_toArray, List.set_cons_zero, List.set_cons_succ]
          refine takesS_run rfl (.int .i64 (n : Int)) (fun w' hw => op_move _ rfl _ (by rfl) w') ?_
          simp only [Act.put, List.setIfInBounds_toArray, List.set_cons_zero, List.set_cons_succ]
          refine takesS_run rfl (.pointer (some ⟨gA, oA + n * 3, none⟩)) (fun w' hw => op_index _ _ _ rfl _ _ _ (by rfl) (by rfl) w' (hix w')) ?_
          simp only [Act.put, List.setIfInBounds_toArray, List.set_cons_zero, List.set_cons_succ]
          refine takesS_run rfl (.pointer (some ⟨gA, oA + n * 3 + 1, none⟩)) (fun w' hw => by go_simp) ?_
          simp only [Act.put, List.setIfInBounds_toArray, List.set_cons_zero, List.set_cons_succ]
          refine takesS_run rfl (.int .i64 q) (fun w' hw => op_load _ _ rfl _ _ (by rfl) w' (ld_cell Tryz.underlying3 rfl hw)) ?_
          simp only [Act.put, List.setIfInBounds_toArray, List.set_cons_zero, List.set_cons_succ]
          simp only [wpTkS, wpRowS, opsL, List.getElem?_cons_zero, List.getElem?_cons_succ, Option.toList_some, List.singleton_append, List.append_nil]
          have KL := Lib.hid (goes_lc (m := m) (HR2.out.below (below_drew1 _)) hn HCC.out HTT.out HFF.out HBS2.out.2.1 HBS2.out.2.2)
          go_wp2_with (go_at_call 41; refine KL.out.mono ?_; rintro e wd ⟨code, rfl, HM⟩; have KR := Lib.hid (goes_rc HM HAN.out.1 HAN.out.2 HCC.out HTT.out HFF.out HBS2.out.2.1 HBS2.out.2.2); have hs5 := (HST.out _ HM.row).2.1)
          refine norm_done hs5 ?_
          go_wp2_with (go_at_call 41; refine KR.out.mono ?_; rintro e we ⟨rfl, HG3⟩; have hs6 := (HST.out _ HG3.row).2.1)
          refine norm_done hs6 ?_
          go_wp2_with fail
          refine norm_done hs6 ?_
          go_wp2_with fail
          refine norm_done hs6 ?_
          refine noPanic_normal ?_
          first
            | (rename_i Kx hKx; refine hKx _ _ ?_)
            | (rename_i Kx hKx Qx hQx; refine hKx _ _ ?_)
          clear hs5 hs6 KL KR
          go_wp2
          exact ⟨⟨n + 1, kp2, HLT.out, rfl, by rw [hw1], Lib.hid HG3⟩, by rw [hw1]; exact down_next HLT.out⟩
        | false =>
          go_wp2_with (go_at_call 37; refine KO.out.mono ?_; rintro e wz ⟨kp2, rfl, HR2⟩; have HR2 := Lib.hid HR2; obtain ⟨r0, r1, r2⟩ := HST.out _ HR2.out.row)
          refine wp_region_noPanic ?_
          refine wp_region_rowS (S := fun w' => w'.cell? ⟨gA, oA + n * 3 + 2, none⟩ = some (u)) [0, 1, 2, 3, 4, 5, 7, 8, 9, 10, 11, 12] [6, 13, 14, 15] (by kernel_rfl) (by kernel_rfl) (fun _ _ _ _ h => h) (cell_below (below_drew1 _) (HST.out _ HR2.out.row).2.2) ?_
          simp only [opsL, List.getElem?_cons_zero, List.getElem?_cons_succ, Option.toList_some, List.singleton_append]
          refine takesS_run rfl (.pointer (some ⟨jp, 0, none⟩)) (fun w' hw => op_move _ rfl _ (by rfl) w') ?_
          simp only [Act.put, List.setIfInBounds_toArray, List.set_cons_zero, List.set_cons_succ]
          refine takesS_run rfl (.slice (some ⟨gA, oA, none⟩) ab.length c6) (fun w' hw => op_move _ rfl _ (by rfl) w') ?_
          simp only [Act.put, List.setIfInBounds_toArray, List.set_cons_zero, List.set_cons_succ]
          refine takesS_run rfl (.int .i64 (n : Int)) (fun w' hw => op_move _ rfl _ (by rfl) w') ?_
          simp only [Act.put, List.setIfInBounds_toArray, List.set_cons_zero, List.set_cons_succ]
          refine takesS_run rfl (.pointer (some ⟨gA, oA + n * 3, none⟩)) (fun w' hw => op_index _ _ _ rfl _ _ _ (by rfl) (by rfl) w' (hix w')) ?_
          simp only [Act.put, List.setIfInBounds_toArray, List.set_cons_zero, List.set_cons_succ]
          refine takesS_run rfl (.pointer (some ⟨gA, oA + n * 3 + 2, none⟩)) (fun w' hw => by go_simp) ?_
          simp only [Act.put, List.setIfInBounds_toArray, List.set_cons_zero, List.set_cons_succ]
          refine takesS_run rfl (u) (fun w' hw => op_load _ _ rfl _ _ (by rfl) w' (ld_cell Tryz.underlying35 rfl hw)) ?_
          simp only [Act.put, List.setIfInBounds_toArray, List.set_cons_zero, List.set_cons_succ]
          refine takesS_run rfl (.pointer (some ⟨kp2, 0, none⟩)) (fun w' hw => op_move _ rfl _ (by rfl) w') ?_
          simp only [Act.put, List.setIfInBounds_toArray, List.set_cons_zero, List.set_cons_succ]
          refine takesS_run rfl (.slice (some ⟨gA, oA, none⟩) ab.length c6) (fun w' hw => op_move _ rfl _ (by rfl) w') ?_
          simp only [Act.put, List.setIfInBounds_toArray, List.set_cons_zero, List.set_cons_succ]
          refine takesS_run rfl (.int .i64 (n : Int)) (fun w' hw => op_move _ rfl _ (by rfl) w') ?_
          simp only [Act.put, List.setIfInBounds_toArray, List.set_cons_zero, List.set_cons_succ]
          refine takesS_run rfl (.pointer (some ⟨gA, oA + n * 3, none⟩)) (fun w' hw => op_index _ _ _ rfl _ _ _ (by rfl) (by rfl) w' (hix w')) ?_
          simp only [Act.put, List.setIfInBounds_toArray, List.set_cons_zero, List.set_cons_succ]
          refine takesS_run rfl (.pointer (some ⟨gA, oA + n * 3 + 2, none⟩)) (fun w' hw => by go_simp) ?_
          simp only [Act.put, List.setIfInBounds_toArray, List.set_cons_zero, List.set_cons_succ]
          refine takesS_run rfl (u) (fun w' hw => op_load _ _ rfl _ _ (by rfl) w' (ld_cell Tryz.underlying35 rfl hw)) ?_
          simp only [Act.put, List.setIfInBounds_toArray, List.set_cons_zero, List.set_cons_succ]
          simp only [wpTkS, wpRowS, opsL, List.getElem?_cons_zero, List.getElem?_cons_succ, Option.toList_some, List.singleton_append, List.append_nil]
          have KL := Lib.hid (goes_la (q := q) (HR2.out.below (below_drew1 _)) hn HCC.out HTT.out HFF.out HBS2.out.1)
          go_wp2_with (go_at_call 43; refine KL.out.mono ?_; rintro e wd ⟨code, rfl, HM⟩; have KR := Lib.hid (goes_ra HM HAN.out.1 HAN.out.2 HCC.out HTT.out HFF.out HBS2.out.1); have hs5 := (HST.out _ HM.row).2.2)
          refine norm_done hs5 ?_
          go_wp2_with (go_at_call 43; refine KR.out.mono ?_; rintro e we ⟨rfl, HG3⟩; have hs6 := (HST.out _ HG3.row).2.2)
          refine norm_done hs6 ?_
          go_wp2_with fail
          refine norm_done hs6 ?_
          go_wp2_with fail
          refine norm_done hs6 ?_
          refine noPanic_normal ?_
          first
            | (rename_i Kx hKx; refine hKx _ _ ?_)
            | (rename_i Kx hKx Qx hQx; refine hKx _ _ ?_)
          clear hs5 hs6 KL KR
          go_wp2
          exact ⟨⟨n + 1, kp2, HLT.out, rfl, by rw [hw1], Lib.hid HG3⟩, by rw [hw1]; exact down_next HLT.out⟩
      · cases b with
        | true =>
          go_wp2_with fail
          refine wp_region_noPanic ?_
          refine wp_region_rowS (S := fun w' => w'.cell? ⟨gA, oA + n * 3 + 1, none⟩ = some (.int .i64 q)) [0, 1, 2, 3, 4, 5, 7, 8, 9, 10, 11, 12] [6, 13, 14, 15] (by kernel_rfl) (by kernel_rfl) (fun _ _ _ _ h => h) (cell_below (below_drew1 _) (HST.out _ HR.out.row).2.1) ?_
          simp only [opsL, List.getElem?_cons_zero, List.getElem?_cons_succ, Option.toList_some, List.singleton_append]
          refine takesS_run rfl (.pointer (some ⟨jp, 0, none⟩)) (fun w' hw => op_move _ rfl _ (by rfl) w') ?_
          simp only [Act.put, List.setIfInBounds_toArray, List.set_cons_zero, List.set_cons_succ]
          refine takesS_run rfl (.slice (some ⟨gA, oA, none⟩) ab.length c6) (fun w' hw => op_move _ rfl _ (by rfl) w') ?_
          simp only [Act.put, List.setIfInBounds_toArray, List.set_cons_zero, List.set_cons_succ]
          refine takesS_run rfl (.int .i64 (n : Int)) (fun w' hw => op_move _ rfl _ (by rfl) w') ?_
          simp only [Act.put, List.setIfInBounds_toArray, List.set_cons_zero, List.set_cons_succ]
          refine takesS_run rfl (.pointer (some ⟨gA, oA + n * 3, none⟩)) (fun w' hw => op_index _ _ _ rfl _ _ _ (by rfl) (by rfl) w' (hix w')) ?_
          simp only [Act.put, List.setIfInBounds_toArray, List.set_cons_zero, List.set_cons_succ]
          refine takesS_run rfl (.pointer (some ⟨gA, oA + n * 3 + 1, none⟩)) (fun w' hw => by go_simp) ?_
          simp only [Act.put, List.setIfInBounds_toArray, List.set_cons_zero, List.set_cons_succ]
          refine takesS_run rfl (.int .i64 q) (fun w' hw => op_load _ _ rfl _ _ (by rfl) w' (ld_cell Tryz.underlying3 rfl hw)) ?_
          simp only [Act.put, List.setIfInBounds_toArray, List.set_cons_zero, List.set_cons_succ]
          refine takesS_run rfl (.pointer (some ⟨kp, 0, none⟩)) (fun w' hw => op_move _ rfl _ (by rfl) w') ?_
          simp only [Act.put, List.setIfInBounds_toArray, List.set_cons_zero, List.set_cons_succ]
          refine takesS_run rfl (.slice (some ⟨gA, oA, none⟩) ab.length c6) (fun w' hw => op_move _ rfl _ (by rfl) w') ?_
          simp only [Act.put, List.setIfInBounds_toArray, List.set_cons_zero, List.set_cons_succ]
          refine takesS_run rfl (.int .i64 (n : Int)) (fun w' hw => op_move _ rfl _ (by rfl) w') ?_
          simp only [Act.put, List.setIfInBounds_toArray, List.set_cons_zero, List.set_cons_succ]
          refine takesS_run rfl (.pointer (some ⟨gA, oA + n * 3, none⟩)) (fun w' hw => op_index _ _ _ rfl _ _ _ (by rfl) (by rfl) w' (hix w')) ?_
          simp only [Act.put, List.setIfInBounds_toArray, List.set_cons_zero, List.set_cons_succ]
          refine takesS_run rfl (.pointer (some ⟨gA, oA + n * 3 + 1, none⟩)) (fun w' hw => by go_simp) ?_
          simp only [Act.put, List.setIfInBounds_toArray, List.set_cons_zero, List.set_cons_succ]
          refine takesS_run rfl (.int .i64 q) (fun w' hw => op_load _ _ rfl _ _ (by rfl) w' (ld_cell Tryz.underlying3 rfl hw)) ?_
          simp only [Act.put, List.setIfInBounds_toArray, List.set_cons_zero, List.set_cons_succ]
          simp only [wpTkS, wpRowS, opsL, List.getElem?_cons_zero, List.getElem?_cons_succ, Option.toList_some, List.singleton_append, List.append_nil]
          have KL := Lib.hid (goes_lc (m := m) (HR.out.below (below_drew1 _)) hn HCC.out HTT.out HFF.out HBS2.out.2.1 HBS2.out.2.2)
          go_wp2_with (go_at_call 41; refine KL.out.mono ?_; rintro e wd ⟨code, rfl, HM⟩; have KR := Lib.hid (goes_rc HM HAN.out.1 HAN.out.2 HCC.out HTT.out HFF.out HBS2.out.2.1 HBS2.out.2.2); have hs5 := (HST.out _ HM.row).2.1)
          refine norm_done hs5 ?_
          go_wp2_with (go_at_call 41; refine KR.out.mono ?_; rintro e we ⟨rfl, HG3⟩; have hs6 := (HST.out _ HG3.row).2.1)
          refine norm_done hs6 ?_
          go_wp2_with fail
          refine norm_done hs6 ?_
          go_wp2_with fail
          refine norm_done hs6 ?_
          refine noPanic_normal ?_
          first
            | (rename_i Kx hKx; refine hKx _ _ ?_)
            | (rename_i Kx hKx Qx hQx; refine hKx _ _ ?_)
          clear hs5 hs6 KL KR
          go_wp2
          exact ⟨⟨n + 1, kp, HLT.out, rfl, by rw [hw1], Lib.hid HG3⟩, by rw [hw1]; exact down_next HLT.out⟩
        | false =>
          go_wp2_with fail
          refine wp_region_noPanic ?_
          refine wp_region_rowS (S := fun w' => w'.cell? ⟨gA, oA + n * 3 + 2, none⟩ = some (u)) [0, 1, 2, 3, 4, 5, 7, 8, 9, 10, 11, 12] [6, 13, 14, 15] (by kernel_rfl) (by kernel_rfl) (fun _ _ _ _ h => h) (cell_below (below_drew1 _) (HST.out _ HR.out.row).2.2) ?_
          simp only [opsL, List.getElem?_cons_zero, List.getElem?_cons_succ, Option.toList_some, List.singleton_append]
          refine takesS_run rfl (.pointer (some ⟨jp, 0, none⟩)) (fun w' hw => op_move _ rfl _ (by rfl) w') ?_
          simp only [Act.put, List.setIfInBounds_toArray, List.set_cons_zero, List.set_cons_succ]
          refine takesS_run rfl (.slice (some ⟨gA, oA, none⟩) ab.length c6) (fun w' hw => op_move _ rfl _ (by rfl) w') ?_
          simp only [Act.put, List.setIfInBounds_toArray, List.set_cons_zero, List.set_cons_succ]
          refine takesS_run rfl (.int .i64 (n : Int)) (fun w' hw => op_move _ rfl _ (by rfl) w') ?_
          simp only [Act.put, List.setIfInBounds_toArray, List.set_cons_zero, List.set_cons_succ]
          refine takesS_run rfl (.pointer (some ⟨gA, oA + n * 3, none⟩)) (fun w' hw => op_index _ _ _ rfl _ _ _ (by rfl) (by rfl) w' (hix w')) ?_
          simp only [Act.put, List.setIfInBounds_toArray, List.set_cons_zero, List.set_cons_succ]
          refine takesS_run rfl (.pointer (some ⟨gA, oA + n * 3 + 2, none⟩)) (fun w' hw => by go_simp) ?_
          simp only [Act.put, List.setIfInBounds_toArray, List.set_cons_zero, List.set_cons_succ]
          refine takesS_run rfl (u) (fun w' hw => op_load _ _ rfl _ _ (by rfl) w' (ld_cell Tryz.underlying35 rfl hw)) ?_
          simp only [Act.put, List.setIfInBounds_toArray, List.set_cons_zero, List.set_cons_succ]
          refine takesS_run rfl (.pointer (some ⟨kp, 0, none⟩)) (fun w' hw => op_move _ rfl _ (by rfl) w') ?_
          simp only [Act.put, List.setIfInBounds_toArray, List.set_cons_zero, List.set_cons_succ]
          refine takesS_run rfl (.slice (some ⟨gA, oA, none⟩) ab.length c6) (fun w' hw => op_move _ rfl _ (by rfl) w') ?_
          simp only [Act.put, List.setIfInBounds_toArray, List.set_cons_zero, List.set_cons_succ]
          refine takesS_run rfl (.int .i64 (n : Int)) (fun w' hw => op_move _ rfl _ (by rfl) w') ?_
          simp only [Act.put, List.setIfInBounds_toArray, List.set_cons_zero, List.set_cons_succ]
          refine takesS_run rfl (.pointer (some ⟨gA, oA + n * 3, none⟩)) (fun w' hw => op_index _ _ _ rfl _ _ _ (by rfl) (by rfl) w' (hix w')) ?_
          simp only [Act.put, List.setIfInBounds_toArray, List.set_cons_zero, List.set_cons_succ]
          refine takesS_run rfl (.pointer (some ⟨gA, oA + n * 3 + 2, none⟩)) (fun w' hw => by go_simp) ?_
          simp only [Act.put, List.setIfInBounds_toArray, List.set_cons_zero, List.set_cons_succ]
          refine takesS_run rfl (u) (fun w' hw => op_load _ _ rfl _ _ (by rfl) w' (ld_cell Tryz.underlying35 rfl hw)) ?_
          simp only [Act.put, List.setIfInBounds_toArray, List.set_cons_zero, List.set_cons_succ]
          simp only [wpTkS, wpRowS, opsL, List.getElem?_cons_zero, List.getElem?_cons_succ, Option.toList_some, List.singleton_append, List.append_nil]
          have KL := Lib.hid (goes_la (q := q) (HR.out.below (below_drew1 _)) hn HCC.out HTT.out HFF.out HBS2.out.1)
          go_wp2_with (go_at_call 43; refine KL.out.mono ?_; rintro e wd ⟨code, rfl, HM⟩; have KR := Lib.hid (goes_ra HM HAN.out.1 HAN.out.2 HCC.out HTT.out HFF.out HBS2.out.1); have hs5 := (HST.out _ HM.row).2.2)
          refine norm_done hs5 ?_
          go_wp2_with (go_at_call 43; refine KR.out.mono ?_; rintro e we ⟨rfl, HG3⟩; have hs6 := (HST.out _ HG3.row).2.2)
          refine norm_done hs6 ?_
          go_wp2_with fail
          refine norm_done hs6 ?_
          go_wp2_with fail
          refine norm_done hs6 ?_
          refine noPanic_normal ?_
          first
            | (rename_i Kx hKx; refine hKx _ _ ?_)
            | (rename_i Kx hKx Qx hQx; refine hKx _ _ ?_)
          clear hs5 hs6 KL KR
          go_wp2
          exact ⟨⟨n + 1, kp, HLT.out, rfl, by rw [hw1], Lib.hid HG3⟩, by rw [hw1]; exact down_next HLT.out⟩
    · have hkn : n = ab.length := by omega
      subst hkn
      clear hlt
      obtain ⟨j, x, s, g, ls, k, y, t, rfl, rfl, rfl, rfl, hTw, hJB, hJB2, -⟩ := HR.out.ex
      have hll := hJB.ln
      have hl8 : ls.length ≤ 100000000 := by have := HLL.out; omega
      have hfew : ∀ m ∈ ls, m.length ≤ 100000000000000 := fun m hm => by have := hJB.jg.few m hm; omega
      have KL1 := Lib.hid (listed_calls j x.p g ls wr W.heap.size hTw.a.ja hl8 hfew)
      have KL2 := Lib.hid (fun w (hw : Below wr.heap.size wr w) => listed_calls k y.p g ls w W.heap.size (hTw.b.ja.below hw) hl8 hfew)
      have KD := Lib.hid (fun w (hw : Below wr.heap.size wr w) => dsame_calls x y s t w W.heap.size W.heap.size (hTw.a.xa.below hw) (hTw.b.xa.below hw) (hJB.jg.same hJB2.jg))
      have KG1 := Lib.hid (fun w (hw : Below wr.heap.size wr w) => jgen_calls j x.p g ls w W.heap.size (hTw.a.ja.below hw))
      have KG2 := Lib.hid (fun w (hw : Below wr.heap.size wr w) => jgen_calls k y.p g ls w W.heap.size (hTw.b.ja.below hw))
      have HBEL := Lib.hid HR.out.bel
      have M1 := Lib.hid trivial
      have M2 := Lib.hid trivial
      clear hTw hJB hJB2 hll hl8 hfew HR HBS HUL HCC hn
      go_wp2_with (first
        | (go_at_call 46; clear M1; refine KL1.out.mono ?_; rintro e wa ⟨v1, rfl, ho1, hba⟩; obtain ⟨Aa, ca, ea, -⟩ := owns_form ho1; subst ea)
        | (go_at_call 46; refine (KL2.out wa hba).mono ?_; rintro e wb ⟨v2, rfl, ho2, hbb⟩; obtain ⟨Ab, cb, eb, -⟩ := owns_form ho2; subst eb; have hbb2 := below_then hba hbb; have KS := same_calls _ _ ls ls wb (Row.of_owns (owns_below ho1 hbb)) (Row.of_owns ho2); rw [decide_eq_true rfl] at KS; have KS := Lib.hid KS)
        | (go_at_call 48; refine KS.out.mono ?_; rintro e wc ⟨rfl, hbc⟩; have hbc2 := below_then hbb2 hbc)
        | (go_at_call 15; refine (KD.out _ hbc2).mono ?_; rintro e wd ⟨rfl, hbd⟩; have hbd2 := below_then hbc2 hbd)
        | (go_at_call 49; clear M2; refine (KG1.out _ hbd2).mono ?_; rintro e we ⟨rfl, rfl⟩)
        | (go_at_call 49; refine (KG2.out _ hbd2).mono ?_; rintro e wf ⟨rfl, rfl⟩))
      go_ret
      exact ⟨rfl, HBEL.out.trans (hbd2.mono HBEL.out.size)⟩
end Go.Proofs.YtjllkmkngjdjjaaGreatDoor
