/- A WALK of journal.Clear. No statement of the seed is proved here. WALKS: Clear of none, Add of what is too long. No statement of the seed is proved here. A WALK of journal.of, at the names of generations. No statement of the seed is proved here. A WALK of coppicelaw13.listed. No statement of the seed is proved here. A WALK of coppicelaw13.same. No statement of the seed is proved here. -/
import Derived.Test.YtjllkmkngjdjjaaGreatDoorJrnP
import Derived.Test.YtjllkmkngjdjjaaGreatDoorIter2
import Derived.Test.YtjllkmkngjdjjaaGreatDoorShfP
import Derived.Test.YtjllkmkngjdjjaaGreatDoorShelfB
import Derived.Test.YtjllkmkngjdjjaaGreatDoorNames
import Derived.Test.YtjllkmkngjdjjaaGreatDoorDskD
import Derived.BigQuiet
namespace Go.Proofs.YtjllkmkngjdjjaaGreatDoor
open Go.RowKit Go.Shelf
set_option maxRecDepth 100000
theorem Row.subX {w : World} {A : Option Addr} {n c : Nat} {cs : List Value} (h : Row w (.slice A n c) n cs) (hl : cs.length = n) (k : Nat) (hk : k ≤ n) : Row w (.slice (if c = k then A else A.map (fun x => x.add k)) (n - k) (c - k)) (n - k) (cs.drop k) := by
  obtain ⟨A0, c0, e, h1, h2, h0, h3⟩ := h
  cases e
  refine ⟨_, _, rfl, by omega, by omega, ?_, ?_⟩
  · intro hA
    cases A with
    | none => have := h0 rfl; omega
    | some ad => split at hA <;> cases hA
  · intro q u hq
    rw [List.getElem?_drop] at hq
    have hql := (List.getElem?_eq_some_iff.1 hq).1
    obtain ⟨ad, e, hc⟩ := h3 _ u hq
    subst e
    have hck : ¬ c = k := by omega
    exact ⟨ad.add k, by rw [if_neg hck]; rfl, by rw [add_add]; exact hc⟩
/-- What Clear does to the disk. -/
def clearS (s : DSt) (g : Nat) (b : List UInt8) : DSt := (((s.run (rCreate (jnm (g + 1)))).runs (appR (s.run (rCreate (jnm (g + 1)))) (jnm (g + 1)) b)).run (rRemove (jnm g)))
theorem JT.At.setGen {j : JT} {pd g g' : Nat} {ls : List (List UInt8)} {w : World} {B : Nat} (h : j.At pd g ls w B) {q : Int} (hq : q = (g' : Int)) : j.At pd g' ls (w.setCell ⟨j.p, 1, none⟩ (.int .i64 q)) B where
  low := h.low
  c0 := (World.cell?_setCell_other w _ _ _ (by simp)).trans h.c0
  c1 := by rw [← hq]; exact set_cell h.c1 _
  c2 := (World.cell?_setCell_other w _ _ _ (by simp)).trans h.c2
  f1 := set_frozen h.f1 _
  f2 := set_frozen h.f2 _
  row := mods_owns h.row fun k hk => Below.heap_setCell _ _ _ _ (fun e => h.vp (hk.trans (congrArg some e)))
  parts := ⟨h.parts.1, fun i u hu => by
    obtain ⟨m, hm, ho, ha⟩ := h.parts.2 i u hu
    exact ⟨m, hm, mods_owns ho fun k hk => Below.heap_setCell _ _ _ _ (fun e => h.up u (List.mem_of_getElem? hu) (hk.trans (congrArg some e))), ha⟩⟩
  vp := h.vp
  up := h.up
theorem JT.At.setRow {j : JT} {pd g : Nat} {ls : List (List UInt8)} {w : World} {B : Nat} (h : j.At pd g ls w B) {k D : Nat} (hk : k ≤ ls.length) {v : Value} (hv : w.ownsRow D 35 1 v (ls.length - k) (j.us.drop k)) (hD : ∀ q, j.Has q → q < D) (hB : B ≤ D) :
    (JT.mk j.p v (j.us.drop k)).At pd g (ls.drop k) (w.setCell ⟨j.p, 2, none⟩ v) B := by
  have hne : ∀ q, v.ownBlock = some q → ¬ j.Has q := fun q hq hj => by have := owns_ge hv q hq; have := hD q hj; omega
  have hmem : ∀ {u}, u ∈ j.us.drop k → u ∈ j.us := fun hu => List.mem_of_mem_drop hu
  refine ⟨h.low, (World.cell?_setCell_other w _ _ _ (by simp)).trans h.c0, (World.cell?_setCell_other w _ _ _ (by simp)).trans h.c1, set_cell h.c2 _, set_frozen h.f1 _, set_frozen h.f2 _, ?_, ?_, fun e => hne _ e (.inl rfl), fun u hu => h.up u (hmem hu)⟩
  · rw [List.length_drop]
    exact mods_owns (owns_low hv hB) fun q hq => Below.heap_setCell _ _ _ _ (fun e => hne q hq (.inl e))
  · refine ⟨by rw [List.length_drop, List.length_drop, h.parts.1], fun i u hu => ?_⟩
    rw [List.getElem?_drop] at hu
    obtain ⟨m, hm, ho, ha⟩ := h.parts.2 _ u hu
    have hum := List.mem_of_getElem? hu
    refine ⟨m, by rw [List.getElem?_drop]; exact hm, mods_owns ho fun q hq => Below.heap_setCell _ _ _ _ (fun e => h.up u hum (hq.trans (congrArg some e))), fun s hs q hq hq2 => ?_⟩
    simp at hs
    subst hs
    exact hne q hq2 (.inr (.inr ⟨u, hum, hq⟩))
/-- Clear of more than there is, or of less than none. -/
theorem jclear_bad (j : JT) (pd g : Nat) (ls : List (List UInt8)) (W : World) (B : Nat) (hJ : j.At pd g ls W B) (q : Int) (hq1 : -9223372036854775808 ≤ q) (hq2 : q ≤ 9223372036854775807) (hq : q < 0 ∨ (ls.length : Int) < q) :
    Calls Tryz.prog 41 #[.pointer (some ⟨j.p, 0, none⟩), .int .i64 q] W fun e w' => e = .returned (.int .i64 2) ∧ w' = W := by
  have KN := Lib.hid (jnone_calls j pd g ls W B hJ)
  have c2 := hJ.c2
  obtain ⟨A, c, e, -, -, -⟩ := owns_form hJ.row
  rw [e] at c2
  have g1 : decide (q < 0) = true ∨ decide (q < 0) = false ∧ decide ((ls.length : Int) < q) = true := by
    rcases hq with h | h
    · exact .inl (decide_eq_true h)
    · by_cases h0 : q < 0
      · exact .inl (decide_eq_true h0)
      · exact .inr ⟨decide_eq_false h0, decide_eq_true h⟩
  clear hJ e hq
  rcases g1 with g1 | ⟨g1, g2⟩
  all_goals
    go_enter Tryz.func41, Tryz.ntmps41
    go_wp2_with (first
      | (go_at_call 108; refine KN.out.mono ?_; rintro e w1 ⟨rfl, rfl⟩))
    go_ret
    exact ⟨rfl, rfl⟩
theorem DStep.hasx {x y : DT} {w w' : World} (h : DStep x w y w') {k : Nat} (hk : y.Has k) : x.Has k ∨ w.heap.size ≤ k := by
  rcases hk with hk | ⟨z, hz, hk⟩
  · rcases h.has k hk with h | h
    · exact .inl (.inl h)
    · exact .inr h
  · rcases h.us z hz with h | h | h
    · exact .inl (.inr ⟨z, h, hk⟩)
    · subst h; cases hk
    · exact .inr (h k hk)
theorem jkept {j : JT} {x y : DT} {s : DSt} {g : Nat} {ls : List (List UInt8)} {W w3 w : World} {B : Nat} (hJ : JD j x s g ls W B) (hb3 : Below W.heap.size W w3) (hs : DStep x w3 y w) : j.At x.p g ls w B :=
  (hJ.ja.below hb3).kept fun k hk => hs.block k (Nat.lt_of_lt_of_le (hJ.ja.lt hk) hb3.size) (fun e => hJ.sep k hk (.inl e))
theorem below_ds {x y : DT} {s : DSt} {W w3 w4 : World} {B : Nat} (hx : x.At s W B) (hb3 : Below W.heap.size W w3) (hs : DStep x w3 y w4) (hB : B ≤ W.heap.size) : Below B W w4 :=
  hs.below (hx.below hb3) (hb3.mono hB) (Nat.le_trans hB hb3.size)
theorem jone {j : JT} {pd g : Nat} {ls : List (List UInt8)} {w : World} {B : Nat} (h : j.At pd g ls w B) (k : Nat) : ∀ u ∈ j.us.drop k, u.oneCell' = true := fun u hu => by
  obtain ⟨m, -, ho, -⟩ := h.us (List.mem_of_mem_drop hu)
  obtain ⟨_, _, rfl, -⟩ := ho.form
  rfl
/-- Clear's end. -/
theorem jclear_end {j : JT} {x u : DT} {s s' : DSt} {g g' : Nat} {ls : List (List UInt8)} {W w3 w6 w8 : World} {B k : Nat} (hJ : JD j x s g ls W B) (hB : B ≤ W.heap.size) (hb3 : Below W.heap.size W w3) (hu : u.At s' w6 B) (hs : DStep x w3 u w6) (hk : k ≤ ls.length) {q : Int} (hq : q = (g' : Int))
    (hB8 : Below (w6.setCell ⟨j.p, 1, none⟩ (.int .i64 q)).heap.size (w6.setCell ⟨j.p, 1, none⟩ (.int .i64 q)) w8) {v : Value} (ho : w8.ownsRow (w6.setCell ⟨j.p, 1, none⟩ (.int .i64 q)).heap.size 35 1 v (ls.length - k) (j.us.drop k)) :
    ∃ (j' : JT) (y : DT), JD j' y s' g' (ls.drop k) (w8.setCell ⟨j.p, 2, none⟩ v) B ∧ JStep j x W j' y (w8.setCell ⟨j.p, 2, none⟩ v) := by
  have j6 := jkept hJ hb3 hs
  have j7 := j6.setGen (g' := g') hq
  have j8 := j7.below hB8
  have z3 := hb3.size
  have z6 := hs.size
  have z7 : (w6.setCell ⟨j.p, 1, none⟩ (.int .i64 q)).heap.size = w6.heap.size := World.size_setCell _ _ _
  have z8 := hB8.size
  have hold : ∀ k, j.Has k → k < W.heap.size := fun k hk => hJ.ja.lt hk
  have huj : ∀ k, u.Has k → ¬ j.Has k := fun k hk hj => by
    rcases hs.hasx hk with h | h
    · exact hJ.sep k hj h
    · have := hold k hj; omega
  have hvn : ∀ k, v.ownBlock = some k → w6.heap.size ≤ k := fun k hk => by have := owns_ge ho k hk; omega
  have hsame : ∀ k, k < w6.heap.size → k ≠ j.p → (w8.setCell ⟨j.p, 2, none⟩ v).heap[k]? = w6.heap[k]? := fun k hk hj => by
    rw [Below.heap_setCell _ _ _ _ hj, hB8.block k (by omega), Below.heap_setCell _ _ _ _ hj]
  have hA := j8.setRow hk ho (fun q hq => j7.lt hq) (by omega)
  have hhas : ∀ k', (JT.mk j.p v (j.us.drop k)).Has k' → j.Has k' ∨ w6.heap.size ≤ k' := fun k' hk => by
    rcases hk with rfl | hk | ⟨z, hz, hk⟩
    · exact .inl (.inl rfl)
    · exact .inr (hvn k' hk)
    · exact .inl (.inr (.inr ⟨z, List.mem_of_mem_drop hz, hk⟩))
  refine ⟨⟨j.p, v, j.us.drop k⟩, u, ⟨by rw [hs.p]; exact hA, hu.kept fun k hk => hsame k (hu.lt hk) (fun e => huj k hk (.inl e)), ?_⟩, ?_⟩
  · intro k' h1 h2
    rcases hhas k' h1 with h | h
    · exact huj k' h2 h
    · have := hu.lt h2; omega
  · refine ⟨hs.p, rfl, ?_, ?_, ?_, ?_, ?_, ?_, ?_, ?_⟩
    · exact (grown_setCell w8 j.p 2 v).os.trans (hB8.os.trans ((grown_setCell w6 j.p 1 _).os.trans (hs.os.trans hb3.os)))
    · exact (grown_setCell w8 j.p 2 v).tape.trans (hB8.tape.trans ((grown_setCell w6 j.p 1 _).tape.trans (hs.tape.trans hb3.tape)))
    · exact (grown_setCell w8 j.p 2 v).output.trans (hB8.output.trans ((grown_setCell w6 j.p 1 _).output.trans (hs.output.trans hb3.output)))
    · rw [World.size_setCell]; omega
    · intro k' hk' hm hj
      rw [hsame k' (by omega) (fun e => hj (.inl e)), hs.block k' (by omega) hm]
      exact hb3.block k' hk'
    · intro k' hk'
      rcases hhas k' hk' with h | h
      · exact .inl h
      · exact .inr (by omega)
    · intro k' hk'
      rcases hs.has k' hk' with h | h
      · exact .inl h
      · exact .inr (by omega)
    · intro z hz
      rcases hs.us z hz with h | h | h
      · exact .inl h
      · subst h; exact .inr fun k hk => (by cases hk)
      · exact .inr fun k hk => Nat.le_trans z3 (h k hk)
theorem jfile_take_le (ls : List (List UInt8)) (i : Nat) : (jfile (ls.take i)).length ≤ (jfile ls).length := by
  have e : jfile ls = jfile (ls.take i) ++ jfile (ls.drop i) := by
    unfold jfile
    rw [← List.flatten_append, ← List.map_append, List.take_append_drop]
  rw [e, List.length_append]
  omega
theorem jfile_drop_le (ls : List (List UInt8)) (i : Nat) : (jfile (ls.drop i)).length ≤ (jfile ls).length := by
  have e : jfile ls = jfile (ls.take i) ++ jfile (ls.drop i) := by
    unfold jfile
    rw [← List.flatten_append, ← List.map_append, List.take_append_drop]
  rw [e, List.length_append]
  omega
set_option maxHeartbeats 400000 in
theorem jclear_calls (j : JT) (x : DT) (s : DSt) (g : Nat) (ls : List (List UInt8)) (W : World) (B : Nat) (hJ : JD j x s g ls W B) (hB : B ≤ W.heap.size) (hT : TabW W) (hF : ∀ w, Below B W w → LaidF w) (h1 : 1 ≤ g) (h2 : g + 1 ≤ 2147483647) (k : Nat) (hk1 : 1 ≤ k) (hk2 : k ≤ ls.length)
    (f : List UInt8) (hf : s.fs (jnm g) = some f) (hg : s.fs (jnm (g + 1)) = none) (hsec : 0 < s.sec) (hn : ls.length ≤ 90000000) (hm : ∀ m ∈ ls, m.length ≤ 65535) (hs : (jfile ls).length ≤ 100000000) (hr : s.raws.length + (jfile ls).length + 3 ≤ 1000000000000) :
    Calls Tryz.prog 41 #[.pointer (some ⟨j.p, 0, none⟩), .int .i64 (k : Int)] W fun e w' => e = .returned (.int .i64 0) ∧ ∃ (j' : JT) (y : DT), JD j' y (clearS s g (jfile (ls.drop k))) (g + 1) (ls.drop k) w' B ∧ JStep j x W j' y w' := by
  have KN := Lib.hid (jnone_calls j x.p g ls W B hJ.ja)
  have hbl := jfile_drop_le ls k
  have hne : jnm (g + 1) ≠ jnm g := fun e => by have := jnm_inj (g := g + 1) (g' := g) h2 (by omega) e; omega
  have K1 := Lib.hid (show ∀ w, Below W.heap.size W w → Calls Tryz.prog 102 #[.int .i64 (g : Int)] w fun e w' => e = .returned (.tuple #[.string (jnm g), .int .i64 0]) ∧ Below w.heap.size w w' from fun w (hw : Below W.heap.size W w) => jname_ok g h1 (by omega) w (tab_below hT hw))
  have K2 := Lib.hid (show ∀ w, Below W.heap.size W w → Calls Tryz.prog 102 #[.int .i64 ((g : Int) + 1)] w fun e w' => e = .returned (.tuple #[.string (jnm (g + 1)), .int .i64 0]) ∧ Below w.heap.size w w' from fun w (hw : Below W.heap.size W w) => jname_ok (g + 1) (by omega) h2 w (tab_below hT hw))
  have d1 : dWrong s (jnm (g + 1)) false = 0 := by unfold dWrong; rw [jnm_ok _ h2, hg]; rfl
  have e1 : (s.run (rCreate (jnm (g + 1)))).fs = upd s.fs (jnm (g + 1)) (some []) := run_create _ _
  have e1n : (s.run (rCreate (jnm (g + 1)))).fs (jnm (g + 1)) = some [] := by rw [e1, upd_same]
  have e1r : (s.run (rCreate (jnm (g + 1)))).raws.length = s.raws.length + 1 := by simp [DSt.run]
  have d2 : dWrong (s.run (rCreate (jnm (g + 1)))) (jnm (g + 1)) true = 0 := by unfold dWrong; rw [jnm_ok _ h2, e1n]; rfl
  have hsec1 : 0 < (s.run (rCreate (jnm (g + 1)))).sec := hsec
  have e2 := runs_appR hsec1 e1n (jfile (ls.drop k))
  have e2r := appR_len (s.run (rCreate (jnm (g + 1)))) (jnm (g + 1)) (jfile (ls.drop k)) hsec1
  have KC := Lib.hid (fun w (hw : Below W.heap.size W w) => dcreate_calls x s (jnm (g + 1)) w B (hJ.xa.below hw) (Nat.le_trans hB hw.size) (by omega))
  unfold dCreate at KC
  rw [if_pos d1] at KC
  have KA := Lib.hid (fun (y : DT) (w : World) (va : Value) (hp : y.p = x.p) (hy : y.At (s.run (rCreate (jnm (g + 1)))) w B) (hz : B ≤ w.heap.size) (hb : Bs w va (jfile (ls.drop k))) (hap : ∀ k, va.ownBlock = some k → ¬ y.Mut k) => hp ▸ dappend_calls y _ (jnm (g + 1)) va (jfile (ls.drop k)) w B hy hz hb hap (fun l hl => by rw [e1n] at hl; cases hl; simp; omega) (by rw [e1r]; omega))
  unfold dAppend at KA
  rw [if_pos d2] at KA
  unfold clearS
  generalize s.run (rCreate (jnm (g + 1))) = s1 at *
  have d3 : dWrong (s1.runs (appR s1 (jnm (g + 1)) (jfile (ls.drop k)))) (jnm g) true = 0 := by unfold dWrong; rw [jnm_ok _ (by omega), e2, upd_other _ _ hne.symm, e1, upd_other _ _ hne.symm, hf]; rfl
  have KR := Lib.hid (fun (y : DT) (w : World) (hp : y.p = x.p) (hy : y.At (s1.runs (appR s1 (jnm (g + 1)) (jfile (ls.drop k)))) w B) (hz : B ≤ w.heap.size) => hp ▸ dremove_calls y _ (jnm g) w B hy hz (by rw [DSt.runs_raws, List.length_append, e1r]; omega))
  unfold dRemove at KR
  rw [if_pos d3] at KR
  have HJ := Lib.hid hJ
  have HF := Lib.hid hF
  have c0 := hJ.ja.c0
  have c1 := hJ.ja.c1
  have c2 := hJ.ja.c2
  obtain ⟨A, c, evl, hc1, hc2, -⟩ := owns_form hJ.ja.row
  rw [evl] at c2
  have HV := Lib.hid evl
  have hul : j.us.length = ls.length := by have := hJ.ja.row.1; omega
  have HS := Lib.hid (Row.subX (evl ▸ Row.of_owns hJ.ja.row) hul k hk2)
  have HM := Lib.hid hm
  have HU := Lib.hid hul
  have HZ := Lib.hid hs
  have HB := Lib.hid hB
  clear hJ hT hF hf hg hsec hsec1 d1 d2 d3 e1 e1n e2 e2r e1r hm hs hr hul evl hbl hne hB
  generalize jnm (g + 1) = nm2 at *
  generalize jnm g = nm1 at *
  have M1 := Lib.hid trivial
  have HN := Lib.hid hn
  have HK := Lib.hid (And.intro hk1 hk2)
  have g1 : decide ((k : Int) < 0) = false := decide_eq_false (by omega)
  have g2 : decide (ls.length < k) = false := decide_eq_false (by omega)
  have g3 : decide ((ls.length : Int) < (k : Int)) = false := decide_eq_false (by omega)
  have hcase : c = k ∨ c ≠ k := by omega
  rcases hcase with hck | hck
  · have hck := hck.symm
    subst hck
    go_enter Tryz.func41, Tryz.ntmps41
    go_wp2_with (first
      | (go_at_call 108; refine KN.out.mono ?_; rintro e w1 ⟨rfl, rfl⟩)
      | (go_at_call 102; clear M1; refine (K1.out _ (Below.refl _ _)).mono ?_; rintro e w2 ⟨rfl, hB2⟩; have d1 := cell_below hB2 c1; have d0 := cell_below hB2 c0)
      | (go_at_call 102; refine (K2.out _ hB2).mono ?_; rintro e w3 ⟨rfl, hB3⟩; have hb3 := below_then hB2 hB3; have f0 := cell_below hB3 d0)
      | (go_at_call 78; refine (KC.out _ hb3).mono ?_; rintro e w4 ⟨rfl, y, hy, hs4⟩; have j4 := jkept HJ.out hb3 hs4; have i2 := HV.out ▸ j4.c2; have i0 := j4.c0))
    have hs := Row.subX (HV.out ▸ Row.of_owns j4.row) HU.out k HK.out.2
    rw [if_pos rfl, Nat.sub_self] at hs
    have J4 := Lib.hid j4
    have HB3 := Lib.hid hb3
    have HY := Lib.hid hy
    have HS4 := Lib.hid hs4
    have HR := Lib.hid hs
    have HB4 := Lib.hid (below_ds HJ.out.xa hb3 hs4 HB.out)
    have HZ4 := Lib.hid (Nat.le_trans HB.out (Nat.le_trans hb3.size hs4.size))
    clear j4 hb3 hy hs4 hs HS hB2 hB3 d1 d0 f0 c0 c1 c2
    go_loopw [10, 72] (fun b i wr => ∃ q : Nat, q ≤ ls.length - k ∧ i = .int .i64 (q : Int) ∧ OwnB wr w4.heap.size b (jfile ((ls.drop k).take q)) ∧ Below w4.heap.size w4 wr) (fun _ i _ => ls.length - k - (intOf i).toNat)
    case atStart => exact ⟨0, by omega, rfl, by simpa [jfile] using OwnB.nil w4 w4.heap.size, Below.refl _ _⟩
    case round =>
      obtain ⟨q, hq, rfl, hob, hb⟩ := hrel
      obtain ⟨Ab, cb, rfl, hb1, hb2, hb3⟩ := hob.form
      by_cases hlt : q < ls.length - k
      · omega
      · have hz0 : ls.length - k = 0 := by omega
        have hT : (ls.drop k).take q = ls.drop k := List.take_of_length_le (by rw [List.length_drop]; omega)
        rw [hT] at hob hb1 hb3
        rw [hT]
        have h0 := cell_below hb i0
        have HB5 := Lib.hid (Nat.le_trans HZ4.out hb.size)
        generalize hfl : jfile (ls.drop k) = fl at *
        have HFL := Lib.hid hfl
        clear hfl
        go_wp2_with (first
          | (go_at_call 79; refine (KA.out y wr _ HS4.out.p (HY.out.below hb) HB5.out hob.bs (fun k hk hm => absurd (HY.out.lt (.inl hm)) (Nat.not_lt.2 (hob.lt k hk).1))).mono ?_; rintro e w5 ⟨rfl, z, hz, hs5⟩; have t5 := (HS4.out.then_below hb).trans hs5; have j5 := jkept HJ.out HB3.out t5; have h05 := j5.c0)
          | (go_at_call 73; refine (KR.out z w5 (hs5.p.trans HS4.out.p) hz (Nat.le_trans HB5.out hs5.size)).mono ?_; rintro e w6 ⟨rfl, u, hu, hs6⟩; have t6 := t5.trans hs6; have j6 := jkept HJ.out HB3.out t6; have b1 := j6.c1; have b2 := HV.out ▸ j6.c2; have bf := j6.f1)
          | (go_at_call 110; have j7 := j6.setGen (q := (g : Int) + 1) (g' := g + 1) (by omega); have hr7 := Row.subX (HV.out ▸ Row.of_owns j7.row) HU.out k HK.out.2; rw [if_pos rfl, Nat.sub_self, hz0] at hr7; refine (lclone_calls _ 0 (j.us.drop k) _ hr7 (by rw [List.length_drop, HU.out, hz0]) (jone j7 k) (by decide)).mono ?_; rintro e w8 ⟨v8, rfl, ho8, hB8⟩; obtain ⟨A8, c8, rfl, -⟩ := owns_form ho8; have j8 := j7.below hB8; have p2 := j8.c2; have pf := j8.f2))
        go_ret
        refine ⟨rfl, ?_⟩
        rw [HFL.out]
        exact jclear_end HJ.out HB.out HB3.out hu t6 HK.out.2 (by omega) hB8 (by rw [hz0]; exact ho8)
  · go_enter Tryz.func41, Tryz.ntmps41
    go_wp2_with (first
      | (go_at_call 108; refine KN.out.mono ?_; rintro e w1 ⟨rfl, rfl⟩)
      | (go_at_call 102; clear M1; refine (K1.out _ (Below.refl _ _)).mono ?_; rintro e w2 ⟨rfl, hB2⟩; have d1 := cell_below hB2 c1; have d0 := cell_below hB2 c0)
      | (go_at_call 102; refine (K2.out _ hB2).mono ?_; rintro e w3 ⟨rfl, hB3⟩; have hb3 := below_then hB2 hB3; have f0 := cell_below hB3 d0)
      | (go_at_call 78; refine (KC.out _ hb3).mono ?_; rintro e w4 ⟨rfl, y, hy, hs4⟩; have j4 := jkept HJ.out hb3 hs4; have i2 := HV.out ▸ j4.c2; have i0 := j4.c0))
    have hs := Row.subX (HV.out ▸ Row.of_owns j4.row) HU.out k HK.out.2
    rw [if_neg hck] at hs
    generalize Option.map (fun x => x.add k) A = A' at *
    have J4 := Lib.hid j4
    have HB3 := Lib.hid hb3
    have HY := Lib.hid hy
    have HS4 := Lib.hid hs4
    have HR := Lib.hid hs
    have HB4 := Lib.hid (below_ds HJ.out.xa hb3 hs4 HB.out)
    have HZ4 := Lib.hid (Nat.le_trans HB.out (Nat.le_trans hb3.size hs4.size))
    clear j4 hb3 hy hs4 hs HS hB2 hB3 d1 d0 f0 c0 c1 c2
    go_loopw [10, 72] (fun b i wr => ∃ q : Nat, q ≤ ls.length - k ∧ i = .int .i64 (q : Int) ∧ OwnB wr w4.heap.size b (jfile ((ls.drop k).take q)) ∧ Below w4.heap.size w4 wr) (fun _ i _ => ls.length - k - (intOf i).toNat)
    case atStart => exact ⟨0, by omega, rfl, by simpa [jfile] using OwnB.nil w4 w4.heap.size, Below.refl _ _⟩
    case round =>
      obtain ⟨q, hq, rfl, hob, hb⟩ := hrel
      obtain ⟨Ab, cb, rfl, hb1, hb2, hb3⟩ := hob.form
      by_cases hlt : q < ls.length - k
      · have hqk : k + q < ls.length := by omega
        obtain ⟨u, hu, hbs⟩ := J4.out.parts.bs (k + q) hqk
        obtain ⟨ad, hA, hcell⟩ := (HR.out.below hb).at_ q (by rw [List.getElem?_drop]; exact hu)
        subst hA
        have hbu := hbs.below hb
        obtain ⟨Au, cu, rfl, -, -, -⟩ := hbu.form
        have hml := HM.out _ (List.getElem_mem hqk)
        have hsn : jfile ((ls.drop k).take (q + 1)) = jfile ((ls.drop k).take q) ++ fr ls[k + q] := by
          rw [List.take_succ_eq_append_getElem (by rw [List.length_drop]; omega), jfile_snoc, List.getElem_drop]
        have hle : (jfile ((ls.drop k).take q)).length ≤ 100000000 := Nat.le_trans (jfile_take_le _ _) (Nat.le_trans (jfile_drop_le ls k) HZ.out)
        have hF1 : LaidF wr := HF.out wr (HB4.out.trans (hb.mono HZ4.out))
        have KP := Lib.hid (fput_calls (.slice Ab (jfile ((ls.drop k).take q)).length cb) (.slice Au ls[k + q].length cu) _ _ wr hF1 hob.bs hbu (Nat.le_trans hml (by decide)) (Nat.le_trans hle (by decide)))
        have HSN := Lib.hid hsn
        clear hsn hob hbu hbs hF1 hu hml hle
        generalize jfile ((ls.drop k).take q) ++ fr ls[k + q] = f2 at *
        generalize jfile ((ls.drop k).take q) = f1 at *
        generalize ls[k + q] = m at *
        go_wp2_with (first
          | (go_at_call 109; refine KP.out.mono ?_; rintro e w5 ⟨v5, rfl, ho5, hB5⟩; obtain ⟨A5, c5, rfl, -, -, -⟩ := ho5.form; have hb5 := below_then hb hB5))
        go_roundw
        case rel => exact ⟨q + 1, by omega, by go_num, by rw [HSN.out]; exact ho5.lower' hb.size, hb5⟩
        case measure => simp [intOf]; omega
      · have hT : (ls.drop k).take q = ls.drop k := List.take_of_length_le (by rw [List.length_drop]; omega)
        rw [hT] at hob hb1 hb3
        rw [hT]
        have h0 := cell_below hb i0
        have HB5 := Lib.hid (Nat.le_trans HZ4.out hb.size)
        generalize hfl : jfile (ls.drop k) = fl at *
        have HFL := Lib.hid hfl
        clear hfl
        go_wp2_with (first
          | (go_at_call 79; refine (KA.out y wr _ HS4.out.p (HY.out.below hb) HB5.out hob.bs (fun k hk hm => absurd (HY.out.lt (.inl hm)) (Nat.not_lt.2 (hob.lt k hk).1))).mono ?_; rintro e w5 ⟨rfl, z, hz, hs5⟩; have t5 := (HS4.out.then_below hb).trans hs5; have j5 := jkept HJ.out HB3.out t5; have h05 := j5.c0)
          | (go_at_call 73; refine (KR.out z w5 (hs5.p.trans HS4.out.p) hz (Nat.le_trans HB5.out hs5.size)).mono ?_; rintro e w6 ⟨rfl, u, hu, hs6⟩; have t6 := t5.trans hs6; have j6 := jkept HJ.out HB3.out t6; have b1 := j6.c1; have b2 := HV.out ▸ j6.c2; have bf := j6.f1)
          | (go_at_call 110; have j7 := j6.setGen (q := (g : Int) + 1) (g' := g + 1) (by omega); have hr7 := Row.subX (HV.out ▸ Row.of_owns j7.row) HU.out k HK.out.2; rw [if_neg hck] at hr7; refine (lclone_calls _ (ls.length - k) (j.us.drop k) _ hr7 (by rw [List.length_drop, HU.out]) (jone j7 k) (Nat.le_trans (Nat.sub_le _ _) (Nat.le_trans HN.out (by decide)))).mono ?_; rintro e w8 ⟨v8, rfl, ho8, hB8⟩; obtain ⟨A8, c8, rfl, -⟩ := owns_form ho8; have j8 := j7.below hB8; have p2 := j8.c2; have pf := j8.f2))
        go_ret
        refine ⟨rfl, ?_⟩
        rw [HFL.out]
        exact jclear_end HJ.out HB.out HB3.out hu t6 HK.out.2 (by omega) hB8 ho8
end Go.Proofs.YtjllkmkngjdjjaaGreatDoor
namespace Go.Proofs.YtjllkmkngjdjjaaGreatDoor
open Go.RowKit Go.Shelf
set_option maxRecDepth 100000
theorem jclear_zero (j : JT) (pd g : Nat) (ls : List (List UInt8)) (W : World) (B : Nat) (hJ : j.At pd g ls W B) :
    Calls Tryz.prog 41 #[.pointer (some ⟨j.p, 0, none⟩), .int .i64 0] W fun e w' => e = .returned (.int .i64 0) ∧ w' = W := by
  have KN := Lib.hid (jnone_calls j pd g ls W B hJ)
  have c2 := hJ.c2
  obtain ⟨A, c, e, -, -, -⟩ := owns_form hJ.row
  rw [e] at c2
  have g2 : decide ((ls.length : Int) < 0) = false := decide_eq_false (by omega)
  clear hJ e
  go_enter Tryz.func41, Tryz.ntmps41
  go_wp2_with (first
    | (go_at_call 108; refine KN.out.mono ?_; rintro e w1 ⟨rfl, rfl⟩))
  go_ret
  exact ⟨rfl, rfl⟩
theorem jadd_big (j : JT) (pd g : Nat) (ls : List (List UInt8)) (W : World) (B : Nat) (hJ : j.At pd g ls W B) (v : Value) (m : List UInt8) (hv : Bs W v m) (hm : 65535 < m.length) :
    Calls Tryz.prog 43 #[.pointer (some ⟨j.p, 0, none⟩), v] W fun e w' => e = .returned (.int .i64 3) ∧ w' = W := by
  have KN := Lib.hid (jnone_calls j pd g ls W B hJ)
  obtain ⟨A, c, rfl, -, -, -⟩ := hv.form
  have g1 : decide ((m.length : Int) > 65535) = true := by rw [decide_eq_true_iff]; omega
  have g2 : decide ((65535 : Int) < (m.length : Int)) = true := by rw [decide_eq_true_iff]; omega
  have g3 : decide (65535 < m.length) = true := by rw [decide_eq_true_iff]; omega
  clear hJ hv
  go_enter Tryz.func43, Tryz.ntmps43
  go_wp2_with (first
    | (go_at_call 108; refine KN.out.mono ?_; rintro e w1 ⟨rfl, rfl⟩))
  go_ret
  exact ⟨rfl, rfl⟩
end Go.Proofs.YtjllkmkngjdjjaaGreatDoor
namespace Go.Proofs.YtjllkmkngjdjjaaGreatDoor
open Go.RowKit Go.Shelf
set_option maxRecDepth 100000
theorem jof_calls (g : Nat) (h1 : 1 ≤ g) (h2 : g ≤ 2147483647) (W : World) (hT : TabW W) :
    Calls Tryz.prog 101 #[.string (jnm g)] W fun e w' => e = .returned (.int .i64 (g : Int)) ∧ Below W.heap.size W w' := by
  have hcut : Lib.hasPrefix (jnm g).data.toList wordJ = true := by simp [jnm, Lib.hasPrefix]
  have htrim : Lib.trimPrefix (jnm g).data.toList wordJ = padded 6 g := by
    unfold Lib.trimPrefix
    rw [if_pos hcut]
    simp [jnm]
  have KC := Lib.hid (Tryz.strings_CutPrefix (jnm g) ⟨wordJ.toArray⟩ W)
  have hsz : (ByteArray.mk (padded 6 g).toArray).size ≤ 9223372036854775806 := by
    have := digits_le19 g (by omega)
    show (padded 6 g).toArray.size ≤ _
    unfold padded
    simp
    omega
  have KA := Lib.hid (Tryz.strconv_Atoi_ok ⟨(padded 6 g).toArray⟩ hsz g (by simpa using atoi_padded 6 g (by omega)) W)
  have KN := Lib.hid (show ∀ w, Below W.heap.size W w → Calls Tryz.prog 102 #[.int .i64 (g : Int)] w fun e w' => e = .returned (.tuple #[.string (jnm g), .int .i64 0]) ∧ Below w.heap.size w w' from fun w (hw : Below W.heap.size W w) => jname_ok g h1 (by omega) w (tab_below hT hw))
  have e1 : (ByteArray.mk wordJ.toArray).data.toList = wordJ := rfl
  rw [e1, hcut, htrim] at KC
  unfold wordJ at KC
  have hg0 : (g : Int) ≠ 0 := by omega
  clear hT hcut htrim hsz
  generalize hnm : jnm g = nm at *
  clear hnm
  generalize (⟨(padded 6 g).toArray⟩ : ByteArray) = pd at *
  go_enter Tryz.func101, Tryz.ntmps101
  go_wp2_with (first
    | (go_at_call 152; refine KC.out.mono ?_; rintro e w1 ⟨rfl, hw1⟩; have hw1 := hw1.symm; subst hw1)
    | (go_at_call 153; refine KA.out.mono ?_; rintro e w2 ⟨rfl, hw2⟩; have hB2 : Below W.heap.size W w2 := hw2.elim (fun h => h ▸ Below.refl _ _) (fun ⟨t, h⟩ => h ▸ Lib.bytesWorld_below _ _ _); clear hw2)
    | (go_at_call 102; refine (KN.out _ hB2).mono ?_; rintro e w3 ⟨rfl, hB3⟩; have hb3 := below_then hB2 hB3))
  go_ret
  exact ⟨rfl, hb3⟩
end Go.Proofs.YtjllkmkngjdjjaaGreatDoor
namespace Go.Proofs.YtjllkmkngjdjjaaGreatDoor
open Go.RowKit Go.Shelf
attribute [local go_sem] Oper.semAt_some
set_option maxRecDepth 100000
def strsL (ls : List (List UInt8)) : List Value := ls.map fun l => .string ⟨l.toArray⟩
theorem under_strs : Tryz.prog.underlying 95 = some (.slice 9) := by kernel_rfl
theorem info_str : (Tryz.prog.info? 9).map (fun i => (i.zero, i.size, i.bytes)) = some (some (.string ⟨#[]⟩), 1, 16) := by kernel_rfl
theorem Nearly.low2 {p : Nat} {w0 w V : World} (h : Nearly p w V) (hb : Below w0.heap.size w0 w) (hp : w0.heap.size ≤ p) : Below w0.heap.size w0 V :=
  ⟨h.os.trans hb.os, h.tape.trans hb.tape, h.output.trans hb.output, Nat.le_trans hb.size h.size, fun k hk => (h.block k (Nat.lt_of_lt_of_le hk hb.size) (by omega)).trans (hb.block k hk)⟩
/-- A function is left whose result lies in a slot, over one range. -/
theorem leaves_one_slot {F : Fence} {n : Nat} {P : Program} {fn : Func} {tmps : Array Value} {R : Ending → World → Prop} {w W : World} {D : Nat} {v : Value}
    (h1 : W.heap[D]? = some (.deferred (some []))) (hD : w.heap.size ≤ D) (hB : Below w.heap.size w W)
    (hr : ∀ W', (results fn tmps).run P W' = .ok v W') (hR : ∀ W', W.grownBy W' (some D) → Below w.heap.size w W' → R (.returned v) W') :
    LeavesInM F n P fn tmps R [{ target := .collected D, args := #[] }] .returning W := by
  refine ⟨by simp, .inl ⟨_, _, rfl, run_takeDeferred h1, ?_⟩⟩
  exact ⟨_, hr _, hR _ (grown_putObj W h1 _) (hB.trans (belowK_b (w := w) (Nat.le_refl _) W D _ _ hD h1 rfl rfl))⟩
set_option maxHeartbeats 1000000 in
theorem listed_calls (j : JT) (pd g : Nat) (ls : List (List UInt8)) (W : World) (B : Nat) (hj : j.At pd g ls W B) (hn : ls.length ≤ 100000000) (hm : ∀ m ∈ ls, m.length ≤ 100000000000000) :
    Calls Tryz.prog 46 #[.pointer (some ⟨j.p, 0, none⟩)] W fun e w' => ∃ v, e = .returned v ∧ w'.ownsRow W.heap.size 9 1 v ls.length (strsL ls) ∧ Below W.heap.size W w' := by
  have HJ := Lib.hid hj
  have HN := Lib.hid (And.intro hn hm)
  clear hj hn hm
  refine (callsIn_wide (n := 9)).1 ?_
  refine callsIn_of_wp_marks Tryz.func46 rfl trivial ?_ rfl
  simp only [Tryz.ntmps46, List.size_toArray, List.length_cons, List.length_nil, Nat.reduceAdd, Nat.reduceSub, Array.replicate_succ, Array.replicate_zero, List.push_toArray, List.append_toArray, List.nil_append, List.cons_append]
  have hfn := fun f cs bs W => eql_func_nil (P := Tryz.prog) 116 _ _ _ Tryz.underlying116 f cs bs W
  have M1 := Lib.hid trivial
  gi_wp2_with (first
    | (refine ⟨trivial, ?_⟩; gi_at_call 112; clear M1; have hk1 := new_cell W (.slice none 0 0) 95; have hf1 := new_frozen W #[.slice none 0 0] 95 0; refine (callsIn_wide.2 (jall_calls _ ⟨_, rfl⟩ _)).mono ?_; rintro e w2 ⟨rfl, hB2, -⟩; have hk2 := cell_below hB2 hk1; have hf2 := frozen_below hB2 hk1 hf1)
    | (refine ⟨trivial, ?_⟩; gi_at_call 112; refine (callsIn_wide.2 (jall_calls _ ⟨_, rfl⟩ _)).mono ?_; rintro e w3 ⟨rfl, hB3, k0⟩; have hk3 := cell_below hB3 hk2; have hf3 := frozen_below hB3 hk2 hf2))
  have hb13 := below_then hB2 hB3
  have hb3 : Below W.heap.size W w3 := below_then (below_alloc1 W _) hb13
  have hz3 : W.heap.size < w3.heap.size := World.block_lt_of_cell? _ _ hk3
  have HJ3 := Lib.hid (show ∀ V, Nearly W.heap.size w3 V → j.At pd g ls V B from fun V hV => (HJ.out.below hb3).kept fun k hk => hV.block k (Nat.lt_of_lt_of_le (HJ.out.lt hk) hb3.size) (fun e => by have := HJ.out.lt hk; omega))
  have hw2 : w2.heap.size ≠ W.heap.size := by have : W.heap.size < w2.heap.size := World.block_lt_of_cell? _ _ hk2; omega
  have hit := jall_iter 8 (by omega) w2.heap.size j pd g ls B HN.out.1 HN.out.2
  have HB3 := Lib.hid hb3
  clear hk1 hf1 hB2 hk2 hf2 hB3 hb13 hb3
  generalize w2.heap.size = b3 at *
  refine wpIn_rangeR (by rfl) (by omega) (gf := 167) (lb := #[.pointer (some ⟨b3, 0, none⟩)]) (by rfl) trivial (enters_of Tryz.func167 (by kernel_rfl) rfl)
    hit HandJ.steady (by rintro x args W0 W1 ⟨v, h, -⟩; rw [h]; rfl)
    (fun M (pre : List (Nat × List UInt8)) V => SAt 9 w3 W.heap.size M (strsL (pre.map (fun x : Nat × List UInt8 => x.2))) V) (fun _ _ _ => False)
    (fun M s X Y row (h : SAt 9 w3 W.heap.size M (strsL (s.map (fun x : Nat × List UInt8 => x.2))) X) hg hr => SAt.turn h hg hr) (fun M s X Y row h hg hr => h)
    (fun V hV => ⟨cell_below hV k0, HJ3.out V (Nearly.of_below hV)⟩)
    (fun M pre V hI => ⟨hI.near.cell k0 hw2, HJ3.out V hI.near⟩)
    (fun V hV => ⟨⟨_, cell_below hV hk3, World.ownsRow_nil _ _ _ _⟩, frozen_below hV hk3 hf3, Nearly.of_below hV, hV.size⟩) ?round ?done ?stop
  case round =>
    rintro lp ⟨i, m⟩ args W0 W1 hs0 hb ⟨v, rfl, hv⟩
    obtain ⟨Av, cv, rfl, -, -, -⟩ := hv.form
    gi_wp2
    refine ⟨Below.refl _ _, fun _ _ => True, trivial, fun _ _ _ _ _ _ _ _ _ => trivial, ?_⟩
    clear hb hv hs0
    intro l' M pre rest V0 V2 hl' hsz hM hxs hI hbV hH _
    obtain ⟨v2, hv2, hob⟩ := hH
    have hv2 : Value.slice Av m.length cv = v2 := by have := congrArg (fun a : Array Value => a[1]?) hv2; simpa using this
    subst hv2
    have hL := hI.below hbV
    obtain ⟨vl, hvl, hol⟩ := hL.vl
    have hvf := hL.fr
    obtain ⟨Al, cl, rfl, l1, l2, -⟩ := owns_form hol
    have hcv := str_u8 hob.bs
    have hpl : pre.length < ls.length := by have := congrArg List.length hxs; simp at this; omega
    have hsl : (strsL (pre.map (·.2))).length = pre.length := by simp [strsL]
    have hes : strsL ((pre ++ [(i, m)]).map (·.2)) = strsL (pre.map (·.2)) ++ [.string ⟨m.toArray⟩] := by simp [strsL]
    have HES := Lib.hid hes
    have HL := Lib.hid hL
    have HOL := Lib.hid hol
    have hMV := Nat.le_trans hM hbV.size
    have hnum : (pre.length + 1 + (pre.length + 1) / 4 + 192) * 16 ≤ 281474976710656 := by have := HN.out.1; omega
    rw [hsl] at hvl hol
    have hbw := below_alloc1 V2 (.cells #[.string ⟨m.toArray⟩] 9)
    have hblV : W.heap.size < (V2.alloc (.cells #[.string ⟨m.toArray⟩] 9)).heap.size := by have := hL.near.size; simp only [World.size_alloc]; omega
    have hblo : some W.heap.size ≠ (Value.slice Al pre.length cl).ownBlock := fun e => by have := owns_ge hol W.heap.size e.symm; have := hL.big; omega
    have HO := Lib.hid hol
    have HNUM := Lib.hid (And.intro hnum hMV)
    clear hxs hI hL hes hob hbV hM hsz hl' hpl hol hnum hMV
    gi_wp2_with (first
      | (gi_at_builtin; refine wpListIn_app_row rfl _ _ 95 9 rfl under_strs info_str rfl (by omega) M (.slice Al pre.length cl) rfl pre.length (strsL (pre.map (·.2))) HO.out (.string ⟨m.toArray⟩) rfl rfl HNUM.out.1 HNUM.out.2 ?_; intro vl' V4 ho4 hg4 hat4; have HO4 := Lib.hid ho4; obtain ⟨A4, c4, e4, -⟩ := owns_form ho4; subst e4; have hv4 := (cell_mods (a := ⟨W.heap.size, 0, none⟩) (hg4.block _ hblV hblo)).trans (cell_below hbw hvl); have hf4 := (frozen_mods (a := ⟨W.heap.size, 0, none⟩) (hg4.block _ hblV hblo)).trans (frozen_below hbw hvl hvf)))
    have hfin := SAt.add (us' := strsL ((pre ++ [(i, m)]).map (·.2))) (HL.out.below hbw) hz3 (Nat.le_trans HNUM.out.2 hbw.size) (cell_below hbw hvl) (by rw [hsl]; exact owns_below HO.out hbw) (by rw [HES.out, List.length_append, hsl]; exact HO4.out) hg4
    exact ⟨KeepsFrom.trans' (KeepsFrom.below _ hbw) hfin.2.2, (SameB.below _ hbw HNUM.out.2).trans hfin.2.1, hfin.1⟩
  case done =>
    rintro D M W0 V hD hsz hI hb hK
    have hL := hI.below hb
    have hzl : strsL (((List.range ls.length).zip ls).map (·.2)) = strsL ls := by rw [List.map_snd_zip (by simp)]
    rw [hzl] at hL
    obtain ⟨vl, hvl, hol⟩ := hL.vl
    have hbig := hL.big
    obtain ⟨Al, cl, rfl, l1, l2, -⟩ := owns_form hol
    have hsl : (strsL ls).length = ls.length := by simp [strsL]
    have HL := Lib.hid hL
    have HOL := Lib.hid hol
    clear hI hb hL hol hit
    gi_wp2
    have hbw : Below W.heap.size W V := HL.out.near.low2 HB3.out (Nat.le_refl _)
    refine leaves_one_slot (w := W) (v := .slice Al ls.length cl) hK (by omega) hbw (fun W' => by simp [results, Tryz.f46]) (fun W' hg hb => ⟨_, rfl, ?_, hb⟩)
    have := owns_low (turn_owns hg (fun r e => by cases e; exact ⟨_, hK, rfl⟩) HOL.out) (B' := W.heap.size) (by omega)
    rw [hsl] at this
    exact this
  case stop => rintro D M c W0 V hD hsz hI; exact hI.elim
end Go.Proofs.YtjllkmkngjdjjaaGreatDoor
namespace Go.Proofs.YtjllkmkngjdjjaaGreatDoor
open Go.RowKit Go.Shelf
set_option maxRecDepth 100000
theorem strsL_at {ls : List (List UInt8)} {k : Nat} (h : k < ls.length) : (strsL ls)[k]? = some (.string ⟨ls[k].toArray⟩) := by simp [strsL, h]
set_option maxHeartbeats 1000000 in
theorem same_calls (u v : Value) (a b : List (List UInt8)) (w : World) (hu : Row w u a.length (strsL a)) (hv : Row w v b.length (strsL b)) :
    Calls Tryz.prog 48 #[u, v] w fun e w' => e = .returned (.bool (decide (a = b))) ∧ Below w.heap.size w w' := by
  have HU := Lib.hid hu
  have HV := Lib.hid hv
  obtain ⟨A, c, rfl, a1, a2, -, -⟩ := hu
  obtain ⟨A2, c2, rfl, b1, b2, -, -⟩ := hv
  unfold maxLen at a2 b2
  by_cases hl : a.length = b.length
  · have g1 : ((a.length : Int) != (b.length : Int)) = false := by rw [hl]; simp
    have HL := Lib.hid hl
    clear hl
    go_enter Tryz.func48, Tryz.ntmps48
    go_wp2
    go_loopw [5] (fun i wr => ∃ k : Nat, k ≤ a.length ∧ i = .int .i64 (k : Int) ∧ a.take k = b.take k ∧ Below w.heap.size w wr) (fun i _ => a.length - (intOf i).toNat)
    case atStart => exact ⟨0, by omega, rfl, by simp, Below.refl _ _⟩
    case round =>
      obtain ⟨k, hk, rfl, heq, hb⟩ := hrel
      have HEQ := Lib.hid heq
      clear heq g1
      by_cases hlt : k < a.length
      · obtain ⟨ad, hA, hcell⟩ := (HU.out.below hb).at_ k (strsL_at hlt)
        have hlb : k < b.length := by have := HL.out; omega
        obtain ⟨ad2, hA2, hcell2⟩ := (HV.out.below hb).at_ k (strsL_at hlb)
        subst hA hA2
        have hx := List.take_succ_eq_append_getElem hlt
        have hy := List.take_succ_eq_append_getElem hlb
        have hxy : a[k] = b[k] → a.take (k + 1) = b.take (k + 1) := fun e => by rw [hx, hy, HEQ.out, e]
        have hxn : a[k] ≠ b[k] → a ≠ b := fun e e2 => e (by subst e2; rfl)
        have HXY := Lib.hid hxy
        have HXN := Lib.hid hxn
        clear hx hy hxy hxn
        generalize a[k] = m1 at *
        generalize b[k] = m2 at *
        have hcmp : m1 = m2 ∨ m1 ≠ m2 := by by_cases h : m1 = m2; exact .inl h; exact .inr h
        rcases hcmp with hcmp | hcmp
        · have h3 := HXY.out hcmp
          subst hcmp
          go_wp2
          go_quiet (fail)
          have hBn := below_then hb (below_drewN (Below.refl wr.heap.size wr) nq)
          go_wp2
          go_roundw
          case rel => exact ⟨k + 1, by omega, by go_num, h3, hBn⟩
          case measure => simp [intOf]; omega
        · have hs : ¬ ((⟨m1.toArray⟩ : ByteArray) = ⟨m2.toArray⟩) := fun e => hcmp (by injection e with e; simpa using congrArg Array.toList e)
          have hne := HXN.out hcmp
          have hbe : (m1 == m2) = false := by simpa using hcmp
          have HNE := Lib.hid hne
          clear hne hcmp
          go_wp2
          go_quiet (fail)
          have hBn := below_then hb (below_drewN (Below.refl wr.heap.size wr) nq)
          go_wp2
          go_ret
          exact ⟨by rw [decide_eq_false HNE.out]; rfl, hBn⟩
      · have hkn : k = a.length := by omega
        subst hkn
        have hab : a = b := by
          have h := HEQ.out
          rw [List.take_length, HL.out, List.take_length] at h
          exact h
        have HAB := Lib.hid hab
        clear hab
        go_wp2
        go_ret
        exact ⟨by rw [decide_eq_true HAB.out]; rfl, hb⟩
  · have hne : ¬ a = b := fun e => hl (by rw [e])
    rw [decide_eq_false hne]
    have g1 : ((a.length : Int) != (b.length : Int)) = true := by simp; omega
    go_enter Tryz.func48, Tryz.ntmps48
    go_wp2
    go_ret
    exact ⟨rfl, Below.refl _ _⟩
end Go.Proofs.YtjllkmkngjdjjaaGreatDoor
