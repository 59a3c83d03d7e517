/- WALKS of disk.Cut, disk.Remove. No statement of the seed is proved here. LAWS OF MY OWN for a walk: a store or a load whose run is known; two results of which the first lies in a block. No statement of the seed is proved here. A DISK's HISTORY: its files are what its raw writes make; disk.After. No statement of the seed is proved here. THE LAW OF A RANGE OVER A FUNCTION once more, a round's assignment and its body in one walk. No statement of the seed is proved here. -/
import Derived.Test.YtjllkmkngjdjjaaGreatDoorDskH
import Derived.Test.YtjllkmkngjdjjaaGreatDoorUptoB
import Derived.Deep.WholeRow
import Derived.Deep.MidRow
import Derived.WalkLawsBesides
import Derived.Test.YtjllkmkngjdjjaaGreatDoorPair
namespace Go.Proofs.YtjllkmkngjdjjaaGreatDoor
open Go.RowKit
set_option maxRecDepth 100000
def dRemove (s : DSt) (n : ByteArray) : Int × DSt := if dWrong s n true = 0 then (0, s.run (rRemove n)) else (dWrong s n true, s)
def dCut (s : DSt) (n : ByteArray) (q : Int) : Int × DSt :=
  if dWrong s n true = 0 then (if q < 0 ∨ (((s.fs n).getD []).length : Int) < q then (2, s) else if q < (((s.fs n).getD []).length : Int) then (0, s.run (rCut n q.toNat)) else (0, s)) else (dWrong s n true, s)
theorem dremove_calls (x : DT) (s : DSt) (n : ByteArray) (W : World) (B : Nat) (hx : x.At s W B) (hB : B ≤ W.heap.size) (hr : s.raws.length + 1 ≤ 1000000000000) :
    Calls Tryz.prog 73 #[.pointer (some ⟨x.p, 0, none⟩), .string n] W fun e w' => e = .returned (.int .i64 (dRemove s n).1) ∧ ∃ y : DT, y.At (dRemove s n).2 w' B ∧ DStep x W y w' := by
  have K := Lib.hid (dwrong_calls x s W B hx n true)
  unfold dRemove
  by_cases h0 : dWrong s n true = 0
  · rw [if_pos h0]
    rw [h0] at K
    have KD := Lib.hid (do_remove x s n none 0 W B hx hB (OwnB.nil _ _) (fun k hk => by cases hk) (wrong_name h0).2.2 hr)
    clear hx h0
    go_enter Tryz.func73, Tryz.ntmps73
    go_wp2_with (first
      | (go_at_call 139; refine K.out.mono ?_; rintro e w1 ⟨rfl, rfl⟩)
      | (go_at_call 69; refine KD.out.mono ?_; rintro e w2 ⟨rfl, y, hy, hs⟩))
    go_ret
    exact ⟨rfl, y, hy, hs⟩
  · rw [if_neg h0]
    have hne : (dWrong s n true == 0) = false := by simpa using h0
    generalize dWrong s n true = c at *
    go_enter Tryz.func73, Tryz.ntmps73
    go_wp2_with (first
      | (go_at_call 139; refine K.out.mono ?_; rintro e w1 ⟨rfl, rfl⟩))
    go_ret
    exact ⟨rfl, x, hx, DStep.of_below (Below.refl _ _)⟩
theorem cut_tests {q : Int} {n : Nat} : (q < 0 ∨ (n : Int) < q) ∨ (∃ k : Nat, q = (k : Int) ∧ k < n ∧ decide (q < 0) = false ∧ decide ((n : Int) < q) = false ∧ decide (q < (n : Int)) = true) ∨ (q = (n : Int) ∧ decide (q < 0) = false ∧ decide ((n : Int) < q) = false ∧ decide (q < (n : Int)) = false) := by
  by_cases h1 : q < 0 ∨ (n : Int) < q
  · exact .inl h1
  · by_cases h2 : q < (n : Int)
    · exact .inr (.inl ⟨q.toNat, by omega, by omega, by rw [decide_eq_false_iff_not]; omega, by rw [decide_eq_false_iff_not]; omega, by rw [decide_eq_true_iff]; omega⟩)
    · exact .inr (.inr ⟨by omega, by rw [decide_eq_false_iff_not]; omega, by rw [decide_eq_false_iff_not]; omega, by rw [decide_eq_false_iff_not]; omega⟩)
theorem dcut_calls (x : DT) (s : DSt) (n : ByteArray) (q : Int) (W : World) (B : Nat) (hx : x.At s W B) (hB : B ≤ W.heap.size) (hr : s.raws.length + 1 ≤ 1000000000000) (hfew : ∀ l, s.fs n = some l → l.length ≤ 100000000000000) :
    Calls Tryz.prog 76 #[.pointer (some ⟨x.p, 0, none⟩), .string n, .int .i64 q] W fun e w' => e = .returned (.int .i64 (dCut s n q).1) ∧ ∃ y : DT, y.At (dCut s n q).2 w' B ∧ DStep x W y w' := by
  have K := Lib.hid (dwrong_calls x s W B hx n true)
  unfold dCut
  by_cases h0 : dWrong s n true = 0
  · rw [if_pos h0]
    rw [h0] at K
    obtain ⟨l, hn⟩ := wrong_there h0
    have hnm := (wrong_name h0).2.2
    obtain ⟨vf, hvf, hof⟩ := hx.vals.at_ hn
    obtain ⟨Af, cf, evf, f1, f2, f3⟩ := hof.form
    subst evf
    have hlk := hx.map.look under_files (zero_bs W) n (by unfold maxLen; omega)
    rw [hvf] at hlk
    simp only [Option.getD_some] at hlk
    have c1 := hx.c1
    rw [hn]
    simp only [Option.getD_some]
    have hll := hfew l hn
    rcases cut_tests (q := q) (n := l.length) with h1 | ⟨k, rfl, hk, g1, g2, g3⟩ | ⟨rfl, g1, g2, g3⟩
    · rw [if_pos h1]
      have HX := Lib.hid hx
      clear hx h0 hn hvf hof
      by_cases h2 : q < 0
      · have g1 : decide (q < 0) = true := by rw [decide_eq_true_iff]; exact h2
        go_enter Tryz.func76, Tryz.ntmps76
        go_wp2_with (first | (go_at_call 139; refine K.out.mono ?_; rintro e w1 ⟨rfl, rfl⟩))
        go_ret
        exact ⟨rfl, x, HX.out, DStep.of_below (Below.refl _ _)⟩
      · have g1 : decide (q < 0) = false := by rw [decide_eq_false_iff_not]; exact h2
        have g2 : decide ((l.length : Int) < q) = true := by rw [decide_eq_true_iff]; omega
        clear h1 h2
        go_enter Tryz.func76, Tryz.ntmps76
        go_wp2_with (first | (go_at_call 139; refine K.out.mono ?_; rintro e w1 ⟨rfl, rfl⟩))
        go_ret
        exact ⟨rfl, x, HX.out, DStep.of_below (Below.refl _ _)⟩
    · rw [if_neg (by omega), if_pos (by omega), Int.toNat_natCast]
      have KD := Lib.hid (do_cut x s n l k none 0 W B hx hB (OwnB.nil _ _) (fun k hk => by cases hk) hn hnm (by omega) hll hr)
      have g4 : decide (l.length < k) = false := by rw [decide_eq_false_iff_not]; omega
      have g5 : decide (k < l.length) = true := by rw [decide_eq_true_iff]; exact hk
      clear hx h0 hn hvf hof hk
      go_enter Tryz.func76, Tryz.ntmps76
      go_wp2_with (first
        | (go_at_call 139; refine K.out.mono ?_; rintro e w1 ⟨rfl, rfl⟩)
        | (go_at_call 69; refine KD.out.mono ?_; rintro e w2 ⟨rfl, y, hy, hs⟩))
      go_ret
      exact ⟨rfl, y, hy, hs⟩
    · rw [if_neg (by omega), if_neg (by omega)]
      have HX := Lib.hid hx
      clear hx h0 hn hvf hof
      go_enter Tryz.func76, Tryz.ntmps76
      go_wp2_with (first | (go_at_call 139; refine K.out.mono ?_; rintro e w1 ⟨rfl, rfl⟩))
      go_ret
      exact ⟨rfl, x, HX.out, DStep.of_below (Below.refl _ _)⟩
  · rw [if_neg h0]
    have hne : (dWrong s n true == 0) = false := by simpa using h0
    generalize dWrong s n true = c at *
    go_enter Tryz.func76, Tryz.ntmps76
    go_wp2_with (first
      | (go_at_call 139; refine K.out.mono ?_; rintro e w1 ⟨rfl, rfl⟩))
    go_ret
    exact ⟨rfl, x, hx, DStep.of_below (Below.refl _ _)⟩
end Go.Proofs.YtjllkmkngjdjjaaGreatDoor
namespace Go.Proofs.YtjllkmkngjdjjaaGreatDoor
open Go.RowKit
theorem wpList_store_run {P : Program} {ops : Array Oper} {rest : List Oper} {op : Oper} {a : Act} {w : World} {Q : Exit → Act → World → Prop} (hgd : op.guard = none) (ty : TypeId) (x y : Operand) (ho : op.op = .store ty x y)
    (p v : Value) (hx : a.eval x = p) (hy : a.eval y = v) (w' : World) (hr : (Instr.storeAt ty p v).run P w = .ok () w') (h : wpList P ops Q rest (a.put op.dst undef) w') : wpList P ops Q (op :: rest) a w := by
  refine wpList_plain hgd fun K hK => ?_
  unfold Oper.wp execOp
  simp only [ho, hx, hy, Sem.run_bind, Sem.run_pure, hr, Result.andThen_ok]
  exact hK _ _ h
theorem wpList_load_run {P : Program} {ops : Array Oper} {rest : List Oper} {op : Oper} {a : Act} {w : World} {Q : Exit → Act → World → Prop} (hgd : op.guard = none) (ty : TypeId) (x : Operand) (ho : op.op = .load ty x)
    (p v : Value) (hx : a.eval x = p) (hr : (Instr.loadAt ty p).run P w = .ok v w) (h : wpList P ops Q rest (a.put op.dst v) w) : wpList P ops Q (op :: rest) a w := by
  refine wpList_plain hgd fun K hK => ?_
  unfold Oper.wp execOp
  simp only [ho, hx, Sem.run_bind, Sem.run_pure, hr, Result.andThen_ok]
  exact hK _ _ h
theorem wp_load_run {P : Program} {op : Oper} {a : Act} {w : World} {K : Act → World → Prop} {Q : Exit → Act → World → Prop} (ty : TypeId) (x : Operand) (ho : op.op = .load ty x)
    (p v : Value) (hx : a.eval x = p) (hr : (Instr.loadAt ty p).run P w = .ok v w) (h : K (a.put op.dst v) w) : op.wp P a w K Q := by
  unfold Oper.wp execOp
  simp only [ho, hx, Sem.run_bind, Sem.run_pure, hr, Result.andThen_ok]
  exact h
theorem wpList_load_want {P : Program} {ops : Array Oper} {rest : List Oper} {op : Oper} {a : Act} {w : World} {Q : Exit → Act → World → Prop} (hw : Region.wanted op (yielded ops a.tmps) = true) (ty : TypeId) (x : Operand) (ho : op.op = .load ty x)
    (p v : Value) (hx : a.eval x = p) (hr : (Instr.loadAt ty p).run P w = .ok v w) (h : wpList P ops Q rest (a.put op.dst v) w) : wpList P ops Q (op :: rest) a w :=
  wpList_step fun _ hK => by rw [if_pos hw]; exact wp_load_run ty x ho p v hx hr (hK _ _ h)
theorem results_cell_tmp {P : Program} {fn : Func} {p q : Tmp} {ty : TypeId} (h : fn.results = #[.cell p ty, .tmp q]) (tmps : Array Value) (w : World) (g : Nat) (t : TypeId) (cs : Array Value) (fr : Nat × Nat) (d : TypeDesc)
    (hp : tmps.getD p undef = .pointer (some ⟨g, 0, none⟩)) (hg : w.heap[g]? = some (.cells cs t fr))
    (hu : P.underlying ty = some d) (hd : (match d with | .struct _ | .array _ _ => true | _ => false) = true) (hi : (P.info? ty).map (·.size) = some cs.size) :
    (results fn tmps).run P w = .ok (.tuple #[.agg cs, tmps.getD q undef]) w := by
  have hp' : tmps[p]?.getD undef = .pointer (some ⟨g, 0, none⟩) := by simpa using hp
  simp [results, h, hp', asAddr, run_loadVar_row w g t ty cs fr d hg hu hd hi]
end Go.Proofs.YtjllkmkngjdjjaaGreatDoor
namespace Go.Proofs.YtjllkmkngjdjjaaGreatDoor
open Go.RowKit Go.Shelf
set_option maxRecDepth 100000
/-- A raw write may come. -/
inductive RawStep (fs : Fs) : RawD → Prop
  | create (n : ByteArray) : RawStep fs (rCreate n)
  | append (n : ByteArray) (b l : List UInt8) (h : fs n = some l) (hl : l.length + b.length ≤ 100000000000000) : RawStep fs (rAppend n b)
  | cut (n : ByteArray) (q : Nat) (l : List UInt8) (h : fs n = some l) (hq : q ≤ l.length) (hl : l.length ≤ 100000000000000) : RawStep fs (rCut n q)
  | remove (n : ByteArray) : RawStep fs (rRemove n)
/-- The files are what the raw writes make out of none. -/
structure Hist (s : DSt) : Prop where
  steps : ∀ (i : Nat) (hi : i < s.raws.length), RawStep ((emptyD s.sec).runs (s.raws.take i)).fs s.raws[i]
  fs : ((emptyD s.sec).runs s.raws).fs = s.fs
theorem Hist.empty (sec : Nat) : Hist (emptyD sec) := ⟨fun i hi => by simp [emptyD] at hi, rfl⟩
theorem runs_snoc (s : DSt) (l : List RawD) (r : RawD) : s.runs (l ++ [r]) = (s.runs l).run r := by rw [DSt.runs_append]; rfl
theorem run_fs_of {s t : DSt} (h : s.fs = t.fs) (r : RawD) : (s.run r).fs = (t.run r).fs := by simp only [DSt.run, h]
theorem Hist.run {s : DSt} (h : Hist s) {r : RawD} (hr : RawStep s.fs r) : Hist (s.run r) := by
  have e : (s.run r).raws = s.raws ++ [r] := rfl
  have es : (s.run r).sec = s.sec := rfl
  refine ⟨fun i hi => ?_, ?_⟩
  · rw [es]
    rw [e, List.length_append, List.length_singleton] at hi
    simp only [e]
    by_cases hlt : i < s.raws.length
    · rw [List.take_append_of_le_length (by omega), List.getElem_append_left hlt]
      exact h.steps i hlt
    · have hi2 : i = s.raws.length := by omega
      subst hi2
      rw [List.take_append_of_le_length (Nat.le_refl _), List.take_length, List.getElem_append_right (Nat.le_refl _)]
      simp only [Nat.sub_self, List.getElem_cons_zero]
      rw [h.fs]
      exact hr
  · rw [es, e, runs_snoc]
    exact run_fs_of h.fs r
theorem Hist.create {s : DSt} (h : Hist s) (n : ByteArray) : Hist (s.run (rCreate n)) := h.run (.create n)
theorem Hist.pieces {n : ByteArray} : ∀ (cs : List (List UInt8)) {s : DSt} (_ : Hist s) {l : List UInt8} (_ : s.fs n = some l) (_ : l.length + cs.flatten.length ≤ 100000000000000), Hist (s.runs (cs.map (rAppend n)))
  | [], s, h, l, hl, hb => h
  | c :: cs, s, h, l, hl, hb => by
    rw [List.flatten_cons, List.length_append] at hb
    rw [List.map_cons, DSt.runs_cons]
    refine Hist.pieces cs (h.run (.append n c l hl (by omega))) (l := l ++ c) ?_ (by rw [List.length_append]; omega)
    rw [run_append, upd_same, hl]
    rfl
theorem Hist.append {s : DSt} (h : Hist s) (hs : 0 < s.sec) {n : ByteArray} {l b : List UInt8} (hl : s.fs n = some l) (hb : l.length + b.length ≤ 100000000000000) : Hist (s.runs (appR s n b)) := by
  refine h.pieces _ hl ?_
  rw [chunks_flat hs _ _ _ (Nat.le_refl _)]
  exact hb
theorem Hist.take {s : DSt} (h : Hist s) (k : Nat) : Hist ((emptyD s.sec).runs (s.raws.take k)) := by
  have e : ((emptyD s.sec).runs (s.raws.take k)).raws = s.raws.take k := by rw [DSt.runs_raws]; rfl
  have es : ((emptyD s.sec).runs (s.raws.take k)).sec = s.sec := by rw [DSt.runs_sec]; rfl
  refine ⟨fun i hi => ?_, by rw [es, e]⟩
  rw [es]
  rw [e, List.length_take] at hi
  simp only [e]
  rw [List.take_take, Nat.min_eq_left (by omega), List.getElem_take]
  exact h.steps i (by omega)
/-- A raw write is done, whatever it is. -/
theorem do_any (x : DT) (s : DSt) (r : RawD) (A : Option Addr) (c : Nat) (W : World) (B : Nat) (hx : x.At s W B) (hB : B ≤ W.heap.size) (hr : RawStep s.fs r) (hnm : r.name.size ≤ 128) (hvb : OwnB W B (.slice A r.bytes.length c) r.bytes) (hap : ∀ k, (Value.slice A r.bytes.length c).ownBlock = some k → ¬ x.Mut k) (hn : s.raws.length + 1 ≤ 1000000000000) :
    Calls Tryz.prog 69 #[.pointer (some ⟨x.p, 0, none⟩), .agg (rawL r (.slice A r.bytes.length c)).toArray] W fun e w' => e = .returned (.tuple #[]) ∧ ∃ y : DT, y.At (s.run r) w' B ∧ DStepV (.slice A r.bytes.length c) x W y w' := by
  cases hr with
  | create n => exact do_create x s n A c W B hx hB hvb hap hnm hn
  | append n b l h hl => exact do_append x s n l b A c W B hx hB h hnm hvb hap hl hn
  | cut n q l h hq hl => exact do_cut x s n l q A c W B hx hB hvb hap h hnm hq hl hn
  | remove n => exact do_remove x s n A c W B hx hB hvb hap hnm hn
/-- The head of a slice. -/
theorem slice_head {t e : TypeId} (ht : Tryz.prog.underlying t = some (.slice e)) (hi : (Tryz.prog.info? e).isSome = true) (A : Option Addr) (len c k : Nat) (hk : k ≤ c) (W : World) : (Instr.slice t (.slice A len c) none (some (.int .i64 (k : Int))) none).run Tryz.prog W = .ok (.slice A k c) W := by
  have hel : Tryz.prog.elem t = e := by simp [Program.elem, ht]
  have hu : Tryz.prog.underlying t = some (.slice (Tryz.prog.elem t)) := by rw [hel]; exact ht
  obtain ⟨i0, hi0⟩ := Option.isSome_iff_exists.1 hi
  rw [run_slice_h W t A len c hu .i64 k (by omega) (by omega)]
  have e1 : ((k : Int)).toNat = k := by omega
  have e2 : (A.map fun x => x.add 0) = A := by cases A <;> rfl
  rw [hel]
  simp [sizeOf, typeInfo, hi0, sliced, e1, Result.andThen, e2]
/-- Where the j-th raw write lies. -/
theorem raws_at {x : DT} {s : DSt} {W : World} {B : Nat} (hx : x.At s W B) (h0 : 0 < s.raws.length) : ∃ g cr, x.vr = .slice (some ⟨g, 0, none⟩) s.raws.length cr ∧ s.raws.length ≤ cr ∧ cr ≤ maxLen ∧ ∀ (i : Nat) (r : RawD) (u : Value), s.raws[i]? = some r → x.us[i]? = some u → W.rangeAt g (i * 5) (rawL r u) := by
  have hr := hx.raws.row
  obtain ⟨A, c, e, h1, h2, -, h3⟩ := Row.of_owns hr
  have hA : ∃ g, A = some ⟨g, 0, none⟩ := by
    obtain ⟨hl, ⟨e1, e2⟩ | ⟨g, cap, cur, ev, hb, hg, hn, hm, hs, ht⟩⟩ := hr
    · omega
    · rw [e] at ev; cases ev; exact ⟨g, rfl⟩
  obtain ⟨g, rfl⟩ := hA
  refine ⟨g, c, e, h1, h2, fun i r u hi hu j v hv => ?_⟩
  have hj : j < 5 := by have := (List.getElem?_eq_some_iff.1 hv).1; simpa [rawL] using this
  obtain ⟨ad, ea, hc⟩ := h3 (i * 5 + j) v ((rawsL_get s.raws x.us i r u j hi hu hj).trans hv)
  cases ea
  have ea : (⟨g, 0, none⟩ : Addr).add (i * 5 + j) = ⟨g, i * 5 + j, none⟩ := by unfold Addr.add; split <;> simp_all
  rw [ea] at hc
  exact hc
theorem raw_index (g n cr i : Nat) (hi : i < n) (w : World) : (Instr.indexAt 105 (.slice (some ⟨g, 0, none⟩) n cr) (.int .i64 (i : Int))).run Tryz.prog w = .ok (.pointer (some ⟨g, i * 5, none⟩)) w := by
  have hel : Tryz.prog.elem 105 = 123 := by simp [Program.elem, Tryz.underlying105]
  have e1 := run_indexAt_slice (P := Tryz.prog) (w := w) 105 ⟨g, 0, none⟩ n cr .i64 (i : Int) (by rw [hel]; exact Tryz.underlying105)
  rw [if_pos ⟨by omega, by omega⟩, hel] at e1
  obtain ⟨i0, hi0, hz⟩ := Option.map_eq_some_iff.1 size_raw
  rw [e1]
  have ea : (⟨g, 0, none⟩ : Addr).add (i * 5) = ⟨g, i * 5, none⟩ := by unfold Addr.add; split <;> simp_all
  simp [sizeOf, typeInfo, hi0, hz, Result.andThen, ea]
theorem ld_raw_at {w : World} {g o : Nat} {r : RawD} {u : Value} (h : w.rangeAt g o (rawL r u)) : (Instr.loadAt 123 (.pointer (some ⟨g, o, none⟩))).run Tryz.prog w = .ok (.agg (rawL r u).toArray) w :=
  run_loadAt_mid (P := Tryz.prog) w g o 123 (rawL r u) _ h Tryz.underlying123 rfl (by rw [size_raw]; rfl)
theorem st_raw_new (w : World) {r : RawD} {u : Value} (hu : u.oneCell' = true) (z : Array Value) (hz : z.size = 5) :
    (Instr.storeAt 123 (.pointer (some ⟨w.heap.size, 0, none⟩)) (.agg (rawL r u).toArray)).run Tryz.prog (w.alloc (.cells z 123)) = .ok () (w.alloc (.cells (rawL r u).toArray 123)) :=
  run_storeAt_new w 123 z _ (by rw [size_raw]; simp [rawL]) (by simp [rawL, hz]) (by
    rw [Array.all_eq_true]
    intro i hi
    exact rawL_one r hu _ (by simp))
theorem down_next {k n : Nat} (h : k < n) : n - (intOf (.int .i64 ((k + 1 : Nat) : Int))).toNat < n - (intOf (.int .i64 (k : Int))).toNat := by
  simp only [intOf, Int.toNat_natCast]
  omega
theorem aft_nums {j n m : Nat} (hlt : j < n) (hn : n ≤ m) (hm : m ≤ 900000000000) : wrap64 ((j : Int) + 1) = ((j + 1 : Nat) : Int) ∧ decide (j < n) = true ∧ j + 1 ≤ 1000000000000 ∧ min j m = j :=
  ⟨by unfold wrap64; omega, by rw [decide_eq_true_iff]; omega, by omega, by omega⟩
set_option maxHeartbeats 2000000 in
theorem dafter_calls (x : DT) (s : DSt) (W : World) (B : Nat) (hx : x.At s W B) (hB : B ≤ W.heap.size) (hH : Hist s) (hs : s.raws.length ≤ 900000000000) (n : Nat) (hn : n ≤ s.raws.length) :
    Calls Tryz.prog 23 #[.pointer (some ⟨x.p, 0, none⟩), .int .i64 (n : Int)] W fun e w' => ∃ y : DT, e = .returned (.tuple #[.pointer (some ⟨y.p, 0, none⟩), .int .i64 0]) ∧ y.At ((emptyD s.sec).runs (s.raws.take n)) w' B ∧ (∀ k, y.Mut k → W.heap.size ≤ k) ∧ Below W.heap.size W w' := by
  have KN := Lib.hid (dnone_calls x s W B hx)
  have KW := Lib.hid (dnew_calls s.sec hx.sec.1 hx.sec.2 W)
  have c0 := hx.c0
  have c2 := hx.c2
  obtain ⟨Ar, cr, er, r1, r2, -⟩ := owns_form hx.raws.row
  have hsl := Lib.hid (fun W => slice_head under_raws (by kernel_rfl) Ar s.raws.length cr n (by omega) W)
  rw [er] at c2
  have g1 : decide ((n : Int) < 0) = false := by rw [decide_eq_false_iff_not]; omega
  have g2 : decide ((s.raws.length : Int) < (n : Int)) = false := by rw [decide_eq_false_iff_not]; omega
  have g3 : decide (s.raws.length < n) = false := by rw [decide_eq_false_iff_not]; omega
  have HX := Lib.hid hx
  have hslo := hsl.out
  clear hx
  go_enter Tryz.func23, Tryz.ntmps23
  go_wp2_with (first
    | (go_at_call 57; refine KN.out.mono ?_; rintro e w1 ⟨rfl, rfl⟩)
    | (go_at_call 13; refine KW.out.mono ?_; rintro e w1 ⟨y, rfl, hy, hB1⟩; have d0 := cell_below hB1 c0; have d2 := cell_below hB1 c2))
  clear hslo d0 d2 KN KW c0 c2
  obtain ⟨py, hpy⟩ : ∃ p, p = y.p := ⟨_, rfl⟩
  rw [← hpy]
  have HPY := Lib.hid hpy; clear hpy
  have hl := hy.low
  go_loopw [40] (fun i wr => ∃ (j : Nat) (z : DT), j ≤ n ∧ i = .int .i64 (j : Int) ∧ z.p = py ∧ z.At ((emptyD s.sec).runs (s.raws.take j)) wr B ∧ (∀ k, z.Mut k → W.heap.size ≤ k) ∧ Below W.heap.size W wr) (fun i _ => n - (intOf i).toNat)
  case atStart => exact ⟨0, y, Nat.zero_le _, rfl, HPY.out.symm, hy.lower hB, fun k hk => hy.ge (.inl hk), hB1⟩
  case round =>
    obtain ⟨j, z, hj, rfl, hzp, hz, hzm, hb⟩ := hrel
    by_cases hlt : j < n
    · obtain ⟨g, cr', er', q1, q2, hrg⟩ := raws_at HX.out (by omega)
      rw [er] at er'
      cases er'
      have hjl : j < s.raws.length := by omega
      obtain ⟨u, hu⟩ : ∃ u, x.us[j]? = some u := ⟨_, List.getElem?_eq_getElem (by have := HX.out.raws.ul; omega)⟩
      have hr0 : s.raws[j]? = some s.raws[j] := List.getElem?_eq_getElem hjl
      have hob := HX.out.raws.rb j _ u hr0 hu
      have hra := range_below (hrg j _ u hr0 hu) hb
      obtain ⟨hwj, g4, hj9, hjm⟩ := aft_nums hlt hn hs
      generalize hrj : s.raws[j] = r at *
      obtain ⟨Au, cu, rfl, u1, u2, u3⟩ := hob.form
      have hst := hH.steps j hjl
      rw [hrj] at hst
      have hnm := (HX.out.raws.ok r (by rw [← hrj]; exact List.getElem_mem hjl)).1
      have htk : s.raws.take (j + 1) = s.raws.take j ++ [r] := by rw [List.take_succ_eq_append_getElem hjl, hrj]
      have hrl : ((emptyD s.sec).runs (s.raws.take j)).raws.length = j := by rw [DSt.runs_raws, show (emptyD s.sec).raws = [] from rfl, List.nil_append, List.length_take]; exact hjm
      have hld := ld_raw_at hra
      have hidx := raw_index g n cr j hlt
      have hb5 := below_alloc1 wr (.cells (rawL r (.slice Au r.bytes.length cu)).toArray 123)
      have hbx := range_box wr (rawL r (.slice Au r.bytes.length cu)) 123
      have hld2 := ld_raw_at hbx
      have hbelow := hb
      have KD_1 := do_any z _ r Au cu _ B (hz.below hb5) (Nat.le_trans hB (Nat.le_trans hb.size hb5.size)) hst hnm ((hob.below hb).below hb5) (fun k hk hm => by
        exact absurd (hzm k hm) (Nat.not_le.2 (hob.lt k hk).2)) (by rw [hrl]; exact hj9)
      rw [hzp] at KD_1
      have KD := Lib.hid KD_1
      have HTK := Lib.hid htk
      have HZ := Lib.hid (And.intro hz hzm)
      have hso : ∀ zc : Array Value, zc.size = 5 → (Instr.storeAt 123 (.pointer (some ⟨wr.heap.size, 0, none⟩)) (.agg (rawL r (.slice Au r.bytes.length cu)).toArray)).run Tryz.prog (wr.alloc (.cells zc 123)) = .ok () (wr.alloc (.cells (rawL r (.slice Au r.bytes.length cu)).toArray 123)) := fun zc hz => st_raw_new wr rfl zc hz
      have HSO := Lib.hid hso
      have HNUM := Lib.hid (And.intro hs (And.intro hn (And.intro hlt hj)))
      have HSZ := Lib.hid (And.intro hb hb5)
      clear hst hnm htk hrl hra hob hz hzm hbx hso hrg hr0 hu hrj KD_1 hs hn hlt hj hjl hj9 hjm r1 r2 q1 q2 u1 u2 u3 hB hl hbelow hb hb5
      go_wp2_with (first
        | (refine wpList_load_run rfl 123 _ rfl _ _ rfl hld ?_; simp only [Act.put, List.setIfInBounds_toArray, List.set_cons_zero, List.set_cons_succ])
        | (refine wpList_store_run rfl 123 _ _ rfl _ _ rfl rfl _ (HSO.out _ rfl) ?_; simp only [Act.put])
        | (refine wpList_load_run rfl 123 _ rfl _ _ rfl hld2 ?_; simp only [Act.put, List.setIfInBounds_toArray, List.set_cons_zero, List.set_cons_succ])
        | (go_at_call 69; refine KD.out.mono ?_; rintro e w6 ⟨rfl, z2, hz2, hs2⟩))
      obtain ⟨hs, hn, hlt, hj⟩ := HNUM.out
      obtain ⟨hb, hb5⟩ := HSZ.out
      have hz6 := hs2.size
      have hz5 := hb5.size
      refine ⟨⟨j + 1, z2, hlt, by rw [hwj], hs2.p.trans hzp, by rw [HTK.out, runs_snoc]; exact hz2, fun k hk => ?_, ?_⟩, ?_⟩
      · rcases hs2.has k hk with h | h
        · exact HZ.out.2 k h
        · exact Nat.le_trans (Nat.le_trans hb.size hz5) h
      · have hb2 := below_then hb hb5
        exact ⟨hs2.os.trans hb2.os, hs2.tape.trans hb2.tape, hs2.output.trans hb2.output, Nat.le_trans hb2.size hz6, fun k hk => (hs2.block k (Nat.lt_of_lt_of_le hk hb2.size) (fun hm => absurd (HZ.out.2 k hm) (Nat.not_le.2 hk))).trans (hb2.block k hk)⟩
      · rw [hwj]
        exact down_next hlt
    · have e : j = n := by omega
      subst e
      go_wp2
      go_ret2
      exact ⟨z, by rw [hzp]; rfl, hz, hzm, hb⟩
end Go.Proofs.YtjllkmkngjdjjaaGreatDoor
namespace Go.Proofs.YtjllkmkngjdjjaaGreatDoor
open Go.RowKit
variable {F : Fence} {n : Nat} {P : Program}
theorem grown_putObj (w : World) {l : Nat} {o : Obj} (_hl : w.heap[l]? = some o) (o' : Obj) : w.grownBy (w.putObj l o') (some l) :=
  ⟨rfl, rfl, rfl, by simp [World.putObj], fun k _ hk => World.putObj_heap_other (fun e => hk (by rw [e]))⟩
/-- What a round is handed abides new memory and the loop's book-keeping. -/
structure Steady {α : Type} (Hand : α → Array Value → World → World → Prop) : Prop where
  later : ∀ x args W0 W1 W2, Hand x args W0 W1 → Below W1.heap.size W1 W2 → Hand x args W0 W2
  turn : ∀ x args W0 W1 l o o', Hand x args W0 W1 → W0.heap[l]? = some o → W1.heap[l]? = some o → o.isCells = false → Hand x args (W0.putObj l o') (W1.putObj l o')
theorem wpIn_range2 {α : Type} {g : Operand} {ps : Array Tmp} {assign body : Code} {Q : Exit → Act → World → Prop} {a : Act} {w : World}
    (hro : F.round = none) (h1 : 1 ≤ n) {gf : Nat} {lb : Array Value} (hg : a.eval g = .func (.func gf) #[] lb) (hFg : F.fn gf) (eg : ∀ args w, (callFunc gf args).run P w = .ok (.enter gf args) w)
    {xs : List α} {Hand : α → Array Value → World → World → Prop} {R : World → Prop} (hit : Iter F (n - 1) P gf lb xs Hand R) (hH : Steady Hand)
    (hps : ∀ x args W0 W1, Hand x args W0 W1 → args.size = ps.size)
    (I : List α → World → Prop) (Ix : Code → World → Prop) (hI : OwnFrom w.heap.size I) (hIx : OwnFrom w.heap.size Ix) (hIR : ∀ pre W, I pre W → R W) (h0 : I [] w)
    (hround : ∀ (l : Nat) (x : α) (args : Array Value) (W0 W1 : World), w.heap.size ≤ W0.heap.size → Below W0.heap.size W0 W1 → Hand x args W0 W1 →
      assign.wpIn (F.inRound l) (n - 1 - 1) P (Exit.then (fun a' W2 => Below W1.heap.size W1 W2 ∧ ∀ (l' : Nat) (pre rest : List α) (V0 V2 : World), w.heap.size ≤ l' → xs = pre ++ x :: rest → I pre V0 → Below V0.heap.size V0 V2 → Hand x args V0 V2 →
        body.wpIn (F.inRound l') (n - 1 - 1) P (roundPost w.heap.size I Ix (pre ++ [x]) V2) a' V2) (fun _ _ _ => False)) { tmps := (ps.zip args).foldl (fun t (p, v) => t.setIfInBounds p v) a.tmps, defers := [] } W1)
    (hdone : ∀ (D : Nat) (W0 W : World), w.heap.size ≤ D → I xs W0 → Below W0.heap.size W0 W → W.heap[D]? = some (.deferred (some [])) → Q .normal { a with defers := { target := .collected D, args := #[] } :: a.defers } W)
    (hstop : ∀ (D : Nat) (c : Code) (W0 W : World), w.heap.size ≤ D → Ix c W0 → Below W0.heap.size W0 W → W.heap[D]? = some (.deferred (some [])) → c.wpIn F n P Q { a with defers := { target := .collected D, args := #[] } :: a.defers } W) :
    (Code.rangeFunc g ps assign body).wpIn F n P Q a w := by
  refine wpIn_range hro h1 hg hFg eg hit hps I Ix hI hIx hIR h0
    (fun x a' W0 W1 => ∃ args, Hand x args W0 W1 ∧ ∀ (l' : Nat) (pre rest : List α) (V0 V2 : World), w.heap.size ≤ l' → xs = pre ++ x :: rest → I pre V0 → Below V0.heap.size V0 V2 → Hand x args V0 V2 →
        body.wpIn (F.inRound l') (n - 1 - 1) P (roundPost w.heap.size I Ix (pre ++ [x]) V2) a' V2) ?_ ?_ ?_ hdone hstop
  · rintro x a' W0 W1 l o o' ⟨args, hh, hb⟩ h1 h2 h3
    exact ⟨args, hH.turn _ _ _ _ _ _ _ hh h1 h2 h3, hb⟩
  · intro l x args W0 W1 K hs hb hh hK
    refine wpIn_mono (hround l x args W0 W1 hs hb hh) ?_
    intro e a' W' h
    cases e with
    | normal => exact hK a' W' h.1 ⟨args, hH.later _ _ _ _ _ hh h.1, h.2⟩
    | _ => exact h
  · rintro l pre x rest a' W0 W1 hl _ hxs hi hb ⟨args, hh, hbd⟩
    exact hbd l pre rest W0 W1 hl hxs hi hb hh
theorem put_cell {W : World} {D : Nat} {cs : Option (List Deferred)} (h : W.heap[D]? = some (.deferred cs)) {a : Addr} {x : Value} (ha : W.cell? a = some x) (o : Obj) : (W.putObj D o).cell? a = some x :=
  turn_cell (grown_putObj W h o) (row := some D) (fun r e => by cases e; exact ⟨_, h, rfl⟩) ha
/-- The function leaves with two marks; its result lies in a cell. -/
theorem leaves_two_cell {fn : Func} {tmps : Array Value} {R : Ending → World → Prop} {w W : World} {D D2 : Nat} {v : Value} {a : Addr} {x : Value}
    (h1 : W.heap[D]? = some (.deferred (some []))) (h2 : W.heap[D2]? = some (.deferred (some []))) (hne : D ≠ D2) (hD : w.heap.size ≤ D) (hD2 : w.heap.size ≤ D2) (hB : Below w.heap.size w W) (ha : W.cell? a = some x)
    (hr : ∀ W', W'.cell? a = some x → (results fn tmps).run P W' = .ok v W') (hR : ∀ W', Below w.heap.size w W' → R (.returned v) W') :
    LeavesInM F n P fn tmps R [{ target := .collected D2, args := #[] }, { target := .collected D, args := #[] }] .returning W := by
  have h1' : (W.putObj D2 (.deferred Option.none)).heap[D]? = some (.deferred (some [])) := (World.putObj_heap_other hne).trans h1
  refine ⟨by simp, .inl ⟨_, _, rfl, run_takeDeferred h2, ?_⟩⟩
  refine ⟨by simp, .inl ⟨_, _, rfl, run_takeDeferred h1', ?_⟩⟩
  exact ⟨_, hr _ (put_cell h1' (put_cell h2 ha _) _), hR _ ((hB.trans (belowK_b (w := w) (Nat.le_refl _) W D2 _ _ hD2 h2 rfl rfl)).trans (belowK_b (w := w) (Nat.le_refl _) _ D _ _ hD h1' rfl rfl))⟩
/-- .. with one. -/
theorem leaves_one_cell {fn : Func} {tmps : Array Value} {R : Ending → World → Prop} {w W : World} {D : Nat} {v : Value} {a : Addr} {x : Value}
    (h1 : W.heap[D]? = some (.deferred (some []))) (hD : w.heap.size ≤ D) (hB : Below w.heap.size w W) (ha : W.cell? a = some x)
    (hr : ∀ W', W'.cell? a = some x → (results fn tmps).run P W' = .ok v W') (hR : ∀ W', Below w.heap.size w W' → R (.returned v) W') :
    LeavesInM F n P fn tmps R [{ target := .collected D, args := #[] }] .returning W := by
  refine ⟨by simp, .inl ⟨_, _, rfl, run_takeDeferred h1, ?_⟩⟩
  exact ⟨_, hr _ (put_cell h1 ha _), hR _ (hB.trans (belowK_b (w := w) (Nat.le_refl _) W D _ _ hD h1 rfl rfl))⟩
/-- Outside every round a fenced walk goes on as a plain one. -/
theorem to_plain {P : Program} {n : Nat} {c : Code} {Q : Exit → Act → World → Prop} {a : Act} {w : World} (h : c.wp P Q a w) : c.wpIn Fence.wide n P Q a w := wpIn_wide.2 h
theorem mark_set {W : World} {D : Nat} {o : Obj} (h : W.heap[D]? = some o) {a : Addr} (hne : D ≠ a.block) (u : Value) : (W.setCell a u).heap[D]? = some o := (Below.heap_setCell _ _ _ _ hne).trans h
end Go.Proofs.YtjllkmkngjdjjaaGreatDoor
