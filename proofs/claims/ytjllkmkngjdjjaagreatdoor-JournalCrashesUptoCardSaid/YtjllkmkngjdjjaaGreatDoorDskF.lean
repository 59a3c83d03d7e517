/- A SLICE's HEAD AND TAIL. No statement of the seed is proved here. WALKS of package disk: New, Create, Append. No statement of the seed is proved here. WALKS of package disk: Size, Read, Writes, Raw. No statement of the seed is proved here. -/
import Derived.Test.YtjllkmkngjdjjaaGreatDoorUptoB
import Derived.Test.YtjllkmkngjdjjaaGreatDoorDskD
namespace Go.Proofs.YtjllkmkngjdjjaaGreatDoor
open Go.RowKit
set_option maxRecDepth 100000
theorem addr_blk (ad : Addr) (j : Nat) : (ad.add j).block = ad.block := by unfold Addr.add; split <;> rfl
theorem bsHead {w : World} {A : Option Addr} {len c : Nat} {l : List UInt8} (h : Bs w (.slice A len c) l) (k : Nat) (a : Int) (ha : a = (k : Int)) (hi : k ≤ l.length) :
    (∀ W : World, (Instr.slice 35 (.slice A len c) Option.none (some (.int .i64 a)) Option.none).run Tryz.prog W = .ok (.slice A k c) W) ∧ Bs w (.slice A k c) (l.take k) := by
  subst ha
  have hq : len = l.length ∧ l.length ≤ c := by obtain ⟨A0, c0, e, h1, h2, h0, h3⟩ := h; cases e; exact ⟨rfl, h1⟩
  refine ⟨fun W => ?_, ?_⟩
  · have hel : Tryz.prog.elem 35 = 5 := by simp [Program.elem, Tryz.underlying35]
    have hu : Tryz.prog.underlying 35 = some (.slice (Tryz.prog.elem 35)) := by rw [hel]; exact Tryz.underlying35
    rw [run_slice_h W 35 A len c hu .i64 k (by omega) (by omega)]
    have e1 : ((k : Int)).toNat = k := by omega
    have e2 : (A.map fun x => x.add 0) = A := by cases A <;> rfl
    rw [hel]
    simp [sliced, e1, Result.andThen, e2]
  · refine Bs.pre (m := l.drop k) (n := len) ?_ (by simp; omega)
    rw [List.take_append_drop]
    exact h
theorem bsTail {w0 : World} {A : Option Addr} {len c : Nat} {l : List UInt8} (h0 : Bs w0 (.slice A len c) l) (k : Nat) (a : Int) (ha : a = (k : Int)) (hi : k ≤ l.length) :
    ∃ A' c', (∀ W : World, (Instr.slice 35 (.slice A len c) (some (.int .i64 a)) Option.none Option.none).run Tryz.prog W = .ok (.slice A' (len - k) c') W) ∧
      (∀ w, Bs w (.slice A len c) l → Bs w (.slice A' (len - k) c') (l.drop k)) ∧ (∀ ad, A' = some ad → ∃ ad0, A = some ad0 ∧ ad0.block = ad.block) := by
  subst ha
  have hcl : len = l.length ∧ l.length ≤ c := by obtain ⟨A0, c0, e, h1, h2, h0, h3⟩ := h0; cases e; exact ⟨rfl, h1⟩
  refine ⟨if c = k then A else A.map (·.add k), c - k, fun W => ?_, fun w h => ?_, fun ad e => ?_⟩
  · have hel : Tryz.prog.elem 35 = 5 := by simp [Program.elem, Tryz.underlying35]
    have hu : Tryz.prog.underlying 35 = some (.slice (Tryz.prog.elem 35)) := by rw [hel]; exact Tryz.underlying35
    rw [run_slice_l (ht := hu) (h0 := by omega) (h1 := by omega), hel]
    obtain ⟨i0, hi0, hz, hsz, hby⟩ := info_parts info_u8
    simp [sizeOf, typeInfo, hi0, hsz, sliced, Result.andThen]
  · obtain ⟨A0, c0, e, h1, h2, h0, h3⟩ := h
    cases e
    have hlen : (l.drop k).length = l.length - k := by simp
    refine ⟨_, _, by rw [hlen], by rw [hlen]; omega, by omega, ?_, ?_⟩
    · intro hA
      cases A with
      | none => have := h0 rfl; omega
      | some ad => split at hA <;> cases hA
    · intro j u hj
      have hju : (u8s l)[k + j]? = some u := by
        rw [← hj]
        simp only [u8s, List.getElem?_map]
        rw [List.getElem?_drop]
      have hlt : k + j < l.length := by have := (List.getElem?_eq_some_iff.1 hju).1; rwa [u8s_length] at this
      obtain ⟨ad, hA, hc⟩ := h3 (k + j) u hju
      subst hA
      rw [if_neg (by omega)]
      exact ⟨ad.add k, rfl, by rw [add_add]; exact hc⟩
  · cases A with
    | none => split at e <;> cases e
    | some ad0 =>
      refine ⟨ad0, rfl, ?_⟩
      split at e
      · cases e; rfl
      · cases e; exact (addr_blk _ _).symm
end Go.Proofs.YtjllkmkngjdjjaaGreatDoor
namespace Go.Proofs.YtjllkmkngjdjjaaGreatDoor
open Go.RowKit
set_option maxRecDepth 100000
def dCreate (s : DSt) (n : ByteArray) : Int × DSt := if dWrong s n false = 0 then (0, s.run (rCreate n)) else (dWrong s n false, s)
def dAppend (s : DSt) (n : ByteArray) (b : List UInt8) : Int × DSt := if dWrong s n true = 0 then (0, s.runs (appR s n b)) else (dWrong s n true, s)
theorem wrong_name {s : DSt} {n : ByteArray} {t : Bool} (h : dWrong s n t = 0) : nameOk n = true ∧ 1 ≤ n.size ∧ n.size ≤ 128 := by
  unfold dWrong at h
  cases hn : nameOk n with
  | false => rw [if_pos hn] at h; cases h
  | true => exact ⟨rfl, by simp [nameOk] at hn; omega⟩
theorem wrong_there {s : DSt} {n : ByteArray} (h : dWrong s n true = 0) : ∃ l, s.fs n = some l := by
  have h0 := wrong_name h
  unfold dWrong at h
  rw [if_neg (by rw [h0.1]; simp)] at h
  cases hf : s.fs n with
  | none => rw [hf] at h; cases h
  | some l => exact ⟨l, rfl⟩
theorem dnew_calls (sec : Nat) (h1 : 1 ≤ sec) (h2 : sec ≤ 4096) (w : World) : Calls Tryz.prog 13 #[.int .i64 (sec : Int)] w fun e w' => ∃ x : DT, e = .returned (.tuple #[.pointer (some ⟨x.p, 0, none⟩), .int .i64 0]) ∧ x.At (emptyD sec) w' w.heap.size ∧ Below w.heap.size w w' := by
  have b0 := below_alloc1 w (.map #[] 0)
  have b1 := below_alloc1 (w.alloc (.map #[] 0)) (.cells #[.int .i64 (sec : Int), .map (some w.heap.size), .slice none 0 0] 107)
  have hm := (MapAt.made w).kept (b1.block w.heap.size (by simp))
  have hn := heap_alloc_new (w.alloc (.map #[] 0)) (.cells #[.int .i64 (sec : Int), .map (some w.heap.size), .slice none 0 0] 107)
  rw [World.size_alloc] at hn
  have hf := new_frozen (w.alloc (.map #[] 0)) #[.int .i64 (sec : Int), .map (some w.heap.size), .slice none 0 0] 107 2
  rw [World.size_alloc] at hf
  have hx : (DT.mk (w.heap.size + 1) w.heap.size (.slice none 0 0) (fun _ => none) []).At (emptyD sec) ((w.alloc (.map #[] 0)).alloc (.cells #[.int .i64 (sec : Int), .map (some w.heap.size), .slice none 0 0] 107)) w.heap.size :=
    ⟨Nat.le_succ _, Nat.le_refl _, cell_of_row _ (w.heap.size + 1) 0 _ _ (0, 0) hn, cell_of_row _ (w.heap.size + 1) 1 _ _ (0, 0) hn, cell_of_row _ (w.heap.size + 1) 2 _ _ (0, 0) hn, hf, ⟨h1, h2⟩, hm, ⟨fun _ => rfl, fun n v l h => (by cases h), fun n m v u h => (by cases h)⟩,
      RawsAt.nil _ _, by simp, ⟨fun e => (by cases e), fun e => (by cases e)⟩, fun n v h => (by cases h), fun u hu => (by cases hu)⟩
  have hb := below_then b0 b1
  have HX := Lib.hid (And.intro hx hb)
  clear hm hn hf hx hb b0 b1
  have g1 : decide ((sec : Int) < 1) = false := by rw [decide_eq_false_iff_not]; omega
  have g2 : decide ((4096 : Int) < (sec : Int)) = false := by rw [decide_eq_false_iff_not]; omega
  go_enter Tryz.func13, Tryz.ntmps13
  have hmk : (Instr.makeMap 104 none).run Tryz.prog w = .ok (.map (some w.heap.size)) (w.alloc (.map #[] 0)) := rfl
  go_wp2
  go_ret2
  exact ⟨_, rfl, HX.out.1, HX.out.2⟩
set_option maxHeartbeats 1000000 in
theorem dcreate_calls (x : DT) (s : DSt) (n : ByteArray) (W : World) (B : Nat) (hx : x.At s W B) (hB : B ≤ W.heap.size) (hr : s.raws.length + 1 ≤ 1000000000000) :
    Calls Tryz.prog 78 #[.pointer (some ⟨x.p, 0, none⟩), .string n] W fun e w' => e = .returned (.int .i64 (dCreate s n).1) ∧ ∃ y : DT, y.At (dCreate s n).2 w' B ∧ DStep x W y w' := by
  have K := Lib.hid (dwrong_calls x s W B hx n false)
  unfold dCreate
  by_cases h0 : dWrong s n false = 0
  · rw [if_pos h0]
    rw [h0] at K
    have KD := Lib.hid (do_create x s n none 0 W B hx hB (OwnB.nil _ _) (fun k hk => by cases hk) (wrong_name h0).2.2 hr)
    clear hx h0
    go_enter Tryz.func78, Tryz.ntmps78
    go_wp2_with (first
      | (go_at_call 139; refine K.out.mono ?_; rintro e w1 ⟨rfl, rfl⟩)
      | (go_at_call 69; refine KD.out.mono ?_; rintro e w2 ⟨rfl, y, hy, hs⟩))
    go_ret
    exact ⟨rfl, y, hy, hs⟩
  · rw [if_neg h0]
    have hne : (dWrong s n false == 0) = false := by simpa using h0
    generalize dWrong s n false = c at *
    go_enter Tryz.func78, Tryz.ntmps78
    go_wp2_with (first
      | (go_at_call 139; refine K.out.mono ?_; rintro e w1 ⟨rfl, rfl⟩))
    go_ret
    exact ⟨rfl, x, hx, DStep.of_below (Below.refl _ _)⟩
theorem row_mods {w w' : World} {v : Value} {n : Nat} {cs : List Value} (h : Row w v n cs) (hm : ∀ k, v.ownBlock = some k → w'.heap[k]? = w.heap[k]?) : Row w' v n cs := by
  obtain ⟨A, c, rfl, h1, h2, h3, h4⟩ := h
  refine ⟨A, c, rfl, h1, h2, h3, fun j u hu => ?_⟩
  obtain ⟨ad, ha, hc⟩ := h4 j u hu
  subst ha
  refine ⟨ad, rfl, (mods_cell ?_).trans hc⟩
  have hb : (ad.add j).block = ad.block := by unfold Addr.add; split <;> rfl
  rw [hb]
  exact hm ad.block rfl
theorem bs_lt {w : World} {v : Value} {l : List UInt8} (h : Bs w v l) (hl : 0 < l.length) {k : Nat} (hk : v.ownBlock = some k) : k < w.heap.size := by
  obtain ⟨A, c, rfl, h1, h2, h3, h4⟩ := h
  cases A with
  | none => cases hk
  | some ad =>
    cases hk
    obtain ⟨ad', e, hc⟩ := h4 0 _ (u8s_get l 0 hl)
    cases e
    have := World.block_lt_of_cell? w _ hc
    have hb : (ad.add 0).block = ad.block := by unfold Addr.add; split <;> rfl
    rwa [hb] at this
/-- What an append's rounds hold: 'b': what is left. -/
structure AppAt (x0 : DT) (s0 : DSt) (n : ByteArray) (v : Value) (l0 b0 : List UInt8) (W : World) (B : Nat) (b : List UInt8) (w : World) : Prop where
  ex : ∃ (x : DT) (cs : List (List UInt8)), x.p = x0.p ∧ b0 = cs.flatten ++ b ∧ chunks s0.sec l0.length b0.length b0 = cs ++ chunks s0.sec (l0.length + cs.flatten.length) b.length b ∧ cs.length ≤ cs.flatten.length ∧ x.At (s0.runs (cs.map (rAppend n))) w B ∧ DStep x0 W x w
  src : Bs w v b
  far : ∀ k, v.ownBlock = some k → 0 < b.length → k < W.heap.size ∧ ¬ x0.Mut k
theorem run_len_append (s : DSt) (n : ByteArray) (l : List UInt8) (h : s.fs n = some l) (cs : List (List UInt8)) : (s.runs (cs.map (rAppend n))).fs n = some (l ++ cs.flatten) := by
  rw [runs_appends n cs s l h, upd_same]
set_option maxHeartbeats 4000000 in
theorem dappend_calls (x : DT) (s : DSt) (n : ByteArray) (v : Value) (b : List UInt8) (W : World) (B : Nat) (hx : x.At s W B) (hB : B ≤ W.heap.size) (hb : Bs W v b) (hap : ∀ k, v.ownBlock = some k → ¬ x.Mut k) (hl : ∀ l, s.fs n = some l → l.length + b.length ≤ 100000000000000) (hr : s.raws.length + b.length ≤ 1000000000000) :
    Calls Tryz.prog 79 #[.pointer (some ⟨x.p, 0, none⟩), .string n, v] W fun e w' => e = .returned (.int .i64 (dAppend s n b).1) ∧ ∃ y : DT, y.At (dAppend s n b).2 w' B ∧ DStep x W y w' := by
  have K := Lib.hid (dwrong_calls x s W B hx n true)
  obtain ⟨A, c, rfl, b1, b2, b3⟩ := hb.form
  unfold dAppend
  by_cases h0 : dWrong s n true = 0
  · rw [if_pos h0]
    rw [h0] at K
    obtain ⟨l, hn⟩ := wrong_there h0
    have hnm := (wrong_name h0).2.2
    have hlb := hl l hn
    have hfar : ∀ k, (Value.slice A b.length c).ownBlock = some k → 0 < b.length → k < W.heap.size ∧ ¬ x.Mut k := fun k hk hp => ⟨bs_lt hb hp hk, hap k hk⟩
    have hsec := hx.sec
    have H0 : Hid (AppAt x s n (.slice A b.length c) l b W B b W) := Lib.hid ⟨⟨x, [], rfl, by simp, by simp, by simp, by simpa [DSt.runs] using hx, DStep.of_below (Below.refl _ _)⟩, hb, hfar⟩
    clear hx hb hap hl hfar h0
    go_enter Tryz.func79, Tryz.ntmps79
    go_wp2_with (first
      | (go_at_call 139; refine K.out.mono ?_; rintro e w1 ⟨rfl, rfl⟩))
    go_loopw [2] (fun v wr => ∃ (bb : List UInt8) (A' : Option Addr) (c' : Nat), v = .slice A' bb.length c' ∧ bb.length ≤ b.length ∧ Hid (AppAt x s n v l b W B bb wr)) (fun v _ => match v with | .slice _ k _ => k | _ => 0)
    case atStart => exact ⟨b, A, c, rfl, by omega, H0⟩
    case round =>
      obtain ⟨bb, A', c', rfl, hbl, HR⟩ := hrel
      clear H0 K
      by_cases hp : 0 < bb.length
      · obtain ⟨⟨y, cs, hyp, hfl, hch, hcl, hy, hst⟩, hsrc, hfar⟩ := HR.out
        have hfn := run_len_append s n l hn cs
        generalize hs' : s.runs (cs.map (rAppend n)) = s' at *
        have hsz : n.size ≤ maxLen := by unfold maxLen; omega
        have yc0 := hy.c0
        have yc1 := hy.c1
        rw [hyp] at yc0 yc1
        have hsec' : s'.sec = s.sec := by rw [← hs', DSt.runs_sec]
        rw [hsec'] at yc0
        obtain ⟨vf, hvf, hof⟩ := hy.vals.at_ hfn
        obtain ⟨Af, cf, evf, -, -, -⟩ := hof.form
        subst evf
        have HLK := Lib.hid (fun w' (hw : Below wr.heap.size wr w') => (show (Instr.lookup 104 (.map (some y.mb)) (.string n) false).run Tryz.prog w' = .ok (.slice Af (l ++ cs.flatten).length cf) w' by
          have h := (hy.below hw).map.look under_files (zero_bs w') n hsz
          rw [hvf] at h
          exact h))
        have hll : (l ++ cs.flatten).length = l.length + cs.flatten.length := List.length_append
        have hbl2 : b.length = cs.flatten.length + bb.length := by rw [hfl, List.length_append]
        rw [← hll] at hch
        generalize (l ++ cs.flatten).length = len at *
        have hml := Nat.mod_lt len (show 0 < s.sec by omega)
        have hml := Nat.le_of_lt hml
        have HE := Lib.hid (And.intro hyp (And.intro hfl (And.intro hch (And.intro hcl (And.intro hy (And.intro hst (And.intro hsrc (And.intro hfar (And.intro hfn (And.intro hsec' (And.intro hbl2 (And.intro hll hs'))))))))))))
        clear hyp hfl hch hcl hy hst hsrc hfar hfn hs' hvf hof
        go_wp2
        refine wp_region_noPanic ?_
        refine wp_region_rowS (S := fun w' => Below wr.heap.size wr w') [0, 1, 2, 3, 4, 5, 6, 7, 8, 9, 10, 11, 12, 13, 14, 15, 16, 17, 18, 19, 20] [] (by kernel_rfl) (by kernel_rfl) (fun _ _ _ _ h => h) (below_drew1 wr) ?_
        simp only [opsL, List.getElem?_cons_zero, List.getElem?_cons_succ, Option.toList_some, List.singleton_append]
        refine takesS_run rfl (.pointer (some ⟨x.p, 0, none⟩)) (fun w' hw => op_move _ rfl _ (by rfl) w') ?_
        simp only [Act.put, List.setIfInBounds_toArray, List.set_cons_zero, List.set_cons_succ]
        refine takesS_run rfl (.pointer (some ⟨x.p, 0, none⟩)) (fun w' hw => by go_simp) ?_
        simp only [Act.put, List.setIfInBounds_toArray, List.set_cons_zero, List.set_cons_succ]
        refine takesS_run rfl (.pointer (some ⟨x.p, 0, none⟩)) (fun w' hw => by go_simp) ?_
        simp only [Act.put, List.setIfInBounds_toArray, List.set_cons_zero, List.set_cons_succ]
        refine takesS_run rfl (.int .i64 (s.sec : Int)) (fun w' hw => op_load _ _ rfl _ _ (by rfl) w' (ld_cell Tryz.underlying3 rfl (cell_below hw yc0))) ?_
        simp only [Act.put, List.setIfInBounds_toArray, List.set_cons_zero, List.set_cons_succ]
        refine takesS_run rfl (.pointer (some ⟨x.p, 0, none⟩)) (fun w' hw => op_move _ rfl _ (by rfl) w') ?_
        simp only [Act.put, List.setIfInBounds_toArray, List.set_cons_zero, List.set_cons_succ]
        refine takesS_run rfl (.pointer (some ⟨x.p, 0, none⟩)) (fun w' hw => by go_simp) ?_
        simp only [Act.put, List.setIfInBounds_toArray, List.set_cons_zero, List.set_cons_succ]
        refine takesS_run rfl (.pointer (some ⟨x.p, 1, none⟩)) (fun w' hw => by go_simp) ?_
        simp only [Act.put, List.setIfInBounds_toArray, List.set_cons_zero, List.set_cons_succ]
        refine takesS_run rfl (.map (some y.mb)) (fun w' hw => op_load _ _ rfl _ _ (by rfl) w' (ld_cell under_files rfl (cell_below hw yc1))) ?_
        simp only [Act.put, List.setIfInBounds_toArray, List.set_cons_zero, List.set_cons_succ]
        refine takesS_run rfl (.string n) (fun w' hw => op_move _ rfl _ (by rfl) w') ?_
        simp only [Act.put, List.setIfInBounds_toArray, List.set_cons_zero, List.set_cons_succ]
        refine takesS_run rfl (.slice Af len cf) (fun w' hw => op_lookup _ _ _ _ rfl _ _ _ (by rfl) (by rfl) w' (HLK.out w' hw)) ?_
        simp only [Act.put, List.setIfInBounds_toArray, List.set_cons_zero, List.set_cons_succ]
        refine takesS_run rfl (.int .i64 (len : Int)) (fun w' hw => by go_simp) ?_
        simp only [Act.put, List.setIfInBounds_toArray, List.set_cons_zero, List.set_cons_succ]
        refine takesS_run rfl (.pointer (some ⟨x.p, 0, none⟩)) (fun w' hw => op_move _ rfl _ (by rfl) w') ?_
        simp only [Act.put, List.setIfInBounds_toArray, List.set_cons_zero, List.set_cons_succ]
        refine takesS_run rfl (.pointer (some ⟨x.p, 0, none⟩)) (fun w' hw => by go_simp) ?_
        simp only [Act.put, List.setIfInBounds_toArray, List.set_cons_zero, List.set_cons_succ]
        refine takesS_run rfl (.pointer (some ⟨x.p, 0, none⟩)) (fun w' hw => by go_simp) ?_
        simp only [Act.put, List.setIfInBounds_toArray, List.set_cons_zero, List.set_cons_succ]
        refine takesS_run rfl (.int .i64 (s.sec : Int)) (fun w' hw => op_load _ _ rfl _ _ (by rfl) w' (ld_cell Tryz.underlying3 rfl (cell_below hw yc0))) ?_
        simp only [Act.put, List.setIfInBounds_toArray, List.set_cons_zero, List.set_cons_succ]
        refine takesS_run rfl (.int .i64 ((len % s.sec : Nat) : Int)) (fun w' hw => op_rem _ _ _ _ rfl len s.sec (by omega) (by rfl) (by rfl) w') ?_
        simp only [Act.put, List.setIfInBounds_toArray, List.set_cons_zero, List.set_cons_succ]
        refine takesS_run rfl (.int .i64 ((s.sec - len % s.sec : Nat) : Int)) (fun w' hw => op_sub _ _ _ _ rfl s.sec (len % s.sec) hml (by omega) (by rfl) (by rfl) w') ?_
        simp only [Act.put, List.setIfInBounds_toArray, List.set_cons_zero, List.set_cons_succ]
        refine takesS_run rfl (.slice A' bb.length c') (fun w' hw => op_move _ rfl _ (by rfl) w') ?_
        simp only [Act.put, List.setIfInBounds_toArray, List.set_cons_zero, List.set_cons_succ]
        refine takesS_run rfl (.int .i64 (bb.length : Int)) (fun w' hw => by go_simp) ?_
        simp only [Act.put, List.setIfInBounds_toArray, List.set_cons_zero, List.set_cons_succ]
        refine takesS_run rfl (.int .i64 ((chunkN s.sec len bb.length : Nat) : Int)) (fun w' hw => op_min _ _ _ rfl (s.sec - len % s.sec) bb.length (by rfl) (by rfl) w') ?_
        simp only [Act.put, List.setIfInBounds_toArray, List.set_cons_zero, List.set_cons_succ]
        refine takesS_run rfl (.int .i64 ((chunkN s.sec len bb.length : Nat) : Int)) (fun w' hw => op_assign _ rfl _ (by rfl) w') ?_
        simp only [Act.put, List.setIfInBounds_toArray, List.set_cons_zero, List.set_cons_succ]
        simp only [wpTkS, wpRowS]
        rename_i Kx hKx
        refine hKx _ _ ?_
        clear hKx HLK yc0 yc1
        obtain ⟨k, hk⟩ : ∃ k, chunkN s.sec len bb.length = k := ⟨_, rfl⟩
        have hk1 : 0 < k := by rw [← hk]; exact chunkN_pos (by omega) hp
        have hk2 : k ≤ bb.length := by rw [← hk]; exact chunkN_le _ _ _
        have hD := below_drew1 wr
        have hsd := HE.out.2.2.2.2.2.2.1.below hD
        obtain ⟨hH1, hH2⟩ := bsHead hsd k (k : Int) rfl hk2
        obtain ⟨A2, c2, hT1, hT2, hT3⟩ := bsTail hsd k (k : Int) rfl hk2
        have KC := Lib.hid (bclone_calls (.slice A' k c') (bb.take k) wr.drew hH2 (by rw [List.length_take]; omega))
        rw [hk]
        have hWr : W.heap.size ≤ wr.heap.size := HE.out.2.2.2.2.2.1.size
        change Code.wp _ _ _ _ wr.drew
        obtain ⟨wd, hwd⟩ : ∃ wd, wr.drew = wd := ⟨_, rfl⟩
        rw [hwd] at hD hsd hH2 KC ⊢
        have HH := Lib.hid (And.intro hH2 hsd)
        clear hH2 hsd
        have hdz : wd.heap.size = wr.heap.size := by rw [← hwd]; rfl
        have hk3 : (k : Int) ≤ (bb.length : Int) := by omega
        have HD := Lib.hid (fun (w2 : World) (v2 : Value) (hB2 : Below wd.heap.size wd w2) (ho2 : OwnB w2 wd.heap.size v2 (bb.take k)) => (show ∃ A3 c3, v2 = .slice A3 k c3 ∧ Calls Tryz.prog 69 #[.pointer (some ⟨x.p, 0, none⟩), .agg #[.int .i64 2, .string n, .slice A3 k c3, .int .i64 0, .string ByteArray.empty]] w2 fun e w' => e = .returned (.tuple #[]) ∧ ∃ z : DT, z.At (s'.run (rAppend n (bb.take k))) w' B ∧ DStepV (.slice A3 k c3) y w2 z w' from by
          obtain ⟨h1, h2, h3, h4, h5, h6, h7, h8, h9, h10, h11, h12, h13⟩ := HE.out
          have hl2 : (bb.take k).length = k := by rw [List.length_take]; omega
          obtain ⟨A3, c3, e3, -, -, -⟩ := ho2.form_n k hl2
          subst e3
          have hy2 := h5.below (hD.trans (hB2.mono (by omega)))
          have hbz := hB2.size
          refine ⟨A3, c3, rfl, ?_⟩
          have K := do_append y s' n (l ++ cs.flatten) (bb.take k) A3 c3 w2 B hy2 (by omega) h9 hnm (by rw [hl2]; exact ho2.lower (by omega)) (fun q hq hM => by rw [hl2] at hq; have h1 := (ho2.lt q hq).1; have h2 := h5.lt (.inl hM); omega)
            (by rw [List.length_append, hl2]; omega) (by rw [← h13, DSt.runs_raws, List.length_append, List.length_map]; omega)
          rw [hl2, h1] at K
          exact K))
        go_wp2_with (first
          | (go_at_call 96; refine KC.out.mono ?_; rintro e w2 ⟨v2, rfl, ho2, hB2⟩; obtain ⟨A3, c3, e3, KD0⟩ := HD.out w2 v2 hB2 ho2; subst e3; have KD := Lib.hid KD0; have HO2 := Lib.hid (And.intro ho2 hB2); clear ho2 hB2 KD0)
          | (go_at_call 69; refine KD.out.mono ?_; rintro e w3 ⟨rfl, z, hz, hsz3⟩; have HZ := Lib.hid (And.intro hz hsz3); clear hz hsz3))
        obtain ⟨h1, h2, h3, h4, h5, h6, h7, h8, h9, h10, h11, h12, h13⟩ := HE.out
        obtain ⟨z1, z2⟩ := HZ.out
        obtain ⟨o1, o2⟩ := HO2.out
        have hl2 : (bb.take k).length = k := by rw [List.length_take]; omega
        have hB2 : Below wr.heap.size wr w2 := hD.trans (o2.mono (by omega))
        have hyM : ∀ q, q < W.heap.size → ¬ x.Mut q → ¬ y.Mut q := fun q hq hn hM => by
          rcases h6.has q hM with e | e
          · exact hn e
          · omega
        have hs3 : Bs w3 (.slice A' bb.length c') bb := row_mods (h7.below hB2) fun q hq => by
          obtain ⟨f1, f2⟩ := h8 q hq hp
          exact z2.block q (by have := hB2.size; omega) (hyM q f1 f2)
        have hdl : (bb.drop k).length = bb.length - k := List.length_drop
        have hst : DStep x W z w3 := h6.trans ((z2.since hB2).own (fun q hq => by
          have : (Value.slice A3 k c3).ownBlock = some q := hq
          have := (o1.lt q this).1
          omega))
        have hch : chunks s.sec len bb.length bb = bb.take k :: chunks s.sec (len + k) (bb.drop k).length (bb.drop k) := by
          have e1 : bb.length = (bb.length - 1) + 1 := by omega
          rw [e1, chunks_step hp, hk]
          congr 1
          exact chunks_more (by omega) _ _ _ _ (by omega) (by omega)
        refine ⟨⟨bb.drop k, A2, c2, by rw [hdl], by omega, Lib.hid ⟨⟨z, cs ++ [bb.take k], z2.p.trans h1, ?_, ?_, ?_, ?_, hst⟩, hT2 w3 hs3, fun q hq hp' => ?_⟩⟩, by show bb.length - k < bb.length; omega⟩
        · rw [List.flatten_append, List.flatten_cons, List.flatten_nil, List.append_nil, List.append_assoc, List.take_append_drop]
          exact h2
        · rw [h3, hch, List.flatten_append, List.flatten_cons, List.flatten_nil, List.append_nil, List.length_append, hl2, ← Nat.add_assoc, ← h12]
          simp
        · rw [List.flatten_append, List.flatten_cons, List.flatten_nil, List.append_nil, List.length_append, List.length_append, hl2, List.length_singleton]
          omega
        · rw [List.map_append, DSt.runs_append, h13]
          exact z1
        · cases A2 with
          | none => cases hq
          | some ad =>
            obtain ⟨ad0, e1, e2⟩ := hT3 ad rfl
            subst e1
            cases hq
            exact h8 ad.block (by rw [← e2]; rfl) hp
      · have hb0 : bb = [] := List.eq_nil_of_length_eq_zero (by omega)
        subst hb0
        obtain ⟨⟨y, cs, hyp, hfl, hch, hcl, hy, hst⟩, hsrc, hfar⟩ := HR.out
        have HY := Lib.hid (And.intro hch (And.intro hy hst))
        clear hyp hfl hch hcl hy hst hsrc hfar HR
        go_wp2
        go_ret
        refine ⟨rfl, y, ?_, HY.out.2.2⟩
        have e : appR s n b = cs.map (rAppend n) := by
          unfold appR
          rw [hn]
          show List.map _ (chunks s.sec l.length b.length b) = _
          rw [HY.out.1, chunks_nil, List.append_nil]
        rw [e]
        exact HY.out.2.1
  · rw [if_neg h0]
    have hne : (dWrong s n true == 0) = false := by simpa using h0
    have hne2 : (dWrong s n true != 0) = true := by simpa using h0
    generalize dWrong s n true = c at *
    go_enter Tryz.func79, Tryz.ntmps79
    go_wp2_with (first
      | (go_at_call 139; refine K.out.mono ?_; rintro e w1 ⟨rfl, rfl⟩))
    go_ret
    exact ⟨rfl, x, hx, DStep.of_below (Below.refl _ _)⟩
end Go.Proofs.YtjllkmkngjdjjaaGreatDoor
namespace Go.Proofs.YtjllkmkngjdjjaaGreatDoor
open Go.RowKit
set_option maxRecDepth 100000
theorem dsize_calls (x : DT) (s : DSt) (n : ByteArray) (W : World) (B : Nat) (hx : x.At s W B) :
    Calls Tryz.prog 75 #[.pointer (some ⟨x.p, 0, none⟩), .string n] W fun e w' => e = .returned (.tuple #[.int .i64 (if dWrong s n true = 0 then (((s.fs n).getD []).length : Int) else 0), .int .i64 (dWrong s n true)]) ∧ W = w' := by
  have K := Lib.hid (dwrong_calls x s W B hx n true)
  by_cases h0 : dWrong s n true = 0
  · rw [if_pos h0]
    rw [h0] at K ⊢
    obtain ⟨l, hn⟩ := wrong_there h0
    have hnm := (wrong_name h0).2.2
    obtain ⟨vf, hvf, hof⟩ := hx.vals.at_ hn
    obtain ⟨Af, cf, evf, f1, f2, f3⟩ := hof.form
    subst evf
    have hlk := hx.map.look under_files (zero_bs W) n (by unfold maxLen; omega)
    rw [hvf] at hlk
    simp only [Option.getD_some] at hlk
    have c1 := hx.c1
    rw [hn]
    simp only [Option.getD_some]
    clear hx h0 hn hvf hof
    go_enter Tryz.func75, Tryz.ntmps75
    go_wp2_with (first | (go_at_call 139; refine K.out.mono ?_; rintro e w1 ⟨rfl, rfl⟩))
    go_ret2
    exact ⟨rfl, rfl⟩
  · rw [if_neg h0]
    have hne2 : (dWrong s n true != 0) = true := by simpa using h0
    generalize dWrong s n true = c at *
    go_enter Tryz.func75, Tryz.ntmps75
    go_wp2_with (first | (go_at_call 139; refine K.out.mono ?_; rintro e w1 ⟨rfl, rfl⟩))
    go_ret2
    exact ⟨rfl, rfl⟩
theorem dwrites_calls (x : DT) (s : DSt) (W : World) (B : Nat) (hx : x.At s W B) : Calls Tryz.prog 22 #[.pointer (some ⟨x.p, 0, none⟩)] W fun e w' => e = .returned (.int .i64 (s.raws.length : Int)) ∧ W = w' := by
  have K := Lib.hid (dnone_calls x s W B hx)
  have c2 := hx.c2
  obtain ⟨Ar, cr, er, r1, r2, r3⟩ := owns_form hx.raws.row
  rw [er] at c2
  clear hx er
  go_enter Tryz.func22, Tryz.ntmps22
  go_wp2_with (first | (go_at_call 57; refine K.out.mono ?_; rintro e w1 ⟨rfl, rfl⟩))
  go_ret
  exact ⟨rfl, rfl⟩
theorem Bs.subX {w : World} {A : Option Addr} {len c : Nat} {l : List UInt8} (h : Bs w (.slice A len c) l) (i n : Nat) (hi : i + n ≤ l.length) :
    Bs w (.slice (if c = i then A else A.map (fun x => x.add i)) n (c - i)) ((l.drop i).take n) := by
  obtain ⟨A0, c0, e, h1, h2, h0, h3⟩ := h
  cases e
  have hlen : ((l.drop i).take n).length = n := by simp; omega
  refine ⟨_, _, by rw [hlen], by rw [hlen]; omega, by omega, ?_, ?_⟩
  · intro hA
    cases A with
    | none => have := h0 rfl; omega
    | some ad => split at hA <;> cases hA
  · intro j u hj
    have hjn : j < n := by
      have := (List.getElem?_eq_some_iff.1 hj).1
      rw [u8s_length, hlen] at this
      exact this
    have hju : (u8s l)[i + j]? = some u := by
      rw [← hj]
      simp only [u8s, List.getElem?_map]
      rw [List.getElem?_take, if_pos hjn, List.getElem?_drop]
    obtain ⟨ad, hA, hc⟩ := h3 (i + j) u hju
    subst hA
    rw [if_neg (by omega)]
    exact ⟨ad.add i, rfl, by rw [add_add]; exact hc⟩
/-- What is read: at most k bytes from a place on. -/
def cutB (l : List UInt8) (at_ k : Nat) : List UInt8 := (l.drop at_).take (min k (l.length - at_))
set_option maxHeartbeats 1000000 in
theorem dread_ok (x : DT) (s : DSt) (n : ByteArray) (l : List UInt8) (at_ k : Nat) (W : World) (B : Nat) (hx : x.At s W B) (h0 : dWrong s n true = 0) (hn : s.fs n = some l) (ha : at_ ≤ l.length) (hk : k ≤ 4000000000000000000) (hl : l.length ≤ 100000000000000) :
    Calls Tryz.prog 100 #[.pointer (some ⟨x.p, 0, none⟩), .string n, .int .i64 (at_ : Int), .int .i64 (k : Int)] W fun e w' => ∃ v, e = .returned (.tuple #[v, .int .i64 0]) ∧ OwnB w' W.heap.size v (cutB l at_ k) ∧ Below W.heap.size W w' := by
  have K := Lib.hid (dwrong_calls x s W B hx n true)
  rw [h0] at K
  have hnm := (wrong_name h0).2.2
  obtain ⟨vf, hvf, hof⟩ := hx.vals.at_ hn
  obtain ⟨Af, cf, evf, f1, f2, f3⟩ := hof.form
  subst evf
  have hlk := hx.map.look under_files (zero_bs W) n (by unfold maxLen; omega)
  rw [hvf] at hlk
  simp only [Option.getD_some] at hlk
  have c1 := hx.c1
  have hs2 := hof.bs.subX at_ (min k (l.length - at_)) (by omega)
  have hM : ((at_ : Int) + if (l.length : Int) - (at_ : Int) < (k : Int) then (l.length : Int) - (at_ : Int) else (k : Int)).toNat - at_ = min k (l.length - at_) := by
    by_cases hh : (l.length : Int) - (at_ : Int) < (k : Int)
    · rw [if_pos hh]; omega
    · rw [if_neg hh]; omega
  have g1 : decide ((at_ : Int) < 0) = false := by rw [decide_eq_false_iff_not]; omega
  have g2 : decide ((l.length : Int) < (at_ : Int)) = false := by rw [decide_eq_false_iff_not]; omega
  have g3 : decide ((k : Int) < 0) = false := by rw [decide_eq_false_iff_not]; omega
  have g4 : wrap64 ((l.length : Int) - (at_ : Int)) = (((l.length - at_ : Nat)) : Int) := by unfold wrap64; omega
  by_cases hc : cf = at_
  · rw [if_pos hc, hc, Nat.sub_self] at hs2
    have KC := Lib.hid (bclone_calls _ _ W hs2 (by simp; omega))
    clear hx hn hvf hof hs2 h0
    go_enter Tryz.func100, Tryz.ntmps100
    go_wp2_with (first
      | (go_at_call 139; refine K.out.mono ?_; rintro e w1 ⟨rfl, rfl⟩)
      | (go_at_call 96; refine KC.out.mono ?_; rintro e w2 ⟨v2, rfl, ho2, hB2⟩))
    all_goals go_ret2
    all_goals exact ⟨_, rfl, ho2, hB2⟩
  · rw [if_neg hc] at hs2
    have KC := Lib.hid (bclone_calls _ _ W hs2 (by simp; omega))
    clear hx hn hvf hof hs2 h0
    go_enter Tryz.func100, Tryz.ntmps100
    go_wp2_with (first
      | (go_at_call 139; refine K.out.mono ?_; rintro e w1 ⟨rfl, rfl⟩)
      | (go_at_call 96; refine KC.out.mono ?_; rintro e w2 ⟨v2, rfl, ho2, hB2⟩))
    all_goals go_ret2
    all_goals exact ⟨_, rfl, ho2, hB2⟩
theorem dread_bad (x : DT) (s : DSt) (n : ByteArray) (at_ k : Int) (W : World) (B : Nat) (hx : x.At s W B) (h0 : dWrong s n true ≠ 0) :
    Calls Tryz.prog 100 #[.pointer (some ⟨x.p, 0, none⟩), .string n, .int .i64 at_, .int .i64 k] W fun e w' => e = .returned (.tuple #[.slice none 0 0, .int .i64 (dWrong s n true)]) ∧ W = w' := by
  have K := Lib.hid (dwrong_calls x s W B hx n true)
  have hne2 : (dWrong s n true != 0) = true := by simpa using h0
  generalize dWrong s n true = c at *
  go_enter Tryz.func100, Tryz.ntmps100
  go_wp2_with (first | (go_at_call 139; refine K.out.mono ?_; rintro e w1 ⟨rfl, rfl⟩))
  go_ret2
  exact ⟨rfl, rfl⟩
end Go.Proofs.YtjllkmkngjdjjaaGreatDoor
