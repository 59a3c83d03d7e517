/- WALKS of package disk: New, Create, Append. No statement of the seed is proved here. WALKS of package disk: Size, Read, Writes, Raw. No statement of the seed is proved here. A WALK of package disk: Raw. No statement of the seed is proved here. -/
import Derived.Test.YtjllkmkngjdjjaaDoorDskD
import Derived.Test.YtjllkmkngjdjjaaDoorSlice
namespace Go.Proofs.YtjllkmkngjdjjaaDoor
open Go.RowKit
set_option maxRecDepth 100000
def dCreate (s : DSt) (n : ByteArray) : Int × DSt := if dWrong s n false = 0 then (0, s.run (rCreate n)) else (dWrong s n false, s)
def dAppend (s : DSt) (n : ByteArray) (b : List UInt8) : Int × DSt := if dWrong s n true = 0 then (0, s.runs (appR s n b)) else (dWrong s n true, s)
theorem wrong_name {s : DSt} {n : ByteArray} {t : Bool} (h : dWrong s n t = 0) : nameOk n = true ∧ 1 ≤ n.size ∧ n.size ≤ 128 := by
  unfold dWrong at h
  cases hn : nameOk n with
  | false => rw [if_pos hn] at h; cases h
  | true => exact ⟨rfl, by simp [nameOk] at hn; omega⟩
theorem wrong_there {s : DSt} {n : ByteArray} (h : dWrong s n true = 0) : ∃ l, s.fs n = some l := by
  have h0 := wrong_name h
  unfold dWrong at h
  rw [if_neg (by rw [h0.1]; simp)] at h
  cases hf : s.fs n with
  | none => rw [hf] at h; cases h
  | some l => exact ⟨l, rfl⟩
theorem dnew_calls (sec : Nat) (h1 : 1 ≤ sec) (h2 : sec ≤ 4096) (w : World) : Calls Tryd.prog 14 #[.int .i64 (sec : Int)] w fun e w' => ∃ x : DT, e = .returned (.tuple #[.pointer (some ⟨x.p, 0, none⟩), .int .i64 0]) ∧ x.At (emptyD sec) w' w.heap.size ∧ Below w.heap.size w w' := by
  have b0 := below_alloc1 w (.map #[] 0)
  have b1 := below_alloc1 (w.alloc (.map #[] 0)) (.cells #[.int .i64 (sec : Int), .map (some w.heap.size), .slice none 0 0] 56)
  have hm := (MapAt.made w).kept (b1.block w.heap.size (by simp))
  have hn := heap_alloc_new (w.alloc (.map #[] 0)) (.cells #[.int .i64 (sec : Int), .map (some w.heap.size), .slice none 0 0] 56)
  rw [World.size_alloc] at hn
  have hf := new_frozen (w.alloc (.map #[] 0)) #[.int .i64 (sec : Int), .map (some w.heap.size), .slice none 0 0] 56 2
  rw [World.size_alloc] at hf
  have hx : (DT.mk (w.heap.size + 1) w.heap.size (.slice none 0 0) (fun _ => none) []).At (emptyD sec) ((w.alloc (.map #[] 0)).alloc (.cells #[.int .i64 (sec : Int), .map (some w.heap.size), .slice none 0 0] 56)) w.heap.size :=
    ⟨Nat.le_succ _, Nat.le_refl _, cell_of_row _ (w.heap.size + 1) 0 _ _ (0, 0) hn, cell_of_row _ (w.heap.size + 1) 1 _ _ (0, 0) hn, cell_of_row _ (w.heap.size + 1) 2 _ _ (0, 0) hn, hf, ⟨h1, h2⟩, hm, ⟨fun _ => rfl, fun n v l h => (by cases h), fun n m v u h => (by cases h)⟩,
      RawsAt.nil _ _, by simp, ⟨fun e => (by cases e), fun e => (by cases e)⟩, fun n v h => (by cases h), fun u hu => (by cases hu)⟩
  have hb := below_then b0 b1
  have HX := Lib.hid (And.intro hx hb)
  clear hm hn hf hx hb b0 b1
  have g1 : decide ((sec : Int) < 1) = false := by rw [decide_eq_false_iff_not]; omega
  have g2 : decide ((4096 : Int) < (sec : Int)) = false := by rw [decide_eq_false_iff_not]; omega
  go_enter Tryd.func14, Tryd.ntmps14
  have hmk : (Instr.makeMap 53 none).run Tryd.prog w = .ok (.map (some w.heap.size)) (w.alloc (.map #[] 0)) := rfl
  go_wp2
  go_ret2
  exact ⟨_, rfl, HX.out.1, HX.out.2⟩
set_option maxHeartbeats 1000000 in
theorem dcreate_calls (x : DT) (s : DSt) (n : ByteArray) (W : World) (B : Nat) (hx : x.At s W B) (hB : B ≤ W.heap.size) (hr : s.raws.length + 1 ≤ 1000000000) :
    Calls Tryd.prog 20 #[.pointer (some ⟨x.p, 0, none⟩), .string n] W fun e w' => e = .returned (.int .i64 (dCreate s n).1) ∧ ∃ y : DT, y.At (dCreate s n).2 w' B ∧ DStep x W y w' := by
  have K := Lib.hid (dwrong_calls x s W B hx n false)
  unfold dCreate
  by_cases h0 : dWrong s n false = 0
  · rw [if_pos h0]
    rw [h0] at K
    have KD := Lib.hid (do_create x s n W B hx hB (wrong_name h0).2.2 hr)
    clear hx h0
    go_enter Tryd.func20, Tryd.ntmps20
    go_wp2_with (first
      | (go_at_call 31; refine K.out.mono ?_; rintro e w1 ⟨rfl, rfl⟩)
      | (go_at_call 32; refine KD.out.mono ?_; rintro e w2 ⟨rfl, y, hy, hs⟩))
    go_ret
    exact ⟨rfl, y, hy, hs⟩
  · rw [if_neg h0]
    have hne : (dWrong s n false == 0) = false := by simpa using h0
    generalize dWrong s n false = c at *
    go_enter Tryd.func20, Tryd.ntmps20
    go_wp2_with (first
      | (go_at_call 31; refine K.out.mono ?_; rintro e w1 ⟨rfl, rfl⟩))
    go_ret
    exact ⟨rfl, x, hx, DStep.of_below (Below.refl _ _)⟩
theorem row_mods {w w' : World} {v : Value} {n : Nat} {cs : List Value} (h : Row w v n cs) (hm : ∀ k, v.ownBlock = some k → w'.heap[k]? = w.heap[k]?) : Row w' v n cs := by
  obtain ⟨A, c, rfl, h1, h2, h3, h4⟩ := h
  refine ⟨A, c, rfl, h1, h2, h3, fun j u hu => ?_⟩
  obtain ⟨ad, ha, hc⟩ := h4 j u hu
  subst ha
  refine ⟨ad, rfl, (mods_cell ?_).trans hc⟩
  have hb : (ad.add j).block = ad.block := by unfold Addr.add; split <;> rfl
  rw [hb]
  exact hm ad.block rfl
theorem bs_lt {w : World} {v : Value} {l : List UInt8} (h : Bs w v l) (hl : 0 < l.length) {k : Nat} (hk : v.ownBlock = some k) : k < w.heap.size := by
  obtain ⟨A, c, rfl, h1, h2, h3, h4⟩ := h
  cases A with
  | none => cases hk
  | some ad =>
    cases hk
    obtain ⟨ad', e, hc⟩ := h4 0 _ (u8s_get l 0 hl)
    cases e
    have := World.block_lt_of_cell? w _ hc
    have hb : (ad.add 0).block = ad.block := by unfold Addr.add; split <;> rfl
    rwa [hb] at this
/-- What an append's rounds hold: 'b': what is left. -/
structure AppAt (x0 : DT) (s0 : DSt) (n : ByteArray) (v : Value) (l0 b0 : List UInt8) (W : World) (B : Nat) (b : List UInt8) (w : World) : Prop where
  ex : ∃ (x : DT) (cs : List (List UInt8)), x.p = x0.p ∧ b0 = cs.flatten ++ b ∧ chunks s0.sec l0.length b0.length b0 = cs ++ chunks s0.sec (l0.length + cs.flatten.length) b.length b ∧ cs.length ≤ cs.flatten.length ∧ x.At (s0.runs (cs.map (rAppend n))) w B ∧ DStep x0 W x w
  src : Bs w v b
  far : ∀ k, v.ownBlock = some k → 0 < b.length → k < W.heap.size ∧ ¬ x0.Mut k
theorem run_len_append (s : DSt) (n : ByteArray) (l : List UInt8) (h : s.fs n = some l) (cs : List (List UInt8)) : (s.runs (cs.map (rAppend n))).fs n = some (l ++ cs.flatten) := by
  rw [runs_appends n cs s l h, upd_same]
set_option maxHeartbeats 4000000 in
theorem dappend_calls (x : DT) (s : DSt) (n : ByteArray) (v : Value) (b : List UInt8) (W : World) (B : Nat) (hx : x.At s W B) (hB : B ≤ W.heap.size) (hb : Bs W v b) (hap : ∀ k, v.ownBlock = some k → ¬ x.Mut k) (hl : ∀ l, s.fs n = some l → l.length + b.length ≤ 100000000000000) (hr : s.raws.length + b.length ≤ 1000000000) :
    Calls Tryd.prog 21 #[.pointer (some ⟨x.p, 0, none⟩), .string n, v] W fun e w' => e = .returned (.int .i64 (dAppend s n b).1) ∧ ∃ y : DT, y.At (dAppend s n b).2 w' B ∧ DStep x W y w' := by
  have K := Lib.hid (dwrong_calls x s W B hx n true)
  obtain ⟨A, c, rfl, b1, b2, b3⟩ := hb.form
  unfold dAppend
  by_cases h0 : dWrong s n true = 0
  · rw [if_pos h0]
    rw [h0] at K
    obtain ⟨l, hn⟩ := wrong_there h0
    have hnm := (wrong_name h0).2.2
    have hlb := hl l hn
    have hfar : ∀ k, (Value.slice A b.length c).ownBlock = some k → 0 < b.length → k < W.heap.size ∧ ¬ x.Mut k := fun k hk hp => ⟨bs_lt hb hp hk, hap k hk⟩
    have hsec := hx.sec
    have H0 : Hid (AppAt x s n (.slice A b.length c) l b W B b W) := Lib.hid ⟨⟨x, [], rfl, by simp, by simp, by simp, by simpa [DSt.runs] using hx, DStep.of_below (Below.refl _ _)⟩, hb, hfar⟩
    clear hx hb hap hl hfar h0
    go_enter Tryd.func21, Tryd.ntmps21
    go_wp2_with (first
      | (go_at_call 31; refine K.out.mono ?_; rintro e w1 ⟨rfl, rfl⟩))
    go_loopw [2] (fun v wr => ∃ (bb : List UInt8) (A' : Option Addr) (c' : Nat), v = .slice A' bb.length c' ∧ bb.length ≤ b.length ∧ Hid (AppAt x s n v l b W B bb wr)) (fun v _ => match v with | .slice _ k _ => k | _ => 0)
    case atStart => exact ⟨b, A, c, rfl, by omega, H0⟩
    case round =>
      obtain ⟨bb, A', c', rfl, hbl, HR⟩ := hrel
      clear H0 K
      by_cases hp : 0 < bb.length
      · obtain ⟨⟨y, cs, hyp, hfl, hch, hcl, hy, hst⟩, hsrc, hfar⟩ := HR.out
        have hfn := run_len_append s n l hn cs
        generalize hs' : s.runs (cs.map (rAppend n)) = s' at *
        have hsz : n.size ≤ maxLen := by unfold maxLen; omega
        have yc0 := hy.c0
        have yc1 := hy.c1
        rw [hyp] at yc0 yc1
        have hsec' : s'.sec = s.sec := by rw [← hs', DSt.runs_sec]
        rw [hsec'] at yc0
        obtain ⟨vf, hvf, hof⟩ := hy.vals.at_ hfn
        obtain ⟨Af, cf, evf, -, -, -⟩ := hof.form
        subst evf
        have HLK := Lib.hid (fun w' (hw : Below wr.heap.size wr w') => (show (Instr.lookup 53 (.map (some y.mb)) (.string n) false).run Tryd.prog w' = .ok (.slice Af (l ++ cs.flatten).length cf) w' by
          have h := (hy.below hw).map.look under_files (zero_bs w') n hsz
          rw [hvf] at h
          exact h))
        have hll : (l ++ cs.flatten).length = l.length + cs.flatten.length := List.length_append
        have hbl2 : b.length = cs.flatten.length + bb.length := by rw [hfl, List.length_append]
        rw [← hll] at hch
        generalize (l ++ cs.flatten).length = len at *
        have hml := Nat.mod_lt len (show 0 < s.sec by omega)
        have hml := Nat.le_of_lt hml
        have HE := Lib.hid (And.intro hyp (And.intro hfl (And.intro hch (And.intro hcl (And.intro hy (And.intro hst (And.intro hsrc (And.intro hfar (And.intro hfn (And.intro hsec' (And.intro hbl2 (And.intro hll hs'))))))))))))
        clear hyp hfl hch hcl hy hst hsrc hfar hfn hs' hvf hof
        go_wp2
        refine wp_region_noPanic ?_
        refine wp_region_rowS (S := fun w' => Below wr.heap.size wr w') [0, 1, 2, 3, 4, 5, 6, 7, 8, 9, 10, 11, 12, 13, 14, 15, 16, 17, 18, 19, 20] [] (by kernel_rfl) (by kernel_rfl) (fun _ _ _ _ h => h) (below_drew1 wr) ?_
        simp only [opsL, List.getElem?_cons_zero, List.getElem?_cons_succ, Option.toList_some, List.singleton_append]
        refine takesS_run rfl (.pointer (some ⟨x.p, 0, none⟩)) (fun w' hw => op_move _ rfl _ (by rfl) w') ?_
        simp only [Act.put, List.setIfInBounds_toArray, List.set_cons_zero, List.set_cons_succ]
        refine takesS_run rfl (.pointer (some ⟨x.p, 0, none⟩)) (fun w' hw => by go_simp) ?_
        simp only [Act.put, List.setIfInBounds_toArray, List.set_cons_zero, List.set_cons_succ]
        refine takesS_run rfl (.pointer (some ⟨x.p, 0, none⟩)) (fun w' hw => by go_simp) ?_
        simp only [Act.put, List.setIfInBounds_toArray, List.set_cons_zero, List.set_cons_succ]
        refine takesS_run rfl (.int .i64 (s.sec : Int)) (fun w' hw => op_load _ _ rfl _ _ (by rfl) w' (ld_cell Tryd.underlying3 rfl (cell_below hw yc0))) ?_
        simp only [Act.put, List.setIfInBounds_toArray, List.set_cons_zero, List.set_cons_succ]
        refine takesS_run rfl (.pointer (some ⟨x.p, 0, none⟩)) (fun w' hw => op_move _ rfl _ (by rfl) w') ?_
        simp only [Act.put, List.setIfInBounds_toArray, List.set_cons_zero, List.set_cons_succ]
        refine takesS_run rfl (.pointer (some ⟨x.p, 0, none⟩)) (fun w' hw => by go_simp) ?_
        simp only [Act.put, List.setIfInBounds_toArray, List.set_cons_zero, List.set_cons_succ]
        refine takesS_run rfl (.pointer (some ⟨x.p, 1, none⟩)) (fun w' hw => by go_simp) ?_
        simp only [Act.put, List.setIfInBounds_toArray, List.set_cons_zero, List.set_cons_succ]
        refine takesS_run rfl (.map (some y.mb)) (fun w' hw => op_load _ _ rfl _ _ (by rfl) w' (ld_cell under_files rfl (cell_below hw yc1))) ?_
        simp only [Act.put, List.setIfInBounds_toArray, List.set_cons_zero, List.set_cons_succ]
        refine takesS_run rfl (.string n) (fun w' hw => op_move _ rfl _ (by rfl) w') ?_
        simp only [Act.put, List.setIfInBounds_toArray, List.set_cons_zero, List.set_cons_succ]
        refine takesS_run rfl (.slice Af len cf) (fun w' hw => op_lookup _ _ _ _ rfl _ _ _ (by rfl) (by rfl) w' (HLK.out w' hw)) ?_
        simp only [Act.put, List.setIfInBounds_toArray, List.set_cons_zero, List.set_cons_succ]
        refine takesS_run rfl (.int .i64 (len : Int)) (fun w' hw => by go_simp) ?_
        simp only [Act.put, List.setIfInBounds_toArray, List.set_cons_zero, List.set_cons_succ]
        refine takesS_run rfl (.pointer (some ⟨x.p, 0, none⟩)) (fun w' hw => op_move _ rfl _ (by rfl) w') ?_
        simp only [Act.put, List.setIfInBounds_toArray, List.set_cons_zero, List.set_cons_succ]
        refine takesS_run rfl (.pointer (some ⟨x.p, 0, none⟩)) (fun w' hw => by go_simp) ?_
        simp only [Act.put, List.setIfInBounds_toArray, List.set_cons_zero, List.set_cons_succ]
        refine takesS_run rfl (.pointer (some ⟨x.p, 0, none⟩)) (fun w' hw => by go_simp) ?_
        simp only [Act.put, List.setIfInBounds_toArray, List.set_cons_zero, List.set_cons_succ]
        refine takesS_run rfl (.int .i64 (s.sec : Int)) (fun w' hw => op_load _ _ rfl _ _ (by rfl) w' (ld_cell Tryd.underlying3 rfl (cell_below hw yc0))) ?_
        simp only [Act.put, List.setIfInBounds_toArray, List.set_cons_zero, List.set_cons_succ]
        refine takesS_run rfl (.int .i64 ((len % s.sec : Nat) : Int)) (fun w' hw => op_rem _ _ _ _ rfl len s.sec (by omega) (by rfl) (by rfl) w') ?_
        simp only [Act.put, List.setIfInBounds_toArray, List.set_cons_zero, List.set_cons_succ]
        refine takesS_run rfl (.int .i64 ((s.sec - len % s.sec : Nat) : Int)) (fun w' hw => op_sub _ _ _ _ rfl s.sec (len % s.sec) hml (by omega) (by rfl) (by rfl) w') ?_
        simp only [Act.put, List.setIfInBounds_toArray, List.set_cons_zero, List.set_cons_succ]
        refine takesS_run rfl (.slice A' bb.length c') (fun w' hw => op_move _ rfl _ (by rfl) w') ?_
        simp only [Act.put, List.setIfInBounds_toArray, List.set_cons_zero, List.set_cons_succ]
        refine takesS_run rfl (.int .i64 (bb.length : Int)) (fun w' hw => by go_simp) ?_
        simp only [Act.put, List.setIfInBounds_toArray, List.set_cons_zero, List.set_cons_succ]
        refine takesS_run rfl (.int .i64 ((chunkN s.sec len bb.length : Nat) : Int)) (fun w' hw => op_min _ _ _ rfl (s.sec - len % s.sec) bb.length (by rfl) (by rfl) w') ?_
        simp only [Act.put, List.setIfInBounds_toArray, List.set_cons_zero, List.set_cons_succ]
        refine takesS_run rfl (.int .i64 ((chunkN s.sec len bb.length : Nat) : Int)) (fun w' hw => op_assign _ rfl _ (by rfl) w') ?_
        simp only [Act.put, List.setIfInBounds_toArray, List.set_cons_zero, List.set_cons_succ]
        simp only [wpTkS, wpRowS]
        rename_i Kx hKx
        refine hKx _ _ ?_
        clear hKx HLK yc0 yc1
        obtain ⟨k, hk⟩ : ∃ k, chunkN s.sec len bb.length = k := ⟨_, rfl⟩
        have hk1 : 0 < k := by rw [← hk]; exact chunkN_pos (by omega) hp
        have hk2 : k ≤ bb.length := by rw [← hk]; exact chunkN_le _ _ _
        have hD := below_drew1 wr
        have hsd := HE.out.2.2.2.2.2.2.1.below hD
        obtain ⟨hH1, hH2⟩ := bsHead hsd k (k : Int) rfl hk2
        obtain ⟨A2, c2, hT1, hT2, hT3⟩ := bsTail hsd k (k : Int) rfl hk2
        have KC := Lib.hid (bclone_calls (.slice A' k c') (bb.take k) wr.drew hH2 (by rw [List.length_take]; omega))
        rw [hk]
        have hWr : W.heap.size ≤ wr.heap.size := HE.out.2.2.2.2.2.1.size
        change Code.wp _ _ _ _ wr.drew
        obtain ⟨wd, hwd⟩ : ∃ wd, wr.drew = wd := ⟨_, rfl⟩
        rw [hwd] at hD hsd hH2 KC ⊢
        have HH := Lib.hid (And.intro hH2 hsd)
        clear hH2 hsd
        have hdz : wd.heap.size = wr.heap.size := by rw [← hwd]; rfl
        have hk3 : (k : Int) ≤ (bb.length : Int) := by omega
        have HD := Lib.hid (fun (w2 : World) (v2 : Value) (hB2 : Below wd.heap.size wd w2) (ho2 : OwnB w2 wd.heap.size v2 (bb.take k)) => (show ∃ A3 c3, v2 = .slice A3 k c3 ∧ Calls Tryd.prog 32 #[.pointer (some ⟨x.p, 0, none⟩), .agg #[.int .i64 2, .string n, .slice A3 k c3, .int .i64 0, .string ByteArray.empty]] w2 fun e w' => e = .returned (.tuple #[]) ∧ ∃ z : DT, z.At (s'.run (rAppend n (bb.take k))) w' B ∧ DStepV (.slice A3 k c3) y w2 z w' from by
          obtain ⟨h1, h2, h3, h4, h5, h6, h7, h8, h9, h10, h11, h12, h13⟩ := HE.out
          have hl2 : (bb.take k).length = k := by rw [List.length_take]; omega
          obtain ⟨A3, c3, e3, -, -, -⟩ := ho2.form_n k hl2
          subst e3
          have hy2 := h5.below (hD.trans (hB2.mono (by omega)))
          have hbz := hB2.size
          refine ⟨A3, c3, rfl, ?_⟩
          have K := do_append y s' n (l ++ cs.flatten) (bb.take k) A3 c3 w2 B hy2 (by omega) h9 hnm (by rw [hl2]; exact ho2.lower (by omega)) (fun q hq hM => by rw [hl2] at hq; have h1 := (ho2.lt q hq).1; have h2 := h5.lt (.inl hM); omega)
            (by rw [List.length_append, hl2]; omega) (by rw [← h13, DSt.runs_raws, List.length_append, List.length_map]; omega)
          rw [hl2, h1] at K
          exact K))
        go_wp2_with (first
          | (go_at_call 24; refine KC.out.mono ?_; rintro e w2 ⟨v2, rfl, ho2, hB2⟩; obtain ⟨A3, c3, e3, KD0⟩ := HD.out w2 v2 hB2 ho2; subst e3; have KD := Lib.hid KD0; have HO2 := Lib.hid (And.intro ho2 hB2); clear ho2 hB2 KD0)
          | (go_at_call 32; refine KD.out.mono ?_; rintro e w3 ⟨rfl, z, hz, hsz3⟩; have HZ := Lib.hid (And.intro hz hsz3); clear hz hsz3))
        obtain ⟨h1, h2, h3, h4, h5, h6, h7, h8, h9, h10, h11, h12, h13⟩ := HE.out
        obtain ⟨z1, z2⟩ := HZ.out
        obtain ⟨o1, o2⟩ := HO2.out
        have hl2 : (bb.take k).length = k := by rw [List.length_take]; omega
        have hB2 : Below wr.heap.size wr w2 := hD.trans (o2.mono (by omega))
        have hyM : ∀ q, q < W.heap.size → ¬ x.Mut q → ¬ y.Mut q := fun q hq hn hM => by
          rcases h6.has q hM with e | e
          · exact hn e
          · omega
        have hs3 : Bs w3 (.slice A' bb.length c') bb := row_mods (h7.below hB2) fun q hq => by
          obtain ⟨f1, f2⟩ := h8 q hq hp
          exact z2.block q (by have := hB2.size; omega) (hyM q f1 f2)
        have hdl : (bb.drop k).length = bb.length - k := List.length_drop
        have hst : DStep x W z w3 := h6.trans ((z2.since hB2).own (fun q hq => by
          have : (Value.slice A3 k c3).ownBlock = some q := hq
          have := (o1.lt q this).1
          omega))
        have hch : chunks s.sec len bb.length bb = bb.take k :: chunks s.sec (len + k) (bb.drop k).length (bb.drop k) := by
          have e1 : bb.length = (bb.length - 1) + 1 := by omega
          rw [e1, chunks_step hp, hk]
          congr 1
          exact chunks_more (by omega) _ _ _ _ (by omega) (by omega)
        refine ⟨⟨bb.drop k, A2, c2, by rw [hdl], by omega, Lib.hid ⟨⟨z, cs ++ [bb.take k], z2.p.trans h1, ?_, ?_, ?_, ?_, hst⟩, hT2 w3 hs3, fun q hq hp' => ?_⟩⟩, by show bb.length - k < bb.length; omega⟩
        · rw [List.flatten_append, List.flatten_cons, List.flatten_nil, List.append_nil, List.append_assoc, List.take_append_drop]
          exact h2
        · rw [h3, hch, List.flatten_append, List.flatten_cons, List.flatten_nil, List.append_nil, List.length_append, hl2, ← Nat.add_assoc, ← h12]
          simp
        · rw [List.flatten_append, List.flatten_cons, List.flatten_nil, List.append_nil, List.length_append, List.length_append, hl2, List.length_singleton]
          omega
        · rw [List.map_append, DSt.runs_append, h13]
          exact z1
        · cases A2 with
          | none => cases hq
          | some ad =>
            obtain ⟨ad0, e1, e2⟩ := hT3 ad rfl
            subst e1
            cases hq
            exact h8 ad.block (by rw [← e2]; rfl) hp
      · have hb0 : bb = [] := List.eq_nil_of_length_eq_zero (by omega)
        subst hb0
        obtain ⟨⟨y, cs, hyp, hfl, hch, hcl, hy, hst⟩, hsrc, hfar⟩ := HR.out
        have HY := Lib.hid (And.intro hch (And.intro hy hst))
        clear hyp hfl hch hcl hy hst hsrc hfar HR
        go_wp2
        go_ret
        refine ⟨rfl, y, ?_, HY.out.2.2⟩
        have e : appR s n b = cs.map (rAppend n) := by
          unfold appR
          rw [hn]
          show List.map _ (chunks s.sec l.length b.length b) = _
          rw [HY.out.1, chunks_nil, List.append_nil]
        rw [e]
        exact HY.out.2.1
  · rw [if_neg h0]
    have hne : (dWrong s n true == 0) = false := by simpa using h0
    have hne2 : (dWrong s n true != 0) = true := by simpa using h0
    generalize dWrong s n true = c at *
    go_enter Tryd.func21, Tryd.ntmps21
    go_wp2_with (first
      | (go_at_call 31; refine K.out.mono ?_; rintro e w1 ⟨rfl, rfl⟩))
    go_ret
    exact ⟨rfl, x, hx, DStep.of_below (Below.refl _ _)⟩
end Go.Proofs.YtjllkmkngjdjjaaDoor
namespace Go.Proofs.YtjllkmkngjdjjaaDoor
open Go.RowKit
set_option maxRecDepth 100000
theorem dsize_calls (x : DT) (s : DSt) (n : ByteArray) (W : World) (B : Nat) (hx : x.At s W B) :
    Calls Tryd.prog 19 #[.pointer (some ⟨x.p, 0, none⟩), .string n] W fun e w' => e = .returned (.tuple #[.int .i64 (if dWrong s n true = 0 then (((s.fs n).getD []).length : Int) else 0), .int .i64 (dWrong s n true)]) ∧ W = w' := by
  have K := Lib.hid (dwrong_calls x s W B hx n true)
  by_cases h0 : dWrong s n true = 0
  · rw [if_pos h0]
    rw [h0] at K ⊢
    obtain ⟨l, hn⟩ := wrong_there h0
    have hnm := (wrong_name h0).2.2
    obtain ⟨vf, hvf, hof⟩ := hx.vals.at_ hn
    obtain ⟨Af, cf, evf, f1, f2, f3⟩ := hof.form
    subst evf
    have hlk := hx.map.look under_files (zero_bs W) n (by unfold maxLen; omega)
    rw [hvf] at hlk
    simp only [Option.getD_some] at hlk
    have c1 := hx.c1
    rw [hn]
    simp only [Option.getD_some]
    clear hx h0 hn hvf hof
    go_enter Tryd.func19, Tryd.ntmps19
    go_wp2_with (first | (go_at_call 31; refine K.out.mono ?_; rintro e w1 ⟨rfl, rfl⟩))
    go_ret2
    exact ⟨rfl, rfl⟩
  · rw [if_neg h0]
    have hne2 : (dWrong s n true != 0) = true := by simpa using h0
    generalize dWrong s n true = c at *
    go_enter Tryd.func19, Tryd.ntmps19
    go_wp2_with (first | (go_at_call 31; refine K.out.mono ?_; rintro e w1 ⟨rfl, rfl⟩))
    go_ret2
    exact ⟨rfl, rfl⟩
theorem dwrites_calls (x : DT) (s : DSt) (W : World) (B : Nat) (hx : x.At s W B) : Calls Tryd.prog 7 #[.pointer (some ⟨x.p, 0, none⟩)] W fun e w' => e = .returned (.int .i64 (s.raws.length : Int)) ∧ W = w' := by
  have K := Lib.hid (dnone_calls x s W B hx)
  have c2 := hx.c2
  obtain ⟨Ar, cr, er, r1, r2, r3⟩ := owns_form hx.raws.row
  rw [er] at c2
  clear hx er
  go_enter Tryd.func7, Tryd.ntmps7
  go_wp2_with (first | (go_at_call 15; refine K.out.mono ?_; rintro e w1 ⟨rfl, rfl⟩))
  go_ret
  exact ⟨rfl, rfl⟩
theorem Bs.subX {w : World} {A : Option Addr} {len c : Nat} {l : List UInt8} (h : Bs w (.slice A len c) l) (i n : Nat) (hi : i + n ≤ l.length) :
    Bs w (.slice (if c = i then A else A.map (fun x => x.add i)) n (c - i)) ((l.drop i).take n) := by
  obtain ⟨A0, c0, e, h1, h2, h0, h3⟩ := h
  cases e
  have hlen : ((l.drop i).take n).length = n := by simp; omega
  refine ⟨_, _, by rw [hlen], by rw [hlen]; omega, by omega, ?_, ?_⟩
  · intro hA
    cases A with
    | none => have := h0 rfl; omega
    | some ad => split at hA <;> cases hA
  · intro j u hj
    have hjn : j < n := by
      have := (List.getElem?_eq_some_iff.1 hj).1
      rw [u8s_length, hlen] at this
      exact this
    have hju : (u8s l)[i + j]? = some u := by
      rw [← hj]
      simp only [u8s, List.getElem?_map]
      rw [List.getElem?_take, if_pos hjn, List.getElem?_drop]
    obtain ⟨ad, hA, hc⟩ := h3 (i + j) u hju
    subst hA
    rw [if_neg (by omega)]
    exact ⟨ad.add i, rfl, by rw [add_add]; exact hc⟩
/-- What is read: at most k bytes from a place on. -/
def cutB (l : List UInt8) (at_ k : Nat) : List UInt8 := (l.drop at_).take (min k (l.length - at_))
set_option maxHeartbeats 1000000 in
theorem dread_ok (x : DT) (s : DSt) (n : ByteArray) (l : List UInt8) (at_ k : Nat) (W : World) (B : Nat) (hx : x.At s W B) (h0 : dWrong s n true = 0) (hn : s.fs n = some l) (ha : at_ ≤ l.length) (hk : k ≤ 4000000000000000000) (hl : l.length ≤ 100000000000000) :
    Calls Tryd.prog 38 #[.pointer (some ⟨x.p, 0, none⟩), .string n, .int .i64 (at_ : Int), .int .i64 (k : Int)] W fun e w' => ∃ v, e = .returned (.tuple #[v, .int .i64 0]) ∧ OwnB w' W.heap.size v (cutB l at_ k) ∧ Below W.heap.size W w' := by
  have K := Lib.hid (dwrong_calls x s W B hx n true)
  rw [h0] at K
  have hnm := (wrong_name h0).2.2
  obtain ⟨vf, hvf, hof⟩ := hx.vals.at_ hn
  obtain ⟨Af, cf, evf, f1, f2, f3⟩ := hof.form
  subst evf
  have hlk := hx.map.look under_files (zero_bs W) n (by unfold maxLen; omega)
  rw [hvf] at hlk
  simp only [Option.getD_some] at hlk
  have c1 := hx.c1
  have hs2 := hof.bs.subX at_ (min k (l.length - at_)) (by omega)
  have hM : ((at_ : Int) + if (l.length : Int) - (at_ : Int) < (k : Int) then (l.length : Int) - (at_ : Int) else (k : Int)).toNat - at_ = min k (l.length - at_) := by
    by_cases hh : (l.length : Int) - (at_ : Int) < (k : Int)
    · rw [if_pos hh]; omega
    · rw [if_neg hh]; omega
  have g1 : decide ((at_ : Int) < 0) = false := by rw [decide_eq_false_iff_not]; omega
  have g2 : decide ((l.length : Int) < (at_ : Int)) = false := by rw [decide_eq_false_iff_not]; omega
  have g3 : decide ((k : Int) < 0) = false := by rw [decide_eq_false_iff_not]; omega
  have g4 : wrap64 ((l.length : Int) - (at_ : Int)) = (((l.length - at_ : Nat)) : Int) := by unfold wrap64; omega
  by_cases hc : cf = at_
  · rw [if_pos hc, hc, Nat.sub_self] at hs2
    have KC := Lib.hid (bclone_calls _ _ W hs2 (by simp; omega))
    clear hx hn hvf hof hs2 h0
    go_enter Tryd.func38, Tryd.ntmps38
    go_wp2_with (first
      | (go_at_call 31; refine K.out.mono ?_; rintro e w1 ⟨rfl, rfl⟩)
      | (go_at_call 24; refine KC.out.mono ?_; rintro e w2 ⟨v2, rfl, ho2, hB2⟩))
    all_goals go_ret2
    all_goals exact ⟨_, rfl, ho2, hB2⟩
  · rw [if_neg hc] at hs2
    have KC := Lib.hid (bclone_calls _ _ W hs2 (by simp; omega))
    clear hx hn hvf hof hs2 h0
    go_enter Tryd.func38, Tryd.ntmps38
    go_wp2_with (first
      | (go_at_call 31; refine K.out.mono ?_; rintro e w1 ⟨rfl, rfl⟩)
      | (go_at_call 24; refine KC.out.mono ?_; rintro e w2 ⟨v2, rfl, ho2, hB2⟩))
    all_goals go_ret2
    all_goals exact ⟨_, rfl, ho2, hB2⟩
theorem dread_bad (x : DT) (s : DSt) (n : ByteArray) (at_ k : Int) (W : World) (B : Nat) (hx : x.At s W B) (h0 : dWrong s n true ≠ 0) :
    Calls Tryd.prog 38 #[.pointer (some ⟨x.p, 0, none⟩), .string n, .int .i64 at_, .int .i64 k] W fun e w' => e = .returned (.tuple #[.slice none 0 0, .int .i64 (dWrong s n true)]) ∧ W = w' := by
  have K := Lib.hid (dwrong_calls x s W B hx n true)
  have hne2 : (dWrong s n true != 0) = true := by simpa using h0
  generalize dWrong s n true = c at *
  go_enter Tryd.func38, Tryd.ntmps38
  go_wp2_with (first | (go_at_call 31; refine K.out.mono ?_; rintro e w1 ⟨rfl, rfl⟩))
  go_ret2
  exact ⟨rfl, rfl⟩
end Go.Proofs.YtjllkmkngjdjjaaDoor
namespace Go.Proofs.YtjllkmkngjdjjaaDoor
open Go.RowKit
set_option maxRecDepth 100000
theorem below_box2 (W : World) (o1 o2 : Obj) : Below W.heap.size W ((W.alloc o1).alloc o2) :=
  ((Below.refl _ _).alloc (Nat.le_refl _) o1).alloc (by simp) o2
theorem box_after {W w2 : World} {u0 u1 u2 u3 u4 v0 v1 v2 v3 v4 : Value} {t : TypeId} (h : Below ((W.alloc (.cells #[u0, u1, u2, u3, u4] t)).alloc (.cells #[v0, v1, v2, v3, v4] t)).heap.size ((W.alloc (.cells #[u0, u1, u2, u3, u4] t)).alloc (.cells #[v0, v1, v2, v3, v4] t)) w2) :
    w2.cell? ⟨W.heap.size + 1, 0, none⟩ = some v0 ∧ w2.cell? ⟨W.heap.size + 1, 1, none⟩ = some v1 ∧ w2.cell? ⟨W.heap.size + 1, 2, none⟩ = some v2 ∧ w2.cell? ⟨W.heap.size + 1, 3, none⟩ = some v3 ∧ w2.cell? ⟨W.heap.size + 1, 4, none⟩ = some v4 ∧
    w2.cell? ⟨W.heap.size, 0, none⟩ = some u0 ∧ w2.cell? ⟨W.heap.size, 1, none⟩ = some u1 ∧ w2.cell? ⟨W.heap.size, 2, none⟩ = some u2 ∧ w2.cell? ⟨W.heap.size, 3, none⟩ = some u3 ∧ w2.cell? ⟨W.heap.size, 4, none⟩ = some u4 ∧
    (∀ j, w2.frozen? ⟨W.heap.size + 1, j, none⟩ = false) ∧ ∀ j, w2.frozen? ⟨W.heap.size, j, none⟩ = false := by
  have hr := range_below (range_box (W.alloc (.cells #[u0, u1, u2, u3, u4] t)) [v0, v1, v2, v3, v4] t) h
  rw [World.size_alloc] at hr
  have hr1 := range_below (range_below (range_box W [u0, u1, u2, u3, u4] t) (below_alloc1 _ (.cells #[v0, v1, v2, v3, v4] t))) h
  have hf : ∀ j, ((W.alloc (.cells #[u0, u1, u2, u3, u4] t)).alloc (.cells #[v0, v1, v2, v3, v4] t)).frozen? ⟨W.heap.size + 1, j, none⟩ = false := fun j =>
    World.frozen?_alloc_at _ _ _ _ (by simp)
  have hf1 : ∀ j, ((W.alloc (.cells #[u0, u1, u2, u3, u4] t)).alloc (.cells #[v0, v1, v2, v3, v4] t)).frozen? ⟨W.heap.size, j, none⟩ = false := fun j =>
    (World.frozen?_alloc_past _ _ _ (by simp)).trans (World.frozen?_alloc_at _ _ _ _ rfl)
  exact ⟨hr 0 _ rfl, hr 1 _ rfl, hr 2 _ rfl, hr 3 _ rfl, hr 4 _ rfl, hr1 0 _ rfl, hr1 1 _ rfl, hr1 2 _ rfl, hr1 3 _ rfl, hr1 4 _ rfl, fun j => (h.frozen (by simp)).trans (hf j), fun j => (h.frozen (by simp; omega)).trans (hf1 j)⟩
theorem box_set5 {w : World} {b : Nat} {u0 u1 u2 u3 u4 : Value} (p0 : w.cell? ⟨b, 0, none⟩ = some u0) (p1 : w.cell? ⟨b, 1, none⟩ = some u1) (p2 : w.cell? ⟨b, 2, none⟩ = some u2) (p3 : w.cell? ⟨b, 3, none⟩ = some u3) (p4 : w.cell? ⟨b, 4, none⟩ = some u4) (v0 v1 v2 v3 v4 : Value) :
    (((((w.setCell ⟨b, 0, none⟩ v0).setCell ⟨b, 1, none⟩ v1).setCell ⟨b, 2, none⟩ v2).setCell ⟨b, 3, none⟩ v3).setCell ⟨b, 4, none⟩ v4).rangeAt b 0 [v0, v1, v2, v3, v4] := by
  have o : ∀ (w : World) (i j : Nat) (u v : Value), i ≠ j → w.cell? ⟨b, j, none⟩ = some v → (w.setCell ⟨b, i, none⟩ u).cell? ⟨b, j, none⟩ = some v := fun w i j u v hij h => (World.cell?_setCell_other w _ _ u (by simp [hij])).trans h
  intro j v hv
  match j, hv with
  | 0, hv => cases hv; exact (o _ 4 0 _ _ (by decide) (o _ 3 0 _ _ (by decide) (o _ 2 0 _ _ (by decide) (o _ 1 0 _ _ (by decide) (set_cell p0 v0)))))
  | 1, hv => cases hv; exact (o _ 4 1 _ _ (by decide) (o _ 3 1 _ _ (by decide) (o _ 2 1 _ _ (by decide) (set_cell (o _ 0 1 _ _ (by decide) p1) v1))))
  | 2, hv => cases hv; exact (o _ 4 2 _ _ (by decide) (o _ 3 2 _ _ (by decide) (set_cell (o _ 1 2 _ _ (by decide) (o _ 0 2 _ _ (by decide) p2)) v2)))
  | 3, hv => cases hv; exact (o _ 4 3 _ _ (by decide) (set_cell (o _ 2 3 _ _ (by decide) (o _ 1 3 _ _ (by decide) (o _ 0 3 _ _ (by decide) p3))) v3))
  | 4, hv => cases hv; exact (set_cell (o _ 3 4 _ _ (by decide) (o _ 2 4 _ _ (by decide) (o _ 1 4 _ _ (by decide) (o _ 0 4 _ _ (by decide) p4)))) v4)
  | j + 5, hv => simp at hv
set_option maxHeartbeats 1000000 in
theorem draw_calls (x : DT) (s : DSt) (W : World) (B : Nat) (hx : x.At s W B) (i : Nat) (r : RawD) (hi : s.raws[i]? = some r) (hl : r.bytes.length ≤ 100000000000000) :
    Calls Tryd.prog 10 #[.pointer (some ⟨x.p, 0, none⟩), .int .i64 (i : Int)] W fun e w' => ∃ v, e = .returned (.tuple #[.agg (rawL r v).toArray, .int .i64 0]) ∧ OwnB w' W.heap.size v r.bytes ∧ Below W.heap.size W w' := by
  have K := Lib.hid (fun w (hb : Below W.heap.size W w) => dnone_calls x s w B (hx.below hb))
  have hp : x.p < W.heap.size := hx.lt (.inl (.inl rfl))
  have c2 := hx.c2
  have hlt := (List.getElem?_eq_some_iff.1 hi).1
  obtain ⟨u, hu⟩ : ∃ u, x.us[i]? = some u := ⟨_, List.getElem?_eq_getElem (by have := hx.raws.ul; omega)⟩
  have hob := hx.raws.rb i r u hi hu
  obtain ⟨g, cr, er, r1, r2, hcell⟩ : ∃ g cr, x.vr = .slice (some ⟨g, 0, none⟩) s.raws.length cr ∧ s.raws.length ≤ cr ∧ cr ≤ maxLen ∧ W.rangeAt g (i * 5) (rawL r u) := by
    have hr := hx.raws.row
    obtain ⟨A, c, e, h1, h2, h0, h3⟩ := Row.of_owns hr
    have hg := fun j hj => h3 (i * 5 + j) _ ((rawsL_get s.raws x.us i r u j hi hu hj).trans (List.getElem?_eq_getElem (by simp [rawL]; exact hj)))
    have hA : ∃ g, A = some ⟨g, 0, none⟩ := by
      obtain ⟨hl, ⟨e1, e2⟩ | ⟨g, cap, cur, ev, hb, hg, hn, hm, hs, ht⟩⟩ := hr
      · omega
      · rw [e] at ev; cases ev; exact ⟨g, rfl⟩
    obtain ⟨g, rfl⟩ := hA
    refine ⟨g, c, e, h1, h2, fun j v hv => ?_⟩
    have hj : j < 5 := by have := (List.getElem?_eq_some_iff.1 hv).1; simpa [rawL] using this
    obtain ⟨ad, ea, hc⟩ := hg j hj
    cases ea
    rw [List.getElem?_eq_getElem (by simp [rawL]; exact hj)] at hv
    cases hv
    have ea : (⟨g, 0, none⟩ : Addr).add (i * 5 + j) = ⟨g, i * 5 + j, none⟩ := by unfold Addr.add; split <;> simp_all
    rw [ea] at hc
    exact hc
  have hidx : ∀ w : World, (Instr.indexAt 54 (.slice (some ⟨g, 0, none⟩) s.raws.length cr) (.int .i64 (i : Int))).run Tryd.prog w = .ok (.pointer (some ⟨g, i * 5, none⟩)) w := fun w => by
    have hel : Tryd.prog.elem 54 = 36 := by simp [Program.elem, Tryd.underlying54]
    have e1 := run_indexAt_slice (P := Tryd.prog) (w := w) 54 ⟨g, 0, none⟩ s.raws.length cr .i64 (i : Int) (by rw [hel]; exact Tryd.underlying54)
    rw [if_pos ⟨by omega, by omega⟩, hel] at e1
    obtain ⟨i0, hi0, hz⟩ := Option.map_eq_some_iff.1 size_raw
    rw [e1]
    have ea : (⟨g, 0, none⟩ : Addr).add (i * 5) = ⟨g, i * 5, none⟩ := by unfold Addr.add; split <;> simp_all
    simp [sizeOf, typeInfo, hi0, hz, Result.andThen, ea]
  obtain ⟨Au, cu, eu, u1, u2, u3⟩ := hob.form
  subst eu
  have KC := Lib.hid (fun w (hb : Below W.heap.size W w) => bclone_calls _ _ w (hob.bs.below hb) hl)
  have hgW : g < W.heap.size := World.block_lt_of_cell? _ _ (hcell 0 _ rfl)
  have k0 : W.cell? ⟨g, i * 5, none⟩ = some (.int .i64 (r.kind : Int)) := hcell 0 _ rfl
  have k1 : W.cell? ⟨g, i * 5 + 1, none⟩ = some (.string r.name) := hcell 1 _ rfl
  have k2 : W.cell? ⟨g, i * 5 + 2, none⟩ = some (.slice Au r.bytes.length cu) := hcell 2 _ rfl
  have k3 : W.cell? ⟨g, i * 5 + 3, none⟩ = some (.int .i64 (r.size : Int)) := hcell 3 _ rfl
  have k4 : W.cell? ⟨g, i * 5 + 4, none⟩ = some (.string r.to) := hcell 4 _ rfl
  have g1 : decide ((i : Int) < 0) = false := by rw [decide_eq_false_iff_not]; omega
  have g2 : decide ((s.raws.length : Int) ≤ (i : Int)) = false := by rw [decide_eq_false_iff_not]; omega
  rw [er] at c2
  clear hx er hob hcell
  go_enter Tryd.func10, Tryd.ntmps10
  go_wp2_with (first | (go_at_call 15; refine (K.out _ (below_alloc1 _ _)).mono ?_; rintro e w1 ⟨rfl, rfl⟩) | (go_at_call 24; refine (KC.out _ (below_box2 _ _ _)).mono ?_; rintro e w2 ⟨v2, rfl, ho2, hB2⟩; obtain ⟨A2, c2', e2, h21, h22, h23⟩ := ho2.form; subst e2; obtain ⟨q0, q1, q2, q3, q4, p0, p1, p2, p3, p4, f2, f1⟩ := box_after hB2; have hB3 := Lib.hid hB2; clear hB2))
  have oz : ∀ (j : Nat) (u : Value), w2.cell? ⟨W.heap.size, j, none⟩ = some u → (w2.setCell ⟨W.heap.size + 1, 2, none⟩ (.slice A2 r.bytes.length c2')).cell? ⟨W.heap.size, j, none⟩ = some u := fun j u h => set_other h (by simp) _
  have hrg := box_set5 (oz _ _ p0) (oz _ _ p1) (oz _ _ p2) (oz _ _ p3) (oz _ _ p4) (.int .i64 (r.kind : Int)) (.string r.name) (.slice A2 r.bytes.length c2') (.int .i64 (r.size : Int)) (.string r.to)
  have hlv := run_loadVar_mid (P := Tryd.prog) _ _ _ 36 _ _ hrg Tryd.underlying36 rfl (by rw [size_raw]; rfl)
  have hz : ((W.alloc (.cells #[.int .i64 0, .string ⟨#[]⟩, .slice none 0 0, .int .i64 0, .string ⟨#[]⟩] 36)).alloc (.cells #[.int .i64 (r.kind : Int), .string r.name, .slice Au r.bytes.length cu, .int .i64 (r.size : Int), .string r.to] 36)).heap.size = W.heap.size + 2 := by simp
  have hB4 := (below_box2 W _ _).trans ((hB3.out).mono (by rw [hz]; omega))
  have hge : ∀ k, (Value.slice A2 r.bytes.length c2').ownBlock = some k → W.heap.size + 2 ≤ k := fun k hk => by have := (ho2.lt k hk).1; omega
  refine bodyPost_ret (v := .tuple #[.agg (rawL r (.slice A2 r.bytes.length c2')).toArray, .int .i64 0]) (by rw [Go.results_cell_tmp Tryd.results10]; simp [asAddr, hlv, Result.andThen, rawL]) rfl ?_
  refine ⟨.slice A2 r.bytes.length c2', rfl, mods_owns (ho2.lower (by omega)) fun k hk => ?_, ?_⟩
  · have hk2 := hge k hk
    iterate 6 refine (Below.heap_setCell _ _ _ k (by show k ≠ _; simp; omega)).trans ?_
    rfl
  · iterate 6 refine Below.setCell ?_ (by show _ ≤ _; simp) _
    exact hB4
end Go.Proofs.YtjllkmkngjdjjaaDoor
