/- WALKS of package disk: New, none, Sector, a name, what is wrong, a clone of bytes. No statement of the seed is proved here. A DISK's RECORD: behind the files' change the raw write is put behind the others. No statement of the seed is proved here. WALK of package disk's do. No statement of the seed is proved here. -/
import Derived.Test.YtjllkmkngjdjjaaDoorDskA
import Derived.Test.YtjllkmkngjdjjaaDoorAny
import Derived.Test.YtjllkmkngjdjjaaDoorRowS
import Derived.Lib.Bytealg
import Derived.Test.YtjllkmkngjdjjaaDoorOps
namespace Go.Proofs.YtjllkmkngjdjjaaDoor
open Go.RowKit
set_option maxRecDepth 100000

theorem zero_bs (w : World) : (zeroValue 34).run Tryd.prog w = .ok (.slice none 0 0) w := by
  obtain ⟨i, hi, hz, hs, hb⟩ := info_parts info_bs
  simp [zeroValue, typeInfo, hi, hz]
theorem under_files : Tryd.prog.underlying 53 = some (.map 9 34) := by kernel_rfl
theorem bclone_calls (v : Value) (l : List UInt8) (w : World) (h : Bs w v l) (hl : l.length ≤ 100000000000000) :
    Calls Tryd.prog 24 #[v] w fun e w' => ∃ v2, e = .returned v2 ∧ OwnB w' w.heap.size v2 l ∧ Below w.heap.size w w' := by
  have HR := Lib.hid h
  obtain ⟨A, c, rfl, a1, a2, a3, -⟩ := h
  unfold maxLen at a2
  cases A with
  | none =>
    have hc := a3 rfl
    subst hc
    have hu : l = [] := List.eq_nil_of_length_eq_zero (by omega)
    subst hu
    have kk := fun (w : World) => Lib.run_eql_slice_nil (P := Tryd.prog) w 34 5 Option.none 0 0 0 0 Tryd.underlying34
    clear a1 a2 a3 hl
    go_enter Tryd.func24, Tryd.ntmps24
    go_wp2
    go_ret
    exact ⟨_, rfl, OwnB.nil _ _, Below.refl _ _⟩
  | some ad =>
    have hb1 := below_alloc1 w (.cells #[] 5)
    have hr1 := HR.out.below hb1
    have HB := Lib.hid hb1
    clear hb1 a3
    have kk := fun (w : World) => Lib.run_eql_slice_nil (P := Tryd.prog) w 34 5 (some ad) l.length c 0 0 Tryd.underlying34
    go_enter Tryd.func24, Tryd.ntmps24
    go_wp2_with (first
      | (at_builtin; refine app_u8 rfl _ _ rfl w.heap.size _ rfl [] (OwnB.zero w) _ rfl l hr1 ?_ ?_ ?_; (· simp; omega); (· simp); intro v2 w2 ho2 hg2 hat2))
    go_ret
    rw [List.nil_append] at ho2
    exact ⟨v2, rfl, ho2, below_grown HB.out hg2 (OwnB.zero w) (by simp)⟩
theorem equalIn_map_nil {P : Program} (d : Nat) (t k e : TypeId) (h : P.underlying t = some (.map k e)) (b : Nat) (w : World) : (Op.equalIn (d + 1) t (.map (some b)) (.map none)).run P w = .ok false w := by
  simp [Op.equalIn, run_underlying h]
theorem eql_map_nil {P : Program} (t k e : TypeId) (h : P.underlying t = some (.map k e)) (b : Nat) (w : World) : (binOp .eql t (.map (some b)) (.map none)).run P w = .ok (.bool false) w := by
  simp only [binOp]
  simp [Op.equal, Op.maxDepth, equalIn_map_nil 9999 t k e h b w]
theorem dnone_calls (x : DT) (s : DSt) (w : World) (B : Nat) (hx : x.At s w B) : Calls Tryd.prog 15 #[.pointer (some ⟨x.p, 0, none⟩)] w fun e w' => e = .returned (.bool false) ∧ w = w' := by
  have c1 := hx.c1
  have kk := fun w => eql_map_nil 53 _ _ under_files x.mb w
  clear hx
  go_enter Tryd.func15, Tryd.ntmps15
  go_wp2
  go_ret
  exact ⟨rfl, rfl⟩
theorem dsector_calls (x : DT) (s : DSt) (w : World) (B : Nat) (hx : x.At s w B) : Calls Tryd.prog 28 #[.pointer (some ⟨x.p, 0, none⟩)] w fun e w' => e = .returned (.int .i64 (s.sec : Int)) ∧ w = w' := by
  have c0 := hx.c0
  have K := Lib.hid (dnone_calls x s w B hx)
  clear hx
  go_enter Tryd.func28, Tryd.ntmps28
  go_wp2_with (go_at_call 15; refine K.out.mono ?_; rintro e w1 ⟨rfl, rfl⟩)
  go_ret
  exact ⟨rfl, rfl⟩
theorem dname_calls (n : ByteArray) (w : World) : Calls Tryd.prog 39 #[.string n] w fun e w' => e = .returned (.bool (nameOk n)) ∧ w = w' := by
  unfold nameOk
  by_cases h1 : 1 ≤ n.size
  · have h2 : decide ((n.size : Int) ≤ 128) = (decide (1 ≤ n.size) && decide (n.size ≤ 128)) := by
      rw [decide_eq_true h1, Bool.true_and]
      exact decide_eq_decide.2 (by omega)
    have H2 := Lib.hid h2
    clear h2
    go_enter Tryd.func39, Tryd.ntmps39
    go_wp2
    go_ret
    exact ⟨by rw [← H2.out]; rfl, rfl⟩
  · rw [decide_eq_false h1, Bool.false_and]
    go_enter Tryd.func39, Tryd.ntmps39
    go_wp2
    go_ret
    exact ⟨rfl, rfl⟩
theorem dwrong_calls (x : DT) (s : DSt) (w : World) (B : Nat) (hx : x.At s w B) (n : ByteArray) (there : Bool) :
    Calls Tryd.prog 31 #[.pointer (some ⟨x.p, 0, none⟩), .string n, .bool there] w fun e w' => e = .returned (.int .i64 (dWrong s n there)) ∧ w = w' := by
  have c1 := hx.c1
  have K := Lib.hid (dnone_calls x s w B hx)
  have KN := Lib.hid (dname_calls n w)
  cases hn : nameOk n with
  | false =>
    have hd : dWrong s n there = 2 := by unfold dWrong; rw [if_pos hn]
    rw [hd]
    rw [hn] at KN
    clear hx
    go_enter Tryd.func31, Tryd.ntmps31
    go_wp2_with (first
      | (go_at_call 15; refine K.out.mono ?_; rintro e w1 ⟨rfl, rfl⟩)
      | (go_at_call 39; refine KN.out.mono ?_; rintro e w1 ⟨rfl, rfl⟩))
    go_ret
    exact ⟨rfl, rfl⟩
  | true =>
    have hsz : n.size ≤ maxLen := by
      simp [nameOk] at hn
      unfold maxLen
      omega
    have hlk := hx.map.look_ok under_files (zero_bs w) n hsz
    rw [hx.vals.dom n] at hlk
    rw [hn] at KN
    have hd : dWrong s n there = match s.fs n with | some _ => (if there then 0 else 120) | none => (if there then 121 else 0) := by unfold dWrong; rw [if_neg (by rw [hn]; simp)]; cases s.fs n <;> rfl
    rw [hd]
    clear hd hsz hx hn
    generalize (x.f n).getD (.slice none 0 0) = v at *
    cases hs : s.fs n with
    | none =>
      rw [hs] at hlk
      simp only [Option.isSome_none] at hlk
      clear hs
      cases there <;>
      · go_enter Tryd.func31, Tryd.ntmps31
        go_wp2_with (first
          | (go_at_call 15; refine K.out.mono ?_; rintro e w1 ⟨rfl, rfl⟩)
          | (go_at_call 39; refine KN.out.mono ?_; rintro e w1 ⟨rfl, rfl⟩))
        go_ret
        exact ⟨rfl, rfl⟩
    | some l =>
      rw [hs] at hlk
      simp only [Option.isSome_some] at hlk
      clear hs
      cases there <;>
      · go_enter Tryd.func31, Tryd.ntmps31
        go_wp2_with (first
          | (go_at_call 15; refine K.out.mono ?_; rintro e w1 ⟨rfl, rfl⟩)
          | (go_at_call 39; refine KN.out.mono ?_; rintro e w1 ⟨rfl, rfl⟩))
        go_ret
        exact ⟨rfl, rfl⟩
end Go.Proofs.YtjllkmkngjdjjaaDoor
namespace Go.Proofs.YtjllkmkngjdjjaaDoor
open Go.RowKit
set_option maxRecDepth 100000
def RawOk (r : RawD) : Prop := r.name.size ≤ 128 ∧ r.to.size ≤ 128 ∧ r.size ≤ 200000000000000 ∧ 1 ≤ r.kind ∧ r.kind ≤ 5
/-- A file's bytes are laid into the map. -/
theorem DMid.put {x : DT} {s : DSt} {r : RawD} {vb : Value} {W wa wc wb : World} {B : Nat} {n : ByteArray} {v : Value} {l' : List UInt8} {row : Option Nat} (hx : x.At s W B) (hba : Below W.heap.size W wa) (hza : W.heap.size + 1 ≤ wa.heap.size) (hbox : wb.rangeAt W.heap.size 0 (rawL r vb))
    (hg : wa.grownBy wc row) (hrow : row = none ∨ ∃ v0, x.f n = some v0 ∧ row = v0.ownBlock) (ho : OwnB wc B v l') (hvk : ∀ k, v.ownBlock = some k → W.heap.size < k ∨ ∃ v0, x.f n = some v0 ∧ v0.ownBlock = some k) (ht : wc.mapTurned wb x.mb) (hmap : MapAt wb x.mb (s.raws.length + 1) (upd x.f n (some v)))
    (hfs : fsDo s.fs r = upd s.fs n (some l')) : DMid x s r vb W B (upd x.f n (some v)) wb := by
  have hmb : x.mb < W.heap.size := hx.lt (.inl (.inr (.inl rfl)))
  have hfl : ∀ n v k, x.f n = some v → v.ownBlock = some k → k < W.heap.size := fun n v k hn hk => hx.lt (.inl (.inr (.inr (.inr ⟨n, v, hn, hk⟩))))
  have hsame : ∀ k, k < W.heap.size → row ≠ some k → k ≠ x.mb → wb.heap[k]? = W.heap[k]? := fun k hk h1 h2 =>
    (turned_block ht h2).trans ((hg.block k (by omega) (fun e => h1 e.symm)).trans (hba.block k hk))
  have hne : ∀ m u k, m ≠ n → x.f m = some u → u.ownBlock = some k → row ≠ some k := fun m u k hm hu hk e => by
    rcases hrow with h | ⟨v0, h0, h⟩
    · rw [h] at e; cases e
    · rw [h] at e
      exact hx.vals.ff n m v0 u h0 hu (Ne.symm hm) k e hk
  obtain ⟨t1, t2, t3⟩ := turned_os ht
  refine ⟨hmap, ?_, fun m z k hz hk => ?_, fun k hk h1 h2 => hsame k hk (fun e => ?_) h2, fun k o hk ho' h2 => hsame k (Array.getElem?_eq_some_iff.1 hk).1 (fun e => ?_) h2, hbox, t1.trans (hg.os.trans hba.os), t2.trans (hg.tape.trans hba.tape), t3.trans (hg.output.trans hba.output), ?_⟩
  · rw [hfs]
    refine ((hx.vals.hole n).kept fun m u k hu hk => ?_).fill (mods_owns ho fun k hk => turned_block ht (fun e => ?_)) (fun m u hm hu k hk hk' => ?_)
    · by_cases e : m = n
      · subst e; rw [upd_same] at hu; cases hu
      · rw [upd_other _ _ e] at hu
        exact hsame k (hfl m u k hu hk) (hne m u k e hu hk) (fun e2 => (hx.fp m u hu).2.1 (by rw [← e2]; exact hk))
    · rcases hvk k hk with h | ⟨v0, h0, h⟩
      · omega
      · exact (hx.fp n v0 h0).2.1 (by rw [← e]; exact h)
    · rcases hvk k hk with h | ⟨v0, h0, h⟩
      · have := hfl m u k hu hk'; omega
      · exact hx.vals.ff n m v0 u h0 hu (Ne.symm hm) k h hk'
  · by_cases e : m = n
    · subst e
      rw [upd_same] at hz; cases hz
      rcases hvk k hk with h | ⟨v0, h0, h⟩
      · exact .inl h
      · exact .inr ⟨m, v0, h0, h⟩
    · rw [upd_other _ _ e] at hz
      exact .inr ⟨m, z, hz, hk⟩
  · rcases hrow with h | ⟨v0, h0, h⟩
    · rw [h] at e; cases e
    · exact h1 n v0 h0 (by rw [← h]; exact e)
  · rcases hrow with h | ⟨v0, h0, h⟩
    · rw [h] at e; cases e
    · obtain ⟨l0, -, o0⟩ := hx.vals.ofv h0
      obtain ⟨ob, g1, g2⟩ := owns_isCells o0 (by rw [← h]; exact e)
      rw [hk] at g1; cases g1
      rw [ho'] at g2; cases g2
  · have := hg.size
    have := turned_size ht
    omega
theorem DMid.record {x : DT} {s : DSt} {r : RawD} {vb vr' : Value} {W w w1 : World} {B : Nat} {f' : ByteArray → Option Value} (hm : DMid x s r vb W B f' w) (hx : x.At s W B) (hvb : OwnB W B vb r.bytes) (hap : ∀ k, vb.ownBlock = some k → ¬ x.Mut k) (hok : RawOk r)
    (ho : w1.ownsRow B 36 5 vr' (s.raws.length + 1) (rawsL s.raws x.us ++ rawL r vb)) (hg : (w.alloc (.cells (rawL r vb).toArray 36)).grownBy w1 x.vr.ownBlock) (hat : vr'.ownBlock = x.vr.ownBlock ∨ vr'.ownBlock = some (w.heap.size + 1)) :
    (DT.mk x.p x.mb vr' f' (x.us ++ [vb])).At (s.run r) (w1.setCell ⟨x.p, 2, none⟩ vr') B ∧ DStepV vb x W (DT.mk x.p x.mb vr' f' (x.us ++ [vb])) (w1.setCell ⟨x.p, 2, none⟩ vr') := by
  have hz := hm.size
  have hz1 : (w.alloc (.cells (rawL r vb).toArray 36)).heap.size = w.heap.size + 1 := by simp
  have hp : x.p < W.heap.size := hx.lt (.inl (.inl rfl))
  have hmb : x.mb < W.heap.size := hx.lt (.inl (.inr (.inl rfl)))
  have hvr : ∀ k, x.vr.ownBlock = some k → k < W.heap.size := fun k hk => hx.lt (.inl (.inr (.inr (.inl hk))))
  have hfl : ∀ n v k, x.f n = some v → v.ownBlock = some k → k < W.heap.size := fun n v k hn hk => hx.lt (.inl (.inr (.inr (.inr ⟨n, v, hn, hk⟩))))
  -- the road from w to the end
  have e1 : ∀ k, k < w.heap.size → x.vr.ownBlock ≠ some k → w1.heap[k]? = w.heap[k]? := fun k hk hne => by
    rw [hg.block k (by omega) (fun e => hne e.symm)]
    exact (below_alloc1 w _).block k hk
  have e2 : ∀ k, k ≠ x.p → (w1.setCell ⟨x.p, 2, none⟩ vr').heap[k]? = w1.heap[k]? := fun k hk => Below.heap_setCell _ _ _ _ hk
  have e3 : ∀ k, k < w.heap.size → x.vr.ownBlock ≠ some k → k ≠ x.p → (w1.setCell ⟨x.p, 2, none⟩ vr').heap[k]? = w.heap[k]? := fun k h1 h2 h3 => (e2 k h3).trans (e1 k h1 h2)
  -- .. from W
  have e4 : ∀ k, k < W.heap.size → ¬ x.Mut k → (w1.setCell ⟨x.p, 2, none⟩ vr').heap[k]? = W.heap[k]? := fun k hk hn =>
    (e3 k (by omega) (fun e => hn (.inr (.inr (.inl e)))) (fun e => hn (.inl e))).trans (hm.block k hk (fun m u hu e => hn (.inr (.inr (.inr ⟨m, u, hu, e⟩)))) (fun e => hn (.inr (.inl e))))
  have hpw : w.heap[x.p]? = W.heap[x.p]? := hm.block x.p hp (fun m u hu => (hx.fp m u hu).1) hx.pm
  have hp1 : w1.heap[x.p]? = W.heap[x.p]? := (e1 x.p (by omega) hx.rp.1).trans hpw
  have hvp : vr'.ownBlock ≠ some x.p := fun e => by
    rcases hat with h | h
    · exact hx.rp.1 (by rw [← h]; exact e)
    · rw [h] at e; have e2 := Option.some.inj e; omega
  have hvm : vr'.ownBlock ≠ some x.mb := fun e => by
    rcases hat with h | h
    · exact hx.rp.2 (by rw [← h]; exact e)
    · rw [h] at e; have e2 := Option.some.inj e; omega
  have hfne : ∀ n v k, f' n = some v → v.ownBlock = some k → x.vr.ownBlock ≠ some k ∧ k ≠ x.p ∧ k ≠ x.mb := fun n v k hn hk => by
    rcases hm.src n v k hn hk with h | ⟨m, u, hu, h⟩
    · exact ⟨fun e => by have := hvr k e; omega, by omega, by omega⟩
    · obtain ⟨a, b, c⟩ := hx.fp m u hu
      exact ⟨fun e => c k h e, fun e => a (by rw [← e]; exact h), fun e => b (by rw [← e]; exact h)⟩
  have hus : ∀ u ∈ x.us ++ [vb], (∀ k, u.ownBlock = some k → k < W.heap.size ∧ ¬ x.Mut k) := fun u hu k hk => by
    rcases List.mem_append.1 hu with h | h
    · exact ⟨hx.lt (.inr ⟨u, h, hk⟩), hx.ro u h k hk⟩
    · simp at h
      subst h
      exact ⟨(hvb.lt k hk).2, hap k hk⟩
  have hc2 := (mods_cell (a := ⟨x.p, 2, none⟩) hp1).trans hx.c2
  refine ⟨⟨hx.low, hx.lowm, ?_, ?_, set_cell hc2 _, set_frozen ((mods_frozen (a := ⟨x.p, 2, none⟩) hp1).trans hx.fr) _, hx.sec, ?_, ?_, ⟨?_, ?_, ?_, ?_⟩, hx.pm, ⟨hvp, hvm⟩, fun n v hn => ⟨fun e => (hfne n v x.p hn e).2.1 rfl, fun e => (hfne n v x.mb hn e).2.2 rfl, fun k hk hk' => ?_⟩, fun u hu k hk hM => ?_⟩, ⟨rfl, ?_, ?_, ?_, ?_, e4, ?_, rfl, fun k hM => ?_, fun u hu => ?_⟩⟩
  · exact (World.cell?_setCell_other w1 _ _ _ (by simp)).trans ((mods_cell (a := ⟨x.p, 0, none⟩) hp1).trans hx.c0)
  · exact (World.cell?_setCell_other w1 _ _ _ (by simp)).trans ((mods_cell (a := ⟨x.p, 1, none⟩) hp1).trans hx.c1)
  · show MapAt _ x.mb (s.raws ++ [r]).length f'
    rw [List.length_append]
    exact hm.map.kept (e3 x.mb (by omega) hx.rp.2 (fun e => hx.pm e.symm))
  · exact hm.vals.kept fun n v k hn hk => e3 k (hm.vals.lt hn hk).2 (hfne n v k hn hk).1 (hfne n v k hn hk).2.1
  · show World.ownsRow _ B _ 5 vr' (s.raws ++ [r]).length (rawsL (s.raws ++ [r]) (x.us ++ [vb]))
    rw [rawsL_append _ _ _ _ hx.raws.ul.symm, rawsL_one, List.length_append]
    exact mods_owns ho fun k hk => e2 k (fun e => hvp (by rw [← e]; exact hk))
  · show (x.us ++ [vb]).length = (s.raws ++ [r]).length
    rw [List.length_append, List.length_append, hx.raws.ul]
    rfl
  · intro j q u hj hu
    by_cases hlt : j < s.raws.length
    · have hj' : s.raws[j]? = some q := by
        have : (s.raws ++ [r])[j]? = some q := hj
        rwa [List.getElem?_append_left hlt] at this
      have hu' : x.us[j]? = some u := by
        have : (x.us ++ [vb])[j]? = some u := hu
        rwa [List.getElem?_append_left (by rw [hx.raws.ul]; exact hlt)] at this
      exact mods_owns (hx.raws.rb j q u hj' hu') fun k hk => e4 k (hus u (List.mem_append_left _ (List.mem_of_getElem? hu')) k hk).1 (hus u (List.mem_append_left _ (List.mem_of_getElem? hu')) k hk).2
    · have hj2 : j < (s.raws ++ [r]).length := (List.getElem?_eq_some_iff.1 hj).1
      have hj3 : j = s.raws.length := by rw [List.length_append, List.length_singleton] at hj2; omega
      subst hj3
      have a1 : (s.raws ++ [r])[s.raws.length]? = some q := hj
      have a2 : (x.us ++ [vb])[s.raws.length]? = some u := hu
      rw [List.getElem?_append_right (Nat.le_refl _)] at a1
      rw [← hx.raws.ul, List.getElem?_append_right (Nat.le_refl _)] at a2
      simp at a1 a2
      subst a1 a2
      exact mods_owns hvb fun k hk => e4 k (hvb.lt k hk).2 (hap k hk)
  · intro q hq
    have : q ∈ s.raws ++ [r] := hq
    rcases List.mem_append.1 this with h | h
    · exact hx.raws.ok q h
    · simp at h; subst h; exact hok
  · rcases hat with h | h
    · exact (hfne n v k hn hk).1 (by rw [← h]; exact hk')
    · have hk2 : vr'.ownBlock = some k := hk'
      rw [h] at hk2; cases hk2
      have := (hm.vals.lt hn hk).2
      omega
  · obtain ⟨h1, h2⟩ := hus u hu k hk
    rcases hM with rfl | rfl | hM | ⟨n, v, hn, hM⟩
    · exact h2 (.inl rfl)
    · exact h2 (.inr (.inl rfl))
    · rcases hat with h | h
      · exact h2 (.inr (.inr (.inl (by rw [← h]; exact hM))))
      · have hk2 : vr'.ownBlock = some k := hM
        rw [h] at hk2; cases hk2
        omega
    · rcases hm.src n v k hn hM with h | ⟨m, u', hu', h⟩
      · omega
      · exact h2 (.inr (.inr (.inr ⟨m, u', hu', h⟩)))
  · exact hg.os.trans hm.os
  · exact hg.tape.trans hm.tape
  · exact hg.output.trans hm.output
  · have h1 := hg.size
    have h2 : (w1.setCell ⟨x.p, 2, none⟩ vr').heap.size = w1.heap.size := by simp [World.setCell]
    omega
  · intro k o hk ho' hne
    have hlt := (Array.getElem?_eq_some_iff.1 hk).1
    refine (e3 k (by omega) (fun e => ?_) (fun e => ?_)).trans (hm.plain k o hk ho' hne)
    · obtain ⟨ob, g1, g2⟩ := owns_isCells hx.raws.row e
      rw [hk] at g1; cases g1
      rw [ho'] at g2; cases g2
    · subst e
      obtain ⟨ob, g1, g2⟩ := cell_isCells hx.c0
      rw [hk] at g1; cases g1
      rw [ho'] at g2; cases g2
  · rcases hM with rfl | rfl | hM | ⟨n, v, hn, hM⟩
    · exact .inl (.inl rfl)
    · exact .inl (.inr (.inl rfl))
    · rcases hat with h | h
      · exact .inl (.inr (.inr (.inl (by rw [← h]; exact hM))))
      · have hk2 : vr'.ownBlock = some k := hM
        rw [h] at hk2; cases hk2
        exact .inr (by omega)
    · rcases hm.src n v k hn hM with h | ⟨m, u', hu', h⟩
      · exact .inr (by omega)
      · exact .inl (.inr (.inr (.inr ⟨m, u', hu', h⟩)))
  · have : u ∈ x.us ++ [vb] := hu
    rcases List.mem_append.1 this with h | h
    · exact .inl h
    · simp at h; exact .inr (.inl h)
end Go.Proofs.YtjllkmkngjdjjaaDoor
namespace Go.Proofs.YtjllkmkngjdjjaaDoor
open Go.RowKit
set_option maxRecDepth 100000
theorem MapAt.mono {w : World} {b c c' : Nat} {f : ByteArray → Option Value} (h : MapAt w b c f) (hc : c ≤ c') : MapAt w b c' f := let ⟨D, h1, h2⟩ := h; ⟨D, h1.mono hc, h2⟩
theorem range_below {w w1 : World} {b o : Nat} {cs : List Value} (h : w.rangeAt b o cs) (hb : Below w.heap.size w w1) : w1.rangeAt b o cs := fun j v hv => cell_below hb (h j v hv)
theorem range_box (w : World) (cs : List Value) (t : TypeId) : (w.alloc (.cells cs.toArray t)).rangeAt w.heap.size 0 cs := fun j u hu => by
  rw [Nat.zero_add, cell_of_row _ w.heap.size j _ _ (0, 0) (heap_alloc_new w _)]
  simpa using hu
theorem range_mods {w w1 : World} {b o : Nat} {cs : List Value} (h : w.rangeAt b o cs) (hb : w1.heap[b]? = w.heap[b]?) : w1.rangeAt b o cs := fun j v hv => (mods_cell (a := ⟨b, o + j, none⟩) hb).trans (h j v hv)
/-- What do's reads hang on: the map's place, the box. -/
structure DS (x : DT) (b : Nat) (r : RawD) (vb : Value) (w : World) : Prop where
  c1 : w.cell? ⟨x.p, 1, none⟩ = some (.map (some x.mb))
  box : w.rangeAt b 0 (rawL r vb)
theorem DS.kind {x : DT} {b : Nat} {r : RawD} {vb : Value} {w : World} (h : DS x b r vb w) : w.cell? ⟨b, 0, none⟩ = some (.int .i64 (r.kind : Int)) := h.box 0 _ rfl
theorem DS.name {x : DT} {b : Nat} {r : RawD} {vb : Value} {w : World} (h : DS x b r vb w) : w.cell? ⟨b, 1, none⟩ = some (.string r.name) := h.box 1 _ rfl
theorem DS.bytes {x : DT} {b : Nat} {r : RawD} {vb : Value} {w : World} (h : DS x b r vb w) : w.cell? ⟨b, 2, none⟩ = some vb := h.box 2 _ rfl
theorem DS.size {x : DT} {b : Nat} {r : RawD} {vb : Value} {w : World} (h : DS x b r vb w) : w.cell? ⟨b, 3, none⟩ = some (.int .i64 (r.size : Int)) := h.box 3 _ rfl
theorem DS.to {x : DT} {b : Nat} {r : RawD} {vb : Value} {w : World} (h : DS x b r vb w) : w.cell? ⟨b, 4, none⟩ = some (.string r.to) := h.box 4 _ rfl
theorem DS.below {x : DT} {b : Nat} {r : RawD} {vb : Value} {w w1 : World} (h : DS x b r vb w) (hb : Below w.heap.size w w1) : DS x b r vb w1 := ⟨cell_below hb h.c1, range_below h.box hb⟩
theorem DS.mods {x : DT} {b : Nat} {r : RawD} {vb : Value} {w w1 : World} (h : DS x b r vb w) (h1 : w1.heap[x.p]? = w.heap[x.p]?) (h2 : w1.heap[b]? = w.heap[b]?) : DS x b r vb w1 := ⟨(mods_cell (a := ⟨x.p, 1, none⟩) h1).trans h.c1, range_mods h.box h2⟩
theorem DMid.drew {x : DT} {s : DSt} {r : RawD} {vb : Value} {W w : World} {B : Nat} {f' : ByteArray → Option Value} (h : DMid x s r vb W B f' w) : DMid x s r vb W B f' w.drew := ⟨h.map, h.vals.kept fun _ _ _ _ _ => rfl, h.src, h.block, h.plain, h.box, h.os, h.tape, h.output, h.size⟩
theorem DMid.row {x : DT} {s : DSt} {r : RawD} {vb : Value} {W w : World} {B : Nat} {f' : ByteArray → Option Value} (h : DMid x s r vb W B f' w) (hx : x.At s W B) : w.ownsRow B 36 5 x.vr s.raws.length (rawsL s.raws x.us) :=
  mods_owns hx.raws.row fun k hk => h.block k (hx.lt (.inl (.inr (.inr (.inl hk))))) (fun m u hu e => (hx.fp m u hu).2.2 k e hk) (fun e => hx.rp.2 (by rw [← e]; exact hk))
theorem DMid.pb {x : DT} {s : DSt} {r : RawD} {vb : Value} {W w : World} {B : Nat} {f' : ByteArray → Option Value} (h : DMid x s r vb W B f' w) (hx : x.At s W B) : w.heap[x.p]? = W.heap[x.p]? :=
  h.block x.p (hx.lt (.inl (.inl rfl))) (fun m u hu => (hx.fp m u hu).1) hx.pm
theorem info_raw : (Tryd.prog.info? 36).map (fun i => (i.zero.map (·.cells.size), i.size, i.bytes)) = some (some 5, 5, 72) := by kernel_rfl
theorem size_raw : (Tryd.prog.info? 36).map (·.size) = some 5 := by kernel_rfl
theorem under_raws : Tryd.prog.underlying 54 = some (.slice 36) := by kernel_rfl
theorem rawL_one (r : RawD) {vb : Value} (h : vb.oneCell' = true) : ∀ u ∈ rawL r vb, u.oneCell' = true := fun u hu => by
  simp [rawL] at hu
  rcases hu with rfl | rfl | rfl | rfl | rfl
  · rfl
  · rfl
  · exact h
  · rfl
  · rfl
theorem ld_raw {w : World} {b : Nat} {r : RawD} {vb : Value} (h : w.rangeAt b 0 (rawL r vb)) : (Instr.loadAt 36 (.pointer (some ⟨b, 0, none⟩))).run Tryd.prog w = .ok (.agg (rawL r vb).toArray) w :=
  run_loadAt_mid (P := Tryd.prog) w b 0 36 (rawL r vb) _ h Tryd.underlying36 rfl (by rw [size_raw]; rfl)
set_option maxHeartbeats 4000000 in
theorem do_append (x : DT) (s : DSt) (n : ByteArray) (l b : List UInt8) (A : Option Addr) (c : Nat) (W : World) (B : Nat) (hx : x.At s W B) (hB : B ≤ W.heap.size) (hn : s.fs n = some l) (hnm : n.size ≤ 128) (hvb : OwnB W B (.slice A b.length c) b) (hap : ∀ k, (Value.slice A b.length c).ownBlock = some k → ¬ x.Mut k)
    (hl : l.length + b.length ≤ 100000000000000) (hr : s.raws.length + 1 ≤ 1000000000) :
    Calls Tryd.prog 32 #[.pointer (some ⟨x.p, 0, none⟩), .agg #[.int .i64 2, .string n, .slice A b.length c, .int .i64 0, .string ByteArray.empty]] W fun e w' => e = .returned (.tuple #[]) ∧ ∃ y : DT, y.At (s.run (rAppend n b)) w' B ∧ DStepV (.slice A b.length c) x W y w' := by
  obtain ⟨v0, hv0, ho0⟩ := hx.vals.at_ hn
  have hsz : n.size ≤ maxLen := by unfold maxLen; omega
  have HLK := Lib.hid (fun w' (hw : Below W.heap.size W w') => (show (Instr.lookup 53 (.map (some x.mb)) (.string n) false).run Tryd.prog w' = .ok v0 w' by
    have h := (hx.below hw).map.look under_files (zero_bs w') n hsz
    rw [hv0] at h
    exact h))
  have b0 := below_alloc1 W (.cells (rawL (rAppend n b) (.slice A b.length c)).toArray 36)
  have hS0 : DS x W.heap.size (rAppend n b) (.slice A b.length c) (W.alloc (.cells (rawL (rAppend n b) (.slice A b.length c)).toArray 36)) := ⟨cell_below b0 hx.c1, range_box W _ _⟩
  go_enter Tryd.func32, Tryd.ntmps32
  go_wp2
  refine wp_region_noPanic ?_
  refine wp_region_rowS (S := fun w' => Below W.heap.size W w' ∧ DS x W.heap.size (rAppend n b) (.slice A b.length c) w') [0, 1, 2, 3, 4, 5, 6, 7] [] (by kernel_rfl) (by kernel_rfl) (fun _ _ _ _ h => h) ⟨b0.drew, hS0.below (below_drew1 _)⟩ ?_
  simp only [opsL, List.getElem?_cons_zero, List.getElem?_cons_succ, Option.toList_some, List.singleton_append]
  refine takesS_run rfl (.pointer (some ⟨x.p, 0, none⟩)) (fun w' hw => op_move _ rfl _ (by rfl) w') ?_
  simp only [Act.put, List.setIfInBounds_toArray, List.set_cons_zero, List.set_cons_succ]
  refine takesS_run rfl (.pointer (some ⟨x.p, 0, none⟩)) (fun w' hw => by go_simp) ?_
  simp only [Act.put, List.setIfInBounds_toArray, List.set_cons_zero, List.set_cons_succ]
  refine takesS_run rfl (.pointer (some ⟨x.p, 1, none⟩)) (fun w' hw => by go_simp) ?_
  simp only [Act.put, List.setIfInBounds_toArray, List.set_cons_zero, List.set_cons_succ]
  refine takesS_run rfl (.map (some x.mb)) (fun w' hw => op_load _ _ rfl _ _ (by rfl) w' (ld_cell under_files rfl hw.2.c1)) ?_
  simp only [Act.put, List.setIfInBounds_toArray, List.set_cons_zero, List.set_cons_succ]
  refine takesS_run rfl (.pointer (some ⟨W.heap.size, 1, none⟩)) (fun w' hw => by go_simp) ?_
  simp only [Act.put, List.setIfInBounds_toArray, List.set_cons_zero, List.set_cons_succ]
  refine takesS_run rfl (.string n) (fun w' hw => op_load _ _ rfl _ _ (by rfl) w' (ld_cell Tryd.underlying9 rfl hw.2.name)) ?_
  simp only [Act.put, List.setIfInBounds_toArray, List.set_cons_zero, List.set_cons_succ]
  refine takesS_run rfl (v0) (fun w' hw => op_lookup _ _ _ _ rfl _ _ _ (by rfl) (by rfl) w' (HLK.out w' hw.1)) ?_
  simp only [Act.put, List.setIfInBounds_toArray, List.set_cons_zero, List.set_cons_succ]
  refine takesS_run rfl (v0) (fun w' hw => op_assign _ rfl _ (by rfl) w') ?_
  simp only [Act.put, List.setIfInBounds_toArray, List.set_cons_zero, List.set_cons_succ]
  simp only [wpTkS, wpRowS]
  rename_i Kx hKx
  refine hKx _ _ ?_
  clear hKx
  obtain ⟨wa, hwa⟩ : ∃ wa, wa = (W.alloc (.cells (rawL (rAppend n b) (.slice A b.length c)).toArray 36)).drew := ⟨_, rfl⟩
  have hba : Below W.heap.size W wa := by rw [hwa]; exact b0.drew
  have hSa : DS x W.heap.size (rAppend n b) (.slice A b.length c) wa := by rw [hwa]; exact hS0.below (below_drew1 _)
  have hza : W.heap.size + 1 ≤ wa.heap.size := World.block_lt_of_cell? wa _ hSa.kind
  change Code.wp _ _ _ _ ((W.alloc (.cells (rawL (rAppend n b) (.slice A b.length c)).toArray 36)).drew)
  rw [← hwa]
  clear hwa b0 hS0
  have ck : wa.cell? ⟨W.heap.size, 0, none⟩ = some (.int .i64 2) := hSa.kind
  go_wp2_with fail
  refine wp_region_noPanic ?_
  refine wp_region_rowS (S := fun w' => DS x W.heap.size (rAppend n b) (.slice A b.length c) w') [0, 1, 2, 3, 4, 5, 6, 7, 8] [9, 10] (by kernel_rfl) (by kernel_rfl) (fun _ _ _ _ h => h) (hSa.below (below_drew1 _)) ?_
  simp only [opsL, List.getElem?_cons_zero, List.getElem?_cons_succ, Option.toList_some, List.singleton_append]
  refine takesS_run rfl (.pointer (some ⟨x.p, 0, none⟩)) (fun w' hw => op_move _ rfl _ (by rfl) w') ?_
  simp only [Act.put, List.setIfInBounds_toArray, List.set_cons_zero, List.set_cons_succ]
  refine takesS_run rfl (.pointer (some ⟨x.p, 0, none⟩)) (fun w' hw => by go_simp) ?_
  simp only [Act.put, List.setIfInBounds_toArray, List.set_cons_zero, List.set_cons_succ]
  refine takesS_run rfl (.pointer (some ⟨x.p, 1, none⟩)) (fun w' hw => by go_simp) ?_
  simp only [Act.put, List.setIfInBounds_toArray, List.set_cons_zero, List.set_cons_succ]
  refine takesS_run rfl (.map (some x.mb)) (fun w' hw => op_load _ _ rfl _ _ (by rfl) w' (ld_cell under_files rfl hw.c1)) ?_
  simp only [Act.put, List.setIfInBounds_toArray, List.set_cons_zero, List.set_cons_succ]
  refine takesS_run rfl (.pointer (some ⟨W.heap.size, 1, none⟩)) (fun w' hw => by go_simp) ?_
  simp only [Act.put, List.setIfInBounds_toArray, List.set_cons_zero, List.set_cons_succ]
  refine takesS_run rfl (.string n) (fun w' hw => op_load _ _ rfl _ _ (by rfl) w' (ld_cell Tryd.underlying9 rfl hw.name)) ?_
  simp only [Act.put, List.setIfInBounds_toArray, List.set_cons_zero, List.set_cons_succ]
  refine takesS_run rfl (v0) (fun w' hw => op_move _ rfl _ (by rfl) w') ?_
  simp only [Act.put, List.setIfInBounds_toArray, List.set_cons_zero, List.set_cons_succ]
  refine takesS_run rfl (.pointer (some ⟨W.heap.size, 2, none⟩)) (fun w' hw => by go_simp) ?_
  simp only [Act.put, List.setIfInBounds_toArray, List.set_cons_zero, List.set_cons_succ]
  refine takesS_run rfl (.slice A b.length c) (fun w' hw => op_load _ _ rfl _ _ (by rfl) w' (ld_cell Tryd.underlying34 rfl hw.bytes)) ?_
  simp only [Act.put, List.setIfInBounds_toArray, List.set_cons_zero, List.set_cons_succ]
  simp only [wpTkS, wpRowS, opsL, List.getElem?_cons_zero, List.getElem?_cons_succ, Option.toList_some, List.singleton_append]
  refine app_u8 rfl _ _ rfl B v0 rfl l ((ho0.below hba).below (below_drew1 wa)) (.slice A b.length c) rfl b ((hvb.bs.below hba).below (below_drew1 wa)) ?_ ?_ ?_
  · omega
  · show B ≤ wa.heap.size; omega
  intro v1 w1 ho1 hg1 hat1
  have hpW : x.p < W.heap.size := hx.lt (.inl (.inl rfl))
  have hvW : ∀ k, v0.ownBlock = some k → k < W.heap.size := fun k hk => hx.lt (.inl (.inr (.inr (.inr ⟨n, v0, hv0, hk⟩))))
  have hmW : x.mb < W.heap.size := hx.lt (.inl (.inr (.inl rfl)))
  have hza' : wa.drew.heap.size = wa.heap.size := rfl
  have hfp := hx.fp n v0 hv0
  have hS1 : DS x W.heap.size (rAppend n b) (.slice A b.length c) w1 := (hSa.below (below_drew1 _)).mods (hg1.block _ (by omega) (fun e => hfp.1 e.symm)) (hg1.block _ (by omega) (fun e => by have := hvW _ e.symm; omega))
  have hm1 : MapAt w1 x.mb s.raws.length x.f := (hx.map.kept (hba.block _ hmW)).kept (hg1.block _ (by omega) (fun e => hfp.2.1 e.symm))
  obtain ⟨w2, hrun, hm2, ht⟩ := hm1.store under_files (by unfold maxLen; omega) n hsz v1
  have hS2 : DS x W.heap.size (rAppend n b) (.slice A b.length c) w2 := hS1.mods (turned_block ht hx.pm) (turned_block ht (by omega))
  have hM : DMid x s (rAppend n b) (.slice A b.length c) W B (upd x.f n (some v1)) w2 := DMid.put hx hba.drew (by omega) hS2.box hg1 (.inr ⟨v0, hv0, rfl⟩) ho1 (fun k hk => by
    rcases hat1 with h | h
    · exact .inr ⟨v0, hv0, by rw [← h]; exact hk⟩
    · rw [h] at hk; have := Option.some.inj hk; exact .inl (by omega)) ht hm2 (by rw [run_append_fs, hn]; rfl)
  refine wpList_done hS1 ?_
  simp only [Act.put, List.setIfInBounds_toArray, List.set_cons_zero, List.set_cons_succ]
  refine wpList_update rfl _ _ _ _ rfl (.map (some x.mb)) (.string n) v1 rfl rfl rfl hrun ?_
  refine wpList_done hS2 ?_
  rename_i Ky hKy
  refine hKy _ _ ?_
  clear hKy hS1 hm1 hrun ht hm2 ho1 hg1 hat1 hSa hba ck ho0 HLK
  have hok : RawOk (rAppend n b) := ⟨hnm, by show ByteArray.empty.size ≤ 128; decide, by show 0 ≤ _; omega, by show 1 ≤ 2; omega, by show 2 ≤ 5; omega⟩
  go_wp2_with fail
  have hMd := hM.drew
  have hrow := hMd.row hx
  have hpb := hMd.pb hx
  have hc2 := (mods_cell (a := ⟨x.p, 2, none⟩) hpb).trans hx.c2
  have hf2 := (mods_frozen (a := ⟨x.p, 2, none⟩) hpb).trans hx.fr
  have hzM := hMd.size
  have hpW' : x.p < W.heap.size := hx.lt (.inl (.inl rfl))
  obtain ⟨vr', w3, hap3, ho3, hg3, hat3⟩ := run_app_any (w := w2.drew) 54 54 36 5 72 under_raws info_raw (by omega) (by omega) B s.raws.length x.vr (rawsL s.raws x.us) hrow (rawL (rAppend n b) (.slice A b.length c)) rfl (rawL_one _ rfl) (by omega) (by omega)
  obtain ⟨hAt, hSt⟩ := hMd.record hx hvb hap hok ho3 hg3 hat3
  obtain ⟨Ar, cr, er, -, -, -⟩ := owns_form ho3
  subst er
  have hvrp : x.vr.ownBlock ≠ some x.p := hx.rp.1
  have hvrb : x.vr.ownBlock ≠ some W.heap.size := fun e => by have := hx.lt (.inl (.inr (.inr (.inl e)))); omega
  have hbx0 := hMd.box
  have hbx1 := range_below hbx0 (below_alloc1 w2.drew (.cells (rawL (rAppend n b) (.slice A b.length c)).toArray 36))
  have hza1 : (w2.drew.alloc (.cells (rawL (rAppend n b) (.slice A b.length c)).toArray 36)).heap.size = w2.drew.heap.size + 1 := by simp
  have hbx3 := range_mods hbx1 (hg3.block W.heap.size (by omega) (fun e => hvrb e.symm))
  have hp3 : w3.heap[x.p]? = w2.drew.heap[x.p]? := (hg3.block x.p (by omega) (fun e => hvrp e.symm)).trans ((below_alloc1 w2.drew _).block x.p (by omega))
  have hc3 := (mods_cell (a := ⟨x.p, 2, none⟩) hp3).trans hc2
  have hf3 := (mods_frozen (a := ⟨x.p, 2, none⟩) hp3).trans hf2
  have hbx4 : (w3.setCell ⟨x.p, 2, none⟩ (.slice Ar (s.raws.length + 1) cr)).rangeAt W.heap.size 0 (rawL (rAppend n b) (.slice A b.length c)) := range_mods hbx3 (Below.heap_setCell _ _ _ _ (by show W.heap.size ≠ x.p; omega))
  have hcf := And.intro hc3 hf3
  refine wp_region_noPanic ?_
  refine wp_region_forkS (fun w' => w'.rangeAt W.heap.size 0 (rawL (rAppend n b) (.slice A b.length c))) [0, 1, 2, 3, 5] 4 6 [7, 8, 9, 10] (by kernel_rfl) (by kernel_rfl) (fun _ _ _ _ h => h) hbx0 ?_
  simp only [opsL, List.getElem?_cons_zero, List.getElem?_cons_succ, Option.toList_some, List.singleton_append]
  refine takesS_run rfl (.pointer (some ⟨x.p, 0, none⟩)) (fun w' hw => op_move _ rfl _ (by rfl) w') ?_
  simp only [Act.put, List.setIfInBounds_toArray, List.set_cons_zero, List.set_cons_succ]
  refine takesS_run rfl (.pointer (some ⟨x.p, 0, none⟩)) (fun w' hw => op_move _ rfl _ (by rfl) w') ?_
  simp only [Act.put, List.setIfInBounds_toArray, List.set_cons_zero, List.set_cons_succ]
  refine takesS_run rfl (.pointer (some ⟨x.p, 0, none⟩)) (fun w' hw => by go_simp) ?_
  simp only [Act.put, List.setIfInBounds_toArray, List.set_cons_zero, List.set_cons_succ]
  refine takesS_run rfl (.pointer (some ⟨x.p, 2, none⟩)) (fun w' hw => by go_simp) ?_
  simp only [Act.put, List.setIfInBounds_toArray, List.set_cons_zero, List.set_cons_succ]
  refine takesS_run rfl (.agg (rawL (rAppend n b) (.slice A b.length c)).toArray) (fun w' hw => op_load _ _ rfl _ _ (by rfl) w' (ld_raw hw)) ?_
  simp only [Act.put, List.setIfInBounds_toArray, List.set_cons_zero, List.set_cons_succ]
  simp only [wpTkS]
  have hc2a := cell_below (below_alloc1 w2.drew (.cells (rawL (rAppend n b) (.slice A b.length c)).toArray 36)) hc2
  refine ⟨_, _, x.vr, .slice (some ⟨w2.drew.heap.size, 0, none⟩) 1 1, _, rfl, rfl, rfl, rfl, op_load _ _ rfl _ _ (by rfl) _ (ld_cell under_raws rfl hc2), run_op_one_any _ 54 36 5 72 rfl under_raws info_raw (by omega) (by omega) (rawL (rAppend n b) (.slice A b.length c)) (by rfl) rfl, run_op_one_any _ 54 36 5 72 rfl under_raws info_raw (by omega) (by omega) (rawL (rAppend n b) (.slice A b.length c)) (by rfl) rfl, op_load _ _ rfl _ _ (by rfl) _ (ld_cell under_raws rfl hc2a), hbx1, rfl, ?_⟩
  simp only [Act.put, List.setIfInBounds_toArray, List.set_cons_zero, List.set_cons_succ]
  simp only [wpRowS, opsL, List.getElem?_cons_zero, List.getElem?_cons_succ, Option.toList_some, List.singleton_append]
  refine wpList_val rfl _ _ (op_append _ _ _ rfl _ _ (by rfl) (by rfl) _ _ hap3) ?_
  refine wpList_done hbx3 ?_
  simp only [Act.put, List.setIfInBounds_toArray, List.set_cons_zero, List.set_cons_succ]
  go_wp2_with fail
  refine norm_done hbx3 ?_
  go_wp2_with fail
  refine norm_done hbx3 ?_
  go_wp2_with fail
  refine norm_done hbx4 ?_
  refine noPanic_normal ?_
  exact bodyPost_end (results_none rfl _ _ _) rfl ⟨rfl, _, hAt, hSt⟩
set_option maxHeartbeats 4000000 in
theorem do_create (x : DT) (s : DSt) (n : ByteArray) (W : World) (B : Nat) (hx : x.At s W B) (hB : B ≤ W.heap.size) (hnm : n.size ≤ 128) (hr : s.raws.length + 1 ≤ 1000000000) :
    Calls Tryd.prog 32 #[.pointer (some ⟨x.p, 0, none⟩), .agg #[.int .i64 1, .string n, .slice none 0 0, .int .i64 0, .string ByteArray.empty]] W fun e w' => e = .returned (.tuple #[]) ∧ ∃ y : DT, y.At (s.run (rCreate n)) w' B ∧ DStepV (.slice none 0 0) x W y w' := by
  have hsz : n.size ≤ maxLen := by unfold maxLen; omega
  have hvb : OwnB W B (.slice none 0 0) (rCreate n).bytes := OwnB.nil _ _
  have hap : ∀ k, (Value.slice none 0 0).ownBlock = some k → ¬ x.Mut k := fun k hk => by cases hk
  obtain ⟨v0, hv0⟩ : ∃ v0, v0 = (x.f n).getD (.slice none 0 0) := ⟨_, rfl⟩
  have HLK := Lib.hid (fun w' (hw : Below W.heap.size W w') => (show (Instr.lookup 53 (.map (some x.mb)) (.string n) false).run Tryd.prog w' = .ok v0 w' by
    rw [hv0]
    exact (hx.below hw).map.look under_files (zero_bs w') n hsz))
  clear hv0
  have b0 := below_alloc1 W (.cells (rawL (rCreate n) (.slice none 0 0)).toArray 36)
  have hS0 : DS x W.heap.size (rCreate n) (.slice none 0 0) (W.alloc (.cells (rawL (rCreate n) (.slice none 0 0)).toArray 36)) := ⟨cell_below b0 hx.c1, range_box W _ _⟩
  go_enter Tryd.func32, Tryd.ntmps32
  go_wp2
  refine wp_region_noPanic ?_
  refine wp_region_rowS (S := fun w' => Below W.heap.size W w' ∧ DS x W.heap.size (rCreate n) (.slice none 0 0) w') [0, 1, 2, 3, 4, 5, 6, 7] [] (by kernel_rfl) (by kernel_rfl) (fun _ _ _ _ h => h) ⟨b0.drew, hS0.below (below_drew1 _)⟩ ?_
  simp only [opsL, List.getElem?_cons_zero, List.getElem?_cons_succ, Option.toList_some, List.singleton_append]
  refine takesS_run rfl (.pointer (some ⟨x.p, 0, none⟩)) (fun w' hw => op_move _ rfl _ (by rfl) w') ?_
  simp only [Act.put, List.setIfInBounds_toArray, List.set_cons_zero, List.set_cons_succ]
  refine takesS_run rfl (.pointer (some ⟨x.p, 0, none⟩)) (fun w' hw => by go_simp) ?_
  simp only [Act.put, List.setIfInBounds_toArray, List.set_cons_zero, List.set_cons_succ]
  refine takesS_run rfl (.pointer (some ⟨x.p, 1, none⟩)) (fun w' hw => by go_simp) ?_
  simp only [Act.put, List.setIfInBounds_toArray, List.set_cons_zero, List.set_cons_succ]
  refine takesS_run rfl (.map (some x.mb)) (fun w' hw => op_load _ _ rfl _ _ (by rfl) w' (ld_cell under_files rfl hw.2.c1)) ?_
  simp only [Act.put, List.setIfInBounds_toArray, List.set_cons_zero, List.set_cons_succ]
  refine takesS_run rfl (.pointer (some ⟨W.heap.size, 1, none⟩)) (fun w' hw => by go_simp) ?_
  simp only [Act.put, List.setIfInBounds_toArray, List.set_cons_zero, List.set_cons_succ]
  refine takesS_run rfl (.string n) (fun w' hw => op_load _ _ rfl _ _ (by rfl) w' (ld_cell Tryd.underlying9 rfl hw.2.name)) ?_
  simp only [Act.put, List.setIfInBounds_toArray, List.set_cons_zero, List.set_cons_succ]
  refine takesS_run rfl (v0) (fun w' hw => op_lookup _ _ _ _ rfl _ _ _ (by rfl) (by rfl) w' (HLK.out w' hw.1)) ?_
  simp only [Act.put, List.setIfInBounds_toArray, List.set_cons_zero, List.set_cons_succ]
  refine takesS_run rfl (v0) (fun w' hw => op_assign _ rfl _ (by rfl) w') ?_
  simp only [Act.put, List.setIfInBounds_toArray, List.set_cons_zero, List.set_cons_succ]
  simp only [wpTkS, wpRowS]
  rename_i Kx hKx
  refine hKx _ _ ?_
  clear hKx
  obtain ⟨wa, hwa⟩ : ∃ wa, wa = (W.alloc (.cells (rawL (rCreate n) (.slice none 0 0)).toArray 36)).drew := ⟨_, rfl⟩
  have hba : Below W.heap.size W wa := by rw [hwa]; exact b0.drew
  have hSa : DS x W.heap.size (rCreate n) (.slice none 0 0) wa := by rw [hwa]; exact hS0.below (below_drew1 _)
  have hza : W.heap.size + 1 ≤ wa.heap.size := World.block_lt_of_cell? wa _ hSa.kind
  change Code.wp _ _ _ _ ((W.alloc (.cells (rawL (rCreate n) (.slice none 0 0)).toArray 36)).drew)
  rw [← hwa]
  clear hwa b0 hS0
  have ck : wa.cell? ⟨W.heap.size, 0, none⟩ = some (.int .i64 1) := hSa.kind
  go_wp2_with fail
  refine wp_region_noPanic ?_
  refine wp_region_rowS (S := fun w' => DS x W.heap.size (rCreate n) (.slice none 0 0) w') [0, 1, 2, 3, 4, 5] [6] (by kernel_rfl) (by kernel_rfl) (fun _ _ _ _ h => h) (hSa.below (below_drew1 _)) ?_
  simp only [opsL, List.getElem?_cons_zero, List.getElem?_cons_succ, Option.toList_some, List.singleton_append]
  refine takesS_run rfl (.pointer (some ⟨x.p, 0, none⟩)) (fun w' hw => op_move _ rfl _ (by rfl) w') ?_
  simp only [Act.put, List.setIfInBounds_toArray, List.set_cons_zero, List.set_cons_succ]
  refine takesS_run rfl (.pointer (some ⟨x.p, 0, none⟩)) (fun w' hw => by go_simp) ?_
  simp only [Act.put, List.setIfInBounds_toArray, List.set_cons_zero, List.set_cons_succ]
  refine takesS_run rfl (.pointer (some ⟨x.p, 1, none⟩)) (fun w' hw => by go_simp) ?_
  simp only [Act.put, List.setIfInBounds_toArray, List.set_cons_zero, List.set_cons_succ]
  refine takesS_run rfl (.map (some x.mb)) (fun w' hw => op_load _ _ rfl _ _ (by rfl) w' (ld_cell under_files rfl hw.c1)) ?_
  simp only [Act.put, List.setIfInBounds_toArray, List.set_cons_zero, List.set_cons_succ]
  refine takesS_run rfl (.pointer (some ⟨W.heap.size, 1, none⟩)) (fun w' hw => by go_simp) ?_
  simp only [Act.put, List.setIfInBounds_toArray, List.set_cons_zero, List.set_cons_succ]
  refine takesS_run rfl (.string n) (fun w' hw => op_load _ _ rfl _ _ (by rfl) w' (ld_cell Tryd.underlying9 rfl hw.name)) ?_
  simp only [Act.put, List.setIfInBounds_toArray, List.set_cons_zero, List.set_cons_succ]
  simp only [wpTkS, wpRowS, opsL, List.getElem?_cons_zero, List.getElem?_cons_succ, Option.toList_some, List.singleton_append]
  have hmW : x.mb < W.heap.size := hx.lt (.inl (.inr (.inl rfl)))
  have hm1 : MapAt wa.drew x.mb s.raws.length x.f := hx.map.kept (hba.block _ hmW)
  obtain ⟨w2, hrun, hm2, ht⟩ := hm1.store under_files (by unfold maxLen; omega) n hsz (.slice none 0 0)
  have hS2 : DS x W.heap.size (rCreate n) (.slice none 0 0) w2 := (hSa.below (below_drew1 _)).mods (turned_block ht hx.pm) (turned_block ht (by omega))
  have hM : DMid x s (rCreate n) (.slice none 0 0) W B (upd x.f n (some (.slice none 0 0))) w2 := DMid.put (wa := wa.drew) (wc := wa.drew) (row := none) hx hba.drew hza hS2.box ⟨rfl, rfl, rfl, Nat.le_refl _, fun _ _ _ => rfl⟩ (.inl rfl) (OwnB.nil _ _) (fun k hk => (by cases hk)) ht hm2 rfl
  refine wpList_update rfl _ _ _ _ rfl (.map (some x.mb)) (.string n) (.slice none 0 0) rfl rfl rfl hrun ?_
  refine wpList_done hS2 ?_
  rename_i Ky hKy
  refine hKy _ _ ?_
  clear hKy hm1 hrun ht hm2 hSa hba ck HLK
  have hok : RawOk (rCreate n) := ⟨hnm, by show ByteArray.empty.size ≤ 128; decide, by show 0 ≤ _; omega, by show 1 ≤ 1; omega, by show 1 ≤ 5; omega⟩
  go_wp2_with fail
  have hMd := hM.drew
  have hrow := hMd.row hx
  have hpb := hMd.pb hx
  have hc2 := (mods_cell (a := ⟨x.p, 2, none⟩) hpb).trans hx.c2
  have hf2 := (mods_frozen (a := ⟨x.p, 2, none⟩) hpb).trans hx.fr
  have hzM := hMd.size
  have hpW' : x.p < W.heap.size := hx.lt (.inl (.inl rfl))
  obtain ⟨vr', w3, hap3, ho3, hg3, hat3⟩ := run_app_any (w := w2.drew) 54 54 36 5 72 under_raws info_raw (by omega) (by omega) B s.raws.length x.vr (rawsL s.raws x.us) hrow (rawL (rCreate n) (.slice none 0 0)) rfl (rawL_one _ rfl) (by omega) (by omega)
  obtain ⟨hAt, hSt⟩ := hMd.record hx hvb hap hok ho3 hg3 hat3
  obtain ⟨Ar, cr, er, -, -, -⟩ := owns_form ho3
  subst er
  have hvrp : x.vr.ownBlock ≠ some x.p := hx.rp.1
  have hvrb : x.vr.ownBlock ≠ some W.heap.size := fun e => by have := hx.lt (.inl (.inr (.inr (.inl e)))); omega
  have hbx0 := hMd.box
  have hbx1 := range_below hbx0 (below_alloc1 w2.drew (.cells (rawL (rCreate n) (.slice none 0 0)).toArray 36))
  have hza1 : (w2.drew.alloc (.cells (rawL (rCreate n) (.slice none 0 0)).toArray 36)).heap.size = w2.drew.heap.size + 1 := by simp
  have hbx3 := range_mods hbx1 (hg3.block W.heap.size (by omega) (fun e => hvrb e.symm))
  have hp3 : w3.heap[x.p]? = w2.drew.heap[x.p]? := (hg3.block x.p (by omega) (fun e => hvrp e.symm)).trans ((below_alloc1 w2.drew _).block x.p (by omega))
  have hc3 := (mods_cell (a := ⟨x.p, 2, none⟩) hp3).trans hc2
  have hf3 := (mods_frozen (a := ⟨x.p, 2, none⟩) hp3).trans hf2
  have hbx4 : (w3.setCell ⟨x.p, 2, none⟩ (.slice Ar (s.raws.length + 1) cr)).rangeAt W.heap.size 0 (rawL (rCreate n) (.slice none 0 0)) := range_mods hbx3 (Below.heap_setCell _ _ _ _ (by show W.heap.size ≠ x.p; omega))
  have hcf := And.intro hc3 hf3
  refine wp_region_noPanic ?_
  refine wp_region_forkS (fun w' => w'.rangeAt W.heap.size 0 (rawL (rCreate n) (.slice none 0 0))) [0, 1, 2, 3, 5] 4 6 [7, 8, 9, 10] (by kernel_rfl) (by kernel_rfl) (fun _ _ _ _ h => h) hbx0 ?_
  simp only [opsL, List.getElem?_cons_zero, List.getElem?_cons_succ, Option.toList_some, List.singleton_append]
  refine takesS_run rfl (.pointer (some ⟨x.p, 0, none⟩)) (fun w' hw => op_move _ rfl _ (by rfl) w') ?_
  simp only [Act.put, List.setIfInBounds_toArray, List.set_cons_zero, List.set_cons_succ]
  refine takesS_run rfl (.pointer (some ⟨x.p, 0, none⟩)) (fun w' hw => op_move _ rfl _ (by rfl) w') ?_
  simp only [Act.put, List.setIfInBounds_toArray, List.set_cons_zero, List.set_cons_succ]
  refine takesS_run rfl (.pointer (some ⟨x.p, 0, none⟩)) (fun w' hw => by go_simp) ?_
  simp only [Act.put, List.setIfInBounds_toArray, List.set_cons_zero, List.set_cons_succ]
  refine takesS_run rfl (.pointer (some ⟨x.p, 2, none⟩)) (fun w' hw => by go_simp) ?_
  simp only [Act.put, List.setIfInBounds_toArray, List.set_cons_zero, List.set_cons_succ]
  refine takesS_run rfl (.agg (rawL (rCreate n) (.slice none 0 0)).toArray) (fun w' hw => op_load _ _ rfl _ _ (by rfl) w' (ld_raw hw)) ?_
  simp only [Act.put, List.setIfInBounds_toArray, List.set_cons_zero, List.set_cons_succ]
  simp only [wpTkS]
  have hc2a := cell_below (below_alloc1 w2.drew (.cells (rawL (rCreate n) (.slice none 0 0)).toArray 36)) hc2
  refine ⟨_, _, x.vr, .slice (some ⟨w2.drew.heap.size, 0, none⟩) 1 1, _, rfl, rfl, rfl, rfl, op_load _ _ rfl _ _ (by rfl) _ (ld_cell under_raws rfl hc2), run_op_one_any _ 54 36 5 72 rfl under_raws info_raw (by omega) (by omega) (rawL (rCreate n) (.slice none 0 0)) (by rfl) rfl, run_op_one_any _ 54 36 5 72 rfl under_raws info_raw (by omega) (by omega) (rawL (rCreate n) (.slice none 0 0)) (by rfl) rfl, op_load _ _ rfl _ _ (by rfl) _ (ld_cell under_raws rfl hc2a), hbx1, rfl, ?_⟩
  simp only [Act.put, List.setIfInBounds_toArray, List.set_cons_zero, List.set_cons_succ]
  simp only [wpRowS, opsL, List.getElem?_cons_zero, List.getElem?_cons_succ, Option.toList_some, List.singleton_append]
  refine wpList_val rfl _ _ (op_append _ _ _ rfl _ _ (by rfl) (by rfl) _ _ hap3) ?_
  refine wpList_done hbx3 ?_
  simp only [Act.put, List.setIfInBounds_toArray, List.set_cons_zero, List.set_cons_succ]
  go_wp2_with fail
  refine norm_done hbx3 ?_
  go_wp2_with fail
  refine norm_done hbx3 ?_
  go_wp2_with fail
  refine norm_done hbx4 ?_
  refine noPanic_normal ?_
  exact bodyPost_end (results_none rfl _ _ _) rfl ⟨rfl, _, hAt, hSt⟩
end Go.Proofs.YtjllkmkngjdjjaaDoor
