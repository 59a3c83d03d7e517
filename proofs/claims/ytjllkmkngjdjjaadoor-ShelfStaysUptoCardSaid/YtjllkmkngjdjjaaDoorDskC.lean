/- A DISK's RECORD: behind the files' change the raw write is put behind the others. No statement of the seed is proved here. -/
import Derived.Test.YtjllkmkngjdjjaaDoorDskB
namespace Go.Proofs.YtjllkmkngjdjjaaDoor
open Go.RowKit
set_option maxRecDepth 100000
def RawOk (r : RawD) : Prop := r.name.size ≤ 128 ∧ r.to.size ≤ 128 ∧ r.size ≤ 200000000000000 ∧ 1 ≤ r.kind ∧ r.kind ≤ 5
/-- A file's bytes are laid into the map. -/
theorem DMid.put {x : DT} {s : DSt} {r : RawD} {vb : Value} {W wa wc wb : World} {B : Nat} {n : ByteArray} {v : Value} {l' : List UInt8} {row : Option Nat} (hx : x.At s W B) (hba : Below W.heap.size W wa) (hza : W.heap.size + 1 ≤ wa.heap.size) (hbox : wb.rangeAt W.heap.size 0 (rawL r vb))
    (hg : wa.grownBy wc row) (hrow : row = none ∨ ∃ v0, x.f n = some v0 ∧ row = v0.ownBlock) (ho : OwnB wc B v l') (hvk : ∀ k, v.ownBlock = some k → W.heap.size < k ∨ ∃ v0, x.f n = some v0 ∧ v0.ownBlock = some k) (ht : wc.mapTurned wb x.mb) (hmap : MapAt wb x.mb (s.raws.length + 1) (upd x.f n (some v)))
    (hfs : fsDo s.fs r = upd s.fs n (some l')) : DMid x s r vb W B (upd x.f n (some v)) wb := by
  have hmb : x.mb < W.heap.size := hx.lt (.inl (.inr (.inl rfl)))
  have hfl : ∀ n v k, x.f n = some v → v.ownBlock = some k → k < W.heap.size := fun n v k hn hk => hx.lt (.inl (.inr (.inr (.inr ⟨n, v, hn, hk⟩))))
  have hsame : ∀ k, k < W.heap.size → row ≠ some k → k ≠ x.mb → wb.heap[k]? = W.heap[k]? := fun k hk h1 h2 =>
    (turned_block ht h2).trans ((hg.block k (by omega) (fun e => h1 e.symm)).trans (hba.block k hk))
  have hne : ∀ m u k, m ≠ n → x.f m = some u → u.ownBlock = some k → row ≠ some k := fun m u k hm hu hk e => by
    rcases hrow with h | ⟨v0, h0, h⟩
    · rw [h] at e; cases e
    · rw [h] at e
      exact hx.vals.ff n m v0 u h0 hu (Ne.symm hm) k e hk
  obtain ⟨t1, t2, t3⟩ := turned_os ht
  refine ⟨hmap, ?_, fun m z k hz hk => ?_, fun k hk h1 h2 => hsame k hk (fun e => ?_) h2, fun k o hk ho' h2 => hsame k (Array.getElem?_eq_some_iff.1 hk).1 (fun e => ?_) h2, hbox, t1.trans (hg.os.trans hba.os), t2.trans (hg.tape.trans hba.tape), t3.trans (hg.output.trans hba.output), ?_⟩
  · rw [hfs]
    refine ((hx.vals.hole n).kept fun m u k hu hk => ?_).fill (mods_owns ho fun k hk => turned_block ht (fun e => ?_)) (fun m u hm hu k hk hk' => ?_)
    · by_cases e : m = n
      · subst e; rw [upd_same] at hu; cases hu
      · rw [upd_other _ _ e] at hu
        exact hsame k (hfl m u k hu hk) (hne m u k e hu hk) (fun e2 => (hx.fp m u hu).2.1 (by rw [← e2]; exact hk))
    · rcases hvk k hk with h | ⟨v0, h0, h⟩
      · omega
      · exact (hx.fp n v0 h0).2.1 (by rw [← e]; exact h)
    · rcases hvk k hk with h | ⟨v0, h0, h⟩
      · have := hfl m u k hu hk'; omega
      · exact hx.vals.ff n m v0 u h0 hu (Ne.symm hm) k h hk'
  · by_cases e : m = n
    · subst e
      rw [upd_same] at hz; cases hz
      rcases hvk k hk with h | ⟨v0, h0, h⟩
      · exact .inl h
      · exact .inr ⟨m, v0, h0, h⟩
    · rw [upd_other _ _ e] at hz
      exact .inr ⟨m, z, hz, hk⟩
  · rcases hrow with h | ⟨v0, h0, h⟩
    · rw [h] at e; cases e
    · exact h1 n v0 h0 (by rw [← h]; exact e)
  · rcases hrow with h | ⟨v0, h0, h⟩
    · rw [h] at e; cases e
    · obtain ⟨l0, -, o0⟩ := hx.vals.ofv h0
      obtain ⟨ob, g1, g2⟩ := owns_isCells o0 (by rw [← h]; exact e)
      rw [hk] at g1; cases g1
      rw [ho'] at g2; cases g2
  · have := hg.size
    have := turned_size ht
    omega
theorem DMid.record {x : DT} {s : DSt} {r : RawD} {vb vr' : Value} {W w w1 : World} {B : Nat} {f' : ByteArray → Option Value} (hm : DMid x s r vb W B f' w) (hx : x.At s W B) (hvb : OwnB W B vb r.bytes) (hap : ∀ k, vb.ownBlock = some k → ¬ x.Mut k) (hok : RawOk r)
    (ho : w1.ownsRow B 36 5 vr' (s.raws.length + 1) (rawsL s.raws x.us ++ rawL r vb)) (hg : (w.alloc (.cells (rawL r vb).toArray 36)).grownBy w1 x.vr.ownBlock) (hat : vr'.ownBlock = x.vr.ownBlock ∨ vr'.ownBlock = some (w.heap.size + 1)) :
    (DT.mk x.p x.mb vr' f' (x.us ++ [vb])).At (s.run r) (w1.setCell ⟨x.p, 2, none⟩ vr') B ∧ DStepV vb x W (DT.mk x.p x.mb vr' f' (x.us ++ [vb])) (w1.setCell ⟨x.p, 2, none⟩ vr') := by
  have hz := hm.size
  have hz1 : (w.alloc (.cells (rawL r vb).toArray 36)).heap.size = w.heap.size + 1 := by simp
  have hp : x.p < W.heap.size := hx.lt (.inl (.inl rfl))
  have hmb : x.mb < W.heap.size := hx.lt (.inl (.inr (.inl rfl)))
  have hvr : ∀ k, x.vr.ownBlock = some k → k < W.heap.size := fun k hk => hx.lt (.inl (.inr (.inr (.inl hk))))
  have hfl : ∀ n v k, x.f n = some v → v.ownBlock = some k → k < W.heap.size := fun n v k hn hk => hx.lt (.inl (.inr (.inr (.inr ⟨n, v, hn, hk⟩))))
  -- the road from w to the end
  have e1 : ∀ k, k < w.heap.size → x.vr.ownBlock ≠ some k → w1.heap[k]? = w.heap[k]? := fun k hk hne => by
    rw [hg.block k (by omega) (fun e => hne e.symm)]
    exact (below_alloc1 w _).block k hk
  have e2 : ∀ k, k ≠ x.p → (w1.setCell ⟨x.p, 2, none⟩ vr').heap[k]? = w1.heap[k]? := fun k hk => Below.heap_setCell _ _ _ _ hk
  have e3 : ∀ k, k < w.heap.size → x.vr.ownBlock ≠ some k → k ≠ x.p → (w1.setCell ⟨x.p, 2, none⟩ vr').heap[k]? = w.heap[k]? := fun k h1 h2 h3 => (e2 k h3).trans (e1 k h1 h2)
  -- .. from W
  have e4 : ∀ k, k < W.heap.size → ¬ x.Mut k → (w1.setCell ⟨x.p, 2, none⟩ vr').heap[k]? = W.heap[k]? := fun k hk hn =>
    (e3 k (by omega) (fun e => hn (.inr (.inr (.inl e)))) (fun e => hn (.inl e))).trans (hm.block k hk (fun m u hu e => hn (.inr (.inr (.inr ⟨m, u, hu, e⟩)))) (fun e => hn (.inr (.inl e))))
  have hpw : w.heap[x.p]? = W.heap[x.p]? := hm.block x.p hp (fun m u hu => (hx.fp m u hu).1) hx.pm
  have hp1 : w1.heap[x.p]? = W.heap[x.p]? := (e1 x.p (by omega) hx.rp.1).trans hpw
  have hvp : vr'.ownBlock ≠ some x.p := fun e => by
    rcases hat with h | h
    · exact hx.rp.1 (by rw [← h]; exact e)
    · rw [h] at e; have e2 := Option.some.inj e; omega
  have hvm : vr'.ownBlock ≠ some x.mb := fun e => by
    rcases hat with h | h
    · exact hx.rp.2 (by rw [← h]; exact e)
    · rw [h] at e; have e2 := Option.some.inj e; omega
  have hfne : ∀ n v k, f' n = some v → v.ownBlock = some k → x.vr.ownBlock ≠ some k ∧ k ≠ x.p ∧ k ≠ x.mb := fun n v k hn hk => by
    rcases hm.src n v k hn hk with h | ⟨m, u, hu, h⟩
    · exact ⟨fun e => by have := hvr k e; omega, by omega, by omega⟩
    · obtain ⟨a, b, c⟩ := hx.fp m u hu
      exact ⟨fun e => c k h e, fun e => a (by rw [← e]; exact h), fun e => b (by rw [← e]; exact h)⟩
  have hus : ∀ u ∈ x.us ++ [vb], (∀ k, u.ownBlock = some k → k < W.heap.size ∧ ¬ x.Mut k) := fun u hu k hk => by
    rcases List.mem_append.1 hu with h | h
    · exact ⟨hx.lt (.inr ⟨u, h, hk⟩), hx.ro u h k hk⟩
    · simp at h
      subst h
      exact ⟨(hvb.lt k hk).2, hap k hk⟩
  have hc2 := (mods_cell (a := ⟨x.p, 2, none⟩) hp1).trans hx.c2
  refine ⟨⟨hx.low, hx.lowm, ?_, ?_, set_cell hc2 _, set_frozen ((mods_frozen (a := ⟨x.p, 2, none⟩) hp1).trans hx.fr) _, hx.sec, ?_, ?_, ⟨?_, ?_, ?_, ?_⟩, hx.pm, ⟨hvp, hvm⟩, fun n v hn => ⟨fun e => (hfne n v x.p hn e).2.1 rfl, fun e => (hfne n v x.mb hn e).2.2 rfl, fun k hk hk' => ?_⟩, fun u hu k hk hM => ?_⟩, ⟨rfl, ?_, ?_, ?_, ?_, e4, ?_, rfl, fun k hM => ?_, fun u hu => ?_⟩⟩
  · exact (World.cell?_setCell_other w1 _ _ _ (by simp)).trans ((mods_cell (a := ⟨x.p, 0, none⟩) hp1).trans hx.c0)
  · exact (World.cell?_setCell_other w1 _ _ _ (by simp)).trans ((mods_cell (a := ⟨x.p, 1, none⟩) hp1).trans hx.c1)
  · show MapAt _ x.mb (s.raws ++ [r]).length f'
    rw [List.length_append]
    exact hm.map.kept (e3 x.mb (by omega) hx.rp.2 (fun e => hx.pm e.symm))
  · exact hm.vals.kept fun n v k hn hk => e3 k (hm.vals.lt hn hk).2 (hfne n v k hn hk).1 (hfne n v k hn hk).2.1
  · show World.ownsRow _ B _ 5 vr' (s.raws ++ [r]).length (rawsL (s.raws ++ [r]) (x.us ++ [vb]))
    rw [rawsL_append _ _ _ _ hx.raws.ul.symm, rawsL_one, List.length_append]
    exact mods_owns ho fun k hk => e2 k (fun e => hvp (by rw [← e]; exact hk))
  · show (x.us ++ [vb]).length = (s.raws ++ [r]).length
    rw [List.length_append, List.length_append, hx.raws.ul]
    rfl
  · intro j q u hj hu
    by_cases hlt : j < s.raws.length
    · have hj' : s.raws[j]? = some q := by
        have : (s.raws ++ [r])[j]? = some q := hj
        rwa [List.getElem?_append_left hlt] at this
      have hu' : x.us[j]? = some u := by
        have : (x.us ++ [vb])[j]? = some u := hu
        rwa [List.getElem?_append_left (by rw [hx.raws.ul]; exact hlt)] at this
      exact mods_owns (hx.raws.rb j q u hj' hu') fun k hk => e4 k (hus u (List.mem_append_left _ (List.mem_of_getElem? hu')) k hk).1 (hus u (List.mem_append_left _ (List.mem_of_getElem? hu')) k hk).2
    · have hj2 : j < (s.raws ++ [r]).length := (List.getElem?_eq_some_iff.1 hj).1
      have hj3 : j = s.raws.length := by rw [List.length_append, List.length_singleton] at hj2; omega
      subst hj3
      have a1 : (s.raws ++ [r])[s.raws.length]? = some q := hj
      have a2 : (x.us ++ [vb])[s.raws.length]? = some u := hu
      rw [List.getElem?_append_right (Nat.le_refl _)] at a1
      rw [← hx.raws.ul, List.getElem?_append_right (Nat.le_refl _)] at a2
      simp at a1 a2
      subst a1 a2
      exact mods_owns hvb fun k hk => e4 k (hvb.lt k hk).2 (hap k hk)
  · intro q hq
    have : q ∈ s.raws ++ [r] := hq
    rcases List.mem_append.1 this with h | h
    · exact hx.raws.ok q h
    · simp at h; subst h; exact hok
  · rcases hat with h | h
    · exact (hfne n v k hn hk).1 (by rw [← h]; exact hk')
    · have hk2 : vr'.ownBlock = some k := hk'
      rw [h] at hk2; cases hk2
      have := (hm.vals.lt hn hk).2
      omega
  · obtain ⟨h1, h2⟩ := hus u hu k hk
    rcases hM with rfl | rfl | hM | ⟨n, v, hn, hM⟩
    · exact h2 (.inl rfl)
    · exact h2 (.inr (.inl rfl))
    · rcases hat with h | h
      · exact h2 (.inr (.inr (.inl (by rw [← h]; exact hM))))
      · have hk2 : vr'.ownBlock = some k := hM
        rw [h] at hk2; cases hk2
        omega
    · rcases hm.src n v k hn hM with h | ⟨m, u', hu', h⟩
      · omega
      · exact h2 (.inr (.inr (.inr ⟨m, u', hu', h⟩)))
  · exact hg.os.trans hm.os
  · exact hg.tape.trans hm.tape
  · exact hg.output.trans hm.output
  · have h1 := hg.size
    have h2 : (w1.setCell ⟨x.p, 2, none⟩ vr').heap.size = w1.heap.size := by simp [World.setCell]
    omega
  · intro k o hk ho' hne
    have hlt := (Array.getElem?_eq_some_iff.1 hk).1
    refine (e3 k (by omega) (fun e => ?_) (fun e => ?_)).trans (hm.plain k o hk ho' hne)
    · obtain ⟨ob, g1, g2⟩ := owns_isCells hx.raws.row e
      rw [hk] at g1; cases g1
      rw [ho'] at g2; cases g2
    · subst e
      obtain ⟨ob, g1, g2⟩ := cell_isCells hx.c0
      rw [hk] at g1; cases g1
      rw [ho'] at g2; cases g2
  · rcases hM with rfl | rfl | hM | ⟨n, v, hn, hM⟩
    · exact .inl (.inl rfl)
    · exact .inl (.inr (.inl rfl))
    · rcases hat with h | h
      · exact .inl (.inr (.inr (.inl (by rw [← h]; exact hM))))
      · have hk2 : vr'.ownBlock = some k := hM
        rw [h] at hk2; cases hk2
        exact .inr (by omega)
    · rcases hm.src n v k hn hM with h | ⟨m, u', hu', h⟩
      · exact .inr (by omega)
      · exact .inl (.inr (.inr (.inr ⟨m, u', hu', h⟩)))
  · have : u ∈ x.us ++ [vb] := hu
    rcases List.mem_append.1 this with h | h
    · exact .inl h
    · simp at h; exact .inr (.inl h)
end Go.Proofs.YtjllkmkngjdjjaaDoor
