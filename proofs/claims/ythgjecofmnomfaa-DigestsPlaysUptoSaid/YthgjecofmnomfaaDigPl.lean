/- WORDS for the law DigestsPlays: acts that came in; the index and the reference's under one act. No statement of the seed is proved here. -/
import Derived.Test.YthgjecofmnomfaaStands
namespace Go.Proofs.Ythgjecofmnomfaa
open Go.RowKit
set_option maxRecDepth 100000

abbrev ActD := List UInt8 × Int × Bool
def actL (a : ActD) : List Value := u8s a.1 ++ [.int .i64 a.2.1, .bool a.2.2]
/-- A []Act that is read. -/
def Acts (w : World) (v : Value) (acts : List ActD) : Prop :=
  ∃ A c, v = .slice A acts.length c ∧ acts.length ≤ c ∧ c ≤ maxLen ∧ (∀ (j : Nat) (h : j < acts.length), acts[j].1.length = 32 ∧ ∃ g o, A = some ⟨g, o, none⟩ ∧ w.rangeAt g (o + j * 34) (actL acts[j]))
theorem Acts.below {w w1 : World} {v : Value} {acts : List ActD} (h : Acts w v acts) (hb : Below w.heap.size w w1) : Acts w1 v acts :=
  let ⟨A, c, e, h1, h2, h5⟩ := h
  ⟨A, c, e, h1, h2, fun j hj => let ⟨d, g, o, a, b⟩ := h5 j hj; ⟨d, g, o, a, rangeAt_below b hb⟩⟩
theorem Acts.form {w : World} {v : Value} {acts : List ActD} (h : Acts w v acts) : ∃ A c, v = .slice A acts.length c ∧ acts.length ≤ c ∧ c ≤ 9223372036854775807 := by
  obtain ⟨A, c, e, h1, h2, -⟩ := h
  unfold maxLen at h2
  exact ⟨A, c, e, h1, h2⟩
theorem Acts.at_ {w : World} {A : Option Addr} {n c : Nat} {acts : List ActD} (h : Acts w (.slice A n c) acts) (j : Nat) (hj : j < acts.length) : acts[j].1.length = 32 ∧ ∃ g o, A = some ⟨g, o, none⟩ ∧ w.rangeAt g (o + j * 34) (actL acts[j]) := by
  obtain ⟨A', c', e, h1, h2, h5⟩ := h
  cases e
  exact h5 j hj
theorem act_digest {w : World} {g o : Nat} {a : ActD} (ha : a.1.length = 32) (h : w.rangeAt g o (actL a)) : w.rangeAt g o (u8s a.1) := fun j v hv => by
  have hj : j < 32 := by have := (List.getElem?_eq_some_iff.1 hv).1; rwa [u8s_length, ha] at this
  refine h j v ?_
  unfold actL
  rw [List.getElem?_append_left (by rw [u8s_length]; omega)]
  exact hv
theorem act_place {w : World} {g o : Nat} {a : ActD} (ha : a.1.length = 32) (h : w.rangeAt g o (actL a)) : w.cell? ⟨g, o + 32, none⟩ = some (.int .i64 a.2.1) := h 32 _ (by
  unfold actL
  rw [List.getElem?_append_right (by rw [u8s_length]; omega), u8s_length, ha]
  rfl)
theorem act_clones {w : World} {g o : Nat} {a : ActD} (ha : a.1.length = 32) (h : w.rangeAt g o (actL a)) : w.cell? ⟨g, o + 33, none⟩ = some (.bool a.2.2) := h 33 _ (by
  unfold actL
  rw [List.getElem?_append_right (by rw [u8s_length]; omega), u8s_length, ha]
  rfl)
theorem names_calls (w : World) : Calls Try.prog 20 #[] w fun e w' => e = .returned (.bool true) ∧ w' = w := by
  go_enter Try.func20, Try.ntmps20
  go_wp2
  go_ret
  exact ⟨rfl, rfl⟩
theorem add_neg (p : Nat) (d : List UInt8) (place : Int) (w : World) (hc : w.cell? ⟨p, 0, none⟩ = some (.bool true)) (hp : place < 0) :
    Calls Try.prog 12 #[.pointer (some ⟨p, 0, none⟩), .agg (u8s d).toArray, .int .i64 place] w fun e w' => e = .returned (.int .i64 2) ∧ Below w.heap.size w w' := by
  have c0 := cell_below (below_alloc1 w (.cells (u8s d).toArray 34)) hc
  go_enter Try.func12, Try.ntmps12
  go_wp2_with (go_at_call 25; refine (none_calls2 _ _ c0).mono ?_; rintro e w1 ⟨rfl, rfl⟩)
  go_ret
  exact ⟨rfl, below_alloc1 _ _⟩
/-- The reference's rows, in memory that is acts it was. -/
theorem RunV.mods {w w' : World} {v : Value} {xs : List Item} (h : RunV w v xs) (hm : ∀ k, v.ownBlock = some k → w'.heap[k]? = w.heap[k]?) : RunV w' v xs := by
  obtain ⟨A, c, rfl, h1, h2, h3, h4⟩ := h
  refine ⟨A, c, rfl, h1, h2, h3, fun ad ha => ⟨(h4 ad ha).1, fun j u hu => ?_⟩⟩
  subst ha
  exact (cell_mods (a := ⟨ad.block, ad.off + j, none⟩) (hm ad.block rfl)).trans ((h4 ad rfl).2 j u hu)
theorem Row.mods {w w' : World} {v : Value} {n : Nat} {cs : List Value} (h : Row w v n cs) (hm : ∀ k, v.ownBlock = some k → w'.heap[k]? = w.heap[k]?) : Row w' v n cs := by
  obtain ⟨A, c, rfl, h1, h2, h3, h4⟩ := h
  refine ⟨A, c, rfl, h1, h2, h3, fun j u hu => ?_⟩
  obtain ⟨ad, ha, hc⟩ := h4 j u hu
  subst ha
  refine ⟨ad, rfl, (cell_mods ?_).trans hc⟩
  have hb : (ad.add j).block = ad.block := by unfold Addr.add; split <;> rfl
  rw [hb]
  exact hm ad.block rfl
theorem RefV.mods {w w' : World} {vi vn : Value} {items : List Item} {ns : List Nat} (h : RefV w vi vn items ns) (h1 : ∀ k, vi.ownBlock = some k → w'.heap[k]? = w.heap[k]?) (h2 : ∀ k, vn.ownBlock = some k → w'.heap[k]? = w.heap[k]?) : RefV w' vi vn items ns :=
  ⟨h.itm.mods h1, h.wid, h.runs.mods h2, h.few, h.few2⟩
/-- Where the law stands: the index, the reference's, the boxes. -/
structure PAt (W : World) (bA bR : Nat) (ask : List UInt8) (x : IxT) (vi vn : Value) (items : List Item) (ns : List Nat) (w : World) : Prop where
  side : Side (W.heap.size + 1) x vi vn items ns w
  hasR : ¬ x.Has bR
  hasI : ∀ k, x.Has k → vi.ownBlock ≠ some k ∧ vn.ownBlock ≠ some k
  refR : vi.ownBlock ≠ some bR ∧ vn.ownBlock ≠ some bR
  ltI : (∀ k, vi.ownBlock = some k → k < w.heap.size) ∧ (∀ k, vn.ownBlock = some k → k < w.heap.size)
  ask : w.rangeAt bA 0 (u8s ask)
  eA : bA = W.heap.size
  r0 : w.cell? ⟨bR, 0, none⟩ = some vi
  r1 : w.cell? ⟨bR, 1, none⟩ = some vn
  f0 : w.frozen? ⟨bR, 0, none⟩ = false
  f1 : w.frozen? ⟨bR, 1, none⟩ = false
  geR : W.heap.size + 1 ≤ bR
  bel : Below W.heap.size W w
theorem PAt.ltR {W : World} {bA bR : Nat} {ask : List UInt8} {x : IxT} {vi vn : Value} {items : List Item} {ns : List Nat} {w : World} (h : PAt W bA bR ask x vi vn items ns w) : bR < w.heap.size := World.block_lt_of_cell? w _ h.r0
theorem PAt.below {W : World} {bA bR : Nat} {ask : List UInt8} {x : IxT} {vi vn : Value} {items : List Item} {ns : List Nat} {w w' : World} (h : PAt W bA bR ask x vi vn items ns w) (hb : Below w.heap.size w w') : PAt W bA bR ask x vi vn items ns w' :=
  ⟨h.side.below hb, h.hasR, h.hasI, h.refR, ⟨fun k hk => Nat.lt_of_lt_of_le (h.ltI.1 k hk) hb.size, fun k hk => Nat.lt_of_lt_of_le (h.ltI.2 k hk) hb.size⟩, rangeAt_below h.ask hb, h.eA, cell_below hb h.r0, cell_below hb h.r1, frozen_below hb h.r0 h.f0, frozen_below hb h.r1 h.f1, h.geR, h.bel.trans (hb.mono h.bel.size)⟩
/-- A clone takes its place. -/
theorem PAt.clone {W : World} {bA bR : Nat} {ask : List UInt8} {x y : IxT} {vi vn : Value} {items : List Item} {ns : List Nat} {w w' : World} (h : PAt W bA bR ask x vi vn items ns w) (e1 : y.rs = x.rs) (e2 : y.us = x.us) (hp : w.heap.size ≤ y.p) (hv : ∀ k, y.vr.ownBlock = some k → w.heap.size ≤ k) (ha : y.At w' (W.heap.size + 1)) (hb : Below w.heap.size w w') : PAt W bA bR ask y vi vn items ns w' := by
  have hb' := h.below hb
  have hh : ∀ k, y.Has k → x.Has k ∨ w.heap.size ≤ k := fun k hk => by
    rcases hk with rfl | hk | ⟨u, hu, hk⟩
    · exact .inr hp
    · exact .inr (hv k hk)
    · exact .inl (.inr (.inr ⟨u, by rw [← e2]; exact hu, hk⟩))
  refine { hb' with side := ⟨ha, hb'.side.ref, by rw [e1]; exact hb'.side.good, by rw [e1]; exact hb'.side.lens⟩, hasR := fun hk => ?_, hasI := fun k hk => ?_ }
  · rcases hh _ hk with e | e
    · exact h.hasR e
    · have := h.ltR; omega
  · rcases hh _ hk with e | e
    · exact h.hasI k e
    · exact ⟨fun e3 => by have := h.ltI.1 k e3; omega, fun e3 => by have := h.ltI.2 k e3; omega⟩
/-- The index was added to: the reference's is acts it was. -/
structure PMid (W : World) (bA bR : Nat) (ask : List UInt8) (y : IxT) (vi vn : Value) (items : List Item) (ns : List Nat) (w : World) : Prop where
  at_ : y.At w (W.heap.size + 1)
  ref : RefV w vi vn items ns
  hasR : ¬ y.Has bR
  hasI : ∀ k, y.Has k → vi.ownBlock ≠ some k ∧ vn.ownBlock ≠ some k
  refR : vi.ownBlock ≠ some bR ∧ vn.ownBlock ≠ some bR
  ltI : (∀ k, vi.ownBlock = some k → k < w.heap.size) ∧ (∀ k, vn.ownBlock = some k → k < w.heap.size)
  ask : w.rangeAt bA 0 (u8s ask)
  eA : bA = W.heap.size
  r0 : w.cell? ⟨bR, 0, none⟩ = some vi
  r1 : w.cell? ⟨bR, 1, none⟩ = some vn
  f0 : w.frozen? ⟨bR, 0, none⟩ = false
  f1 : w.frozen? ⟨bR, 1, none⟩ = false
  geR : W.heap.size + 1 ≤ bR
  bel : Below W.heap.size W w
theorem PMid.below {W : World} {bA bR : Nat} {ask : List UInt8} {x : IxT} {vi vn : Value} {items : List Item} {ns : List Nat} {w w' : World} (h : PMid W bA bR ask x vi vn items ns w) (hb : Below w.heap.size w w') : PMid W bA bR ask x vi vn items ns w' :=
  ⟨h.at_.below hb, h.ref.below hb, h.hasR, h.hasI, h.refR, ⟨fun k hk => Nat.lt_of_lt_of_le (h.ltI.1 k hk) hb.size, fun k hk => Nat.lt_of_lt_of_le (h.ltI.2 k hk) hb.size⟩, rangeAt_below h.ask hb, h.eA, cell_below hb h.r0, cell_below hb h.r1, frozen_below hb h.r0 h.f0, frozen_below hb h.r1 h.f1, h.geR, h.bel.trans (hb.mono h.bel.size)⟩
theorem PAt.mid {W : World} {bA bR : Nat} {ask : List UInt8} {x : IxT} {vi vn : Value} {items : List Item} {ns : List Nat} {w : World} (h : PAt W bA bR ask x vi vn items ns w) : PMid W bA bR ask x vi vn items ns w :=
  ⟨h.side.at_, h.side.ref, h.hasR, h.hasI, h.refR, h.ltI, h.ask, h.eA, h.r0, h.r1, h.f0, h.f1, h.geR, h.bel⟩
theorem PAt.step {W : World} {bA bR : Nat} {ask : List UInt8} {x y : IxT} {vi vn : Value} {items : List Item} {ns : List Nat} {w w' : World} (h : PAt W bA bR ask x vi vn items ns w) (ha : y.At w' (W.heap.size + 1)) (hs : x.Step w y w') : PMid W bA bR ask y vi vn items ns w' := by
  have hbR := hs.same h.ltR h.hasR
  have hbA : w'.heap[bA]? = w.heap[bA]? := hs.same (by have := h.ltR; have := h.geR; have := h.eA; omega) (fun e => by have := h.side.at_.ge e; have := h.eA; omega)
  refine ⟨ha, h.side.ref.mods (fun k hk => hs.same (h.ltI.1 k hk) (fun e => (h.hasI k e).1 hk)) (fun k hk => hs.same (h.ltI.2 k hk) (fun e => (h.hasI k e).2 hk)), fun hk => ?_, fun k hk => ?_, h.refR, ⟨fun k hk => Nat.lt_of_lt_of_le (h.ltI.1 k hk) hs.size, fun k hk => Nat.lt_of_lt_of_le (h.ltI.2 k hk) hs.size⟩,
    fun j u hu => (cell_mods hbA).trans (h.ask j u hu), h.eA, (cell_mods hbR).trans h.r0, (cell_mods hbR).trans h.r1, (frozen_mods hbR).trans h.f0, (frozen_mods hbR).trans h.f1, h.geR, ?_⟩
  · rcases hs.has hk with e | e
    · exact h.hasR e
    · have := h.ltR; omega
  · rcases hs.has hk with e | e
    · exact h.hasI k e
    · exact ⟨fun e3 => by have := h.ltI.1 k e3; omega, fun e3 => by have := h.ltI.2 k e3; omega⟩
  · refine ⟨hs.2.os.trans h.bel.os, hs.2.tape.trans h.bel.tape, hs.2.output.trans h.bel.output, Nat.le_trans h.bel.size hs.size, fun k hk => ?_⟩
    rw [hs.same (Nat.lt_of_lt_of_le hk h.bel.size) (fun e => by have := h.side.at_.ge e; omega), h.bel.block k hk]
/-- The reference's answer is put into its box. -/
theorem PMid.put {W : World} {bA bR : Nat} {ask : List UInt8} {y : IxT} {vi vn vi' vn' : Value} {items items' : List Item} {ns ns' : List Nat} {w w' : World} (h : PMid W bA bR ask y vi vn items ns w) (hb : Below w.heap.size w w') (hr : RefV w' vi' vn' items' ns')
    (hn : (∀ k, vi'.ownBlock = some k → (w.heap.size ≤ k ∧ k < w'.heap.size) ∨ vi.ownBlock = some k) ∧ (∀ k, vn'.ownBlock = some k → (w.heap.size ≤ k ∧ k < w'.heap.size) ∨ vn.ownBlock = some k)) (hg : Good y.rs items') (hl : y.rs.map List.length = ns') :
    PAt W bA bR ask y vi' vn' items' ns' ((w'.setCell ⟨bR, 0, none⟩ vi').setCell ⟨bR, 1, none⟩ vn') := by
  have h' := h.below hb
  have hlR : bR < w.heap.size := World.block_lt_of_cell? w _ h.r0
  have hst : ∀ k, k ≠ bR → ((w'.setCell ⟨bR, 0, none⟩ vi').setCell ⟨bR, 1, none⟩ vn').heap[k]? = w'.heap[k]? := fun k hk => by
    rw [Below.heap_setCell _ _ _ _ hk, Below.heap_setCell _ _ _ _ hk]
  have hsz : ((w'.setCell ⟨bR, 0, none⟩ vi').setCell ⟨bR, 1, none⟩ vn').heap.size = w'.heap.size := by simp [World.setCell]
  have hI : ∀ k, vi'.ownBlock = some k → k ≠ bR := fun k hk e => by
    rcases hn.1 k hk with h1 | h1
    · omega
    · exact h.refR.1 (by rw [← e]; exact h1)
  have hN : ∀ k, vn'.ownBlock = some k → k ≠ bR := fun k hk e => by
    rcases hn.2 k hk with h1 | h1
    · omega
    · exact h.refR.2 (by rw [← e]; exact h1)
  have c1 : (w'.setCell ⟨bR, 0, none⟩ vi').cell? ⟨bR, 1, none⟩ = some vn := (World.cell?_setCell_other w' _ _ vi' (by simp)).trans h'.r1
  refine ⟨⟨h'.at_.kept fun k hk => hst k (fun e => h.hasR (by rw [← e]; exact hk)), hr.mods (fun k hk => hst k (hI k hk)) (fun k hk => hst k (hN k hk)), hg, hl⟩, h.hasR, fun k hk => ⟨fun e => ?_, fun e => ?_⟩, ⟨fun e => hI bR e rfl, fun e => hN bR e rfl⟩, ⟨fun k hk => ?_, fun k hk => ?_⟩, ?_, h.eA, ?_, ?_, ?_, ?_, h.geR, ?_⟩
  · rcases hn.1 k e with h1 | h1
    · have := h.at_.lt hk; omega
    · exact (h.hasI k hk).1 h1
  · rcases hn.2 k e with h1 | h1
    · have := h.at_.lt hk; omega
    · exact (h.hasI k hk).2 h1
  · rw [hsz]
    rcases hn.1 k hk with h1 | h1
    · exact h1.2
    · exact Nat.lt_of_lt_of_le (h.ltI.1 k h1) hb.size
  · rw [hsz]
    rcases hn.2 k hk with h1 | h1
    · exact h1.2
    · exact Nat.lt_of_lt_of_le (h.ltI.2 k h1) hb.size
  · exact fun j u hu => (cell_mods (hst bA (by have := h.eA; have := h.geR; omega))).trans (h'.ask j u hu)
  · exact (World.cell?_setCell_other _ _ _ vn' (by simp)).trans (set_cell h'.r0 vi')
  · exact set_cell c1 vn'
  · exact set_frozen (set_frozen h'.f0 _) _
  · exact set_frozen (set_frozen h'.f1 _) _
  · exact (h'.bel.setCell (p := ⟨bR, 0, none⟩) (by have := h.geR; show W.heap.size ≤ bR; omega) _).setCell (p := ⟨bR, 1, none⟩) (by have := h.geR; show W.heap.size ≤ bR; omega) _
end Go.Proofs.Ythgjecofmnomfaa
