/- A DISK IN MEMORY: its files, its raw writes; what a step leaves as it was. No statement of the seed is proved here. -/
import Derived.Test.YtjllkmkngjdjjaaDoorDskM
namespace Go.Proofs.YtjllkmkngjdjjaaDoor
open Go.RowKit
set_option maxRecDepth 100000

theorem mods_cell {w w' : World} {a : Addr} (h : w'.heap[a.block]? = w.heap[a.block]?) : w'.cell? a = w.cell? a := World.cell?_of_block h
theorem mods_frozen {w w' : World} {a : Addr} (h : w'.heap[a.block]? = w.heap[a.block]?) : w'.frozen? a = w.frozen? a := World.frozen?_of_block h
theorem mods_owns {w w' : World} {B : Nat} {e : TypeId} {s n : Nat} {v : Value} {xs : List Value} (h : w.ownsRow B e s v n xs) (hm : ∀ k, v.ownBlock = some k → w'.heap[k]? = w.heap[k]?) : w'.ownsRow B e s v n xs := by
  refine ⟨h.1, ?_⟩
  rcases h.2 with h2 | ⟨g, cap, cur, hv, hb, hg, r⟩
  · exact .inl h2
  · exact .inr ⟨g, cap, cur, hv, hb, (hm g (by rw [hv]; rfl)).trans hg, r⟩
theorem owns_isCells {w : World} {B : Nat} {e : TypeId} {s n : Nat} {v : Value} {xs : List Value} (h : w.ownsRow B e s v n xs) {k : Nat} (hk : v.ownBlock = some k) : ∃ ob : Obj, w.heap[k]? = some ob ∧ ob.isCells = true := by
  rcases h with ⟨hl, ⟨rfl, hn⟩ | ⟨g, cap, cur, rfl, hb, hg, -⟩⟩
  · cases hk
  · cases hk; exact ⟨_, hg, rfl⟩
theorem cell_isCells {w : World} {p o : Nat} {v : Value} (h : w.cell? ⟨p, o, none⟩ = some v) : ∃ ob : Obj, w.heap[p]? = some ob ∧ ob.isCells = true := by
  unfold World.cell? at h
  simp only at h
  split at h
  · rename_i c e f hc; exact ⟨_, hc, rfl⟩
  · cases h
theorem owns_low {w : World} {B B' : Nat} {e : TypeId} {s n : Nat} {v : Value} {xs : List Value} (h : w.ownsRow B e s v n xs) (hB : B' ≤ B) : w.ownsRow B' e s v n xs := by
  obtain ⟨h1, h2⟩ := h
  refine ⟨h1, ?_⟩
  rcases h2 with h2 | ⟨g, cap, cur, hv, hg, r⟩
  · exact .inl h2
  · exact .inr ⟨g, cap, cur, hv, by omega, r⟩

/-! ### the files' bytes -/
structure Vals (w : World) (B : Nat) (f : ByteArray → Option Value) (fs : Fs) : Prop where
  dom : ∀ n, (f n).isSome = (fs n).isSome
  own : ∀ n v l, f n = some v → fs n = some l → OwnB w B v l
  ff : ∀ n m v u, f n = some v → f m = some u → n ≠ m → Apart v u
theorem Vals.at_ {w : World} {B : Nat} {f : ByteArray → Option Value} {fs : Fs} (h : Vals w B f fs) {n : ByteArray} {l : List UInt8} (hn : fs n = some l) : ∃ v, f n = some v ∧ OwnB w B v l := by
  have hd := h.dom n
  rw [hn] at hd
  obtain ⟨v, hv⟩ := Option.isSome_iff_exists.1 hd
  exact ⟨v, hv, h.own n v l hv hn⟩
theorem Vals.ofv {w : World} {B : Nat} {f : ByteArray → Option Value} {fs : Fs} (h : Vals w B f fs) {n : ByteArray} {v : Value} (hn : f n = some v) : ∃ l, fs n = some l ∧ OwnB w B v l := by
  have hd := h.dom n
  rw [hn] at hd
  obtain ⟨l, hl⟩ := Option.isSome_iff_exists.1 hd.symm
  exact ⟨l, hl, h.own n v l hn hl⟩
theorem Vals.none {w : World} {B : Nat} {f : ByteArray → Option Value} {fs : Fs} (h : Vals w B f fs) {n : ByteArray} (hn : fs n = Option.none) : f n = Option.none := by
  have hd := h.dom n
  rw [hn] at hd
  cases hf : f n with
  | none => rfl
  | some v => rw [hf] at hd; cases hd
theorem Vals.lt {w : World} {B : Nat} {f : ByteArray → Option Value} {fs : Fs} (h : Vals w B f fs) {n : ByteArray} {v : Value} (hn : f n = some v) {k : Nat} (hk : v.ownBlock = some k) : B ≤ k ∧ k < w.heap.size := by
  obtain ⟨l, -, ho⟩ := h.ofv hn
  exact ho.lt k hk
theorem Vals.kept {w w' : World} {B : Nat} {f : ByteArray → Option Value} {fs : Fs} (h : Vals w B f fs) (hm : ∀ n v k, f n = some v → v.ownBlock = some k → w'.heap[k]? = w.heap[k]?) : Vals w' B f fs :=
  ⟨h.dom, fun n v l hv hl => mods_owns (h.own n v l hv hl) fun k hk => hm n v k hv hk, h.ff⟩
theorem Vals.hole {w : World} {B : Nat} {f : ByteArray → Option Value} {fs : Fs} (h : Vals w B f fs) (n : ByteArray) : Vals w B (upd f n Option.none) (upd fs n Option.none) := by
  refine ⟨fun m => ?_, fun m v l hv hl => ?_, fun m q v u hv hu hne => ?_⟩
  · by_cases e : m = n
    · subst e; rw [upd_same, upd_same]; rfl
    · rw [upd_other _ _ e, upd_other _ _ e]; exact h.dom m
  · by_cases e : m = n
    · subst e; rw [upd_same] at hv; cases hv
    · rw [upd_other _ _ e] at hv hl; exact h.own m v l hv hl
  · by_cases e : m = n
    · subst e; rw [upd_same] at hv; cases hv
    · by_cases e2 : q = n
      · subst e2; rw [upd_same] at hu; cases hu
      · rw [upd_other _ _ e] at hv; rw [upd_other _ _ e2] at hu; exact h.ff m q v u hv hu hne
theorem Vals.fill {w : World} {B : Nat} {f : ByteArray → Option Value} {fs : Fs} {n : ByteArray} (h : Vals w B (upd f n Option.none) (upd fs n Option.none)) {v : Value} {l : List UInt8} (ho : OwnB w B v l) (ha : ∀ m u, m ≠ n → f m = some u → Apart v u) : Vals w B (upd f n (some v)) (upd fs n (some l)) := by
  refine ⟨fun m => ?_, fun m x y hx hy => ?_, fun m q x y hx hy hne => ?_⟩
  · by_cases e : m = n
    · subst e; rw [upd_same, upd_same]; rfl
    · have := h.dom m
      rw [upd_other _ _ e, upd_other _ _ e] at this ⊢
      exact this
  · by_cases e : m = n
    · subst e; rw [upd_same] at hx hy; cases hx; cases hy; exact ho
    · have := h.own m x y
      rw [upd_other _ _ e, upd_other _ _ e] at this
      rw [upd_other _ _ e] at hx hy
      exact this hx hy
  · by_cases e : m = n
    · subst e
      rw [upd_same] at hx; cases hx
      rw [upd_other _ _ (Ne.symm hne)] at hy
      exact ha q y (Ne.symm hne) hy
    · by_cases e2 : q = n
      · subst e2
        rw [upd_same] at hy; cases hy
        rw [upd_other _ _ e] at hx
        exact (ha m x e hx).symm
      · have := h.ff m q x y
        rw [upd_other _ _ e, upd_other _ _ e2] at this
        rw [upd_other _ _ e] at hx
        rw [upd_other _ _ e2] at hy
        exact this hx hy hne
/-! ### the raw writes -/
def rawL (r : RawD) (u : Value) : List Value := [.int .i64 (r.kind : Int), .string r.name, u, .int .i64 (r.size : Int), .string r.to]
def rawsL : List RawD → List Value → List Value
  | r :: rs, u :: us => rawL r u ++ rawsL rs us
  | _, _ => []
theorem rawsL_append : ∀ (rs : List RawD) (us : List Value) (qs : List RawD) (vs : List Value), rs.length = us.length → rawsL (rs ++ qs) (us ++ vs) = rawsL rs us ++ rawsL qs vs
  | [], [], _, _, _ => rfl
  | r :: rs, u :: us, qs, vs, h => by
    simp only [List.cons_append, rawsL]
    rw [rawsL_append rs us qs vs (by simpa using h), List.append_assoc]
  | [], _ :: _, _, _, h => by simp at h
  | _ :: _, [], _, _, h => by simp at h
theorem rawsL_one (r : RawD) (u : Value) : rawsL [r] [u] = rawL r u := by simp [rawsL]
theorem rawsL_length : ∀ (rs : List RawD) (us : List Value), rs.length = us.length → (rawsL rs us).length = rs.length * 5
  | [], [], _ => rfl
  | r :: rs, u :: us, h => by
    rw [rawsL, List.length_append, rawsL_length rs us (by simpa using h)]
    simp [rawL]
    omega
  | [], _ :: _, h => by simp at h
  | _ :: _, [], h => by simp at h
theorem rawsL_get : ∀ (rs : List RawD) (us : List Value) (i : Nat) (r : RawD) (u : Value) (j : Nat), rs[i]? = some r → us[i]? = some u → j < 5 → (rawsL rs us)[i * 5 + j]? = (rawL r u)[j]?
  | [], _, i, _, _, _, h, _, _ => by simp at h
  | _ :: _, [], i, _, _, _, _, h, _ => by simp at h
  | r :: rs, u :: us, 0, r', u', j, h, k, hj => by
    simp at h k
    subst h k
    rw [rawsL, Nat.zero_mul, Nat.zero_add, List.getElem?_append_left (by simpa [rawL] using hj)]
  | r :: rs, u :: us, i + 1, r', u', j, h, k, hj => by
    rw [rawsL, List.getElem?_append_right (by simp [rawL]; omega), show (i + 1) * 5 + j - (rawL r u).length = i * 5 + j by simp [rawL]; omega]
    exact rawsL_get rs us i r' u' j (by simpa using h) (by simpa using k) hj
structure RawsAt (w : World) (B : Nat) (vr : Value) (us : List Value) (rs : List RawD) : Prop where
  row : w.ownsRow B 36 5 vr rs.length (rawsL rs us)
  ul : us.length = rs.length
  rb : ∀ (j : Nat) (r : RawD) (u : Value), rs[j]? = some r → us[j]? = some u → OwnB w B u r.bytes
  ok : ∀ r ∈ rs, r.name.size ≤ 128 ∧ r.to.size ≤ 128 ∧ r.size ≤ 200000000000000 ∧ 1 ≤ r.kind ∧ r.kind ≤ 5
theorem RawsAt.nil (w : World) (B : Nat) : RawsAt w B (.slice none 0 0) [] [] :=
  ⟨World.ownsRow_nil _ _ _ _, rfl, fun j r u h => (by simp at h), fun r h => (by cases h)⟩
theorem RawsAt.ofu {w : World} {B : Nat} {vr : Value} {us : List Value} {rs : List RawD} (h : RawsAt w B vr us rs) {u : Value} (hu : u ∈ us) : ∃ r ∈ rs, OwnB w B u r.bytes := by
  obtain ⟨j, hj⟩ := List.mem_iff_getElem?.1 hu
  have hl : j < rs.length := by rw [← h.ul]; exact (List.getElem?_eq_some_iff.1 hj).1
  exact ⟨rs[j], List.getElem_mem hl, h.rb j _ u (List.getElem?_eq_getElem hl) hj⟩
theorem RawsAt.kept {w w' : World} {B : Nat} {vr : Value} {us : List Value} {rs : List RawD} (h : RawsAt w B vr us rs) (hv : ∀ k, vr.ownBlock = some k → w'.heap[k]? = w.heap[k]?) (hu : ∀ u ∈ us, ∀ k, u.ownBlock = some k → w'.heap[k]? = w.heap[k]?) : RawsAt w' B vr us rs :=
  ⟨mods_owns h.row hv, h.ul, fun j r u hr hj => mods_owns (h.rb j r u hr hj) (hu u (List.mem_of_getElem? hj)), h.ok⟩
/-! ### the disk -/
structure DT where
  p : Nat
  mb : Nat
  vr : Value
  f : ByteArray → Option Value
  us : List Value
/-- The disk's blocks that calls change. -/
def DT.Mut (x : DT) (k : Nat) : Prop := k = x.p ∨ k = x.mb ∨ x.vr.ownBlock = some k ∨ ∃ n v, x.f n = some v ∧ v.ownBlock = some k
/-- All of its blocks. -/
def DT.Has (x : DT) (k : Nat) : Prop := x.Mut k ∨ ∃ u ∈ x.us, u.ownBlock = some k
structure DT.At (x : DT) (s : DSt) (w : World) (B : Nat) : Prop where
  low : B ≤ x.p
  lowm : B ≤ x.mb
  c0 : w.cell? ⟨x.p, 0, none⟩ = some (.int .i64 (s.sec : Int))
  c1 : w.cell? ⟨x.p, 1, none⟩ = some (.map (some x.mb))
  c2 : w.cell? ⟨x.p, 2, none⟩ = some x.vr
  fr : w.frozen? ⟨x.p, 2, none⟩ = false
  sec : 1 ≤ s.sec ∧ s.sec ≤ 4096
  map : MapAt w x.mb s.raws.length x.f
  vals : Vals w B x.f s.fs
  raws : RawsAt w B x.vr x.us s.raws
  pm : x.p ≠ x.mb
  rp : x.vr.ownBlock ≠ some x.p ∧ x.vr.ownBlock ≠ some x.mb
  fp : ∀ n v, x.f n = some v → v.ownBlock ≠ some x.p ∧ v.ownBlock ≠ some x.mb ∧ Apart v x.vr
  ro : ∀ u ∈ x.us, ∀ k, u.ownBlock = some k → ¬ x.Mut k
theorem DT.At.lt {x : DT} {s : DSt} {w : World} {B : Nat} (h : x.At s w B) {k : Nat} (hk : x.Has k) : k < w.heap.size := by
  rcases hk with (rfl | rfl | hk | ⟨n, v, hn, hk⟩) | ⟨u, hu, hk⟩
  · exact World.block_lt_of_cell? w _ h.c0
  · exact h.map.lt
  · exact owns_lt h.raws.row k hk
  · exact (h.vals.lt hn hk).2
  · obtain ⟨r, -, ho⟩ := h.raws.ofu hu
    exact (ho.lt k hk).2
theorem DT.At.ge {x : DT} {s : DSt} {w : World} {B : Nat} (h : x.At s w B) {k : Nat} (hk : x.Has k) : B ≤ k := by
  rcases hk with (rfl | rfl | hk | ⟨n, v, hn, hk⟩) | ⟨u, hu, hk⟩
  · exact h.low
  · exact h.lowm
  · exact owns_ge h.raws.row k hk
  · exact (h.vals.lt hn hk).1
  · obtain ⟨r, -, ho⟩ := h.raws.ofu hu
    exact (ho.lt k hk).1
theorem DT.At.kept {x : DT} {s : DSt} {w w' : World} {B : Nat} (h : x.At s w B) (hs : ∀ k, x.Has k → w'.heap[k]? = w.heap[k]?) : x.At s w' B where
  low := h.low
  lowm := h.lowm
  c0 := (mods_cell (a := ⟨x.p, 0, none⟩) (hs _ (.inl (.inl rfl)))).trans h.c0
  c1 := (mods_cell (a := ⟨x.p, 1, none⟩) (hs _ (.inl (.inl rfl)))).trans h.c1
  c2 := (mods_cell (a := ⟨x.p, 2, none⟩) (hs _ (.inl (.inl rfl)))).trans h.c2
  fr := (mods_frozen (a := ⟨x.p, 2, none⟩) (hs _ (.inl (.inl rfl)))).trans h.fr
  sec := h.sec
  map := h.map.kept (hs _ (.inl (.inr (.inl rfl))))
  vals := h.vals.kept fun n v k hn hk => hs k (.inl (.inr (.inr (.inr ⟨n, v, hn, hk⟩))))
  raws := h.raws.kept (fun k hk => hs k (.inl (.inr (.inr (.inl hk))))) (fun u hu k hk => hs k (.inr ⟨u, hu, hk⟩))
  pm := h.pm
  rp := h.rp
  fp := h.fp
  ro := h.ro
theorem DT.At.below {x : DT} {s : DSt} {w w' : World} {B : Nat} (h : x.At s w B) (hb : Below w.heap.size w w') : x.At s w' B := h.kept fun k hk => hb.block k (h.lt hk)
theorem DT.At.lower {x : DT} {s : DSt} {w : World} {B B' : Nat} (h : x.At s w B) (hB : B' ≤ B) : x.At s w B' :=
  { h with low := by have := h.low; omega, lowm := by have := h.lowm; omega, vals := ⟨h.vals.dom, fun n v l hv hl => (h.vals.own n v l hv hl).lower hB, h.vals.ff⟩, raws := ⟨owns_low h.raws.row hB, h.raws.ul, fun j r u hr hu => (h.raws.rb j r u hr hu).lower hB, h.raws.ok⟩ }
/-- What a call does to the heap: of what is there only the disk's blocks change. 'v': bytes that the disk takes in. -/
structure DStepV (v : Value) (x : DT) (w : World) (y : DT) (w' : World) : Prop where
  p : y.p = x.p
  os : w'.os = w.os
  tape : w'.tape = w.tape
  output : w'.output = w.output
  size : w.heap.size ≤ w'.heap.size
  block : ∀ k, k < w.heap.size → ¬ x.Mut k → w'.heap[k]? = w.heap[k]?
  plain : ∀ k o, w.heap[k]? = some o → o.isCells = false → k ≠ x.mb → w'.heap[k]? = w.heap[k]?
  mb : y.mb = x.mb
  has : ∀ k, y.Mut k → x.Mut k ∨ w.heap.size ≤ k
  us : ∀ u ∈ y.us, u ∈ x.us ∨ u = v ∨ ∀ k, u.ownBlock = some k → w.heap.size ≤ k
/-- .. and takes in none but its own. -/
abbrev DStep (x : DT) (w : World) (y : DT) (w' : World) : Prop := DStepV (.slice none 0 0) x w y w'
theorem DStep.of_below {x : DT} {w w' : World} (hb : Below w.heap.size w w') : DStep x w x w' :=
  ⟨rfl, hb.os, hb.tape, hb.output, hb.size, fun k hk _ => hb.block k hk, fun k o hk _ _ => hb.block k (Array.getElem?_eq_some_iff.1 hk).1, rfl, fun k hk => .inl hk, fun u hu => .inl hu⟩
theorem DStepV.own {v : Value} {x y : DT} {w w' : World} (h : DStepV v x w y w') (hv : ∀ k, v.ownBlock = some k → w.heap.size ≤ k) : DStep x w y w' := by
  refine ⟨h.p, h.os, h.tape, h.output, h.size, h.block, h.plain, h.mb, h.has, fun u hu => ?_⟩
  rcases h.us u hu with e | e | e
  · exact .inl e
  · subst e; exact .inr (.inr hv)
  · exact .inr (.inr e)
theorem DStepV.since {v : Value} {x y : DT} {w0 w w' : World} (h : DStepV v x w y w') (hb : Below w0.heap.size w0 w) : DStepV v x w0 y w' where
  p := h.p
  mb := h.mb
  os := h.os.trans hb.os
  tape := h.tape.trans hb.tape
  output := h.output.trans hb.output
  size := Nat.le_trans hb.size h.size
  block := fun k hk hn => (h.block k (Nat.lt_of_lt_of_le hk hb.size) hn).trans (hb.block k hk)
  plain := fun k o hk ho hne => by
    have e1 := hb.block k (Array.getElem?_eq_some_iff.1 hk).1
    exact (h.plain k o (e1.trans hk) ho hne).trans e1
  has := fun k hk => (h.has k hk).imp id fun e => Nat.le_trans hb.size e
  us := fun u hu => by
    rcases h.us u hu with e | e | e
    · exact .inl e
    · exact .inr (.inl e)
    · exact .inr (.inr fun k hk => Nat.le_trans hb.size (e k hk))
theorem DStep.trans {x y z : DT} {w w1 w2 : World} (h : DStep x w y w1) (k : DStep y w1 z w2) : DStep x w z w2 where
  p := k.p.trans h.p
  mb := k.mb.trans h.mb
  os := k.os.trans h.os
  tape := k.tape.trans h.tape
  output := k.output.trans h.output
  size := Nat.le_trans h.size k.size
  block := fun q hq hn => (k.block q (Nat.lt_of_lt_of_le hq h.size) (fun e => by
    rcases h.has q e with e | e
    · exact hn e
    · omega)).trans (h.block q hq hn)
  plain := fun q o hq ho hne => by
    have e1 := h.plain q o hq ho hne
    exact (k.plain q o (e1.trans hq) ho (by rw [h.mb]; exact hne)).trans e1
  has := fun q hq => by
    rcases k.has q hq with e | e
    · exact h.has q e
    · exact .inr (Nat.le_trans h.size e)
  us := fun u hu => by
    rcases k.us u hu with e | e | e
    · exact h.us u e
    · exact .inr (.inl e)
    · exact .inr (.inr fun q hq => Nat.le_trans h.size (e q hq))
theorem DStep.then_below {x y : DT} {w w1 w2 : World} (h : DStep x w y w1) (hb : Below w1.heap.size w1 w2) : DStep x w y w2 := h.trans (DStep.of_below hb)
theorem DStep.below {x y : DT} {s : DSt} {w w' w0 : World} {B : Nat} (h : DStep x w y w') (hx : x.At s w B) (hb : Below B w0 w) (hB : B ≤ w.heap.size) : Below B w0 w' :=
  ⟨h.os.trans hb.os, h.tape.trans hb.tape, h.output.trans hb.output, Nat.le_trans hb.size h.size, fun k hk => (h.block k (by omega) (fun e => by have := hx.ge (.inl e); omega)).trans (hb.block k hk)⟩
/-- Behind the files' change, ahead of the record: 'b' is the box of what is recorded. -/
structure DMid (x : DT) (s : DSt) (r : RawD) (vb : Value) (W : World) (B : Nat) (f' : ByteArray → Option Value) (w : World) : Prop where
  map : MapAt w x.mb (s.raws.length + 1) f'
  vals : Vals w B f' (fsDo s.fs r)
  src : ∀ n v k, f' n = some v → v.ownBlock = some k → W.heap.size < k ∨ ∃ m u, x.f m = some u ∧ u.ownBlock = some k
  block : ∀ k, k < W.heap.size → (∀ m u, x.f m = some u → u.ownBlock ≠ some k) → k ≠ x.mb → w.heap[k]? = W.heap[k]?
  plain : ∀ k o, W.heap[k]? = some o → o.isCells = false → k ≠ x.mb → w.heap[k]? = W.heap[k]?
  box : w.rangeAt W.heap.size 0 (rawL r vb)
  os : w.os = W.os
  tape : w.tape = W.tape
  output : w.output = W.output
  size : W.heap.size < w.heap.size
end Go.Proofs.YtjllkmkngjdjjaaDoor
