/- WALKS of shelf.Count, shelf.Read over a filled level. No statement of the seed is proved here. PLAIN WORDS: the digests that the bytes of a level's files have. No statement of the seed is proved here. THE ITERATOR shelf.All: its contract. No statement of the seed is proved here. WALK of coppicelaw14.ShelfBack. No statement of the seed is proved here. -/
import Derived.Test.YtjllkmkngjdjjaaDoorShfE
import Derived.Laws.Cover3
import Derived.Test.YtjllkmkngjdjjaaDoorDsB
import Derived.Test.YtjllkmkngjdjjaaDoorShfP
import Derived.Test.YtjllkmkngjdjjaaDoorIterL
import Derived.Test.YtjllkmkngjdjjaaDoorIterN
import Derived.Test.YtjllkmkngjdjjaaDoorDsC
import Derived.AtR
import Derived.Test.YtjllkmkngjdjjaaDoorDsD
import Derived.Test.YtjllkmkngjdjjaaDoorShfF
namespace Go.Proofs.YtjllkmkngjdjjaaDoor
open Go.RowKit Go.Shelf
attribute [local go_sem] Oper.semAt_some
set_option maxRecDepth 100000
theorem fcnt {s : DSt} {sec h : Nat} {L : List (List UInt8)} (H : Filled s sec h L) (h1 : 1 ≤ h) (h8 : h ≤ 8) (hL : L.length ≤ 1000000000000) : ∃ xs, Files s h 0 0 xs ∧ cntS xs = (L.length, 0) ∧ (xs.map Prod.snd).flatten = L.flatten := by
  obtain ⟨xs, x1, x2, x3⟩ := H.files h1 h8 hL _ 0 (Nat.le_refl _)
  refine ⟨xs, x1, ?_, by simpa using x3⟩
  unfold cntS
  rw [x2 0]
  simp
theorem fcount_calls (x : DT) (s : DSt) (sec : Nat) (L : List (List UInt8)) (W : World) (B : Nat) (hx : x.At s W B) (hT : TabW W) (h : Nat) (h1 : 1 ≤ h) (h8 : h ≤ 8) (H : Filled s sec h L) (hL : L.length ≤ 10000000) :
    Calls Tryd.prog 12 #[.pointer (some ⟨x.p, 0, none⟩), .int .i64 (h : Int), .int .i64 0] W fun e w' => e = .returned (.tuple #[.int .i64 (L.length : Int), .int .i64 0]) ∧ Below W.heap.size W w' := by
  obtain ⟨xs, x1, hc, -⟩ := fcnt H h1 h8 (by omega)
  have h0 := Filled.tile (L := L) h1 h8 (by omega) 0 (by omega)
  have KW := Lib.hid (swrong_ok x s W B hx h 0 h1 h8 h0 (by have := hx.sec; omega))
  have KC := fun w (hw : Below W.heap.size W w) => scount_calls x s w B (hx.below hw) (tab_below hT hw) h 0 h1 h8 H.Few xs x1
  rw [hc] at KC
  rw [show ((0 : Nat) : Int) = 0 from rfl] at KW KC
  have KC := Lib.hid KC
  clear hx hT
  go_enter Tryd.func12, Tryd.ntmps12
  go_wp2_with (first
    | (go_at_call 16; refine KW.out.mono ?_; rintro e w1 ⟨rfl, hB1⟩)
    | (go_at_call 18; refine (KC.out _ hB1).mono ?_; rintro e w2 ⟨rfl, hB2⟩))
  go_ret2
  exact ⟨rfl, below_then hB1 hB2⟩
/-- A tile's bytes. -/
theorem fread_calls (x : DT) (s : DSt) (sec : Nat) (L : List (List UInt8)) (W : World) (B : Nat) (hx : x.At s W B) (hT : TabW W) (h : Nat) (h1 : 1 ≤ h) (h8 : h ≤ 8) (H : Filled s sec h L) (hL : L.length ≤ 10000000) (k wd : Nat) (hw1 : 1 ≤ wd) (hw : wd ≤ 2 ^ h) (hk : k * 2 ^ h + wd ≤ L.length) :
    Calls Tryd.prog 13 #[.pointer (some ⟨x.p, 0, none⟩), .agg #[.int .i64 (h : Int), .int .i64 0, .int .i64 (k : Int), .int .i64 (wd : Int)]] W fun e w' => ∃ v, e = .returned (.tuple #[v, .int .i64 0]) ∧ OwnB w' W.heap.size v ((fileL L h k).take (32 * wd)) ∧ Below W.heap.size W w' := by
  have h32 := shl32 h h8
  have hlen := fileL_len H.len h k
  have hv := Filled.tile (L := L) h1 h8 (by omega) k (by omega)
  have htv : tileV h 0 k wd = true := by
    have e : (k : Int) * 2 ^ h = ((k * 2 ^ h : Nat) : Int) := by push_cast; rfl
    unfold tileV at hv ⊢
    rw [decide_eq_true_iff, Int.toNat_natCast] at hv ⊢
    rw [e] at hv ⊢
    have e2 : ((2 : Int) ^ h) = ((2 ^ h : Nat) : Int) := (pow_cast h).symm
    rw [e2] at hv ⊢
    generalize 2 ^ h = p at *
    simp at hv ⊢
    omega
  have hlk : s.fs (tname h 0 k) = some (fileL L h k) := by rw [H.fs, if_pos (by omega)]
  have hm : (fileL L h k).take (32 * 2 ^ h) = fileL L h k := List.take_of_length_le (by omega)
  have KS := Lib.hid (fun w (hw : Below W.heap.size W w) => dsector_calls x s w B (hx.below hw))
  have hsec : ((s.sec : Int) == 0) = false := by have := hx.sec; simp; omega
  have KV := Lib.hid (fun w => tile_valid h 0 k wd w)
  rw [htv] at KV
  have KB := fun w (hw : Below W.heap.size W w) => sbytes_some x s w B (hx.below hw) (tab_below hT hw) h 0 k h1 h8 hv _ hlk H.Few
  rw [hm, show ((0 : Nat) : Int) = 0 from rfl] at KB
  have KB := Lib.hid KB
  have hge : 32 * wd ≤ (fileL L h k).length := by rw [hlen]; omega
  generalize fileL L h k = m at *
  have g1 : decide ((m.length : Int) < 32 * (wd : Int)) = false := by rw [decide_eq_false_iff_not]; omega
  have hw8 : wd ≤ 256 := by omega
  have hwm : wrap64 (32 * (wd : Int)) = 32 * (wd : Int) := by unfold wrap64; omega
  have hm2 : (32 * (wd : Int)).toNat = 32 * wd := by omega
  have KC := Lib.hid (fun w A c (ho : Bs w (.slice A m.length c) m) => bclone_calls _ _ w (bsHead ho (32 * wd) ((32 * wd : Nat) : Int) rfl hge).2 (by simp; omega))
  clear hx hT hm hlen hlk H hv htv hk hw hL
  go_enter Tryd.func13, Tryd.ntmps13
  go_wp2_with (first
    | (go_at_call 28; refine (KS.out _ (below_alloc1 _ _)).mono ?_; rintro e w1 ⟨rfl, rfl⟩)
    | (go_at_call 29; refine (KV.out _).mono ?_; rintro e w1 ⟨rfl, hB1⟩; have r1 := range_below (range_box W [.int .i64 (h : Int), .int .i64 0, .int .i64 (k : Int), .int .i64 (wd : Int)] 48) hB1; have a0 := r1 0 _ rfl; have a1 := r1 1 _ rfl; have a2 := r1 2 _ rfl; have a3 := r1 3 _ rfl; have bb := below_then (below_alloc1 W _) hB1; clear r1 hB1)
    | (go_at_call 30; refine (KB.out _ bb).mono ?_; rintro e w2 ⟨v2, rfl, ho2, hB2⟩; have hbs := ho2.bs; obtain ⟨A2, c2, ev, h21, h22, h23⟩ := ho2.form; subst ev; have d3 := cell_below hB2 a3)
    | (go_at_call 24; refine (KC.out _ _ _ hbs).mono ?_; rintro e w3 ⟨v3, rfl, ho3, hB3⟩))
  go_ret2
  exact ⟨v3, rfl, ho3.lower (by have := bb.size; have := hB2.size; omega), below_then bb (below_then hB2 hB3)⟩
theorem droom_ok (v : Value) (l : List UInt8) (at_ n : Nat) (w : World) (hv : Bs w v l) (h1 : at_ + n ≤ l.length) :
    Calls Tryd.prog 36 #[v, .int .i64 (at_ : Int), .int .i64 (n : Int)] w fun e w' => e = .returned (.int .i64 0) ∧ w = w' := by
  obtain ⟨A, c, rfl, hlc, hc, hn⟩ := hv.form
  clear hv
  go_enter Tryd.func36, Tryd.ntmps36
  go_wp2
  go_ret
  exact ⟨rfl, rfl⟩
/-- A digest that is read. -/
theorem odigest_calls (v : Value) (l : List UInt8) (at_ : Nat) (w : World) (hv : Bs w v l) (h1 : at_ + 32 ≤ l.length) (hl : l.length ≤ 100000) :
    Calls Tryd.prog 27 #[v, .int .i64 (at_ : Int)] w fun e w' => e = .returned (.tuple #[.agg (u8s ((l.drop at_).take 32)).toArray, .int .i64 ((at_ + 32 : Nat) : Int), .int .i64 0]) ∧ Below w.heap.size w w' := by
  have K := fun w1 (hw : Below w.heap.size w w1) => droom_ok v l at_ 32 w1 (hv.below hw) h1
  rw [show ((32 : Nat) : Int) = 32 from rfl] at K
  have K := Lib.hid K
  have hsub := hv
  obtain ⟨A, c, rfl, hlc, hc, hn⟩ := hv.form
  have hd : ((l.drop at_).take 32).length = 32 := by simp; omega
  obtain ⟨g, o, rfl, hrg⟩ : ∃ g o, A = some ⟨g, o, none⟩ ∧ w.rangeAt g (o + at_) (u8s ((l.drop at_).take 32)) := by
    obtain ⟨A0, c0, e, h1', h2, h0, h3⟩ := hsub
    cases e
    have hget : ∀ j, j < l.length → ∃ u, (u8s l)[j]? = some u := fun j hj => ⟨_, List.getElem?_eq_getElem (by rw [u8s_length]; exact hj)⟩
    obtain ⟨u0, hu0⟩ := hget 0 (by omega)
    obtain ⟨ad, hA, hc0⟩ := h3 0 u0 hu0
    have hs := cell_spot hc0
    rw [Addr.add_zero'] at hs
    obtain ⟨g, o, sp⟩ := ad
    simp only at hs
    subst hs
    refine ⟨g, o, hA, fun j u hu => ?_⟩
    have hj : j < 32 := by have := (List.getElem?_eq_some_iff.1 hu).1; rwa [u8s_length, hd] at this
    have hju : (u8s l)[at_ + j]? = some u := by
      rw [← hu]
      simp only [u8s, List.getElem?_map]
      rw [List.getElem?_take, if_pos hj, List.getElem?_drop]
    obtain ⟨ad', hA', hc'⟩ := h3 (at_ + j) u hju
    rw [hA] at hA'
    cases hA'
    rw [Addr.add_lit, ← Nat.add_assoc] at hc'
    exact hc'
  have HA := fun w0 => run_arrayAt (P := Tryd.prog) (w := w0) 24 5 32 (some ⟨g, o + at_, none⟩) 32 (c - at_) Tryd.underlying24 (Nat.le_refl _)
  have HL := Lib.hid (fun w0 (hw : Below w.heap.size w w0) => load_digest hd (range_below hrg hw))
  have HST := Lib.hid (fun z (hz : z.size = 32) => store_digest_new w hd z hz)
  have hrn := range_new w ((l.drop at_).take 32)
  have hlv := run_loadVar_mid (P := Tryd.prog) _ _ _ 24 _ _ hrn Tryd.underlying24 rfl (by rw [u8s_length, hd]; kernel_rfl)
  have hwat : wrap64 ((at_ : Int) + 32) = ((at_ + 32 : Nat) : Int) := by unfold wrap64; omega
  clear hsub
  go_enter Tryd.func27, Tryd.ntmps27
  go_wp2_with (first | (go_at_call 36; refine (K.out _ (below_alloc1 _ _)).mono ?_; rintro e w1 ⟨rfl, rfl⟩) | (refine wpList_load_run rfl 24 _ rfl _ _ rfl (HL.out _ (below_alloc1 _ _)) ?_; simp only [Act.put, List.setIfInBounds_toArray, List.set_cons_zero, List.set_cons_succ]) | (refine wpList_store_run rfl 24 _ _ rfl _ _ rfl rfl _ (HST.out _ rfl) ?_; simp only [Act.put]))
  refine bodyPost_ret (v := .tuple #[.agg (u8s ((l.drop at_).take 32)).toArray, .int .i64 ((at_ + 32 : Nat) : Int), .int .i64 0]) ?_ rfl ⟨rfl, below_alloc1 _ _⟩
  simp [results, Tryd.results27, asAddr, hlv, Result.andThen]
end Go.Proofs.YtjllkmkngjdjjaaDoor
namespace Go.Proofs.YtjllkmkngjdjjaaDoor
open Go.RowKit
/-- The digests that some bytes have. -/
def dgsOf (m : List UInt8) : List (List UInt8) := (List.range (m.length / 32)).map fun i => (m.drop (32 * i)).take 32
/-- .. that some files have. -/
def dgs (xs : List (Nat × List UInt8)) : List (List UInt8) := xs.flatMap fun x => dgsOf x.2
theorem dgsOf_len (m : List UInt8) : (dgsOf m).length = m.length / 32 := by simp [dgsOf]
theorem dgsOf_wid (m : List UInt8) : ∀ d ∈ dgsOf m, d.length = 32 := by
  intro d hd
  obtain ⟨i, hi, rfl⟩ := List.mem_map.1 hd
  rw [List.mem_range] at hi
  simp only [List.length_take, List.length_drop]
  omega
theorem dgsOf_take_succ (m : List UInt8) (j : Nat) (hj : j < m.length / 32) : (dgsOf m).take (j + 1) = (dgsOf m).take j ++ [(m.drop (32 * j)).take 32] := by
  rw [List.take_succ_eq_append_getElem (by rw [dgsOf_len]; exact hj)]
  simp [dgsOf]
theorem dgs_nil : dgs [] = [] := rfl
theorem dgs_snoc (xs : List (Nat × List UInt8)) (x : Nat × List UInt8) : dgs (xs ++ [x]) = dgs xs ++ dgsOf x.2 := by simp [dgs]
theorem dgs_wid (xs : List (Nat × List UInt8)) : ∀ d ∈ dgs xs, d.length = 32 := by
  intro d hd
  obtain ⟨x, _, hx⟩ := List.mem_flatMap.1 hd
  exact dgsOf_wid _ d hx
theorem dgsOf_append {m m' : List UInt8} (h : m.length % 32 = 0) : dgsOf (m ++ m') = dgsOf m ++ dgsOf m' := by
  have e : (m ++ m').length / 32 = m.length / 32 + m'.length / 32 := by rw [List.length_append]; omega
  unfold dgsOf
  rw [e, List.range_add, List.map_append]
  congr 1
  · apply List.map_congr_left
    intro i hi
    rw [List.mem_range] at hi
    rw [List.drop_append_of_le_length (by omega), List.take_append_of_le_length (by simp; omega)]
  · rw [List.map_map]
    apply List.map_congr_left
    intro i _
    simp only [Function.comp_apply]
    rw [show 32 * (m.length / 32 + i) = m.length + 32 * i by omega, List.drop_append, List.drop_eq_nil_of_le (show m.length ≤ m.length + 32 * i by omega)]
    simp
theorem dgsOf_flatten : ∀ (L : List (List UInt8)), (∀ d ∈ L, d.length = 32) → dgsOf L.flatten = L
  | [], _ => rfl
  | d :: L, h => by
    have hd := h d (by simp)
    rw [List.flatten_cons, dgsOf_append (by omega), dgsOf_flatten L (fun e he => h e (by simp [he]))]
    have e : dgsOf d = [d] := by
      unfold dgsOf
      rw [hd]
      simp [List.range_succ, List.take_of_length_le, hd]
    rw [e]; rfl
theorem dgs_flatten : ∀ (xs : List (Nat × List UInt8)), (∀ x ∈ xs, x.2.length % 32 = 0) → dgs xs = dgsOf (xs.map Prod.snd).flatten
  | [], _ => rfl
  | x :: xs, h => by
    rw [List.map_cons, List.flatten_cons, dgsOf_append (h x (by simp)), ← dgs_flatten xs (fun y hy => h y (by simp [hy]))]
    rfl
theorem dgs_lenC (xs : List (Nat × List UInt8)) : (dgs xs).length = (xs.map fun x => x.2.length / 32).sum := by
  induction xs with
  | nil => rfl
  | cons x xs ih => rw [show dgs (x :: xs) = dgsOf x.2 ++ dgs xs from rfl, List.length_append, dgsOf_len, ih]; rfl
end Go.Proofs.YtjllkmkngjdjjaaDoor
namespace Go.Proofs.YtjllkmkngjdjjaaDoor
open Go.RowKit Go.Shelf
attribute [local go_sem] Oper.semAt_some
set_option maxRecDepth 100000
theorem all14_calls (p : Value) (hp : ∃ a, p = .pointer a) (h lv : Int) (W : World) :
    Calls Tryd.prog 11 #[p, .int .i64 h, .int .i64 lv] W fun e w' => e = .returned (.func (.func 25) #[] #[.pointer (some ⟨W.heap.size, 0, none⟩), .pointer (some ⟨W.heap.size + 1, 0, none⟩), .pointer (some ⟨W.heap.size + 2, 0, none⟩)]) ∧
      Below W.heap.size W w' ∧ w'.cell? ⟨W.heap.size, 0, none⟩ = some p ∧ w'.cell? ⟨W.heap.size + 1, 0, none⟩ = some (.int .i64 h) ∧ w'.cell? ⟨W.heap.size + 2, 0, none⟩ = some (.int .i64 lv) := by
  obtain ⟨a, rfl⟩ := hp
  go_enter Tryd.func11, Tryd.ntmps11
  go_wp2
  go_ret
  have e2 : W.heap.size + 1 + 1 = W.heap.size + 2 := rfl
  have z1 : (W.alloc (.cells #[.pointer a] 26)).heap.size = W.heap.size + 1 := by simp
  have z2 : ((W.alloc (.cells #[.pointer a] 26)).alloc (.cells #[.int .i64 h] 3)).heap.size = W.heap.size + 2 := by simp
  have n0 := new_cell W (.pointer a) 26
  have n1 := new_cell (W.alloc (.cells #[.pointer a] 26)) (.int .i64 h) 3
  have n2 := new_cell ((W.alloc (.cells #[.pointer a] 26)).alloc (.cells #[.int .i64 h] 3)) (.int .i64 lv) 3
  rw [z1] at n1
  rw [z2] at n2
  exact ⟨rfl, below_then (below_alloc1 _ _) (below_then (below_alloc1 _ _) (below_alloc1 _ _)), cell_below (below_alloc1 _ _) (cell_below (below_alloc1 _ _) n0), cell_below (below_alloc1 _ _) n1, n2⟩
/-- A label, inside a fence. -/
theorem wpIn_label {F : Fence} {n : Nat} {P : Program} {l : Nat} {Q : Exit → Act → World → Prop} {a : Act} {w : World} (h : Q .normal a w) : (Code.label l).wpIn F n P Q a w := by
  intro b k cs hro hb hr
  exact ⟨.normal, a, w, h, .one (fenced_calm hb hr rfl) stepR_label⟩
/-- A round is handed a digest's number and the digest. -/
def HandA (x : Nat × List UInt8) (args : Array Value) (W0 W1 : World) : Prop := args = #[.int .i64 (x.1 : Int), .agg (u8s x.2).toArray] ∧ x.2.length = 32
theorem HandA.steady : Steady HandA := ⟨fun _ _ _ _ _ h _ => h, fun _ _ _ _ _ _ _ h _ _ _ => h⟩
/-- What the iterator holds while it goes through the files. -/
structure AllI (W : World) (q : Nat) (x : DT) (h lv : Nat) (ds : List (List UInt8)) (vl : Value) (V : World) : Prop where
  l0 : V.cell? ⟨q, 0, none⟩ = some vl
  lo : DsO V (q + 4) vl ds
  f0 : V.frozen? ⟨q, 0, none⟩ = false
  k0 : V.cell? ⟨q + 1, 0, none⟩ = some (.pointer (some ⟨x.p, 0, none⟩))
  k1 : V.cell? ⟨q + 2, 0, none⟩ = some (.int .i64 (h : Int))
  k2 : V.cell? ⟨q + 3, 0, none⟩ = some (.int .i64 (lv : Int))
  bel : Below W.heap.size W V
  low : W.heap.size ≤ q
theorem AllI.size {W : World} {q : Nat} {x : DT} {h lv : Nat} {ds : List (List UInt8)} {vl : Value} {V : World} (c : AllI W q x h lv ds vl V) : q + 4 ≤ V.heap.size := by
  have := World.block_lt_of_cell? _ _ c.k2
  simp only at this
  omega
theorem AllI.below {W : World} {q : Nat} {x : DT} {h lv : Nat} {ds : List (List UInt8)} {vl : Value} {V V' : World} (c : AllI W q x h lv ds vl V) (hb : Below V.heap.size V V') : AllI W q x h lv ds vl V' :=
  ⟨cell_below hb c.l0, c.lo.below hb, frozen_below hb c.l0 c.f0, cell_below hb c.k0, cell_below hb c.k1, cell_below hb c.k2, below_then c.bel hb, c.low⟩
theorem AllI.turn {W : World} {q : Nat} {x : DT} {h lv : Nat} {ds : List (List UInt8)} {vl : Value} {V V' : World} {Bs : Nat} {row : Option Nat} (c : AllI W q x h lv ds vl V) (hB : W.heap.size ≤ Bs) (hg : V.grownBy V' row) (hr : ∀ r, row = some r → Bs ≤ r ∧ ∃ o : Obj, V.heap[r]? = some o ∧ o.isCells = false) : AllI W q x h lv ds vl V' := by
  have h2 : ∀ r, row = some r → ∃ o : Obj, V.heap[r]? = some o ∧ o.isCells = false := fun r e => (hr r e).2
  exact ⟨turn_cell hg h2 c.l0, ⟨turn_owns hg h2 c.lo.1, c.lo.2⟩, turn_frozen hg h2 c.l0 c.f0, turn_cell hg h2 c.k0, turn_cell hg h2 c.k1, turn_cell hg h2 c.k2, turn_below hg hr hB c.bel.size c.bel, c.low⟩
theorem AllI.read {W : World} {q : Nat} {x : DT} {s : DSt} {B h lv : Nat} {ds : List (List UInt8)} {vl : Value} {V : World} (c : AllI W q x h lv ds vl V) (hx : x.At s W B) (hT : TabW W) : ReadS (q + 1) x s B h lv V := ⟨c.k0, c.k1, c.k2, hx.below c.bel, tab_below hT c.bel⟩
/-- A digest is put behind the others. -/
theorem AllI.add {W : World} {q : Nat} {x : DT} {h lv : Nat} {ds : List (List UInt8)} {vl vl' : Value} {V V' : World} (c : AllI W q x h lv ds vl V) {d : List UInt8} (ho' : DsO V' (q + 4) vl' (ds ++ [d])) (hg : V.grownBy V' vl.ownBlock) :
    AllI W q x h lv (ds ++ [d]) vl' (V'.setCell ⟨q, 0, none⟩ vl') ∧ ∀ B, KeepsFrom B V (V'.setCell ⟨q, 0, none⟩ vl') := by
  have hge := owns_ge c.lo.1
  have hge' := owns_ge ho'.1
  have hsz := c.size
  have hlow := c.low
  have hb : ∀ k, k < q + 4 → V'.heap[k]? = V.heap[k]? := fun k hk => hg.block k (by omega) (fun e => by have := hge k e.symm; omega)
  have hc : ∀ k, k < 4 → ∀ v, V.cell? ⟨q + k, 0, none⟩ = some v → V'.cell? ⟨q + k, 0, none⟩ = some v := fun k hk v hv => (mods_cell (a := ⟨q + k, 0, none⟩) (hb _ (by show q + k < q + 4; omega))).trans hv
  have h0 := hc 0 (by omega) _ c.l0
  have h1 := hc 1 (by omega) _ c.k0
  have h2 := hc 2 (by omega) _ c.k1
  have h3 := hc 3 (by omega) _ c.k2
  refine ⟨⟨set_cell h0 _, ⟨mods_owns ho'.1 fun k hk => Below.heap_setCell _ _ _ _ (fun e => by have := hge' k hk; have e2 : k = q := e; omega), ho'.2⟩, ?_, set_other h1 (by simp) _, set_other h2 (by simp) _, set_other h3 (by simp) _, ?_, hlow⟩, fun B => ?_⟩
  · exact set_frozen ((mods_frozen (a := ⟨q, 0, none⟩) (hb _ (by show q < q + 4; omega))).trans c.f0) _
  · refine Below.setCell (p := ⟨q, 0, none⟩) ⟨hg.os.trans c.bel.os, hg.tape.trans c.bel.tape, hg.output.trans c.bel.output, Nat.le_trans c.bel.size hg.size, fun k hk => ?_⟩ hlow _
    exact (hb k (by omega)).trans (c.bel.block k hk)
  · refine KeepsFrom.trans' (KeepsFrom.grown _ hg (fun k hk => .inr fun o ho2 => ?_)) ((KeepsOthers.setCell V' ⟨q, 0, none⟩ vl').from _)
    obtain ⟨ob, e1, e2⟩ := owns_isCells c.lo.1 hk
    rw [ho2] at e1; cases e1
    exact e2
theorem wrap_next {k n : Nat} (h : k < n) (hn : n ≤ 1000000) : wrap64 ((k : Int) + 1) = ((k + 1 : Nat) : Int) := by unfold wrap64; omega
theorem zlen (ds : List (List UInt8)) : ((List.range ds.length).zip ds).length = ds.length := by simp
theorem int_lt {k n : Nat} (h : k < n) : (k : Int) < (n : Int) := by omega
theorem down_next {k n : Nat} (h : k < n) : n - (intOf (.int .i64 ((k + 1 : Nat) : Int))).toNat < n - (intOf (.int .i64 (k : Int))).toNat := by
  simp only [intOf, Int.toNat_natCast]
  omega
set_option maxHeartbeats 2000000 in
theorem all14_iter (n : Nat) (h1n : 4 ≤ n) (b : Nat) (x : DT) (s : DSt) (B h lv : Nat) (h1 : 1 ≤ h) (h8 : h ≤ 8) (hfew : Few s) (xs : List (Nat × List UInt8)) (hF : Files s h lv 0 xs) (h0 : tileV h lv 0 (2 ^ h) = true) (hL : (dgs xs).length ≤ 1000000) :
    IterL Fence.wide n Tryd.prog 25 #[.pointer (some ⟨b, 0, none⟩), .pointer (some ⟨b + 1, 0, none⟩), .pointer (some ⟨b + 2, 0, none⟩)] ((List.range (dgs xs).length).zip (dgs xs)) HandA (ReadS b x s B h lv) := by
  intro lp J Jx W hR hJ0 hY
  have KW := Lib.hid (swrong_ok x s W B hR.at_ h lv h1 h8 h0 (by have := hR.at_.sec; omega))
  have c0 := hR.c0
  have c1 := hR.c1
  have c2 := hR.c2
  have hn1 : 1 ≤ n := by omega
  refine callsIn_of_wp_marks Tryd.func25 rfl trivial ?_ rfl
  simp only [Tryd.ntmps25, List.size_toArray, List.length_cons, List.length_nil, Nat.reduceAdd, Nat.reduceSub, Array.replicate_succ, Array.replicate_zero, List.push_toArray, List.append_toArray, List.nil_append, List.cons_append]
  refine wpIn_scope_straight ?_
  gi_wp2_with (first
    | (refine ⟨trivial, ?_⟩; gi_at_call 16; refine (callsIn_wide.2 KW.out).mono ?_; rintro e w1 ⟨rfl, hB1⟩; have d0 := cell_below hB1 c0; have d1 := cell_below hB1 c1; have d2 := cell_below hB1 c2; have l0 : b < w1.heap.size := World.block_lt_of_cell? _ _ d0; have l1 : b + 1 < w1.heap.size := World.block_lt_of_cell? _ _ d1; have l2 : b + 2 < w1.heap.size := World.block_lt_of_cell? _ _ d2)
    | (refine ⟨trivial, ?_⟩; gi_at_call 26; refine (callsIn_wide.2 (files_calls _ ⟨_, rfl⟩ h lv _)).mono ?_; rintro e w2 ⟨rfl, hB2, k0, k1, k2⟩))
  have z1 : (w1.alloc (.cells #[.slice none 0 0] 22)).heap.size = w1.heap.size + 1 := by simp
  have hC0 : AllI W w1.heap.size x h lv [] (.slice none 0 0) w2 := by
    have n0 := new_cell w1 (.slice none 0 0) 22
    have f0 := new_frozen w1 #[.slice none 0 0] 22 0
    rw [z1] at k0 k1 k2
    exact ⟨cell_below hB2 n0, DsO.nil _ _, frozen_below hB2 n0 f0, k0, k1, k2, below_then hB1 (below_then (below_alloc1 _ _) hB2), hB1.size⟩
  have hWW : W.heap.size ≤ w2.heap.size := hC0.bel.size
  have HR := Lib.hid hR; clear hR
  have HY := Lib.hid hY; clear hY
  have HJ0 := Lib.hid hJ0; clear hJ0
  obtain ⟨hlen, -⟩ := hF.bound h8
  clear k0 k1 k2 hB2 d0 d1 d2 l0 l1 l2 c0 c1 c2 KW
  try simp only [z1]
  generalize w1.heap.size = q at *
  clear z1
  refine wpIn_range2 (by rfl) (by omega) (gf := 35) (lb := #[.pointer (some ⟨q + 1, 0, none⟩), .pointer (some ⟨q + 1 + 1, 0, none⟩), .pointer (some ⟨q + 1 + 2, 0, none⟩)]) (by rfl) trivial (enters_of Tryd.func35 (by kernel_rfl) rfl)
    (files_iter (n - 1) (by omega) (q + 1) x s B h lv h1 h8 hfew xs hF) HandS.steady (by rintro x args W0 W1 ⟨v, rfl, _⟩; rfl)
    (fun pre V => ∃ vl, AllI W q x h lv (dgs pre) vl V) (fun _ _ => False)
    (fun s X Y row h hg hr => let ⟨vl, h⟩ := h; ⟨vl, h.turn hWW hg hr⟩) (fun s X Y row h hg hr => h) (fun pre V h => let ⟨vl, c⟩ := h; c.read HR.out.at_ HR.out.tab) ⟨_, hC0⟩ ?round ?done ?stop
  case round =>
    rintro lp ⟨k, m⟩ args W0 W1 hs0 hb ⟨v', rfl, ho⟩
    gi_wp2
    refine ⟨Below.refl _ _, ?_⟩
    rintro l' pre rest V0 V2 hl' hxs vl hC hbV ⟨v2, hv2, ho2⟩
    cases hv2
    have hC2 := hC.below hbV
    have hm := hlen (k, m) (by rw [hxs]; simp)
    simp only at hm
    have hdl : (dgs pre).length + m.length / 32 ≤ 1000000 := by
      have e1 := dgs_lenC xs
      have e2 := dgs_lenC pre
      rw [hxs] at e1
      simp only [List.map_append, List.map_cons, List.sum_append, List.sum_cons] at e1
      rw [hxs] at hL
      omega
    have hsn : dgs (pre ++ [(k, m)]) = dgs pre ++ (dgsOf m).take (m.length / 32) := by rw [dgs_snoc, List.take_of_length_le (by rw [dgsOf_len]; exact Nat.le_refl _)]
    have HSN := Lib.hid hsn; clear hsn
    have hap : ∀ kb, vl.ownBlock = some kb → v'.ownBlock ≠ some kb := fun kb h3 h4 => by
      have a1 := owns_lt hC.lo.1 kb h3
      have a2 := owns_ge ho2 kb h4
      omega
    have hq4 : q + 4 ≤ V0.heap.size := hC.size
    have HS := Lib.hid (And.intro hC2 (And.intro ho2 hap))
    obtain ⟨A2, c2, ev, -, -, -⟩ := ho2.form
    subst ev
    have hsV := hbV.size
    clear hC hC2 ho ho2 hap hxs hbV hlen hF
    gi_wp2
    gi_loopw [28] (fun i wr => ∃ (j : Nat) (vl : Value), j ≤ m.length / 32 ∧ i = .int .i64 (j : Int) ∧ AllI W q x h lv (dgs pre ++ (dgsOf m).take j) vl wr ∧ KeepsFrom w2.heap.size V2 wr ∧ V0.heap.size ≤ wr.heap.size ∧ OwnB wr V0.heap.size (.slice A2 m.length c2) m ∧ ∀ kb, vl.ownBlock = some kb → (Value.slice A2 m.length c2).ownBlock ≠ some kb) (fun i _ => m.length / 32 - (intOf i).toNat)
    case atStart => exact ⟨0, vl, Nat.zero_le _, rfl, by rw [List.take_zero, List.append_nil]; exact HS.out.1, KeepsFrom.below _ (Below.refl _ _), hsV, HS.out.2.1, HS.out.2.2⟩
    case round =>
      obtain ⟨j, vl2, hj, rfl, hA, hK, hsz, hO, hap⟩ := hrel
      by_cases hlt : j < m.length / 32
      · have g1 : decide ((j : Int) < (m.length : Int) / 32) = true := by rw [decide_eq_true_iff]; omega
        obtain ⟨at0, hat0⟩ : ∃ a, a = 32 * j := ⟨_, rfl⟩
        have hw0 : wrap64 ((j : Int) * 32) = (at0 : Int) := by unfold wrap64; omega
        have KD_1 := odigest_calls (.slice A2 m.length c2) m at0 wr hO.bs (by omega) (by omega)
        have hts := dgsOf_take_succ m j hlt
        rw [← hat0] at hts
        have hd32 : ((m.drop at0).take 32).length = 32 := by simp; omega
        have HTS := Lib.hid hts; clear hts
        generalize (m.drop at0).take 32 = d at *
        have KD := Lib.hid KD_1
        have HA := Lib.hid hA
        have hdn : (dgs pre ++ (dgsOf m).take j).length + 1 ≤ 4000000 := by rw [List.length_append, List.length_take, dgsOf_len]; omega
        have e0 := hA.l0
        have ef := hA.f0
        have hq4r := hA.size
        obtain ⟨Al, cl, el, -, -⟩ := hA.lo.form
        have HAT := Lib.hid hat0
        have hwj : wrap64 ((j : Int) + 1) = ((j + 1 : Nat) : Int) := by unfold wrap64; omega
        have HLT := Lib.hid (And.intro hlt (And.intro hm (And.intro hj (And.intro hq4 hsV))))
        have HQ4 := Lib.hid hq4r
        have HH := Lib.hid (And.intro h1 (And.intro h8 h0))
        have HO := Lib.hid (And.intro hO hap)
        clear hA hO hap hat0 hlt hm hj hq4 hq4r hsV h1 h8 h0 hdl hL KD_1
        generalize hds : dgs pre ++ (dgsOf m).take j = ds at *
        have HDS := Lib.hid hds; clear hds
        subst el
        gi_wp2_with (first
          | (refine ⟨trivial, fun _ => (by omega), ?_⟩; refine (callsIn_wide.2 KD.out).mono ?_; rintro e w3 ⟨rfl, hB3⟩; have e03 := cell_below hB3 e0; have ef3 := frozen_below hB3 e0 ef)
          | (refine wpListIn_store_run rfl 24 _ _ rfl _ _ rfl rfl _ (store_digest_new w3 hd32 _ rfl) ?_; simp only [Act.put]; have hB4 := below_alloc1 w3 (.cells (u8s d).toArray 24); have hbx := range_new w3 d; have e04 := cell_below hB4 e03; have ef4 := frozen_below hB4 e03 ef3; have HB4 := Lib.hid (below_then hB3 hB4); clear hB3 hB4 e03 ef3; generalize w3.alloc (.cells (u8s d).toArray 24) = w4 at *; generalize w3.heap.size = pb at *; have hld := load_digest hd32 hbx; clear hbx)
          | (refine wpListIn_load_run rfl 24 _ rfl _ _ rfl hld ?_)
          | (refine wpListIn_one_digest rfl _ rfl d rfl hd32 ?_)
          | (gi_at_builtin; refine wpListIn_app_digest rfl _ _ rfl (q + 4) (.slice Al ds.length cl) rfl ds (HA.out.below HB4.out).lo d hd32 rfl hdn (by have := HB4.out.size; have := HQ4.out; omega) ?_; intro vl' V5 ho5 hg5 hat5; obtain ⟨A5, c5, e5, -, -⟩ := ho5.form; have HF5 := Lib.hid ((HA.out.below HB4.out).below (below_alloc1 w4 (.cells (u8s d).toArray 24)) |>.add ho5 hg5); have HO5 := Lib.hid (And.intro ho5 (And.intro hg5 hat5)); have hq5 : q < (w4.alloc (.cells (u8s d).toArray 24)).heap.size := (by have := HB4.out.size; have := HQ4.out; simp; omega); have hge5 := owns_ge HA.out.lo.1; have e05 := (mods_cell (a := ⟨q, 0, none⟩) (hg5.block q hq5 (fun e => by have := hge5 q e.symm; omega))).trans (cell_below (below_alloc1 w4 _) e04); have ef5 := (mods_frozen (a := ⟨q, 0, none⟩) (hg5.block q hq5 (fun e => by have := hge5 q e.symm; omega))).trans (frozen_below (below_alloc1 w4 _) e04 ef4); clear ho5 hg5 hat5 hge5; subst e5))
        have hlt := HLT.out.1
        have hsz5 := HO5.out.2.1.size
        have hz4 : (w4.alloc (.cells (u8s d).toArray 24)).heap.size = w4.heap.size + 1 := by simp
        have hb4 := below_then HB4.out (below_alloc1 w4 (.cells (u8s d).toArray 24))
        have hs4 := hb4.size
        have hrs : (V5.setCell ⟨q, 0, none⟩ (.slice A5 (ds.length + 1) c5)).heap.size = V5.heap.size := by simp [World.setCell]
        have hel : (ds ++ [d]).length = ds.length + 1 := by simp
        have hF5 := HF5.out
        have hO5 := HO5.out
        rw [hel] at hF5 hO5
        have hOb := HO.out.1
        have hnb := HO.out.2
        have hq4 := HLT.out.2.2.2.1
        have hbl : ∀ kb, (Value.slice A2 m.length c2).ownBlock = some kb → (V5.setCell ⟨q, 0, none⟩ (.slice A5 (ds.length + 1) c5)).heap[kb]? = wr.heap[kb]? := fun kb hk => by
          have a1 := owns_ge hOb kb hk
          have a2 := owns_lt hOb kb hk
          rw [Below.heap_setCell _ _ _ _ (show kb ≠ q by omega), hO5.2.1.block kb (by omega) (fun e => hnb kb e.symm hk), hb4.block kb a2]
        refine ⟨⟨j + 1, .slice A5 (ds.length + 1) c5, by omega, by rw [hwj], ?_, KeepsFrom.trans' hK (KeepsFrom.trans' (KeepsFrom.below _ hb4) (hF5.2 _)), by omega, mods_owns hOb hbl, fun kb hk hk2 => ?_⟩, ?_⟩
        · rw [HTS.out, ← List.append_assoc, HDS.out]
          exact hF5.1
        · have a2 := owns_lt hOb kb hk2
          rcases hO5.2.2 with e | e
          · rw [hk] at e
            exact hnb kb e.symm hk2
          · rw [hk] at e
            have := Option.some.inj e
            omega
        · rw [hwj]
          simp only [intOf, Int.toNat_natCast]
          omega
      · have e : j = m.length / 32 := by omega
        subst e
        have g1 : decide (((m.length / 32 : Nat) : Int) < (m.length : Int) / 32) = false := by rw [decide_eq_false_iff_not]; omega
        have HA := Lib.hid hA
        clear hA hO hap
        gi_wp2
        exact ⟨hK, vl2, by rw [HSN.out]; exact HA.out⟩
  case done =>
    rintro D W0 V hD ⟨vl, hC⟩ hb hK
    have hC2 := hC.below hb
    have e0 := hC2.l0
    obtain ⟨Al, cl, el, -, -⟩ := hC2.lo.form
    subst el
    have HC2 := Lib.hid hC2
    have HF := Lib.hid (And.intro hlen (And.intro hF (And.intro h1 (And.intro h8 (And.intro h0 hL)))))
    clear hC hC2 hb hlen hF h1 h8 h0 hL hC0 hB1 w1
    generalize hds : dgs xs = ds at *
    have HDS := Lib.hid hds; clear hds
    gi_wp2_with (refine wpIn_label ?_)
    have hJ1 := HJ0.out V HC2.out.bel
    have hlow := HC2.out.low
    have hVq := HC2.out.size
    have hDV : D < V.heap.size := (Array.getElem?_eq_some_iff.1 hK).1
    have HGE := Lib.hid (owns_ge HC2.out.lo.1)
    have HLO := Lib.hid (owns_lt HC2.out.lo.1)
    have hwid := HC2.out.lo.2
    gi_loopw [46] (fun i wq => ∃ (k : Nat) (W0 : World), k ≤ ds.length ∧ i = .int .i64 (k : Int) ∧ J V.heap.size (((List.range ds.length).zip ds).take k) W0 ∧ Below W0.heap.size W0 wq ∧ V.heap.size ≤ W0.heap.size ∧ DsO wq (q + 4) (.slice Al ds.length cl) ds ∧ W0.heap[D]? = some (.deferred (some []))) (fun i _ => ds.length - (intOf i).toNat)
    case atStart => exact ⟨0, V, Nat.zero_le _, rfl, hJ1, Below.refl _ _, Nat.le_refl _, HC2.out.lo, hK⟩
    case round =>
      obtain ⟨k, W0', hk, rfl, hJ, hb, hsz, hown, hKD⟩ := hrel
      have HO2 := Lib.hid hown
      by_cases hlt : k < ds.length
      · obtain ⟨g, o, eA, hra⟩ := hown.ds.at_ k hlt
        clear hown
        have x32 := hwid _ (List.getElem_mem hlt)
        have hwk : wrap64 ((k : Int) + 1) = ((k + 1 : Nat) : Int) := wrap_next hlt HF.out.2.2.2.2.2
        have hld := load_digest x32 hra
        have hk0 : (0 : Int) ≤ (k : Int) := Int.natCast_nonneg _
        have hk1 : (k : Int) < (ds.length : Int) := int_lt hlt
        have hkz : k < ((List.range ds.length).zip ds).length := by rw [zlen]; exact hlt
        have hget : ((List.range ds.length).zip ds)[k] = (k, ds[k]) := by simp
        have hx : (List.range ds.length).zip ds = ((List.range ds.length).zip ds).take k ++ (k, ds[k]) :: ((List.range ds.length).zip ds).drop (k + 1) := by rw [← hget, List.getElem_cons_drop, List.take_append_drop]
        have hxt : ((List.range ds.length).zip ds).take (k + 1) = ((List.range ds.length).zip ds).take k ++ [(k, ds[k])] := by rw [← hget, List.take_succ_eq_append_getElem hkz]
        have HXT := Lib.hid hxt
        have hb1 := below_alloc1 wr (.cells (u8s ds[k]).toArray 24)
        have hbx := range_new wr ds[k]
        have hl1 := load_digest x32 hbx
        have HO4 := Lib.hid (HO2.out.below hb1)
        have hsz1 := hb1.size
        have hY1 := HY.out _ (((List.range ds.length).zip ds).take k) (k, ds[k]) (((List.range ds.length).zip ds).drop (k + 1)) #[.int .i64 (k : Int), .agg (u8s ds[k]).toArray] W0' _ hx hJ (below_then hb hb1) ⟨rfl, x32⟩
        have HST := Lib.hid (fun z (hz : z.size = 32) => store_digest_new wr x32 z hz)
        have HB0 := Lib.hid (below_then hb hb1)
        have hbs := hb.size
        clear hx hxt hJ hb hbx hra hget hkz
        generalize hW1 : wr.alloc (.cells (u8s ds[k]).toArray 24) = W1 at *
        obtain ⟨fn, tmps, assign, body, hy, hR⟩ := hY1
        generalize ds[k] = d at *
        subst eA
        gi_wp2_with (first
          | (refine wpListIn_load_run rfl 24 _ rfl _ _ rfl hld ?_)
          | (refine wpListIn_store_run rfl 24 _ _ rfl _ _ rfl rfl _ (HST.out _ rfl) ?_)
          | (refine wpListIn_load_run rfl 24 _ rfl _ _ rfl hl1 ?_))
        refine hR.mono ?_
        have hDw : W.heap.size ≤ D := by omega
        rintro e W3 ⟨hS, hz3, (⟨rfl, hJ3⟩ | ⟨rfl, hJx3⟩)⟩
        · have hD3 : W3.heap[D]? = some (.deferred (some [])) := (hS D hDw hDV).trans ((HB0.out.block D (by omega)).trans hKD)
          have hO5 : DsO W3 (q + 4) (.slice (some ⟨g, o, none⟩) ds.length cl) ds := ⟨mods_owns HO4.out.1 fun kk hk => hS kk (by have := HGE.out kk hk; omega) (HLO.out kk hk), HO4.out.2⟩
          have HO5 := Lib.hid hO5
          clear hO5 hS hy hR hW1 hl1 hld
          gi_wp2
          go_roundw
          case rel => exact ⟨k + 1, W3, hlt, by rw [hwk], by rw [HXT.out]; exact hJ3, Below.refl _ _, by omega, HO5.out, hD3⟩
          case measure => rw [hwk]; exact down_next hlt
        · have hD3 : W3.heap[D]? = some (.deferred (some [])) := (hS D hDw hDV).trans ((HB0.out.block D (by omega)).trans hKD)
          clear hS hy hR hW1 hl1 hld
          gi_wp2
          refine ⟨by simp, .inl ⟨_, _, rfl, run_takeDeferred hD3, ?_⟩⟩
          exact ⟨_, results_none rfl _ _ _, ⟨_, rfl⟩, W3, _, Later.of_turn (Below.refl _ _) hDw hD3 rfl _, .inr ⟨_, hJx3⟩⟩
      · have hkn : k = ds.length := by omega
        subst hkn
        rw [List.take_of_length_le (by rw [zlen]; exact Nat.le_refl _)] at hJ
        have hDr : wr.heap[D]? = some (.deferred (some [])) := (hb.block D (by omega)).trans hKD
        gi_wp2
        refine ⟨by simp, .inl ⟨_, _, rfl, run_takeDeferred hDr, ?_⟩⟩
        exact ⟨_, results_none rfl _ _ _, ⟨_, rfl⟩, W0', _, Later.of_turn hb (by omega) hKD rfl _, .inl (by rw [HDS.out]; exact hJ)⟩
  case stop =>
    rintro D c' W0 W _ h
    exact h.elim
end Go.Proofs.YtjllkmkngjdjjaaDoor
namespace Go.Proofs.YtjllkmkngjdjjaaDoor
open Go.RowKit Go.Shelf
attribute [local go_sem] Oper.semAt_some
set_option maxRecDepth 100000
theorem Files.mod32 {s : DSt} {h lv k : Nat} {xs : List (Nat × List UInt8)} (hF : Files s h lv k xs) (hs : ∀ j l, s.fs (tname h lv j) = some l → l.length % 32 = 0) : ∀ x ∈ xs, x.2.length % 32 = 0 := by
  induction hF with
  | bad k hv => simp
  | none k hv hn => simp
  | part k l hv hn hl => intro x hx; simp at hx; subst hx; exact hs k l hn
  | full k l hv hn hl xs hx ih =>
    intro x hx
    rcases List.mem_cons.1 hx with rfl | hx
    · simp only [List.length_take]
      have := hs k l hn
      omega
    · exact ih x hx
theorem fdgs {s : DSt} {sec h : Nat} {L : List (List UInt8)} (H : Filled s sec h L) (h1 : 1 ≤ h) (h8 : h ≤ 8) (hL : L.length ≤ 1000000000000) : ∃ xs, Files s h 0 0 xs ∧ dgs xs = L := by
  obtain ⟨xs, x1, -, x3⟩ := fcnt H h1 h8 hL
  refine ⟨xs, x1, ?_⟩
  rw [dgs_flatten xs (x1.mod32 fun j l hl => ?_), x3, dgsOf_flatten L H.len]
  rw [H.fs] at hl
  split at hl
  · cases hl
    rw [fileL_len H.len]
    omega
  · cases hl
theorem Nearly.low {p B : Nat} {W ws V : World} (h : Nearly p ws V) (hb : Below B W ws) (hp : B ≤ p) (hB : B ≤ ws.heap.size) : Below B W V :=
  ⟨h.os.trans hb.os, h.tape.trans hb.tape, h.output.trans hb.output, Nat.le_trans hb.size h.size, fun k hk => (h.block k (by omega) (by omega)).trans (hb.block k hk)⟩
theorem zip_split {L : List (List UInt8)} {pre rest : List (Nat × List UInt8)} {j : Nat} {d : List UInt8} (h : (List.range L.length).zip L = pre ++ (j, d) :: rest) : ∃ hp : pre.length < L.length, j = pre.length ∧ L[pre.length] = d := by
  have h1 := congrArg List.length h
  rw [zlen] at h1
  simp only [List.length_append, List.length_cons] at h1
  have hp : pre.length < L.length := by omega
  have h2 := congrArg (fun l => l[pre.length]?) h
  simp only [List.getElem?_append_right (Nat.le_refl _), Nat.sub_self, List.getElem?_cons_zero] at h2
  rw [List.getElem?_eq_getElem (by rw [zlen]; exact hp)] at h2
  simp at h2
  exact ⟨hp, h2.1.symm, h2.2⟩
theorem mod_place (p : Int) (n : Nat) (h0 : 0 < n) (hn : n ≤ 1000000000) : ∃ c : Nat, c < n ∧ (wrap64 (p.tmod (n : Int) + (n : Int))).tmod (n : Int) = (c : Int) := by
  have h1 := Int.tmod_lt_of_pos p (show (0 : Int) < (n : Int) by omega)
  have h2 : -(n : Int) < p.tmod (n : Int) := Int.lt_tmod_of_pos p (show (0 : Int) < (n : Int) by omega)
  generalize p.tmod (n : Int) = q at h1 h2
  obtain ⟨m, hm⟩ := Int.eq_ofNat_of_zero_le (show 0 ≤ q + (n : Int) by omega)
  have hw : wrap64 (q + (n : Int)) = (m : Int) := by unfold wrap64; omega
  refine ⟨m % n, Nat.mod_lt _ h0, ?_⟩
  rw [hw, Int.tmod_eq_emod_of_nonneg (by omega)]
  rfl
theorem lt_facts {k n : Nat} (h : k < n) (hn : n ≤ 1000000) : decide ((n : Int) ≤ (k : Int)) = false ∧ decide (n ≤ k) = false ∧ (0 : Int) ≤ (k : Int) ∧ (k : Int) < (n : Int) ∧ (k : Int) + 1 ≤ 9223372036854775807 := by
  refine ⟨by rw [decide_eq_false_iff_not]; omega, by rw [decide_eq_false_iff_not]; omega, by omega, by omega, by omega⟩
theorem drop_get {M : List (List UInt8)} (h : ∀ d ∈ M, d.length = 32) (j : Nat) (hj : j < M.length) : (M.flatten.take (32 * (j + 1))).drop (32 * j) = M[j] := by
  have e1 := dgsOf_flatten M h
  have e2 : (dgsOf M.flatten)[j]'(by rw [e1]; exact hj) = M[j] := by congr 1
  rw [← e2]
  unfold dgsOf
  rw [List.getElem_map, List.getElem_range, List.drop_take]
  congr 1
  omega
theorem fileL_get {L : List (List UInt8)} (hL : ∀ d ∈ L, d.length = 32) (h p : Nat) (hp : p < L.length) : ((fileL L h (p / 2 ^ h)).take (32 * (p % 2 ^ h + 1))).drop (32 * (p % 2 ^ h)) = L[p] := by
  have hlt := Nat.mod_lt p (Nat.two_pow_pos h)
  have hdm := Nat.div_add_mod' p (2 ^ h)
  unfold fileL
  rw [drop_get (fun d hd => hL d (List.mem_of_mem_drop (List.mem_of_mem_take hd))) (p % 2 ^ h) (by simp only [List.length_take, List.length_drop]; omega)]
  rw [List.getElem_take, List.getElem_drop]
  congr 1
/-- The numbers of a digest's place. -/
theorem place_nums (h p n : Nat) (h8 : h ≤ 8) (hp : p < n) (hn : n ≤ 1000000) : ∃ P at0 wd kd a32 ml : Nat, P = 2 ^ h ∧ at0 = p % 2 ^ h ∧ wd = at0 + 1 ∧ kd = p / 2 ^ h ∧ a32 = 32 * at0 ∧ ml = 32 * wd ∧ P ≠ 0 ∧ wrap64 ((2 : Int) ^ h) = (P : Int) ∧ (p : Int) % (P : Int) = (at0 : Int) ∧
    wrap64 ((at0 : Int) + 1) = (wd : Int) ∧ (p : Int) / 2 ^ h = (kd : Int) ∧ wrap64 (32 * (at0 : Int)) = (a32 : Int) ∧ wrap64 (32 * (wd : Int)) = (ml : Int) ∧ 1 ≤ wd ∧ wd ≤ 2 ^ h ∧ kd * 2 ^ h + wd ≤ n ∧ ml ≤ 8192 := by
  have h32 := shl32 h h8
  have hpos := Nat.two_pow_pos h
  have hlt := Nat.mod_lt p hpos
  have hdm := Nat.div_add_mod' p (2 ^ h)
  have e2 : ((2 : Int) ^ h) = ((2 ^ h : Nat) : Int) := by push_cast; rfl
  refine ⟨2 ^ h, p % 2 ^ h, p % 2 ^ h + 1, p / 2 ^ h, 32 * (p % 2 ^ h), 32 * (p % 2 ^ h + 1), rfl, rfl, rfl, rfl, rfl, rfl, by omega, ?_, by push_cast; rfl, ?_, by push_cast; rfl, ?_, ?_, by omega, by omega, by omega, by omega⟩
  · rw [e2]; generalize 2 ^ h = P at *; unfold wrap64; omega
  · generalize p % 2 ^ h = q at *; generalize 2 ^ h = P at *; unfold wrap64; omega
  · generalize p % 2 ^ h = q at *; generalize 2 ^ h = P at *; unfold wrap64; omega
  · generalize p % 2 ^ h = q at *; generalize 2 ^ h = P at *; unfold wrap64; omega
set_option maxHeartbeats 2000000 in
theorem shelfBack_walk (a : Int) (v : Value) (L : List (List UInt8)) (i : Int) (W : World) (hT : TabW W) (hv : Ds W v L) (hL : L.length ≤ 1000000) :
    Calls Tryd.prog 4 #[.int .i64 a, v, .int .i64 i] W fun e w' => e = .returned (.bool true) ∧ Below W.heap.size W w' := by
  have K0 := Lib.hid (hgt_calls a)
  have HV := Lib.hid hv
  obtain ⟨A, c, rfl, l1, l2⟩ := hv.form
  have z1 : (W.alloc (.cells #[.slice A L.length c] 22)).heap.size = W.heap.size + 1 := by simp
  have bb1 := below_alloc1 W (.cells #[.slice A L.length c] 22)
  have bb2 := below_alloc1 (W.alloc (.cells #[.slice A L.length c] 22)) (.cells #[.bool false] 4)
  have n0 := cell_below bb2 (new_cell W (.slice A L.length c) 22)
  have n1 := new_cell (W.alloc (.cells #[.slice A L.length c] 22)) (.bool false) 4
  have f1 := new_frozen (W.alloc (.cells #[.slice A L.length c] 22)) #[.bool false] 4 0
  rw [z1] at n1 f1
  have hbW := below_then bb1 bb2
  have KF := Lib.hid (fun h h1 h8 => filled_calls 16 h h1 h8 (by omega) _ L _ (tab_below hT hbW) (hv.below hbW) (by omega))
  rw [show ((16 : Nat) : Int) = 16 from rfl] at KF
  have hfn := fun f cs bs W => eql_func_nil (P := Tryd.prog) 41 _ _ _ Tryd.underlying41 f cs bs W
  clear hv bb1 bb2
  refine (callsIn_wide (n := 9)).1 ?_
  refine callsIn_of_wp_marks Tryd.func4 rfl trivial ?_ rfl
  simp only [Tryd.ntmps4, List.size_toArray, List.length_cons, List.length_nil, Nat.reduceAdd, Nat.reduceSub, Array.replicate_succ, Array.replicate_zero, List.push_toArray, List.append_toArray, List.nil_append, List.cons_append]
  gi_wp2_with (first
    | (refine ⟨trivial, ?_⟩; gi_at_call 5; refine (callsIn_wide.2 (K0.out _)).mono ?_; rintro e w1 ⟨h, rfl, h1, h8, rfl⟩)
    | (refine ⟨trivial, ?_⟩; gi_at_call 6; refine (callsIn_wide.2 (KF.out h h1 h8)).mono ?_; rintro e w2 ⟨x, s, rfl, hx, hF, hB2⟩; have hk2 := new_cell w2 (.int .i64 0) 3; have hkf2 := new_frozen w2 #[.int .i64 0] 3 0)
    | (refine ⟨trivial, ?_⟩; gi_at_call 11; have _t := hkf2; refine (callsIn_wide.2 (all14_calls _ ⟨_, rfl⟩ h 0 _)).mono ?_; rintro e w3 ⟨rfl, hB3, -⟩; have hk3 := cell_below hB3 hk2; have hkf3 := frozen_below hB3 hk2 hkf2; clear hkf2)
    | (refine ⟨trivial, ?_⟩; gi_at_call 11; refine (callsIn_wide.2 (all14_calls _ ⟨_, rfl⟩ h 0 _)).mono ?_; rintro e w4 ⟨rfl, hB4, k0, k1, k2⟩))
  have hb34 := below_then hB3 hB4
  have hbk := below_alloc1 w2 (.cells #[.int .i64 0] 3)
  have hb24 := below_then hbk hb34
  have hbw4 : Below W.heap.size W w4 := below_then hbW (below_then hB2 hb24)
  have c0 := cell_below (below_then hB2 hb24) n0
  have c1 := cell_below (below_then hB2 hb24) n1
  have cf1 := frozen_below (below_then hB2 hb24) n1 f1
  have hck := cell_below hB4 hk3
  have hckf := frozen_below hB4 hk3 hkf3
  have hz3 := hB3.size
  rw [World.size_alloc] at hz3
  have hz4 := hB4.size
  have hlow : W.heap.size + 2 ≤ w2.heap.size := by have := hB2.size; simp only [World.size_alloc] at this; omega
  have HX := Lib.hid (show ∀ V, Nearly w2.heap.size w4 V → x.At s V W.heap.size from fun V hV => ((hx.below hb24).lower (by simp only [World.size_alloc]; omega)).kept fun k hk => hV.block k (Nat.lt_of_lt_of_le (hx.lt hk) hb24.size) (fun e => by have := hx.lt hk; omega))
  have HLOW := Lib.hid (fun V (hV : Nearly w2.heap.size w4 V) => hV.low hbw4 (by omega) (by omega))
  have HT := Lib.hid (fun V (hV : Nearly w2.heap.size w4 V) => tab_below hT (HLOW.out V hV))
  have HC := Lib.hid (fun V (hV : Nearly w2.heap.size w4 V) => And.intro (hV.cell c0 (show W.heap.size ≠ w2.heap.size by omega)) (And.intro (hV.cell c1 (show W.heap.size + 1 ≠ w2.heap.size by omega)) (hV.frozen c1 cf1 (show W.heap.size + 1 ≠ w2.heap.size by omega))))
  have HDs := Lib.hid (fun V (hV : Nearly w2.heap.size w4 V) => HV.out.below (HLOW.out V hV))
  obtain ⟨xs, hxs, hdg⟩ := fdgs hF h1 h8 (by omega)
  have hit := all14_iter 8 (by omega) w3.heap.size x s W.heap.size h 0 h1 h8 hF.Few xs hxs (Filled.tile (L := L) h1 h8 (by omega) 0 (by omega)) (by rw [hdg]; exact hL)
  rw [hdg] at hit
  clear n0 n1 f1 hB2 hB3 hB4 hbk hb34 hb24 hk2 hk3 hkf3 c0 c1 cf1 KF K0 z1 hbW _t hdg hxs xs
  have HFL := Lib.hid hF; clear hF
  generalize hbkd : w2.heap.size = bk at *
  generalize hb3d : w3.heap.size = b3 at *
  clear hbkd hb3d hx w2 w3
  refine wpIn_rangeL (by rfl) (by omega) (gf := 25) (lb := #[.pointer (some ⟨b3, 0, none⟩), .pointer (some ⟨b3 + 1, 0, none⟩), .pointer (some ⟨b3 + 2, 0, none⟩)]) (by rfl) trivial (enters_of Tryd.func25 (by kernel_rfl) rfl)
    hit HandA.steady (by rintro x args W0 W1 ⟨h, -⟩; rw [h]; rfl)
    (fun _ pre V => KAt w4 bk pre.length V) (fun _ _ _ => False)
    (fun M s X Y row h hg hr => KAt.turn h hg hr) (fun M s X Y row h hg hr => h)
    (fun V hV => ⟨cell_below hV k0, cell_below hV k1, cell_below hV k2, HX.out V (Nearly.of_below hV), HT.out V (Nearly.of_below hV)⟩)
    (fun V hV => ⟨cell_below hV hck, frozen_below hV hck hckf, Nearly.of_below hV⟩) ?round ?done ?stop
  case round =>
    rintro lp ⟨j, d⟩ args W0 W1 hs0 hb ⟨rfl, d32⟩
    simp only at d32
    have HST := Lib.hid (store_digest_new W1 d32)
    have hrn := range_new W1 d
    gi_wp2_with (first | (refine wpListIn_store_run rfl 24 _ _ rfl _ _ rfl rfl _ (HST.out _ rfl) ?_; simp only [Act.put]))
    refine ⟨below_alloc1 _ _, BoxD W1.heap.size d, hrn, BoxD.turn, ?_⟩
    generalize W1.heap.size = bx at *
    clear HST hrn
    intro l' M' pre rest V0 V2 hl' hsz hM hxs hI hbV _ hbox
    have hL2 := hI.below hbV
    have hci2 := hL2.i
    obtain ⟨hcl2, -, -⟩ := HC.out V2 hL2.near
    obtain ⟨hpl, rfl, hex⟩ := zip_split hxs
    obtain ⟨g, o, hA, hra⟩ := (HDs.out V2 hL2.near).at_ pre.length hpl
    subst hA
    rw [hex] at hra
    have LA := Lib.hid (fun w' (hq : ∃ n, w' = V2.drewN n) => (show (Instr.loadAt 24 (.pointer (some ⟨g, o + pre.length * 32, none⟩))).run Tryd.prog w' = .ok (.agg (u8s d).toArray) w' by obtain ⟨n, rfl⟩ := hq; exact load_digest d32 (rangeAt_drewN hra n)))
    have LB := Lib.hid (fun w' (hq : ∃ n, w' = V2.drewN n) => (show (Instr.loadAt 24 (.pointer (some ⟨bx, 0, none⟩))).run Tryd.prog w' = .ok (.agg (u8s d).toArray) w' by obtain ⟨n, rfl⟩ := hq; exact load_digest d32 (rangeAt_drewN hbox n)))
    obtain ⟨g3, g4, g5, g6, g7⟩ := lt_facts hpl hL
    have HL2 := Lib.hid hL2
    have hMV : M' ≤ V2.heap.size := Nat.le_trans hM hbV.size
    have hbs : bk < w4.heap.size := World.block_lt_of_cell? _ _ hck
    have HMS := Lib.hid (And.intro hMV (And.intro hbs hsz))
    clear hra hbox hL2 hxs hI hex hMV hbs hsz hM hl' hs0 hpl
    generalize hnp : pre.length = np at *
    have HNP := Lib.hid hnp; clear hnp
    gi_wp2
    refine wpIn_region_quiet_any (by kernel_rfl) (by kernel_rfl) (by kernel_rfl) ?_
    gi_big_quiet_step (fail)
    gi_big_quiet_step (fail)
    gi_big_quiet_step (fail)
    gi_big_quiet_step (fail)
    gi_big_quiet_step (fail)
    gi_big_quiet_step (fail)
    gi_big_quiet_step (fail)
    gi_big_quiet_step (fail)
    gi_big_quiet_step (fail)
    gi_big_quiet_step (fail)
    refine wpQuietIn_run (by rfl) (fun _ => by simp [Oper.about]) (.agg (u8s d).toArray) (fun w' hw => run_op_load _ _ rfl _ _ (by rfl) w' (LB.out w' hw)) ?_
    simp only [Act.put, List.setIfInBounds_toArray, List.set_cons_zero, List.set_cons_succ]
    gi_big_quiet_step (fail)
    gi_big_quiet_step (fail)
    gi_big_quiet_step (fail)
    refine wpQuietIn_run (by rfl) (fun _ => by simp [Oper.about]) (.agg (u8s d).toArray) (fun w' hw => run_op_load _ _ rfl _ _ (by rfl) w' (LA.out w' hw)) ?_
    simp only [Act.put, List.setIfInBounds_toArray, List.set_cons_zero, List.set_cons_succ]
    refine wpQuietIn_run (by rfl) (fun _ => by simp [Oper.about]) (.bool (d != d)) (fun w' _ => run_op_neq _ _ _ rfl d d d32 d32 (by rfl) (by rfl) w') ?_
    simp only [Act.put, List.setIfInBounds_toArray, List.set_cons_zero, List.set_cons_succ]
    have hbn : (d != d) = false := by simp
    rw [hbn]
    gi_big_quiet_step (fail)
    refine wpQuietIn_nil ?_
    intro _ hw'; obtain ⟨nq, hw''⟩ := hw'; subst hw''
    have hD := below_drewN (Below.refl V2.heap.size V2) nq
    generalize V2.drewN nq = V3 at hD ⊢
    have hL3 := HL2.out.below hD
    clear LA LB hbn g3 g4 hci2 hcl2 HL2
    have hci3 := hL3.i
    have hfi3 := hL3.fr
    gi_wp2
    obtain ⟨hMV, hbs, hsz⟩ := HMS.out
    have hset := hL3.set (np + 1) hbs (w4.heap.size + 2) M' (by omega)
    rw [show ((np + 1 : Nat) : Int) = (np : Int) + 1 by omega] at hset
    exact ⟨KeepsFrom.trans' (KeepsFrom.below _ hD) hset.2.2, (SameB.below _ hD hMV).trans hset.2.1, by show KAt _ _ (pre ++ [(np, d)]).length _; rw [show (pre ++ [(np, d)]).length = np + 1 by rw [List.length_append, HNP.out]; rfl]; exact hset.1⟩
  case done =>
    rintro D M W0 V hD hsz hI hb hK
    rw [zlen] at hI
    have hL2 := hI.below hb
    have ck := hL2.i
    obtain ⟨c0, c1, cf1⟩ := HC.out V hL2.near
    have KC := Lib.hid (fcount_calls x s (1 + 16) L V _ (HX.out V hL2.near) (HT.out V hL2.near) h h1 h8 HFL.out (by omega))
    have HN := Lib.hid hL2.near
    clear hL2 hI hb hit
    rcases Nat.eq_zero_or_pos L.length with h00 | h00
    · have g0 : ((L.length : Int) == 0) = true := by rw [h00]; rfl
      have H0 := Lib.hid h00; clear h00
      gi_wp2_with (first
        | (refine ⟨trivial, ?_⟩; gi_at_call 12; refine (callsIn_wide.2 KC.out).mono ?_; rintro e w5 ⟨rfl, hB5⟩; have c05 := cell_below hB5 c0; have c15 := cell_below hB5 c1; have cf5 := frozen_below hB5 c1 cf1; have ck5 := cell_below hB5 ck; have hK5 := mark_below hB5 hK))
      have hM := mark_set (a := ⟨W.heap.size + 1, 0, none⟩) hK5 (by show D ≠ W.heap.size + 1; omega) (.bool true)
      exact leaves_one_cell (w := W) (D := D) (a := ⟨W.heap.size + 1, 0, none⟩) (x := .bool true) hM (by omega) ((below_then (HLOW.out V HN.out) hB5).setCell (p := ⟨W.heap.size + 1, 0, none⟩) (by show W.heap.size ≤ W.heap.size + 1; omega) _) (set_cell c15 _) (fun W' h => by simp [results, Tryd.results4, go_sem, h]) (fun W' hb => ⟨rfl, hb⟩)
    · obtain ⟨p, hp, hpe⟩ := mod_place i L.length h00 (by omega)
      have g0 : ((L.length : Int) == 0) = false := by rw [beq_eq_false_iff_ne]; omega
      have g1 : (L.length : Int) ≠ 0 := by omega
      gi_wp2_with (first
        | (refine ⟨trivial, ?_⟩; gi_at_call 12; refine (callsIn_wide.2 KC.out).mono ?_; rintro e w5 ⟨rfl, hB5⟩; have c05 := cell_below hB5 c0; have c15 := cell_below hB5 c1; have cf5 := frozen_below hB5 c1 cf1; have ck5 := cell_below hB5 ck; have hK5 := mark_below hB5 hK))
      have HV5 := Lib.hid (show Below W.heap.size W w5 from below_then (HLOW.out V HN.out) hB5)
      have HX5 := Lib.hid ((HX.out V HN.out).below hB5)
      have HD5 := Lib.hid (show D ≠ W.heap.size + 1 ∧ W.heap.size ≤ D from ⟨by omega, by omega⟩)
      clear HN hB5 ck ck5 KC c0 c1 cf1 hK HX HLOW HT HC HDs hz3 hz4 hlow hD hsz hbw4 hck hckf k0 k1 k2
      refine to_plain ?_
      refine wp_region_quiet_tail 10 (by kernel_rfl) (by kernel_rfl) ?_
      simp only [List.take_succ_cons, List.take_zero, List.drop_succ_cons, List.drop_zero]
      repeat (go_big_quiet_step (fail))
      refine wpQuiet_nil ?_
      intro _ hw'; obtain ⟨nq, hw''⟩ := hw'; subst hw''
      have hD := below_drewN (Below.refl w5.heap.size w5) nq
      have c06 := cell_below hD c05
      have c16 := cell_below hD c15
      have cf6 := frozen_below hD c15 cf5
      have hK6 := mark_below hD hK5
      have HV6 := Lib.hid (below_then HV5.out hD)
      have HX6 := Lib.hid (HX5.out.below hD)
      clear HV5 HX5 hK5 c05 c15 cf5
      generalize w5.drewN nq = w6 at *
      clear hD
      try simp only [hpe]
      go_wp2_with (fail)
      obtain ⟨P, at0, wd, kd, a32, ml, n1, n2, n3, n4, n5, n6, q0, q1, q2, q3, q4, q5, q6, q7, q8, q9, q10⟩ := place_nums h p L.length h8 hp hL
      have KR := Lib.hid (fread_calls x s (1 + 16) L w6 _ HX6.out (tab_below hT HV6.out) h h1 h8 HFL.out (by omega) kd wd q7 q8 q9)
      have HN := Lib.hid (And.intro n1 (And.intro n2 (And.intro n3 (And.intro n4 (And.intro n5 (And.intro n6 (And.intro q7 (And.intro q8 q9))))))))
      clear n1 n2 n3 n4 n5 n6 q7 q8 q9
      gi_wp2_with (first
        | (refine ⟨trivial, ?_⟩; gi_at_call 13; refine (callsIn_wide.2 KR.out).mono ?_; rintro e w7 ⟨v7, rfl, ho7, hB7⟩))
      have hml : ((fileL L h kd).take (32 * wd)).length = ml := by
        have e := fileL_len HFL.out.len h kd
        obtain ⟨n1, n2, n3, n4, n5, n6, q7, q8, q9⟩ := HN.out
        rw [List.length_take, e]
        omega
      have hmd : ((fileL L h kd).take (32 * wd)).drop a32 = L[p] := by
        obtain ⟨n1, n2, n3, n4, n5, n6, q7, q8, q9⟩ := HN.out
        rw [n5, n3, n2, n4]
        exact fileL_get HFL.out.len h p hp
      have hal : a32 ≤ ml := by obtain ⟨n1, n2, n3, n4, n5, n6, q7, q8, q9⟩ := HN.out; omega
      have c07 := cell_below hB7 c06
      have c17 := cell_below hB7 c16
      have cf7 := frozen_below hB7 c16 cf6
      have hK7 := mark_below hB7 hK6
      have HV7 := Lib.hid (below_then HV6.out hB7)
      have hDs := HV.out.below HV7.out
      obtain ⟨g, o, eA, hra⟩ := hDs.at_ p hp
      have d32 := hDs.wid p hp
      subst eA
      generalize (fileL L h kd).take (32 * wd) = m at *
      generalize L[p] = d at *
      obtain ⟨A7, c7, e7, -, -, -⟩ := ho7.form
      subst e7
      obtain ⟨A8, c8, hsl, hbs8, -⟩ := bsTail ho7.bs a32 (a32 : Int) rfl (by omega)
      have cvu : ∀ n, (convert 34 9 (.slice A8 (m.length - a32) c8)).run Tryd.prog (w7.drewN n) = .ok (.string ⟨d.toArray⟩) (w7.drewN n) := fun n => by
        have hq := hbs8 _ (ho7.bs.below (below_drewN (Below.refl _ _) n))
        rw [hmd] at hq
        exact str_u8 hq
      have cvv : ∀ n, (convert 34 9 (.slice (some ⟨g, o + p * 32, none⟩) 32 32)).run Tryd.prog (w7.drewN n) = .ok (.string ⟨d.toArray⟩) (w7.drewN n) := fun n =>
        str_u8 ⟨_, _, by rw [d32], by rw [d32]; exact Nat.le_refl _, by unfold maxLen; omega, fun e => (by cases e), fun j u hu => ⟨_, rfl, by rw [Addr.add_lit]; exact rangeAt_drewN hra n j u hu⟩⟩
      have g7 : ((m.length : Int) == (ml : Int)) = true := by rw [hml]; simp
      have g8 : (0 : Int) ≤ (p : Int) := Int.natCast_nonneg _
      have g9 : (p : Int) < (L.length : Int) := int_lt hp
      clear hra hDs ho7 hbs8 hB7 KR c06 c16 cf6 hK6 HV6 HX6 hmd
      have HML := Lib.hid hml; clear hml
      refine to_plain ?_
      refine wp_region_quiet_tail 23 (by kernel_rfl) (by kernel_rfl) ?_
      simp only [List.take_succ_cons, List.take_zero, List.drop_succ_cons, List.drop_zero]
      repeat (go_big_quiet_step (fail))
      refine wpQuiet_nil ?_
      intro _ hw'; obtain ⟨nq2, hw''⟩ := hw'; subst hw''
      have hD2 := below_drewN (Below.refl w7.heap.size w7) nq2
      have c18 := cell_below hD2 c17
      have cf8 := frozen_below hD2 c17 cf7
      have hK8 := mark_below hD2 hK7
      have HV8 := Lib.hid (below_then HV7.out hD2)
      clear cvu cvv hsl c07 c17 cf7 hK7 HV7
      generalize w7.drewN nq2 = w8 at *
      clear hD2
      go_wp2_with (fail)
      gi_wp2_with (fail)
      have hM := mark_set (a := ⟨W.heap.size + 1, 0, none⟩) hK8 HD5.out.1 (.bool true)
      exact leaves_one_cell (w := W) (D := D) (a := ⟨W.heap.size + 1, 0, none⟩) (x := .bool true) hM HD5.out.2 (HV8.out.setCell (p := ⟨W.heap.size + 1, 0, none⟩) (by show W.heap.size ≤ W.heap.size + 1; omega) _) (set_cell c18 _) (fun W' h => by simp [results, Tryd.results4, go_sem, h]) (fun W' hb => ⟨rfl, hb⟩)
  case stop =>
    rintro D M c' W0 W _ _ h
    exact h.elim
end Go.Proofs.YtjllkmkngjdjjaaDoor
