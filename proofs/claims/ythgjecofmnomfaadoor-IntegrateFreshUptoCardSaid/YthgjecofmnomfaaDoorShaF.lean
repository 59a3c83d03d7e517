/- WALKS of the two compressions. No statement of the seed is proved here. WALK of the reference's compression. No statement of the seed is proved here. WALKS of the two paddings. No statement of the seed is proved here. WALK of the reference's Over: the words behind whole blocks. No statement of the seed is proved here. -/
import Derived.Test.YthgjecofmnomfaaDoorShaB
import Derived.Deep.WholeRow
namespace Go.Proofs.YthgjecofmnomfaaDoor
open Go.RowKit
set_option maxRecDepth 100000
def k64 : List Int := [1116352408, 1899447441, 3049323471, 3921009573, 961987163, 1508970993, 2453635748, 2870763221, 3624381080, 310598401, 607225278, 1426881987, 1925078388, 2162078206, 2614888103, 3248222580, 3835390401, 4022224774, 264347078, 604807628, 770255983, 1249150122, 1555081692, 1996064986, 2554220882, 2821834349, 2952996808, 3210313671, 3336571891, 3584528711, 113926993, 338241895, 666307205, 773529912, 1294757372, 1396182291, 1695183700, 1986661051, 2177026350, 2456956037, 2730485921, 2820302411, 3259730800, 3345764771, 3516065817, 3600352804, 4094571909, 275423344, 430227734, 506948616, 659060556, 883997877, 958139571, 1322822218, 1537002063, 1747873779, 1955562222, 2024104815, 2227730452, 2361852424, 2428436474, 2756734187, 3204031479, 3329325298]
def begin8 : List Int := [1779033703, 3144134277, 1013904242, 2773480762, 1359893119, 2600822924, 528734635, 1541459225]
/-- The state: a, b, .., h. -/
structure S8 where
  (a b c d e f g h : Int)
def S8.l (s : S8) : List Int := [s.a, s.b, s.c, s.d, s.e, s.f, s.g, s.h]
def uOf (s : S8) (k w : Int) : Int :=
  (s.h + bits .xor .u32 (bits .xor .u32 (rorI s.e 6) (rorI s.e 11)) (rorI s.e 25) + bits .xor .u32 (bits .and .u32 s.e s.f) (bits .and .u32 (bits .xor .u32 IntKind.u32.max s.e) s.g) + k + w) % 4294967296
def vOf (s : S8) : Int :=
  (bits .xor .u32 (bits .xor .u32 (rorI s.a 2) (rorI s.a 13)) (rorI s.a 22) + bits .xor .u32 (bits .xor .u32 (bits .and .u32 s.a s.b) (bits .and .u32 s.a s.c)) (bits .and .u32 s.b s.c)) % 4294967296
def turn8 (s : S8) (u v : Int) : S8 := ⟨(u + v) % 4294967296, s.a, s.b, s.c, (s.d + u) % 4294967296, s.e, s.f, s.g⟩
def rounds (s : S8) (L : List Int) : Nat → S8
  | 0 => s
  | t + 1 => turn8 (rounds s L t) (uOf (rounds s L t) (k64[t]?.getD 0) (L[t]?.getD 0)) (vOf (rounds s L t))
def addW (x y : Int) : Int := (x + y) % 4294967296
def compress (s : S8) (blk : List UInt8) : S8 :=
  let r := rounds s (sched blk 64) 64
  ⟨addW r.a s.a, addW r.b s.b, addW r.c s.c, addW r.d s.d, addW r.e s.e, addW r.f s.f, addW r.g s.g, addW r.h s.h⟩
/-- The table of package hash lies as the program's text says. -/
structure LaidH (w : World) : Prop where
  tab : ∀ i, i < 64 → w.cell? ⟨2, i, none⟩ = some (.int .u32 (k64[i]?.getD 0))
theorem LaidH.below {w w1 : World} (h : LaidH w) (hb : Below w.heap.size w w1) : LaidH w1 := ⟨fun i hi => cell_below hb (h.tab i hi)⟩
theorem info_8w : (Tryd.prog.info? 115).map (·.size) = some 8 := by kernel_rfl
theorem info_64b : (Tryd.prog.info? 127).map (·.size) = some 64 := by kernel_rfl
theorem rounds_zero (s : S8) (L : List Int) : rounds s L 0 = s := rfl
theorem rounds_succ (s : S8) (L : List Int) (t : Nat) : rounds s L (t + 1) = turn8 (rounds s L t) (uOf (rounds s L t) (k64[t]?.getD 0) (L[t]?.getD 0)) (vOf (rounds s L t)) := rfl
theorem compress_eq (s : S8) (blk : List UInt8) (r : S8) (L : List Int) (hL : sched blk 64 = L) (hr : rounds s L 64 = r) : compress s blk = ⟨addW r.a s.a, addW r.b s.b, addW r.c s.c, addW r.d s.d, addW r.e s.e, addW r.f s.f, addW r.g s.g, addW r.h s.h⟩ := by
  subst hL hr
  rfl
attribute [irreducible] rounds compress
structure ComAt (W : World) (p q b : Nat) (s0 : S8) (l : List Int) (L : List Int) (w : World) : Prop where
  bel : Below W.heap.size W w
  h0 : Arr w p (u32s s0.l)
  sch : Arr w q (u32s L)
  st : Arr w b (u32s l)
  res : Arr w (W.heap.size + 2) (u32s (List.replicate 8 0))
  gp : W.heap.size ≤ p
  gq : W.heap.size ≤ q
  gb : W.heap.size + 3 ≤ b
  pb : p ≠ b
  qb : q ≠ b
theorem ComAt.put {W : World} {p q b : Nat} {s0 : S8} {l L : List Int} {w : World} (h : ComAt W p q b s0 l L w) (l' : List Int) (hl : l'.length = l.length) : ComAt W p q b s0 l' L (w.setCells b 0 (u32s l')) :=
  ⟨below_setCells h.bel b 0 (by have := h.gb; omega) _, h.h0.off h.pb 0 _, h.sch.off h.qb 0 _, h.st.put _ (by rw [u32s_length, u32s_length, hl]), h.res.off (by have := h.gb; omega) 0 _, h.gp, h.gq, h.gb, h.pb, h.qb⟩
theorem ComAt.set {W : World} {p q b : Nat} {s0 : S8} {l L : List Int} {w : World} (h : ComAt W p q b s0 l L w) (i : Nat) (x : Int) : ComAt W p q b s0 (l.set i x) L (w.setCell ⟨b, i, none⟩ (.int .u32 x)) :=
  ⟨h.bel.setCell (show W.heap.size ≤ b by have := h.gb; omega) _, h.h0.apart (Ne.symm h.pb) _ _, h.sch.apart (Ne.symm h.qb) _ _, by rw [← u32s_set]; exact h.st.set _ _, h.res.apart (by have := h.gb; omega) _ _, h.gp, h.gq, h.gb, h.pb, h.qb⟩
theorem ComAt.drewN {W : World} {p q b : Nat} {s0 : S8} {l L : List Int} {w : World} (h : ComAt W p q b s0 l L w) (n : Nat) : ComAt W p q b s0 l L (w.drewN n) :=
  have hb : Below w.heap.size w (w.drewN n) := below_drewN (Below.refl _ _) n
  ⟨below_drewN h.bel n, h.h0.below hb, h.sch.below hb, h.st.below hb, h.res.below hb, h.gp, h.gq, h.gb, h.pb, h.qb⟩
def mixL (r s : S8) (i : Nat) : List Int := (List.range 8).map fun j => if j < i then addW (r.l[j]?.getD 0) (s.l[j]?.getD 0) else r.l[j]?.getD 0
theorem mixL_length (r s : S8) (i : Nat) : (mixL r s i).length = 8 := by simp [mixL]
theorem mixL_zero (r s : S8) : mixL r s 0 = r.l := rfl
theorem mixL_end (r s : S8) : mixL r s 8 = (⟨addW r.a s.a, addW r.b s.b, addW r.c s.c, addW r.d s.d, addW r.e s.e, addW r.f s.f, addW r.g s.g, addW r.h s.h⟩ : S8).l := rfl
theorem mixL_get (r s : S8) (i : Nat) (hi : i < 8) : (u32s (mixL r s i))[i]? = some (.int .u32 (r.l[i]?.getD 0)) := by
  simp [u32s, mixL, hi]
theorem mixL_set (r s : S8) (i : Nat) (hi : i < 8) : (mixL r s i).set i (addW (r.l[i]?.getD 0) (s.l[i]?.getD 0)) = mixL r s (i + 1) := by
  apply List.ext_getElem?
  intro j
  by_cases hj : j < 8
  · by_cases e : i = j
    · subst e
      rw [List.getElem?_set_self (by rw [mixL_length]; exact hi)]
      simp [mixL, hi]
    · rw [List.getElem?_set_ne e]
      simp only [mixL, List.getElem?_map, List.getElem?_range hj, Option.map_some]
      by_cases h1 : j < i
      · rw [if_pos h1, if_pos (by omega)]
      · rw [if_neg h1, if_neg (by omega)]
  · rw [List.getElem?_eq_none (by rw [List.length_set, mixL_length]; omega), List.getElem?_eq_none (by rw [mixL_length]; omega)]
theorem S8.get (s : S8) (i : Nat) (hi : i < 8) : (u32s s.l)[i]? = some (.int .u32 (s.l[i]?.getD 0)) := by
  rw [u32s, List.getElem?_map, List.getElem?_eq_getElem (show i < s.l.length from hi)]
  rfl
theorem storeAt_newN {P : Program} (w : World) (n : Nat) (hn : n = w.heap.size) (t : TypeId) (c c' : Array Value) (hi : (P.info? t).map (·.size) = some c'.size) (ho : c.size = c'.size) (h1 : c'.all (·.oneCell') = true) :
    (Instr.storeAt t (.pointer (some ⟨n, 0, none⟩)) (.agg c')).run P (w.alloc (.cells c t)) = .ok () (w.alloc (.cells c' t)) := by
  subst hn
  exact run_storeAt_new w t c c' hi ho h1
theorem com_start {W W0 w1 : World} {s0 : S8} {L : List Int} (A0 : Arr W0 W.heap.size (u32s s0.l)) (A2 : Arr W0 (W.heap.size + 2) (u32s (List.replicate 8 0))) (B2 : Below W.heap.size W W0) (Z2 : W0.heap.size = W.heap.size + 3) (hB : Below W0.heap.size W0 w1) :
    Arr (w1.alloc (.cells (u32s L).toArray 132)) W.heap.size (u32s s0.l) ∧ ComAt W W.heap.size w1.heap.size (w1.heap.size + 1) s0 s0.l L ((w1.alloc (.cells (u32s L).toArray 132)).alloc (.cells (u32s s0.l).toArray 115)) := by
  have hs := hB.size
  have c1 := below_alloc1 w1 (.cells (u32s L).toArray 132)
  have z1 : (w1.alloc (.cells (u32s L).toArray 132)).heap.size = w1.heap.size + 1 := by simp
  have c2 := below_alloc1 (w1.alloc (.cells (u32s L).toArray 132)) (.cells (u32s s0.l).toArray 115)
  have hq := (Arr.new w1 (u32s L) 132).below c2
  have hb := Arr.new (w1.alloc (.cells (u32s L).toArray 132)) (u32s s0.l) 115
  rw [z1] at hb
  refine ⟨(A0.below hB).below c1, ⟨?_, ((A0.below hB).below c1).below c2, hq, hb, ((A2.below hB).below c1).below c2, Nat.le_refl _, by omega, by omega, by omega, by omega⟩⟩
  have hbw : Below W.heap.size W w1 := B2.trans (hB.mono (by omega))
  exact (hbw.alloc (by omega) _).alloc (by rw [z1]; omega) _
set_option maxHeartbeats 1000000 in
theorem compress_calls (s0 : S8) (blk : List UInt8) (h64 : blk.length = 64) (W : World) (hT : LaidH W) :
    Calls Tryd.prog 84 #[.agg (u32s s0.l).toArray, .agg (u8s blk).toArray] W fun e w' => e = .returned (.agg (u32s (compress s0 blk).l).toArray) ∧ Below W.heap.size W w' := by
  have a0 := Arr.new W (u32s s0.l) 115
  have b0 := below_alloc1 W (.cells (u32s s0.l).toArray 115)
  have z0 : (W.alloc (.cells (u32s s0.l).toArray 115)).heap.size = W.heap.size + 1 := by simp
  have a1 := Arr.new (W.alloc (.cells (u32s s0.l).toArray 115)) (u8s blk) 127
  have c1 := below_alloc1 (W.alloc (.cells (u32s s0.l).toArray 115)) (.cells (u8s blk).toArray 127)
  have b1 := b0.alloc (by rw [z0]; omega) (.cells (u8s blk).toArray 127)
  have z1 : ((W.alloc (.cells (u32s s0.l).toArray 115)).alloc (.cells (u8s blk).toArray 127)).heap.size = W.heap.size + 2 := by simp
  have a2 := Arr.new ((W.alloc (.cells (u32s s0.l).toArray 115)).alloc (.cells (u8s blk).toArray 127)) (u32s (List.replicate 8 0)) 115
  have c2 := below_alloc1 ((W.alloc (.cells (u32s s0.l).toArray 115)).alloc (.cells (u8s blk).toArray 127)) (.cells (u32s (List.replicate 8 0)).toArray 115)
  have b2 := b1.alloc (by rw [z1]; omega) (.cells (u32s (List.replicate 8 0)).toArray 115)
  have z2 : (((W.alloc (.cells (u32s s0.l).toArray 115)).alloc (.cells (u8s blk).toArray 127)).alloc (.cells (u32s (List.replicate 8 0)).toArray 115)).heap.size = W.heap.size + 3 := by simp
  rw [z0] at a1
  rw [z1] at a2
  have A0 := Lib.hid ((a0.below c1).below c2)
  have A1 := Lib.hid (a1.below c2)
  have A2 := Lib.hid a2
  have B2 := Lib.hid b2
  have Z2 := Lib.hid z2
  have HL := Lib.hid (A1.out.load (P := Tryd.prog) (ty := 127) Tryd.underlying127 rfl (by rw [u8s_length, h64]; exact info_64b))
  have hl64 := sched_length blk 64
  obtain ⟨L, hL⟩ : ∃ L, sched blk 64 = L := ⟨_, rfl⟩
  have KS := Lib.hid (schedule_calls blk h64)
  rw [hL] at hl64 KS
  have HLL := Lib.hid hL
  have HI := Lib.hid (show (Tryd.prog.info? 132).map (·.size) = some (u32s L).toArray.size by rw [List.size_toArray, u32s_length, hl64]; exact info_64w)
  have HZ := Lib.hid (show 64 = (u32s L).toArray.size by rw [List.size_toArray, u32s_length, hl64])
  have HI8 := Lib.hid (show (Tryd.prog.info? 115).map (·.size) = some (u32s s0.l).toArray.size by rw [List.size_toArray, u32s_length]; exact info_8w)
  have HZ8 := Lib.hid (show 8 = (u32s s0.l).toArray.size by rw [List.size_toArray, u32s_length]; rfl)
  clear a0 b0 z0 a1 c1 b1 z1 a2 c2 b2 z2 hL hl64
  go_enter Tryd.func84, Tryd.ntmps84
  go_wp2_with (first
    | (go_at_call 85; refine (KS.out _).mono ?_; rintro e w1 ⟨rfl, hB1⟩; have HB1 := Lib.hid hB1; clear hB1; have HC := Lib.hid (com_start (L := L) A0.out A2.out B2.out Z2.out HB1.out); have HL2 := Lib.hid (HC.out.1.load (P := Tryd.prog) (ty := 115) Tryd.underlying115 rfl info_8w))
    | (refine wpList_load_run rfl 127 _ rfl _ _ rfl HL.out ?_; simp only [Act.put, List.setIfInBounds_toArray, List.set_cons_zero, List.set_cons_succ])
    | (refine wpList_store_run rfl 132 _ _ rfl _ _ rfl rfl _ (run_storeAt_new (P := Tryd.prog) _ 132 _ _ HI.out HZ.out (all_oneCell_toArray (u32s_one _))) ?_; simp only [Act.put])
    | (refine wpList_load_run rfl 115 _ rfl _ _ rfl HL2.out ?_; simp only [Act.put, List.setIfInBounds_toArray, List.set_cons_zero, List.set_cons_succ])
    | (refine wpList_store_run rfl 115 _ _ rfl _ _ rfl rfl _ (storeAt_newN (P := Tryd.prog) _ _ (by simp) 115 _ _ HI8.out HZ8.out (all_oneCell_toArray (u32s_one _))) ?_; simp only [Act.put]))
  have HC := Lib.hid HC.out.2
  have hll := sched_length blk 64
  rw [HLL.out] at hll
  clear HL2 HB1 HI HZ KS HL A0 A1 A2 B2 Z2
  generalize ((w1.alloc (.cells (u32s L).toArray 132)).alloc (.cells (u32s s0.l).toArray 115)) = w2 at *
  generalize hq : w1.heap.size = q at *
  go_loopw [16] (fun i wr => ∃ t : Nat, t ≤ 64 ∧ i = .int .i64 (t : Int) ∧ Hid (ComAt W W.heap.size q (q + 1) s0 (rounds s0 L t).l L wr)) (fun i _ => 64 - (intOf i).toNat)
  case atStart => exact ⟨0, by omega, rfl, by rw [rounds_zero]; exact HC⟩
  case round =>
    obtain ⟨t, ht, rfl, HB⟩ := hrel
    clear HC
    by_cases hlt : t < 64
    · obtain ⟨s, hs⟩ : ∃ s, rounds s0 L t = s := ⟨_, rfl⟩
      rw [hs] at HB
      have HSS := Lib.hid hs
      clear hs
      obtain ⟨a, b, c, d, e, f, g, z⟩ := s
      have c0 := HB.out.st.cell (i := 0) (v := .int .u32 a) rfl
      have c1 := HB.out.st.cell (i := 1) (v := .int .u32 b) rfl
      have c2 := HB.out.st.cell (i := 2) (v := .int .u32 c) rfl
      have c3 := HB.out.st.cell (i := 3) (v := .int .u32 d) rfl
      have c4 := HB.out.st.cell (i := 4) (v := .int .u32 e) rfl
      have c5 := HB.out.st.cell (i := 5) (v := .int .u32 f) rfl
      have c6 := HB.out.st.cell (i := 6) (v := .int .u32 g) rfl
      have c7 := HB.out.st.cell (i := 7) (v := .int .u32 z) rfl
      have ck := (hT.below HB.out.bel).tab t hlt
      have cw := HB.out.sch.cell (i := t) (v := .int .u32 (L[t]?.getD 0)) (by rw [u32s, List.getElem?_map, List.getElem?_eq_getElem (by omega)]; rfl)
      have HRS := Lib.hid (rounds_succ s0 L t)
      obtain ⟨k, hk⟩ : ∃ k, k64[t]?.getD 0 = k := ⟨_, rfl⟩
      obtain ⟨x, hx⟩ : ∃ k, L[t]?.getD 0 = k := ⟨_, rfl⟩
      rw [hk] at ck
      rw [hx] at cw
      have HRS := Lib.hid (HRS.out.trans (by rw [HSS.out, hk, hx]))
      clear hk hx
      obtain ⟨u, hu⟩ : ∃ u, uOf ⟨a, b, c, d, e, f, g, z⟩ k x = u := ⟨_, rfl⟩
      obtain ⟨v, hv⟩ : ∃ v, vOf ⟨a, b, c, d, e, f, g, z⟩ = v := ⟨_, rfl⟩
      have HRS := Lib.hid (HRS.out.trans (by rw [hu, hv]))
      simp only [uOf] at hu
      simp only [vOf] at hv
      go_wp2
      refine wp_region_litC (C := fun w' => ∃ n, w' = wr.drewN n) ⟨1, rfl⟩ (by kernel_rfl) (by kernel_rfl) ?_
      repeat (go_big_quiet_step (fail))
      refine wpQuiet_nil ?_
      intro _ hw'; obtain ⟨n1, hw''⟩ := hw'; subst hw''
      go_wp2
      refine wp_region_litC (C := fun w' => ∃ n, w' = (wr.drewN n1).drewN n) ⟨1, rfl⟩ (by kernel_rfl) (by kernel_rfl) ?_
      repeat (go_big_quiet_step (fail))
      refine wpQuiet_call (by rfl) 86 #[.int .u32 e, .int .i64 (6 : Nat)] (.int .u32 (rorI e 6)) (fun w' hw => by go_simp) (fun w' hw => (ror_calls e 6 w' (by omega) (by omega)).mono fun _ _ ⟨h1, h2⟩ => ⟨h1, by rw [h2]; exact hw⟩) ?_
      simp only [Act.put, List.setIfInBounds_toArray, List.set_cons_zero, List.set_cons_succ]
      repeat (go_big_quiet_step (fail))
      refine wpQuiet_call (by rfl) 86 #[.int .u32 e, .int .i64 (11 : Nat)] (.int .u32 (rorI e 11)) (fun w' hw => by go_simp) (fun w' hw => (ror_calls e 11 w' (by omega) (by omega)).mono fun _ _ ⟨h1, h2⟩ => ⟨h1, by rw [h2]; exact hw⟩) ?_
      simp only [Act.put, List.setIfInBounds_toArray, List.set_cons_zero, List.set_cons_succ]
      repeat (go_big_quiet_step (fail))
      refine wpQuiet_call (by rfl) 86 #[.int .u32 e, .int .i64 (25 : Nat)] (.int .u32 (rorI e 25)) (fun w' hw => by go_simp) (fun w' hw => (ror_calls e 25 w' (by omega) (by omega)).mono fun _ _ ⟨h1, h2⟩ => ⟨h1, by rw [h2]; exact hw⟩) ?_
      simp only [Act.put, List.setIfInBounds_toArray, List.set_cons_zero, List.set_cons_succ]
      repeat (go_big_quiet_step (fail))
      refine wpQuiet_nil ?_
      intro _ hw'; obtain ⟨n2, hw''⟩ := hw'; subst hw''
      try simp only [hu]
      go_wp2
      refine wp_region_litC (C := fun w' => ∃ n, w' = (wr.drewN (n1 + n2)).drewN n) ⟨1, rfl⟩ (by kernel_rfl) (by kernel_rfl) ?_
      repeat (go_big_quiet_step (fail))
      refine wpQuiet_call (by rfl) 86 #[.int .u32 a, .int .i64 (2 : Nat)] (.int .u32 (rorI a 2)) (fun w' hw => by go_simp) (fun w' hw => (ror_calls a 2 w' (by omega) (by omega)).mono fun _ _ ⟨h1, h2⟩ => ⟨h1, by rw [h2]; exact hw⟩) ?_
      simp only [Act.put, List.setIfInBounds_toArray, List.set_cons_zero, List.set_cons_succ]
      repeat (go_big_quiet_step (fail))
      refine wpQuiet_call (by rfl) 86 #[.int .u32 a, .int .i64 (13 : Nat)] (.int .u32 (rorI a 13)) (fun w' hw => by go_simp) (fun w' hw => (ror_calls a 13 w' (by omega) (by omega)).mono fun _ _ ⟨h1, h2⟩ => ⟨h1, by rw [h2]; exact hw⟩) ?_
      simp only [Act.put, List.setIfInBounds_toArray, List.set_cons_zero, List.set_cons_succ]
      repeat (go_big_quiet_step (fail))
      refine wpQuiet_call (by rfl) 86 #[.int .u32 a, .int .i64 (22 : Nat)] (.int .u32 (rorI a 22)) (fun w' hw => by go_simp) (fun w' hw => (ror_calls a 22 w' (by omega) (by omega)).mono fun _ _ ⟨h1, h2⟩ => ⟨h1, by rw [h2]; exact hw⟩) ?_
      simp only [Act.put, List.setIfInBounds_toArray, List.set_cons_zero, List.set_cons_succ]
      repeat (go_big_quiet_step (fail))
      refine wpQuiet_nil ?_
      intro _ hw'; obtain ⟨n3, hw''⟩ := hw'; subst hw''
      try simp only [hv]
      have HD := Lib.hid ((HB.out.drewN (n1 + n2)).drewN n3)
      generalize (wr.drewN (n1 + n2)).drewN n3 = wz at *
      clear c0 c1 c2 c3 c4 c5 c6 c7 ck cw hu hv
      have c0 := HD.out.st.cell (i := 0) (v := .int .u32 a) rfl
      have c1 := HD.out.st.cell (i := 1) (v := .int .u32 b) rfl
      have c2 := HD.out.st.cell (i := 2) (v := .int .u32 c) rfl
      have c3 := HD.out.st.cell (i := 3) (v := .int .u32 d) rfl
      have c4 := HD.out.st.cell (i := 4) (v := .int .u32 e) rfl
      have c5 := HD.out.st.cell (i := 5) (v := .int .u32 f) rfl
      have c6 := HD.out.st.cell (i := 6) (v := .int .u32 g) rfl
      have c7 := HD.out.st.cell (i := 7) (v := .int .u32 z) rfl
      have HS := Lib.hid (fun s' : S8 => HD.out.st.store (P := Tryd.prog) (ty := 115) (u32s s'.l) rfl info_8w (u32s_one _))
      go_wp2_with (first
        | (refine wpList_store_run rfl 115 _ _ rfl _ _ rfl rfl _ (HS.out (turn8 ⟨a, b, c, d, e, f, g, z⟩ u v)) ?_; simp only [Act.put]))
      go_roundw
      case rel => exact ⟨t + 1, by omega, by go_num, Lib.hid (by rw [HRS.out]; exact HD.out.put (turn8 ⟨a, b, c, d, e, f, g, z⟩ u v).l rfl)⟩
      case measure => simp [intOf]; omega
    · obtain rfl : t = 64 := by omega
      clear hll HC
      obtain ⟨r, hr⟩ : ∃ r, rounds s0 L 64 = r := ⟨_, rfl⟩
      rw [hr] at HB
      have HSS := Lib.hid (compress_eq s0 blk r L HLL.out hr)
      clear hr
      go_wp2
      go_loopw [98] (fun i wr => ∃ t : Nat, t ≤ 8 ∧ i = .int .i64 (t : Int) ∧ Hid (ComAt W W.heap.size q (q + 1) s0 (mixL r s0 t) L wr)) (fun i _ => 8 - (intOf i).toNat)
      case atStart => exact ⟨0, by omega, rfl, HB⟩
      case round =>
        obtain ⟨t, ht, rfl, HD⟩ := hrel
        clear HB
        by_cases hlt : t < 8
        · have c1 := HD.out.st.cell (mixL_get r s0 t hlt)
          have f1 := HD.out.st.frozen (i := t) (by rw [u32s_length, mixL_length]; exact hlt)
          have c2 := HD.out.h0.cell (S8.get s0 t hlt)
          have HM := Lib.hid (mixL_set r s0 t hlt)
          generalize r.l[t]?.getD 0 = x at *
          generalize s0.l[t]?.getD 0 = y at *
          go_wp2
          refine wp_region_quiet_tail 8 (by kernel_rfl) (by kernel_rfl) ?_
          simp only [List.take_succ_cons, List.take_zero, List.drop_succ_cons, List.drop_zero]
          repeat (go_big_quiet_step (fail))
          refine wpQuiet_nil ?_
          intro _ hw'; obtain ⟨nq, hw''⟩ := hw'; subst hw''
          go_wp2
          go_roundw
          case rel => exact ⟨t + 1, by omega, by go_num, Lib.hid (by rw [← HM.out]; exact (HD.out.drewN nq).set t _)⟩
          case measure => simp [intOf]; omega
        · obtain rfl : t = 8 := by omega
          have HL := Lib.hid (HD.out.st.load (P := Tryd.prog) (ty := 115) Tryd.underlying115 rfl (by rw [u32s_length, mixL_length]; exact info_8w))
          have HS := Lib.hid (HD.out.res.store (P := Tryd.prog) (ty := 115) (u32s (mixL r s0 8)) (by rw [u32s_length, u32s_length, mixL_length, List.length_replicate]) (by rw [u32s_length, List.length_replicate]; exact info_8w) (u32s_one _))
          have HR := Lib.hid (And.intro (below_setCells HD.out.bel (W.heap.size + 2) 0 (by omega) (u32s (mixL r s0 8))) (HD.out.res.put (u32s (mixL r s0 8)) (by rw [u32s_length, u32s_length, mixL_length, List.length_replicate])))
          clear HD
          rw [mixL_end, ← HSS.out] at HL HS HR
          go_wp2_with (first
            | (refine wpList_load_run rfl 115 _ rfl _ _ rfl HL.out ?_; simp only [Act.put, List.setIfInBounds_toArray, List.set_cons_zero, List.set_cons_succ])
            | (refine wpList_store_run rfl 115 _ _ rfl _ _ rfl rfl _ HS.out ?_; simp only [Act.put]))
          refine bodyPost_ret (results_arr Tryd.results84 _ HR.out.2 rfl Tryd.underlying115 rfl info_8w) rfl ⟨rfl, HR.out.1⟩
end Go.Proofs.YthgjecofmnomfaaDoor
namespace Go.Proofs.YthgjecofmnomfaaDoor
open Go.RowKit
set_option maxRecDepth 100000
theorem k64_length : k64.length = 64 := rfl
theorem newArr_calls {f : FuncId} {ty : TypeId} {l : List Int} (W : World) (h : Calls Tryd.prog f #[] W fun e w' => e = .returned (.agg (u32s l).toArray) ∧ w' = W.alloc (.cells (u32s l).toArray ty)) : Calls Tryd.prog f #[] W fun e w' => e = .returned (.agg (u32s l).toArray) ∧ Below W.heap.size W w' :=
  h.mono fun _ _ ⟨h1, h2⟩ => ⟨h1, by rw [h2]; exact below_alloc1 W _⟩
set_option maxHeartbeats 1000000 in
theorem constants_calls (W : World) : Calls Tryd.prog 82 #[] W fun e w' => e = .returned (.agg (u32s k64).toArray) ∧ Below W.heap.size W w' := by
  have HS := Lib.hid (run_storeAt_new (P := Tryd.prog) W 132 (u32s (List.replicate 64 0)).toArray (u32s k64).toArray info_64w rfl (all_oneCell_toArray (u32s_one _)))
  have HA := Lib.hid (Arr.new W (u32s k64) 132)
  go_enter Tryd.func82, Tryd.ntmps82
  go_wp2_with (refine wpList_store_run rfl 132 _ _ rfl _ _ rfl rfl _ HS.out ?_; simp only [Act.put])
  refine bodyPost_ret (results_arr Tryd.results82 _ HA.out rfl Tryd.underlying132 rfl info_64w) rfl ⟨rfl, below_alloc1 W _⟩
theorem rbegin_calls (W : World) : Calls Tryd.prog 65 #[] W fun e w' => e = .returned (.agg (u32s begin8).toArray) ∧ Below W.heap.size W w' := by
  have HS := Lib.hid (run_storeAt_new (P := Tryd.prog) W 115 (u32s (List.replicate 8 0)).toArray (u32s begin8).toArray info_8w rfl (all_oneCell_toArray (u32s_one _)))
  have HA := Lib.hid (Arr.new W (u32s begin8) 115)
  go_enter Tryd.func65, Tryd.ntmps65
  go_wp2_with (refine wpList_store_run rfl 115 _ _ rfl _ _ rfl rfl _ HS.out ?_; simp only [Act.put])
  refine bodyPost_ret (results_arr Tryd.results65 _ HA.out rfl Tryd.underlying115 rfl info_8w) rfl ⟨rfl, below_alloc1 W _⟩
theorem begin_calls (W : World) : Calls Tryd.prog 75 #[] W fun e w' => e = .returned (.agg (u32s begin8).toArray) ∧ Below W.heap.size W w' := by
  have HS := Lib.hid (run_storeAt_new (P := Tryd.prog) W 115 (u32s (List.replicate 8 0)).toArray (u32s begin8).toArray info_8w rfl (all_oneCell_toArray (u32s_one _)))
  have HA := Lib.hid (Arr.new W (u32s begin8) 115)
  go_enter Tryd.func75, Tryd.ntmps75
  go_wp2_with (refine wpList_store_run rfl 115 _ _ rfl _ _ rfl rfl _ HS.out ?_; simp only [Act.put])
  refine bodyPost_ret (results_arr Tryd.results75 _ HA.out rfl Tryd.underlying115 rfl info_8w) rfl ⟨rfl, below_alloc1 W _⟩
structure RCom (W : World) (p q k b : Nat) (s0 : S8) (l : List Int) (L : List Int) (w : World) : Prop where
  com : ComAt W p q b s0 l L w
  kon : Arr w k (u32s k64)
  kb : k ≠ b
theorem RCom.put {W : World} {p q k b : Nat} {s0 : S8} {l L : List Int} {w : World} (h : RCom W p q k b s0 l L w) (l' : List Int) (hl : l'.length = l.length) : RCom W p q k b s0 l' L (w.setCells b 0 (u32s l')) := ⟨h.com.put l' hl, h.kon.off h.kb 0 _, h.kb⟩
theorem RCom.set {W : World} {p q k b : Nat} {s0 : S8} {l L : List Int} {w : World} (h : RCom W p q k b s0 l L w) (i : Nat) (x : Int) : RCom W p q k b s0 (l.set i x) L (w.setCell ⟨b, i, none⟩ (.int .u32 x)) := ⟨h.com.set i x, h.kon.apart (Ne.symm h.kb) _ _, h.kb⟩
theorem RCom.drewN {W : World} {p q k b : Nat} {s0 : S8} {l L : List Int} {w : World} (h : RCom W p q k b s0 l L w) (n : Nat) : RCom W p q k b s0 l L (w.drewN n) := ⟨h.com.drewN n, h.kon.below (below_drewN (Below.refl _ _) n), h.kb⟩
theorem com_start2 {W W0 w1 w3 : World} {s0 : S8} {L : List Int} (A0 : Arr W0 W.heap.size (u32s s0.l)) (A2 : Arr W0 (W.heap.size + 2) (u32s (List.replicate 8 0))) (B2 : Below W.heap.size W W0) (Z2 : W0.heap.size = W.heap.size + 3) (hB : Below W0.heap.size W0 w1)
    (hB2 : Below (w1.alloc (.cells (u32s L).toArray 132)).heap.size (w1.alloc (.cells (u32s L).toArray 132)) w3) :
    Arr (w3.alloc (.cells (u32s k64).toArray 132)) W.heap.size (u32s s0.l) ∧ RCom W W.heap.size w1.heap.size w3.heap.size (w3.heap.size + 1) s0 s0.l L ((w3.alloc (.cells (u32s k64).toArray 132)).alloc (.cells (u32s s0.l).toArray 115)) := by
  have hs := hB.size
  have c1 := below_alloc1 w1 (.cells (u32s L).toArray 132)
  have z1 : (w1.alloc (.cells (u32s L).toArray 132)).heap.size = w1.heap.size + 1 := by simp
  have hs2 := hB2.size
  have hq := (Arr.new w1 (u32s L) 132).below hB2
  have e0 := ((A0.below hB).below c1).below hB2
  have e2 := ((A2.below hB).below c1).below hB2
  have c3 := below_alloc1 w3 (.cells (u32s k64).toArray 132)
  have z3 : (w3.alloc (.cells (u32s k64).toArray 132)).heap.size = w3.heap.size + 1 := by simp
  have c4 := below_alloc1 (w3.alloc (.cells (u32s k64).toArray 132)) (.cells (u32s s0.l).toArray 115)
  have hk := (Arr.new w3 (u32s k64) 132).below c4
  have hb := Arr.new (w3.alloc (.cells (u32s k64).toArray 132)) (u32s s0.l) 115
  rw [z3] at hb
  refine ⟨e0.below c3, ⟨?_, (e0.below c3).below c4, (hq.below c3).below c4, hb, (e2.below c3).below c4, Nat.le_refl _, by omega, by omega, by omega, by omega⟩, hk, by omega⟩
  have hbw : Below W.heap.size W w1 := B2.trans (hB.mono (by omega))
  have hbw2 : Below W.heap.size W w3 := (hbw.alloc (by omega) (.cells (u32s L).toArray 132)).trans (hB2.mono (by omega))
  exact (hbw2.alloc (by omega) _).alloc (by rw [z3]; omega) _
/-- The state while it is moved up: the cells above i hold what was one below. -/
def shL (s : S8) (i : Nat) : List Int := (List.range 8).map fun j => if i < j then s.l[j - 1]?.getD 0 else s.l[j]?.getD 0
theorem shL_length (s : S8) (i : Nat) : (shL s i).length = 8 := by simp [shL]
theorem shL_seven (s : S8) : shL s 7 = s.l := rfl
theorem shL_zero (s : S8) : shL s 0 = [s.a, s.a, s.b, s.c, s.d, s.e, s.f, s.g] := rfl
theorem shL_get (s : S8) (i : Nat) (hi : i < 7) : (u32s (shL s (i + 1)))[i]? = some (.int .u32 (s.l[i]?.getD 0)) := by
  simp only [u32s, shL, List.getElem?_map, List.getElem?_range (show i < 8 by omega), Option.map_some, if_neg (show ¬ i + 1 < i by omega)]
theorem shL_set (s : S8) (i : Nat) (hi : i < 7) : (shL s (i + 1)).set (i + 1) (s.l[i]?.getD 0) = shL s i := by
  apply List.ext_getElem?
  intro j
  by_cases hj : j < 8
  · by_cases e : i + 1 = j
    · subst e
      rw [List.getElem?_set_self (by rw [shL_length]; omega)]
      simp [shL, hj]
    · rw [List.getElem?_set_ne e]
      simp only [shL, List.getElem?_map, List.getElem?_range hj, Option.map_some]
      by_cases h1 : i < j
      · rw [if_pos h1, if_pos (by omega)]
      · rw [if_neg h1, if_neg (by omega)]
  · rw [List.getElem?_eq_none (by rw [List.length_set, shL_length]; omega), List.getElem?_eq_none (by rw [shL_length]; omega)]
set_option maxHeartbeats 1000000 in
theorem rcompress_calls (s0 : S8) (blk : List UInt8) (h64 : blk.length = 64) (W : World) :
    Calls Tryd.prog 74 #[.agg (u32s s0.l).toArray, .agg (u8s blk).toArray] W fun e w' => e = .returned (.agg (u32s (compress s0 blk).l).toArray) ∧ Below W.heap.size W w' := by
  have a0 := Arr.new W (u32s s0.l) 115
  have b0 := below_alloc1 W (.cells (u32s s0.l).toArray 115)
  have z0 : (W.alloc (.cells (u32s s0.l).toArray 115)).heap.size = W.heap.size + 1 := by simp
  have a1 := Arr.new (W.alloc (.cells (u32s s0.l).toArray 115)) (u8s blk) 127
  have c1 := below_alloc1 (W.alloc (.cells (u32s s0.l).toArray 115)) (.cells (u8s blk).toArray 127)
  have b1 := b0.alloc (by rw [z0]; omega) (.cells (u8s blk).toArray 127)
  have z1 : ((W.alloc (.cells (u32s s0.l).toArray 115)).alloc (.cells (u8s blk).toArray 127)).heap.size = W.heap.size + 2 := by simp
  have a2 := Arr.new ((W.alloc (.cells (u32s s0.l).toArray 115)).alloc (.cells (u8s blk).toArray 127)) (u32s (List.replicate 8 0)) 115
  have c2 := below_alloc1 ((W.alloc (.cells (u32s s0.l).toArray 115)).alloc (.cells (u8s blk).toArray 127)) (.cells (u32s (List.replicate 8 0)).toArray 115)
  have b2 := b1.alloc (by rw [z1]; omega) (.cells (u32s (List.replicate 8 0)).toArray 115)
  have z2 : (((W.alloc (.cells (u32s s0.l).toArray 115)).alloc (.cells (u8s blk).toArray 127)).alloc (.cells (u32s (List.replicate 8 0)).toArray 115)).heap.size = W.heap.size + 3 := by simp
  rw [z0] at a1
  rw [z1] at a2
  have A0 := Lib.hid ((a0.below c1).below c2)
  have A1 := Lib.hid (a1.below c2)
  have A2 := Lib.hid a2
  have B2 := Lib.hid b2
  have Z2 := Lib.hid z2
  have HL := Lib.hid (A1.out.load (P := Tryd.prog) (ty := 127) Tryd.underlying127 rfl (by rw [u8s_length, h64]; exact info_64b))
  have hl64 := sched_length blk 64
  obtain ⟨L, hL⟩ : ∃ L, sched blk 64 = L := ⟨_, rfl⟩
  have KS := Lib.hid (rschedule_calls blk h64)
  rw [hL] at hl64 KS
  have HLL := Lib.hid hL
  have HI := Lib.hid (show (Tryd.prog.info? 132).map (·.size) = some (u32s L).toArray.size by rw [List.size_toArray, u32s_length, hl64]; exact info_64w)
  have HZ := Lib.hid (show 64 = (u32s L).toArray.size by rw [List.size_toArray, u32s_length, hl64])
  have HI8 := Lib.hid (show (Tryd.prog.info? 115).map (·.size) = some (u32s s0.l).toArray.size by rw [List.size_toArray, u32s_length]; exact info_8w)
  have HZ8 := Lib.hid (show 8 = (u32s s0.l).toArray.size by rw [List.size_toArray, u32s_length]; rfl)
  clear a0 b0 z0 a1 c1 b1 z1 a2 c2 b2 z2 hL hl64
  have HK64 := Lib.hid (show (Tryd.prog.info? 132).map (·.size) = some (u32s k64).toArray.size by rw [List.size_toArray, u32s_length]; exact info_64w)
  have HZ64 := Lib.hid (show 64 = (u32s k64).toArray.size by rw [List.size_toArray, u32s_length]; rfl)
  go_enter Tryd.func74, Tryd.ntmps74
  go_wp2_with (first
    | (go_at_call 81; refine (KS.out _).mono ?_; rintro e w1 ⟨rfl, hB1⟩; have HB1 := Lib.hid hB1; clear hB1)
    | (go_at_call 82; refine (constants_calls _).mono ?_; rintro e w3 ⟨rfl, hB3⟩; have HC := Lib.hid (com_start2 (L := L) A0.out A2.out B2.out Z2.out HB1.out hB3); clear hB3; have HL2 := Lib.hid (HC.out.1.load (P := Tryd.prog) (ty := 115) Tryd.underlying115 rfl info_8w))
    | (refine wpList_load_run rfl 127 _ rfl _ _ rfl HL.out ?_; simp only [Act.put, List.setIfInBounds_toArray, List.set_cons_zero, List.set_cons_succ])
    | (refine wpList_store_run rfl 132 _ _ rfl _ _ rfl rfl _ (run_storeAt_new (P := Tryd.prog) _ 132 _ _ HI.out HZ.out (all_oneCell_toArray (u32s_one _))) ?_; simp only [Act.put])
    | (refine wpList_store_run rfl 132 _ _ rfl _ _ rfl rfl _ (run_storeAt_new (P := Tryd.prog) _ 132 _ _ HK64.out HZ64.out (all_oneCell_toArray (u32s_one _))) ?_; simp only [Act.put])
    | (refine wpList_load_run rfl 115 _ rfl _ _ rfl HL2.out ?_; simp only [Act.put, List.setIfInBounds_toArray, List.set_cons_zero, List.set_cons_succ])
    | (refine wpList_store_run rfl 115 _ _ rfl _ _ rfl rfl _ (storeAt_newN (P := Tryd.prog) _ _ (by simp) 115 _ _ HI8.out HZ8.out (all_oneCell_toArray (u32s_one _))) ?_; simp only [Act.put]))
  have HC := Lib.hid HC.out.2
  have hll := sched_length blk 64
  rw [HLL.out] at hll
  clear HL2 HB1 HI HZ KS HL A0 A1 A2 B2 Z2 HK64 HZ64 HI8 HZ8
  generalize ((w3.alloc (.cells (u32s k64).toArray 132)).alloc (.cells (u32s s0.l).toArray 115)) = w5 at *
  generalize hq : w1.heap.size = q at *
  generalize hkq : w3.heap.size = m at *
  go_loopw [8] (fun i wr => ∃ t : Nat, t ≤ 64 ∧ i = .int .i64 (t : Int) ∧ Hid (RCom W W.heap.size q m (m + 1) s0 (rounds s0 L t).l L wr)) (fun i _ => 64 - (intOf i).toNat)
  case atStart => exact ⟨0, by omega, rfl, by rw [rounds_zero]; exact HC⟩
  case round =>
    obtain ⟨t, ht, rfl, HB⟩ := hrel
    clear HC
    by_cases hlt : t < 64
    · obtain ⟨s, hs⟩ : ∃ s, rounds s0 L t = s := ⟨_, rfl⟩
      rw [hs] at HB
      have HSS := Lib.hid hs
      clear hs
      obtain ⟨a, b, c, d, e, f, g, z⟩ := s
      have c0 := HB.out.com.st.cell (i := 0) (v := .int .u32 a) rfl
      have c1 := HB.out.com.st.cell (i := 1) (v := .int .u32 b) rfl
      have c2 := HB.out.com.st.cell (i := 2) (v := .int .u32 c) rfl
      have c3 := HB.out.com.st.cell (i := 3) (v := .int .u32 d) rfl
      have c4 := HB.out.com.st.cell (i := 4) (v := .int .u32 e) rfl
      have c5 := HB.out.com.st.cell (i := 5) (v := .int .u32 f) rfl
      have c6 := HB.out.com.st.cell (i := 6) (v := .int .u32 g) rfl
      have c7 := HB.out.com.st.cell (i := 7) (v := .int .u32 z) rfl
      have ck := HB.out.kon.cell (i := t) (v := .int .u32 (k64[t]?.getD 0)) (by rw [u32s, List.getElem?_map, List.getElem?_eq_getElem (by rw [k64_length]; omega)]; rfl)
      have cw := HB.out.com.sch.cell (i := t) (v := .int .u32 (L[t]?.getD 0)) (by rw [u32s, List.getElem?_map, List.getElem?_eq_getElem (by omega)]; rfl)
      have HRS := Lib.hid (rounds_succ s0 L t)
      obtain ⟨k, hk⟩ : ∃ k, k64[t]?.getD 0 = k := ⟨_, rfl⟩
      obtain ⟨x, hx⟩ : ∃ k, L[t]?.getD 0 = k := ⟨_, rfl⟩
      rw [hk] at ck
      rw [hx] at cw
      have HRS := Lib.hid (HRS.out.trans (by rw [HSS.out, hk, hx]))
      clear hk hx
      obtain ⟨u, hu⟩ : ∃ u, uOf ⟨a, b, c, d, e, f, g, z⟩ k x = u := ⟨_, rfl⟩
      obtain ⟨v, hv⟩ : ∃ v, vOf ⟨a, b, c, d, e, f, g, z⟩ = v := ⟨_, rfl⟩
      have HRS := Lib.hid (HRS.out.trans (by rw [hu, hv]))
      simp only [uOf] at hu
      simp only [vOf] at hv
      go_wp2
      refine wp_region_litC (C := fun w' => ∃ n, w' = wr.drewN n) ⟨1, rfl⟩ (by kernel_rfl) (by kernel_rfl) ?_
      repeat (go_big_quiet_step (fail))
      refine wpQuiet_call (by rfl) 83 #[.int .u32 e, .int .u64 (6 : Nat)] (.int .u32 (rorI e 6)) (fun w' hw => by go_simp) (fun w' hw => (rrot_calls e 6 w' (by omega) (by omega)).mono fun _ _ ⟨h1, h2⟩ => ⟨h1, by rw [h2]; exact hw⟩) ?_
      simp only [Act.put, List.setIfInBounds_toArray, List.set_cons_zero, List.set_cons_succ]
      repeat (go_big_quiet_step (fail))
      refine wpQuiet_call (by rfl) 83 #[.int .u32 e, .int .u64 (11 : Nat)] (.int .u32 (rorI e 11)) (fun w' hw => by go_simp) (fun w' hw => (rrot_calls e 11 w' (by omega) (by omega)).mono fun _ _ ⟨h1, h2⟩ => ⟨h1, by rw [h2]; exact hw⟩) ?_
      simp only [Act.put, List.setIfInBounds_toArray, List.set_cons_zero, List.set_cons_succ]
      repeat (go_big_quiet_step (fail))
      refine wpQuiet_call (by rfl) 83 #[.int .u32 e, .int .u64 (25 : Nat)] (.int .u32 (rorI e 25)) (fun w' hw => by go_simp) (fun w' hw => (rrot_calls e 25 w' (by omega) (by omega)).mono fun _ _ ⟨h1, h2⟩ => ⟨h1, by rw [h2]; exact hw⟩) ?_
      simp only [Act.put, List.setIfInBounds_toArray, List.set_cons_zero, List.set_cons_succ]
      repeat (go_big_quiet_step (fail))
      refine wpQuiet_nil ?_
      intro _ hw'; obtain ⟨n1, hw''⟩ := hw'; subst hw''
      go_wp2
      refine wp_region_litC (C := fun w' => ∃ n, w' = (wr.drewN n1).drewN n) ⟨1, rfl⟩ (by kernel_rfl) (by kernel_rfl) ?_
      repeat (go_big_quiet_step (fail))
      refine wpQuiet_call (by rfl) 83 #[.int .u32 a, .int .u64 (2 : Nat)] (.int .u32 (rorI a 2)) (fun w' hw => by go_simp) (fun w' hw => (rrot_calls a 2 w' (by omega) (by omega)).mono fun _ _ ⟨h1, h2⟩ => ⟨h1, by rw [h2]; exact hw⟩) ?_
      simp only [Act.put, List.setIfInBounds_toArray, List.set_cons_zero, List.set_cons_succ]
      repeat (go_big_quiet_step (fail))
      refine wpQuiet_call (by rfl) 83 #[.int .u32 a, .int .u64 (13 : Nat)] (.int .u32 (rorI a 13)) (fun w' hw => by go_simp) (fun w' hw => (rrot_calls a 13 w' (by omega) (by omega)).mono fun _ _ ⟨h1, h2⟩ => ⟨h1, by rw [h2]; exact hw⟩) ?_
      simp only [Act.put, List.setIfInBounds_toArray, List.set_cons_zero, List.set_cons_succ]
      repeat (go_big_quiet_step (fail))
      refine wpQuiet_call (by rfl) 83 #[.int .u32 a, .int .u64 (22 : Nat)] (.int .u32 (rorI a 22)) (fun w' hw => by go_simp) (fun w' hw => (rrot_calls a 22 w' (by omega) (by omega)).mono fun _ _ ⟨h1, h2⟩ => ⟨h1, by rw [h2]; exact hw⟩) ?_
      simp only [Act.put, List.setIfInBounds_toArray, List.set_cons_zero, List.set_cons_succ]
      repeat (go_big_quiet_step (fail))
      refine wpQuiet_nil ?_
      intro _ hw'; obtain ⟨n2, hw''⟩ := hw'; subst hw''
      try simp only [hv]
      have HD := Lib.hid ((HB.out.drewN n1).drewN n2)
      generalize (wr.drewN n1).drewN n2 = wz at *
      clear c0 c1 c2 c3 c4 c5 c6 c7 ck cw hu hv
      go_wp2
      go_loopw [13] (fun i wq => ∃ j : Nat, j ≤ 7 ∧ i = .int .i64 (j : Int) ∧ Hid (RCom W W.heap.size q m (m + 1) s0 (shL ⟨a, b, c, d, e, f, g, z⟩ j) L wq)) (fun i _ => (intOf i).toNat)
      case atStart => exact ⟨7, by omega, rfl, HD⟩
      case round =>
        obtain ⟨j, hj, rfl, HE⟩ := hrel
        clear HD
        by_cases hpos : 0 < j
        · obtain ⟨i, rfl⟩ : ∃ i, j = i + 1 := ⟨j - 1, by omega⟩
          have c1 := HE.out.com.st.cell (shL_get ⟨a, b, c, d, e, f, g, z⟩ i (by omega))
          obtain ⟨y, hy⟩ := Option.isSome_iff_exists.1 ((HE.out.com.st.rng.isSome (i + 1) (by rw [u32s_length, shL_length]; omega)))
          rw [Nat.zero_add] at hy
          have f1 := HE.out.com.st.frozen (i := i + 1) (by rw [u32s_length, shL_length]; omega)
          have HM := Lib.hid (shL_set ⟨a, b, c, d, e, f, g, z⟩ i (by omega))
          generalize (S8.l ⟨a, b, c, d, e, f, g, z⟩)[i]?.getD 0 = x at *
          have e1 : ((i : Int) + 1 - 1).toNat = i := by omega
          go_wp2
          go_roundw
          case rel => exact ⟨i, by omega, rfl, Lib.hid (by rw [← HM.out]; exact HE.out.set _ _)⟩
          case measure => simp [intOf]
        · obtain rfl : j = 0 := by omega
          have c4 := HE.out.com.st.cell (i := 4) (v := .int .u32 d) rfl
          have f4 := HE.out.com.st.frozen (i := 4) (by rw [u32s_length, shL_length]; omega)
          have c0 := HE.out.com.st.cell (i := 0) (v := .int .u32 a) rfl
          have f0 := HE.out.com.st.frozen (i := 0) (by rw [u32s_length, shL_length]; omega)
          go_wp2
          go_roundw
          case rel => exact ⟨t + 1, by omega, by go_num, Lib.hid (by rw [HRS.out]; exact (HE.out.set 4 _).set 0 _)⟩
          case measure => simp [intOf]; omega
    · obtain rfl : t = 64 := by omega
      clear hll HC
      obtain ⟨r, hr⟩ : ∃ r, rounds s0 L 64 = r := ⟨_, rfl⟩
      rw [hr] at HB
      have HSS := Lib.hid (compress_eq s0 blk r L HLL.out hr)
      clear hr
      go_wp2
      go_loopw [14] (fun i wr => ∃ t : Nat, t ≤ 8 ∧ i = .int .i64 (t : Int) ∧ Hid (RCom W W.heap.size q m (m + 1) s0 (mixL r s0 t) L wr)) (fun i _ => 8 - (intOf i).toNat)
      case atStart => exact ⟨0, by omega, rfl, HB⟩
      case round =>
        obtain ⟨t, ht, rfl, HD⟩ := hrel
        clear HB
        by_cases hlt : t < 8
        · have c1 := HD.out.com.st.cell (mixL_get r s0 t hlt)
          have f1 := HD.out.com.st.frozen (i := t) (by rw [u32s_length, mixL_length]; exact hlt)
          have c2 := HD.out.com.h0.cell (S8.get s0 t hlt)
          have HM := Lib.hid (mixL_set r s0 t hlt)
          generalize r.l[t]?.getD 0 = x at *
          generalize s0.l[t]?.getD 0 = y at *
          go_wp2
          refine wp_region_quiet_tail 9 (by kernel_rfl) (by kernel_rfl) ?_
          simp only [List.take_succ_cons, List.take_zero, List.drop_succ_cons, List.drop_zero]
          repeat (go_big_quiet_step (fail))
          refine wpQuiet_nil ?_
          intro _ hw'; obtain ⟨nq, hw''⟩ := hw'; subst hw''
          go_wp2
          go_roundw
          case rel => exact ⟨t + 1, by omega, by go_num, Lib.hid (by rw [← HM.out]; exact (HD.out.drewN nq).set t _)⟩
          case measure => simp [intOf]; omega
        · obtain rfl : t = 8 := by omega
          have HL := Lib.hid (HD.out.com.st.load (P := Tryd.prog) (ty := 115) Tryd.underlying115 rfl (by rw [u32s_length, mixL_length]; exact info_8w))
          have HS := Lib.hid (HD.out.com.res.store (P := Tryd.prog) (ty := 115) (u32s (mixL r s0 8)) (by rw [u32s_length, u32s_length, mixL_length, List.length_replicate]) (by rw [u32s_length, List.length_replicate]; exact info_8w) (u32s_one _))
          have HR := Lib.hid (And.intro (below_setCells HD.out.com.bel (W.heap.size + 2) 0 (by omega) (u32s (mixL r s0 8))) (HD.out.com.res.put (u32s (mixL r s0 8)) (by rw [u32s_length, u32s_length, mixL_length, List.length_replicate])))
          clear HD
          rw [mixL_end, ← HSS.out] at HL HS HR
          go_wp2_with (first
            | (refine wpList_load_run rfl 115 _ rfl _ _ rfl HL.out ?_; simp only [Act.put, List.setIfInBounds_toArray, List.set_cons_zero, List.set_cons_succ])
            | (refine wpList_store_run rfl 115 _ _ rfl _ _ rfl rfl _ HS.out ?_; simp only [Act.put]))
          refine bodyPost_ret (results_arr Tryd.results74 _ HR.out.2 rfl Tryd.underlying115 rfl info_8w) rfl ⟨rfl, HR.out.1⟩
end Go.Proofs.YthgjecofmnomfaaDoor
namespace Go.Proofs.YthgjecofmnomfaaDoor
open Go.RowKit
set_option maxRecDepth 100000
/-- What is put behind n bytes. -/
def pad (n : Nat) : List UInt8 := (128 :: List.replicate ((119 - n % 64) % 64) 0) ++ be 8 (n * 8)
theorem pad_length (n : Nat) : (pad n).length = (119 - n % 64) % 64 + 9 := by simp [pad, be_length]
theorem pad_whole (n : Nat) : (n + (pad n).length) % 64 = 0 := by rw [pad_length]; omega
set_option maxHeartbeats 800000 in
theorem number8_calls (x : Nat) (w : World) (hx : x < 18446744073709551616) :
    Calls Tryd.prog 39 #[.int .u64 x, .int .i64 8] w fun e w' => ∃ v', e = .returned v' ∧ OwnB w' w.heap.size v' (be 8 x) ∧ Below w.heap.size w w' := by
  have hmk : ∀ W : World, (Instr.makeSlice 23 (.int .i64 8) (.int .i64 8)).run Tryd.prog W = .ok (.slice (some ⟨W.heap.size, 0, none⟩) 8 8) (W.alloc (.cells (Array.replicate 8 (.int .u8 0)) 5)) := fun _ => by kernel_rfl
  have ho0 := OwnB.zeros w 8 (by unfold maxLen; omega)
  have hB0 : Below w.heap.size w (w.alloc (.cells (Array.replicate 8 (.int .u8 0)) 5)) := (Below.refl _ _).alloc (Nat.le_refl _) _
  go_enter Tryd.func39, Tryd.ntmps39
  go_wp2
  go_loopw [0, 6] (fun q i wr => ∃ (k y : Nat) (t : List UInt8), k ≤ 8 ∧ i = .int .i64 ((k : Int) - 1) ∧ q = .int .u64 (y : Nat) ∧ y < 18446744073709551616 ∧ t.length = 8 - k ∧ be k y ++ t = be 8 x ∧
      OwnB wr w.heap.size (.slice (some ⟨w.heap.size, 0, none⟩) 8 8) (List.replicate k 0 ++ t) ∧ Below w.heap.size w wr) (fun _ i _ => (intOf i + 1).toNat)
  case atStart => exact ⟨8, x, [], Nat.le_refl _, rfl, rfl, hx, rfl, by simp, ho0, hB0⟩
  case round =>
    obtain ⟨k, y, t, hk, rfl, rfl, hy, ht, hbe, ho, hB⟩ := hrel
    have HB := Lib.hid hbe; clear hbe
    have HT := Lib.hid ht; clear ht
    clear ho0 hmk hB0
    by_cases h0 : k = 0
    · subst h0
      go_wp2
      go_ret
      refine ⟨_, rfl, ?_, hB⟩
      have h := HB.out
      rw [show be 0 y = [] from rfl, List.nil_append] at h
      rw [← h]
      exact ho
    · obtain ⟨j, rfl⟩ : ∃ j, k = j + 1 := ⟨k - 1, by omega⟩
      obtain ⟨g, hg, hg1, hg2, _, hcell, hfr, hset⟩ := ho.block (by have := HT.out; simp; omega)
      cases hg
      have hc1 := hcell j (by have := HT.out; simp; omega)
      have hf1 := hfr j
      have ho2 := hset j (UInt8.ofNat (y % 256)) (by have := HT.out; simp; omega)
      have hb := byte_mod y
      have HS : Hid (be j (y / 256) ++ (UInt8.ofNat (y % 256) :: t) = be 8 x) := by
        rw [← HB.out, be_snoc]; simp [Hid]
      have HL : Hid ((List.replicate (j + 1) (0 : UInt8) ++ t).set j (UInt8.ofNat (y % 256)) = List.replicate j 0 ++ (UInt8.ofNat (y % 256) :: t)) := by
        unfold Hid
        rw [List.replicate_succ', List.append_assoc, List.set_append_right _ _ (by simp)]
        simp
      generalize UInt8.ofNat (y % 256) = z at hb HS HL ho2
      have hB2 : Below w.heap.size w (wr.setCell ⟨w.heap.size, j, none⟩ (.int .u8 (z.toNat : Int))) := hB.setCell (p := ⟨w.heap.size, j, none⟩) (Nat.le_refl _) _
      clear hcell hfr hset hg2
      go_wp2
      go_roundw
      case rel => exact ⟨j, y / 256, z :: t, by omega, by go_num, by go_num, by omega, by have := HT.out; simp; omega, HS.out, by rw [← HL.out]; exact ho2, hB2⟩
      case measure => simp [intOf]

theorem OwnB.fresh (w : World) (l : List UInt8) (zs : List Value) (n c : Nat) (hn : l.length = n) (hc : n + zs.length = c) (hm : c ≤ maxLen) : OwnB (w.alloc (.cells (u8s l ++ zs).toArray 5)) w.heap.size (.slice (some ⟨w.heap.size, 0, none⟩) n c) l := by
  subst hn
  refine ⟨by rw [u8s_length, Nat.mul_one], .inr ⟨w.heap.size, c, _, rfl, Nat.le_refl _, heap_alloc_new w _, by omega, hm, ?_, ?_⟩⟩
  · simp [u8s_length]; omega
  · rw [Nat.mul_one, List.toList_toArray, List.take_append_of_le_length (by rw [u8s_length]; exact Nat.le_refl _), List.take_of_length_le (by rw [u8s_length]; exact Nat.le_refl _)]
def lenSl : Value → Nat | .slice _ n _ => n | _ => 0
set_option maxHeartbeats 1000000 in
theorem rpadding_calls (n : Nat) (w : World) (hn : n ≤ 140737490000000) :
    Calls Tryd.prog 67 #[.int .i64 (n : Int)] w fun e w' => ∃ v', e = .returned (.tuple #[v', .int .i64 0]) ∧ OwnB w' w.heap.size v' (pad n) ∧ Below w.heap.size w w' := by
  have H0 := Lib.hid (And.intro (OwnB.fresh w [128] [] 1 1 rfl rfl (by unfold maxLen; omega)) (below_alloc1 w (.cells (u8s [128] ++ []).toArray 5)))
  obtain ⟨r, hr⟩ : ∃ r, n % 64 = r := ⟨_, rfl⟩
  have hr64 : r < 64 := by omega
  have em : (n : Int) % 64 = (r : Int) := by omega
  have emt : (n : Int).tmod 64 = (r : Int) := by rw [Int.tmod_eq_emod_of_nonneg (by omega)]; exact em
  obtain ⟨z, hz⟩ : ∃ z, (119 - r) % 64 = z := ⟨_, rfl⟩
  have hz64 : z < 64 := by omega
  have HP := Lib.hid (show pad n = (128 :: List.replicate z 0) ++ be 8 (n * 8) by unfold pad; rw [hr, hz])
  have HR := Lib.hid hr
  clear hr
  go_enter Tryd.func67, Tryd.ntmps67
  go_wp2
  go_loopw [4] (fun r wr => ∃ (k : Nat) (v : Value), k ≤ z ∧ r = v ∧ Hid (OwnB wr w.heap.size v (128 :: List.replicate k 0) ∧ Below w.heap.size w wr)) (fun v _ => 64 - lenSl v)
  case atStart => exact ⟨0, _, by omega, rfl, H0⟩
  case round =>
    obtain ⟨k, v, hk, rfl, HB⟩ := hrel
    clear H0
    obtain ⟨A, c, rfl, h1, h2, h3⟩ := HB.out.1.form_n (1 + k) (by simp; omega)
    by_cases hlt : k < z
    · have hne : ((r : Int) + (1 + (k : Int)) + 8) % 64 ≠ 0 := by omega
      have tok1 : True := trivial
      go_wp2_with (at_builtin; have _t := tok1; (refine app_u8 rfl _ _ rfl w.heap.size _ rfl (128 :: List.replicate k 0) (HB.out.1.alloc _) _ rfl [0] (Bs.one _ _ _ rfl) ?_ ?_ ?_); (· simp; omega); (· exact le_alloc HB.out.2.size _); clear tok1; intro v3 w3 ho3 hg3 _; have HB3 := Lib.hid (And.intro ho3 (below_grown (HB.out.2.alloc HB.out.2.size _) hg3 (HB.out.1.alloc _) (le_alloc HB.out.2.size _))); obtain ⟨A3, c3, e3, _, _, _⟩ := ho3.form_n (2 + k) (by simp; omega); subst e3; clear ho3 hg3)
      go_roundw
      case rel => exact ⟨k + 1, _, by omega, rfl, Lib.hid (by rw [List.replicate_succ', ← List.cons_append]; exact HB3.out)⟩
      case measure => simp [lenSl]; omega
    · obtain rfl : k = z := by omega
      have heq : ((r : Int) + (1 + (k : Int)) + 8) % 64 = 0 := by omega
      have KN := Lib.hid (number8_calls (n * 8) wr (by omega))
      have e8 : ((n * 8 : Nat) : Int) = (n : Int) * 8 := by omega
      rw [e8] at KN
      have tok1 : True := trivial
      go_wp2_with (first
        | (go_at_call 39; refine KN.out.mono ?_; rintro e w3 ⟨v3, rfl, ho3, hB3⟩; have HO3 := Lib.hid ho3; have HBB := Lib.hid (HB.out.2.trans (hB3.mono HB.out.2.size)); have HOB := Lib.hid (HB.out.1.below hB3); clear ho3 hB3)
        | (at_builtin; have _t := tok1; (refine app_u8 rfl _ _ rfl w.heap.size _ rfl (128 :: List.replicate k 0) HOB.out _ rfl (be 8 (n * 8)) HO3.out.bs ?_ ?_ ?_); (· simp [be_length]; omega); (· exact HBB.out.size); clear tok1; intro v4 w4 ho4 hg4 _; have HB4 := Lib.hid (And.intro ho4 (below_grown HBB.out hg4 HOB.out HBB.out.size)); clear ho4 hg4))
      go_ret2
      exact ⟨_, rfl, by rw [HP.out]; exact HB4.out.1, HB4.out.2⟩
theorem run_mk8 (W : World) (n c : Nat) (h1 : n ≤ c) (h2 : c ≤ 1000) : (Instr.makeSlice 23 (.int .i64 (n : Int)) (.int .i64 (c : Int))).run Tryd.prog W = .ok (.slice (some ⟨W.heap.size, 0, none⟩) n c) (W.alloc (.cells (u8s (List.replicate n 0) ++ List.replicate (c - n) (Value.int .u8 0)).toArray 5)) := by
  obtain ⟨i, hi, hs⟩ := Option.map_eq_some_iff.1 info_u8
  have hz : i.zero = some (.int .u8 0) := congrArg (fun q => q.1) hs
  have hsz : i.size = 1 := congrArg (fun q => q.2.1) hs
  have hby : i.bytes = 1 := congrArg (fun q => q.2.2) hs
  have hr := run_make (P := Tryd.prog) W 23 5 i (.int .u8 0) Tryd.underlying23 hi hz .i64 .i64 (n : Int) (c : Int) (by omega) (by omega) (by rw [hby]; omega) (by omega)
  rw [hr, hsz, Nat.mul_one, Int.toNat_natCast, Int.toNat_natCast]
  congr 3
  apply Array.ext'
  rw [show (Value.int .u8 0).cells = #[.int .u8 0] from rfl, toList_madeCells_one]
  simp only [List.toList_toArray]
  rw [show u8s (List.replicate n 0) = List.replicate n (.int .u8 0) by simp [u8s], List.replicate_append_replicate, Nat.add_sub_cancel' h1]
set_option maxHeartbeats 1000000 in
theorem padding_calls (n : Nat) (w : World) (hn : n ≤ 140737490000000) :
    Calls Tryd.prog 79 #[.int .i64 (n : Int)] w fun e w' => ∃ v', e = .returned (.tuple #[v', .int .i64 0]) ∧ OwnB w' w.heap.size v' (pad n) ∧ Below w.heap.size w w' := by
  obtain ⟨r, hr⟩ : ∃ r, n % 64 = r := ⟨_, rfl⟩
  have hr64 : r < 64 := by omega
  have em : (n : Int) % 64 = (r : Int) := by omega
  obtain ⟨z, hz⟩ : ∃ z, (119 - r) % 64 = z := ⟨_, rfl⟩
  have hz64 : z < 64 := by omega
  have ez : (119 - (r : Int)) % 64 = (z : Int) := by omega
  have HP := Lib.hid (show pad n = (128 :: List.replicate z 0) ++ be 8 (n * 8) by unfold pad; rw [hr, hz])
  have HR := Lib.hid hr
  clear hr
  have hmk := run_mk8 w (1 + z) (1 + z + 8) (by omega) (by omega)
  rw [show ((1 + z : Nat) : Int) = 1 + (z : Int) by omega, show ((1 + z + 8 : Nat) : Int) = 1 + (z : Int) + 8 by omega] at hmk
  have ho := OwnB.fresh w (List.replicate (1 + z) 0) (List.replicate (1 + z + 8 - (1 + z)) (Value.int .u8 0)) (1 + z) (1 + z + 8) (by simp) (by simp) (by unfold maxLen; omega)
  have hb := below_alloc1 w (.cells (u8s (List.replicate (1 + z) 0) ++ List.replicate (1 + z + 8 - (1 + z)) (Value.int .u8 0)).toArray 5)
  obtain ⟨g, hg, -, -, -, hcell, hfr, hset⟩ := ho.block (by simp; omega)
  cases hg
  have c0 := hcell 0 (by simp; omega)
  rw [List.getElem_replicate, show ((0 : UInt8).toNat : Int) = 0 from rfl] at c0
  have f0 := hfr 0
  have H0 := Lib.hid (And.intro (hset 0 128 (by simp; omega)) (hb.setCell (p := ⟨w.heap.size, 0, none⟩) (Nat.le_refl _) (.int .u8 ((128 : UInt8).toNat : Int))))
  rw [show ((128 : UInt8).toNat : Int) = 128 from rfl, show (List.replicate (1 + z) (0 : UInt8)).set 0 128 = 128 :: List.replicate z 0 by rw [Nat.add_comm, List.replicate_succ, List.set_cons_zero]] at H0
  clear ho hb hcell hfr hset
  generalize w.alloc (.cells (u8s (List.replicate (1 + z) 0) ++ List.replicate (1 + z + 8 - (1 + z)) (Value.int .u8 0)).toArray 5) = w1 at *
  go_enter Tryd.func79, Tryd.ntmps79
  go_wp2
  simp only [ez, em]
  clear ez em
  go_loopw [5, 6] (fun q i wr => ∃ (k : Nat) (v2 : Value) (acc : List UInt8), k ≤ 8 ∧ i = .int .i64 ((k : Int) - 1) ∧ q = v2 ∧ Hid (OwnB wr w.heap.size v2 ((128 :: List.replicate z 0) ++ acc) ∧ Below w.heap.size w wr ∧ acc ++ be k (n * 8) = be 8 (n * 8) ∧ acc.length = 8 - k)) (fun _ i _ => (intOf i + 1).toNat)
  case atStart => exact ⟨8, _, [], Nat.le_refl _, rfl, rfl, by rw [List.append_nil]; exact ⟨H0.out.1, H0.out.2, rfl, rfl⟩⟩
  case round =>
    obtain ⟨k, v2, acc, hk, rfl, rfl, HB⟩ := hrel
    clear H0 hmk c0 f0
    by_cases h0 : k = 0
    · subst h0
      go_wp2
      go_ret2
      refine ⟨_, rfl, ?_, HB.out.2.1⟩
      have := HB.out.2.2.1
      rw [show be 0 (n * 8) = [] from rfl, List.append_nil] at this
      rw [HP.out, ← this]
      exact HB.out.1
    · obtain ⟨j, rfl⟩ : ∃ j, k = j + 1 := ⟨k - 1, by omega⟩
      have hb := byte_of (n * 8) j
      have e8 : ((n * 8 : Nat) : Int) = (n : Int) * 8 := by omega
      rw [e8] at hb
      have HS : Hid (acc ++ [UInt8.ofNat (n * 8 / 256 ^ j % 256)] ++ be j (n * 8) = be 8 (n * 8)) := by
        have := HB.out.2.2.1
        rw [show be (j + 1) (n * 8) = UInt8.ofNat (n * 8 / 256 ^ j % 256) :: be j (n * 8) from rfl] at this
        rw [← this]
        simp [Hid]
      generalize UInt8.ofNat (n * 8 / 256 ^ j % 256) = y at hb HS
      have tok1 : True := trivial
      have hj8 : IntKind.i64.wrap (8 * (j : Int)) = 8 * (j : Int) := by have := IntWalk.i64_in (8 * (j : Int)) (by omega); exact this
      go_wp2_with (at_builtin; have _t := tok1; (refine app_u8 rfl _ _ rfl w.heap.size _ rfl _ (HB.out.1.alloc _) _ rfl [y] (Bs.one _ _ _ rfl) ?_ ?_ ?_); (· have := HB.out.2.2.2; simp; omega); (· exact le_alloc HB.out.2.1.size _); clear tok1; intro v3 w3 ho3 hg3 _; have HB3 := Lib.hid (And.intro ho3 (below_grown (HB.out.2.1.alloc HB.out.2.1.size _) hg3 (HB.out.1.alloc _) (le_alloc HB.out.2.1.size _))); clear ho3 hg3)
      go_roundw
      case rel => exact ⟨j, v3, acc ++ [y], by omega, by go_num, rfl, by rw [← List.append_assoc]; exact ⟨HB3.out.1, HB3.out.2, HS.out, by have := HB.out.2.2.2; simp; omega⟩⟩
      case measure => simp [intOf]
end Go.Proofs.YthgjecofmnomfaaDoor
namespace Go.Proofs.YthgjecofmnomfaaDoor
open Go.RowKit
set_option maxRecDepth 100000
theorem Bs.tail {w : World} {A : Option Addr} {len c : Nat} {l : List UInt8} (h : Bs w (.slice A len c) l) (k : Nat) (a : Int) (ha : a = (k : Int)) (hi : k ≤ l.length) :
    ∃ A' c', (∀ W : World, (Instr.slice 23 (.slice A len c) (some (.int .i64 a)) Option.none Option.none).run Tryd.prog W = .ok (.slice A' (len - k) c') W) ∧
      Bs w (.slice A' (len - k) c') (l.drop k) := by
  subst ha
  obtain ⟨A0, c0, e, h1, h2, h0, h3⟩ := h
  cases e
  have hlen : (l.drop k).length = l.length - k := by simp
  refine ⟨if c = k then A else A.map (·.add k), c - k, fun W => ?_, ?_⟩
  · have hel : Tryd.prog.elem 23 = 5 := by simp [Program.elem, Tryd.underlying23]
    have hu : Tryd.prog.underlying 23 = some (.slice (Tryd.prog.elem 23)) := by rw [hel]; exact Tryd.underlying23
    rw [run_slice_l (ht := hu) (h0 := by omega) (h1 := by omega), hel]
    obtain ⟨i0, hi0, hz, hsz, hby⟩ := info_parts info_u8
    simp [sizeOf, typeInfo, hi0, hsz, sliced, Result.andThen]
  · refine ⟨_, _, by rw [hlen], by rw [hlen]; omega, by omega, ?_, ?_⟩
    · intro hA
      cases A with
      | none => have := h0 rfl; omega
      | some ad => split at hA <;> cases hA
    · intro j u hj
      have hju : (u8s l)[k + j]? = some u := by
        rw [← hj]
        simp only [u8s, List.getElem?_map]
        rw [List.getElem?_drop]
      have hlt : k + j < l.length := by have := (List.getElem?_eq_some_iff.1 hju).1; rwa [u8s_length] at this
      obtain ⟨ad, hA, hc⟩ := h3 (k + j) u hju
      subst hA
      rw [if_neg (by omega)]
      exact ⟨ad.add k, rfl, by rw [add_add]; exact hc⟩
theorem Bs.head {w : World} {A : Option Addr} {len c : Nat} {l : List UInt8} (h : Bs w (.slice A len c) l) (k : Nat) (a : Int) (ha : a = (k : Int)) (hi : k ≤ l.length) :
    (∀ W : World, (Instr.slice 23 (.slice A len c) Option.none (some (.int .i64 a)) Option.none).run Tryd.prog W = .ok (.slice A k c) W) ∧ Bs w (.slice A k c) (l.take k) := by
  subst ha
  have hq : len = l.length ∧ l.length ≤ c := by obtain ⟨A0, c0, e, h1, h2, h0, h3⟩ := h; cases e; exact ⟨rfl, h1⟩
  refine ⟨fun W => ?_, ?_⟩
  · have hel : Tryd.prog.elem 23 = 5 := by simp [Program.elem, Tryd.underlying23]
    have hu : Tryd.prog.underlying 23 = some (.slice (Tryd.prog.elem 23)) := by rw [hel]; exact Tryd.underlying23
    rw [run_slice_h W 23 A len c hu .i64 k (by omega) (by omega)]
    have e1 : ((k : Int)).toNat = k := by omega
    have e2 : (A.map fun x => x.add 0) = A := by cases A <;> rfl
    rw [hel]
    simp [sliced, e1, Result.andThen, e2]
  · refine Bs.pre (m := l.drop k) (n := len) ?_ (by simp; omega)
    rw [List.take_append_drop]
    exact h
theorem cell_spotA {w : World} {a : Addr} {u : Value} (h : w.cell? a = some u) : a.spot = none := by
  unfold World.cell? at h
  split at h
  · split at h
    · cases h
    · rename_i hs; simpa using hs
  · cases h
/-- The cells of the first n bytes of a slice. -/
theorem Bs.cells {w : World} {A : Option Addr} {len c : Nat} {l : List UInt8} (h : Bs w (.slice A len c) l) (n : Nat) (h0 : 0 < n) (hn : n ≤ l.length) : ∃ g o, A = some ⟨g, o, none⟩ ∧ w.rangeAt g o (u8s (l.take n)) := by
  obtain ⟨ad, rfl, hc⟩ := h.at_ 0 (by omega)
  have hs := cell_spotA hc
  obtain ⟨g, o, sp⟩ := ad
  have hsp : sp = none := by
    revert hs
    cases sp with
    | none => intro _; rfl
    | some q => intro hs; simp [Addr.add] at hs
  subst hsp
  refine ⟨g, o, rfl, fun j u hu => ?_⟩
  have hj : j < n ∧ j < l.length := by
    have := (List.getElem?_eq_some_iff.1 hu).1
    rw [u8s_length, List.length_take] at this
    omega
  obtain ⟨ad, e, hc⟩ := h.at_ j hj.2
  cases e
  rw [Addr.add_mid] at hc
  rw [hc, ← hu, u8s_get _ j (by simp; omega)]
  simp
/-- As the walk's own law spells what lies behind. -/
theorem Bs.tailV {w : World} {A : Option Addr} {len c : Nat} {l : List UInt8} (h : Bs w (.slice A len c) l) (k : Nat) (hk : k ≤ l.length) :
    Bs w (.slice (if c = k then A else Option.map (fun x => (⟨x.block, x.off + k, none⟩ : Addr)) A) (len - k) (c - k)) (l.drop k) := by
  have hs : ∀ ad, A = some ad → 0 < l.length → ad.spot = none := fun ad e hl => by
    obtain ⟨g, o, e2, -⟩ := h.cells l.length hl (Nat.le_refl _)
    rw [e] at e2
    cases e2
    rfl
  obtain ⟨A0, c0, e, h1, h2, h0, h3⟩ := h
  cases e
  have hlen : (l.drop k).length = l.length - k := by simp
  refine ⟨_, _, by rw [hlen], by rw [hlen]; omega, by omega, ?_, ?_⟩
  · intro hA
    cases A with
    | none => have := h0 rfl; omega
    | some ad => split at hA <;> cases hA
  · intro j u hj
    have hju : (u8s l)[k + j]? = some u := by
      rw [← hj]
      simp only [u8s, List.getElem?_map]
      rw [List.getElem?_drop]
    have hlt : k + j < l.length := by have := (List.getElem?_eq_some_iff.1 hju).1; rwa [u8s_length] at this
    obtain ⟨ad, hA, hc⟩ := h3 (k + j) u hju
    have hsp := hs ad hA (by omega)
    subst hA
    obtain ⟨g, o, sp⟩ := ad
    simp only at hsp
    subst hsp
    rw [if_neg (by omega)]
    refine ⟨_, rfl, ?_⟩
    rw [Addr.add_mid] at hc ⊢
    rw [Nat.add_assoc]
    exact hc
def blkAt (l : List UInt8) (k : Nat) : List UInt8 := (l.drop (64 * k)).take 64
def overN (s : S8) (l : List UInt8) : Nat → S8
  | 0 => s
  | k + 1 => compress (overN s l k) (blkAt l k)
theorem overN_zero (s : S8) (l : List UInt8) : overN s l 0 = s := rfl
theorem overN_succ (s : S8) (l : List UInt8) (k : Nat) : overN s l (k + 1) = compress (overN s l k) (blkAt l k) := rfl
attribute [irreducible] overN
def over (s : S8) (l : List UInt8) : S8 := overN s l (l.length / 64)
theorem blkAt_length (l : List UInt8) (k : Nat) (h : 64 * k + 64 ≤ l.length) : (blkAt l k).length = 64 := by simp [blkAt]; omega
structure OvAt (W : World) (s0 : S8) (w : World) : Prop where
  bel : Below W.heap.size W w
  st : Arr w W.heap.size (u32s s0.l)
  res : Arr w (W.heap.size + 1) (u32s (List.replicate 8 0))
theorem OvAt.below {W : World} {s0 : S8} {w w1 : World} (h : OvAt W s0 w) (hb : Below w.heap.size w w1) (hs : W.heap.size ≤ w.heap.size) : OvAt W s0 w1 := ⟨h.bel.trans (hb.mono hs), h.st.below hb, h.res.below hb⟩
theorem OvAt.put {W : World} {s0 : S8} {w : World} (h : OvAt W s0 w) (s' : S8) : OvAt W s' (w.setCells W.heap.size 0 (u32s s'.l)) := ⟨below_setCells h.bel _ 0 (Nat.le_refl _) _, h.st.put _ rfl, h.res.off (by omega) 0 _⟩
theorem Bs.form_n {w : World} {v : Value} {l : List UInt8} (h : Bs w v l) (n : Nat) (hn : l.length = n) : ∃ A c, v = .slice A n c ∧ n ≤ c ∧ c ≤ 9223372036854775807 ∧ n ≤ 9223372036854775807 := by
  subst hn
  exact h.form
/-- A block while its bytes come in. -/
def part (b : List UInt8) (i : Nat) : List UInt8 := b.take i ++ List.replicate (64 - i) 0
theorem part_length (b : List UInt8) (i : Nat) (hb : b.length = 64) (hi : i ≤ 64) : (part b i).length = 64 := by simp [part]; omega
theorem part_end (b : List UInt8) (hb : b.length = 64) : part b 64 = b := by unfold part; rw [List.take_of_length_le (by omega)]; simp
theorem part_set (b : List UInt8) (i : Nat) (hb : b.length = 64) (hi : i < 64) : (u8s (part b i)).set i (.int .u8 ((b[i]'(by omega)).toNat : Int)) = u8s (part b (i + 1)) := by
  have e : part b (i + 1) = (part b i).set i (b[i]'(by omega)) := by
    unfold part
    rw [take_succ_get b i (by omega), List.set_append_right _ _ (by simp; omega), List.length_take, Nat.min_eq_left (by omega), Nat.sub_self, show 64 - i = (64 - (i + 1)) + 1 by omega, List.replicate_succ, List.set_cons_zero, List.append_assoc, List.singleton_append]
  rw [e]
  simp [u8s, List.map_set]
set_option maxHeartbeats 4000000 in
theorem rover_calls (s0 : S8) (v : Value) (l : List UInt8) (W : World) (hv : Bs W v l) :
    Calls Tryd.prog 70 #[.agg (u32s s0.l).toArray, v] W fun e w' => e = .returned (.agg (u32s (over s0 l).l).toArray) ∧ Below W.heap.size W w' := by
  obtain ⟨A, c, rfl, h1, h2, h3⟩ := hv.form
  have HV := Lib.hid hv
  clear hv
  have b0 := below_alloc1 W (.cells (u32s s0.l).toArray 115)
  have z0 : (W.alloc (.cells (u32s s0.l).toArray 115)).heap.size = W.heap.size + 1 := by simp
  have a0 := (Arr.new W (u32s s0.l) 115).below (below_alloc1 _ (.cells (u32s (List.replicate 8 0)).toArray 115))
  have a1 := Arr.new (W.alloc (.cells (u32s s0.l).toArray 115)) (u32s (List.replicate 8 0)) 115
  rw [z0] at a1
  have H0 := Lib.hid (OvAt.mk (b0.alloc (by rw [z0]; omega) (.cells (u32s (List.replicate 8 0)).toArray 115)) a0 a1)
  clear b0 z0 a0 a1
  go_enter Tryd.func70, Tryd.ntmps70
  go_wp2
  go_loopw [1] (fun r wr => ∃ (k : Nat) (v : Value), 64 * k ≤ l.length ∧ r = v ∧ Hid (OvAt W (overN s0 l k) wr ∧ Bs W v (l.drop (64 * k)))) (fun v _ => lenSl v)
  case atStart => exact ⟨0, _, by omega, rfl, by rw [overN_zero]; exact ⟨H0.out, HV.out⟩⟩
  case round =>
    obtain ⟨k, v, hk, rfl, HB⟩ := hrel
    clear H0
    obtain ⟨m, hm⟩ : ∃ m, l.drop (64 * k) = m := ⟨_, rfl⟩
    have HM := Lib.hid (show m.take 64 = blkAt l k ∧ m.drop 64 = l.drop (64 * (k + 1)) by subst hm; exact ⟨rfl, by rw [List.drop_drop]; congr 1⟩)
    have hml : m.length = l.length - 64 * k := by rw [← hm]; simp
    rw [hm] at HB
    clear hm
    obtain ⟨n, hn⟩ : ∃ n, m.length = n := ⟨_, rfl⟩
    obtain ⟨A1, c1, rfl, h4, h5, h6⟩ := HB.out.2.form_n n hn
    have HN := Lib.hid (And.intro hn (hn.symm.trans hml))
    have hnl : n = l.length - 64 * k := hn.symm.trans hml
    clear hn hml
    by_cases hlt : 64 ≤ n
    · have hb64 : (m.take 64).length = 64 := by have := HN.out.1; simp; omega
      obtain ⟨b, hb⟩ : ∃ b, m.take 64 = b := ⟨_, rfl⟩
      rw [hb] at hb64 HM
      obtain ⟨q, hq⟩ : ∃ q, wr.heap.size = q := ⟨_, rfl⟩
      have hsz : W.heap.size + 1 < wr.heap.size := HB.out.1.res.lt (by simp [u32s])
      have hat : ∀ (w1 : World), Below q wr w1 → ∀ i (hi : i < b.length), ∃ ad, A1 = some ad ∧ w1.cell? (ad.add i) = some (.int .u8 (b[i].toNat : Int)) := fun w1 hw1 i hi => by
        obtain ⟨ad, e, hc⟩ := (HB.out.2.below (HB.out.1.bel.trans (hw1.mono (by omega)))).at_ i (by have := HN.out.1; omega)
        refine ⟨ad, e, ?_⟩
        rw [hc]
        subst hb
        simp
      have HAT := Lib.hid hat
      clear hat hb
      have HBT := Lib.hid (HB.out.2.tailV 64 (by have := HN.out.1; omega))
      have hA0 := Arr.new wr (u8s (part b 0)) 127
      have hB0 := below_alloc1 wr (.cells (u8s (part b 0)).toArray 127)
      rw [hq] at hA0 hB0
      have HA0 := Lib.hid hA0
      have HB0 := Lib.hid hB0
      clear hA0 hB0
      go_wp2
      go_loopw [6] (fun i wq => ∃ j : Nat, j ≤ 64 ∧ i = .int .i64 (j : Int) ∧ Hid (Below q wr wq ∧ Arr wq q (u8s (part b j)))) (fun i _ => 64 - (intOf i).toNat)
      case atStart => exact ⟨0, by omega, rfl, HB0.out, HA0.out⟩
      case round =>
        rename_i wq
        obtain ⟨j, hj, rfl, HD⟩ := hrel
        clear HA0 HB0
        by_cases hjl : j < 64
        · obtain ⟨ad, rfl, hcell⟩ := HAT.out _ HD.out.1 j (by omega)
          obtain ⟨u, hu⟩ := Option.isSome_iff_exists.1 (HD.out.2.rng.isSome j (by rw [u8s_length, part_length b j hb64 hj]; omega))
          rw [Nat.zero_add] at hu
          have hf := HD.out.2.frozen (i := j) (by rw [u8s_length, part_length b j hb64 hj]; omega)
          have HS := Lib.hid (part_set b j hb64 hjl)
          generalize b[j] = x at *
          go_wp2
          go_roundw
          case rel => exact ⟨j + 1, by omega, by go_num, Lib.hid ⟨HD.out.1.setCell (Nat.le_refl _) _, by rw [← HS.out]; exact HD.out.2.set j _⟩⟩
          case measure => simp [intOf]; omega
        · obtain rfl : j = 64 := by omega
          rw [part_end b hb64] at HD
          have HO := Lib.hid (HB.out.1.below (by rw [hq]; exact HD.out.1) (by omega))
          have HL1 := Lib.hid (HO.out.st.load (P := Tryd.prog) (ty := 115) Tryd.underlying115 rfl info_8w)
          have HL2 := Lib.hid (HD.out.2.load (P := Tryd.prog) (ty := 127) Tryd.underlying127 rfl (by rw [u8s_length, hb64]; exact info_64b))
          have hsz2 : W.heap.size ≤ wr.heap.size := HO.out.bel.size
          have HCE := Lib.hid (show compress (overN s0 l k) b = overN s0 l (k + 1) by rw [overN_succ, HM.out.1])
          have KC := Lib.hid (rcompress_calls (overN s0 l k) b hb64 wr)
          rw [HCE.out] at KC
          generalize overN s0 l k = s at *
          obtain ⟨s', hs'⟩ : ∃ s', overN s0 l (k + 1) = s' := ⟨_, rfl⟩
          rw [hs'] at KC
          have HSS := Lib.hid hs'
          clear hs' HCE HAT
          go_wp2_with (first
            | (go_at_call 74; refine KC.out.mono ?_; rintro e w2 ⟨rfl, hB2⟩; have HO2 := Lib.hid (HO.out.below hB2 hsz2); have HST := Lib.hid (HO2.out.st.store (P := Tryd.prog) (ty := 115) (u32s s'.l) rfl info_8w (u32s_one _)); have HO3 := Lib.hid (HO2.out.put s'); clear hB2)
            | (refine wpList_load_run rfl 115 _ rfl _ _ rfl HL1.out ?_; simp only [Act.put, List.setIfInBounds_toArray, List.set_cons_zero, List.set_cons_succ])
            | (refine wpList_load_run rfl 127 _ rfl _ _ rfl HL2.out ?_; simp only [Act.put, List.setIfInBounds_toArray, List.set_cons_zero, List.set_cons_succ])
            | (refine wpList_store_run rfl 115 _ _ rfl _ _ rfl rfl _ HST.out ?_; simp only [Act.put]))
          go_roundw
          case rel => exact ⟨k + 1, _, by omega, rfl, Lib.hid ⟨by rw [HSS.out]; exact HO3.out, by rw [← HM.out.2, ← hnl]; exact HBT.out⟩⟩
          case measure => simp [lenSl]; omega
    · have HO := Lib.hid HB.out.1
      have hk2 : l.length / 64 = k := by omega
      have HL1 := Lib.hid (HO.out.st.load (P := Tryd.prog) (ty := 115) Tryd.underlying115 rfl info_8w)
      have HST := Lib.hid (HO.out.res.store (P := Tryd.prog) (ty := 115) (u32s (overN s0 l k).l) rfl info_8w (u32s_one _))
      have HR := Lib.hid (And.intro (below_setCells HO.out.bel (W.heap.size + 1) 0 (by omega) (u32s (overN s0 l k).l)) (HO.out.res.put (u32s (overN s0 l k).l) rfl))
      have HOV := Lib.hid (show over s0 l = overN s0 l k by unfold over; rw [hk2])
      generalize overN s0 l k = s at *
      go_wp2_with (first
        | (refine wpList_load_run rfl 115 _ rfl _ _ rfl HL1.out ?_; simp only [Act.put, List.setIfInBounds_toArray, List.set_cons_zero, List.set_cons_succ])
        | (refine wpList_store_run rfl 115 _ _ rfl _ _ rfl rfl _ HST.out ?_; simp only [Act.put]))
      refine bodyPost_ret (results_arr Tryd.results70 _ HR.out.2 rfl Tryd.underlying115 rfl info_8w) rfl ⟨by rw [HOV.out], HR.out.1⟩
end Go.Proofs.YthgjecofmnomfaaDoor
