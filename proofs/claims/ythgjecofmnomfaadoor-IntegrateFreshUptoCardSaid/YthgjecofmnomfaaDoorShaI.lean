/- WALKS of the reference's Sum and Leaf. No statement of the seed is proved here. -/
import Derived.Test.YthgjecofmnomfaaDoorShaH
namespace Go.Proofs.YthgjecofmnomfaaDoor
open Go.RowKit
set_option maxRecDepth 100000
def beginS : S8 := ⟨1779033703, 3144134277, 1013904242, 2773480762, 1359893119, 2600822924, 528734635, 1541459225⟩
theorem beginS_l : beginS.l = begin8 := rfl
theorem beginS_rng : Rng beginS := by
  intro x hx
  simp only [S8.l, beginS, List.mem_cons, List.not_mem_nil, or_false] at hx
  omega
/-- The digest of bytes. -/
def sha (l : List UInt8) : List UInt8 := wordsOf (over beginS (l ++ pad l.length))
theorem sha_length (l : List UInt8) : (sha l).length = 32 := wordsOf_length _
attribute [irreducible] sha
theorem info_dig : (Tryd.prog.info? 63).map (·.size) = some 32 := by kernel_rfl
set_option maxHeartbeats 2000000 in
theorem rsum_calls (v : Value) (l : List UInt8) (W : World) (hv : Bs W v l) (hl : l.length ≤ 140737490000000) :
    Calls Tryd.prog 60 #[v] W fun e w' => e = .returned (.agg (u8s (sha l)).toArray) ∧ Below W.heap.size W w' := by
  obtain ⟨A, c, rfl, h1, h2, h3⟩ := hv.form
  have b0 := below_alloc1 W (.cells (u8s (List.replicate 32 0)).toArray 62)
  have z0 : (W.alloc (.cells (u8s (List.replicate 32 0)).toArray 62)).heap.size = W.heap.size + 1 := by simp
  have H0 := Lib.hid (And.intro (Arr.new W (u8s (List.replicate 32 0)) 62) (And.intro b0 (hv.below b0)))
  have HD := Lib.hid (sha_length l)
  have KE := Lib.hid (fun w (hb : Bs w (.slice A l.length c) l) => rend_calls beginS beginS_rng (.slice A l.length c) l l.length hl (Nat.le_refl _) w hb)
  rw [show wordsOf (over beginS (l ++ pad l.length)) = sha l by unfold sha; rfl, beginS_l] at KE
  clear b0 z0 hv
  go_enter Tryd.func60, Tryd.ntmps60
  go_wp2_with (first
    | (go_at_call 65; refine (rbegin_calls _).mono ?_; rintro e w1 ⟨rfl, hB1⟩; have HB1 := Lib.hid (And.intro (H0.out.1.below hB1) (And.intro (H0.out.2.1.trans (hB1.mono H0.out.2.1.size)) (H0.out.2.2.below hB1))); clear hB1)
    | (go_at_call 64; refine (KE.out _ HB1.out.2.2).mono ?_; rintro e w2 ⟨rfl, hB2⟩; have HB2 := Lib.hid (And.intro (HB1.out.1.below hB2) (HB1.out.2.1.trans (hB2.mono HB1.out.2.1.size))); clear hB2; have HST := Lib.hid (HB2.out.1.store (P := Tryd.prog) (ty := 62) (u8s (sha l)) (by rw [u8s_length, HD.out]; rfl) info_32b (u8s_one _)); have HR := Lib.hid (And.intro (below_setCells HB2.out.2 W.heap.size 0 (Nat.le_refl _) (u8s (sha l))) (HB2.out.1.put (u8s (sha l)) (by rw [u8s_length, HD.out]; rfl))))
    | (refine wpList_store_run rfl 62 _ _ rfl _ _ rfl rfl _ HST.out ?_; simp only [Act.put]))
  refine bodyPost_ret (results_arr Tryd.results60 _ HR.out.2 rfl Tryd.underlying62 rfl (by rw [u8s_length, HD.out]; exact info_32b)) rfl ⟨rfl, HR.out.1⟩
set_option maxHeartbeats 2000000 in
theorem rleaf_calls (v : Value) (l : List UInt8) (W : World) (hv : Bs W v l) (hl : l.length ≤ 140737480000000) :
    Calls Tryd.prog 49 #[v] W fun e w' => e = .returned (.agg (u8s (sha (0 :: l))).toArray) ∧ Below W.heap.size W w' := by
  have b0 := below_alloc1 W (.cells (u8s (List.replicate 32 0)).toArray 63)
  have z0 : (W.alloc (.cells (u8s (List.replicate 32 0)).toArray 63)).heap.size = W.heap.size + 1 := by simp
  have a0 := Arr.new W (u8s (List.replicate 32 0)) 63
  have c1 := below_alloc1 (W.alloc (.cells (u8s (List.replicate 32 0)).toArray 63)) (.cells (u8s [0]).toArray 5)
  have ho := OwnB.fresh (W.alloc (.cells (u8s (List.replicate 32 0)).toArray 63)) [0] [] 1 1 rfl rfl (by unfold maxLen; omega)
  rw [z0] at ho
  have H0 := Lib.hid (And.intro (a0.below c1) (And.intro (b0.alloc (by rw [z0]; omega) (.cells (u8s [0]).toArray 5)) (And.intro ho ((hv.below b0).below c1))))
  have HZ : W.heap.size + 1 ≤ ((W.alloc (.cells (u8s (List.replicate 32 0)).toArray 63)).alloc (.cells (u8s [0]).toArray 5)).heap.size := by simp
  have HZ := Lib.hid HZ
  have HD := Lib.hid (sha_length (0 :: l))
  have hnb : (Value.slice (some ⟨W.heap.size + 1, 0, none⟩) 1 1).ownBlock ≠ some W.heap.size := fun e => by have e2 : W.heap.size + 1 = W.heap.size := Option.some.inj e; omega
  clear a0 b0 z0 hv c1 ho
  have tok1 : True := trivial
  go_enter Tryd.func49, Tryd.ntmps49
  go_wp2_with (first
    | (at_builtin; have _t := tok1; (refine app_u8 rfl _ _ rfl (W.heap.size + 1) _ rfl [0] H0.out.2.2.1 _ rfl l H0.out.2.2.2 ?_ ?_ ?_); (· simp; omega); (· exact HZ.out); clear tok1; intro v4 w4 ho4 hg4 _; have HB4 := Lib.hid (And.intro (H0.out.1.grown (by simp [u8s]) hg4 hnb) (And.intro (below_grown H0.out.2.1 hg4 (H0.out.2.2.1.lower (by omega)) H0.out.2.1.size) ho4.bs)); clear ho4 hg4)
    | (go_at_call 60; refine (rsum_calls _ (0 :: l) _ HB4.out.2.2 (by simp; omega)).mono ?_; rintro e w2 ⟨rfl, hB2⟩; have HB2 := Lib.hid (And.intro (HB4.out.1.below hB2) (HB4.out.2.1.trans (hB2.mono HB4.out.2.1.size))); clear hB2; have HST := Lib.hid (HB2.out.1.store (P := Tryd.prog) (ty := 63) (u8s (sha (0 :: l))) (by rw [u8s_length, HD.out]; rfl) info_dig (u8s_one _)); have HR := Lib.hid (And.intro (below_setCells HB2.out.2 W.heap.size 0 (Nat.le_refl _) (u8s (sha (0 :: l)))) (HB2.out.1.put (u8s (sha (0 :: l))) (by rw [u8s_length, HD.out]; rfl))))
    | (refine wpList_store_run rfl 63 _ _ rfl _ _ rfl rfl _ HST.out ?_; simp only [Act.put]))
  refine bodyPost_ret (results_arr Tryd.results49 _ HR.out.2 rfl Tryd.underlying63 rfl (by rw [u8s_length, HD.out]; exact info_dig)) rfl ⟨rfl, HR.out.1⟩
end Go.Proofs.YthgjecofmnomfaaDoor
