/- WALK of coppicelaw14.filled. No statement of the seed is proved here. -/
import Derived.Test.YtjllkmkngjdjjaaDoorShfD
import Derived.Test.YtjllkmkngjdjjaaDoorShfP
import Derived.Test.YtjllkmkngjdjjaaDoorDsA
import Derived.Test.YtjllkmkngjdjjaaDoorWhole
namespace Go.Proofs.YtjllkmkngjdjjaaDoor
open Go.RowKit Go.Shelf
attribute [local go_sem] Oper.semAt_some
set_option maxRecDepth 100000
/-- A put behind a filled level. -/
theorem fput_calls (x : DT) (s : DSt) (sec : Nat) (L : List (List UInt8)) (W : World) (B : Nat) (hx : x.At s W B) (hB : B ≤ W.heap.size) (hT : TabW W) (h : Nat) (h1 : 1 ≤ h) (h8 : h ≤ 8) (H : Filled s sec h L) (hL : L.length ≤ 10000000) (b : List UInt8) (hb : b.length = 32) :
    Calls Tryd.prog 8 #[.pointer (some ⟨x.p, 0, none⟩), .int .i64 (h : Int), .int .i64 0, .int .i64 (L.length : Int), .agg (u8s b).toArray] W fun e w' => e = .returned (.int .i64 0) ∧ ∃ y : DT, y.At (sPut s (tname h 0 (L.length / 2 ^ h)) b) w' B ∧ DStep x W y w' := by
  have hp : 0 < 2 ^ h := Nat.two_pow_pos h
  obtain ⟨xs, x1, x2, -⟩ := H.files h1 h8 (by omega) _ 0 (Nat.le_refl _)
  have hc : cntS xs = (L.length, 0) := by
    unfold cntS
    rw [x2 0]
    simp
  have h0 := Filled.tile (L := L) h1 h8 (by omega) 0 (by omega)
  have hv := Filled.tile (L := L) h1 h8 (by omega) (L.length / 2 ^ h) (Nat.div_mul_le_self _ _)
  have hnv : nodeV (((0 : Nat) : Int) * (h : Int)) (L.length : Nat) = true := by
    unfold nodeV
    rw [decide_eq_true_iff]
    simp
    omega
  have hr := H.raws
  unfold sPut
  cases hl : s.fs (tname h 0 (L.length / 2 ^ h)) with
  | some l =>
    have := H.few _ _ hl
    exact sput_more x s W B hx hB hT h 0 L.length h1 h8 H.Few xs x1 hc h0 hv hnv b hb l hl (by omega) (by omega)
  | none => exact sput_new x s W B hx hB hT h 0 L.length h1 h8 H.Few xs x1 hc h0 hv hnv b hb hl (by omega)
set_option maxHeartbeats 2000000 in
theorem filled_calls (sec h : Nat) (h1 : 1 ≤ h) (h8 : h ≤ 8) (hs : sec < 64) (v : Value) (L : List (List UInt8)) (W : World) (hT : TabW W) (hv : Ds W v L) (hL : L.length ≤ 10000000) :
    Calls Tryd.prog 6 #[.int .i64 (sec : Int), .int .i64 (h : Int), .int .i64 0, v] W fun e w' => ∃ (x : DT) (s : DSt), e = .returned (.pointer (some ⟨x.p, 0, none⟩)) ∧ x.At s w' W.heap.size ∧ Filled s (1 + sec) h L ∧ Below W.heap.size W w' := by
  have K := Lib.hid (dnew_calls (1 + sec) (by omega) (by omega) W)
  rw [show ((1 + sec : Nat) : Int) = 1 + (sec : Int) % 64 by omega] at K
  obtain ⟨A, c, rfl, l1, l2⟩ := hv.form
  go_enter Tryd.func6, Tryd.ntmps6
  go_wp2_with (first | (go_at_call 14; refine K.out.mono ?_; rintro e w1 ⟨x, rfl, hx, hB1⟩))
  have HV := Lib.hid hv; clear hv
  clear K
  go_loopw [11] (fun i wr => ∃ (j : Nat) (y : DT) (s : DSt), j ≤ L.length ∧ i = .int .i64 (j : Int) ∧ y.p = x.p ∧ y.At s wr W.heap.size ∧ Filled s (1 + sec) h (L.take j) ∧ Below W.heap.size W wr) (fun i _ => L.length - (intOf i).toNat)
  case atStart => exact ⟨0, x, _, Nat.zero_le _, rfl, rfl, hx, by rw [List.take_zero]; exact Filled.empty _ _, hB1⟩
  case round =>
    obtain ⟨j, y, s, hj, rfl, hyp, hy, hF, hb⟩ := hrel
    by_cases hlt : j < L.length
    · have hlen : (L.take j).length = j := by rw [List.length_take]; omega
      have hvr := HV.out.below hb
      obtain ⟨g, o, rfl, hrg⟩ := hvr.at_ j hlt
      have h32 := hvr.wid j hlt
      have HL := Lib.hid (load_digest h32 hrg)
      have hidx : ∀ w : World, (Instr.indexAt 22 (.slice (some ⟨g, o, none⟩) L.length c) (.int .i64 (j : Int))).run Tryd.prog w = .ok (.pointer (some ⟨g, o + j * 32, none⟩)) w := fun w => by
        have hel : Tryd.prog.elem 22 = 24 := by simp [Program.elem, Tryd.underlying22]
        have e1 := run_indexAt_slice (P := Tryd.prog) (w := w) 22 ⟨g, o, none⟩ L.length c .i64 (j : Int) (by rw [hel]; exact Tryd.underlying22)
        rw [if_pos ⟨by omega, by omega⟩, hel] at e1
        have hsz : (Tryd.prog.info? 24).map (·.size) = some 32 := by kernel_rfl
        obtain ⟨i0, hi0, hz⟩ := Option.map_eq_some_iff.1 hsz
        rw [e1]
        simp [sizeOf, typeInfo, hi0, hz, Result.andThen, Addr.add_mid]
      have KP := fput_calls y s (1 + sec) (L.take j) wr W.heap.size hy hb.size (tab_below hT hb) h h1 h8 hF (by omega) L[j] h32
      have hput := hF.put h8 (by omega) L[j] h32
      rw [hlen] at KP hput
      have htk : L.take j ++ [L[j]] = L.take (j + 1) := (List.take_succ_eq_append_getElem hlt).symm
      rw [htk] at hput
      generalize sPut s (tname h 0 (j / 2 ^ h)) L[j] = s' at *
      generalize L[j] = d at *
      rw [hyp] at KP
      have KP := Lib.hid KP
      have HY := Lib.hid hy
      have HP := Lib.hid hput
      clear hy hF hput hvr hrg
      have hwj : wrap64 ((j : Int) + 1) = ((j + 1 : Nat) : Int) := by unfold wrap64; omega
      go_wp2_with (first
        | (refine wpList_load_run rfl 24 _ rfl _ _ rfl HL.out ?_; simp only [Act.put, List.setIfInBounds_toArray, List.set_cons_zero, List.set_cons_succ])
        | (go_at_call 8; refine KP.out.mono ?_; rintro e w3 ⟨rfl, y2, hy2, hst⟩))
      go_roundw
      case rel => exact ⟨j + 1, y2, s', by omega, rfl, hst.p.trans hyp, hy2, HP.out, hst.below HY.out hb hb.size⟩
      case measure => simp [intOf]; omega
    · have e : j = L.length := by omega
      subst e
      rw [List.take_length] at hF
      go_wp2
      go_ret
      exact ⟨y, s, by rw [hyp]; rfl, hy, hF, hb⟩
end Go.Proofs.YtjllkmkngjdjjaaDoor
