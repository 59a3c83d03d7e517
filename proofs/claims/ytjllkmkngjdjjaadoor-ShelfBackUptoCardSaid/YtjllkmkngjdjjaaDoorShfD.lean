/- WALK of shelf.Put. No statement of the seed is proved here. -/
import Derived.Test.YtjllkmkngjdjjaaDoorShfC
namespace Go.Proofs.YtjllkmkngjdjjaaDoor
open Go.RowKit Go.Shelf
attribute [local go_sem] Oper.semAt_some
set_option maxRecDepth 100000
set_option maxHeartbeats 2000000 in
theorem sput_more (x : DT) (s : DSt) (W : World) (B : Nat) (hx : x.At s W B) (hB : B ≤ W.heap.size) (hT : TabW W) (h lv n : Nat) (h1 : 1 ≤ h) (h8 : h ≤ 8) (hfew : Few s) (xs : List (Nat × List UInt8)) (hF : Files s h lv 0 xs) (hn : cntS xs = (n, 0)) (h0 : tileV h lv 0 (2 ^ h) = true) (hv : tileV h lv (n / 2 ^ h : Nat) (2 ^ h) = true) (hnv : nodeV (lv * h) n = true)
    (b : List UInt8) (hb : b.length = 32) (l : List UInt8) (hl : s.fs (tname h lv (n / 2 ^ h)) = some l) (hl2 : l.length + 32 ≤ 100000000000000) (hr : s.raws.length + 32 ≤ 1000000000) :
    Calls Tryd.prog 8 #[.pointer (some ⟨x.p, 0, none⟩), .int .i64 (h : Int), .int .i64 (lv : Int), .int .i64 (n : Int), .agg (u8s b).toArray] W fun e w' => e = .returned (.int .i64 0) ∧ ∃ y : DT, y.At (s.runs (appR s (tname h lv (n / 2 ^ h)) b)) w' B ∧ DStep x W y w' := by
  have hbW := below_alloc1 W (.cells (u8s b).toArray 24)
  have hz1 : (W.alloc (.cells (u8s b).toArray 24)).heap.size = W.heap.size + 1 := by simp
  have hvs : ∀ w, Below (W.alloc (.cells (u8s b).toArray 24)).heap.size (W.alloc (.cells (u8s b).toArray 24)) w → Bs w (.slice (some ⟨W.heap.size, 0, none⟩) 32 32) b := fun w hw => by
    refine Bs.below ⟨_, _, by rw [hb], by rw [hb]; exact Nat.le_refl _, by unfold maxLen; omega, fun e => (by cases e), fun j u hu => ⟨_, rfl, ?_⟩⟩ hw
    have := cell_of_row (W.alloc (.cells (u8s b).toArray 24)) W.heap.size j _ _ (0, 0) (heap_alloc_new W _)
    rw [Addr.add_lit, Nat.zero_add, this]
    simpa using hu
  have hwl : wrap64 ((lv : Int) * (h : Int)) = (lv : Int) * (h : Int) := by
    have e : 0 ≤ (lv : Int) * (h : Int) ∧ (lv : Int) * (h : Int) ≤ 48 := by
      unfold tileV at h0
      rw [decide_eq_true_iff] at h0
      exact ⟨by rw [← Int.natCast_mul]; omega, h0.2.2.2.1⟩
    generalize (lv : Int) * (h : Int) = z at *
    unfold wrap64
    omega
  have KW := Lib.hid (swrong_ok x s _ B (hx.below hbW) h lv h1 h8 h0 (by have := hx.sec; omega))
  have KN := Lib.hid (fun w => node_valid (lv * h) n w)
  rw [hnv] at KN
  have KC := Lib.hid (fun w (hw : Below W.heap.size W w) => scount_calls x s w B (hx.below hw) (tab_below hT hw) h lv h1 h8 hfew xs hF)
  rw [hn] at KC
  have KM := Lib.hid (fun w (hw : Below W.heap.size W w) => sname h lv (n / 2 ^ h : Nat) w (tab_below hT hw))
  rw [nameV_ok h1 h8 hv] at KM
  have hd : dWrong s (tname h lv (n / 2 ^ h)) true = 0 := by
    unfold dWrong
    rw [name_fits hv, hl]
    rfl
  have KS := Lib.hid (fun w (hw : Below W.heap.size W w) => dsize_calls x s (tname h lv (n / 2 ^ h)) w B (hx.below hw))
  rw [hd, if_pos rfl] at KS
  have KA := Lib.hid (fun w (hw : Below (W.alloc (.cells (u8s b).toArray 24)).heap.size (W.alloc (.cells (u8s b).toArray 24)) w) => dappend_calls x s (tname h lv (n / 2 ^ h)) (.slice (some ⟨W.heap.size, 0, none⟩) 32 32) b w B (hx.below (below_then hbW hw)) (by have := hw.size; omega) (hvs w hw) (fun k hk hm => by cases hk; exact absurd (hx.lt (.inl hm)) (Nat.lt_irrefl _)) (fun l' hl' => by rw [hl] at hl'; cases hl'; omega) (by omega))
  unfold dAppend at KA
  rw [hd, if_pos rfl] at KA
  generalize hnm : tname h lv (n / 2 ^ h) = nm at *
  unfold tname at hnm
  rw [hnm, show ((n / 2 ^ h : Nat) : Int) = (n : Int) / 2 ^ h by push_cast; rfl] at KM
  have HX := Lib.hid hx
  clear hx hT hvs
  go_enter Tryd.func8, Tryd.ntmps8
  go_wp2_with (first
    | (go_at_call 16; refine KW.out.mono ?_; rintro e w1 ⟨rfl, hB1⟩)
    | (go_at_call 17; refine (KN.out _).mono ?_; rintro e w2 ⟨rfl, hB2⟩)
    | (go_at_call 18; have hb2 := below_then hB1 hB2; refine (KC.out _ (below_then hbW hb2)).mono ?_; rintro e w3 ⟨rfl, hB3⟩)
    | (go_at_call 9; have hb3 := below_then hb2 hB3; refine (KM.out _ (below_then hbW hb3)).mono ?_; rintro e w4 ⟨rfl, hB4⟩; have hb4 := below_then hb3 hB4)
    | (go_at_call 19; refine (KS.out _ (below_then hbW hb4)).mono ?_; rintro e w5 ⟨rfl, rfl⟩)
    | (go_at_call 21; refine (KA.out _ hb4).mono ?_; rintro e w6 ⟨rfl, y, hy, hst⟩))
  go_ret
  exact ⟨rfl, y, hy, hst.since (below_then hbW hb4)⟩
set_option maxHeartbeats 2000000 in
theorem sput_new (x : DT) (s : DSt) (W : World) (B : Nat) (hx : x.At s W B) (hB : B ≤ W.heap.size) (hT : TabW W) (h lv n : Nat) (h1 : 1 ≤ h) (h8 : h ≤ 8) (hfew : Few s) (xs : List (Nat × List UInt8)) (hF : Files s h lv 0 xs) (hn : cntS xs = (n, 0)) (h0 : tileV h lv 0 (2 ^ h) = true) (hv : tileV h lv (n / 2 ^ h : Nat) (2 ^ h) = true) (hnv : nodeV (lv * h) n = true)
    (b : List UInt8) (hb : b.length = 32) (hl : s.fs (tname h lv (n / 2 ^ h)) = none) (hr : s.raws.length + 33 ≤ 1000000000) :
    Calls Tryd.prog 8 #[.pointer (some ⟨x.p, 0, none⟩), .int .i64 (h : Int), .int .i64 (lv : Int), .int .i64 (n : Int), .agg (u8s b).toArray] W fun e w' => e = .returned (.int .i64 0) ∧ ∃ y : DT, y.At ((s.run (rCreate (tname h lv (n / 2 ^ h)))).runs (appR (s.run (rCreate (tname h lv (n / 2 ^ h)))) (tname h lv (n / 2 ^ h)) b)) w' B ∧ DStep x W y w' := by
  have hbW := below_alloc1 W (.cells (u8s b).toArray 24)
  have hz1 : (W.alloc (.cells (u8s b).toArray 24)).heap.size = W.heap.size + 1 := by simp
  have hvs : ∀ w, Below (W.alloc (.cells (u8s b).toArray 24)).heap.size (W.alloc (.cells (u8s b).toArray 24)) w → Bs w (.slice (some ⟨W.heap.size, 0, none⟩) 32 32) b := fun w hw => by
    refine Bs.below ⟨_, _, by rw [hb], by rw [hb]; exact Nat.le_refl _, by unfold maxLen; omega, fun e => (by cases e), fun j u hu => ⟨_, rfl, ?_⟩⟩ hw
    have := cell_of_row (W.alloc (.cells (u8s b).toArray 24)) W.heap.size j _ _ (0, 0) (heap_alloc_new W _)
    rw [Addr.add_lit, Nat.zero_add, this]
    simpa using hu
  have hwl : wrap64 ((lv : Int) * (h : Int)) = (lv : Int) * (h : Int) := by
    have e : 0 ≤ (lv : Int) * (h : Int) ∧ (lv : Int) * (h : Int) ≤ 48 := by
      unfold tileV at h0
      rw [decide_eq_true_iff] at h0
      exact ⟨by rw [← Int.natCast_mul]; omega, h0.2.2.2.1⟩
    generalize (lv : Int) * (h : Int) = z at *
    unfold wrap64
    omega
  have KW := Lib.hid (swrong_ok x s _ B (hx.below hbW) h lv h1 h8 h0 (by have := hx.sec; omega))
  have KN := Lib.hid (fun w => node_valid (lv * h) n w)
  rw [hnv] at KN
  have KC := Lib.hid (fun w (hw : Below W.heap.size W w) => scount_calls x s w B (hx.below hw) (tab_below hT hw) h lv h1 h8 hfew xs hF)
  rw [hn] at KC
  have KM := Lib.hid (fun w (hw : Below W.heap.size W w) => sname h lv (n / 2 ^ h : Nat) w (tab_below hT hw))
  rw [nameV_ok h1 h8 hv] at KM
  have hd : dWrong s (tname h lv (n / 2 ^ h)) true = 121 := by
    unfold dWrong
    rw [name_fits hv, hl]
    rfl
  have KS := Lib.hid (fun w (hw : Below W.heap.size W w) => dsize_calls x s (tname h lv (n / 2 ^ h)) w B (hx.below hw))
  rw [hd, if_neg (by decide)] at KS
  have hdc : dWrong s (tname h lv (n / 2 ^ h)) false = 0 := by
    unfold dWrong
    rw [name_fits hv, hl]
    rfl
  have KR := Lib.hid (fun w (hw : Below W.heap.size W w) => dcreate_calls x s (tname h lv (n / 2 ^ h)) w B (hx.below hw) (by have := hw.size; omega) (by omega))
  unfold dCreate at KR
  rw [hdc, if_pos rfl] at KR
  have hl1 : (s.run (rCreate (tname h lv (n / 2 ^ h)))).fs (tname h lv (n / 2 ^ h)) = some [] := by rw [run_create, upd_same]
  have hd1 : dWrong (s.run (rCreate (tname h lv (n / 2 ^ h)))) (tname h lv (n / 2 ^ h)) true = 0 := by
    unfold dWrong
    rw [name_fits hv, hl1]
    rfl
  have KA := Lib.hid (fun (y : DT) w (hw : Below (W.alloc (.cells (u8s b).toArray 24)).heap.size (W.alloc (.cells (u8s b).toArray 24)) w) w6 (hy : y.At (s.run (rCreate (tname h lv (n / 2 ^ h)))) w6 B) (hst : DStep x w y w6) => dappend_calls y (s.run (rCreate (tname h lv (n / 2 ^ h)))) (tname h lv (n / 2 ^ h)) (.slice (some ⟨W.heap.size, 0, none⟩) 32 32) b w6 B hy (by have := hw.size; have := hst.size; omega)
    (by
      refine row_mods (hvs w hw) fun k hk => ?_
      cases hk
      exact hst.block _ (by have := hw.size; show W.heap.size < _; omega) (fun hm => absurd (hx.lt (.inl hm)) (Nat.lt_irrefl _)))
    (fun k hk hm => by
      cases hk
      rcases hst.has _ hm with h2 | h2
      · exact absurd (hx.lt (.inl h2)) (Nat.lt_irrefl _)
      · have h3 : w.heap.size ≤ W.heap.size := h2
        have := hw.size
        omega) (fun l' hl' => by rw [hl1] at hl'; cases hl'; simp; omega) (by simp [DSt.run]; omega))
  unfold dAppend at KA
  rw [hd1, if_pos rfl] at KA
  generalize hnm : tname h lv (n / 2 ^ h) = nm at *
  unfold tname at hnm
  rw [hnm, show ((n / 2 ^ h : Nat) : Int) = (n : Int) / 2 ^ h by push_cast; rfl] at KM
  have HX := Lib.hid hx
  clear hx hT hvs
  go_enter Tryd.func8, Tryd.ntmps8
  go_wp2_with (first
    | (go_at_call 16; refine KW.out.mono ?_; rintro e w1 ⟨rfl, hB1⟩)
    | (go_at_call 17; refine (KN.out _).mono ?_; rintro e w2 ⟨rfl, hB2⟩)
    | (go_at_call 18; have hb2 := below_then hB1 hB2; refine (KC.out _ (below_then hbW hb2)).mono ?_; rintro e w3 ⟨rfl, hB3⟩)
    | (go_at_call 9; have hb3 := below_then hb2 hB3; refine (KM.out _ (below_then hbW hb3)).mono ?_; rintro e w4 ⟨rfl, hB4⟩; have hb4 := below_then hb3 hB4)
    | (go_at_call 19; refine (KS.out _ (below_then hbW hb4)).mono ?_; rintro e w5 ⟨rfl, rfl⟩)
    | (go_at_call 20; refine (KR.out _ (below_then hbW hb4)).mono ?_; rintro e w6 ⟨rfl, y1, hy1, hst1⟩)
    | (go_at_call 21; rw [← hst1.p]; refine (KA.out y1 _ hb4 w6 hy1 hst1).mono ?_; rintro e w7 ⟨rfl, y, hy, hst⟩))
  go_ret
  exact ⟨rfl, y, hy, DStep.trans (hst1.since (below_then hbW hb4)) hst⟩
end Go.Proofs.YtjllkmkngjdjjaaDoor
