/- WALK of the law FrameTurned. No statement of the seed is proved here. -/
import Derived.Test.YthgjecofmnomfaaDoorFrameTM
namespace Go.Proofs.YthgjecofmnomfaaDoor
open Go.RowKit
set_option maxRecDepth 100000

theorem turned_place (p : Int) (n : Nat) (hn : n ≤ 1048576) : ∃ k : Nat, wrap64 (4 + (wrap64 (p.tmod (8 + (n : Int) - 4) + (8 + (n : Int) - 4))).tmod (8 + (n : Int) - 4)) = (k : Int) ∧ 4 ≤ k ∧ k < 8 + n := by
  have e : 8 + (n : Int) - 4 = ((n + 4 : Nat) : Int) := by omega
  rw [e]
  have h1 := Int.tmod_lt_of_pos p (show (0 : Int) < ((n + 4 : Nat) : Int) by omega)
  have h2 : -((n + 4 : Nat) : Int) < p.tmod ((n + 4 : Nat) : Int) := by
    have := Int.lt_tmod_of_pos p (show (0 : Int) < ((n + 4 : Nat) : Int) by omega)
    exact this
  generalize p.tmod ((n + 4 : Nat) : Int) = q at h1 h2
  have hw : ∀ z : Int, -9223372036854775808 ≤ z ∧ z ≤ 9223372036854775807 → wrap64 z = z := fun z h => by unfold wrap64; omega
  rw [hw (q + ((n + 4 : Nat) : Int)) (by omega)]
  obtain ⟨m, hm⟩ := Int.eq_ofNat_of_zero_le (show 0 ≤ q + ((n + 4 : Nat) : Int) by omega)
  rw [hm]
  have h3 : ((m : Int).tmod ((n + 4 : Nat) : Int)) = ((m % (n + 4) : Nat) : Int) := by rw [Int.tmod_eq_emod_of_nonneg (by omega)]; rfl
  rw [h3]
  have h4 := Nat.mod_lt m (show 0 < n + 4 by omega)
  rw [hw _ (by omega)]
  exact ⟨4 + m % (n + 4), by omega, by omega, by omega⟩
set_option maxHeartbeats 2000000 in
theorem frameTurned_walk (v : Value) (d : List UInt8) (place : Int) (h0 : -9223372036854775808 ≤ place) (h1 : place ≤ 9223372036854775807) (by_ : UInt8) (w : World) (hT : LaidF w) (hd : Bs w v d) (hdl : d.length ≤ 140737488351232) :
    Calls Tryd.prog 7 #[v, .int .i64 place, .int .u8 (by_.toNat : Int)] w fun e w' => e = .returned (.bool true) ∧ Below w.heap.size w w' := by
  by_cases hbig : 1048576 < d.length
  · have K := Lib.hid (put_big (.slice Option.none 0 0) v d w hd hbig)
    obtain ⟨A, c, rfl, hlc, hc, hn⟩ := hd.form
    clear hd hT
    go_enter Tryd.func7, Tryd.ntmps7
    go_wp2_with (go_at_call 18; refine K.out.mono ?_; rintro e w' ⟨rfl, rfl⟩)
    go_ret
    exact ⟨by simp; omega, Below.refl _ _⟩
  · have K := Lib.hid (fput_calls (.slice Option.none 0 0) v [] d w hT (OwnB.nil w 0).bs hd (by omega) (by simp))
    have hT2 := fun {w1 : World} (hb : Below w.heap.size w w1) => hT.below hb
    obtain ⟨A, c, rfl, hlc, hc, hn⟩ := hd.form
    rw [List.nil_append] at K
    have hfl := fr_length d
    by_cases hz : by_ = 0
    · subst hz
      clear hd hT hT2
      generalize fr d = f at K hfl
      go_enter Tryd.func7, Tryd.ntmps7
      go_wp2_with (go_at_call 18; refine K.out.mono ?_; rintro e w' ⟨v', rfl, ho, hB⟩; obtain ⟨A', c', rfl, hl', hc', hn'⟩ := ho.form_n (8 + d.length) hfl)
      go_ret
      exact ⟨rfl, hB⟩
    · have hz2 : (by_.toNat : Int) ≠ 0 := by
        intro e
        apply hz
        apply UInt8.toNat_inj.1
        have : by_.toNat = 0 := by omega
        rw [this]; rfl
      clear hd hT
      obtain ⟨k, hk, hk4, hk8⟩ : ∃ k : Nat, wrap64 (4 + (wrap64 (place.tmod (8 + (d.length : Int) - 4) + (8 + (d.length : Int) - 4))).tmod (8 + (d.length : Int) - 4)) = (k : Int) ∧ 4 ≤ k ∧ k < 8 + d.length := turned_place place d.length (by omega)
      have hlt : k < (fr d).length := by omega
      have hfin := frRead_turned d (by omega) k ((fr d)[k] ^^^ by_) hk4 hlt (by
        intro e
        apply hz
        have e2 := congrArg UInt8.toNat e
        rw [UInt8.toNat_xor] at e2
        have e3 : (fr d)[k].toNat ^^^ by_.toNat = (fr d)[k].toNat ^^^ 0 := by rw [Nat.xor_zero]; exact e2
        exact UInt8.toNat_inj.1 (xor_cancel e3))
      have hxor : bits .xor .u8 ((((fr d)[k]).toNat : Nat) : Int) (by_.toNat : Int) = (((((fr d)[k]) ^^^ by_).toNat : Nat) : Int) := by
        rw [u8_xor_nat _ _ (UInt8.toNat_lt _) (UInt8.toNat_lt _)]
        simp
      generalize hy : (fr d)[k] ^^^ by_ = y at hfin hxor
      clear hy
      generalize hx : (fr d)[k] = x at hxor
      generalize fr d = f at *
      have hfl2 : (f.set k y).length ≤ 150000000000000 := by rw [List.length_set]; omega
      have HK := Lib.hid hfin; clear hfin
      have HL := Lib.hid hfl2; clear hfl2
      have HX := Lib.hid hx; clear hx
      have HF := Lib.hid hfl; clear hfl
      go_enter Tryd.func7, Tryd.ntmps7
      go_wp2_with (first
        | (go_at_call 18; refine K.out.mono ?_; rintro e w' ⟨v', rfl, ho, hB⟩; obtain ⟨A', c', rfl, hl', hc', hn'⟩ := ho.form_n (8 + d.length) HF.out; obtain ⟨g, rfl, hg1, hg2, -, hcl, hfz, hst⟩ := ho.block (by have := HF.out; omega); have hck := hcl k hlt; rw [HX.out] at hck; have hfk := hfz k; have hok := hst k y hlt; have hBs := hB.setCell (p := ⟨g, k, Option.none⟩) hg1 (.int .u8 (y.toNat : Int)); clear hcl hfz hst)
        | (go_at_call 14; refine (read_callsR HK.out _ _ (hT2 ?_) hok.bs HL.out).mono ?_; (· exact hBs); rintro e w3 ⟨v3, rfl, ho3, hB3⟩; obtain ⟨A3, c3, rfl, -, -, -⟩ := ho3.form_n 0 rfl))
      go_ret
      exact ⟨rfl, hBs.trans (hB3.mono hBs.size)⟩
end Go.Proofs.YthgjecofmnomfaaDoor
