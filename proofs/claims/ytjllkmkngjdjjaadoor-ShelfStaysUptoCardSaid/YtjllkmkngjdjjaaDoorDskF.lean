/- WALKS of package disk: Size, Read, Writes, Raw. No statement of the seed is proved here. -/
import Derived.Test.YtjllkmkngjdjjaaDoorDskE
namespace Go.Proofs.YtjllkmkngjdjjaaDoor
open Go.RowKit
set_option maxRecDepth 100000
theorem dsize_calls (x : DT) (s : DSt) (n : ByteArray) (W : World) (B : Nat) (hx : x.At s W B) :
    Calls Tryd.prog 19 #[.pointer (some ⟨x.p, 0, none⟩), .string n] W fun e w' => e = .returned (.tuple #[.int .i64 (if dWrong s n true = 0 then (((s.fs n).getD []).length : Int) else 0), .int .i64 (dWrong s n true)]) ∧ W = w' := by
  have K := Lib.hid (dwrong_calls x s W B hx n true)
  by_cases h0 : dWrong s n true = 0
  · rw [if_pos h0]
    rw [h0] at K ⊢
    obtain ⟨l, hn⟩ := wrong_there h0
    have hnm := (wrong_name h0).2.2
    obtain ⟨vf, hvf, hof⟩ := hx.vals.at_ hn
    obtain ⟨Af, cf, evf, f1, f2, f3⟩ := hof.form
    subst evf
    have hlk := hx.map.look under_files (zero_bs W) n (by unfold maxLen; omega)
    rw [hvf] at hlk
    simp only [Option.getD_some] at hlk
    have c1 := hx.c1
    rw [hn]
    simp only [Option.getD_some]
    clear hx h0 hn hvf hof
    go_enter Tryd.func19, Tryd.ntmps19
    go_wp2_with (first | (go_at_call 31; refine K.out.mono ?_; rintro e w1 ⟨rfl, rfl⟩))
    go_ret2
    exact ⟨rfl, rfl⟩
  · rw [if_neg h0]
    have hne2 : (dWrong s n true != 0) = true := by simpa using h0
    generalize dWrong s n true = c at *
    go_enter Tryd.func19, Tryd.ntmps19
    go_wp2_with (first | (go_at_call 31; refine K.out.mono ?_; rintro e w1 ⟨rfl, rfl⟩))
    go_ret2
    exact ⟨rfl, rfl⟩
theorem dwrites_calls (x : DT) (s : DSt) (W : World) (B : Nat) (hx : x.At s W B) : Calls Tryd.prog 7 #[.pointer (some ⟨x.p, 0, none⟩)] W fun e w' => e = .returned (.int .i64 (s.raws.length : Int)) ∧ W = w' := by
  have K := Lib.hid (dnone_calls x s W B hx)
  have c2 := hx.c2
  obtain ⟨Ar, cr, er, r1, r2, r3⟩ := owns_form hx.raws.row
  rw [er] at c2
  clear hx er
  go_enter Tryd.func7, Tryd.ntmps7
  go_wp2_with (first | (go_at_call 15; refine K.out.mono ?_; rintro e w1 ⟨rfl, rfl⟩))
  go_ret
  exact ⟨rfl, rfl⟩
theorem Bs.subX {w : World} {A : Option Addr} {len c : Nat} {l : List UInt8} (h : Bs w (.slice A len c) l) (i n : Nat) (hi : i + n ≤ l.length) :
    Bs w (.slice (if c = i then A else A.map (fun x => x.add i)) n (c - i)) ((l.drop i).take n) := by
  obtain ⟨A0, c0, e, h1, h2, h0, h3⟩ := h
  cases e
  have hlen : ((l.drop i).take n).length = n := by simp; omega
  refine ⟨_, _, by rw [hlen], by rw [hlen]; omega, by omega, ?_, ?_⟩
  · intro hA
    cases A with
    | none => have := h0 rfl; omega
    | some ad => split at hA <;> cases hA
  · intro j u hj
    have hjn : j < n := by
      have := (List.getElem?_eq_some_iff.1 hj).1
      rw [u8s_length, hlen] at this
      exact this
    have hju : (u8s l)[i + j]? = some u := by
      rw [← hj]
      simp only [u8s, List.getElem?_map]
      rw [List.getElem?_take, if_pos hjn, List.getElem?_drop]
    obtain ⟨ad, hA, hc⟩ := h3 (i + j) u hju
    subst hA
    rw [if_neg (by omega)]
    exact ⟨ad.add i, rfl, by rw [add_add]; exact hc⟩
/-- What is read: at most k bytes from a place on. -/
def cutB (l : List UInt8) (at_ k : Nat) : List UInt8 := (l.drop at_).take (min k (l.length - at_))
set_option maxHeartbeats 1000000 in
theorem dread_ok (x : DT) (s : DSt) (n : ByteArray) (l : List UInt8) (at_ k : Nat) (W : World) (B : Nat) (hx : x.At s W B) (h0 : dWrong s n true = 0) (hn : s.fs n = some l) (ha : at_ ≤ l.length) (hk : k ≤ 4000000000000000000) (hl : l.length ≤ 100000000000000) :
    Calls Tryd.prog 38 #[.pointer (some ⟨x.p, 0, none⟩), .string n, .int .i64 (at_ : Int), .int .i64 (k : Int)] W fun e w' => ∃ v, e = .returned (.tuple #[v, .int .i64 0]) ∧ OwnB w' W.heap.size v (cutB l at_ k) ∧ Below W.heap.size W w' := by
  have K := Lib.hid (dwrong_calls x s W B hx n true)
  rw [h0] at K
  have hnm := (wrong_name h0).2.2
  obtain ⟨vf, hvf, hof⟩ := hx.vals.at_ hn
  obtain ⟨Af, cf, evf, f1, f2, f3⟩ := hof.form
  subst evf
  have hlk := hx.map.look under_files (zero_bs W) n (by unfold maxLen; omega)
  rw [hvf] at hlk
  simp only [Option.getD_some] at hlk
  have c1 := hx.c1
  have hs2 := hof.bs.subX at_ (min k (l.length - at_)) (by omega)
  have hM : ((at_ : Int) + if (l.length : Int) - (at_ : Int) < (k : Int) then (l.length : Int) - (at_ : Int) else (k : Int)).toNat - at_ = min k (l.length - at_) := by
    by_cases hh : (l.length : Int) - (at_ : Int) < (k : Int)
    · rw [if_pos hh]; omega
    · rw [if_neg hh]; omega
  have g1 : decide ((at_ : Int) < 0) = false := by rw [decide_eq_false_iff_not]; omega
  have g2 : decide ((l.length : Int) < (at_ : Int)) = false := by rw [decide_eq_false_iff_not]; omega
  have g3 : decide ((k : Int) < 0) = false := by rw [decide_eq_false_iff_not]; omega
  have g4 : wrap64 ((l.length : Int) - (at_ : Int)) = (((l.length - at_ : Nat)) : Int) := by unfold wrap64; omega
  by_cases hc : cf = at_
  · rw [if_pos hc, hc, Nat.sub_self] at hs2
    have KC := Lib.hid (bclone_calls _ _ W hs2 (by simp; omega))
    clear hx hn hvf hof hs2 h0
    go_enter Tryd.func38, Tryd.ntmps38
    go_wp2_with (first
      | (go_at_call 31; refine K.out.mono ?_; rintro e w1 ⟨rfl, rfl⟩)
      | (go_at_call 24; refine KC.out.mono ?_; rintro e w2 ⟨v2, rfl, ho2, hB2⟩))
    all_goals go_ret2
    all_goals exact ⟨_, rfl, ho2, hB2⟩
  · rw [if_neg hc] at hs2
    have KC := Lib.hid (bclone_calls _ _ W hs2 (by simp; omega))
    clear hx hn hvf hof hs2 h0
    go_enter Tryd.func38, Tryd.ntmps38
    go_wp2_with (first
      | (go_at_call 31; refine K.out.mono ?_; rintro e w1 ⟨rfl, rfl⟩)
      | (go_at_call 24; refine KC.out.mono ?_; rintro e w2 ⟨v2, rfl, ho2, hB2⟩))
    all_goals go_ret2
    all_goals exact ⟨_, rfl, ho2, hB2⟩
theorem dread_bad (x : DT) (s : DSt) (n : ByteArray) (at_ k : Int) (W : World) (B : Nat) (hx : x.At s W B) (h0 : dWrong s n true ≠ 0) :
    Calls Tryd.prog 38 #[.pointer (some ⟨x.p, 0, none⟩), .string n, .int .i64 at_, .int .i64 k] W fun e w' => e = .returned (.tuple #[.slice none 0 0, .int .i64 (dWrong s n true)]) ∧ W = w' := by
  have K := Lib.hid (dwrong_calls x s W B hx n true)
  have hne2 : (dWrong s n true != 0) = true := by simpa using h0
  generalize dWrong s n true = c at *
  go_enter Tryd.func38, Tryd.ntmps38
  go_wp2_with (first | (go_at_call 31; refine K.out.mono ?_; rintro e w1 ⟨rfl, rfl⟩))
  go_ret2
  exact ⟨rfl, rfl⟩
end Go.Proofs.YtjllkmkngjdjjaaDoor
