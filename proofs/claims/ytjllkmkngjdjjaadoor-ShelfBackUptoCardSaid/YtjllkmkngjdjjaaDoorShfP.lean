/- THE PLAIN LAW of a filled level: its files, what a put does. No statement of the seed is proved here. -/
import Derived.Test.YtjllkmkngjdjjaaDoorShfC
namespace Go.Proofs.YtjllkmkngjdjjaaDoor
open Go.RowKit Go.Shelf
set_option maxRecDepth 100000
def fileL (L : List (List UInt8)) (h k : Nat) : List UInt8 := ((L.drop (k * 2 ^ h)).take (2 ^ h)).flatten
structure Filled (s : DSt) (sec h : Nat) (L : List (List UInt8)) : Prop where
  sec : s.sec = sec
  len : ∀ d ∈ L, d.length = 32
  fs : ∀ k, s.fs (tname h 0 k) = if k * 2 ^ h < L.length then some (fileL L h k) else none
  few : ∀ n l, s.fs n = some l → l.length ≤ 8192
  raws : s.raws.length ≤ 33 * L.length
theorem Filled.Few {s : DSt} {sec h : Nat} {L : List (List UInt8)} (H : Filled s sec h L) : Few s := fun n l e => by have := H.few n l e; omega
theorem flat_len {L : List (List UInt8)} (h : ∀ d ∈ L, d.length = 32) : L.flatten.length = 32 * L.length := by
  induction L with
  | nil => rfl
  | cons d L ih =>
    rw [List.flatten_cons, List.length_append, ih (fun x hx => h x (by simp [hx])), h d (by simp), List.length_cons]
    omega
theorem fileL_len {L : List (List UInt8)} (hL : ∀ d ∈ L, d.length = 32) (h k : Nat) : (fileL L h k).length = 32 * min (2 ^ h) (L.length - k * 2 ^ h) := by
  unfold fileL
  rw [flat_len (fun d hd => hL d (List.mem_of_mem_drop (List.mem_of_mem_take hd))), List.length_take, List.length_drop]
theorem fileL_before {L : List (List UInt8)} {h k : Nat} (d : List UInt8) (hk : (k + 1) * 2 ^ h ≤ L.length) : fileL (L ++ [d]) h k = fileL L h k := by
  have e : (k + 1) * 2 ^ h = k * 2 ^ h + 2 ^ h := by rw [Nat.add_mul, Nat.one_mul]
  have hp : 0 < 2 ^ h := Nat.two_pow_pos h
  unfold fileL
  rw [List.drop_append_of_le_length (by omega), List.take_append_of_le_length (by rw [List.length_drop]; omega)]
theorem fileL_here {L : List (List UInt8)} {h k : Nat} (d : List UInt8) (h1 : k * 2 ^ h ≤ L.length) (h2 : L.length < (k + 1) * 2 ^ h) : fileL (L ++ [d]) h k = fileL L h k ++ d := by
  have e : (k + 1) * 2 ^ h = k * 2 ^ h + 2 ^ h := by rw [Nat.add_mul, Nat.one_mul]
  unfold fileL
  rw [List.drop_append_of_le_length h1, List.take_of_length_le (by rw [List.length_append, List.length_drop, List.length_singleton]; omega), List.take_of_length_le (by rw [List.length_drop]; omega), List.flatten_append]
  simp
theorem runs_other (s : DSt) (n m : ByteArray) (hm : m ≠ n) (cs : List (List UInt8)) : (s.runs (cs.map (rAppend n))).fs m = s.fs m := by
  induction cs generalizing s with
  | nil => rfl
  | cons c cs ih =>
    rw [List.map_cons, DSt.runs_cons, ih, run_append, upd_other _ _ hm]
theorem len_le_flat {cs : List (List UInt8)} (h : ∀ c ∈ cs, c ≠ []) : cs.length ≤ cs.flatten.length := by
  induction cs with
  | nil => simp
  | cons c cs ih =>
    have h1 := ih (fun x hx => h x (by simp [hx]))
    have h2 : c ≠ [] := h c (by simp)
    have : 0 < c.length := List.length_pos_iff.2 h2
    simp only [List.length_cons, List.flatten_cons, List.length_append]
    omega
theorem appR_len (s : DSt) (n : ByteArray) (b : List UInt8) (hs : 0 < s.sec) : (appR s n b).length ≤ b.length := by
  unfold appR
  rw [List.length_map]
  have h1 := len_le_flat (chunks_ne (sec := s.sec) hs b.length ((s.fs n).getD []).length b)
  rw [chunks_flat hs _ _ _ (Nat.le_refl _)] at h1
  exact h1
/-- What a put makes of the disk. -/
def sPut (s : DSt) (nm : ByteArray) (b : List UInt8) : DSt :=
  match s.fs nm with
  | some _ => s.runs (appR s nm b)
  | none => (s.run (rCreate nm)).runs (appR (s.run (rCreate nm)) nm b)
theorem sPut_sec (s : DSt) (nm : ByteArray) (b : List UInt8) : (sPut s nm b).sec = s.sec := by
  unfold sPut
  split
  · rw [DSt.runs_sec]
  · rw [DSt.runs_sec]; rfl
theorem sPut_same (s : DSt) (nm : ByteArray) (b : List UInt8) (hs : 0 < s.sec) : (sPut s nm b).fs nm = some ((s.fs nm).getD [] ++ b) := by
  unfold sPut
  split
  · rename_i l hl
    rw [appR, run_len_append s nm l hl, chunks_flat hs _ _ _ (Nat.le_refl _), hl]
    rfl
  · rename_i hl
    have h1 : (s.run (rCreate nm)).fs nm = some [] := by rw [run_create, upd_same]
    rw [appR, run_len_append _ nm [] h1, chunks_flat (by exact hs) _ _ _ (Nat.le_refl _), hl]
    rfl
theorem sPut_other (s : DSt) (nm m : ByteArray) (b : List UInt8) (hm : m ≠ nm) : (sPut s nm b).fs m = s.fs m := by
  unfold sPut
  split
  · exact runs_other _ _ _ hm _
  · rw [appR, runs_other _ _ _ hm, run_create, upd_other _ _ hm]
/-- The raw writes that a put makes. -/
theorem sPut_raws (s : DSt) (nm : ByteArray) (b : List UInt8) (hs : 0 < s.sec) : ∃ rs : List RawD, (sPut s nm b).raws = s.raws ++ rs ∧ rs.length ≤ b.length + 1 ∧ (∀ r ∈ rs, r.name = nm ∧ (r.kind = 1 ∨ r.kind = 2)) ∧ (rs.map RawD.bytes).flatten = b := by
  have hcs : ∀ len : Nat, ((chunks s.sec len b.length b).map (rAppend nm)).map RawD.bytes = chunks s.sec len b.length b := fun len => by
    rw [List.map_map]
    have : (RawD.bytes ∘ rAppend nm) = id := by funext c; rfl
    rw [this, List.map_id]
  unfold sPut
  split
  · refine ⟨_, DSt.runs_raws _ _, by have := appR_len s nm b hs; omega, fun r hr => ?_, ?_⟩
    · obtain ⟨c, -, rfl⟩ := List.mem_map.1 hr
      exact ⟨rfl, .inr rfl⟩
    · rw [appR, hcs, chunks_flat hs _ _ _ (Nat.le_refl _)]
  · refine ⟨rCreate nm :: appR (s.run (rCreate nm)) nm b, by rw [DSt.runs_raws]; simp [DSt.run], ?_, fun r hr => ?_, ?_⟩
    · have := appR_len (s.run (rCreate nm)) nm b hs
      simp
      omega
    · rcases List.mem_cons.1 hr with rfl | hr
      · exact ⟨rfl, .inl rfl⟩
      · obtain ⟨c, -, rfl⟩ := List.mem_map.1 hr
        exact ⟨rfl, .inr rfl⟩
    · rw [List.map_cons, List.flatten_cons]
      have : ((appR (s.run (rCreate nm)) nm b).map RawD.bytes).flatten = b := by
        unfold appR
        exact (congrArg List.flatten (hcs _)).trans (chunks_flat hs _ _ _ (Nat.le_refl _))
      rw [this]
      rfl
theorem Filled.empty (sec h : Nat) : Filled (emptyD sec) sec h [] :=
  ⟨rfl, by simp, fun k => by simp [emptyD], fun n l e => by simp [emptyD] at e, by simp [emptyD]⟩
theorem Filled.here {s : DSt} {sec h : Nat} {L : List (List UInt8)} (H : Filled s sec h L) : (s.fs (tname h 0 (L.length / 2 ^ h))).getD [] = fileL L h (L.length / 2 ^ h) := by
  have hp : 0 < 2 ^ h := Nat.two_pow_pos h
  rw [H.fs]
  split
  · rfl
  · rename_i hk
    have := fileL_len H.len h (L.length / 2 ^ h)
    have h0 : (fileL L h (L.length / 2 ^ h)).length = 0 := by rw [this]; omega
    rw [List.eq_nil_of_length_eq_zero h0]
    rfl
theorem Filled.put {s : DSt} {sec h : Nat} {L : List (List UInt8)} (H : Filled s sec h L) (h8 : h ≤ 8) (hs : 0 < sec) (d : List UInt8) (hd : d.length = 32) : Filled (sPut s (tname h 0 (L.length / 2 ^ h)) d) sec h (L ++ [d]) := by
  have hp : 0 < 2 ^ h := Nat.two_pow_pos h
  have h32 := shl32 h h8
  have hss : 0 < s.sec := by rw [H.sec]; exact hs
  have hdm := Nat.div_add_mod L.length (2 ^ h)
  have hml := Nat.mod_lt L.length hp
  have e1 : 2 ^ h * (L.length / 2 ^ h) = (L.length / 2 ^ h) * 2 ^ h := Nat.mul_comm _ _
  have hlt : L.length < (L.length / 2 ^ h + 1) * 2 ^ h := by rw [Nat.add_mul, Nat.one_mul]; omega
  have hle : (L.length / 2 ^ h) * 2 ^ h ≤ L.length := by omega
  have hnl := fileL_len H.len h (L.length / 2 ^ h)
  have hlen : (fileL L h (L.length / 2 ^ h) ++ d).length ≤ 8192 := by
    rw [List.length_append, hnl, hd]
    omega
  refine ⟨by rw [sPut_sec]; exact H.sec, fun x hx => ?_, fun k => ?_, fun n l e => ?_, ?_⟩
  · rcases List.mem_append.1 hx with h1 | h1
    · exact H.len x h1
    · simp at h1; rw [h1]; exact hd
  · by_cases hk : k = L.length / 2 ^ h
    · subst hk
      rw [sPut_same _ _ _ hss, H.here, if_pos (by rw [List.length_append, List.length_singleton]; omega), fileL_here d hle hlt]
    · rw [sPut_other _ _ _ _ (fun e => hk (tname_inj e)), H.fs]
      by_cases hk2 : k < L.length / 2 ^ h
      · have h3 : (k + 1) * 2 ^ h ≤ (L.length / 2 ^ h) * 2 ^ h := Nat.mul_le_mul_right _ hk2
        have h4 : (k + 1) * 2 ^ h = k * 2 ^ h + 2 ^ h := by rw [Nat.add_mul, Nat.one_mul]
        rw [if_pos (by omega), if_pos (by rw [List.length_append]; omega), fileL_before d (by omega)]
      · have h3 : (L.length / 2 ^ h + 1) * 2 ^ h ≤ k * 2 ^ h := Nat.mul_le_mul_right _ (by omega)
        rw [if_neg (by omega), if_neg (by rw [List.length_append, List.length_singleton]; omega)]
  · by_cases hn : n = tname h 0 (L.length / 2 ^ h)
    · subst hn
      rw [sPut_same _ _ _ hss, H.here] at e
      cases e
      exact hlen
    · rw [sPut_other _ _ _ _ hn] at e
      exact H.few n l e
  · obtain ⟨rs, e1, e2, -, -⟩ := sPut_raws s (tname h 0 (L.length / 2 ^ h)) d hss
    have := H.raws
    rw [e1, List.length_append, List.length_append, List.length_singleton]
    omega
theorem Filled.tile {L : List (List UInt8)} {h : Nat} (h1 : 1 ≤ h) (h8 : h ≤ 8) (hL : L.length ≤ 1000000000000) (k : Nat) (hk : k * 2 ^ h ≤ L.length) : tileV h 0 k (2 ^ h) = true := by
  have h32 := shl32 h h8
  have hp : (0 : Int) < ((2 ^ h : Nat) : Int) := by have := Nat.two_pow_pos h; omega
  unfold tileV
  rw [decide_eq_true_iff, Int.toNat_natCast]
  have e : ((2 : Int) ^ h) = ((2 ^ h : Nat) : Int) := (pow_cast h).symm
  rw [e]
  have ek : (k : Int) * ((2 ^ h : Nat) : Int) = ((k * 2 ^ h : Nat) : Int) := by push_cast; rfl
  rw [ek]
  generalize 2 ^ h = p at *
  simp
  omega
/-- The files of a filled level from the k-th on. -/
theorem Filled.files {s : DSt} {sec h : Nat} {L : List (List UInt8)} (H : Filled s sec h L) (h1 : 1 ≤ h) (h8 : h ≤ 8) (hL : L.length ≤ 1000000000000) : ∀ (f k : Nat), L.length - k * 2 ^ h ≤ f → ∃ xs, Files s h 0 k xs ∧ (∀ a : Nat, xs.foldl (fun a x => (a.1 + x.2.length / 32, x.2.length % 32)) (a, 0) = (a + (L.length - k * 2 ^ h), 0)) ∧ (xs.map Prod.snd).flatten = (L.drop (k * 2 ^ h)).flatten := by
  have hp : 0 < 2 ^ h := Nat.two_pow_pos h
  intro f
  induction f with
  | zero =>
    intro k hk
    have hn := H.fs k
    rw [if_neg (by omega)] at hn
    refine ⟨[], ?_, fun a => by simp; omega, by rw [List.drop_of_length_le (by omega)]; rfl⟩
    cases hv : tileV h 0 k (2 ^ h) with
    | false => exact .bad k hv
    | true => exact .none k hv hn
  | succ f ih =>
    intro k hk
    have hn := H.fs k
    have hlen := fileL_len H.len h k
    by_cases h0 : k * 2 ^ h < L.length
    · rw [if_pos h0] at hn
      have hv := Filled.tile h1 h8 hL k (by omega)
      by_cases h2 : L.length - k * 2 ^ h < 2 ^ h
      · refine ⟨[(k, fileL L h k)], .part k _ hv hn (by rw [hlen]; omega), fun a => ?_, ?_⟩
        · simp only [List.foldl_cons, List.foldl_nil, hlen]
          rw [Nat.min_eq_right (by omega)]
          congr 1 <;> omega
        · simp only [List.map_cons, List.map_nil, List.flatten_cons, List.flatten_nil, List.append_nil]
          unfold fileL
          rw [List.take_of_length_le (by rw [List.length_drop]; omega)]
      · have e : (k + 1) * 2 ^ h = k * 2 ^ h + 2 ^ h := by rw [Nat.add_mul, Nat.one_mul]
        obtain ⟨xs, x1, x2, x3⟩ := ih (k + 1) (by omega)
        have hfl : (fileL L h k).length = 32 * 2 ^ h := by rw [hlen, Nat.min_eq_left (by omega)]
        refine ⟨_, .full k _ hv hn (by omega) xs x1, fun a => ?_, ?_⟩
        · rw [List.take_of_length_le (by omega), List.foldl_cons]
          simp only [hfl]
          rw [show 32 * 2 ^ h % 32 = 0 by omega, show 32 * 2 ^ h / 32 = 2 ^ h by omega, x2]
          congr 1
          omega
        · rw [List.take_of_length_le (by omega), List.map_cons, List.flatten_cons, x3]
          unfold fileL
          rw [e, ← List.drop_drop, ← List.flatten_append, List.take_append_drop]
    · rw [if_neg h0] at hn
      refine ⟨[], ?_, fun a => by simp; omega, by rw [List.drop_of_length_le (by omega)]; rfl⟩
      cases hv : tileV h 0 k (2 ^ h) with
      | false => exact .bad k hv
      | true => exact .none k hv hn
end Go.Proofs.YtjllkmkngjdjjaaDoor
