/- WALKS of package digests: New, Runs, Len. No statement of the seed is proved here. -/
import Derived.Test.YthgjecofmnomfaaDigF
namespace Go.Proofs.Ythgjecofmnomfaa
open Go.RowKit
set_option maxRecDepth 100000

def natsL (l : List Nat) : List Value := l.map fun (n : Nat) => Value.int .i64 (n : Int)
theorem natsL_length (l : List Nat) : (natsL l).length = l.length := by simp [natsL]
theorem natsL_get (l : List Nat) (j : Nat) (h : j < l.length) : (natsL l)[j]? = some (.int .i64 (l[j] : Int)) := by simp [natsL, h]
theorem Ix.fresh (w : World) {B : Nat} (hB : B ≤ w.heap.size) : Ix (w.alloc (.cells #[.bool true, .slice none 0 0] 45)) B w.heap.size (.slice none 0 0) [] [] where
  c0 := cell_of_row _ w.heap.size 0 _ _ (0, 0) (heap_alloc_new w _)
  c1 := cell_of_row _ w.heap.size 1 _ _ (0, 0) (heap_alloc_new w _)
  f1 := new_frozen w _ _ 1
  low := hB
  own := World.ownsRow_nil _ _ _ _
  runs := fun j h => absurd h (by simp)
  pv := by simp [Value.ownBlock]
  wid := by simp
  sorted := by simp
  small := by simp
theorem new_calls (w : World) : Calls Try.prog 11 #[] w fun e w' => e = .returned (.pointer (some ⟨w.heap.size, 0, none⟩)) ∧ w' = w.alloc (.cells #[.bool true, .slice none 0 0] 45) := by
  go_enter Try.func11, Try.ntmps11
  go_wp2
  go_ret
  exact ⟨rfl, rfl⟩
theorem none_calls2 (p : Nat) (w : World) (h : w.cell? ⟨p, 0, none⟩ = some (.bool true)) : Calls Try.prog 25 #[.pointer (some ⟨p, 0, none⟩)] w fun e w' => e = .returned (.bool false) ∧ w = w' :=
  (none_calls p w h).mono fun _ _ ⟨h1, h2⟩ => ⟨h1, h2.symm⟩
theorem runs_calls (p : Nat) (vr : Value) (us : List Value) (rs : List (List Item)) (w : World) (hx : IxR w p vr us rs) (hn : rs.length ≤ 1000000) :
    Calls Try.prog 14 #[.pointer (some ⟨p, 0, none⟩)] w fun e w' => ∃ v, e = .returned v ∧ w'.ownsRow w.heap.size 3 1 v rs.length (natsL (rs.map List.length)) ∧ Below w.heap.size w w' := by
  obtain ⟨A, c, rfl, a1, a2, -, -⟩ := hx.row
  unfold maxLen at a2
  have c0 := hx.c0
  have c1 := hx.c1
  have HX := Lib.hid hx; clear hx
  go_enter Try.func14, Try.ntmps14
  go_wp2_with (go_at_call 25; refine (none_calls2 _ _ c0).mono ?_; rintro e w1 ⟨rfl, rfl⟩)
  go_loopw [3, 13] (fun v i wr => ∃ j : Nat, j ≤ rs.length ∧ i = .int .i64 (j : Int) ∧ wr.ownsRow w.heap.size 3 1 v j (natsL ((rs.take j).map List.length)) ∧ Below w.heap.size w wr) (fun _ i _ => rs.length - (intOf i).toNat)
  case atStart => exact ⟨0, by omega, rfl, World.ownsRow_nil _ _ _ _, Below.refl _ _⟩
  case round =>
    obtain ⟨j, hj, rfl, hown, hB⟩ := hrel
    have HO := Lib.hid hown
    obtain ⟨Av, cv, rfl, v1, v2, v3⟩ := owns_form hown
    clear hown
    by_cases hlt : j < rs.length
    · obtain ⟨u, hu, hru⟩ := (HX.out.below hB).runs j hlt
      obtain ⟨ad, hA, hcell⟩ := (HX.out.below hB).row.at_ j hu
      subst hA
      obtain ⟨A2, c2, rfl, k1, k2⟩ := hru.form
      have hsm := HX.out.small
      have hle := len_flatten rs[j] (List.getElem_mem hlt)
      have hsm2 : rs[j].length ≤ 1000000 := by omega
      have HT := Lib.hid (show natsL ((rs.take (j + 1)).map List.length) = natsL ((rs.take j).map List.length) ++ [.int .i64 (rs[j].length : Int)] by
        rw [List.take_succ_eq_append_getElem hlt]; simp only [natsL, List.map_append, List.map_cons, List.map_nil])
      clear hsm hle hru hu
      generalize rs[j].length = r at *
      have hsz := hB.size
      go_wp2_with (first | (at_builtin; refine app_row rfl _ _ 37 3 rfl Try.underlying37 info_int rfl (by omega) w.heap.size _ rfl j _ HO.out _ rfl rfl ?_ hsz ?_; (· omega); intro ve w3 hown3 hg3 hat3))
      have hB3 : Below w.heap.size w w3 := grown_below (hB.alloc hsz _) hg3 (World.ownsRow.alloc HO.out _) (by simp; omega)
      have HO3 := Lib.hid hown3
      clear hg3 hat3 hown3
      go_roundw
      case rel => exact ⟨j + 1, by omega, by go_num, by rw [HT.out]; exact HO3.out, hB3⟩
      case measure => simp [intOf]; omega
    · have hjr : j = rs.length := by omega
      subst hjr
      go_wp2_with fail
      go_ret
      have := HO.out
      rw [List.take_length] at this
      exact ⟨_, rfl, this, hB⟩
theorem sum_take_succ (l : List Nat) (j : Nat) (h : j < l.length) : (l.take (j + 1)).sum = (l.take j).sum + l[j] := by
  rw [List.take_succ_eq_append_getElem h, List.sum_append]; simp
theorem sum_take_le (l : List Nat) (j : Nat) : (l.take j).sum ≤ l.sum := by
  have : l.sum = (l.take j).sum + (l.drop j).sum := by rw [← List.sum_append, List.take_append_drop]
  omega
theorem len_calls (p : Nat) (vr : Value) (us : List Value) (rs : List (List Item)) (w : World) (hx : IxR w p vr us rs) (hn : rs.length ≤ 1000000) :
    Calls Try.prog 15 #[.pointer (some ⟨p, 0, none⟩)] w fun e w' => e = .returned (.int .i64 (rs.flatten.length : Int)) ∧ Below w.heap.size w w' := by
  have K := Lib.hid (runs_calls p vr us rs w hx hn)
  have hsm := hx.small
  have hsum : (rs.map List.length).sum = rs.flatten.length := by rw [List.length_flatten]
  have HS := Lib.hid hsum
  rw [← hsum] at hsm ⊢
  clear hx hsum
  have hl : rs.length = (rs.map List.length).length := by simp
  have HL := Lib.hid hl
  rw [hl] at K hn
  clear hl
  generalize rs.map List.length = l at *
  clear HS HL
  go_enter Try.func15, Try.ntmps15
  go_wp2_with (go_at_call 14; refine K.out.mono ?_; rintro e w1 ⟨v, rfl, hown, hB⟩; have HO := Lib.hid hown; obtain ⟨A, c, rfl, v1, v2, v3⟩ := owns_form hown; clear hown)
  go_loop [3, 9] (fun n i => ∃ j : Nat, j ≤ l.length ∧ i = .int .i64 (j : Int) ∧ n = .int .i64 (((l.take j).sum : Nat) : Int)) (fun _ i => l.length - (intOf i).toNat)
  case atStart => exact ⟨0, by omega, rfl, rfl⟩
  case round =>
    obtain ⟨j, hj, rfl, rfl⟩ := hrel
    by_cases hlt : j < l.length
    · obtain ⟨ad, hA, hcell⟩ := (Row.of_owns HO.out).at_ j (natsL_get l j hlt)
      subst hA
      have hs := sum_take_succ l j hlt
      have hle := sum_take_le l (j + 1)
      have HS := Lib.hid hs
      have h1 : (l.take j).sum ≤ 1000000 := by omega
      have h2 : l[j] ≤ 1000000 := by omega
      clear hs hle
      generalize l[j] = q at *
      go_wp2_with fail
      go_round
      case rel => exact ⟨j + 1, by omega, by go_num, by rw [HS.out]; go_num⟩
      case measure => simp [intOf]; omega
    · have hjr : j = l.length := by omega
      subst hjr
      go_wp2_with fail
      go_ret
      exact ⟨rfl, hB⟩
end Go.Proofs.Ythgjecofmnomfaa
