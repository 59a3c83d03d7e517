/- A TILE's PATH TELLS ITS INDEX. No statement of the seed is proved here. -/
import Derived.Test.YtjllkmkngjdjjaaDoorTileP
namespace Go.Proofs.YtjllkmkngjdjjaaDoor
open Go.RowKit
theorem padded3_inj {a b : Nat} (ha : a < 1000) (hb : b < 1000) (h : padded 3 a = padded 3 b) : a = b := by
  rw [padded3 a ha, padded3 b hb] at h
  simp only [List.cons.injEq, and_true] at h
  obtain ⟨h1, h2, h3⟩ := h
  have k1 := congrArg UInt8.toNat h1
  have k2 := congrArg UInt8.toNat h2
  have k3 := congrArg UInt8.toNat h3
  simp only [UInt8.toNat_ofNat'] at k1 k2 k3
  omega
theorem groups_inj : ∀ (k n m : Nat), n ≤ k → groups n = groups m → n = m
  | 0, n, m, hn, h => by
    have : n = 0 := by omega
    subst this
    rcases Nat.eq_zero_or_pos m with e | e
    · exact e.symm
    · rw [groups_zero, groups_step m e] at h
      have := congrArg List.length h
      simp at this
  | k + 1, n, m, hn, h => by
    rcases Nat.eq_zero_or_pos n with e | e
    · subst e
      rcases Nat.eq_zero_or_pos m with e | e
      · exact e.symm
      · rw [groups_zero, groups_step m e] at h
        have := congrArg List.length h
        simp at this
    · rcases Nat.eq_zero_or_pos m with e2 | e2
      · subst e2
        rw [groups_zero, groups_step n e] at h
        have := congrArg List.length h
        simp at this
      · rw [groups_step n e, groups_step m e2] at h
        have l1 := padded3_length (n % 1000) (Nat.mod_lt _ (by omega))
        have l2 := padded3_length (m % 1000) (Nat.mod_lt _ (by omega))
        obtain ⟨h1, h2⟩ := List.append_inj' h (by simp [l1, l2])
        have h3 := groups_inj k (n / 1000) (m / 1000) (by omega) h1
        simp only [List.cons_append, List.cons.injEq, true_and] at h2
        have h4 := padded3_inj (Nat.mod_lt n (by omega)) (Nat.mod_lt m (by omega)) (List.append_cancel_right h2)
        omega
theorem pathL_inj {i j : Nat} (h : pathL i = pathL j) : i = j := by
  unfold pathL at h
  have l1 := padded3_length (i % 1000) (Nat.mod_lt _ (by omega))
  have l2 := padded3_length (j % 1000) (Nat.mod_lt _ (by omega))
  obtain ⟨h1, h2⟩ := List.append_inj' h (by rw [l1, l2])
  have h3 := groups_inj _ _ _ (Nat.le_refl _) h1
  have h4 := padded3_inj (Nat.mod_lt i (by omega)) (Nat.mod_lt j (by omega)) h2
  omega
/-- The name of a full tile's file. -/
def tname (h l i : Nat) : ByteArray := ⟨(tpath h l i (2 ^ h)).toArray⟩
theorem tname_inj {h l i j : Nat} (e : tname h l i = tname h l j) : i = j := by
  unfold tname tpath at e
  have e2 := congrArg (fun b => b.data.toList) e
  simp only [Nat.lt_irrefl, if_false, List.append_nil] at e2
  exact pathL_inj (List.append_cancel_left e2)
theorem tpath_len (h l i : Nat) (hv : tileV h l i (2 ^ h) = true) : 1 ≤ (tname h l i).size ∧ (tname h l i).size ≤ 128 := by
  obtain ⟨a, b, c, d⟩ := tileV_small h l i (2 ^ h) (by simpa using hv)
  have e : (tname h l i).size = (tpath h l i (2 ^ h)).length := by unfold tname; rw [show (ByteArray.mk (tpath h l i (2 ^ h)).toArray).size = (tpath h l i (2 ^ h)).toArray.size from rfl, List.size_toArray]
  rw [e]
  unfold tpath
  have p1 := pathL_le i (by omega)
  have p2 := digits_le19 h (by omega)
  have p3 := digits_le19 l (by omega)
  simp only [Nat.lt_irrefl, if_false, List.append_nil, List.length_append, List.length_singleton]
  have : tileW.length = 5 := rfl
  omega
end Go.Proofs.YtjllkmkngjdjjaaDoor
