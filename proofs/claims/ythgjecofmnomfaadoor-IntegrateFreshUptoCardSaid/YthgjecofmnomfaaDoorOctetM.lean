/- PLAIN MATHEMATICS of numbers of several bytes, the highest first (layer 1). No program in sight. -/
import GoSem.Core.View
namespace Go.Proofs.YthgjecofmnomfaaDoor
theorem snoc_ind {α : Type} {P : List α → Prop} (h0 : P []) (h1 : ∀ l x, P l → P (l ++ [x])) : ∀ l, P l := by
  have key : ∀ l : List α, P l.reverse := by
    intro l
    induction l with
    | nil => exact h0
    | cons x l ih => rw [List.reverse_cons]; exact h1 _ _ ih
  intro l
  have := key l.reverse
  rwa [List.reverse_reverse] at this
/-- n bytes of a number, the highest first. -/
def be : Nat → Nat → List UInt8
  | 0, _ => []
  | n + 1, v => UInt8.ofNat (v / 256 ^ n % 256) :: be n v
def beNat (l : List UInt8) : Nat := l.foldl (fun v x => v * 256 + x.toNat) 0
theorem be_length (n v : Nat) : (be n v).length = n := by
  induction n with
  | zero => rfl
  | succ n ih => simp [be, ih]
theorem be_snoc (n : Nat) : ∀ v, be (n + 1) v = be n (v / 256) ++ [UInt8.ofNat (v % 256)] := by
  induction n with
  | zero => intro v; simp [be]
  | succ n ih =>
    intro v
    have h1 : v / 256 ^ (n + 1) = v / 256 / 256 ^ n := by rw [Nat.pow_succ, Nat.mul_comm, Nat.div_div_eq_div_mul]
    show UInt8.ofNat (v / 256 ^ (n + 1) % 256) :: be (n + 1) v = _
    rw [ih, h1]
    rfl
theorem beNat_snoc (l : List UInt8) (x : UInt8) : beNat (l ++ [x]) = beNat l * 256 + x.toNat := by simp [beNat]
theorem beNat_lt (l : List UInt8) : beNat l < 256 ^ l.length := by
  have key : ∀ (l : List UInt8) (v k : Nat), v < 256 ^ k → l.foldl (fun v x => v * 256 + x.toNat) v < 256 ^ (k + l.length) := by
    intro l
    induction l with
    | nil => intro v k h; exact h
    | cons x l ih =>
      intro v k h
      have hx := x.toNat_lt
      have := ih (v * 256 + x.toNat) (k + 1) (by rw [Nat.pow_succ]; omega)
      rw [List.foldl_cons, List.length_cons, show k + (l.length + 1) = k + 1 + l.length by omega]
      exact this
  have := key l 0 0 (by simp)
  rw [Nat.zero_add] at this
  exact this
theorem beNat_be (n : Nat) : ∀ v, v < 256 ^ n → beNat (be n v) = v := by
  induction n with
  | zero => intro v h; simp at h; subst h; rfl
  | succ n ih =>
    intro v h
    rw [be_snoc, beNat_snoc, ih (v / 256) (by rw [Nat.pow_succ, Nat.mul_comm] at h; exact Nat.div_lt_of_lt_mul h), UInt8.toNat_ofNat', Nat.mod_mod_of_dvd _ (by decide)]
    have := Nat.mod_lt v (show 0 < 256 by decide)
    omega
theorem be_beNat (l : List UInt8) : be l.length (beNat l) = l := by
  refine snoc_ind (P := fun l => be l.length (beNat l) = l) rfl ?_ l
  intro l x ih
  · rw [List.length_append, List.length_singleton, be_snoc, beNat_snoc]
    have hx := x.toNat_lt
    rw [show (beNat l * 256 + x.toNat) / 256 = beNat l by omega, ih, show (beNat l * 256 + x.toNat) % 256 = x.toNat by omega, UInt8.ofNat_toNat]
end Go.Proofs.YthgjecofmnomfaaDoor
