/- WALKS of the rotations: hash.ror, bits.RotateLeft32 and the reference's ror. No statement of the seed is proved here. -/
import Derived.Test.YthgjecofmnomfaaDoorLib
import Derived.Test.YthgjecofmnomfaaDoorQuietC
namespace Go.Proofs.YthgjecofmnomfaaDoor
open Go.RowKit
/-- A word turned right. -/
def rorI (x : Int) (k : Nat) : Int := bits .or .u32 (x / 2 ^ k) (x * 2 ^ (32 - k) % 4294967296)
theorem u32_or_comm (a b : Int) : bits .or .u32 a b = bits .or .u32 b a := by
  show IntKind.u32.wrap ((BitVec.ofInt 32 a ||| BitVec.ofInt 32 b).toNat : Int) = IntKind.u32.wrap ((BitVec.ofInt 32 b ||| BitVec.ofInt 32 a).toNat : Int)
  rw [BitVec.or_comm]
theorem neg31 : ∀ n : Nat, n < 32 → 0 < n → bits .and .u64 (IntKind.u64.wrap (-(n : Int))) 31 = ((32 - n : Nat) : Int) := by decide +kernel
theorem rotl_calls (x : Int) (k : Nat) (w : World) (h0 : 0 < k) (h1 : k < 32) : Calls Tryd.prog 87 #[.int .u32 x, .int .i64 (-(k : Int))] w fun e w' => e = .returned (.int .u32 (rorI x k)) ∧ w' = w := by
  have hn := neg31 k h1 h0
  go_enter Tryd.func87, Tryd.ntmps87
  go_wp2
  go_ret
  refine ⟨?_, rfl⟩
  have e2 : 32 - (32 - k) = k := by omega
  rw [u32_or_comm, e2]
  rfl
theorem ror_calls (x : Int) (k : Nat) (w : World) (h0 : 0 < k) (h1 : k < 32) : Calls Tryd.prog 86 #[.int .u32 x, .int .i64 (k : Int)] w fun e w' => e = .returned (.int .u32 (rorI x k)) ∧ w' = w := by
  go_enter Tryd.func86, Tryd.ntmps86
  go_wp2_with (go_at_call 87; refine (rotl_calls x k _ h0 h1).mono ?_; rintro e w1 ⟨rfl, rfl⟩)
  go_ret
  exact ⟨rfl, rfl⟩
theorem rrot_calls (x : Int) (k : Nat) (w : World) (h0 : 0 < k) (h1 : k < 32) : Calls Tryd.prog 83 #[.int .u32 x, .int .u64 (k : Int)] w fun e w' => e = .returned (.int .u32 (rorI x k)) ∧ w' = w := by
  go_enter Tryd.func83, Tryd.ntmps83
  go_wp2
  go_ret
  refine ⟨?_, rfl⟩
  rfl
end Go.Proofs.YthgjecofmnomfaaDoor
