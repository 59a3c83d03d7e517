/- A SLICE's HEAD AND TAIL. No statement of the seed is proved here. -/
import Derived.Test.YtjllkmkngjdjjaaDoorLib
namespace Go.Proofs.YtjllkmkngjdjjaaDoor
open Go.RowKit
set_option maxRecDepth 100000
theorem addr_blk (ad : Addr) (j : Nat) : (ad.add j).block = ad.block := by unfold Addr.add; split <;> rfl
theorem bsHead {w : World} {A : Option Addr} {len c : Nat} {l : List UInt8} (h : Bs w (.slice A len c) l) (k : Nat) (a : Int) (ha : a = (k : Int)) (hi : k ≤ l.length) :
    (∀ W : World, (Instr.slice 34 (.slice A len c) Option.none (some (.int .i64 a)) Option.none).run Tryd.prog W = .ok (.slice A k c) W) ∧ Bs w (.slice A k c) (l.take k) := by
  subst ha
  have hq : len = l.length ∧ l.length ≤ c := by obtain ⟨A0, c0, e, h1, h2, h0, h3⟩ := h; cases e; exact ⟨rfl, h1⟩
  refine ⟨fun W => ?_, ?_⟩
  · have hel : Tryd.prog.elem 34 = 5 := by simp [Program.elem, Tryd.underlying34]
    have hu : Tryd.prog.underlying 34 = some (.slice (Tryd.prog.elem 34)) := by rw [hel]; exact Tryd.underlying34
    rw [run_slice_h W 34 A len c hu .i64 k (by omega) (by omega)]
    have e1 : ((k : Int)).toNat = k := by omega
    have e2 : (A.map fun x => x.add 0) = A := by cases A <;> rfl
    rw [hel]
    simp [sliced, e1, Result.andThen, e2]
  · refine Bs.pre (m := l.drop k) (n := len) ?_ (by simp; omega)
    rw [List.take_append_drop]
    exact h
theorem bsTail {w0 : World} {A : Option Addr} {len c : Nat} {l : List UInt8} (h0 : Bs w0 (.slice A len c) l) (k : Nat) (a : Int) (ha : a = (k : Int)) (hi : k ≤ l.length) :
    ∃ A' c', (∀ W : World, (Instr.slice 34 (.slice A len c) (some (.int .i64 a)) Option.none Option.none).run Tryd.prog W = .ok (.slice A' (len - k) c') W) ∧
      (∀ w, Bs w (.slice A len c) l → Bs w (.slice A' (len - k) c') (l.drop k)) ∧ (∀ ad, A' = some ad → ∃ ad0, A = some ad0 ∧ ad0.block = ad.block) := by
  subst ha
  have hcl : len = l.length ∧ l.length ≤ c := by obtain ⟨A0, c0, e, h1, h2, h0, h3⟩ := h0; cases e; exact ⟨rfl, h1⟩
  refine ⟨if c = k then A else A.map (·.add k), c - k, fun W => ?_, fun w h => ?_, fun ad e => ?_⟩
  · have hel : Tryd.prog.elem 34 = 5 := by simp [Program.elem, Tryd.underlying34]
    have hu : Tryd.prog.underlying 34 = some (.slice (Tryd.prog.elem 34)) := by rw [hel]; exact Tryd.underlying34
    rw [run_slice_l (ht := hu) (h0 := by omega) (h1 := by omega), hel]
    obtain ⟨i0, hi0, hz, hsz, hby⟩ := info_parts info_u8
    simp [sizeOf, typeInfo, hi0, hsz, sliced, Result.andThen]
  · obtain ⟨A0, c0, e, h1, h2, h0, h3⟩ := h
    cases e
    have hlen : (l.drop k).length = l.length - k := by simp
    refine ⟨_, _, by rw [hlen], by rw [hlen]; omega, by omega, ?_, ?_⟩
    · intro hA
      cases A with
      | none => have := h0 rfl; omega
      | some ad => split at hA <;> cases hA
    · intro j u hj
      have hju : (u8s l)[k + j]? = some u := by
        rw [← hj]
        simp only [u8s, List.getElem?_map]
        rw [List.getElem?_drop]
      have hlt : k + j < l.length := by have := (List.getElem?_eq_some_iff.1 hju).1; rwa [u8s_length] at this
      obtain ⟨ad, hA, hc⟩ := h3 (k + j) u hju
      subst hA
      rw [if_neg (by omega)]
      exact ⟨ad.add k, rfl, by rw [add_add]; exact hc⟩
  · cases A with
    | none => split at e <;> cases e
    | some ad0 =>
      refine ⟨ad0, rfl, ?_⟩
      split at e
      · cases e; rfl
      · cases e; exact (addr_blk _ _).symm
end Go.Proofs.YtjllkmkngjdjjaaDoor
