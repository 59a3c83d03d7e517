/- WORDS OF MY OWN: values that own blocks of their own; a slice of byte slices. No statement of the seed is proved here. -/
import Derived.Test.YtjllkmkngjdjjaaDoorLib
namespace Go.Proofs.YtjllkmkngjdjjaaDoor
open Go.RowKit

/-- Two values own no block in common. -/
def Apart (a b : Value) : Prop := ∀ k, a.ownBlock = some k → b.ownBlock ≠ some k
theorem Apart.symm {a b : Value} (h : Apart a b) : Apart b a := fun k hb ha => h k ha hb
theorem Apart.ne {a b : Value} (h : Apart a b) : a.ownBlock = none ∨ a.ownBlock ≠ b.ownBlock := by
  cases ha : a.ownBlock with
  | none => exact .inl rfl
  | some k => exact .inr fun e => h k ha e.symm
theorem Apart.nil (a : Value) (n c : Nat) : Apart a (.slice none n c) := fun _ _ h => by cases h
theorem Apart.nil' (a : Value) (n c : Nat) : Apart (.slice none n c) a := fun _ h => by cases h
/-- What grows lies where it lay, or at the heap's end. -/
theorem Apart.grow {a b b' : Value} {n : Nat} (h : Apart a b) (ha : ∀ k, a.ownBlock = some k → k < n) (hb : b'.ownBlock = b.ownBlock ∨ b'.ownBlock = some n) : Apart a b' := by
  intro k hk e
  rcases hb with hb | hb
  · exact h k hk (hb ▸ e)
  · have := ha k hk
    rw [hb] at e
    cases e
    omega
theorem Apart.newer {a b : Value} {n : Nat} (ha : ∀ k, a.ownBlock = some k → k < n) (hb : ∀ k, b.ownBlock = some k → n ≤ k) : Apart a b := by
  intro k hk e
  have := ha k hk
  have := hb k e
  omega
theorem owns_lt {w : World} {B : Nat} {e : TypeId} {size n : Nat} {v : Value} {xs : List Value} (h : w.ownsRow B e size v n xs) : ∀ k, v.ownBlock = some k → k < w.heap.size := fun k hk => (World.ownsRow.lt h k hk).2
theorem owns_ge {w : World} {B : Nat} {e : TypeId} {size n : Nat} {v : Value} {xs : List Value} (h : w.ownsRow B e size v n xs) : ∀ k, v.ownBlock = some k → B ≤ k := fun k hk => (World.ownsRow.lt h k hk).1
theorem owns_below {w w1 : World} {B : Nat} {e : TypeId} {size n : Nat} {v : Value} {xs : List Value} (h : w.ownsRow B e size v n xs) (hb : Below w.heap.size w w1) : w1.ownsRow B e size v n xs :=
  World.ownsRow.kept h (row := Option.none) ⟨hb.os, hb.tape, hb.output, hb.size, fun i hi _ => hb.block i hi⟩ (by cases hv : v.ownBlock <;> simp)
theorem owns_form {w : World} {B : Nat} {e : TypeId} {size n : Nat} {v : Value} {xs : List Value} (h : w.ownsRow B e size v n xs) : ∃ A c, v = .slice A n c ∧ n ≤ c ∧ c ≤ 9223372036854775807 ∧ n ≤ 9223372036854775807 := by
  obtain ⟨A, c, e, h1, h2, h0, _⟩ := Row.of_owns h
  unfold maxLen at h2
  exact ⟨A, c, e, h1, h2, by omega⟩

theorem info_bs : (Tryd.prog.info? 34).map (fun i => (i.zero, i.size, i.bytes)) = some (some (.slice Option.none 0 0), 1, 24) := by kernel_rfl
theorem info_int : (Tryd.prog.info? 3).map (fun i => (i.zero, i.size, i.bytes)) = some (some (.int .i64 0), 1, 8) := by kernel_rfl

/-- Byte slices, each with its bytes, each in a block of its own, none of which S owns. -/
def Parts (w : World) (B : Nat) (vs : List Value) (ms : List (List UInt8)) (S : List Value) : Prop :=
  vs.length = ms.length ∧ ∀ (j : Nat) (u : Value), vs[j]? = some u → ∃ m, ms[j]? = some m ∧ OwnB w B u m ∧ ∀ s ∈ S, Apart u s
theorem Parts.nil (w : World) (B : Nat) (S : List Value) : Parts w B [] [] S := ⟨rfl, fun j u h => by simp at h⟩
theorem Parts.below {w w1 : World} {B : Nat} {vs : List Value} {ms : List (List UInt8)} {S : List Value} (h : Parts w B vs ms S) (hb : Below w.heap.size w w1) : Parts w1 B vs ms S :=
  ⟨h.1, fun j u hu => let ⟨m, hm, ho, ha⟩ := h.2 j u hu; ⟨m, hm, ho.below hb, ha⟩⟩
theorem Parts.snoc {w : World} {B : Nat} {vs : List Value} {ms : List (List UInt8)} {S : List Value} (h : Parts w B vs ms S) {u : Value} {m : List UInt8} (hu : OwnB w B u m) (ha : ∀ s ∈ S, Apart u s) : Parts w B (vs ++ [u]) (ms ++ [m]) S := by
  refine ⟨by simp [h.1], fun j x hx => ?_⟩
  by_cases hj : j < vs.length
  · rw [List.getElem?_append_left hj] at hx
    obtain ⟨m', hm, r⟩ := h.2 j x hx
    exact ⟨m', by rw [List.getElem?_append_left (by rw [← h.1]; exact hj)]; exact hm, r⟩
  · rw [List.getElem?_append_right (by omega)] at hx
    have hj0 : j - vs.length = 0 := by
      have := (List.getElem?_eq_some_iff.1 hx).1
      simp at this
      exact this
    rw [hj0] at hx
    simp at hx
    subst hx
    exact ⟨m, by rw [List.getElem?_append_right (by rw [← h.1]; omega), ← h.1, hj0]; rfl, hu, ha⟩
/-- One of S grows. -/
theorem Parts.grow {w w1 : World} {B : Nat} {vs : List Value} {ms : List (List UInt8)} {S : List Value} (h : Parts w B vs ms S) {s s' : Value} (hs : s ∈ S) (hg : w.grownBy w1 s.ownBlock) (hs' : s'.ownBlock = s.ownBlock ∨ s'.ownBlock = some w.heap.size)
    {S' : List Value} (hS : ∀ x ∈ S', x = s' ∨ x ∈ S) : Parts w1 B vs ms S' := by
  refine ⟨h.1, fun j u hu => ?_⟩
  obtain ⟨m, hm, ho, ha⟩ := h.2 j u hu
  refine ⟨m, hm, ho.kept hg (ha s hs).ne, fun x hx => ?_⟩
  rcases hS x hx with rfl | hx
  · exact (ha s hs).grow (fun k hk => (ho.lt k hk).2) hs'
  · exact ha x hx
theorem Parts.bs {w : World} {B : Nat} {vs : List Value} {ms : List (List UInt8)} {S : List Value} (h : Parts w B vs ms S) (j : Nat) (hj : j < ms.length) : ∃ u, vs[j]? = some u ∧ Bs w u ms[j] := by
  have hj' : j < vs.length := by rw [h.1]; exact hj
  obtain ⟨m, hm, ho, _⟩ := h.2 j vs[j] (List.getElem?_eq_getElem hj')
  rw [List.getElem?_eq_getElem hj] at hm
  cases hm
  exact ⟨_, List.getElem?_eq_getElem hj', ho.bs⟩
theorem app_row {w : World} {ops : Array Oper} {rest : List Oper} {o : Oper} {a : Act} {Q : Exit → Act → World → Prop} (hgd : o.guard = none) (s x : Operand) (t e : TypeId)
    (ho : o.op = .call { callee := .builtin .append, args := #[s, x], argTypes := #[t, t] }) (ht : Tryd.prog.underlying t = some (.slice e)) {z : Value} {bytes : Nat} (hinfo : (Tryd.prog.info? e).map (fun i => (i.zero, i.size, i.bytes)) = some (some z, 1, bytes)) (hz : z.cells.size = 1) (hb0 : 0 < bytes)
    (B : Nat) (v : Value) (hs : a.eval s = v) (n : Nat) (xs : List Value) (hown : w.ownsRow B e 1 v n xs) (u : Value) (hx : a.eval x = .slice (some ⟨w.heap.size, 0, none⟩) 1 1) (hu : u.oneCell' = true)
    (hb : (n + 1 + (n + 1) / 4 + 192) * bytes ≤ 281474976710656) (hbase : B ≤ w.heap.size)
    (h : ∀ v' w', w'.ownsRow B e 1 v' (n + 1) (xs ++ [u]) → (w.alloc (.cells #[u] e)).grownBy w' v.ownBlock → (v'.ownBlock = v.ownBlock ∨ v'.ownBlock = some (w.heap.size + 1)) → wpList Tryd.prog ops Q rest (a.put o.dst v') w') :
    wpList Tryd.prog ops Q (o :: rest) a (w.alloc (.cells #[u] e)) := by
  refine wpList_app (w := w.alloc (.cells #[u] e)) hgd s x t ho B e z 1 bytes ht hinfo hz (by omega) hb0 v hs n xs (World.ownsRow.alloc hown _) _ hx 1 [u] (Row.new w [u] e 1 1 (Nat.le_refl _) (by unfold maxLen; omega)) rfl (by simpa using hu) hb (by simp; omega) ?_
  intro v' w' h1 h2 h3
  exact h v' w' h1 h2 (by simpa using h3)
end Go.Proofs.YtjllkmkngjdjjaaDoor
