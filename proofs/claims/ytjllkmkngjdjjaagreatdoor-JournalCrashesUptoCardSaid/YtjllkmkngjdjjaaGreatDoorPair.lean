/- WORDS OF MY OWN: values that own blocks of their own; a slice of byte slices. No statement of the seed is proved here. WORDS: a []api.Digest that is read, and one that came in (blocks of XDigB, XDigC, XDigH, XUptoD, for a seat that lacks package digests; written by pick.py). No statement of the seed is proved here. A LAW OF MY OWN for 'for x := range seq': the iterator's contract says what each round is handed (in which world), and between two rounds the iterator only lays new blocks. No statement of the seed is proved here. A LAW OF MY OWN for 'for .. range seq' where the iterator tells nothing. No statement of the seed is proved here. WORDS for the walks of the laws about values that no call made, for any seat. No statement of the seed is proved here. -/
import Derived.Test.YtjllkmkngjdjjaaGreatDoorUptoB
import Derived.Deep.Slices
import Derived.Deep.MidRow
import Derived.RangeFuncNested
import Derived.RangeFuncBound
import Derived.Shelf.Abstract
import Derived.Shelf.RegionOpen
import Derived.OwnWalkIn
import Derived.TacticsInMore
import Derived.LoopNIn
import Derived.LoopIn
import Derived.WalkMore
import Derived.LoopN
namespace Go.Proofs.YtjllkmkngjdjjaaGreatDoor
open Go.RowKit

/-- Two values own no block in common. -/
def Apart (a b : Value) : Prop := ∀ k, a.ownBlock = some k → b.ownBlock ≠ some k
theorem Apart.symm {a b : Value} (h : Apart a b) : Apart b a := fun k hb ha => h k ha hb
theorem Apart.ne {a b : Value} (h : Apart a b) : a.ownBlock = none ∨ a.ownBlock ≠ b.ownBlock := by
  cases ha : a.ownBlock with
  | none => exact .inl rfl
  | some k => exact .inr fun e => h k ha e.symm
theorem Apart.nil (a : Value) (n c : Nat) : Apart a (.slice none n c) := fun _ _ h => by cases h
theorem Apart.nil' (a : Value) (n c : Nat) : Apart (.slice none n c) a := fun _ h => by cases h
/-- What grows lies where it lay, or at the heap's end. -/
theorem Apart.grow {a b b' : Value} {n : Nat} (h : Apart a b) (ha : ∀ k, a.ownBlock = some k → k < n) (hb : b'.ownBlock = b.ownBlock ∨ b'.ownBlock = some n) : Apart a b' := by
  intro k hk e
  rcases hb with hb | hb
  · exact h k hk (hb ▸ e)
  · have := ha k hk
    rw [hb] at e
    cases e
    omega
theorem Apart.newer {a b : Value} {n : Nat} (ha : ∀ k, a.ownBlock = some k → k < n) (hb : ∀ k, b.ownBlock = some k → n ≤ k) : Apart a b := by
  intro k hk e
  have := ha k hk
  have := hb k e
  omega
theorem owns_lt {w : World} {B : Nat} {e : TypeId} {size n : Nat} {v : Value} {xs : List Value} (h : w.ownsRow B e size v n xs) : ∀ k, v.ownBlock = some k → k < w.heap.size := fun k hk => (World.ownsRow.lt h k hk).2
theorem owns_ge {w : World} {B : Nat} {e : TypeId} {size n : Nat} {v : Value} {xs : List Value} (h : w.ownsRow B e size v n xs) : ∀ k, v.ownBlock = some k → B ≤ k := fun k hk => (World.ownsRow.lt h k hk).1
theorem owns_below {w w1 : World} {B : Nat} {e : TypeId} {size n : Nat} {v : Value} {xs : List Value} (h : w.ownsRow B e size v n xs) (hb : Below w.heap.size w w1) : w1.ownsRow B e size v n xs :=
  World.ownsRow.kept h (row := Option.none) ⟨hb.os, hb.tape, hb.output, hb.size, fun i hi _ => hb.block i hi⟩ (by cases hv : v.ownBlock <;> simp)
theorem owns_form {w : World} {B : Nat} {e : TypeId} {size n : Nat} {v : Value} {xs : List Value} (h : w.ownsRow B e size v n xs) : ∃ A c, v = .slice A n c ∧ n ≤ c ∧ c ≤ 9223372036854775807 ∧ n ≤ 9223372036854775807 := by
  obtain ⟨A, c, e, h1, h2, h0, _⟩ := Row.of_owns h
  unfold maxLen at h2
  exact ⟨A, c, e, h1, h2, by omega⟩

theorem info_bs : (Tryz.prog.info? 35).map (fun i => (i.zero, i.size, i.bytes)) = some (some (.slice Option.none 0 0), 1, 24) := by kernel_rfl
theorem info_int : (Tryz.prog.info? 3).map (fun i => (i.zero, i.size, i.bytes)) = some (some (.int .i64 0), 1, 8) := by kernel_rfl

/-- Byte slices, each with its bytes, each in a block of its own, none of which S owns. -/
def Parts (w : World) (B : Nat) (vs : List Value) (ms : List (List UInt8)) (S : List Value) : Prop :=
  vs.length = ms.length ∧ ∀ (j : Nat) (u : Value), vs[j]? = some u → ∃ m, ms[j]? = some m ∧ OwnB w B u m ∧ ∀ s ∈ S, Apart u s
theorem Parts.nil (w : World) (B : Nat) (S : List Value) : Parts w B [] [] S := ⟨rfl, fun j u h => by simp at h⟩
theorem Parts.below {w w1 : World} {B : Nat} {vs : List Value} {ms : List (List UInt8)} {S : List Value} (h : Parts w B vs ms S) (hb : Below w.heap.size w w1) : Parts w1 B vs ms S :=
  ⟨h.1, fun j u hu => let ⟨m, hm, ho, ha⟩ := h.2 j u hu; ⟨m, hm, ho.below hb, ha⟩⟩
theorem Parts.snoc {w : World} {B : Nat} {vs : List Value} {ms : List (List UInt8)} {S : List Value} (h : Parts w B vs ms S) {u : Value} {m : List UInt8} (hu : OwnB w B u m) (ha : ∀ s ∈ S, Apart u s) : Parts w B (vs ++ [u]) (ms ++ [m]) S := by
  refine ⟨by simp [h.1], fun j x hx => ?_⟩
  by_cases hj : j < vs.length
  · rw [List.getElem?_append_left hj] at hx
    obtain ⟨m', hm, r⟩ := h.2 j x hx
    exact ⟨m', by rw [List.getElem?_append_left (by rw [← h.1]; exact hj)]; exact hm, r⟩
  · rw [List.getElem?_append_right (by omega)] at hx
    have hj0 : j - vs.length = 0 := by
      have := (List.getElem?_eq_some_iff.1 hx).1
      simp at this
      exact this
    rw [hj0] at hx
    simp at hx
    subst hx
    exact ⟨m, by rw [List.getElem?_append_right (by rw [← h.1]; omega), ← h.1, hj0]; rfl, hu, ha⟩
/-- One of S grows. -/
theorem Parts.grow {w w1 : World} {B : Nat} {vs : List Value} {ms : List (List UInt8)} {S : List Value} (h : Parts w B vs ms S) {s s' : Value} (hs : s ∈ S) (hg : w.grownBy w1 s.ownBlock) (hs' : s'.ownBlock = s.ownBlock ∨ s'.ownBlock = some w.heap.size)
    {S' : List Value} (hS : ∀ x ∈ S', x = s' ∨ x ∈ S) : Parts w1 B vs ms S' := by
  refine ⟨h.1, fun j u hu => ?_⟩
  obtain ⟨m, hm, ho, ha⟩ := h.2 j u hu
  refine ⟨m, hm, ho.kept hg (ha s hs).ne, fun x hx => ?_⟩
  rcases hS x hx with rfl | hx
  · exact (ha s hs).grow (fun k hk => (ho.lt k hk).2) hs'
  · exact ha x hx
theorem Parts.bs {w : World} {B : Nat} {vs : List Value} {ms : List (List UInt8)} {S : List Value} (h : Parts w B vs ms S) (j : Nat) (hj : j < ms.length) : ∃ u, vs[j]? = some u ∧ Bs w u ms[j] := by
  have hj' : j < vs.length := by rw [h.1]; exact hj
  obtain ⟨m, hm, ho, _⟩ := h.2 j vs[j] (List.getElem?_eq_getElem hj')
  rw [List.getElem?_eq_getElem hj] at hm
  cases hm
  exact ⟨_, List.getElem?_eq_getElem hj', ho.bs⟩
theorem app_row {w : World} {ops : Array Oper} {rest : List Oper} {o : Oper} {a : Act} {Q : Exit → Act → World → Prop} (hgd : o.guard = none) (s x : Operand) (t e : TypeId)
    (ho : o.op = .call { callee := .builtin .append, args := #[s, x], argTypes := #[t, t] }) (ht : Tryz.prog.underlying t = some (.slice e)) {z : Value} {bytes : Nat} (hinfo : (Tryz.prog.info? e).map (fun i => (i.zero, i.size, i.bytes)) = some (some z, 1, bytes)) (hz : z.cells.size = 1) (hb0 : 0 < bytes)
    (B : Nat) (v : Value) (hs : a.eval s = v) (n : Nat) (xs : List Value) (hown : w.ownsRow B e 1 v n xs) (u : Value) (hx : a.eval x = .slice (some ⟨w.heap.size, 0, none⟩) 1 1) (hu : u.oneCell' = true)
    (hb : (n + 1 + (n + 1) / 4 + 192) * bytes ≤ 281474976710656) (hbase : B ≤ w.heap.size)
    (h : ∀ v' w', w'.ownsRow B e 1 v' (n + 1) (xs ++ [u]) → (w.alloc (.cells #[u] e)).grownBy w' v.ownBlock → (v'.ownBlock = v.ownBlock ∨ v'.ownBlock = some (w.heap.size + 1)) → wpList Tryz.prog ops Q rest (a.put o.dst v') w') :
    wpList Tryz.prog ops Q (o :: rest) a (w.alloc (.cells #[u] e)) := by
  refine wpList_app (w := w.alloc (.cells #[u] e)) hgd s x t ho B e z 1 bytes ht hinfo hz (by omega) hb0 v hs n xs (World.ownsRow.alloc hown _) _ hx 1 [u] (Row.new w [u] e 1 1 (Nat.le_refl _) (by unfold maxLen; omega)) rfl (by simpa using hu) hb (by simp; omega) ?_
  intro v' w' h1 h2 h3
  exact h v' w' h1 h2 (by simpa using h3)
end Go.Proofs.YtjllkmkngjdjjaaGreatDoor
namespace Go.Proofs.YtjllkmkngjdjjaaGreatDoor
open Go.ChangeShapes Go.WideShapes Go.ChangeAt Go.RowKit Go.Deep
set_option maxRecDepth 100000
theorem rangeAt_below {w w1 : World} {b o : Nat} {cs : List Value} (h : w.rangeAt b o cs) (hb : Below w.heap.size w w1) : w1.rangeAt b o cs := fun j v hv => cell_below hb (h j v hv)
theorem load_digest {w : World} {g o : Nat} {d : List UInt8} (hd : d.length = 32) (h : w.rangeAt g o (u8s d)) : (Instr.loadAt 33 (.pointer (some ⟨g, o, none⟩))).run Tryz.prog w = .ok (.agg (u8s d).toArray) w := by
  have hs : (Tryz.prog.info? 33).map (·.size) = some 32 := by kernel_rfl
  exact run_loadAt_mid w g o 33 (u8s d) _ h Tryz.underlying33 rfl (by rw [hs, u8s_length, hd])
/-- A slice of digests that is read. -/
def Ds (w : World) (v : Value) (ds : List (List UInt8)) : Prop :=
  ∃ A c, v = .slice A ds.length c ∧ ds.length ≤ c ∧ c ≤ maxLen ∧ (A = none → c = 0) ∧ (∀ d ∈ ds, d.length = 32) ∧ ∀ (j : Nat) (h : j < ds.length), ∃ g o, A = some ⟨g, o, none⟩ ∧ w.rangeAt g (o + j * 32) (u8s ds[j])
theorem Ds.below {w w1 : World} {v : Value} {ds : List (List UInt8)} (h : Ds w v ds) (hb : Below w.heap.size w w1) : Ds w1 v ds :=
  let ⟨A, c, e, h1, h2, h3, h4, h5⟩ := h
  ⟨A, c, e, h1, h2, h3, h4, fun j hj => let ⟨g, o, a, b⟩ := h5 j hj; ⟨g, o, a, rangeAt_below b hb⟩⟩
theorem Ds.form {w : World} {v : Value} {ds : List (List UInt8)} (h : Ds w v ds) : ∃ A c, v = .slice A ds.length c ∧ ds.length ≤ c ∧ c ≤ 9223372036854775807 := by
  obtain ⟨A, c, e, h1, h2, -⟩ := h
  unfold maxLen at h2
  exact ⟨A, c, e, h1, h2⟩
theorem Ds.wid {w : World} {v : Value} {ds : List (List UInt8)} (h : Ds w v ds) (j : Nat) (hj : j < ds.length) : ds[j].length = 32 := by
  obtain ⟨A, c, e, h1, h2, h3, h4, h5⟩ := h
  exact h4 _ (List.getElem_mem hj)
theorem Ds.at_ {w : World} {A : Option Addr} {n c : Nat} {ds : List (List UInt8)} (h : Ds w (.slice A n c) ds) (j : Nat) (hj : j < ds.length) : ∃ g o, A = some ⟨g, o, none⟩ ∧ w.rangeAt g (o + j * 32) (u8s ds[j]) := by
  obtain ⟨A', c', e, h1, h2, h3, h4, h5⟩ := h
  cases e
  exact h5 j hj
theorem cells_get {w : World} {base : Nat} {a : Addr} {n : Nat} {cs : List Value} (h : w.cells? base a n = some cs) (j : Nat) (hj : j < n) : ∃ u, cs[j]? = some u ∧ w.cell? (a.add j) = some u := by
  have hp : cs.length = n ∧ ∀ j, j < n → ∃ u, cs[j]? = some u ∧ w.cell? (a.add j) = some u := by
    unfold World.cells? at h
    split at h
    rotate_left
    · cases h
    · have hl := mapM_some_length h
      refine ⟨by simpa using hl, fun j hj => ?_⟩
      have := mapM_some_get h j j (by simp [hj])
      have hj' : j < cs.length := by rw [hl]; simpa using hj
      refine ⟨cs[j], List.getElem?_eq_getElem hj', ?_⟩
      rw [List.getElem?_eq_getElem hj'] at this
      simpa using this
  exact hp.2 j hj
theorem cell_spot {w : World} {a : Addr} {u : Value} (h : w.cell? a = some u) : a.spot = none := by
  unfold World.cell? at h
  split at h
  · split at h
    · cases h
    · rename_i hs; simpa using hs
  · cases h
theorem bulk_mem_len {H : Type} : ∀ (l : List (DataW H)), l.length ≤ Rows.uptoBulkAll l := bulk_length
/-- An api.Digest that was read. -/
theorem digest_of_trod {H : Type} {enc : TypeId × Value → H} {W : World} {base : Nat} {spare : Nat → Bool} {held : Bool} {fuel : Nat} {cs : List Value} {x : DataW H × List MemPlace} (h : DataW.trod enc Tryz.prog W base spare held fuel 33 cs = some x) :
    ∃ d : List UInt8, d.length = 32 ∧ cs = u8s d ∧ 33 ≤ Rows.uptoBulk x.1 := by
  obtain ⟨xs, m, _, hx, hl, hn, hall⟩ := DataW.trod_array Tryz.underlying33 h
  have hc : Tryz.prog.cellsOf 5 = 1 := by kernel_rfl
  have h32 : Tryz.prog.cellsOf 33 = 32 := by kernel_rfl
  rw [h32] at hl
  have key : ∀ i, i < 32 → ∃ n : UInt8, cs[i]? = some (.int .u8 (n.toNat : Int)) := fun i hi => by
    have hi2 := hall i hi
    rw [hc, List.getElem?_eq_getElem (show i < xs.length by omega)] at hi2
    obtain ⟨n, e1, _, hw⟩ := DataW.trod_int Tryz.underlying5 hi2
    have h0 : ((cs.drop (i * 1)).take 1)[0]? = some (.int .u8 n) := by rw [e1]; rfl
    simp [Lit.wf, IntKind.min, IntKind.max, IntKind.signed, IntKind.bits] at hw
    refine ⟨UInt8.ofNat n.toNat, ?_⟩
    rw [UInt8.toNat_ofNat', Nat.mod_eq_of_lt (by omega)]
    simp [List.getElem?_drop] at h0
    rw [h0]
    congr 2
    omega
  obtain ⟨f, hf⟩ := choose_lt (α := UInt8) (p := fun i n => cs[i]? = some (.int .u8 (n.toNat : Int))) key
  refine ⟨(List.range 32).map f, by simp, ?_, ?_⟩
  · apply List.ext_getElem?
    intro i
    by_cases hi : i < 32
    · rw [hf i hi]; simp [u8s, hi]
    · rw [List.getElem?_eq_none (by omega), List.getElem?_eq_none (by simp [u8s]; omega)]
  · rw [hx]
    simp only [Rows.uptoBulk]
    have := bulk_length (H := H) (xs.map (·.1))
    simp only [List.length_map] at this
    omega
theorem bulk_many {H : Type} (c : Nat) (D : Nat → DataW H) : ∀ (l : List Nat), (∀ i ∈ l, c ≤ Rows.uptoBulk (D i)) → l.length * c ≤ Rows.uptoBulkAll (l.map D)
  | [], _ => by simp
  | i :: r, h => by
    have h1 := h i (by simp)
    have h2 := bulk_many c D r (fun j hj => h j (by simp [hj]))
    simp only [List.map_cons, List.length_cons, Rows.uptoBulkAll]
    rw [Nat.succ_mul]
    omega
/-- A []api.Digest that came in. -/
theorem open_digests_u {H : Type} {enc : TypeId × Value → H} {W : World} {base base' : Nat} {spare : Nat → Bool} {held : Bool} {v : Value} {d : DataW H} {ps : List MemPlace}
    (hok : Value.okWide Tryz.prog W .any base 31 v) (h : DataW.Trod enc Tryz.prog W base' spare held 31 v d ps) : ∃ ds, Ds W v ds ∧ ds.length * 33 ≤ Rows.uptoBulk d := by
  obtain ⟨a, len, cap, rfl⟩ := okWide_slice Tryz.underlying31 hok
  obtain ⟨fuel, hf⟩ := h
  have h32 : Tryz.prog.cellsOf 33 = 32 := by kernel_rfl
  rcases open_slice Tryz.underlying31 hf with ⟨hcs, _⟩ | ⟨x, l, c, m, n, D, Pl, hcs, _, hl, hm, hmm, hx, hcell⟩
  · simp [Value.cells] at hcs
    obtain ⟨rfl, rfl, rfl⟩ := hcs
    exact ⟨[], ⟨none, 0, rfl, Nat.le_refl _, by unfold maxLen; omega, fun _ => rfl, by simp, fun j hj => by simp at hj⟩, by simp⟩
  · simp [Value.cells] at hcs
    obtain ⟨rfl, rfl, rfl⟩ := hcs
    obtain ⟨hx, _⟩ := Prod.mk.inj hx
    subst hx
    have hlm : len ≤ m := by rw [hmm]; split <;> omega
    rw [h32] at hcell
    obtain ⟨f, hff⟩ := choose_lt (α := List UInt8) (p := fun i s => s.length = 32 ∧ (∀ j u, (u8s s)[j]? = some u → W.cell? ((x.add (i * 32)).add j) = some u) ∧ 33 ≤ Rows.uptoBulk (D i)) (n := len) (fun i hi => by
      obtain ⟨cs', h1, h2⟩ := hcell i (Nat.lt_of_lt_of_le hi hlm)
      obtain ⟨d, d1, d2, d3⟩ := digest_of_trod h2
      refine ⟨d, d1, fun j u hu => ?_, d3⟩
      have hj : j < 32 := by have := (List.getElem?_eq_some_iff.1 hu).1; rwa [u8s_length, d1] at this
      obtain ⟨u', e1, e2⟩ := cells_get h1 j hj
      rw [d2, hu] at e1
      cases e1
      exact e2)
    refine ⟨(List.range len).map f, ⟨some x, cap, by simp, by simp; exact hl, hm, fun h => (by cases h), fun d hd => ?_, fun j hj => ?_⟩, ?_⟩
    · obtain ⟨i, hi, rfl⟩ := List.mem_map.1 hd
      exact (hff i (by simpa using hi)).1
    · have hjl : j < len := by simpa using hj
      obtain ⟨f1, f2, f3⟩ := hff 0 (by omega)
      have hsp := cell_spot (f2 0 _ (u8s_get (f 0) 0 (by omega)))
      rw [Nat.zero_mul] at hsp
      have hx0 : x.spot = none := hsp
      obtain ⟨g, o, sp⟩ := x
      simp only at hx0
      subst hx0
      refine ⟨g, o, rfl, fun q u hu => ?_⟩
      rw [List.getElem_map, List.getElem_range] at hu
      have := (hff j hjl).2.1 q u hu
      rwa [Addr.add_mid, Addr.add_mid] at this
    · have h1 := bulk_many 33 D (List.range len) (fun i hi => (hff i (by simpa using hi)).2.2)
      simp only [Rows.uptoBulk, List.length_map]
      omega
/-- An api.Digest that came in. -/
theorem open_digest_u {H : Type} {enc : TypeId × Value → H} {W : World} {base base' : Nat} {spare : Nat → Bool} {held : Bool} {v : Value} {d : DataW H} {ps : List MemPlace}
    (hok : Value.okWide Tryz.prog W .any base 33 v) (h : DataW.Trod enc Tryz.prog W base' spare held 33 v d ps) : ∃ s : List UInt8, s.length = 32 ∧ v = .agg (u8s s).toArray := by
  obtain ⟨fuel, hf⟩ := h
  obtain ⟨s, s1, s2, -⟩ := digest_of_trod hf
  refine ⟨s, s1, ?_⟩
  obtain ⟨cs, rfl⟩ : ∃ cs, v = .agg cs := by
    unfold Value.okWide at hok
    rw [Tryz.underlying33] at hok
    obtain ⟨cs, e, _⟩ := hok
    exact ⟨cs, e⟩
  simp only [Value.cells] at s2
  rw [← s2]
end Go.Proofs.YtjllkmkngjdjjaaGreatDoor
namespace Go.Proofs.YtjllkmkngjdjjaaGreatDoor
open Go.RowKit

/-- AN ITERATOR's CONTRACT: it tells xs, one by one; 'R': what it reads, which a round must leave; 'Hand x args W0 W1': what a round is handed, W0 being the world that the round before left. -/
def Iter {α : Type} (F : Fence) (n : Nat) (P : Program) (gf : Nat) (lb : Array Value) (xs : List α) (Hand : α → Array Value → World → World → Prop) (R : World → Prop) : Prop :=
  ∀ (l : Nat) (J Jx : List α → World → Prop) (W : World), (∀ pre W, J pre W → R W) → J [] W →
    (∀ pre x rest args W0 W1, xs = pre ++ x :: rest → J pre W0 → Below W0.heap.size W0 W1 → Hand x args W0 W1 →
      YieldAt F (n - 1) P l args W1 fun e W' => (e = .returned (.bool true) ∧ J (pre ++ [x]) W') ∨ (e = .returned (.bool false) ∧ Jx (pre ++ [x]) W')) →
    CallsIn F n P gf (#[.func (.yield l) #[] #[]] ++ lb) W fun e W' => (∃ v, e = .returned v) ∧ ∃ W0, Below W0.heap.size W0 W' ∧ (J xs W0 ∨ ∃ pre, Jx pre W0)

theorem Iter.inRound {α : Type} {F : Fence} {n : Nat} {P : Program} {gf : Nat} {lb : Array Value} {xs : List α} {Hand : α → Array Value → World → World → Prop} {R : World → Prop} (l : Nat)
    (h : Iter F n P gf lb xs Hand R) : Iter (F.inRound l) n P gf lb xs Hand R := h

theorem below_putObj {W0 W1 : World} (h : Below W0.heap.size W0 W1) {l : Nat} {o : Obj} (hl : W0.heap[l]? = some o) (o' : Obj) : Below (W0.putObj l o').heap.size (W0.putObj l o') (W1.putObj l o') := by
  have hlt := (Array.getElem?_eq_some_iff.1 hl).1
  have hs0 : (W0.putObj l o').heap.size = W0.heap.size := by simp [World.putObj]
  have hs1 : (W1.putObj l o').heap.size = W1.heap.size := by simp [World.putObj]
  refine ⟨h.os, h.tape, h.output, by rw [hs0, hs1]; exact h.size, fun k hk => ?_⟩
  rw [hs0] at hk
  by_cases e : k = l
  · subst e
    rw [World.putObj_heap_same hlt, World.putObj_heap_same (Nat.lt_of_lt_of_le hlt h.size)]
  · rw [World.putObj_heap_other e, World.putObj_heap_other e, h.block k hk]

/-- How the body of a round may be left. -/
def roundPost {α : Type} (B : Nat) (I : List α → World → Prop) (Ix : Code → World → Prop) (xs : List α) (W : World) : Exit → Act → World → Prop
  | .normal, _, W' => KeepsFrom B W W' ∧ I xs W'
  | .ret, _, W' => KeepsFrom B W W' ∧ Ix .ret W'
  | .exit id, _, W' => KeepsFrom B W W' ∧ Ix (.exit id) W'
  | .goto t, _, W' => KeepsFrom B W W' ∧ Ix (.goto t) W'
  | .panic _, _, _ => False
  | .outgrown, _, _ => False

theorem KeepsFrom.trans' {B : Nat} {a b c : World} (h : KeepsFrom B a b) (k : KeepsFrom B b c) : KeepsFrom B a c := ⟨Nat.le_trans h.size k.size, fun i o hi hk ho => k.same i o hi (h.same i o hi hk ho) ho⟩
theorem KeepsFrom.below (B : Nat) {a b : World} (h : Below a.heap.size a b) : KeepsFrom B a b := ⟨h.size, fun i _ _ hk _ => (h.block i (Array.getElem?_eq_some_iff.1 hk).1).trans hk⟩
theorem KeepsFrom.grown (B : Nat) {a b : World} {row : Option Nat} (h : a.grownBy b row) (hr : ∀ k, row = some k → k < B ∨ ∀ o, a.heap[k]? = some o → o.isCells = true) : KeepsFrom B a b :=
  ⟨h.size, fun i o hi hk ho => (h.block i (Array.getElem?_eq_some_iff.1 hk).1 (fun e => by
    rcases hr i e.symm with h1 | h1
    · omega
    · have := h1 o hk; rw [ho] at this; cases this)).trans hk⟩

/-! what abides the loop's book-keeping -/
section turns
variable {A A' : World} {row : Option Nat} (hg : A.grownBy A' row)
include hg
theorem turn_cell (hr : ∀ r, row = some r → ∃ o : Obj, A.heap[r]? = some o ∧ o.isCells = false) {a : Addr} {v : Value} (h : A.cell? a = some v) : A'.cell? a = some v := cell_kept h hg hr
theorem turn_frozen (hr : ∀ r, row = some r → ∃ o : Obj, A.heap[r]? = some o ∧ o.isCells = false) {a : Addr} {v : Value} (h : A.cell? a = some v) (hf : A.frozen? a = false) : A'.frozen? a = false := (frozen_kept h hg hr).trans hf
theorem turn_row (hr : ∀ r, row = some r → ∃ o : Obj, A.heap[r]? = some o ∧ o.isCells = false) {v : Value} {n : Nat} {cs : List Value} (h : Row A v n cs) : Row A' v n cs := by
  obtain ⟨ad, c, e, h1, h2, h0, h3⟩ := h
  refine ⟨ad, c, e, h1, h2, h0, fun j u hu => ?_⟩
  obtain ⟨ad', hA, hc⟩ := h3 j u hu
  exact ⟨ad', hA, turn_cell hg hr hc⟩
theorem turn_bs (hr : ∀ r, row = some r → ∃ o : Obj, A.heap[r]? = some o ∧ o.isCells = false) {v : Value} {l : List UInt8} (h : Bs A v l) : Bs A' v l := turn_row hg hr h
theorem turn_owns (hr : ∀ r, row = some r → ∃ o : Obj, A.heap[r]? = some o ∧ o.isCells = false) {B : Nat} {e : TypeId} {size n : Nat} {v : Value} {xs : List Value} (h : A.ownsRow B e size v n xs) : A'.ownsRow B e size v n xs := by
  refine ⟨h.1, ?_⟩
  rcases h.2 with h2 | ⟨g, cap, cur, hv, hb, hgg, rest⟩
  · exact .inl h2
  · refine .inr ⟨g, cap, cur, hv, hb, ?_, rest⟩
    rw [hg.block g (Array.getElem?_eq_some_iff.1 hgg).1 (fun e => by
      obtain ⟨o, ho, hc⟩ := hr g e.symm
      rw [hgg] at ho
      cases ho
      cases hc)]
    exact hgg
theorem turn_ownB (hr : ∀ r, row = some r → ∃ o : Obj, A.heap[r]? = some o ∧ o.isCells = false) {B : Nat} {v : Value} {l : List UInt8} (h : OwnB A B v l) : OwnB A' B v l := turn_owns hg hr h
theorem turn_below {B n₀ : Nat} {w : World} (hr : ∀ r, row = some r → B ≤ r ∧ ∃ o : Obj, A.heap[r]? = some o ∧ o.isCells = false) (hB : n₀ ≤ B) (hn : n₀ ≤ A.heap.size) (h : Below n₀ w A) : Below n₀ w A' :=
  h.grown hg hn (fun k e => by have := (hr k e).1; omega)
end turns

variable {F : Fence} {n : Nat} {P : Program}
/-- **THE LAW, OUTSIDE A ROUND.** -/
theorem wpIn_range {α : Type} {g : Operand} {ps : Array Tmp} {assign body : Code} {Q : Exit → Act → World → Prop} {a : Act} {w : World}
    (hro : F.round = none) (h1 : 1 ≤ n) {gf : Nat} {lb : Array Value} (hg : a.eval g = .func (.func gf) #[] lb) (hFg : F.fn gf) (eg : ∀ args w, (callFunc gf args).run P w = .ok (.enter gf args) w)
    {xs : List α} {Hand : α → Array Value → World → World → Prop} {R : World → Prop} (hit : Iter F (n - 1) P gf lb xs Hand R)
    (hps : ∀ x args W0 W1, Hand x args W0 W1 → args.size = ps.size)
    (I : List α → World → Prop) (Ix : Code → World → Prop) (hI : OwnFrom w.heap.size I) (hIx : OwnFrom w.heap.size Ix) (hIR : ∀ pre W, I pre W → R W) (h0 : I [] w)
    (Ax : α → Act → World → World → Prop) (hAx : ∀ x a' W0 W1 l o o', Ax x a' W0 W1 → W0.heap[l]? = some o → W1.heap[l]? = some o → o.isCells = false → Ax x a' (W0.putObj l o') (W1.putObj l o'))
    (hassign : ∀ (l : Nat) (x : α) (args : Array Value) (W0 W1 : World) (K : Act → World → Prop), w.heap.size ≤ W0.heap.size → Below W0.heap.size W0 W1 → Hand x args W0 W1 → (∀ a' W2, Below W1.heap.size W1 W2 → Ax x a' W0 W2 → K a' W2) →
      assign.wpIn (F.inRound l) (n - 1 - 1) P (Exit.then K (fun _ _ _ => False)) { tmps := (ps.zip args).foldl (fun t (p, v) => t.setIfInBounds p v) a.tmps, defers := [] } W1)
    (hbody : ∀ (l : Nat) (pre : List α) (x : α) (rest : List α) (a' : Act) (W0 W1 : World), w.heap.size ≤ l → (∃ r, W1.heap[l]? = some (.loop r)) → xs = pre ++ x :: rest → I pre W0 → Below W0.heap.size W0 W1 → Ax x a' W0 W1 →
      body.wpIn (F.inRound l) (n - 1 - 1) P (roundPost w.heap.size I Ix (pre ++ [x]) W1) a' W1)
    (hdone : ∀ (D : Nat) (W0 W : World), w.heap.size ≤ D → I xs W0 → Below W0.heap.size W0 W → W.heap[D]? = some (.deferred (some [])) → Q .normal { a with defers := { target := .collected D, args := #[] } :: a.defers } W)
    (hstop : ∀ (D : Nat) (c : Code) (W0 W : World), w.heap.size ≤ D → Ix c W0 → Below W0.heap.size W0 W → W.heap[D]? = some (.deferred (some [])) → c.wpIn F n P Q { a with defers := { target := .collected D, args := #[] } :: a.defers } W) :
    (Code.rangeFunc g ps assign body).wpIn F n P Q a w := by
  refine wpIn_rangeFunc ?_
  intro fn hfn
  rw [hro]
  obtain ⟨rec, hrec⟩ : ∃ rec : LoopState → Option Code → Loop, rec = fun st pe => { state := st, pending := pe, fn, tmps := a.tmps, params := ps, assign, body, defers := w.heap.size } := ⟨_, rfl⟩
  obtain ⟨W1, hW1⟩ : ∃ W1, (w.alloc (.deferred (some []))).alloc (.loop (rec .ready none)) = W1 := ⟨_, rfl⟩
  have hL1 : W1.heap[w.heap.size + 1]? = some (.loop (rec .ready none)) := by
    rw [← hW1]; have := World.alloc_heap_new (w.alloc (.deferred (some []))) (.loop (rec .ready none)); rwa [World.size_alloc] at this
  have hK1 : W1.heap[w.heap.size]? = some (.deferred (some [])) := by
    rw [← hW1]; exact (Below.heap_alloc _ _ _ (by simp)).trans (World.alloc_heap_new w _)
  have hI1 : I [] W1 := by rw [← hW1]; exact hI.alloc _ (hI.alloc _ h0)
  refine ⟨w.heap.size + 1, [{ target := .collected w.heap.size, args := #[] }], W1, { target := .fn (.func gf) lb, args := #[.func (.yield (w.heap.size + 1)) #[] #[]] }, W1, gf,
    #[.func (.yield (w.heap.size + 1)) #[] #[]] ++ lb, W1, ?_, ?_, ?_, ?_, fun _ => h1, ?_⟩
  · rw [← hW1, hrec]; exact run_enterLoop_outer _ _ _ _ _
  · simp only [resolve, hg]
    simp [go_sem]
  · intro f' hf'; simp [Target.leads] at hf'; subst hf'; exact hFg
  · simp [invoke, go_sem, eg]
  · refine (hit (w.heap.size + 1)
      (fun pre W => I pre W ∧ W.heap[w.heap.size + 1]? = some (.loop (rec .ready none)) ∧ W.heap[w.heap.size]? = some (.deferred (some [])))
      (fun _ W => ∃ c, Ix c W ∧ W.heap[w.heap.size + 1]? = some (.loop (rec .done (some c))) ∧ W.heap[w.heap.size]? = some (.deferred (some [])))
      W1 (fun pre W h => hIR pre W h.1) ⟨hI1, hL1, hK1⟩ ?_).mono ?_
    · rintro pre x rest args W0 Wy hxs ⟨hi, hl, hk⟩ hb hh
      have hlt : w.heap.size + 1 < W0.heap.size := (Array.getElem?_eq_some_iff.1 hl).1
      have hly := (hb.block _ hlt).trans hl
      have hky := (hb.block _ (by omega : w.heap.size < W0.heap.size)).trans hk
      have hy := run_yield (P := P) (args := args) hly (by rw [hrec]; exact hps x args W0 Wy hh)
      rw [hrec] at hy
      refine ⟨fn, _, assign, body, hy, roundIn_of_wpIn hfn (hassign _ x args W0 Wy _ (by omega) hb hh ?_)⟩
      clear hy
      intro a' W2 hb2 hax
      have hb02 : Below W0.heap.size W0 W2 := hb.trans (hb2.mono hb.size)
      have hl2 := (hb02.block _ hlt).trans hl
      have hk2 := (hb02.block _ (by omega : w.heap.size < W0.heap.size)).trans hk
      refine ⟨_, run_beginRound hl2 (by rw [hrec]), ?_⟩
      have hlt2 : w.heap.size + 1 < W2.heap.size := Nat.lt_of_lt_of_le hlt hb02.size
      have hlb : (W2.putObj (w.heap.size + 1) (.loop { rec .ready none with state := .busy })).heap[w.heap.size + 1]? = some (.loop { rec .ready none with state := .busy }) := World.putObj_heap_same hlt2
      have hkb : (W2.putObj (w.heap.size + 1) (.loop { rec .ready none with state := .busy })).heap[w.heap.size]? = some (.deferred (some [])) := (World.putObj_heap_other (by omega)).trans hk2
      refine wpIn_mono (hbody (w.heap.size + 1) pre x rest a' (W0.putObj (w.heap.size + 1) (.loop { rec .ready none with state := .busy })) _ (by omega) ⟨_, hlb⟩ hxs (hI.putObj _ hi (by omega) hl rfl) (below_putObj hb02 hl _) (hAx _ _ _ _ _ _ _ hax hl hl2 rfl)) ?_
      have fin : ∀ (jump : Option Code) (W3 : World), KeepsFrom w.heap.size (W2.putObj (w.heap.size + 1) (.loop { rec .ready none with state := .busy })) W3 →
          (Instr.endRound (w.heap.size + 1) jump).run P W3 = .ok (.bool jump.isNone) (W3.putObj (w.heap.size + 1) (.loop (rec (if jump.isNone then .ready else .done) jump))) ∧
          W3.heap[w.heap.size + 1]? = some (.loop { rec .ready none with state := .busy }) ∧
          (W3.putObj (w.heap.size + 1) (.loop (rec (if jump.isNone then .ready else .done) jump))).heap[w.heap.size + 1]? = some (.loop (rec (if jump.isNone then .ready else .done) jump)) ∧
          (W3.putObj (w.heap.size + 1) (.loop (rec (if jump.isNone then .ready else .done) jump))).heap[w.heap.size]? = some (.deferred (some [])) := fun jump W3 hk3 => by
        have hl3 := hk3.same _ _ (by omega) hlb rfl
        have := run_endRound (P := P) jump hl3
        rw [hrec] at this ⊢
        exact ⟨this, by rw [hrec] at hl3; exact hl3, World.putObj_heap_same (Array.getElem?_eq_some_iff.1 hl3).1, (World.putObj_heap_other (by omega)).trans (hk3.same _ _ (Nat.le_refl _) hkb rfl)⟩
      rintro e a3 W3 hp
      cases e with
      | normal =>
        obtain ⟨hk3, hi3⟩ := hp
        obtain ⟨hr, hl3, hl4, hk4⟩ := fin none W3 hk3
        exact ⟨_, _, hr, .inl ⟨rfl, hI.putObj _ hi3 (by omega) hl3 rfl, hl4, hk4⟩⟩
      | ret =>
        obtain ⟨hk3, hi3⟩ := hp
        obtain ⟨hr, hl3, hl4, hk4⟩ := fin (some .ret) W3 hk3
        exact ⟨_, _, hr, .inr ⟨rfl, .ret, hIx.putObj _ hi3 (by omega) hl3 rfl, hl4, hk4⟩⟩
      | exit id =>
        obtain ⟨hk3, hi3⟩ := hp
        obtain ⟨hr, hl3, hl4, hk4⟩ := fin (some (.exit id)) W3 hk3
        exact ⟨_, _, hr, .inr ⟨rfl, .exit id, hIx.putObj _ hi3 (by omega) hl3 rfl, hl4, hk4⟩⟩
      | goto t =>
        obtain ⟨hk3, hi3⟩ := hp
        obtain ⟨hr, hl3, hl4, hk4⟩ := fin (some (.goto t)) W3 hk3
        exact ⟨_, _, hr, .inr ⟨rfl, .goto t, hIx.putObj _ hi3 (by omega) hl3 rfl, hl4, hk4⟩⟩
      | panic ch => exact hp.elim
      | outgrown => exact hp.elim
    · rintro e W2 ⟨⟨v, rfl⟩, W0, hb, (⟨hi, hl, hk⟩ | ⟨pre, c, hi, hl, hk⟩)⟩
      · have hlt := (Array.getElem?_eq_some_iff.1 hl).1
        have hl2 := (hb.block _ hlt).trans hl
        have hk2 := (hb.block _ (by omega : w.heap.size < W0.heap.size)).trans hk
        exact ⟨none, _, by have := run_endLoop (P := P) hl2 (by rw [hrec]; simp); rw [hrec] at this; exact this, hdone _ _ _ (Nat.le_refl _) (hI.putObj _ hi (by omega) hl rfl) (below_putObj hb hl _) ((World.putObj_heap_other (by omega)).trans hk2)⟩
      · have hlt := (Array.getElem?_eq_some_iff.1 hl).1
        have hl2 := (hb.block _ hlt).trans hl
        have hk2 := (hb.block _ (by omega : w.heap.size < W0.heap.size)).trans hk
        exact ⟨some c, _, by have := run_endLoop (P := P) hl2 (by rw [hrec]; simp); rw [hrec] at this; exact this, hstop _ c _ _ (Nat.le_refl _) (hIx.putObj _ hi (by omega) hl rfl) (below_putObj hb hl _) ((World.putObj_heap_other (by omega)).trans hk2)⟩
end Go.Proofs.YtjllkmkngjdjjaaGreatDoor
namespace Go.Proofs.YtjllkmkngjdjjaaGreatDoor
open Go.RowKit
variable {F : Fence} {n : Nat} {P : Program}

/-- An iterator that tells nothing, where R holds. -/
def IterNone (F : Fence) (n : Nat) (P : Program) (gf : Nat) (lb : Array Value) (R : World → Prop) : Prop :=
  ∀ (l : Nat) (W : World), R W → CallsIn F n P gf (#[.func (.yield l) #[] #[]] ++ lb) W fun e W' => (∃ v, e = .returned v) ∧ Below W.heap.size W W'

theorem IterNone.iter {gf : Nat} {lb : Array Value} {R : World → Prop} (h : IterNone F n P gf lb R) : Iter F n P gf lb ([] : List Unit) (fun _ _ _ _ => False) R :=
  fun l _ _ W hJR hJ0 _ => (h l W (hJR [] W hJ0)).mono fun _ _ ⟨h1, h2⟩ => ⟨h1, W, h2, .inl hJ0⟩

theorem wpIn_range_none {g : Operand} {ps : Array Tmp} {assign body : Code} {Q : Exit → Act → World → Prop} {a : Act} {w : World}
    (hro : F.round = none) (h1 : 1 ≤ n) {gf : Nat} {lb : Array Value} (hg : a.eval g = .func (.func gf) #[] lb) (hFg : F.fn gf) (eg : ∀ args w, (callFunc gf args).run P w = .ok (.enter gf args) w)
    {R : World → Prop} (hit : IterNone F (n - 1) P gf lb R) (hR : ∀ W', Below w.heap.size w W' → R W')
    (hdone : ∀ (D : Nat) (W' : World), w.heap.size ≤ D → Below w.heap.size w W' → W'.heap[D]? = some (.deferred (some [])) → Q .normal { a with defers := { target := .collected D, args := #[] } :: a.defers } W') :
    (Code.rangeFunc g ps assign body).wpIn F n P Q a w := by
  refine wpIn_range hro h1 hg hFg eg hit.iter (by rintro x args W0 W1 h; exact h.elim) (fun _ W => Below w.heap.size w W) (fun _ _ => False)
    (fun _ X Y row h hgr hr => turn_below hgr hr (Nat.le_refl _) h.size h) (fun _ _ _ _ h _ _ => h) (fun _ W h => hR W h) (Below.refl _ _) (fun _ _ _ _ => False) (fun _ _ _ _ _ _ _ h _ _ _ => h) ?_ ?_ ?_ ?_
  · intro l x args W0 W1 K _ _ h _
    exact h.elim
  · intro l pre x rest a' W0 W1 _ _ _ _ _ h
    exact h.elim
  · intro D W0 W hD h hb hK
    exact hdone D W hD (below_then h hb) hK
  · intro D c W0 W _ h
    exact h.elim

/-- The mark of a loop that is over, still there. -/
theorem mark_below {w w1 : World} (hb : Below w.heap.size w w1) {D : Nat} {o : Obj} (h : w.heap[D]? = some o) : w1.heap[D]? = some o :=
  (hb.block D (Array.getElem?_eq_some_iff.1 h).1).trans h
theorem stepR_scope {b : Frame} {a : Act} {k : List Item} {cs : List Frame} {w : World} {c : Code} : step P (lone (b.atR a (.code (.scope c) :: k)) cs w) = .next (lone (b.atR a (.code c :: .inScope c :: k)) cs w) :=
  step_lone_go (by simp [stepG, stepG.exec, Frame.atR])
theorem stepR_inScope {b : Frame} {a : Act} {k : List Item} {cs : List Frame} {w : World} {c : Code} : step P (lone (b.atR a (.inScope c :: k)) cs w) = .next (lone (b.atR a k) cs w) :=
  step_lone_go (by simp [stepG, stepG.exec, Frame.atR])
/-- A scope through which the run goes without a goto, inside a fence. -/
theorem wpIn_scope_straight {c : Code} {Q : Exit → Act → World → Prop} {a : Act} {w : World} (h : c.wpIn F n P (Exit.noGoto Q) a w) : (Code.scope c).wpIn F n P Q a w := by
  intro b k cs hro hb hr
  have h0 : (lone (b.atR a (.code (.scope c) :: k)) cs w).fenced P F := fenced_calm hb hr rfl
  obtain ⟨e, a₁, w₁, hq, harr⟩ := h b (.inScope c :: k) cs hro hb hr
  cases e with
  | normal => exact ⟨.normal, a₁, w₁, hq, .head h0 stepR_scope (StepsIn.trans harr (.one (fenced_calm hb hr rfl) stepR_inScope))⟩
  | exit id => exact ⟨.exit id, a₁, w₁, hq, fun k' hk => .head h0 stepR_scope (harr.1 k' (by simp [exitTo, hk])),
      fun hr' hk => let ⟨k₁, h1, h2⟩ := harr.2 hr' (by simpa [exitTo] using hk); ⟨k₁, h1, .head h0 stepR_scope h2⟩⟩
  | goto l => exact hq.elim
  | ret => exact ⟨_, a₁, w₁, hq, .of_steps (.one h0 stepR_scope) harr⟩
  | panic ch => exact ⟨_, a₁, w₁, hq, .of_steps (.one h0 stepR_scope) harr⟩
  | outgrown => exact ⟨_, a₁, w₁, hq, .of_steps (.one h0 stepR_scope) harr⟩
end Go.Proofs.YtjllkmkngjdjjaaGreatDoor
namespace Go.Proofs.YtjllkmkngjdjjaaGreatDoor
open Go.RowKit
/-- What 'for _, d := range []*T{nil, {}}' lays ahead of its rounds. -/
theorem pair_cells (w : World) (z : Array Value) (t tp : TypeId) :
    Below w.heap.size w ((w.alloc (.cells z t)).alloc (.cells #[.pointer Option.none, .pointer (some ⟨w.heap.size, 0, Option.none⟩)] tp)) ∧
    (∀ (j : Nat) (x : Value), z[j]? = some x → ((w.alloc (.cells z t)).alloc (.cells #[.pointer Option.none, .pointer (some ⟨w.heap.size, 0, Option.none⟩)] tp)).cell? ⟨w.heap.size, j, Option.none⟩ = some x) ∧
    ((w.alloc (.cells z t)).alloc (.cells #[.pointer Option.none, .pointer (some ⟨w.heap.size, 0, Option.none⟩)] tp)).cell? ⟨w.heap.size + 1, 0, Option.none⟩ = some (.pointer Option.none) ∧
    ((w.alloc (.cells z t)).alloc (.cells #[.pointer Option.none, .pointer (some ⟨w.heap.size, 0, Option.none⟩)] tp)).cell? ⟨w.heap.size + 1, 1, Option.none⟩ = some (.pointer (some ⟨w.heap.size, 0, Option.none⟩)) := by
  have hn := heap_alloc_new (w.alloc (.cells z t)) (.cells #[.pointer Option.none, .pointer (some ⟨w.heap.size, 0, Option.none⟩)] tp)
  rw [World.size_alloc] at hn
  refine ⟨((Below.refl _ _).alloc (Nat.le_refl _) _).alloc (by simp) _, fun j x hx => ?_, cell_of_row _ (w.heap.size + 1) 0 _ _ (0, 0) hn, cell_of_row _ (w.heap.size + 1) 1 _ _ (0, 0) hn⟩
  refine cell_below (below_alloc1 _ _) ?_
  have h1 := heap_alloc_new w (.cells z t)
  have hj : j < z.size := (Array.getElem?_eq_some_iff.1 hx).1
  rw [cell_of_row _ w.heap.size j _ _ (0, 0) h1]
  exact hx

theorem equalIn_func_nil {P : Program} (d : Nat) (t : TypeId) (ps rs : Array TypeId) (vd : Bool) (h : P.underlying t = some (.func ps rs vd)) (f : Fn) (cs bs : Array Value) (w : World) :
    (Op.equalIn (d + 1) t (.func f cs bs) .nilFunc).run P w = .ok false w := by
  simp [Op.equalIn, run_underlying h]
theorem eql_func_nil {P : Program} (t : TypeId) (ps rs : Array TypeId) (vd : Bool) (h : P.underlying t = some (.func ps rs vd)) (f : Fn) (cs bs : Array Value) (w : World) :
    (binOp .eql t (.func f cs bs) .nilFunc).run P w = .ok (.bool false) w := by
  simp only [binOp]
  simp [Op.equal, Op.maxDepth, equalIn_func_nil 9999 t ps rs vd h f cs bs w]

/-- A load whose run is known, in a fenced walk. -/
theorem wpListIn_load_run {F : Fence} {n : Nat} {P : Program} {w : World} {ops : Array Oper} {rest : List Oper} {o : Oper} {a : Act} {Q : Exit → Act → World → Prop} (hg : o.guard = Option.none) (ty : TypeId) (x : Operand) (ho : o.op = .load ty x)
    (p v : Value) (hx : a.eval x = p) (hr : (Instr.loadAt ty p).run P w = .ok v w) (h : wpListIn F n P ops Q rest (a.put o.dst v) w) : wpListIn F n P ops Q (o :: rest) a w := by
  refine wpListIn_plain hg fun K' hK' => ?_
  unfold Oper.wpIn
  refine ⟨by simp [Oper.about, ho], ?_⟩
  rw [Oper.semAt_plain F _ _ (by rw [ho]; intro c hc'; cases hc')]
  simp [execOp, ho, hx, hr, Result.andThen]
  exact hK' _ _ h
/-- The function leaves with two marks. -/
theorem leaves_two {F : Fence} {n : Nat} {P : Program} {fn : Func} {tmps : Array Value} {R : Ending → World → Prop} {w W : World} {D D2 : Nat} {v : Value}
    (h1 : W.heap[D]? = some (.deferred (some []))) (h2 : W.heap[D2]? = some (.deferred (some []))) (hne : D ≠ D2) (hD : w.heap.size ≤ D) (hD2 : w.heap.size ≤ D2) (hB : Below w.heap.size w W)
    (hr : ∀ W', (results fn tmps).run P W' = .ok v W') (hR : ∀ W', Below w.heap.size w W' → R (.returned v) W') :
    LeavesInM F n P fn tmps R [{ target := .collected D2, args := #[] }, { target := .collected D, args := #[] }] .returning W := by
  have h1' : (W.putObj D2 (.deferred Option.none)).heap[D]? = some (.deferred (some [])) := (World.putObj_heap_other hne).trans h1
  refine ⟨by simp, .inl ⟨_, _, rfl, run_takeDeferred h2, ?_⟩⟩
  refine ⟨by simp, .inl ⟨_, _, rfl, run_takeDeferred h1', ?_⟩⟩
  exact ⟨_, hr _, hR _ ((hB.trans (belowK_b (w := w) (Nat.le_refl _) W D2 _ _ hD2 h2 rfl rfl)).trans (belowK_b (w := w) (Nat.le_refl _) _ D _ _ hD h1' rfl rfl))⟩
end Go.Proofs.YtjllkmkngjdjjaaGreatDoor
