/- WALKS of package digests' small functions: comparing. No statement of the seed is proved here. -/
import Derived.Test.YthgjecofmnomfaaDoorWhole
import Derived.Test.YthgjecofmnomfaaDoorDigM
import Derived.Test.YthgjecofmnomfaaDoorQuietTail
import Derived.Lib.Bytealg
namespace Go.Proofs.YthgjecofmnomfaaDoor
open Go.RowKit
set_option maxRecDepth 100000

theorem loadBytes_run {P : Program} {w : World} : ∀ (l : List UInt8) (a : Addr) (acc : ByteArray), (∀ (j : Nat) (h : j < l.length), w.cell? (a.add j) = some (.int .u8 (l[j].toNat : Int))) → (Extern.Bytes.loadBytes a l.length acc).run P w = .ok ⟨acc.data ++ l.toArray⟩ w
  | [], a, acc, _ => by
    show Sem.run P (pure acc) w = _
    rw [Sem.run_pure]
    have e : acc = ⟨acc.data ++ ([] : List UInt8).toArray⟩ := by apply ByteArray.ext; simp
    rw [← e]
  | x :: l, a, acc, h => by
    have h0 := h 0 (by simp)
    have ih := loadBytes_run (P := P) l (a.add 1) (acc.push x) (fun j hj => by
      have := h (j + 1) (by simp; omega)
      rw [add_add, Nat.add_comm 1 j]
      simpa using this)
    have ha : a.add 0 = a := rfl
    rw [ha] at h0
    simp only [List.length_cons, Extern.Bytes.loadBytes]
    simp only [Sem.run_bind, run_load, h0, Result.andThen_ok]
    have hx : ((((x :: l)[0]).toNat : Int)).toNat.toUInt8 = x := by simp
    have e : (acc.push x).data ++ l.toArray = acc.data ++ (x :: l).toArray := by simp [ByteArray.push]
    rw [← e]
    rw [hx]
    exact ih
theorem bytesOf_bs {P : Program} {w : World} {v : Value} {l : List UInt8} (h : Bs w v l) : (Extern.Bytes.bytesOf v).run P w = .ok ⟨l.toArray⟩ w := by
  obtain ⟨A, c, rfl, h1, h2, h0, h3⟩ := h
  cases A with
  | none =>
    have hc := h0 rfl
    have : l = [] := List.eq_nil_of_length_eq_zero (by omega)
    subst this
    rfl
  | some ad =>
    have := loadBytes_run (P := P) l ad .empty (fun j hj => by
      obtain ⟨ad', hA, hc⟩ := h3 j _ (u8s_get l j hj)
      cases hA
      exact hc)
    simpa [Extern.Bytes.bytesOf] using this
theorem run_compare (va vb : Value) (la lb : List UInt8) (w : World) (ha : Bs w va la) (hb : Bs w vb lb) :
    (Extern.BytealgCompare.compare #[va, vb]).run Tryd.prog w = .ok (.int .i64 (Lib.compareBytes la lb)) w := by
  change Sem.run Tryd.prog (do pure (goInt (Extern.BytealgCompare.cmp (← Extern.Bytes.bytesOf va) (← Extern.Bytes.bytesOf vb)))) w = _
  simp only [Sem.run_bind, bytesOf_bs ha, bytesOf_bs hb, Result.andThen_ok, Sem.run_pure]
  rw [Lib.cmp_eq]
  simp [goInt]
theorem compare_any (va vb : Value) (la lb : List UInt8) (w : World) (ha : Bs w va la) (hb : Bs w vb lb) :
    Calls Tryd.prog 56 #[va, vb] w fun e w' => e = .returned (.int .i64 (Lib.compareBytes la lb)) ∧ w' = w := by
  obtain ⟨A, c, rfl, _, _, _⟩ := ha.form
  obtain ⟨B, d, rfl, _, _, _⟩ := hb.form
  have hr := run_compare _ _ la lb w ha hb
  clear ha hb
  go_enter Tryd.func56, Tryd.ntmps56
  go_wp2
  rw [run_callFunc_extern Tryd.func62 (by kernel_rfl) (by kernel_rfl) (by kernel_rfl) (e := Extern.BytealgCompare.compare) (by kernel_rfl), hr]
  simp only [Result.andThen]
  rw [Oper.upon_value]
  go_wp2
  go_ret
  exact ⟨rfl, rfl⟩
/-- An item's cells. -/
def itemL (x : Item) : List Value := u8s x.1 ++ [.int .i64 x.2]
theorem itemL_length (x : Item) (h : x.1.length = 32) : (itemL x).length = 33 := by simp [itemL, u8s_length, h]
theorem itemL_get (x : Item) (h : x.1.length = 32) (j : Nat) (hj : j < 32) : (itemL x)[j]? = some (.int .u8 ((x.1[j]'(by omega)).toNat : Int)) := by
  unfold itemL
  rw [List.getElem?_append_left (by rw [u8s_length]; omega)]
  exact u8s_get x.1 j (by omega)
theorem itemL_place (x : Item) (h : x.1.length = 32) : (itemL x)[32]? = some (.int .i64 x.2) := by
  unfold itemL
  rw [List.getElem?_append_right (by rw [u8s_length]; omega), u8s_length, h]
  rfl
/-- A digest in a block, sliced. -/
theorem bs_at {w : World} {g o : Nat} {d : List UInt8} (h32 : d.length = 32) (h : ∀ (j : Nat) (hj : j < d.length), w.cell? ⟨g, o + j, none⟩ = some (.int .u8 (d[j].toNat : Int))) : Bs w (.slice (some ⟨g, o, none⟩) 32 32) d := by
  refine ⟨some ⟨g, o, none⟩, 32, by rw [h32], by omega, by unfold maxLen; omega, fun h => (by cases h), fun j u hu => ⟨_, rfl, ?_⟩⟩
  have hj : j < d.length := by have := (List.getElem?_eq_some_iff.1 hu).1; rwa [u8s_length] at this
  rw [u8s_get d j hj] at hu
  cases hu
  rw [show (⟨g, o, none⟩ : Addr).add j = ⟨g, o + j, none⟩ by unfold Addr.add; split <;> simp_all]
  exact h j hj
theorem bs_box {w : World} {b : Nat} {x : Item} {t : TypeId} (hx : x.1.length = 32) (h : w.heap[b]? = some (.cells (itemL x).toArray t)) : Bs w (.slice (some ⟨b, 0, none⟩) 32 32) x.1 :=
  bs_at hx fun j hj => by
    rw [Nat.zero_add, cell_of_row _ b j _ _ (0, 0) h]
    simpa using itemL_get x hx j (by omega)
theorem icompare (x y : Item) (hx : x.1.length = 32) (hy : y.1.length = 32) (w : World) :
    Calls Tryd.prog 44 #[.agg (itemL x).toArray, .agg (itemL y).toArray] w fun e w' => e = .returned (.int .i64 (Lib.compareBytes x.1 y.1)) ∧ Below w.heap.size w w' := by
  have hB := below_then (below_alloc1 w (.cells (itemL x).toArray 90)) (below_alloc1 _ (.cells (itemL y).toArray 90))
  have h1 := bs_box hx (heap_alloc2_old w (.cells (itemL x).toArray 90) (.cells (itemL y).toArray 90))
  have h2 := bs_box hy (heap_alloc2_new w (.cells (itemL x).toArray 90) (.cells (itemL y).toArray 90))
  go_enter Tryd.func44, Tryd.ntmps44
  go_wp2
  generalize (w.alloc (.cells (itemL x).toArray 90)).alloc (.cells (itemL y).toArray 90) = W at hB h1 h2 ⊢
  go_quiet ((go_at_call 56; exact Calls.quiet_of_same (compare_any _ _ _ _ _ h1 h2)))
  go_wp2
  go_ret
  exact ⟨rfl, below_drewN hB _⟩
/-- sort.Search over the closure of Find. -/
theorem search_calls (n : Nat) (hn : n ≤ 4611686018427387904) (lb : Array Value) (p : Nat → Bool) (w : World) (hm : ∀ i j, i ≤ j → p i = true → p j = true)
    (hf : ∀ (i : Nat), i < n → ∀ w', Below w.heap.size w w' → Calls Tryd.prog 55 (#[.int .i64 (i : Int)] ++ lb) w' fun e w'' => e = .returned (.bool (p i)) ∧ Below w'.heap.size w' w'') :
    Calls Tryd.prog 54 #[.int .i64 (n : Int), .func (.func 55) #[] lb] w fun e w' => ∃ k : Nat, k ≤ n ∧ e = .returned (.int .i64 (k : Int)) ∧ (∀ q, q < k → p q = false) ∧ (k < n → p k = true) ∧ Below w.heap.size w w' := by
  have HF := Lib.hid hf; clear hf
  have HM := Lib.hid hm; clear hm
  go_enter Tryd.func54, Tryd.ntmps54
  go_wp2
  go_loopw [5, 6, 7] (fun i j _ wr => ∃ a b : Nat, a ≤ b ∧ b ≤ n ∧ i = .int .i64 (a : Int) ∧ j = .int .i64 (b : Int) ∧ Hid (∀ q, q < a → p q = false) ∧ Hid (b < n → p b = true) ∧ Below w.heap.size w wr) (fun i j _ _ => (intOf j - intOf i).toNat)
  case atStart => exact ⟨0, n, by omega, by omega, rfl, rfl, Lib.hid (fun q hq => by omega), Lib.hid (fun h => by omega), Below.refl _ _⟩
  case round =>
    obtain ⟨a, b, hab, hbn, rfl, rfl, ha, hb, hB⟩ := hrel
    by_cases hlt : a < b
    · have e1 : IntKind.u64.wrap ((a : Int) + (b : Int)) = (a : Int) + (b : Int) := by rw [IntKind.wrap_u64]; omega
      have e2 : IntKind.i64.wrap (((a : Int) + (b : Int)) / 2) = ((a + b) / 2 : Nat) := by rw [IntKind.wrap_i64]; omega
      have hc := HF.out ((a + b) / 2) (by omega) wr hB
      have hmid : (a + b) / 2 < b := by omega
      have hmid2 : a ≤ (a + b) / 2 := by omega
      generalize hc' : (a + b) / 2 = c at hc hmid hmid2 e2
      clear hc'
      obtain ⟨r, hr⟩ : ∃ r, p c = r := ⟨_, rfl⟩
      rw [hr] at hc
      have HC := Lib.hid hc; clear hc
      have HR := Lib.hid hr; clear hr
      go_wp2_with fail
      refine HC.out.mono ?_
      rintro e w1 ⟨rfl, hB1⟩
      have hB2 := below_then hB hB1
      cases r with
      | true =>
        go_wp2_with fail
        go_roundw
        case rel => exact ⟨a, c, hmid2, by omega, rfl, rfl, ha, Lib.hid (fun _ => HR.out), hB2⟩
        case measure => simp [intOf]; omega
      | false =>
        have e3 : IntKind.i64.wrap ((c : Int) + 1) = ((c + 1 : Nat) : Int) := by rw [IntKind.wrap_i64]; omega
        go_wp2_with fail
        go_roundw
        case rel =>
          refine ⟨c + 1, b, by omega, hbn, rfl, rfl, Lib.hid (fun q hq => ?_), hb, hB2⟩
          cases hq' : p q with
          | false => rfl
          | true => have := HM.out q c (by omega) hq'; rw [HR.out] at this; cases this
        case measure => simp [intOf]; omega
    · have hab' : a = b := by omega
      subst hab'
      go_wp2_with fail
      go_ret
      exact ⟨a, by omega, rfl, ha.out, hb.out, hB⟩
end Go.Proofs.YthgjecofmnomfaaDoor
