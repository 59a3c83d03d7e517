/- WORDS for Add: where it stands at its loop's head; what its end leaves. No statement of the seed is proved here. -/
import Derived.Test.YthgjecofmnomfaaDigD
namespace Go.Proofs.Ythgjecofmnomfaa
open Go.RowKit
set_option maxRecDepth 100000

theorem info_row : (Try.prog.info? 64).map (fun i => (i.zero, i.size, i.bytes)) = some (some (.slice Option.none 0 0), 1, 24) := by kernel_rfl
/-- Where Add stands at its loop's head. -/
structure AtLoop (w : World) (B p : Nat) (us : List Value) (rs : List (List Item)) (x : Item) (A : Option Addr) (c : Nat) (m : Nat) (v : Value) (run : List Item) (wr : World) : Prop where
  le : m ≤ rs.length
  own : wr.ownsRow w.heap.size 63 33 v run.length (itemsL run)
  wid : Wid run
  sorted : SortedI run
  ne : run ≠ []
  total : run.length + (rs.take m).flatten.length = rs.flatten.length + 1
  carry : carry (rs.take m).reverse run = carry rs.reverse [x]
  perm : True
  c0 : wr.cell? ⟨p, 0, none⟩ = some (.bool true)
  c1 : wr.cell? ⟨p, 1, none⟩ = some (.slice A m c)
  f1 : wr.frozen? ⟨p, 1, none⟩ = false
  near : Nearly p w wr
theorem AtLoop.at_ {w : World} {B p : Nat} {us : List Value} {rs : List (List Item)} {x : Item} {A : Option Addr} {c m : Nat} {v : Value} {run : List Item} {wr : World} (h : AtLoop w B p us rs x A c m v run wr) (hx : Ix w B p (.slice A rs.length c) us rs) (k : Nat) (hk : k < rs.length) :
    ∃ ad u, A = some ad ∧ us[k]? = some u ∧ wr.cell? (ad.add k) = some u ∧ wr.ownsRow B 63 33 u rs[k].length (itemsL rs[k]) := by
  have hown : wr.ownsRow B 64 1 (.slice A rs.length c) rs.length us := owns_mods hx.own fun q hq hl => h.near.block q hl (fun e => hx.pv (by rw [hq, e]))
  obtain ⟨u, h1, h2, -, h4⟩ := hx.runs k hk
  obtain ⟨ad, hA, hc⟩ := (Row.of_owns hown).at_ k h1
  exact ⟨ad, u, hA, h1, hc, owns_mods h2 fun q hq hl => h.near.block q hl (fun e => h4 (by rw [hq, e]))⟩
theorem AtLoop.row {w : World} {B p : Nat} {us : List Value} {rs : List (List Item)} {x : Item} {A : Option Addr} {c m : Nat} {v : Value} {run : List Item} {wr : World} (h : AtLoop w B p us rs x A c m v run wr) (hx : Ix w B p (.slice A rs.length c) us rs) :
    wr.ownsRow B 64 1 (.slice A m c) m (us.take m) := by
  have hown : wr.ownsRow B 64 1 (.slice A rs.length c) rs.length us := owns_mods hx.own fun q hq hl => h.near.block q hl (fun e => hx.pv (by rw [hq, e]))
  have hle := h.le
  rcases Nat.eq_zero_or_pos rs.length with h0 | h0
  · have hm : m = rs.length := by omega
    have hu : us.length = rs.length := by have := hown.1; omega
    rw [List.take_of_length_le (by omega), hm]
    exact hown
  · exact owns_take hown hle h0
theorem owns_lower {w : World} {B B' : Nat} {e : TypeId} {s n : Nat} {v : Value} {xs : List Value} (h : w.ownsRow B e s v n xs) (hB : B' ≤ B) : w.ownsRow B' e s v n xs := by
  rcases h with ⟨hl, h | ⟨g, cap, cur, h1, hb, h2⟩⟩
  · exact ⟨hl, .inl h⟩
  · exact ⟨hl, .inr ⟨g, cap, cur, h1, Nat.le_trans hB hb, h2⟩⟩
theorem add_end {w : World} {B p : Nat} {us : List Value} {rs : List (List Item)} {x : Item} {A : Option Addr} {c m : Nat} {v : Value} {run : List Item} {wr : World} (hx : Ix w B p (.slice A rs.length c) us rs) (hL : AtLoop w B p us rs x A c m v run wr) (hB : B ≤ w.heap.size)
    (hs : rs.flatten.length + 1 ≤ 1000000) (hstop : carry (rs.take m).reverse run = run :: (rs.take m).reverse) {o : Obj} {w3 : World} {ve : Value} (hown : w3.ownsRow B 64 1 ve (m + 1) (us.take m ++ [v])) (hg : (wr.alloc o).grownBy w3 (Value.slice A m c).ownBlock)
    (hat : ve.ownBlock = (Value.slice A m c).ownBlock ∨ ve.ownBlock = some (wr.heap.size + 1)) (y0 : w3.cell? ⟨p, 0, none⟩ = some (.bool true)) (y1 : w3.cell? ⟨p, 1, none⟩ = some (.slice A m c)) (y2 : w3.frozen? ⟨p, 1, none⟩ = false) :
    Ix (w3.setCell ⟨p, 1, none⟩ ve) B p ve (us.take m ++ [v]) (addRuns rs x) ∧ Step w p (.slice A rs.length c) us (w3.setCell ⟨p, 1, none⟩ ve) ve (us.take m ++ [v]) := by
  have hadd : addRuns rs x = rs.take m ++ [run] := by
    unfold addRuns
    rw [← hL.carry, hstop, List.reverse_cons, List.reverse_reverse]
  have hob : (Value.slice A m c).ownBlock = (Value.slice A rs.length c).ownBlock := by cases A <;> rfl
  rw [hob] at hg hat
  have hpl := hx.lt
  have hsz := hL.near.size
  have hvp : ve.ownBlock ≠ some p := fun e => by
    rcases hat with h | h
    · exact hx.pv (by rw [← h, e])
    · rw [h] at e; cases e; omega
  have hle := hL.le
  have hul : us.length = rs.length := by have := hx.own.1; omega
  -- what the store leaves
  have hst : ∀ k, k ≠ p → (w3.setCell ⟨p, 1, none⟩ ve).heap[k]? = w3.heap[k]? := fun k hk => Below.heap_setCell _ _ _ _ hk
  -- a block that was in wr
  have hmid : ∀ k, k < wr.heap.size → k ≠ p → (Value.slice A rs.length c).ownBlock ≠ some k → (w3.setCell ⟨p, 1, none⟩ ve).heap[k]? = wr.heap[k]? := fun k hk hkp hkv => by
    rw [hst k hkp, hg.block k (by simp; omega) (fun e => hkv e.symm)]
    exact (below_alloc1 wr o).block k hk
  have hvv : Apart v ve ∧ v.ownBlock ≠ some p ∧ (∀ k, v.ownBlock = some k → w.heap.size ≤ k ∧ k < wr.heap.size) := by
    have h1 := owns_ge hL.own
    have h2 := owns_lt hL.own
    refine ⟨fun k hk e => ?_, fun e => by have := h1 p e; omega, fun k hk => ⟨h1 k hk, h2 k hk⟩⟩
    rcases hat with h | h
    · rw [h] at e
      have := owns_lt hx.own k e
      have := h1 k hk
      omega
    · rw [h] at e; cases e
      have := h2 _ hk
      omega
  have hrv : w3.ownsRow B 64 1 ve (m + 1) (us.take m ++ [v]) := hown
  refine ⟨⟨?_, set_cell y1 ve, set_frozen y2 ve, hx.low, ?_, ?_, hvp, ?_, ?_, ?_⟩, ⟨?_, ?_, ?_, ?_, ?_, ?_, ?_⟩⟩
  · exact (World.cell?_setCell_other w3 _ _ ve (by simp)).trans y0
  · rw [hadd, List.length_append, List.length_take, Nat.min_eq_left hle]
    exact owns_mods hown fun k hk _ => hst k (fun e => hvp (by rw [hk, e]))
  · intro j hj
    have hj' : j < m + 1 := by rw [hadd] at hj; simp at hj; omega
    by_cases hjm : j < m
    · obtain ⟨u, h1, h2, h3, h4⟩ := hx.runs j (by omega)
      have hget : (addRuns rs x)[j] = rs[j]'(by omega) := by
        have : (addRuns rs x)[j]? = rs[j]? := by rw [hadd, List.getElem?_append_left (by simp; omega), List.getElem?_take_of_lt hjm]
        rw [List.getElem?_eq_getElem hj, List.getElem?_eq_getElem (by omega)] at this
        exact Option.some.inj this
      have hlt := owns_lt h2
      refine ⟨u, ?_, ?_, ?_, h4⟩
      · rw [List.getElem?_append_left (by simp; omega), List.getElem?_take_of_lt hjm]; exact h1
      · rw [hget]
        refine owns_mods h2 fun k hk hkl => ?_
        have hkp : k ≠ p := fun e => h4 (by rw [hk, e])
        rw [hmid k (by omega) hkp (fun e => h3 k hk e), hL.near.block k hkl hkp]
      · intro k hk e
        rcases hat with h | h
        · exact h3 k hk (by rw [← h, e])
        · rw [h] at e; cases e
          have := hlt _ hk
          omega
    · have hjm' : j = m := by omega
      subst hjm'
      have hl1 : (us.take j).length = j := by simp; omega
      have hl2 : (rs.take j).length = j := by simp; omega
      have hget : (addRuns rs x)[j] = run := by
        have : (addRuns rs x)[j]? = some run := by rw [hadd, List.getElem?_append_right (by omega), hl2, Nat.sub_self]; rfl
        rw [List.getElem?_eq_getElem hj] at this
        exact Option.some.inj this
      refine ⟨v, ?_, ?_, hvv.1, hvv.2.1⟩
      · rw [List.getElem?_append_right (by omega), hl1, Nat.sub_self]; rfl
      · rw [hget]
        refine owns_mods ?_ fun k hk hkl => hmid k hkl (fun e => hvv.2.1 (by rw [hk, e])) (fun e => by have := owns_lt hx.own k e; have := (hvv.2.2 k hk).1; omega)
        exact owns_lower hL.own hB
  · rw [hadd]
    intro r hr
    rcases List.mem_append.1 hr with h | h
    · exact hx.wid r (List.mem_of_mem_take h)
    · simp at h; subst h; exact hL.wid
  · rw [hadd]
    intro r hr
    rcases List.mem_append.1 hr with h | h
    · exact hx.sorted r (List.mem_of_mem_take h)
    · simp at h; subst h; exact hL.sorted
  · rw [hadd, List.flatten_append, List.length_append, List.flatten_cons, List.flatten_nil, List.append_nil]
    have := hL.total
    omega
  · exact hg.os.trans hL.near.os
  · exact hg.tape.trans hL.near.tape
  · exact hg.output.trans hL.near.output
  · have h := hg.size
    rw [World.size_alloc] at h
    have e : (w3.setCell ⟨p, 1, none⟩ ve).heap.size = w3.heap.size := by simp [World.setCell]
    omega
  · intro k hk hkp hkv
    rw [hmid k (by omega) hkp hkv, hL.near.block k hk hkp]
  · rcases hat with h | h
    · exact .inl h
    · exact .inr ⟨_, h, by omega⟩
  · intro u hu
    rcases List.mem_append.1 hu with h | h
    · exact .inl (List.mem_of_mem_take h)
    · simp at h; subst h; exact .inr fun k hk => (hvv.2.2 k hk).1
end Go.Proofs.Ythgjecofmnomfaa
