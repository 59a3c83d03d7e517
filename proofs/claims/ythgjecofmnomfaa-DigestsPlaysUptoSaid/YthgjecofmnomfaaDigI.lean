/- THE ITERATOR digests.All: its contract. No statement of the seed is proved here. -/
import Derived.Test.YthgjecofmnomfaaDigH
import Derived.Test.YthgjecofmnomfaaIterM
import Derived.Shelf.Abstract
namespace Go.Proofs.Ythgjecofmnomfaa
open Go.RowKit Go.Shelf
attribute [local go_sem] Oper.semAt_some
set_option maxRecDepth 100000

theorem all_calls (p : Nat) (w : World) : Calls Try.prog 16 #[.pointer (some ⟨p, 0, none⟩)] w fun e w' => e = .returned (.func (.func 31) #[] #[.pointer (some ⟨w.heap.size, 0, none⟩)]) ∧ Below w.heap.size w w' ∧ w'.cell? ⟨w.heap.size, 0, none⟩ = some (.pointer (some ⟨p, 0, none⟩)) := by
  go_enter Try.func16, Try.ntmps16
  go_wp2
  go_ret
  exact ⟨rfl, below_alloc1 _ _, new_cell _ _ _⟩
/-- A round is handed a digest and its place. -/
def HandI (x : Item) (args : Array Value) (_ _ : World) : Prop := args = #[.agg (u8s x.1).toArray, .int .i64 x.2] ∧ x.1.length = 32
theorem HandI.steady : Steady HandI := ⟨fun _ _ _ _ _ h _ => h, fun _ _ _ _ _ _ _ h _ _ _ => h⟩
theorem mergeAll_take {rs : List (List Item)} {j : Nat} (h : j < rs.length) : mergeAll (rs.take (j + 1)) = (mergeAll (rs.take j)).merge rs[j] leI := by
  rw [List.take_succ_eq_append_getElem h, mergeAll_snoc]
theorem mergeAll_perm : ∀ (rs : List (List Item)), (mergeAll rs).Perm rs.flatten := by
  have key : ∀ (rs : List (List Item)) (a : List Item), (rs.foldl (fun a r => a.merge r leI) a).Perm (a ++ rs.flatten) := by
    intro rs
    induction rs with
    | nil => intro a; simp
    | cons r rs ih =>
      intro a
      rw [List.foldl_cons]
      refine (ih _).trans ?_
      rw [List.flatten_cons, ← List.append_assoc]
      exact (merge_perm a r).append_right _
  intro rs
  simpa [mergeAll] using key rs []
theorem mergeAll_wid {rs : List (List Item)} (h : ∀ r ∈ rs, Wid r) (j : Nat) : Wid (mergeAll (rs.take j)) := fun x hx => by
  have := (mergeAll_perm (rs.take j)).mem_iff.1 hx
  obtain ⟨r, hr, hxr⟩ := List.mem_flatten.1 this
  exact h r (List.mem_of_mem_take hr) x hxr
theorem take_flatten_le (rs : List (List Item)) (j : Nat) : (rs.take j).flatten.length ≤ rs.flatten.length := by
  have : rs.flatten.length = (rs.take j).flatten.length + (rs.drop j).flatten.length := by rw [← List.length_append, ← List.flatten_append, List.take_append_drop]
  omega
theorem wpListIn_store_run {F : Fence} {n : Nat} {P : Program} {w : World} {ops : Array Oper} {rest : List Oper} {o : Oper} {a : Act} {Q : Exit → Act → World → Prop} (hg : o.guard = Option.none) (ty : TypeId) (x y : Operand) (ho : o.op = .store ty x y)
    (p v : Value) (hx : a.eval x = p) (hy : a.eval y = v) (w' : World) (hr : (Instr.storeAt ty p v).run P w = .ok () w') (h : wpListIn F n P ops Q rest (a.put o.dst undef) w') : wpListIn F n P ops Q (o :: rest) a w := by
  refine wpListIn_plain hg fun K' hK' => ?_
  unfold Oper.wpIn
  refine ⟨by simp [Oper.about, ho], ?_⟩
  rw [Oper.semAt_plain F _ _ (by rw [ho]; intro c hc'; cases hc')]
  simp [execOp, ho, hx, hy, hr, Result.andThen]
  exact hK' _ _ h
set_option maxHeartbeats 2000000 in
theorem digAll_iter (n : Nat) (h1 : 1 ≤ n) (bx p : Nat) (vr : Value) (us : List Value) (rs : List (List Item)) :
    IterM Fence.wide n Try.prog 31 #[.pointer (some ⟨bx, 0, none⟩)] (mergeAll rs) HandI (fun W => W.cell? ⟨bx, 0, none⟩ = some (.pointer (some ⟨p, 0, none⟩)) ∧ IxR W p vr us rs) := by
  intro lp J Jx W hR hJ0 hY
  obtain ⟨hbx, hx⟩ := hR
  refine callsIn_of_wp Try.func31 rfl trivial ?_ rfl
  simp only [Try.ntmps31, List.size_toArray, List.length_cons, List.length_nil, Nat.reduceAdd, Nat.reduceSub, Array.replicate_succ, Array.replicate_zero, List.push_toArray, List.append_toArray, List.nil_append, List.cons_append]
  obtain ⟨A, c, rfl, a1, a2, -, -⟩ := hx.row
  unfold maxLen at a2
  have c0 := hx.c0
  have c1 := hx.c1
  have KN := Lib.hid (none_calls2 p W c0)
  have HX := Lib.hid hx; clear hx
  have HY := Lib.hid hY; clear hY
  have HJ0 := Lib.hid hJ0; clear hJ0
  gi_wp2_with (first
    | (refine ⟨trivial, ?_⟩; gi_at_call 25; refine (callsIn_wide.2 KN.out).mono ?_; rintro e w1 ⟨rfl, rfl⟩))
  clear KN
  gi_loopw [3, 15] (fun v i wr => ∃ j : Nat, j ≤ rs.length ∧ i = .int .i64 (j : Int) ∧ wr.ownsRow W.heap.size 63 33 v (mergeAll (rs.take j)).length (itemsL (mergeAll (rs.take j))) ∧ Below W.heap.size W wr) (fun _ i _ => rs.length - (intOf i).toNat)
  case atStart => exact ⟨0, by omega, rfl, World.ownsRow_nil _ _ _ _, Below.refl _ _⟩
  case round =>
    obtain ⟨j, hj, rfl, hown, hB⟩ := hrel
    have HO := Lib.hid hown
    obtain ⟨Av, cv, rfl, v1, v2, v3⟩ := owns_form hown
    clear hown
    by_cases hlt : j < rs.length
    · obtain ⟨u, hu, hru⟩ := (HX.out.below hB).runs j hlt
      obtain ⟨ad, hA, hcell⟩ := (HX.out.below hB).row.at_ j hu
      subst hA
      have hp := (mergeAll_perm (rs.take j)).length_eq
      have hl1 := take_flatten_le rs j
      have hl2 := len_flatten rs[j] (List.getElem_mem hlt)
      have hsm := HX.out.small
      have KM := Lib.hid (merged_calls _ u (mergeAll (rs.take j)) rs[j] wr (RunV.of_owns HO.out) hru (mergeAll_wid HX.out.wid j) (HX.out.wid _ (List.getElem_mem hlt)) (by omega))
      have HT := Lib.hid (mergeAll_take hlt)
      obtain ⟨A2, c2, rfl, k1, k2⟩ := hru.form
      clear hp hl1 hl2 hsm hru hu
      have hml := Lib.hid (merge_length (mergeAll (rs.take j)) rs[j])
      generalize mergeAll (rs.take j) = q at *
      generalize rs[j] = r at *
      gi_wp2_with (first
        | (refine ⟨trivial, ?_⟩; gi_at_call 26; refine (callsIn_wide.2 KM.out).mono ?_; rintro e w3 ⟨v3, rfl, hown3, hB3⟩))
      have HO3 := Lib.hid (owns_lower hown3 hB.size); clear hown3
      have hB4 := hB.trans (hB3.mono hB.size)
      go_roundw
      case rel => exact ⟨j + 1, by omega, by go_num, by rw [HT.out, hml.out]; exact HO3.out, hB4⟩
      case measure => simp [intOf]; omega
    · have hjr : j = rs.length := by omega
      subst hjr
      have hp := (mergeAll_perm rs).length_eq
      have hsm := HX.out.small
      have hw := mergeAll_wid HX.out.wid rs.length
      rw [List.take_length] at HO v1 v3 hw
      have hn : (mergeAll rs).length ≤ 1000000 := by omega
      have HW := Lib.hid hw
      clear hp hsm hw
      rw [List.take_length]
      gi_wp2
      obtain ⟨wo, hwo⟩ : ∃ wo : World, wo = wr := ⟨_, rfl⟩
      subst hwo
      have HLO := Lib.hid (owns_lt HO.out)
      have HGE := Lib.hid (owns_ge HO.out)
      have hJ1 := HJ0.out wo hB
      generalize hxs : mergeAll rs = xs at *
      have HXS := Lib.hid hxs
      clear hxs HJ0
      gi_loopw [7, 25] (fun _ i wq => ∃ (k : Nat) (W0 : World), k ≤ xs.length ∧ i = .int .i64 (k : Int) ∧ J wo.heap.size (xs.take k) W0 ∧ Below W0.heap.size W0 wq ∧ wo.heap.size ≤ wq.heap.size ∧ wq.ownsRow W.heap.size 63 33 (.slice Av xs.length cv) xs.length (itemsL xs)) (fun _ i _ => xs.length - (intOf i).toNat)
      case atStart => exact ⟨0, wo, by omega, rfl, hJ1, Below.refl _ _, Nat.le_refl _, HO.out⟩
      case round =>
        obtain ⟨k, W0, hk, rfl, hJ, hb, hsz, hown⟩ := hrel
        have HO2 := Lib.hid hown; clear hown
        by_cases hlt2 : k < xs.length
        · obtain ⟨g, o, c3, e3, m1, m2, hra⟩ := (RunV.of_owns HO2.out).at_ HW.out k hlt2
          cases e3
          have x32 := HW.out _ (List.getElem_mem hlt2)
          have hld := load_item hra (by rw [size_item, itemL_length _ x32])
          have hk0 : (0 : Int) ≤ (k : Int) := Int.natCast_nonneg _
          have hk1 : (k : Int) < (xs.length : Int) := by omega
          have hx : xs = xs.take k ++ xs[k] :: xs.drop (k + 1) := by rw [List.getElem_cons_drop, List.take_append_drop]
          have hxt : xs.take (k + 1) = xs.take k ++ [xs[k]] := by rw [List.take_succ_eq_append_getElem hlt2]
          have HXT := Lib.hid hxt
          have hst : ∀ z : Array Value, z.size = 33 → (Instr.storeAt 63 (.pointer (some ⟨wr.heap.size, 0, none⟩)) (.agg (itemL xs[k]).toArray)).run Try.prog (wr.alloc (.cells z 63)) = .ok () (wr.alloc (.cells (itemL xs[k]).toArray 63)) := fun z hz =>
            run_storeAt_new wr 63 z _ (by rw [size_item]; simp [itemL_length _ x32]) (by simp [itemL_length _ x32, hz]) (by
              rw [Array.all_eq_true]
              intro i hi
              exact itemL_one xs[k] _ (by simp))
          have hb1 := below_alloc1 wr (.cells (itemL xs[k]).toArray 63)
          have hra1 : (wr.alloc (.cells (itemL xs[k]).toArray 63)).rangeAt wr.heap.size 0 (itemL xs[k]) := fun j u hu => by
            rw [Nat.zero_add, cell_of_row _ wr.heap.size j _ _ (0, 0) (heap_alloc_new wr _)]
            simpa using hu
          have hl1 := load_digest x32 (range_digest x32 hra1)
          have hp1 := range_place x32 hra1
          rw [Nat.zero_add] at hp1
          have HO4 := Lib.hid (owns_below HO2.out hb1)
          have hsz1 := hb1.size
          have hY1 := HY.out _ (xs.take k) xs[k] (xs.drop (k + 1)) #[.agg (u8s xs[k].1).toArray, .int .i64 xs[k].2] W0 _ hx hJ (below_then hb hb1) ⟨rfl, x32⟩
          have HST := Lib.hid hst
          clear hra hra1 hst hx hxt hJ hb
          generalize hW1 : wr.alloc (.cells (itemL xs[k]).toArray 63) = W1 at *
          obtain ⟨fn, tmps, assign, body, hy, hR⟩ := hY1
          generalize xs[k] = x at *
          gi_wp2_with (first
            | (refine wpListIn_load_run rfl 63 _ rfl _ _ rfl hld ?_)
            | (refine wpListIn_store_run rfl 63 _ _ rfl _ _ rfl rfl _ (HST.out _ rfl) ?_)
            | (refine wpListIn_load_run rfl 34 _ rfl _ _ rfl hl1 ?_))
          refine hR.mono ?_
          rintro e W3 ⟨hS, hz3, (⟨rfl, hJ3⟩ | ⟨rfl, hJx3⟩)⟩
          · have hO5 := owns_mods HO4.out (w' := W3) fun q hq hql => hS q (HGE.out q hq) (HLO.out q hq)
            have HO5 := Lib.hid hO5
            clear hO5 hS hy hR hW1 hl1 hld hp1
            gi_wp2
            go_roundw
            case rel => exact ⟨k + 1, W3, by omega, by go_num, by rw [HXT.out]; exact hJ3, Below.refl _ _, by omega, HO5.out⟩
            case measure => simp [intOf]; omega
          · clear hS hy hR hW1 hl1 hld hp1
            gi_wp2
            refine bodyPost_ret (results_none rfl _ _ _) rfl ?_
            exact ⟨⟨_, rfl⟩, W3, _, Below.refl _ _, .inr ⟨_, hJx3⟩⟩
        · have hkn : k = xs.length := by omega
          subst hkn
          rw [List.take_length] at hJ
          gi_wp2
          refine bodyPost_end (results_none rfl _ _ _) rfl ?_
          exact ⟨⟨_, rfl⟩, W0, _, hb, .inl (by rw [HXS.out]; exact hJ)⟩
end Go.Proofs.Ythgjecofmnomfaa
