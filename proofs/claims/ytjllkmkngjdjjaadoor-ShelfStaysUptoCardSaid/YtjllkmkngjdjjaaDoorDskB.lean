/- WALKS of package disk: New, none, Sector, a name, what is wrong, a clone of bytes. No statement of the seed is proved here. -/
import Derived.Test.YtjllkmkngjdjjaaDoorDskA
import Derived.Test.YtjllkmkngjdjjaaDoorAny
import Derived.Test.YtjllkmkngjdjjaaDoorRowS
import Derived.Lib.Bytealg
namespace Go.Proofs.YtjllkmkngjdjjaaDoor
open Go.RowKit
set_option maxRecDepth 100000

theorem zero_bs (w : World) : (zeroValue 34).run Tryd.prog w = .ok (.slice none 0 0) w := by
  obtain ⟨i, hi, hz, hs, hb⟩ := info_parts info_bs
  simp [zeroValue, typeInfo, hi, hz]
theorem under_files : Tryd.prog.underlying 53 = some (.map 9 34) := by kernel_rfl
theorem bclone_calls (v : Value) (l : List UInt8) (w : World) (h : Bs w v l) (hl : l.length ≤ 100000000000000) :
    Calls Tryd.prog 24 #[v] w fun e w' => ∃ v2, e = .returned v2 ∧ OwnB w' w.heap.size v2 l ∧ Below w.heap.size w w' := by
  have HR := Lib.hid h
  obtain ⟨A, c, rfl, a1, a2, a3, -⟩ := h
  unfold maxLen at a2
  cases A with
  | none =>
    have hc := a3 rfl
    subst hc
    have hu : l = [] := List.eq_nil_of_length_eq_zero (by omega)
    subst hu
    have kk := fun (w : World) => Lib.run_eql_slice_nil (P := Tryd.prog) w 34 5 Option.none 0 0 0 0 Tryd.underlying34
    clear a1 a2 a3 hl
    go_enter Tryd.func24, Tryd.ntmps24
    go_wp2
    go_ret
    exact ⟨_, rfl, OwnB.nil _ _, Below.refl _ _⟩
  | some ad =>
    have hb1 := below_alloc1 w (.cells #[] 5)
    have hr1 := HR.out.below hb1
    have HB := Lib.hid hb1
    clear hb1 a3
    have kk := fun (w : World) => Lib.run_eql_slice_nil (P := Tryd.prog) w 34 5 (some ad) l.length c 0 0 Tryd.underlying34
    go_enter Tryd.func24, Tryd.ntmps24
    go_wp2_with (first
      | (at_builtin; refine app_u8 rfl _ _ rfl w.heap.size _ rfl [] (OwnB.zero w) _ rfl l hr1 ?_ ?_ ?_; (· simp; omega); (· simp); intro v2 w2 ho2 hg2 hat2))
    go_ret
    rw [List.nil_append] at ho2
    exact ⟨v2, rfl, ho2, below_grown HB.out hg2 (OwnB.zero w) (by simp)⟩
theorem equalIn_map_nil {P : Program} (d : Nat) (t k e : TypeId) (h : P.underlying t = some (.map k e)) (b : Nat) (w : World) : (Op.equalIn (d + 1) t (.map (some b)) (.map none)).run P w = .ok false w := by
  simp [Op.equalIn, run_underlying h]
theorem eql_map_nil {P : Program} (t k e : TypeId) (h : P.underlying t = some (.map k e)) (b : Nat) (w : World) : (binOp .eql t (.map (some b)) (.map none)).run P w = .ok (.bool false) w := by
  simp only [binOp]
  simp [Op.equal, Op.maxDepth, equalIn_map_nil 9999 t k e h b w]
theorem dnone_calls (x : DT) (s : DSt) (w : World) (B : Nat) (hx : x.At s w B) : Calls Tryd.prog 15 #[.pointer (some ⟨x.p, 0, none⟩)] w fun e w' => e = .returned (.bool false) ∧ w = w' := by
  have c1 := hx.c1
  have kk := fun w => eql_map_nil 53 _ _ under_files x.mb w
  clear hx
  go_enter Tryd.func15, Tryd.ntmps15
  go_wp2
  go_ret
  exact ⟨rfl, rfl⟩
theorem dsector_calls (x : DT) (s : DSt) (w : World) (B : Nat) (hx : x.At s w B) : Calls Tryd.prog 28 #[.pointer (some ⟨x.p, 0, none⟩)] w fun e w' => e = .returned (.int .i64 (s.sec : Int)) ∧ w = w' := by
  have c0 := hx.c0
  have K := Lib.hid (dnone_calls x s w B hx)
  clear hx
  go_enter Tryd.func28, Tryd.ntmps28
  go_wp2_with (go_at_call 15; refine K.out.mono ?_; rintro e w1 ⟨rfl, rfl⟩)
  go_ret
  exact ⟨rfl, rfl⟩
theorem dname_calls (n : ByteArray) (w : World) : Calls Tryd.prog 39 #[.string n] w fun e w' => e = .returned (.bool (nameOk n)) ∧ w = w' := by
  unfold nameOk
  by_cases h1 : 1 ≤ n.size
  · have h2 : decide ((n.size : Int) ≤ 128) = (decide (1 ≤ n.size) && decide (n.size ≤ 128)) := by
      rw [decide_eq_true h1, Bool.true_and]
      exact decide_eq_decide.2 (by omega)
    have H2 := Lib.hid h2
    clear h2
    go_enter Tryd.func39, Tryd.ntmps39
    go_wp2
    go_ret
    exact ⟨by rw [← H2.out]; rfl, rfl⟩
  · rw [decide_eq_false h1, Bool.false_and]
    go_enter Tryd.func39, Tryd.ntmps39
    go_wp2
    go_ret
    exact ⟨rfl, rfl⟩
theorem dwrong_calls (x : DT) (s : DSt) (w : World) (B : Nat) (hx : x.At s w B) (n : ByteArray) (there : Bool) :
    Calls Tryd.prog 31 #[.pointer (some ⟨x.p, 0, none⟩), .string n, .bool there] w fun e w' => e = .returned (.int .i64 (dWrong s n there)) ∧ w = w' := by
  have c1 := hx.c1
  have K := Lib.hid (dnone_calls x s w B hx)
  have KN := Lib.hid (dname_calls n w)
  cases hn : nameOk n with
  | false =>
    have hd : dWrong s n there = 2 := by unfold dWrong; rw [if_pos hn]
    rw [hd]
    rw [hn] at KN
    clear hx
    go_enter Tryd.func31, Tryd.ntmps31
    go_wp2_with (first
      | (go_at_call 15; refine K.out.mono ?_; rintro e w1 ⟨rfl, rfl⟩)
      | (go_at_call 39; refine KN.out.mono ?_; rintro e w1 ⟨rfl, rfl⟩))
    go_ret
    exact ⟨rfl, rfl⟩
  | true =>
    have hsz : n.size ≤ maxLen := by
      simp [nameOk] at hn
      unfold maxLen
      omega
    have hlk := hx.map.look_ok under_files (zero_bs w) n hsz
    rw [hx.vals.dom n] at hlk
    rw [hn] at KN
    have hd : dWrong s n there = match s.fs n with | some _ => (if there then 0 else 120) | none => (if there then 121 else 0) := by unfold dWrong; rw [if_neg (by rw [hn]; simp)]; cases s.fs n <;> rfl
    rw [hd]
    clear hd hsz hx hn
    generalize (x.f n).getD (.slice none 0 0) = v at *
    cases hs : s.fs n with
    | none =>
      rw [hs] at hlk
      simp only [Option.isSome_none] at hlk
      clear hs
      cases there <;>
      · go_enter Tryd.func31, Tryd.ntmps31
        go_wp2_with (first
          | (go_at_call 15; refine K.out.mono ?_; rintro e w1 ⟨rfl, rfl⟩)
          | (go_at_call 39; refine KN.out.mono ?_; rintro e w1 ⟨rfl, rfl⟩))
        go_ret
        exact ⟨rfl, rfl⟩
    | some l =>
      rw [hs] at hlk
      simp only [Option.isSome_some] at hlk
      clear hs
      cases there <;>
      · go_enter Tryd.func31, Tryd.ntmps31
        go_wp2_with (first
          | (go_at_call 15; refine K.out.mono ?_; rintro e w1 ⟨rfl, rfl⟩)
          | (go_at_call 39; refine KN.out.mono ?_; rintro e w1 ⟨rfl, rfl⟩))
        go_ret
        exact ⟨rfl, rfl⟩
end Go.Proofs.YtjllkmkngjdjjaaDoor
