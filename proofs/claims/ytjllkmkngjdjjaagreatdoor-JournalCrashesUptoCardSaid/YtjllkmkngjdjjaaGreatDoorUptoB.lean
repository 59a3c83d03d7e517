/- WORDS OF MY OWN for this seat's walks: what a slice's value reads as, frames, rows of bytes. No statement of the seed is proved here. WORDS for the rows: what the arguments' readings give to the walks. No statement of the seed is proved here. WORDS for the rows of the '..UptoSaid' statements: what the bound on the arguments gives. No statement of the seed is proved here. WORDS: a []byte that was read (blocks of XUptoL, for a seat that lacks the frames' laws; written by pick.py). No statement of the seed is proved here. -/
import Derived.Test.YtjllkmkngjdjjaaGreatDoorChecked
import Derived.WalkKit
import Derived.WalkSpells
import Derived.WalkLawsBesides
import Derived.Maps.AppendAt
import Derived.Deep.DeepAppendWide
import Derived.Lib.Hide
import Derived.ProofKit
import Derived.OpenShut
import Derived.ChangeOld
import Derived.SizedLaws
import Derived.Deep.DeepHandedRow
import Derived.Lib.LaidTab
import Derived.Test.YtjllkmkngjdjjaaGreatDoorRows
import Derived.Deep.Slices
namespace Go.Proofs.YtjllkmkngjdjjaaGreatDoor
open Go.RowKit

/-- A slice's value has n elements, whose cells (all of them, one behind the other) are cs. -/
def Row (w : World) (v : Value) (n : Nat) (cs : List Value) : Prop :=
  ∃ A c, v = .slice A n c ∧ n ≤ c ∧ c ≤ maxLen ∧ (A = none → c = 0) ∧ ∀ j u, cs[j]? = some u → ∃ ad, A = some ad ∧ w.cell? (ad.add j) = some u

def u8s (l : List UInt8) : List Value := l.map fun x => .int .u8 (x.toNat : Int)

/-- A []byte that reads as l. -/
def Bs (w : World) (v : Value) (l : List UInt8) : Prop := Row w v l.length (u8s l)

theorem u8s_length (l : List UInt8) : (u8s l).length = l.length := by simp [u8s]
theorem u8s_append (l m : List UInt8) : u8s (l ++ m) = u8s l ++ u8s m := by simp [u8s]
theorem u8s_get (l : List UInt8) (j : Nat) (h : j < l.length) : (u8s l)[j]? = some (.int .u8 (l[j].toNat : Int)) := by simp [u8s, h]
theorem u8s_one (l : List UInt8) : ∀ u ∈ u8s l, u.oneCell' = true := by
  intro u hu
  simp only [u8s, List.mem_map] at hu
  obtain ⟨x, _, rfl⟩ := hu
  rfl

theorem Row.below {w w1 : World} {v : Value} {n : Nat} {cs : List Value} (h : Row w v n cs) (hb : Below w.heap.size w w1) : Row w1 v n cs := by
  obtain ⟨A, c, e, h1, h2, h0, h3⟩ := h
  refine ⟨A, c, e, h1, h2, h0, fun j u hu => ?_⟩
  obtain ⟨ad, hA, hc⟩ := h3 j u hu
  exact ⟨ad, hA, (hb.cell (World.block_lt_of_cell? w _ hc)).trans hc⟩
theorem Bs.below {w w1 : World} {v : Value} {l : List UInt8} (h : Bs w v l) (hb : Below w.heap.size w w1) : Bs w1 v l := Row.below h hb

theorem add_plain (g j : Nat) : (⟨g, 0, none⟩ : Addr).add j = ⟨g, j, none⟩ := by unfold Addr.add; split <;> simp_all
theorem add_add (ad : Addr) (i j : Nat) : (ad.add i).add j = ad.add (i + j) := by
  unfold Addr.add
  by_cases h1 : i = 0 <;> by_cases h2 : j = 0 <;> simp [h1, h2, Nat.add_assoc]

/-- What the call owns can be read. -/
theorem Row.of_owns {w : World} {B n : Nat} {e : TypeId} {size : Nat} {v : Value} {xs : List Value} (h : w.ownsRow B e size v n xs) : Row w v n xs := by
  rcases h with ⟨hl, ⟨rfl, rfl⟩ | ⟨g, cap, cur, rfl, hb, hg, hn, hm, hs, ht⟩⟩
  · have : xs = [] := List.eq_nil_of_length_eq_zero (by simpa using hl)
    subst this
    exact ⟨none, 0, rfl, Nat.le_refl _, by unfold maxLen; omega, fun _ => rfl, fun j u hu => by simp at hu⟩
  · refine ⟨some ⟨g, 0, none⟩, cap, rfl, hn, hm, fun h => (by cases h), fun j u hu => ⟨_, rfl, ?_⟩⟩
    exact World.ownsRow.cells (v := .slice (some ⟨g, 0, none⟩) n cap) ⟨hl, .inr ⟨g, cap, cur, rfl, hb, hg, hn, hm, hs, ht⟩⟩ rfl j u hu

theorem Row.len {w : World} {v : Value} {n : Nat} {cs : List Value} (h : Row w v n cs) : n ≤ maxLen := by
  obtain ⟨A, c, _, h1, h2, _, _⟩ := h; exact Nat.le_trans h1 h2

/-- An element of a row of one-cell elements: where it lies. -/
theorem Row.at_ {w : World} {A : Option Addr} {n c : Nat} {cs : List Value} (h : Row w (.slice A n c) n cs) (j : Nat) {u : Value} (hu : cs[j]? = some u) : ∃ ad, A = some ad ∧ w.cell? (ad.add j) = some u := by
  obtain ⟨A', c', e, h1, h2, h0, h3⟩ := h
  cases e
  exact h3 j u hu

theorem Bs.at_ {w : World} {A : Option Addr} {n c : Nat} {l : List UInt8} (h : Bs w (.slice A n c) l) (j : Nat) (hj : j < l.length) : ∃ ad, A = some ad ∧ w.cell? (ad.add j) = some (.int .u8 (l[j].toNat : Int)) := by
  obtain ⟨A', c', e, h1, h2, h0, h3⟩ := h
  cases e
  exact h3 j _ (u8s_get l j hj)

/-- Of a []byte: its value's form. -/
theorem Bs.form {w : World} {v : Value} {l : List UInt8} (h : Bs w v l) : ∃ A c, v = .slice A l.length c ∧ l.length ≤ c ∧ c ≤ 9223372036854775807 ∧ l.length ≤ 9223372036854775807 := by
  obtain ⟨A, c, e, h1, h2, h0, _⟩ := h
  unfold maxLen at h2
  exact ⟨A, c, e, h1, h2, by omega⟩

theorem take_succ_get (l : List UInt8) (k : Nat) (h : k < l.length) : l.take (k + 1) = l.take k ++ [l[k]] := by
  rw [List.take_succ_eq_append_getElem h]

/-- string(b). -/
theorem str_of_bytes {P : Program} (src dst e : TypeId) (hs : P.underlying src = some (.slice e)) (he : P.underlying e = some (.int .u8)) (hd : P.underlying dst = some .string)
    {w : World} {v : Value} {l : List UInt8} (h : Bs w v l) : (convert src dst v).run P w = .ok (.string ⟨l.toArray⟩) w := by
  obtain ⟨A, c, rfl, h1, h2, h0, h3⟩ := h
  rw [run_convert_bytes_string w src dst e A l.length c hs he hd]
  cases A with
  | none =>
    have : l = [] := by
      cases l with
      | nil => rfl
      | cons x r => obtain ⟨ad, ha, _⟩ := h3 0 _ (u8s_get (x :: r) 0 (by simp)); cases ha
    subst this
    simp [Conv.bytesToString, go_sem]
    rfl
  | some ad =>
    have hload : (loadCells ad l.length).run P w = .ok ((l.map fun x => (x.toNat : Int)).map (Value.int .u8)).toArray w := by
      have := run_firstCells_some (P := P) w 1 l.length ad l.length c (u8s l) (by simp [u8s]) (fun j u hu => by
        obtain ⟨ad', ha, hc⟩ := h3 j u hu
        cases ha
        exact hc)
      simpa [Builtin.firstCells, u8s, Function.comp_def] using this
    rw [run_bytesToString w ad l.length c _ hload]
    congr 2
    rw [List.foldl_map]
    have : ∀ (m : List UInt8) (s : ByteArray), (m.foldl (fun r n => r.push (UInt8.ofNat ((n.toNat : Int)).toNat)) s) = ⟨s.data ++ m.toArray⟩ := by
      intro m
      induction m with
      | nil => intro s; simp
      | cons x m ih =>
        intro s
        rw [List.foldl_cons, ih]
        apply ByteArray.ext
        simp [ByteArray.push]
    rw [this]
    apply ByteArray.ext
    show #[] ++ l.toArray = l.toArray
    simp

/-- A fresh block, read as a row. -/
theorem Row.new (w : World) (cs : List Value) (e : TypeId) (n c : Nat) (hn : n ≤ c) (hc : c ≤ maxLen) : Row (w.alloc (.cells cs.toArray e)) (.slice (some ⟨w.heap.size, 0, none⟩) n c) n cs := by
  refine ⟨_, c, rfl, hn, hc, fun h => (by cases h), fun j u hu => ⟨_, rfl, ?_⟩⟩
  rw [add_plain]
  simp only [World.cell?, World.alloc, Array.getElem?_push, if_true]
  simpa using hu

section
variable {P : Program} (w : World)
/-- append onto what the call owns, from whatever source: what comes of it; where it lies. -/
theorem run_app (B : Nat) (t ty e : TypeId) (z : Value) (size bytes : Nat) (ht : P.underlying t = some (.slice e)) (hinfo : (P.info? e).map (fun i => (i.zero, i.size, i.bytes)) = some (some z, size, bytes))
    (hzs : z.cells.size = size) (hsz : 0 < size) (hb0 : 0 < bytes) (v : Value) (n : Nat) (xs : List Value) (hown : w.ownsRow B e size v n xs)
    (y : Value) (m : Nat) (news : List Value) (hsrc : Row w y m news) (hl : news.length = m * size) (h1 : ∀ u ∈ news, u.oneCell' = true)
    (hbytes : ((n + m) + (n + m) / 4 + 192) * bytes ≤ 281474976710656) (hbase : B ≤ w.heap.size) :
    ∃ v' w', (Builtin.append_ #[t, t] ty #[v, y]).run P w = .ok v' w' ∧ w'.ownsRow B e size v' (n + m) (xs ++ news) ∧ w.grownBy w' v.ownBlock ∧
      (v'.ownBlock = v.ownBlock ∨ v'.ownBlock = some w.heap.size) := by
  obtain ⟨i, hi, hz, hsize, hby⟩ := info_parts hinfo
  obtain ⟨A, c, rfl, hmc, hcm, hA0, hcell⟩ := hsrc
  have h63 : n + m ≤ maxLen := by
    unfold maxLen
    have : (n + m) + (n + m) / 4 + 192 ≤ 281474976710656 := Nat.le_trans (Nat.le_mul_of_pos_right _ hb0) hbytes
    omega
  cases A with
  | none =>
    have hc0 := hA0 rfl
    subst hc0
    have hm0 : m = 0 := by omega
    subst hm0
    have hn : news = [] := List.eq_nil_of_length_eq_zero (by simpa using hl)
    subst hn
    have hr := run_append_owned_none (P := P) (w := w) B t ty e i size ht hi v n xs hown
    exact ⟨v, w, hr, by simpa using hown, ⟨rfl, rfl, rfl, Nat.le_refl _, fun _ _ _ => rfl⟩, .inl rfl⟩
  | some ad =>
    have hnews : ∀ j u, news[j]? = some u → w.cell? (ad.add j) = some u := fun j u hu => by
      obtain ⟨ad', ha, h⟩ := hcell j u hu
      cases ha
      exact h
    obtain ⟨v', w', hr, h2, h3, h4⟩ := run_append_own_wide (P := P) w B t ty e i z size bytes ht hi hz hsize hby hzs hsz v n xs hown ad m c news hl hnews h1 h63 hbytes hbase
    refine ⟨v', w', hr, h2, h3, ?_⟩
    subst hsize
    rcases hown.2 with ⟨rfl, rfl⟩ | ⟨g, cap, cur, rfl, hbg, hg, hnc, hcm', hcs, htake⟩
    · by_cases hm : m = 0
      · have : v' = .slice none 0 0 := h4.2 ⟨rfl, hm⟩
        subst this
        exact .inl rfl
      · have hr2 := run_append_nil (P := P) w t ty e i z ht hi hz ad m c news hl hnews (by omega) (by unfold maxLen at h63; omega) (by rw [hby]; simp only [Nat.zero_add] at hbytes; exact Nat.le_trans (Nat.mul_le_mul_right _ (by omega)) hbytes)
        rw [hr2] at hr
        cases hr
        exact .inr rfl
    · by_cases hroom : n + m ≤ cap
      · have hfit : n * i.size + news.length ≤ cur.size := by rw [hl, hcs, ← Nat.add_mul]; exact Nat.mul_le_mul_right _ hroom
        have hr2 := run_append_room (P := P) w t ty e i ht hi g n cap cur hg ad m c news hl hnews h1 hroom hfit
        rw [hr2] at hr
        cases hr
        exact .inl rfl
      · have holds : ∀ j u, xs[j]? = some u → w.cell? ((⟨g, 0, none⟩ : Addr).add j) = some u := hown.cells (g := g) rfl
        have hr2 := run_append_grow (P := P) w t ty e i z ht hi hz ⟨g, 0, none⟩ n cap xs hown.1 holds ad m c news hl hnews (by omega) (by unfold maxLen at h63; omega) (by rw [hby]; exact growslice_fits_wide (by omega) hbytes)
        rw [hr2] at hr
        cases hr
        exact .inr rfl

/-- append, its run known. -/
theorem wpList_append_run {ops : Array Oper} {rest : List Oper} {o : Oper} {a : Act} {Q : Exit → Act → World → Prop} (hgd : o.guard = none) (s x : Operand) (ats : Array TypeId)
    (ho : o.op = .call { callee := .builtin .append, args := #[s, x], argTypes := ats }) (v y : Value) (hs : a.eval s = v) (hx : a.eval x = y) (r : Value) (w' : World)
    (hr : (Builtin.append_ ats o.type #[v, y]).run P w = .ok r w') (h : wpList P ops Q rest (a.put o.dst r) w') : wpList P ops Q (o :: rest) a w := by
  refine wpList_plain hgd fun K hK => ?_
  unfold Oper.wp execOp
  simp only [ho, resolve, invoke, builtin, Sem.run_bind, Sem.run_pure, Result.andThen_ok, List.map_toArray, List.map_cons, List.map_nil, hs, hx, hr]
  exact hK _ _ h
/-- The same at the operation, for the walk: 'intro v' w1 hown hgr hat' behind it. -/
theorem wpList_app {ops : Array Oper} {rest : List Oper} {o : Oper} {a : Act} {Q : Exit → Act → World → Prop} (hgd : o.guard = none) (s x : Operand) (t : TypeId)
    (ho : o.op = .call { callee := .builtin .append, args := #[s, x], argTypes := #[t, t] })
    (B : Nat) (e : TypeId) (z : Value) (size bytes : Nat) (ht : P.underlying t = some (.slice e)) (hinfo : (P.info? e).map (fun i => (i.zero, i.size, i.bytes)) = some (some z, size, bytes))
    (hzs : z.cells.size = size) (hsz : 0 < size) (hb0 : 0 < bytes) (v : Value) (hs : a.eval s = v) (n : Nat) (xs : List Value) (hown : w.ownsRow B e size v n xs)
    (y : Value) (hx : a.eval x = y) (m : Nat) (news : List Value) (hsrc : Row w y m news) (hl : news.length = m * size) (h1 : ∀ u ∈ news, u.oneCell' = true)
    (hbytes : ((n + m) + (n + m) / 4 + 192) * bytes ≤ 281474976710656) (hbase : B ≤ w.heap.size)
    (h : ∀ v' w', w'.ownsRow B e size v' (n + m) (xs ++ news) → w.grownBy w' v.ownBlock → (v'.ownBlock = v.ownBlock ∨ v'.ownBlock = some w.heap.size) → wpList P ops Q rest (a.put o.dst v') w') :
    wpList P ops Q (o :: rest) a w := by
  refine wpList_plain hgd fun K hK => ?_
  obtain ⟨v', w', hr, h2, h3, h4⟩ := run_app (P := P) w B t o.type e z size bytes ht hinfo hzs hsz hb0 v n xs hown y m news hsrc hl h1 hbytes hbase
  unfold Oper.wp execOp
  simp only [ho, resolve, invoke, builtin, Sem.run_bind, Sem.run_pure, Result.andThen_ok, List.map_toArray, List.map_cons, List.map_nil, hs, hx, hr]
  exact hK _ _ (h v' w' h2 h3 h4)
end

theorem le_alloc {B : Nat} {w : World} (h : B ≤ w.heap.size) (o : Obj) : B ≤ (w.alloc o).heap.size := by simp; omega
/-- The first k elements. -/
theorem Row.take {w : World} {A : Option Addr} {n c : Nat} {cs : List Value} (h : Row w (.slice A n c) n cs) (k : Nat) (cs' cs2 : List Value) (hk : k ≤ n) (e : cs = cs' ++ cs2) : Row w (.slice A k c) k cs' := by
  obtain ⟨A', c', e1, h1, h2, h0, h3⟩ := h
  cases e1
  refine ⟨A, c, rfl, by omega, h2, h0, fun j u hu => h3 j u ?_⟩
  subst e
  have hj : j < cs'.length := (List.getElem?_eq_some_iff.1 hu).1
  rw [List.getElem?_append_left hj]
  exact hu
theorem new_cell (w : World) (x : Value) (t : TypeId) : (w.alloc (.cells #[x] t)).cell? ⟨w.heap.size, 0, none⟩ = some x := by
  exact cell_of_row _ w.heap.size 0 #[x] t (0, 0) (heap_alloc_new w _)
theorem new_frozen (w : World) (cs : Array Value) (t : TypeId) (j : Nat) : (w.alloc (.cells cs t)).frozen? ⟨w.heap.size, j, none⟩ = false := by
  unfold World.frozen?
  rw [show (w.alloc (.cells cs t)).heap[w.heap.size]? = some (.cells cs t) from heap_alloc_new w _]
  simp
theorem below_alloc1 (w : World) (o : Obj) : Below w.heap.size w (w.alloc o) := (Below.refl _ _).alloc (Nat.le_refl _) _
theorem cell_below {w w1 : World} (hb : Below w.heap.size w w1) {a : Addr} {v : Value} (h : w.cell? a = some v) : w1.cell? a = some v := (hb.cell (World.block_lt_of_cell? w a h)).trans h
theorem frozen_below {w w1 : World} (hb : Below w.heap.size w w1) {a : Addr} {v : Value} (h : w.cell? a = some v) (hf : w.frozen? a = false) : w1.frozen? a = false := (hb.frozen (World.block_lt_of_cell? w a h)).trans hf
theorem set_cell {w : World} {a : Addr} {v : Value} (h : w.cell? a = some v) (u : Value) : (w.setCell a u).cell? a = some u := World.cell?_setCell_same' _ _ _ (by rw [h]; rfl)
theorem set_frozen {w : World} {a b : Addr} (hf : w.frozen? b = false) (u : Value) : (w.setCell a u).frozen? b = false := by rw [World.frozen?_setCell]; exact hf
theorem set_other {w : World} {a b : Addr} {v : Value} (h : w.cell? b = some v) (hne : a.block ≠ b.block) (u : Value) : (w.setCell a u).cell? b = some v :=
  (World.cell?_setCell_other w a b u (fun e => hne (by rw [e]))).trans h
/-! ### bytes -/
theorem info_u8 : (Tryz.prog.info? 5).map (fun i => (i.zero, i.size, i.bytes)) = some (some (.int .u8 0), 1, 1) := by kernel_rfl
/-- A []byte that the call owns (from block B on), reading as l. -/
def OwnB (w : World) (B : Nat) (v : Value) (l : List UInt8) : Prop := w.ownsRow B 5 1 v l.length (u8s l)
theorem OwnB.bs {w : World} {B : Nat} {v : Value} {l : List UInt8} (h : OwnB w B v l) : Bs w v l := Row.of_owns h
theorem OwnB.alloc {w : World} {B : Nat} {v : Value} {l : List UInt8} (h : OwnB w B v l) (o : Obj) : OwnB (w.alloc o) B v l := World.ownsRow.alloc h o
theorem OwnB.zero (w : World) : OwnB (w.alloc (.cells #[] 5)) w.heap.size (.slice (some ⟨w.heap.size, 0, none⟩) 0 0) [] :=
  World.ownsRow_made w #[] 0 (Nat.le_refl _) (by unfold maxLen; omega) rfl
theorem OwnB.nil (w : World) (B : Nat) : OwnB w B (.slice none 0 0) [] := World.ownsRow_nil _ _ _ _
theorem OwnB.below {w w1 : World} {B : Nat} {v : Value} {l : List UInt8} (h : OwnB w B v l) (hb : Below w.heap.size w w1) : OwnB w1 B v l :=
  World.ownsRow.kept h (row := Option.none) ⟨hb.os, hb.tape, hb.output, hb.size, fun i hi _ => hb.block i hi⟩ (by cases hv : v.ownBlock <;> simp)
theorem OwnB.kept {w w1 : World} {B : Nat} {v : Value} {l : List UInt8} (h : OwnB w B v l) {row : Option Nat} (hg : w.grownBy w1 row) (hne : v.ownBlock = none ∨ v.ownBlock ≠ row) : OwnB w1 B v l := World.ownsRow.kept h hg hne
theorem OwnB.lower {w : World} {B B' : Nat} {v : Value} {l : List UInt8} (h : OwnB w B v l) (hB : B' ≤ B) : OwnB w B' v l := by
  obtain ⟨h1, h2⟩ := h
  refine ⟨h1, ?_⟩
  rcases h2 with h2 | ⟨g, cap, cur, hv, hg, r⟩
  · exact .inl h2
  · exact .inr ⟨g, cap, cur, hv, by omega, r⟩
theorem OwnB.lt {w : World} {B : Nat} {v : Value} {l : List UInt8} (h : OwnB w B v l) : ∀ k, v.ownBlock = some k → B ≤ k ∧ k < w.heap.size := World.ownsRow.lt h
theorem OwnB.form {w : World} {B : Nat} {v : Value} {l : List UInt8} (h : OwnB w B v l) : ∃ A c, v = .slice A l.length c ∧ l.length ≤ c ∧ c ≤ 9223372036854775807 ∧ l.length ≤ 9223372036854775807 := h.bs.form
theorem OwnB.form_n {w : World} {B : Nat} {v : Value} {l : List UInt8} (h : OwnB w B v l) (n : Nat) (hn : l.length = n) : ∃ A c, v = .slice A n c ∧ n ≤ c ∧ c ≤ 9223372036854775807 ∧ n ≤ 9223372036854775807 := by
  subst hn; exact h.bs.form
theorem str_cat (l m : List UInt8) (q : Array UInt8) (h : q = m.toArray) : (⟨l.toArray⟩ ++ ⟨q⟩ : ByteArray) = ⟨(l ++ m).toArray⟩ := by
  subst h
  apply ByteArray.ext
  simp
theorem str_u8 {w : World} {v : Value} {l : List UInt8} (h : Bs w v l) : (convert 35 9 v).run Tryz.prog w = .ok (.string ⟨l.toArray⟩) w :=
  str_of_bytes _ _ _ Tryz.underlying35 Tryz.underlying5 Tryz.underlying9 h
/-- []byte{x} laid by an append of one byte. -/
theorem Bs.one (w : World) (n : Int) (x : UInt8) (h : n = (x.toNat : Int)) : Bs (w.alloc (.cells #[.int .u8 n] 5)) (.slice (some ⟨w.heap.size, 0, none⟩) 1 1) [x] := by
  subst h
  exact Row.new w [.int .u8 (x.toNat : Int)] _ 1 1 (Nat.le_refl _) (by unfold maxLen; omega)

theorem Bs.pre {w : World} {A : Option Addr} {n c k : Nat} {l m : List UInt8} (h : Bs w (.slice A n c) (l ++ m)) (hk : k = l.length) : Bs w (.slice A k c) l := by
  subst hk
  have hn : n = (l ++ m).length := by obtain ⟨A', c', e, _⟩ := h; cases e; rfl
  subst hn
  exact Row.take h l.length (u8s l) (u8s m) (by simp) (u8s_append l m)
/-- append(b, m...) onto bytes that the call owns: 'intro v' w1 hown hgr hat' behind it. -/
theorem app_u8 {w : World} {ops : Array Oper} {rest : List Oper} {o : Oper} {a : Act} {Q : Exit → Act → World → Prop} (hgd : o.guard = none) (s x : Operand)
    (ho : o.op = .call { callee := .builtin .append, args := #[s, x], argTypes := #[35, 35] })
    (B : Nat) (v : Value) (hs : a.eval s = v) (l : List UInt8) (hown : OwnB w B v l) (y : Value) (hx : a.eval x = y) (m : List UInt8) (hsrc : Bs w y m)
    (hb : l.length + m.length ≤ 200000000000000) (hbase : B ≤ w.heap.size)
    (h : ∀ v' w', OwnB w' B v' (l ++ m) → w.grownBy w' v.ownBlock → (v'.ownBlock = v.ownBlock ∨ v'.ownBlock = some w.heap.size) → wpList Tryz.prog ops Q rest (a.put o.dst v') w') :
    wpList Tryz.prog ops Q (o :: rest) a w := by
  refine wpList_app w hgd s x 35 ho B 5 (.int .u8 0) 1 1 Tryz.underlying35 info_u8 rfl (by decide) (by decide) v hs l.length (u8s l) hown y hx m.length (u8s m) hsrc (by simp [u8s]) (u8s_one m) (by omega) hbase ?_
  intro v' w' h1 h2 h3
  refine h v' w' ?_ h2 h3
  unfold OwnB
  rw [u8s_append, List.length_append]
  exact h1
theorem below_grown {w w1 w2 : World} {B : Nat} {v : Value} (h : Below B w w1) (hg : w1.grownBy w2 v.ownBlock) {l : List UInt8} (ho : OwnB w1 B v l) (hB : B ≤ w1.heap.size) : Below B w w2 :=
  h.grown hg hB (fun k hk => (ho.lt k hk).1)

/-- b[i:i+n]: the slice's run, and what it reads. -/
theorem Bs.sub {w : World} {A : Option Addr} {len c : Nat} {l : List UInt8} (h : Bs w (.slice A len c) l) (i n : Nat) (hi : i + n ≤ l.length) :
    ∃ A' c', (∀ W : World, (Instr.slice 35 (.slice A len c) (some (.int .i64 (i : Int))) (some (.int .i64 ((i : Int) + (n : Int)))) Option.none).run Tryz.prog W = .ok (.slice A' n c') W) ∧
      Bs w (.slice A' n c') ((l.drop i).take n) := by
  obtain ⟨A0, c0, e, h1, h2, h0, h3⟩ := h
  cases e
  have hlen : ((l.drop i).take n).length = n := by simp; omega
  refine ⟨if c = i then A else A.map (·.add i), c - i, fun W => ?_, ?_⟩
  · have hel : Tryz.prog.elem 35 = 5 := by simp [Program.elem, Tryz.underlying35]
    have hu : Tryz.prog.underlying 35 = some (.slice (Tryz.prog.elem 35)) := by rw [hel]; exact Tryz.underlying35
    rw [run_slice_lh W 35 A l.length c hu .i64 .i64 i (i + n) (Int.natCast_nonneg _) (by omega) (by omega), hel]
    obtain ⟨i0, hi0, hz, hsz, hby⟩ := info_parts info_u8
    simp [sizeOf, typeInfo, hi0, hsz, sliced, Result.andThen]
    omega
  · refine ⟨_, _, by rw [hlen], by rw [hlen]; omega, by omega, ?_, ?_⟩
    · intro hA
      cases A with
      | none => have := h0 rfl; omega
      | some ad => split at hA <;> cases hA
    · intro j u hj
      have hjn : j < n := by
        have := (List.getElem?_eq_some_iff.1 hj).1
        rw [u8s_length, hlen] at this
        exact this
      have hju : (u8s l)[i + j]? = some u := by
        rw [← hj]
        simp only [u8s, List.getElem?_map]
        rw [List.getElem?_take, if_pos hjn, List.getElem?_drop]
      obtain ⟨ad, hA, hc⟩ := h3 (i + j) u hju
      subst hA
      rw [if_neg (by omega)]
      exact ⟨ad.add i, rfl, by rw [add_add]; exact hc⟩
theorem Bs.subI {w : World} {A : Option Addr} {len c : Nat} {l : List UInt8} (h : Bs w (.slice A len c) l) (i n : Nat) (a b : Int) (ha : a = (i : Int)) (hb : b = (i : Int) + (n : Int)) (hi : i + n ≤ l.length) :
    ∃ A' c', (∀ W : World, (Instr.slice 35 (.slice A len c) (some (.int .i64 a)) (some (.int .i64 b)) Option.none).run Tryz.prog W = .ok (.slice A' n c') W) ∧
      Bs w (.slice A' n c') ((l.drop i).take n) := by
  subst ha hb
  exact h.sub i n hi
/-- What was made later lies in another block. -/
theorem own_apart {wa wb : World} {Ba : Nat} {va vb : Value} {la lb : List UInt8} (h1 : OwnB wa Ba va la) (h2 : OwnB wb wa.heap.size vb lb) : vb.ownBlock = Option.none ∨ vb.ownBlock ≠ va.ownBlock := by
  cases hb : vb.ownBlock with
  | none => exact .inl rfl
  | some k =>
    refine .inr fun e => ?_
    have a := (h1.lt k e.symm).2
    have b := (h2.lt k hb).1
    omega
theorem OwnB.lower' {w : World} {B B' : Nat} {v : Value} {l : List UInt8} (hB : B' ≤ B) (h : OwnB w B v l) : OwnB w B' v l := h.lower hB
theorem below_then {w w1 w2 : World} (h : Below w.heap.size w w1) (k : Below w1.heap.size w1 w2) : Below w.heap.size w w2 := h.trans (k.mono h.size)
/-- What the call owns, and is not nil: its block. -/
theorem OwnB.block {w : World} {B : Nat} {A : Option Addr} {n c : Nat} {l : List UInt8} (h : OwnB w B (.slice A n c) l) (hp : 0 < l.length) :
    ∃ g, A = some ⟨g, 0, none⟩ ∧ B ≤ g ∧ g < w.heap.size ∧ n = l.length ∧ (∀ j, (hj : j < l.length) → w.cell? ⟨g, j, none⟩ = some (.int .u8 (l[j].toNat : Int))) ∧ (∀ j, w.frozen? ⟨g, j, none⟩ = false) ∧
      (∀ j (x : UInt8), j < l.length → OwnB (w.setCell ⟨g, j, none⟩ (.int .u8 (x.toNat : Int))) B (.slice A n c) (l.set j x)) := by
  have hcells := h.bs
  rcases h with ⟨hl, ⟨e, h0⟩ | ⟨g, cap, cur, e, hb, hg, hn, hm, hs, ht⟩⟩
  · rw [h0] at hp; exact absurd hp (by simp)
  · cases e
    have hlt := (Array.getElem?_eq_some_iff.1 hg).1
    refine ⟨g, rfl, hb, hlt, rfl, fun j hj => ?_, fun j => by simp [World.frozen?, hg], fun j x hj => ?_⟩
    · obtain ⟨ad, ha, hc⟩ := hcells.at_ j hj
      cases ha
      rw [add_plain] at hc
      exact hc
    · refine ⟨by simp [u8s], .inr ⟨g, c, cur.setIfInBounds j (.int .u8 (x.toNat : Int)), by simp, hb, ?_, by simpa using hn, hm, by simpa using hs, ?_⟩⟩
      · simp [World.setCell, Array.getElem?_modify, hg]
      · rw [Array.toList_setIfInBounds, List.take_set, List.length_set, ht]
        simp only [u8s, List.map_set]
theorem grown_setCell (w : World) (g j : Nat) (u : Value) : w.grownBy (w.setCell ⟨g, j, none⟩ u) (some g) :=
  ⟨rfl, rfl, rfl, by simp [World.setCell], fun k _ hk => Below.heap_setCell _ _ _ _ (fun e => hk (by simp [e]))⟩
theorem grown_trans {a b c : World} {row : Option Nat} (h : a.grownBy b row) (k : b.grownBy c row) : a.grownBy c row := World.grownBy.trans h k
theorem grown_refl (a : World) (row : Option Nat) : a.grownBy a row := ⟨rfl, rfl, rfl, Nat.le_refl _, fun _ _ _ => rfl⟩
/-- A []byte that is read, its block not the one that was written. -/
theorem Bs.grown {w w1 : World} {v : Value} {l : List UInt8} {g : Nat} (h : Bs w v l) (hg : w.grownBy w1 (some g)) (hne : ∀ ad n c, v = .slice (some ad) n c → ad.block ≠ g) : Bs w1 v l := by
  obtain ⟨A, c, e, h1, h2, h0, h3⟩ := h
  refine ⟨A, c, e, h1, h2, h0, fun j u hu => ?_⟩
  obtain ⟨ad, hA, hc⟩ := h3 j u hu
  subst hA
  refine ⟨ad, rfl, hg.cell hc ?_⟩
  have := hne ad _ c e
  have hb : (ad.add j).block = ad.block := by unfold Addr.add; split <;> rfl
  rw [hb]
  simpa using this
end Go.Proofs.YtjllkmkngjdjjaaGreatDoor
namespace Go.Proofs.YtjllkmkngjdjjaaGreatDoor
open Go.ChangeShapes Go.WideShapes Go.ChangeAt Go.RowKit

theorem laidOut : laidOutB Tryz.prog = true := by kernel_rfl
theorem own : ownKnob Tryz.prog.godebug = none := by kernel_rfl

theorem bounds_i64 {a : Int} (h : (Lit.int .i64 a).wf = true) : -9223372036854775808 ≤ a ∧ a ≤ 9223372036854775807 := by
  simp [Lit.wf, IntKind.min, IntKind.max, IntKind.signed, IntKind.bits] at h
  omega
theorem nat_u32 {a : Int} (h : (Lit.int .u32 a).wf = true) : ∃ n : Nat, a = (n : Int) ∧ n < 4294967296 := by
  simp [Lit.wf, IntKind.min, IntKind.max, IntKind.signed, IntKind.bits] at h
  exact ⟨a.toNat, by omega, by omega⟩
theorem nat_u8 {a : Int} (h : (Lit.int .u8 a).wf = true) : ∃ n : UInt8, a = (n.toNat : Int) := by
  simp [Lit.wf, IntKind.min, IntKind.max, IntKind.signed, IntKind.bits] at h
  refine ⟨UInt8.ofNat a.toNat, ?_⟩
  rw [UInt8.toNat_ofNat', Nat.mod_eq_of_lt (by omega)]
  omega

set_option maxRecDepth 100000 in
/-- A []byte that came in. -/
theorem open_bytes {H : Type} {enc : TypeId × Value → H} {W : World} {base base' : Nat} {spare : Nat → Bool} {held : Bool} {t e : TypeId} {v : Value} {d : DataW H} {ps : List MemPlace}
    (hu : Tryz.prog.underlying t = some (.slice e)) (he : Tryz.prog.underlying e = some (.int .u8)) (hc : Tryz.prog.cellsOf e = 1) (hB : Tryz.prog.bytesOf e = 1)
    (hok : Value.okWide Tryz.prog W .any base t v) (h : DataW.Trod enc Tryz.prog W base' spare held t v d ps)
    {ts : List TypeId} {ds : List (DataW H)} {j : Nat} (hsz : (DataW.weightsEach Tryz.prog ts ds).all (· ≤ reachBytes) = true) (ht : ts[j]? = some t) (hd : ds[j]? = some d) :
    ∃ l, Bs W v l ∧ l.length ≤ 140737488351232 := by
  obtain ⟨a, len, cap, rfl⟩ := okWide_slice hu hok
  obtain ⟨fuel, hf⟩ := h
  rcases open_ints hu he hc hf with ⟨hcs, _⟩ | ⟨x, l, c, zs, hcs, _, hl, hm, hz, hx, hcell, hwz⟩
  · simp [Value.cells] at hcs
    obtain ⟨rfl, rfl, rfl⟩ := hcs
    exact ⟨[], ⟨none, 0, rfl, Nat.le_refl _, by unfold maxLen; omega, fun _ => rfl, fun j u hj => by simp [u8s] at hj⟩, by simp⟩
  · simp [Value.cells] at hcs
    obtain ⟨rfl, rfl, rfl⟩ := hcs
    obtain ⟨hx, _⟩ := Prod.mk.inj hx
    subst hx
    have hl2 : len ≤ zs.length := by
      rw [hz]
      split
      · exact hl
      · exact Nat.le_refl _
    have z := sized_slice hsz ht hd hu
    rw [hB] at z
    have h1 : (lits (H := H) .u8 (zs.take len)).length + (lits (H := H) .u8 (zs.drop len)).length = zs.length := by
      simp [lits]
      omega
    rw [h1] at z
    have hlen : ((zs.take len).map fun n => UInt8.ofNat n.toNat).length = len := by simp; omega
    refine ⟨(zs.take len).map fun n => UInt8.ofNat n.toNat, ⟨some x, cap, by rw [hlen], by rw [hlen]; exact hl, hm, fun h => (by cases h), fun j u hj => ⟨x, rfl, ?_⟩⟩, by rw [hlen]; unfold reachBytes at z; omega⟩
    have hjl : j < len := by
      have := (List.getElem?_eq_some_iff.1 hj).1
      rw [u8s_length, hlen] at this
      exact this
    rw [hcell j (by omega)]
    have hw := hwz (zs.getD j 0) (by rw [List.getD_eq_getElem?_getD, List.getElem?_eq_getElem (show j < zs.length by omega)]; simp)
    simp [Lit.wf, IntKind.min, IntKind.max, IntKind.signed, IntKind.bits] at hw
    have hj2 : (u8s ((zs.take len).map fun n => UInt8.ofNat n.toNat))[j]? = some (.int .u8 (((UInt8.ofNat (zs[j]'(by omega)).toNat).toNat : Nat) : Int)) := by
      simp only [u8s, List.getElem?_map]
      rw [List.getElem?_take, if_pos hjl, List.getElem?_eq_getElem (show j < zs.length by omega)]
      rfl
    rw [hj2] at hj
    cases hj
    rw [List.getD_eq_getElem?_getD]
    rw [List.getElem?_eq_getElem (show j < zs.length by omega)] at hw ⊢
    simp only [Option.getD_some] at hw ⊢
    rw [UInt8.toNat_ofNat', Nat.mod_eq_of_lt (by omega)]
    congr 2
    omega
/-- A field of one cell of a struct that came in by value, of an int kind. -/
theorem field_int {P : Program} {H : Type} {enc : TypeId × Value → H} {w : World} {base : Nat} {spare : Nat → Bool} {held : Bool} {t : TypeId} {fs : Array Field} {f : Field} {k : IntKind} {i : Nat} {cs : Array Value} {d : DataW H} {p : List MemPlace}
    (ht : P.underlying t = some (.struct fs)) (hf : fs[i]? = some f) (hk : P.underlying f.type = some (.int k)) (hc : P.cellsOf f.type = 1) (h : DataW.Trod enc P w base spare held t (.agg cs) d p) :
    ∃ n, cs[f.offset]? = some (.int k n) ∧ (Lit.int k n).wf = true := by
  obtain ⟨fuel, hfu⟩ := h
  obtain ⟨xs, n, _, _, _, hlen, hff⟩ := DataW.trod_struct ht hfu
  have hi : i < xs.length := by rw [hlen]; exact (Array.getElem?_eq_some_iff.1 hf).1
  have hx := hff i f hf
  rw [List.getElem?_eq_getElem hi, hc] at hx
  obtain ⟨n, hcs, _, hw⟩ := DataW.trod_int hk hx
  refine ⟨n, ?_, hw⟩
  have h0 : ((((Value.agg cs).cells.toList).drop f.offset).take 1)[0]? = some (.int k n) := by rw [hcs]; rfl
  simpa [Value.cells, List.getElem?_take, List.getElem?_drop] using h0
end Go.Proofs.YtjllkmkngjdjjaaGreatDoor
namespace Go.Proofs.YtjllkmkngjdjjaaGreatDoor
open Go.ChangeShapes Go.WideShapes Go.ChangeAt Go.RowKit

theorem bulk_one {H : Type} (d : DataW H) : 1 ≤ Rows.uptoBulk d := by
  cases d with
  | lit l => cases l <;> simp [Rows.uptoBulk]
  | _ => simp [Rows.uptoBulk]
theorem bulk_part {H : Type} {d : DataW H} : ∀ {l : List (DataW H)}, d ∈ l → Rows.uptoBulk d ≤ Rows.uptoBulkAll l
  | [], h => by cases h
  | x :: r, h => by
    simp only [Rows.uptoBulkAll]
    rcases List.mem_cons.1 h with e | e
    · subst e; omega
    · have := bulk_part e; omega
theorem bulk_length {H : Type} : ∀ (l : List (DataW H)), l.length ≤ Rows.uptoBulkAll l
  | [] => by simp [Rows.uptoBulkAll]
  | x :: r => by have := bulk_one x; have := bulk_length r; simp only [Rows.uptoBulkAll, List.length_cons]; omega
theorem bulk_bound {H : Type} {l : List (DataW H)} (h : Rows.uptoSmall H l = true) : Rows.uptoBulkAll l ≤ 1048576 := by
  simpa [Rows.uptoSmall] using h
theorem bulk_at {H : Type} {l : List (DataW H)} (h : Rows.uptoSmall H l = true) {d : DataW H} (hd : d ∈ l) : Rows.uptoBulk d ≤ 1048576 := Nat.le_trans (bulk_part hd) (bulk_bound h)
theorem bulk_slice {H : Type} (elems spare : List (DataW H)) : elems.length ≤ Rows.uptoBulk (.slice elems spare) := by
  have h1 := bulk_length elems
  simp only [Rows.uptoBulk]
  omega
set_option maxRecDepth 100000 in
/-- A []byte that came in: its length is within its bulk. -/
theorem open_bytes_u {H : Type} {enc : TypeId × Value → H} {W : World} {base base' : Nat} {spare : Nat → Bool} {held : Bool} {t e : TypeId} {v : Value} {d : DataW H} {ps : List MemPlace}
    (hu : Tryz.prog.underlying t = some (.slice e)) (he : Tryz.prog.underlying e = some (.int .u8)) (hc : Tryz.prog.cellsOf e = 1)
    (hok : Value.okWide Tryz.prog W .any base t v) (h : DataW.Trod enc Tryz.prog W base' spare held t v d ps) :
    ∃ l, Bs W v l ∧ l.length ≤ Rows.uptoBulk d := by
  obtain ⟨a, len, cap, rfl⟩ := okWide_slice hu hok
  obtain ⟨fuel, hf⟩ := h
  rcases open_ints hu he hc hf with ⟨hcs, _⟩ | ⟨x, l, c, zs, hcs, _, hl, hm, hz, hx, hcell, hwz⟩
  · simp [Value.cells] at hcs
    obtain ⟨rfl, rfl, rfl⟩ := hcs
    exact ⟨[], ⟨none, 0, rfl, Nat.le_refl _, by unfold maxLen; omega, fun _ => rfl, fun j u hj => by simp [u8s] at hj⟩, by simp⟩
  · simp [Value.cells] at hcs
    obtain ⟨rfl, rfl, rfl⟩ := hcs
    obtain ⟨hx, _⟩ := Prod.mk.inj hx
    subst hx
    have hl2 : len ≤ zs.length := by
      rw [hz]
      split
      · exact hl
      · exact Nat.le_refl _
    have hlen : ((zs.take len).map fun n => UInt8.ofNat n.toNat).length = len := by simp; omega
    refine ⟨(zs.take len).map fun n => UInt8.ofNat n.toNat, ⟨some x, cap, by rw [hlen], by rw [hlen]; exact hl, hm, fun h => (by cases h), fun j u hj => ⟨x, rfl, ?_⟩⟩, ?_⟩
    · have hjl : j < len := by
        have := (List.getElem?_eq_some_iff.1 hj).1
        rw [u8s_length, hlen] at this
        exact this
      rw [hcell j (by omega)]
      have hw := hwz (zs.getD j 0) (by rw [List.getD_eq_getElem?_getD, List.getElem?_eq_getElem (show j < zs.length by omega)]; simp)
      simp [Lit.wf, IntKind.min, IntKind.max, IntKind.signed, IntKind.bits] at hw
      have hj2 : (u8s ((zs.take len).map fun n => UInt8.ofNat n.toNat))[j]? = some (.int .u8 (((UInt8.ofNat (zs[j]'(by omega)).toNat).toNat : Nat) : Int)) := by
        simp only [u8s, List.getElem?_map]
        rw [List.getElem?_take, if_pos hjl, List.getElem?_eq_getElem (show j < zs.length by omega)]
        rfl
      rw [hj2] at hj
      cases hj
      rw [List.getD_eq_getElem?_getD]
      rw [List.getElem?_eq_getElem (show j < zs.length by omega)] at hw ⊢
      simp only [Option.getD_some] at hw ⊢
      rw [UInt8.toNat_ofNat', Nat.mod_eq_of_lt (by omega)]
      congr 2
      omega
    · rw [hlen]
      have := bulk_slice (H := H) (lits .u8 (zs.take len)) (lits .u8 (zs.drop len))
      simp only [lits, List.length_map, List.length_take] at this
      refine Nat.le_trans ?_ this
      omega
end Go.Proofs.YtjllkmkngjdjjaaGreatDoor
namespace Go.Proofs.YtjllkmkngjdjjaaGreatDoor
open Go.ChangeShapes Go.WideShapes Go.ChangeAt Go.RowKit Go.Deep
set_option maxRecDepth 100000 in
/-- A []byte that was read: what it reads as. -/
theorem bytes_of_trod {H : Type} {enc : TypeId × Value → H} {W : World} {base : Nat} {spare : Nat → Bool} {held : Bool} {t e : TypeId} {fuel : Nat} {v : Value} {x : DataW H × List MemPlace}
    (hu : Tryz.prog.underlying t = some (.slice e)) (he : Tryz.prog.underlying e = some (.int .u8)) (hc : Tryz.prog.cellsOf e = 1) (h : DataW.trod enc Tryz.prog W base spare held fuel t [v] = some x) :
    ∃ l, Bs W v l ∧ l.length + 1 ≤ Rows.uptoBulk x.1 := by
  rcases open_ints hu he hc h with ⟨hcs, hx⟩ | ⟨a, len, cap, zs, hcs, _, hl, hm, hz, hx, hcell, hwz⟩
  · simp at hcs
    subst hcs
    exact ⟨[], ⟨none, 0, rfl, Nat.le_refl _, by unfold maxLen; omega, fun _ => rfl, fun j u hj => by simp [u8s] at hj⟩, by simpa using bulk_one x.1⟩
  · simp at hcs
    subst hcs
    have hl2 : len ≤ zs.length := by
      rw [hz]
      split
      · exact hl
      · exact Nat.le_refl _
    have hlen : ((zs.take len).map fun n => UInt8.ofNat n.toNat).length = len := by simp; omega
    refine ⟨(zs.take len).map fun n => UInt8.ofNat n.toNat, ⟨some a, cap, by rw [hlen], by rw [hlen]; exact hl, hm, fun h => (by cases h), fun j u hj => ⟨a, rfl, ?_⟩⟩, ?_⟩
    · have hjl : j < len := by
        have := (List.getElem?_eq_some_iff.1 hj).1
        rw [u8s_length, hlen] at this
        exact this
      rw [hcell j (by omega)]
      have hw := hwz (zs.getD j 0) (by rw [List.getD_eq_getElem?_getD, List.getElem?_eq_getElem (show j < zs.length by omega)]; simp)
      simp [Lit.wf, IntKind.min, IntKind.max, IntKind.signed, IntKind.bits] at hw
      have hj2 : (u8s ((zs.take len).map fun n => UInt8.ofNat n.toNat))[j]? = some (.int .u8 (((UInt8.ofNat (zs[j]'(by omega)).toNat).toNat : Nat) : Int)) := by
        simp only [u8s, List.getElem?_map]
        rw [List.getElem?_take, if_pos hjl, List.getElem?_eq_getElem (show j < zs.length by omega)]
        rfl
      rw [hj2] at hj
      cases hj
      rw [List.getD_eq_getElem?_getD]
      rw [List.getElem?_eq_getElem (show j < zs.length by omega)] at hw ⊢
      simp only [Option.getD_some] at hw ⊢
      rw [UInt8.toNat_ofNat', Nat.mod_eq_of_lt (by omega)]
      congr 2
      omega
    · rw [hlen, hx]
      have h1 := bulk_length (H := H) (lits .u8 (zs.take len))
      simp only [lits, List.length_map, List.length_take] at h1
      simp only [Rows.uptoBulk, lits]
      omega
theorem bulk_sum {H : Type} (D : Nat → DataW H) (f : Nat → List UInt8) : ∀ (l : List Nat), (∀ i ∈ l, (f i).length + 1 ≤ Rows.uptoBulk (D i)) → ((l.map f).map List.length).sum + l.length ≤ Rows.uptoBulkAll (l.map D)
  | [], _ => by simp
  | i :: r, h => by
    have h1 := h i (by simp)
    have h2 := bulk_sum D f r (fun j hj => h j (by simp [hj]))
    simp only [List.map_cons, List.sum_cons, List.length_cons, Rows.uptoBulkAll]
    omega
end Go.Proofs.YtjllkmkngjdjjaaGreatDoor
