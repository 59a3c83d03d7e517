/- A DISK IN PLAIN WORDS: its files as a function, its raw writes. No statement of the seed is proved here. -/
import Derived.Test.YtjllkmkngjdjjaaDoorMap
namespace Go.Proofs.YtjllkmkngjdjjaaDoor
open Go.RowKit

structure RawD where
  kind : Nat
  name : ByteArray
  bytes : List UInt8
  size : Nat
  to : ByteArray
abbrev Fs := ByteArray → Option (List UInt8)
/-- What a raw write makes of the files. -/
def fsDo (fs : Fs) (r : RawD) : Fs :=
  if r.kind = 1 then upd fs r.name (some [])
  else if r.kind = 2 then upd fs r.name (some ((fs r.name).getD [] ++ r.bytes))
  else if r.kind = 3 then upd fs r.name (some (((fs r.name).getD []).take r.size))
  else if r.kind = 4 then upd fs r.name none
  else upd (upd fs r.name none) r.to (some ((fs r.name).getD []))
structure DSt where
  sec : Nat
  fs : Fs
  raws : List RawD
def DSt.run (s : DSt) (r : RawD) : DSt := ⟨s.sec, fsDo s.fs r, s.raws ++ [r]⟩
def DSt.runs (s : DSt) (l : List RawD) : DSt := l.foldl DSt.run s
theorem DSt.runs_nil (s : DSt) : s.runs [] = s := rfl
theorem DSt.runs_cons (s : DSt) (r : RawD) (l : List RawD) : s.runs (r :: l) = (s.run r).runs l := rfl
theorem DSt.runs_append (s : DSt) (l m : List RawD) : s.runs (l ++ m) = (s.runs l).runs m := by simp [DSt.runs]
theorem DSt.runs_sec (s : DSt) (l : List RawD) : (s.runs l).sec = s.sec := by
  induction l generalizing s with
  | nil => rfl
  | cons r l ih => rw [DSt.runs_cons, ih]; rfl
theorem DSt.runs_raws (s : DSt) (l : List RawD) : (s.runs l).raws = s.raws ++ l := by
  induction l generalizing s with
  | nil => simp [DSt.runs]
  | cons r l ih => rw [DSt.runs_cons, ih]; simp [DSt.run]
def emptyD (sec : Nat) : DSt := ⟨sec, fun _ => none, []⟩
/-- A text may name a file. -/
def nameOk (n : ByteArray) : Bool := decide (1 ≤ n.size) && decide (n.size ≤ 128)
/-- What is wrong with a call of a file. -/
def dWrong (s : DSt) (n : ByteArray) (there : Bool) : Int :=
  if nameOk n = false then 2 else match s.fs n with
    | some _ => if there then 0 else 120
    | none => if there then 121 else 0
def rCreate (n : ByteArray) : RawD := ⟨1, n, [], 0, ByteArray.empty⟩
def rAppend (n : ByteArray) (b : List UInt8) : RawD := ⟨2, n, b, 0, ByteArray.empty⟩
def rCut (n : ByteArray) (k : Nat) : RawD := ⟨3, n, [], k, ByteArray.empty⟩
def rRemove (n : ByteArray) : RawD := ⟨4, n, [], 0, ByteArray.empty⟩
def rRename (n m : ByteArray) : RawD := ⟨5, n, [], 0, m⟩
theorem run_create (s : DSt) (n : ByteArray) : (s.run (rCreate n)).fs = upd s.fs n (some []) := rfl
theorem run_append (s : DSt) (n : ByteArray) (b : List UInt8) : (s.run (rAppend n b)).fs = upd s.fs n (some ((s.fs n).getD [] ++ b)) := rfl
theorem run_append_fs (fs : Fs) (n : ByteArray) (b : List UInt8) : fsDo fs (rAppend n b) = upd fs n (some ((fs n).getD [] ++ b)) := rfl
theorem run_cut (s : DSt) (n : ByteArray) (k : Nat) : (s.run (rCut n k)).fs = upd s.fs n (some (((s.fs n).getD []).take k)) := rfl
theorem run_remove (s : DSt) (n : ByteArray) : (s.run (rRemove n)).fs = upd s.fs n none := rfl
/-- How many bytes the next raw write of an append has. -/
def chunkN (sec len n : Nat) : Nat := min (sec - len % sec) n
theorem chunkN_le (sec len n : Nat) : chunkN sec len n ≤ n := Nat.min_le_right _ _
theorem chunkN_pos {sec len n : Nat} (hs : 0 < sec) (hn : 0 < n) : 0 < chunkN sec len n := by
  have := Nat.mod_lt len hs
  unfold chunkN
  omega
/-- The pieces of an append, behind len bytes. -/
def chunks (sec len : Nat) : Nat → List UInt8 → List (List UInt8)
  | 0, _ => []
  | _ + 1, [] => []
  | f + 1, x :: b => (x :: b).take (chunkN sec len (b.length + 1)) :: chunks sec (len + chunkN sec len (b.length + 1)) f ((x :: b).drop (chunkN sec len (b.length + 1)))
theorem chunks_flat {sec : Nat} (hs : 0 < sec) : ∀ (f len : Nat) (b : List UInt8), b.length ≤ f → (chunks sec len f b).flatten = b
  | 0, len, b, h => by have : b = [] := List.eq_nil_of_length_eq_zero (by omega); subst this; rfl
  | f + 1, len, [], h => rfl
  | f + 1, len, x :: b, h => by
    have hp := chunkN_pos (len := len) (n := b.length + 1) hs (by omega)
    rw [chunks, List.flatten_cons, chunks_flat hs f _ _ (by simp at h ⊢; omega), List.take_append_drop]
theorem chunks_ne {sec : Nat} (hs : 0 < sec) : ∀ (f len : Nat) (b : List UInt8), ∀ c ∈ chunks sec len f b, c ≠ []
  | 0, len, b, c, h => by simp [chunks] at h
  | f + 1, len, [], c, h => by simp [chunks] at h
  | f + 1, len, x :: b, c, h => by
    have hp := chunkN_pos (len := len) (n := b.length + 1) hs (by omega)
    rw [chunks] at h
    rcases List.mem_cons.1 h with e | e
    · subst e
      intro e2
      have := congrArg List.length e2
      simp at this
      omega
    · exact chunks_ne hs f _ _ c e
theorem chunks_step {sec len f : Nat} {b : List UInt8} (hb : 0 < b.length) : chunks sec len (f + 1) b = b.take (chunkN sec len b.length) :: chunks sec (len + chunkN sec len b.length) f (b.drop (chunkN sec len b.length)) := by
  cases b with
  | nil => simp at hb
  | cons x b => rfl
theorem chunks_nil (sec len f : Nat) : chunks sec len f [] = [] := by cases f <;> rfl
theorem chunks_more {sec : Nat} (hs : 0 < sec) : ∀ (f g len : Nat) (b : List UInt8), b.length ≤ f → b.length ≤ g → chunks sec len f b = chunks sec len g b
  | 0, g, len, b, h, _ => by have : b = [] := List.eq_nil_of_length_eq_zero (by omega); subst this; rw [chunks_nil, chunks_nil]
  | f + 1, 0, len, b, _, h => by have : b = [] := List.eq_nil_of_length_eq_zero (by omega); subst this; rw [chunks_nil, chunks_nil]
  | f + 1, g + 1, len, [], _, _ => rfl
  | f + 1, g + 1, len, x :: b, h, k => by
    have hp := chunkN_pos (len := len) (n := b.length + 1) hs (by omega)
    rw [chunks, chunks, chunks_more hs f g _ _ (by simp at h ⊢; omega) (by simp at k ⊢; omega)]
theorem chunks_few {sec : Nat} (hs : 0 < sec) (f len : Nat) (b : List UInt8) (h : b.length ≤ f) : (chunks sec len f b).length ≤ b.length := by
  have h1 := chunks_flat hs f len b h
  have h2 := chunks_ne hs f len b
  have : ∀ (l : List (List UInt8)), (∀ c ∈ l, c ≠ []) → l.length ≤ l.flatten.length := by
    intro l
    induction l with
    | nil => simp
    | cons c l ih =>
      intro hl
      have := ih (fun d hd => hl d (by simp [hd]))
      have hc : 0 < c.length := List.length_pos_iff.2 (hl c (by simp))
      simp only [List.length_cons, List.flatten_cons, List.length_append]
      omega
  have := this _ h2
  rwa [h1] at this
/-- An append's raw writes. -/
def appR (s : DSt) (n : ByteArray) (b : List UInt8) : List RawD := (chunks s.sec ((s.fs n).getD []).length b.length b).map (rAppend n)
theorem runs_appends (n : ByteArray) : ∀ (cs : List (List UInt8)) (s : DSt) (l : List UInt8), s.fs n = some l → (s.runs (cs.map (rAppend n))).fs = upd s.fs n (some (l ++ cs.flatten))
  | [], s, l, h => by
    rw [List.map_nil, DSt.runs_nil, List.flatten_nil, List.append_nil]
    funext m
    by_cases e : m = n
    · subst e; rw [upd_same, h]
    · rw [upd_other _ _ e]
  | c :: cs, s, l, h => by
    rw [List.map_cons, DSt.runs_cons, runs_appends n cs (s.run (rAppend n c)) (l ++ c) (by rw [run_append, upd_same, h]; rfl), run_append]
    funext m
    by_cases e : m = n
    · subst e; rw [upd_same, upd_same]; simp
    · rw [upd_other _ _ e, upd_other _ _ e, upd_other _ _ e]
theorem runs_appR {s : DSt} (hs : 0 < s.sec) {n : ByteArray} {l : List UInt8} (h : s.fs n = some l) (b : List UInt8) : (s.runs (appR s n b)).fs = upd s.fs n (some (l ++ b)) := by
  unfold appR
  rw [runs_appends n _ s l h, chunks_flat hs _ _ _ (Nat.le_refl _)]
end Go.Proofs.YtjllkmkngjdjjaaDoor
