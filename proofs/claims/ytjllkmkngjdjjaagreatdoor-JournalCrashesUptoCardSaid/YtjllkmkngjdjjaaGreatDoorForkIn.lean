/- THE LAW wp_region_forkS INSIDE A FENCE, for a region that calls no function. No statement of the seed is proved here. -/
import Derived.Test.YtjllkmkngjdjjaaGreatDoorDskC
import Derived.Test.YtjllkmkngjdjjaaGreatDoorNames
import Derived.Test.YtjllkmkngjdjjaaGreatDoorDskD
namespace Go.Proofs.YtjllkmkngjdjjaaGreatDoor
open Go.RowKit
section
variable {F : Fence} {n : Nat} {P : Program} {md : Region.Mode} {ops : Array Oper} {Q : Exit → Act → World → Prop} {S : World → Prop}
/-- It calls no function. -/
def calmB (o : Oper) : Bool := match o.op with
  | .move _ | .load _ _ | .nilCheck _ | .fieldAddr _ _ _ | .buildSlice _ _ _ | .store _ _ _ => true
  | .call c => match c.callee with
    | .builtin .append => true
    | _ => false
  | _ => false
def Calm : Result Next → Prop
  | .ok (.value _) _ => True
  | .ok .skip _ => True
  | .halt _ _ => True
  | _ => False
theorem calm_bind {α : Type} (s : Sem α) (f : α → Sem Next) (w : World) (h : ∀ v w', Calm ((f v).run P w')) : Calm ((s >>= f).run P w) := by
  simp only [Sem.run_bind]
  cases s.run P w with
  | ok v w' => exact h v w'
  | halt h w' => simp [Result.andThen, Calm]
theorem calm_pure (v : Value) (w : World) : Calm ((pure (.value v) : Sem Next).run P w) := by simp [Sem.run_pure, Calm]
theorem calm_halt (w : World) : Calm ((runtimePanic .nilDeref : Sem Next).run P w) := by
  unfold runtimePanic
  simp [go_sem, Calm]
theorem calm_run {o : Oper} (h : calmB o = true) (ρ : Operand → Value) (w : World) : Calm ((execOp ρ o).run P w) := by
  unfold calmB at h
  unfold execOp
  cases ho : o.op <;> simp only [ho] at h ⊢
  case call c =>
    cases hc : c.callee <;> simp only [hc] at h <;> first | (exact absurd h (by decide)) | skip
    rename_i b
    cases b <;> simp only at h <;> first | (exact absurd h (by decide)) | skip
    simp only [resolve, hc, invoke, Sem.run_bind, Sem.run_pure, Result.andThen_ok]
    exact calm_bind _ _ _ fun _ _ => calm_pure _ _
  case nilCheck x =>
    split
    · exact calm_halt _
    · exact calm_halt _
    · exact calm_halt _
    · split
      · exact calm_halt _
      · refine calm_bind _ _ _ fun _ _ => calm_bind _ _ _ fun _ _ => ?_
        split
        · exact calm_bind _ _ _ fun _ _ => calm_pure _ _
        · exact calm_pure _ _
      · exact calm_pure _ _
    · exact calm_pure _ _
  all_goals first
    | (exact absurd h (by decide))
    | (exact calm_pure _ _)
    | (exact calm_bind _ _ _ fun _ _ => calm_pure _ _)
    | (exact calm_bind _ _ _ fun _ _ => by simp [Sem.run_pure, Calm])
theorem calm_about {o : Oper} (h : calmB o = true) (ρ : Operand → Value) (w : World) : o.about P w ρ = none := by
  unfold calmB at h
  unfold Oper.about
  cases ho : o.op <;> simp only [ho] at h ⊢
  rename_i c
  cases hc : c.callee <;> simp only [hc] at h <;> first | (exact absurd h (by decide)) | skip
  rename_i b
  cases b <;> simp only at h <;> first | (exact absurd h (by decide)) | skip
  simp [resolve, hc, Target.leads, Sem.run_pure]
theorem calm_wpIn {o : Oper} {a : Act} {K : Act → World → Prop} {w : World} (hc : calmB o = true) (h : o.wp P a w K Q) : o.wpIn F n P a w K Q := by
  have hd : ∀ c, o.op ≠ .defer c := fun c e => by unfold calmB at hc; rw [e] at hc; cases hc
  refine ⟨fun f hf => (by rw [calm_about hc] at hf; cases hf), ?_⟩
  rw [Oper.semAt_eq _ _ _ hd]
  unfold Oper.wp at h
  have hr := calm_run (P := P) hc a.eval w
  generalize (execOp a.eval o).run P w = r at *
  cases r with
  | ok x w' => cases x <;> first | exact h | exact hr.elim
  | halt x w' => cases x <;> exact h
theorem calm_wpOpIn {i : Nat} {a : Act} {K : Act → World → Prop} {w : World} (hc : ops.all calmB = true) (hL : ¬ LetsOut Q) (h : wpOp P ops Q i K a w) : wpOpIn F n P ops Q i K a w := by
  unfold wpOp at h
  unfold wpOpIn
  cases ho : ops[i]? with
  | none => simpa only [ho] using h
  | some o =>
    simp only [ho] at h ⊢
    have hco : calmB o = true := by
      rw [Array.all_eq_true] at hc
      obtain ⟨hlt, he⟩ := Array.getElem?_eq_some_iff.1 ho
      rw [← he]
      exact hc i hlt
    split
    · rename_i hw
      simp only [hw, if_true] at h
      rcases h with h | h
      · exact calm_wpIn hco h
      · exact absurd h.2 hL
    · rename_i hw
      simp only [hw] at h
      exact ⟨fun f hf => (by rw [calm_about hco] at hf; cases hf), h⟩
theorem calm_wpAnyIn (hc : ops.all calmB = true) (hL : ¬ LetsOut Q) : ∀ (fuel : Nat) (listed : Array Bool) (a : Act) (w : World), wpAny P md ops Q fuel listed a w → wpAnyIn F n P md ops Q fuel listed a w
  | 0, _, _, _, h => h
  | fuel + 1, _, _, _, h => ⟨h.1, fun i hi => calm_wpOpIn hc hL (wpOp_mono (fun a' w' h' => calm_wpAnyIn hc hL fuel _ a' w' h') (h.2 i hi))⟩
/-- **THE LAW.** -/
theorem wpIn_region_forkS {id : Nat} {a : Act} {w : World} {l : List Oper} (S : World → Prop) (tk : List Nat) (i j : Nat) (tl : List Nat) (hm : P.follows .mixedOrders = true) (hc : l.toArray.all calmB = true)
    (hB : (Region.noSelect l.toArray && takeB .any l.toArray tk (Array.replicate l.toArray.size false) && decide (Region.ready .any l.toArray (tk.foldl (fun l i => l.setIfInBounds i true) (Array.replicate l.toArray.size false)) = [i, j]) &&
      decide (Region.ready .any l.toArray ((tk.foldl (fun l i => l.setIfInBounds i true) (Array.replicate l.toArray.size false)).setIfInBounds i true) = [j]) && decide (Region.ready .any l.toArray ((tk.foldl (fun l i => l.setIfInBounds i true) (Array.replicate l.toArray.size false)).setIfInBounds j true) = [i]) &&
      seqL .any l.toArray tl (((tk.foldl (fun l i => l.setIfInBounds i true) (Array.replicate l.toArray.size false)).setIfInBounds i true).setIfInBounds j true) && decide (tk.length + (tl.length + 1 + 1) = l.toArray.size) &&
      decide (((tk.foldl (fun l i => l.setIfInBounds i true) (Array.replicate l.toArray.size false)).setIfInBounds j true).setIfInBounds i true = ((tk.foldl (fun l i => l.setIfInBounds i true) (Array.replicate l.toArray.size false)).setIfInBounds i true).setIfInBounds j true)) = true)
    (hL : ¬ LetsOut Q) (hQ : ∀ c a a' w, Q (.panic c) a w → Q (.panic c) a' w) (hS : S w.drew)
    (h : wpTkS P l.toArray S (fun a' => Fork P l.toArray Q S l i j tl a' w.drew) (opsL l tk) a) : (Code.region id l.toArray true).wpIn F n P Q a w := by
  simp only [Bool.and_eq_true, decide_eq_true_eq] at hB
  obtain ⟨⟨⟨⟨⟨⟨⟨hsel, ht⟩, h1⟩, h2⟩, h3⟩, h5⟩, hlen⟩, h4⟩ := hB
  refine wpIn_region_any hm (calm_wpAnyIn hc hL _ _ _ _ (wpAny_of_held (S := S) _ _ _ _ ?_))
  have := held_of_tkS (P := P) (Q := Q) l rfl hsel hQ w.drew hS (tl.length + 1 + 1) tk (Array.replicate l.toArray.size false) a ht (tkS_mono (fun a' h' => held_of_fork l rfl h1 h2 h3 h4 h5 hS h') _ _ h)
  rw [hlen] at this
  exact this
/-- Only the normal end. -/
def OnlyN (Q : Exit → Act → World → Prop) : Exit → Act → World → Prop := fun e a w => e = .normal ∧ Q .normal a w
theorem onlyN_normal {a : Act} {w : World} (h : Q .normal a w) : OnlyN Q .normal a w := ⟨rfl, h⟩
theorem wpIn_region_forkN {id : Nat} {a : Act} {w : World} {l : List Oper} (S : World → Prop) (tk : List Nat) (i j : Nat) (tl : List Nat) (hm : P.follows .mixedOrders = true) (hc : l.toArray.all calmB = true)
    (hB : (Region.noSelect l.toArray && takeB .any l.toArray tk (Array.replicate l.toArray.size false) && decide (Region.ready .any l.toArray (tk.foldl (fun l i => l.setIfInBounds i true) (Array.replicate l.toArray.size false)) = [i, j]) &&
      decide (Region.ready .any l.toArray ((tk.foldl (fun l i => l.setIfInBounds i true) (Array.replicate l.toArray.size false)).setIfInBounds i true) = [j]) && decide (Region.ready .any l.toArray ((tk.foldl (fun l i => l.setIfInBounds i true) (Array.replicate l.toArray.size false)).setIfInBounds j true) = [i]) &&
      seqL .any l.toArray tl (((tk.foldl (fun l i => l.setIfInBounds i true) (Array.replicate l.toArray.size false)).setIfInBounds i true).setIfInBounds j true) && decide (tk.length + (tl.length + 1 + 1) = l.toArray.size) &&
      decide (((tk.foldl (fun l i => l.setIfInBounds i true) (Array.replicate l.toArray.size false)).setIfInBounds j true).setIfInBounds i true = ((tk.foldl (fun l i => l.setIfInBounds i true) (Array.replicate l.toArray.size false)).setIfInBounds i true).setIfInBounds j true)) = true)
    (hS : S w.drew)
    (h : wpTkS P l.toArray S (fun a' => Fork P l.toArray (OnlyN Q) S l i j tl a' w.drew) (opsL l tk) a) : (Code.region id l.toArray true).wpIn F n P Q a w :=
  wpIn_mono (wpIn_region_forkS (Q := OnlyN Q) S tk i j tl hm hc hB (fun ⟨_, _, h, _⟩ => by cases h) (fun _ _ _ _ h => by cases h.1) hS h) (fun _ _ _ ⟨he, h⟩ => he ▸ h)
end
end Go.Proofs.YtjllkmkngjdjjaaGreatDoor
