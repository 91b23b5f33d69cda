/- A region that draws its order, within a round of a loop over a function. -/
import Derived.Test.YtnlleopcokhkoaaDoorCore
import Derived.RangeFuncNested
import Derived.RangeFuncLeaves
import Derived.OwnWalkIn
import Derived.OrdersIn
set_option linter.unusedSimpArgs false
set_option linter.unusedVariables false
namespace Go.Proofs.YtnlleopcokhkoaaDoor
open Go.RowKit
/-- operations that call nobody -/
def calmOp : Op → Bool
  | .move _ | .assign _ | .load _ _ | .indexAddr _ _ _ | .fieldAddr _ _ _ | .binOp _ _ _ _ _ | .pick _ _ _ => true
  | _ => false
section
variable {P : Program} {ops : Array Oper} {Q : Exit → Act → World → Prop} {n : Nat} {l0 : Nat}
theorem calm_v {α : Type} (X : Sem α) (f : α → Value) (w : World) : (∃ v w', ((do let x ← X; pure (.value (f x))) : Sem Next).run P w = .ok (.value v) w') ∨ (∃ x w', ((do let x ← X; pure (.value (f x))) : Sem Next).run P w = .halt x w') := by
  rw [Sem.run_bind]
  cases X.run P w with
  | ok v w' => exact .inl ⟨f v, w', rfl⟩
  | halt x w' => exact .inr ⟨x, w', rfl⟩
theorem calm_sem (o : Oper) (ρ : Operand → Value) (w : World) (h : calmOp o.op = true) : (∃ v w', (execOp ρ o).run P w = .ok (.value v) w') ∨ (∃ x w', (execOp ρ o).run P w = .halt x w') := by
  unfold execOp
  cases ho : o.op <;> rw [ho] at h <;> first | cases h | skip
  · exact .inl ⟨_, w, rfl⟩
  · exact .inl ⟨_, w, rfl⟩
  all_goals exact calm_v _ _ w
theorem calm_in {o : Oper} {a : Act} {w : World} {K : Act → World → Prop} (hc : calmOp o.op = true) (h : o.wp P a w K Q) : o.wpIn (Fence.wide.inRound l0) n P a w K Q := by
  refine ⟨fun _ _ => trivial, ?_⟩
  rw [Oper.semAt_plain _ _ _ (by intro c e; rw [e] at hc; cases hc)]
  unfold Oper.wp at h
  rcases calm_sem (P := P) o a.eval w hc with ⟨v, w', e⟩ | ⟨x, w', e⟩
  · rw [e] at h ⊢; exact h
  · rw [e] at h ⊢
    cases x <;> exact h
theorem wpOp_in {i : Nat} {K K' : Act → World → Prop} {a : Act} {w : World} (hQ : ¬ LetsOut Q) (hc : ∀ o, ops[i]? = some o → calmOp o.op = true) (hK : ∀ a w, K a w → K' a w) (h : wpOp P ops Q i K a w) : wpOpIn (Fence.wide.inRound l0) n P ops Q i K' a w := by
  unfold wpOp at h
  unfold wpOpIn
  cases ho : ops[i]? with
  | none => rw [ho] at h; exact hK _ _ h
  | some o =>
    rw [ho] at h
    simp only at h ⊢
    split at h
    · rename_i hw
      rw [if_pos hw]
      rcases h with h | ⟨_, h⟩
      · exact Oper.wpIn_mono hK (calm_in (hc o ho) h)
      · exact absurd h hQ
    · rename_i hw
      rw [if_neg hw]
      exact ⟨fun _ _ => trivial, hK _ _ h⟩
theorem wpAny_in (hQ : ¬ LetsOut Q) (hc : ∀ (i : Nat) o, ops[i]? = some o → calmOp o.op = true) : ∀ (fuel : Nat) (L : Array Bool) (a : Act) (w : World), wpAny P .any ops Q fuel L a w → wpAnyIn (Fence.wide.inRound l0) n P .any ops Q fuel L a w
  | 0, _, _, _, h => h
  | fuel + 1, L, a, w, h => ⟨h.1, fun i hi => wpOp_in hQ (hc i) (fun a w => wpAny_in hQ hc fuel _ a w) (h.2 i hi)⟩
end
variable {P : Program} {l : List Oper} {Q : Exit → Act → World → Prop}
/-- the region law, within a round -/
theorem wpIn_region_round {id n l0 : Nat} {a : Act} {w : World} (hm : P.follows .mixedOrders = true) (hQ : ¬ LetsOut Q) (hc : (l.all fun o => calmOp o.op) = true)
    (h : wpAny P .any l.toArray Q l.toArray.size (Array.replicate l.toArray.size false) a { w with drawn := w.drawn + 1 }) : (Code.region id l.toArray true).wpIn (Fence.wide.inRound l0) n P Q a w :=
  wpIn_region_any hm (wpAny_in hQ (fun i o ho => List.all_eq_true.1 hc o (List.mem_of_getElem? (by simpa using ho))) _ _ _ _ h)
end Go.Proofs.YtnlleopcokhkoaaDoor
