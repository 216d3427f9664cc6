/- A loop with one way on behind it: whatever way leads out of it, what stands behind is walked once. -/
import Derived.Test.YtignjjnflcpiiaaDoorVmM
set_option linter.unusedVariables false
set_option linter.unusedSimpArgs false
namespace Go.Proofs.YtignjjnflcpiiaaDoor
open Go.RowKit

section
variable {C : Cx} {σ : St}
theorem tri_loop_to {c : Code} {id : Nat} {K : St → Prop} {Q : Exit → St → Prop} {X Z : Type} (I : X → Prop) (S : X → St) (μ : X → Nat) (J : Z → Prop) (T : Z → St) (x0 : X) (h0 : I x0) (hw : Weak C σ (S x0)) (hK : ∀ σ τ, Weak C σ τ → K τ → K σ)
    (hr : ∀ x, I x → Tri C c (S x) (loopQ C I S μ (μ x) (blockQ id (thenQ (fun σ' => ∃ z, J z ∧ Weak C σ' (T z)) Q)))) (ht : ∀ z, J z → K (T z)) : Tri C (.loop c) σ (blockQ id (thenQ K Q)) := by
  refine Tri.mono (tri_loop I S μ x0 h0 hw hr) ?_
  intro e σ' h
  have fin : (∃ z, J z ∧ Weak C σ' (T z)) → K σ' := fun ⟨z, hz, hw⟩ => hK _ _ hw (ht z hz)
  cases e with
  | normal => exact fin h
  | exit i =>
    simp only [blockQ] at h ⊢
    cases hb : Nat.beq i id with
    | true => rw [hb] at h; exact fin h
    | false => rw [hb] at h; exact h
  | _ => exact h
/-- the way out -/
theorem outR {Z : Type} {J : Z → Prop} {T : Z → St} (z : Z) (hz : J z) (hw : Weak C σ (T z)) : ∃ z, J z ∧ Weak C σ (T z) := ⟨z, hz, hw⟩
/-- a round's end -/
theorem nextR {X : Type} {I : X → Prop} {S : X → St} {μ : X → Nat} {m : Nat} (y : X) (hI : I y) (hw : Weak C σ (S y)) (hm : μ y < m) : ∃ y, I y ∧ Weak C σ (S y) ∧ μ y < m := ⟨y, hI, hw, hm⟩
theorem weak_tri {c : Code} {Q : Exit → St → Prop} : ∀ σ τ, Weak C σ τ → Tri C c τ Q → Tri C c σ Q := fun _ _ hw h => Tri.weak hw h
/-- what stands behind a statement is walked once -/
theorem tri_cut {x y : Code} {Q : Exit → St → Prop} {Z : Type} (J : Z → Prop) (T : Z → St) (h1 : Tri C x σ (thenQ (fun σ' => ∃ z, J z ∧ Weak C σ' (T z)) Q)) (h2 : ∀ z, J z → Tri C y (T z) Q) : Tri C (.seq x y) σ Q :=
  tri_seq (Tri.mono h1 fun e σ' h => by
    cases e with
    | normal => obtain ⟨z, hz, hw⟩ := h; exact Tri.weak hw (h2 z hz)
    | _ => exact h)
end
end Go.Proofs.YtignjjnflcpiiaaDoor
