/- States written out; when one state is also another. -/
import Derived.Test.YtignjjnflcpiiaaDoorVmD
set_option linter.unusedVariables false
set_option linter.unusedSimpArgs false
namespace Go.Proofs.YtignjjnflcpiiaaDoor
open Go.RowKit

def envL : List (Nat × AV) → Nat → AV
  | [], _ => .any
  | (j, v) :: r, i => match Nat.beq i j with
    | true => v
    | false => envL r i
def heapL : List (Nat × AObj) → Nat → Option AObj
  | [], _ => none
  | (j, o) :: r, i => match Nat.beq i j with
    | true => some o
    | false => heapL r i
/-- a state by its slots and its objects -/
def st (L : List (Nat × AV)) (H : List (Nat × AObj)) : St := ⟨envL L, heapL H⟩
def AllE (σ : St) : List (Nat × AV) → Prop
  | [] => True
  | (j, v) :: r => σ.env j = v ∧ AllE σ r
def AllH (σ : St) : List (Nat × AObj) → Prop
  | [] => True
  | (j, o) :: r => σ.heap j = some o ∧ AllH σ r
theorem envL_of {σ : St} {t : Nat} : ∀ {L : List (Nat × AV)}, AllE σ L → envL L t = .any ∨ envL L t = σ.env t
  | [], _ => .inl rfl
  | (j, v) :: r, h => by
    rw [envL]
    cases hb : Nat.beq t j with
    | true => exact .inr (by rw [Nat.eq_of_beq_eq_true hb]; exact h.1.symm)
    | false => exact envL_of h.2
theorem heapL_of {σ : St} {t : Nat} {o : AObj} : ∀ {H : List (Nat × AObj)}, AllH σ H → heapL H t = some o → σ.heap t = some o
  | (j, p) :: r, h, he => by
    rw [heapL] at he
    cases hb : Nat.beq t j with
    | true =>
      rw [hb] at he
      rw [Nat.eq_of_beq_eq_true hb]
      exact h.1.trans he
    | false =>
      rw [hb] at he
      exact heapL_of h.2 he

section
variable {C : Cx}
/-- fewer objects -/
theorem SR.less {γ : Gh} {σ : St} {a : Act} {w : World} (s : SR C γ σ a w) {τ : St} (he : ∀ t, τ.env t = .any ∨ τ.env t = σ.env t) (hh : ∀ t o, τ.heap t = some o → σ.heap t = some o) : SR C γ τ a w := by
  have hM : ∀ b, b < w.heap.size → Mut γ τ.heap b → Mut γ σ.heap b := fun b _ ⟨id, o, h1, h2⟩ => ⟨id, o, hh id o h1, h2⟩
  refine { obj := fun id o h => ?_, disj := fun id id' o o' b h h' => s.disj id id' o o' b (hh _ _ h) (hh _ _ h'), two := fun id o b h => s.two id o b (hh _ _ h), lt := fun id o b h => s.lt id o b (hh _ _ h), chg := s.chg, glob := s.glob, pins := fun id o v hp h => s.pins id o v hp (hh _ _ h), env := fun t => ?_, size := s.size, defers := s.defers }
  · exact (s.obj id o (hh _ _ h)).mono (fun _ _ _ => rfl) hM (fun _ _ => rfl)
  · rcases he t with h | h
    · rw [h]; exact .any _ _
    · rw [h]; exact (s.env t).mono (fun _ _ _ => rfl) hM (Nat.le_refl _) _ (fun _ _ => rfl)
theorem weak_st {σ : St} {L : List (Nat × AV)} {H : List (Nat × AObj)} (hL : AllE σ L) (hH : AllH σ H) : Weak C σ (st L H) := fun γ _ _ s => ⟨γ, s.less (fun _ => envL_of hL) (fun _ _ h => heapL_of hH h)⟩
end
end Go.Proofs.YtignjjnflcpiiaaDoor
