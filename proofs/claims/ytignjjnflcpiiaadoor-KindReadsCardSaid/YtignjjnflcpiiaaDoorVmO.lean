/- Scopes without a goto; regions that draw their order, by an invariant on what has run. -/
import Derived.Test.YtignjjnflcpiiaaDoorVmN
import Derived.Scope
set_option linter.unusedVariables false
set_option linter.unusedSimpArgs false
namespace Go.Proofs.YtignjjnflcpiiaaDoor
open Go.RowKit

def noGotoQ (Q : Exit → St → Prop) : Exit → St → Prop
  | .goto _, _ => False
  | e, σ => Q e σ
theorem tri_scope {C : Cx} {σ : St} {c : Code} {Q : Exit → St → Prop} (h : Tri C c σ (noGotoQ Q)) : Tri C (.scope c) σ Q := fun γ a w s => by
  refine wp_scope_straight (wp_mono (h γ a w s) ?_)
  rintro e a w ⟨γ, σ, q, r⟩
  cases e with
  | goto l => exact q
  | _ => exact ⟨γ, σ, q, r⟩
theorem tri_label {C : Cx} {σ : St} {l : Nat} {Q : Exit → St → Prop} (h : Q .normal σ) : Tri C (.label l) σ Q := fun γ _ _ s => wp_label ⟨γ, σ, h, s⟩

theorem wpAny_inv {C : Cx} {ops : Array Oper} {Q : Exit → Act → World → Prop} (Inv : Array Bool → Act → World → Prop)
    (hstep : ∀ (listed : Array Bool) (j : Nat) oj a w, listed.size = ops.size → ops[j]? = some oj → listed.getD j true = false → (∀ e ∈ oj.after, Region.binds .any e = true → listed.getD e.on false = true) → Inv listed a w → wpOp C.P ops Q j (Inv (listed.setIfInBounds j true)) a w)
    (hend : ∀ (listed : Array Bool) a w, listed.size = ops.size → Region.ready .any ops listed = [] → Inv listed a w → Q .normal a w) :
    ∀ (fuel : Nat) (listed : Array Bool) a w, listed.size = ops.size → (listed.toList.filter (! ·)).length ≤ fuel → Inv listed a w → wpAny C.P .any ops Q fuel listed a w := by
  intro fuel
  induction fuel with
  | zero =>
    intro listed a w hs hf hi
    have hr : Region.ready .any ops listed = [] := by
      cases h : Region.ready .any ops listed with
      | nil => rfl
      | cons j r =>
        exfalso
        have hj : j ∈ Region.ready .any ops listed := by rw [h]; exact List.mem_cons_self
        have h0 := (mem_ready.1 hj).1
        rw [Array.getD_eq_getD_getElem?] at h0
        cases hx : listed[j]? with
        | none => rw [hx] at h0; cases h0
        | some b =>
          rw [hx] at h0
          simp only [Option.getD_some] at h0
          subst h0
          have hm : false ∈ listed.toList.filter (! ·) := List.mem_filter.2 ⟨by
            have := Array.mem_of_getElem? hx
            simpa using this, rfl⟩
          have := List.length_pos_iff.2 (List.ne_nil_of_mem hm)
          omega
    exact ⟨hr, hend listed a w hs hr hi⟩
  | succ fuel ih =>
    intro listed a w hs hf hi
    refine ⟨fun hr => hend listed a w hs hr hi, fun j hj => ?_⟩
    obtain ⟨hj0, oj, hoj, hall⟩ := mem_ready.1 hj
    have hjs : j < ops.size := (Array.getElem?_eq_some_iff.1 hoj).1
    have hjl : j < listed.size := by omega
    refine wpOp_mono (fun a w h => ih _ a w (by simpa using hs) ?_ h) (hstep listed j oj a w hs hoj hj0 hall hi)
    have hlj : listed[j] = false := by
      rw [Array.getD_eq_getD_getElem?, Array.getElem?_eq_getElem hjl] at hj0
      exact hj0
    have key : ∀ (l : List Bool) (j : Nat) (h : j < l.length), l[j] = false → ((l.set j true).filter (! ·)).length + 1 = (l.filter (! ·)).length := by
      intro l
      induction l with
      | nil => intro j h; simp at h
      | cons b l ihl =>
        intro j h hb
        cases j with
        | zero =>
          simp only [List.getElem_cons_zero] at hb
          subst hb
          simp
        | succ j =>
          simp only [List.getElem_cons_succ] at hb
          have := ihl j (by simpa using h) hb
          cases b <;> simp [List.set_cons_succ, List.filter_cons] <;> omega
    have hk := key listed.toList j (by simpa using hjl) (by simpa using hlj)
    rw [Array.toList_setIfInBounds]
    omega
theorem ready_nil {ops : Array Oper} (hgd : goesDown ops = true) {listed : Array Bool} (hs : listed.size = ops.size) (hr : Region.ready .any ops listed = []) : ∀ i, listed.getD i true = true := by
  intro i
  induction i using Nat.strongRecOn with
  | _ i ih =>
    cases hi : listed.getD i true with
    | true => rfl
    | false =>
      exfalso
      have his : i < ops.size := by
        rw [← hs]
        rcases Nat.lt_or_ge i listed.size with h | h
        · exact h
        · rw [Array.getD_eq_getD_getElem?, Array.getElem?_eq_none h] at hi; cases hi
      have : i ∈ Region.ready .any ops listed := by
        rw [mem_ready]
        refine ⟨hi, ops[i], Array.getElem?_eq_getElem his, fun e he hb => ?_⟩
        have hlt := goesDown_spec hgd (Array.getElem?_eq_getElem his) he hb
        have h1 := ih e.on hlt
        rw [Array.getD_eq_getD_getElem?, Array.getElem?_eq_getElem (by omega)] at h1 ⊢
        exact h1
      rw [hr] at this
      cases this
/-- a region that draws its order: S L is the state when just the operations L have run -/
theorem tri_drawI {C : Cx} {σ : St} {id : Nat} {l : List Oper} {Q : Exit → St → Prop} (S : (Nat → Bool) → St) (hgd : goesDown l.toArray = true) (hn : dstsOk C.n l = true) (h0 : Weak C σ (S (fun i => decide (l.length ≤ i))))
    (hstep : ∀ (L : Nat → Bool) (j : Nat) oj, l[j]? = some oj → L j = false → (∀ e ∈ oj.after, Region.binds .any e = true → L e.on = true) → Step1 C (fun _ => true) l.toArray oj (S L) (fun σ' => Weak C σ' (S (fun i => if i = j then true else L i))))
    (hend : Q .normal (S (fun _ => true))) : Tri C (.region id l.toArray true) σ Q := by
  intro γ a w s
  refine wp_region_any C.mixed ?_
  have s' : SR C γ σ a w.drew := s.ext (Below.refl _ w).drew
  obtain ⟨γ', s'⟩ := h0 γ a _ s'
  refine wpAny_inv (fun listed a w => ∃ γ, SR C γ (S (fun i => listed.getD i true)) a w) (fun listed j oj a w hs hoj hj hall hI => ?step) (fun listed a w hs hr hI => ?fin) _ _ a w.drew (by simp) (Nat.le_trans (List.length_filter_le _ _) (by simp)) ⟨γ', ?start⟩
  case step =>
    obtain ⟨γ, r⟩ := hI
    have hjs : j < l.length := by simpa using (Array.getElem?_eq_some_iff.1 hoj).1
    have hsz : listed.size = l.length := by simpa using hs
    refine Step1.wpOp hoj (hstep (fun i => listed.getD i true) j oj (by simpa using hoj) hj (fun e he hb => ?_)) (dstsOk_spec hn j oj hoj) r (fun γ σ a w s k => ?_)
    · have hlt := goesDown_spec hgd hoj he hb
      have h1 := hall e he hb
      rw [Array.getD_eq_getD_getElem?, Array.getElem?_eq_getElem (by omega)] at h1 ⊢
      exact h1
    · obtain ⟨γ', s'⟩ := k γ a w s
      refine ⟨γ', ?_⟩
      have : (fun i => (listed.setIfInBounds j true).getD i true) = fun i => if i = j then true else listed.getD i true := by
        funext i
        by_cases hij : i = j
        · subst hij; simp [show i < listed.size by omega]
        · rw [if_neg hij, getD_set_ne true (Ne.symm hij)]
      rw [this]
      exact s'
  case fin =>
    obtain ⟨γ, r⟩ := hI
    have : (fun i => listed.getD i true) = fun _ => true := by funext i; exact ready_nil hgd hs hr i
    rw [this] at r
    exact ⟨γ, _, hend, r⟩
  case start =>
    have : (fun i => (Array.replicate l.toArray.size false).getD i true) = fun i => decide (l.length ≤ i) := by
      funext i
      rw [Array.getD_eq_getD_getElem?, Array.getElem?_replicate]
      by_cases hi : i < l.toArray.size
      · rw [if_pos hi]; simp at hi; simp; omega
      · rw [if_neg hi]; simp at hi; simp; omega
    rw [this]
    exact s'
end Go.Proofs.YtignjjnflcpiiaaDoor
