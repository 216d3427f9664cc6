/- A region that draws its order and has one operation that writes, which does not wait for all that reads: each way in which that one may come up is walked. -/
import Derived.Test.YtignjjnflcpiiaaDoorVmO
set_option linter.unusedVariables false
set_option linter.unusedSimpArgs false
namespace Go.Proofs.YtignjjnflcpiiaaDoor
open Go.RowKit

/-- may an operation come up when these are left? -/
def rdy (ops : Array Oper) (R : List Nat) (j : Nat) : Bool := match ops[j]? with
  | some o => o.after.toList.all fun e => match Region.binds .any e with
    | true => !(R.any (Nat.beq e.on))
    | false => true
  | none => false
def opsOf (ops : Array Oper) : List Nat → List Oper
  | [] => []
  | i :: R => match ops[i]? with
    | some o => o :: opsOf ops R
    | none => opsOf ops R
def remv (j : Nat) : List Nat → List Nat
  | [] => []
  | i :: R => match Nat.beq i j with
    | true => R
    | false => i :: remv j R
def TreeW (C : Cx) (wr : Oper → Bool) (ops : Array Oper) (j0 : Nat) (R : List Nat) (σ : St) (K : St → Prop) : Prop := match rdy ops R j0 with
  | true => match ops[j0]? with
    | some o => Steps C wr ops (o :: opsOf ops (remv j0 R)) σ K
    | none => False
  | false => True
def TreeQ (C : Cx) (wr : Oper → Bool) (ops : Array Oper) (σ : St) (T : Nat → St → Prop) : List Nat → Prop
  | [] => True
  | j :: r => (match ops[j]? with
    | some o => Steps C wr ops [o] σ (T j)
    | none => False) ∧ TreeQ C wr ops σ T r
def cands (ops : Array Oper) (j0 : Nat) (R : List Nat) : List Nat → List Nat
  | [] => []
  | j :: r => match Nat.beq j j0, rdy ops R j with
    | false, true => j :: cands ops j0 R r
    | _, _ => cands ops j0 R r
def Tree (C : Cx) (wr : Oper → Bool) (ops : Array Oper) (j0 : Nat) (K : St → Prop) : Nat → List Nat → St → Prop
  | 0, R, σ => TreeW C wr ops j0 R σ K
  | n + 1, R, σ => TreeW C wr ops j0 R σ K ∧ TreeQ C wr ops σ (fun j σ' => Tree C wr ops j0 K n (remv j R) σ') (cands ops j0 R R)
def pairs1 (ops : Array Oper) (wr : Oper → Bool) (B : Nat → Nat → Bool) (j0 : Nat) : Bool := (List.range ops.size).all fun j => (List.range j).all fun i => Nat.beq i j0 || (Nat.beq j j0 || (B j i || match ops[i]?, ops[j]? with
  | some oi, some oj => !wr oi && !wr oj && oi.apart ops oj
  | _, _ => true))
def draw1 (ops : Array Oper) (wr : Oper → Bool) (j0 : Nat) : Bool := goesDown ops && closedB ops (waits ops) && pairs1 ops wr (waits ops) j0

section
variable {C : Cx} {wr : Oper → Bool} {ops : Array Oper} {σ : St} {K : St → Prop}
theorem remv_erase (j : Nat) : ∀ R : List Nat, remv j R = R.erase j
  | [] => rfl
  | i :: R => by
    rw [remv]
    cases h : Nat.beq i j with
    | true =>
      have := Nat.eq_of_beq_eq_true h
      subst this
      rw [List.erase_cons_head]
    | false =>
      have hne : i ≠ j := fun e => by rw [e, Nat.beq_refl] at h; cases h
      rw [List.erase_cons_tail (by simpa using hne), remv_erase j R]
theorem stepsI_opsOf : ∀ (R : List Nat) (σ : St), Steps C wr ops (opsOf ops R) σ K → StepsI C wr ops R σ K
  | [], σ, h => h
  | i :: R, σ, h => by
    unfold StepsI
    rw [opsOf] at h
    cases ho : ops[i]? with
    | none => rw [ho] at h; exact stepsI_opsOf R σ h
    | some o =>
      rw [ho] at h
      exact Step1.mono (fun σ' h' => stepsI_opsOf R σ' h') h
theorem cands_mem {j0 : Nat} {R : List Nat} {j : Nat} (hne : j ≠ j0) (hr : rdy ops R j = true) : ∀ {l : List Nat}, j ∈ l → j ∈ cands ops j0 R l
  | i :: l, h => by
    rw [cands]
    rcases List.mem_cons.1 h with rfl | h
    · rw [hr, beq_ne hne]; exact List.mem_cons_self
    · have ih := cands_mem (j0 := j0) (R := R) hne hr h
      split
      · exact List.mem_cons_of_mem _ ih
      · exact ih
theorem treeQ_get {T : Nat → St → Prop} {j : Nat} {o : Oper} (ho : ops[j]? = some o) : ∀ {l : List Nat}, j ∈ l → TreeQ C wr ops σ T l → Step1 C wr ops o σ (T j)
  | i :: l, h, ht => by
    rw [TreeQ] at ht
    rcases List.mem_cons.1 h with rfl | h
    · have := ht.1
      rw [ho] at this
      exact this
    · exact treeQ_get ho h ht.2
theorem rdy_of {R : List Nat} {j : Nat} {o : Oper} (ho : ops[j]? = some o) (h : ∀ e ∈ o.after, Region.binds .any e = true → e.on ∉ R) : rdy ops R j = true := by
  unfold rdy
  rw [ho]
  simp only
  rw [List.all_eq_true]
  intro e he
  split
  · rename_i hb
    rw [Bool.not_eq_true', List.any_eq_false]
    intro i hi hbq
    exact h e (by simpa using he) hb (by rw [Nat.eq_of_beq_eq_true hbq]; exact hi)
  · rfl
theorem pairs1_spec {B : Nat → Nat → Bool} {j0 : Nat} (h : pairs1 ops wr B j0 = true) {i j : Nat} {oi oj : Oper} (hi : ops[i]? = some oi) (hj : ops[j]? = some oj) (hij : i < j) (h1 : i ≠ j0) (h2 : j ≠ j0) (hB : B j i = false) : wr oi = false ∧ wr oj = false ∧ oi.apart ops oj = true := by
  have hjs : j < ops.size := (Array.getElem?_eq_some_iff.1 hj).1
  have a1 := List.all_eq_true.1 h j (List.mem_range.2 hjs)
  have a2 := List.all_eq_true.1 a1 i (List.mem_range.2 hij)
  rw [hi, hj, beq_ne h1, beq_ne h2, hB] at a2
  simp only [Bool.false_or, Bool.and_eq_true, Bool.not_eq_true'] at a2
  exact ⟨a2.1.1, a2.1.2, a2.2⟩
/-- a region that draws its order and has one operation, j0, that writes -/
theorem tri_draw1 {id : Nat} {l : List Oper} {Q : Exit → St → Prop} (wr : Oper → Bool) (j0 n : Nat) (hj0 : Nat.blt j0 l.length = true) (hlen : Nat.beq l.length (n + 1) = true) (hok : draw1 l.toArray wr j0 = true) (hn : dstsOk C.n l = true) (h : Tree C wr l.toArray j0 (Q .normal) n (List.range (n + 1)) σ) :
    Tri C (.region id l.toArray true) σ Q := by
  have hlen := Nat.eq_of_beq_eq_true hlen
  have hj0 := blt_lt hj0
  simp only [draw1, Bool.and_eq_true] at hok
  obtain ⟨⟨hgd, hcl⟩, hpr⟩ := hok
  intro γ a w s
  refine wp_region_any C.mixed ?_
  have s' : SR C γ σ a w.drew := s.ext (Below.refl _ w).drew
  refine wpAny_inv (fun listed a w => ∃ γ σ R, SR C γ σ a w ∧ R.Pairwise (· < ·) ∧ (∀ i, i ∈ R ↔ listed.getD i true = false) ∧ Down l.toArray listed ∧
    ((j0 ∈ R ∧ ∃ n, R.length ≤ n + 1 ∧ Tree C wr l.toArray j0 (Q .normal) n R σ) ∨ (j0 ∉ R ∧ StepsI C wr l.toArray R σ (Q .normal))))
    (fun listed j oj a w hs hoj hj hall hI => ?step) (fun listed a w hs hr hI => ?fin) _ _ a w.drew (by simp) (Nat.le_trans (List.length_filter_le _ _) (by simp)) ?start
  case step =>
    obtain ⟨γ, σ, R, r, hp, hR, hd, hT⟩ := hI
    have hjR : j ∈ R := (hR j).2 hj
    have hjs : j < l.toArray.size := (Array.getElem?_eq_some_iff.1 hoj).1
    have hlt : j < listed.size := by omega
    have hnd : R.Nodup := hp.imp (fun h => Nat.ne_of_lt h)
    have hR' : ∀ i, i ∈ R.erase j ↔ (listed.setIfInBounds j true).getD i true = false := fun i => by
      rw [List.Nodup.mem_erase_iff hnd, hR]
      by_cases hij : i = j
      · subst hij; simp [hlt]
      · rw [getD_set_ne true (Ne.symm hij)]
        simp [hij]
    have hd' : Down l.toArray (listed.setIfInBounds j true) := fun k' o' hk hks ho' e he hb => by
      by_cases hkj : k' = j
      · subst hkj
        rw [hoj] at ho'
        cases ho'
        exact getD_set_true (hall e he hb)
      · rw [getD_set_ne true (Ne.symm hkj)] at hk
        exact getD_set_true (hd k' o' hk hks ho' e he hb)
    have hdep : ∀ e ∈ oj.after, Region.binds .any e = true → e.on ∉ R := fun e he hb hm => by
      have h1 := hall e he hb
      have h2 := (hR e.on).1 hm
      rw [Array.getD_eq_getD_getElem?] at h1 h2
      cases hx : listed[e.on]? with
      | none => rw [hx] at h1; cases h1
      | some b => rw [hx] at h1 h2; simp only [Option.getD_some] at h1 h2; rw [h1] at h2; cases h2
    have hrd := rdy_of hoj hdep
    have hp' : (R.erase j).Pairwise (· < ·) := hp.sublist List.erase_sublist
    rcases hT with ⟨hm, n, hl, ht⟩ | ⟨hm, ht⟩
    · by_cases hjj : j = j0
      · subst hjj
        have hw : TreeW C wr l.toArray j R σ (Q .normal) := by
          cases n with
          | zero => exact ht
          | succ n => exact ht.1
        unfold TreeW at hw
        rw [hrd, hoj] at hw
        refine Step1.wpOp hoj hw (dstsOk_spec hn j oj hoj) r (fun γ σ a w s k => ?_)
        exact ⟨γ, σ, R.erase j, s, hp', hR', hd', .inr ⟨fun h => by rw [List.Nodup.mem_erase_iff hnd] at h; exact h.1 rfl, by rw [← remv_erase]; exact stepsI_opsOf _ _ k⟩⟩
      · cases n with
        | zero =>
          exfalso
          match R, hl, hjR, hm with
          | [x], _, h1, h2 => exact hjj ((List.mem_singleton.1 h1).trans (List.mem_singleton.1 h2).symm)
          | x :: y :: r, hl, _, _ => simp at hl
        | succ n =>
          have hs := treeQ_get hoj (cands_mem (j0 := j0) hjj hrd hjR) ht.2
          refine Step1.wpOp hoj hs (dstsOk_spec hn j oj hoj) r (fun γ σ a w s k => ?_)
          rw [remv_erase] at k
          exact ⟨γ, σ, R.erase j, s, hp', hR', hd', .inl ⟨(List.Nodup.mem_erase_iff hnd).2 ⟨fun e => hjj e.symm, hm⟩, n, by rw [List.length_erase_of_mem hjR]; omega, k⟩⟩
    · have hjj : j ≠ j0 := fun e => hm (e ▸ hjR)
      have hpull := stepsI_pull hoj R σ hp hjR (fun i oi hi hij hoi => by
        refine pairs1_spec hpr hoi hoj hij (fun e => hm (e ▸ hi)) hjj ?_
        cases hB : waits l.toArray j i with
        | false => rfl
        | true =>
          exfalso
          have h1 := listed_of_waits hcl hs hd j oj hoj hall i hij hB
          have h0 := (hR i).1 hi
          rw [Array.getD_eq_getD_getElem?] at h1 h0
          cases hx : listed[i]? with
          | none => rw [hx] at h1; cases h1
          | some b => rw [hx] at h1 h0; simp only [Option.getD_some] at h1 h0; rw [h1] at h0; cases h0) ht
      refine Step1.wpOp hoj hpull (dstsOk_spec hn j oj hoj) r (fun γ σ a w s k => ?_)
      exact ⟨γ, σ, R.erase j, s, hp', hR', hd', .inr ⟨fun h => hm (List.mem_of_mem_erase h), k⟩⟩
  case fin =>
    obtain ⟨γ, σ, R, r, hp, hR, hd, hT⟩ := hI
    have hnil : R = [] := by
      cases R with
      | nil => rfl
      | cons i rest =>
        exfalso
        have h0 := (hR i).1 List.mem_cons_self
        have h1 := ready_nil hgd hs hr i
        rw [h1] at h0; cases h0
    subst hnil
    rcases hT with ⟨hm, _⟩ | ⟨_, ht⟩
    · cases hm
    · exact ⟨γ, σ, ht, r⟩
  case start =>
    refine ⟨γ, σ, List.range (n + 1), s', List.pairwise_lt_range, fun i => ?_, fun k o hk hks => ?_, .inl ⟨List.mem_range.2 (by omega), n, by simp, h⟩⟩
    · rw [List.mem_range, Array.getD_eq_getD_getElem?, Array.getElem?_replicate]
      by_cases hi : i < l.toArray.size
      · rw [if_pos hi]; simp at hi; simp; omega
      · rw [if_neg hi]; simp at hi; simp; omega
    · rw [Array.getD_eq_getD_getElem?, Array.getElem?_replicate, if_pos hks] at hk
      cases hk
/-! how it is walked -/
theorem tree_0 {j0 : Nat} {R : List Nat} (h : TreeW C wr ops j0 R σ K) : Tree C wr ops j0 K 0 R σ := h
theorem tree_s {j0 n : Nat} {R : List Nat} (h : TreeW C wr ops j0 R σ K) (h2 : TreeQ C wr ops σ (fun j σ' => Tree C wr ops j0 K n (remv j R) σ') (cands ops j0 R R)) : Tree C wr ops j0 K (n + 1) R σ := ⟨h, h2⟩
theorem tw_t {j0 : Nat} {R : List Nat} {o : Oper} (h : Steps C wr ops (o :: opsOf ops (remv j0 R)) σ K) (ho : ops[j0]? = some o := by rfl) (hr : rdy ops R j0 = true := by rfl) : TreeW C wr ops j0 R σ K := by
  unfold TreeW; rw [hr, ho]; exact h
theorem tw_f {j0 : Nat} {R : List Nat} (hr : rdy ops R j0 = false := by rfl) : TreeW C wr ops j0 R σ K := by
  unfold TreeW; rw [hr]; trivial
theorem tq_n {T : Nat → St → Prop} : TreeQ C wr ops σ T [] := trivial
theorem tq_c {T : Nat → St → Prop} {j : Nat} {r : List Nat} {o : Oper} (h : Steps C wr ops [o] σ (T j)) (h2 : TreeQ C wr ops σ T r) (ho : ops[j]? = some o := by rfl) : TreeQ C wr ops σ T (j :: r) := by
  refine ⟨?_, h2⟩
  rw [ho]; exact h
/-- what stands behind two statements is walked once -/
theorem tri_cut2 {C : Cx} {σ : St} {x1 x2 y : Code} {Q : Exit → St → Prop} {Z : Type} (J : Z → Prop) (T : Z → St) (h1 : Tri C x1 σ (thenQ (fun σ1 => Tri C x2 σ1 (thenQ (fun σ' => ∃ z, J z ∧ Weak C σ' (T z)) Q)) Q))
    (h2 : ∀ z, J z → Tri C y (T z) Q) : Tri C (.seq x1 (.seq x2 y)) σ Q :=
  tri_seq (Tri.mono h1 fun e σ1 h => by
    cases e with
    | normal => exact tri_cut J T h h2
    | _ => exact h)
/-- what stands behind n statements is walked once -/
def CutN (C : Cx) (Q : Exit → St → Prop) {Z : Type} (J : Z → Prop) (T : Z → St) : Nat → Code → St → Prop
  | 0, _, σ => ∃ z, J z ∧ Weak C σ (T z)
  | n + 1, .seq x y, σ => Tri C x σ (thenQ (CutN C Q J T n y) Q)
  | _ + 1, _, _ => False
def tailN : Nat → Code → Code
  | 0, c => c
  | n + 1, .seq _ y => tailN n y
  | _ + 1, c => c
theorem tri_cutN {C : Cx} {Q : Exit → St → Prop} {Z : Type} (J : Z → Prop) (T : Z → St) : ∀ (n : Nat) {c : Code} {σ : St}, CutN C Q J T n c σ → (∀ z, J z → Tri C (tailN n c) (T z) Q) → Tri C c σ Q
  | 0, c, σ, ⟨z, hz, hw⟩, h2 => Tri.weak hw (h2 z hz)
  | n + 1, .seq x y, σ, h1, h2 => tri_seq (Tri.mono h1 fun e σ1 h => by
      cases e with
      | normal => exact tri_cutN J T n h h2
      | _ => exact h)
theorem cut_z {C : Cx} {Q : Exit → St → Prop} {Z : Type} {J : Z → Prop} {T : Z → St} {c : Code} {σ : St} (z : Z) (hz : J z) (hw : Weak C σ (T z)) : CutN C Q J T 0 c σ := ⟨z, hz, hw⟩
theorem cut_s {C : Cx} {Q : Exit → St → Prop} {Z : Type} {J : Z → Prop} {T : Z → St} {n : Nat} {x y : Code} {σ : St} (h : Tri C x σ (thenQ (CutN C Q J T n y) Q)) : CutN C Q J T (n + 1) (.seq x y) σ := h
end
end Go.Proofs.YtignjjnflcpiiaaDoor
