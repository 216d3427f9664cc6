import Derived.Test.YtignjjnflcpiiabGreatDoorZVm3
import Derived.Scope
import Derived.Laws.MakeOwn
import Derived.Laws.CopyRow
import Derived.Laws.Cover3
import Derived.Lib.ConvBytes
set_option linter.unusedVariables false
set_option linter.unusedSimpArgs false
set_option maxHeartbeats 1000000
namespace Go.Proofs.YtignjjnflcpiiabGreatDoor
open Go.RowKit
def noGotoQ (Q : Exit → St → Prop) : Exit → St → Prop
  | .goto _, _ => False
  | e, σ => Q e σ
theorem tri_scope {C : Cx} {σ : St} {c : Code} {Q : Exit → St → Prop} (h : Tri C c σ (noGotoQ Q)) : Tri C (.scope c) σ Q := fun γ a w s => by
  refine wp_scope_straight (wp_mono (h γ a w s) ?_)
  rintro e a w ⟨γ, σ, q, r⟩
  cases e with
  | goto l => exact q
  | _ => exact ⟨γ, σ, q, r⟩
theorem wpAny_inv {C : Cx} {ops : Array Oper} {Q : Exit → Act → World → Prop} (Inv : Array Bool → Act → World → Prop)
    (hstep : ∀ (listed : Array Bool) (j : Nat) oj a w, listed.size = ops.size → ops[j]? = some oj → listed.getD j true = false → (∀ e ∈ oj.after, Region.binds .any e = true → listed.getD e.on false = true) → Inv listed a w → wpOp C.P ops Q j (Inv (listed.setIfInBounds j true)) a w)
    (hend : ∀ (listed : Array Bool) a w, listed.size = ops.size → Region.ready .any ops listed = [] → Inv listed a w → Q .normal a w) :
    ∀ (fuel : Nat) (listed : Array Bool) a w, listed.size = ops.size → (listed.toList.filter (! ·)).length ≤ fuel → Inv listed a w → wpAny C.P .any ops Q fuel listed a w := by
  intro fuel
  induction fuel with
  | zero =>
    intro listed a w hs hf hi
    have hr : Region.ready .any ops listed = [] := by
      cases h : Region.ready .any ops listed with
      | nil => rfl
      | cons j r =>
        exfalso
        have hj : j ∈ Region.ready .any ops listed := by rw [h]; exact List.mem_cons_self
        have h0 := (mem_ready.1 hj).1
        rw [Array.getD_eq_getD_getElem?] at h0
        cases hx : listed[j]? with
        | none => rw [hx] at h0; cases h0
        | some b =>
          rw [hx] at h0
          simp only [Option.getD_some] at h0
          subst h0
          have hm : false ∈ listed.toList.filter (! ·) := List.mem_filter.2 ⟨by
            have := Array.mem_of_getElem? hx
            simpa using this, rfl⟩
          have := List.length_pos_iff.2 (List.ne_nil_of_mem hm)
          omega
    exact ⟨hr, hend listed a w hs hr hi⟩
  | succ fuel ih =>
    intro listed a w hs hf hi
    refine ⟨fun hr => hend listed a w hs hr hi, fun j hj => ?_⟩
    obtain ⟨hj0, oj, hoj, hall⟩ := mem_ready.1 hj
    have hjs : j < ops.size := (Array.getElem?_eq_some_iff.1 hoj).1
    have hjl : j < listed.size := by omega
    refine wpOp_mono (fun a w h => ih _ a w (by simpa using hs) ?_ h) (hstep listed j oj a w hs hoj hj0 hall hi)
    have hlj : listed[j] = false := by
      rw [Array.getD_eq_getD_getElem?, Array.getElem?_eq_getElem hjl] at hj0
      exact hj0
    have key : ∀ (l : List Bool) (j : Nat) (h : j < l.length), l[j] = false → ((l.set j true).filter (! ·)).length + 1 = (l.filter (! ·)).length := by
      intro l
      induction l with
      | nil => intro j h; simp at h
      | cons b l ihl =>
        intro j h hb
        cases j with
        | zero =>
          simp only [List.getElem_cons_zero] at hb
          subst hb
          simp
        | succ j =>
          simp only [List.getElem_cons_succ] at hb
          have := ihl j (by simpa using h) hb
          cases b <;> simp [List.set_cons_succ, List.filter_cons] <;> omega
    have hk := key listed.toList j (by simpa using hjl) (by simpa using hlj)
    rw [Array.toList_setIfInBounds]
    omega
theorem ready_nil {ops : Array Oper} (hgd : goesDown ops = true) {listed : Array Bool} (hs : listed.size = ops.size) (hr : Region.ready .any ops listed = []) : ∀ i, listed.getD i true = true := by
  intro i
  induction i using Nat.strongRecOn with
  | _ i ih =>
    cases hi : listed.getD i true with
    | true => rfl
    | false =>
      exfalso
      have his : i < ops.size := by
        rw [← hs]
        rcases Nat.lt_or_ge i listed.size with h | h
        · exact h
        · rw [Array.getD_eq_getD_getElem?, Array.getElem?_eq_none h] at hi; cases hi
      have : i ∈ Region.ready .any ops listed := by
        rw [mem_ready]
        refine ⟨hi, ops[i], Array.getElem?_eq_getElem his, fun e he hb => ?_⟩
        have hlt := goesDown_spec hgd (Array.getElem?_eq_getElem his) he hb
        have h1 := ih e.on hlt
        rw [Array.getD_eq_getD_getElem?, Array.getElem?_eq_getElem (by omega)] at h1 ⊢
        exact h1
      rw [hr] at this
      cases this
end Go.Proofs.YtignjjnflcpiiabGreatDoor
/- A region that draws its order and has one operation that writes, which does not wait for all that reads: each way in which that one may come up is walked. -/
namespace Go.Proofs.YtignjjnflcpiiabGreatDoor
open Go.RowKit
def rdy (ops : Array Oper) (R : List Nat) (j : Nat) : Bool := match ops[j]? with
  | some o => o.after.toList.all fun e => match Region.binds .any e with
    | true => !(R.any (Nat.beq e.on))
    | false => true
  | none => false
def opsOf (ops : Array Oper) : List Nat → List Oper
  | [] => []
  | i :: R => match ops[i]? with
    | some o => o :: opsOf ops R
    | none => opsOf ops R
def remv (j : Nat) : List Nat → List Nat
  | [] => []
  | i :: R => match Nat.beq i j with
    | true => R
    | false => i :: remv j R
def TreeW (C : Cx) (wr : Oper → Bool) (ops : Array Oper) (j0 : Nat) (R : List Nat) (σ : St) (K : St → Prop) : Prop := match rdy ops R j0 with
  | true => match ops[j0]? with
    | some o => Steps C wr ops (o :: opsOf ops (remv j0 R)) σ K
    | none => False
  | false => True
def TreeQ (C : Cx) (wr : Oper → Bool) (ops : Array Oper) (σ : St) (T : Nat → St → Prop) : List Nat → Prop
  | [] => True
  | j :: r => (match ops[j]? with
    | some o => Steps C wr ops [o] σ (T j)
    | none => False) ∧ TreeQ C wr ops σ T r
def cands (ops : Array Oper) (j0 : Nat) (R : List Nat) : List Nat → List Nat
  | [] => []
  | j :: r => match Nat.beq j j0, rdy ops R j with
    | false, true => j :: cands ops j0 R r
    | _, _ => cands ops j0 R r
def Tree (C : Cx) (wr : Oper → Bool) (ops : Array Oper) (j0 : Nat) (K : St → Prop) : Nat → List Nat → St → Prop
  | 0, R, σ => TreeW C wr ops j0 R σ K
  | n + 1, R, σ => TreeW C wr ops j0 R σ K ∧ TreeQ C wr ops σ (fun j σ' => Tree C wr ops j0 K n (remv j R) σ') (cands ops j0 R R)
def pairs1 (ops : Array Oper) (wr : Oper → Bool) (B : Nat → Nat → Bool) (j0 : Nat) : Bool := (List.range ops.size).all fun j => (List.range j).all fun i => Nat.beq i j0 || (Nat.beq j j0 || (B j i || match ops[i]?, ops[j]? with
  | some oi, some oj => !wr oi && !wr oj && oi.apart ops oj
  | _, _ => true))
def draw1 (ops : Array Oper) (wr : Oper → Bool) (j0 : Nat) : Bool := goesDown ops && closedB ops (waits ops) && pairs1 ops wr (waits ops) j0
section
variable {C : Cx} {wr : Oper → Bool} {ops : Array Oper} {σ : St} {K : St → Prop}
theorem remv_erase (j : Nat) : ∀ R : List Nat, remv j R = R.erase j
  | [] => rfl
  | i :: R => by
    rw [remv]
    cases h : Nat.beq i j with
    | true =>
      have := Nat.eq_of_beq_eq_true h
      subst this
      rw [List.erase_cons_head]
    | false =>
      have hne : i ≠ j := fun e => by rw [e, Nat.beq_refl] at h; cases h
      rw [List.erase_cons_tail (by simpa using hne), remv_erase j R]
theorem stepsI_opsOf : ∀ (R : List Nat) (σ : St), Steps C wr ops (opsOf ops R) σ K → StepsI C wr ops R σ K
  | [], σ, h => h
  | i :: R, σ, h => by
    unfold StepsI
    rw [opsOf] at h
    cases ho : ops[i]? with
    | none => rw [ho] at h; exact stepsI_opsOf R σ h
    | some o =>
      rw [ho] at h
      exact Step1.mono (fun σ' h' => stepsI_opsOf R σ' h') h
theorem cands_mem {j0 : Nat} {R : List Nat} {j : Nat} (hne : j ≠ j0) (hr : rdy ops R j = true) : ∀ {l : List Nat}, j ∈ l → j ∈ cands ops j0 R l
  | i :: l, h => by
    rw [cands]
    rcases List.mem_cons.1 h with rfl | h
    · rw [hr, beq_ne hne]; exact List.mem_cons_self
    · have ih := cands_mem (j0 := j0) (R := R) hne hr h
      split
      · exact List.mem_cons_of_mem _ ih
      · exact ih
theorem treeQ_get {T : Nat → St → Prop} {j : Nat} {o : Oper} (ho : ops[j]? = some o) : ∀ {l : List Nat}, j ∈ l → TreeQ C wr ops σ T l → Step1 C wr ops o σ (T j)
  | i :: l, h, ht => by
    rw [TreeQ] at ht
    rcases List.mem_cons.1 h with rfl | h
    · have := ht.1
      rw [ho] at this
      exact this
    · exact treeQ_get ho h ht.2
theorem rdy_of {R : List Nat} {j : Nat} {o : Oper} (ho : ops[j]? = some o) (h : ∀ e ∈ o.after, Region.binds .any e = true → e.on ∉ R) : rdy ops R j = true := by
  unfold rdy
  rw [ho]
  simp only
  rw [List.all_eq_true]
  intro e he
  split
  · rename_i hb
    rw [Bool.not_eq_true', List.any_eq_false]
    intro i hi hbq
    exact h e (by simpa using he) hb (by rw [Nat.eq_of_beq_eq_true hbq]; exact hi)
  · rfl
theorem pairs1_spec {B : Nat → Nat → Bool} {j0 : Nat} (h : pairs1 ops wr B j0 = true) {i j : Nat} {oi oj : Oper} (hi : ops[i]? = some oi) (hj : ops[j]? = some oj) (hij : i < j) (h1 : i ≠ j0) (h2 : j ≠ j0) (hB : B j i = false) : wr oi = false ∧ wr oj = false ∧ oi.apart ops oj = true := by
  have hjs : j < ops.size := (Array.getElem?_eq_some_iff.1 hj).1
  have a1 := List.all_eq_true.1 h j (List.mem_range.2 hjs)
  have a2 := List.all_eq_true.1 a1 i (List.mem_range.2 hij)
  rw [hi, hj, beq_ne h1, beq_ne h2, hB] at a2
  simp only [Bool.false_or, Bool.and_eq_true, Bool.not_eq_true'] at a2
  exact ⟨a2.1.1, a2.1.2, a2.2⟩
theorem tri_draw1 {id : Nat} {l : List Oper} {Q : Exit → St → Prop} (wr : Oper → Bool) (j0 n : Nat) (hj0 : Nat.blt j0 l.length = true) (hlen : Nat.beq l.length (n + 1) = true) (hok : draw1 l.toArray wr j0 = true) (hn : dstsOk C.n l = true) (h : Tree C wr l.toArray j0 (Q .normal) n (List.range (n + 1)) σ) :
    Tri C (.region id l.toArray true) σ Q := by
  have hlen := Nat.eq_of_beq_eq_true hlen
  have hj0 := blt_lt hj0
  simp only [draw1, Bool.and_eq_true] at hok
  obtain ⟨⟨hgd, hcl⟩, hpr⟩ := hok
  intro γ a w s
  refine wp_region_any C.mixed ?_
  have s' : SR C γ σ a w.drew := s.ext (Below.refl _ w).drew
  refine wpAny_inv (fun listed a w => ∃ γ σ R, SR C γ σ a w ∧ R.Pairwise (· < ·) ∧ (∀ i, i ∈ R ↔ listed.getD i true = false) ∧ Down l.toArray listed ∧
    ((j0 ∈ R ∧ ∃ n, R.length ≤ n + 1 ∧ Tree C wr l.toArray j0 (Q .normal) n R σ) ∨ (j0 ∉ R ∧ StepsI C wr l.toArray R σ (Q .normal))))
    (fun listed j oj a w hs hoj hj hall hI => ?step) (fun listed a w hs hr hI => ?fin) _ _ a w.drew (by simp) (Nat.le_trans (List.length_filter_le _ _) (by simp)) ?start
  case step =>
    obtain ⟨γ, σ, R, r, hp, hR, hd, hT⟩ := hI
    have hjR : j ∈ R := (hR j).2 hj
    have hjs : j < l.toArray.size := (Array.getElem?_eq_some_iff.1 hoj).1
    have hlt : j < listed.size := by omega
    have hnd : R.Nodup := hp.imp (fun h => Nat.ne_of_lt h)
    have hR' : ∀ i, i ∈ R.erase j ↔ (listed.setIfInBounds j true).getD i true = false := fun i => by
      rw [List.Nodup.mem_erase_iff hnd, hR]
      by_cases hij : i = j
      · subst hij; simp [hlt]
      · rw [getD_set_ne true (Ne.symm hij)]
        simp [hij]
    have hd' : Down l.toArray (listed.setIfInBounds j true) := fun k' o' hk hks ho' e he hb => by
      by_cases hkj : k' = j
      · subst hkj
        rw [hoj] at ho'
        cases ho'
        exact getD_set_true (hall e he hb)
      · rw [getD_set_ne true (Ne.symm hkj)] at hk
        exact getD_set_true (hd k' o' hk hks ho' e he hb)
    have hdep : ∀ e ∈ oj.after, Region.binds .any e = true → e.on ∉ R := fun e he hb hm => by
      have h1 := hall e he hb
      have h2 := (hR e.on).1 hm
      rw [Array.getD_eq_getD_getElem?] at h1 h2
      cases hx : listed[e.on]? with
      | none => rw [hx] at h1; cases h1
      | some b => rw [hx] at h1 h2; simp only [Option.getD_some] at h1 h2; rw [h1] at h2; cases h2
    have hrd := rdy_of hoj hdep
    have hp' : (R.erase j).Pairwise (· < ·) := hp.sublist List.erase_sublist
    rcases hT with ⟨hm, n, hl, ht⟩ | ⟨hm, ht⟩
    · by_cases hjj : j = j0
      · subst hjj
        have hw : TreeW C wr l.toArray j R σ (Q .normal) := by
          cases n with
          | zero => exact ht
          | succ n => exact ht.1
        unfold TreeW at hw
        rw [hrd, hoj] at hw
        refine Step1.wpOp hoj hw (dstsOk_spec hn j oj hoj) r (fun γ σ a w s k => ?_)
        exact ⟨γ, σ, R.erase j, s, hp', hR', hd', .inr ⟨fun h => by rw [List.Nodup.mem_erase_iff hnd] at h; exact h.1 rfl, by rw [← remv_erase]; exact stepsI_opsOf _ _ k⟩⟩
      · cases n with
        | zero =>
          exfalso
          match R, hl, hjR, hm with
          | [x], _, h1, h2 => exact hjj ((List.mem_singleton.1 h1).trans (List.mem_singleton.1 h2).symm)
          | x :: y :: r, hl, _, _ => simp at hl
        | succ n =>
          have hs := treeQ_get hoj (cands_mem (j0 := j0) hjj hrd hjR) ht.2
          refine Step1.wpOp hoj hs (dstsOk_spec hn j oj hoj) r (fun γ σ a w s k => ?_)
          rw [remv_erase] at k
          exact ⟨γ, σ, R.erase j, s, hp', hR', hd', .inl ⟨(List.Nodup.mem_erase_iff hnd).2 ⟨fun e => hjj e.symm, hm⟩, n, by rw [List.length_erase_of_mem hjR]; omega, k⟩⟩
    · have hjj : j ≠ j0 := fun e => hm (e ▸ hjR)
      have hpull := stepsI_pull hoj R σ hp hjR (fun i oi hi hij hoi => by
        refine pairs1_spec hpr hoi hoj hij (fun e => hm (e ▸ hi)) hjj ?_
        cases hB : waits l.toArray j i with
        | false => rfl
        | true =>
          exfalso
          have h1 := listed_of_waits hcl hs hd j oj hoj hall i hij hB
          have h0 := (hR i).1 hi
          rw [Array.getD_eq_getD_getElem?] at h1 h0
          cases hx : listed[i]? with
          | none => rw [hx] at h1; cases h1
          | some b => rw [hx] at h1 h0; simp only [Option.getD_some] at h1 h0; rw [h1] at h0; cases h0) ht
      refine Step1.wpOp hoj hpull (dstsOk_spec hn j oj hoj) r (fun γ σ a w s k => ?_)
      exact ⟨γ, σ, R.erase j, s, hp', hR', hd', .inr ⟨fun h => hm (List.mem_of_mem_erase h), k⟩⟩
  case fin =>
    obtain ⟨γ, σ, R, r, hp, hR, hd, hT⟩ := hI
    have hnil : R = [] := by
      cases R with
      | nil => rfl
      | cons i rest =>
        exfalso
        have h0 := (hR i).1 List.mem_cons_self
        have h1 := ready_nil hgd hs hr i
        rw [h1] at h0; cases h0
    subst hnil
    rcases hT with ⟨hm, _⟩ | ⟨_, ht⟩
    · cases hm
    · exact ⟨γ, σ, ht, r⟩
  case start =>
    refine ⟨γ, σ, List.range (n + 1), s', List.pairwise_lt_range, fun i => ?_, fun k o hk hks => ?_, .inl ⟨List.mem_range.2 (by omega), n, by simp, h⟩⟩
    · rw [List.mem_range, Array.getD_eq_getD_getElem?, Array.getElem?_replicate]
      by_cases hi : i < l.toArray.size
      · rw [if_pos hi]; simp at hi; simp; omega
      · rw [if_neg hi]; simp at hi; simp; omega
    · rw [Array.getD_eq_getD_getElem?, Array.getElem?_replicate, if_pos hks] at hk
      cases hk
theorem tree_0 {j0 : Nat} {R : List Nat} (h : TreeW C wr ops j0 R σ K) : Tree C wr ops j0 K 0 R σ := h
theorem tree_s {j0 n : Nat} {R : List Nat} (h : TreeW C wr ops j0 R σ K) (h2 : TreeQ C wr ops σ (fun j σ' => Tree C wr ops j0 K n (remv j R) σ') (cands ops j0 R R)) : Tree C wr ops j0 K (n + 1) R σ := ⟨h, h2⟩
theorem tw_t {j0 : Nat} {R : List Nat} {o : Oper} (h : Steps C wr ops (o :: opsOf ops (remv j0 R)) σ K) (ho : ops[j0]? = some o := by rfl) (hr : rdy ops R j0 = true := by rfl) : TreeW C wr ops j0 R σ K := by
  unfold TreeW; rw [hr, ho]; exact h
theorem tw_f {j0 : Nat} {R : List Nat} (hr : rdy ops R j0 = false := by rfl) : TreeW C wr ops j0 R σ K := by
  unfold TreeW; rw [hr]; trivial
theorem tq_n {T : Nat → St → Prop} : TreeQ C wr ops σ T [] := trivial
theorem tq_c {T : Nat → St → Prop} {j : Nat} {r : List Nat} {o : Oper} (h : Steps C wr ops [o] σ (T j)) (h2 : TreeQ C wr ops σ T r) (ho : ops[j]? = some o := by rfl) : TreeQ C wr ops σ T (j :: r) := by
  refine ⟨?_, h2⟩
  rw [ho]; exact h
theorem tri_cut2 {C : Cx} {σ : St} {x1 x2 y : Code} {Q : Exit → St → Prop} {Z : Type} (J : Z → Prop) (T : Z → St) (h1 : Tri C x1 σ (thenQ (fun σ1 => Tri C x2 σ1 (thenQ (fun σ' => ∃ z, J z ∧ Weak C σ' (T z)) Q)) Q))
    (h2 : ∀ z, J z → Tri C y (T z) Q) : Tri C (.seq x1 (.seq x2 y)) σ Q :=
  tri_seq (Tri.mono h1 fun e σ1 h => by
    cases e with
    | normal => exact tri_cut J T h h2
    | _ => exact h)
def CutN (C : Cx) (Q : Exit → St → Prop) {Z : Type} (J : Z → Prop) (T : Z → St) : Nat → Code → St → Prop
  | 0, _, σ => ∃ z, J z ∧ Weak C σ (T z)
  | n + 1, .seq x y, σ => Tri C x σ (thenQ (CutN C Q J T n y) Q)
  | _ + 1, _, _ => False
def tailN : Nat → Code → Code
  | 0, c => c
  | n + 1, .seq _ y => tailN n y
  | _ + 1, c => c
theorem tri_cutN {C : Cx} {Q : Exit → St → Prop} {Z : Type} (J : Z → Prop) (T : Z → St) : ∀ (n : Nat) {c : Code} {σ : St}, CutN C Q J T n c σ → (∀ z, J z → Tri C (tailN n c) (T z) Q) → Tri C c σ Q
  | 0, c, σ, ⟨z, hz, hw⟩, h2 => Tri.weak hw (h2 z hz)
  | n + 1, .seq x y, σ, h1, h2 => tri_seq (Tri.mono h1 fun e σ1 h => by
      cases e with
      | normal => exact tri_cutN J T n h h2
      | _ => exact h)
theorem cut_z {C : Cx} {Q : Exit → St → Prop} {Z : Type} {J : Z → Prop} {T : Z → St} {c : Code} {σ : St} (z : Z) (hz : J z) (hw : Weak C σ (T z)) : CutN C Q J T 0 c σ := ⟨z, hz, hw⟩
theorem cut_s {C : Cx} {Q : Exit → St → Prop} {Z : Type} {J : Z → Prop} {T : Z → St} {n : Nat} {x y : Code} {σ : St} (h : Tri C x σ (thenQ (CutN C Q J T n y) Q)) : CutN C Q J T (n + 1) (.seq x y) σ := h
end
end Go.Proofs.YtignjjnflcpiiabGreatDoor
/- Functions that make a new object; calls that write a box of which the caller hands on all that it holds; made slices, parts of them, copies into them. -/
namespace Go.Proofs.YtignjjnflcpiiabGreatDoor
open Go.RowKit
section
variable {C : Cx} {γ : Gh} {σ : St} {a : Act} {w w' : World}
end
section
variable {C : Cx} {σ : St} {d : Nat} {ty : TypeId} {pos : String} {af : Array Edge} {g : Option (Nat × Bool)}
end
section
variable {C : Cx} {σ : St} {ty : TypeId} {pos : String} {af : Array Edge} {g : Option (Nat × Bool)} {d : Option Nat}
end
section
variable {C : Cx} {σ : St} {d : Option Nat} {x y z : Operand} {t ty ty2 : TypeId} {pos : String} {af : Array Edge} {g : Option (Nat × Bool)} {k k' : IntKind} {m n : Int}
end
section
variable {C : Cx} {σ : St} {ty : TypeId} {pos : String} {af : Array Edge} {g : Option (Nat × Bool)} {x y : Operand} {t : TypeId} {d : Nat}
end
section
variable {C : Cx} {σ : St} {d : Option Nat} {x y z : Operand} {t ty ty2 : TypeId} {pos : String} {af : Array Edge} {g : Option (Nat × Bool)}
end
end Go.Proofs.YtignjjnflcpiiabGreatDoor
/- A region that draws its order and has one operation that writes: what must run ahead of it runs in its order; what need not is taken both ways. -/
namespace Go.Proofs.YtignjjnflcpiiabGreatDoor
open Go.RowKit
def memB (i : Nat) : List Nat → Bool
  | [] => false
  | j :: l => match Nat.beq i j with
    | true => true
    | false => memB i l
def subsl : List Nat → List (List Nat)
  | [] => [[]]
  | f :: F => subsl F ++ (subsl F).map (f :: ·)
def dstsOf (ops : Array Oper) : List Nat → List Nat
  | [] => []
  | i :: R => match (ops[i]?).bind (·.dst) with
    | some d => d :: dstsOf ops R
    | none => dstsOf ops R
def undo (σ σ1 : St) (ds : List Nat) : St := ⟨fun i => match memB i ds with
  | true => σ.env i
  | false => σ1.env i, σ1.heap⟩
def leftOf (R A : List Nat) : List Nat → List Nat
  | [] => []
  | i :: l => match memB i R with
    | true => i :: leftOf R A l
    | false => match memB i A with
      | true => i :: leftOf R A l
      | false => leftOf R A l
def Behind (C : Cx) (wr : Oper → Bool) (ops : Array Oper) (j0 : Nat) (A N : List Nat) (σ σ1 : St) (K : St → Prop) (R : List Nat) : Prop := match ops[j0]? with
  | some o => Steps C wr ops (o :: opsOf ops (leftOf R A N)) (undo σ σ1 (dstsOf ops R)) K
  | none => False
def AllB (T : List Nat → Prop) : List (List Nat) → Prop
  | [] => True
  | R :: l => T R ∧ AllB T l
def okW (ops : Array Oper) (wr : Oper → Bool) (j0 : Nat) (PF F A N : List Nat) : Bool :=
  goesDown ops && (closedB ops (waits ops) && (pairs1 ops wr (waits ops) j0 && (decide (N = List.range ops.size) && (decide (PF = N.filter fun i => !(Nat.beq i j0) && !(waits ops i j0)) && (decide (F = PF.filter fun i => !(waits ops j0 i)) && (decide (A = N.filter fun i => waits ops i j0) &&
    (F.all fun f => PF.all fun i => Nat.beq i f || match (ops[f]?).bind (·.dst), (ops[i]?).bind (·.dst) with
      | some d, some e => !(Nat.beq d e)
      | _, _ => true)))))))  && (N.all fun j => N.all fun i => Nat.blt i j || !(waits ops j i))
section
variable {C : Cx} {wr : Oper → Bool} {ops : Array Oper} {σ : St} {K : St → Prop}
theorem memB_iff {i : Nat} : ∀ {l : List Nat}, memB i l = true ↔ i ∈ l
  | [] => by simp [memB]
  | j :: l => by
    rw [memB]
    cases h : Nat.beq i j with
    | true => simp [Nat.eq_of_beq_eq_true h]
    | false =>
      have hne : i ≠ j := fun e => by rw [e, Nat.beq_refl] at h; cases h
      simp [memB_iff (l := l), hne]
theorem leftOf_mem {R A : List Nat} {i : Nat} : ∀ {N : List Nat}, i ∈ leftOf R A N ↔ i ∈ N ∧ (i ∈ R ∨ i ∈ A)
  | [] => by simp [leftOf]
  | j :: N => by
    have ih := leftOf_mem (R := R) (A := A) (i := i) (N := N)
    rw [leftOf]
    split
    · rename_i h
      have h := memB_iff.1 h
      rw [List.mem_cons, ih, List.mem_cons]
      constructor
      · rintro (rfl | ⟨h1, h2⟩)
        · exact ⟨.inl rfl, .inl h⟩
        · exact ⟨.inr h1, h2⟩
      · rintro ⟨rfl | h1, h2⟩
        · exact .inl rfl
        · exact .inr ⟨h1, h2⟩
    · rename_i h
      have h : j ∉ R := fun e => by rw [memB_iff.2 e] at h; cases h
      split
      · rename_i h3
        have h3 := memB_iff.1 h3
        rw [List.mem_cons, ih, List.mem_cons]
        constructor
        · rintro (rfl | ⟨h1, h2⟩)
          · exact ⟨.inl rfl, .inr h3⟩
          · exact ⟨.inr h1, h2⟩
        · rintro ⟨rfl | h1, h2⟩
          · exact .inl rfl
          · exact .inr ⟨h1, h2⟩
      · rename_i h3
        have h3 : j ∉ A := fun e => by rw [memB_iff.2 e] at h3; cases h3
        rw [ih, List.mem_cons]
        constructor
        · rintro ⟨h1, h2⟩; exact ⟨.inr h1, h2⟩
        · rintro ⟨rfl | h1, h2⟩
          · exact absurd h2 (fun e => e.elim h h3)
          · exact ⟨h1, h2⟩
theorem leftOf_sub (R A : List Nat) : ∀ N : List Nat, (leftOf R A N).Sublist N
  | [] => List.Sublist.refl _
  | j :: N => by
    rw [leftOf]
    split
    · exact (leftOf_sub R A N).cons_cons j
    · split
      · exact (leftOf_sub R A N).cons_cons j
      · exact (leftOf_sub R A N).cons j
theorem sorted_ext : ∀ {l m : List Nat}, l.Pairwise (· < ·) → m.Pairwise (· < ·) → (∀ i, i ∈ l ↔ i ∈ m) → l = m
  | [], [], _, _, _ => rfl
  | [], b :: m, _, _, h => absurd ((h b).2 List.mem_cons_self) (by simp)
  | a :: l, [], _, _, h => absurd ((h a).1 List.mem_cons_self) (by simp)
  | a :: l, b :: m, h1, h2, h => by
    rw [List.pairwise_cons] at h1 h2
    have hab : a = b := by
      have ha := (h a).1 List.mem_cons_self
      have hb := (h b).2 List.mem_cons_self
      rcases List.mem_cons.1 ha with e | ha
      · exact e
      · rcases List.mem_cons.1 hb with e | hb
        · exact e.symm
        · have := h2.1 a ha; have := h1.1 b hb; omega
    subst hab
    rw [sorted_ext h1.2 h2.2 (fun i => ?_)]
    constructor
    · intro hi
      rcases List.mem_cons.1 ((h i).1 (List.mem_cons_of_mem _ hi)) with rfl | hm
      · have := h1.1 i hi; omega
      · exact hm
    · intro hi
      rcases List.mem_cons.1 ((h i).2 (List.mem_cons_of_mem _ hi)) with rfl | hm
      · have := h2.1 i hi; omega
      · exact hm
theorem subsl_filter (p : Nat → Bool) : ∀ F : List Nat, F.filter p ∈ subsl F
  | [] => List.mem_singleton.2 rfl
  | f :: F => by
    rw [subsl, List.mem_append]
    cases h : p f with
    | true => rw [List.filter_cons_of_pos h]; exact .inr (List.mem_map.2 ⟨_, subsl_filter p F, rfl⟩)
    | false => rw [List.filter_cons_of_neg (by rw [h]; exact Bool.false_ne_true)]; exact .inl (subsl_filter p F)
theorem allB_mem {T : List Nat → Prop} {R : List Nat} : ∀ {l : List (List Nat)}, AllB T l → R ∈ l → T R
  | _ :: l, h, hm => by
    rcases List.mem_cons.1 hm with rfl | hm
    · exact h.1
    · exact allB_mem h.2 hm
theorem stepsI_end {R : List Nat} (hq : ∀ i o, ops[i]? = some o → i ∈ R → wr o = false) : ∀ {τ : St}, StepsI C wr ops R τ K → ∃ σ1, K σ1 ∧ σ1.heap = τ.heap ∧ ∀ i, i ∉ dstsOf ops R → σ1.env i = τ.env i := by
  induction R with
  | nil => exact fun h => ⟨_, h, rfl, fun _ _ => rfl⟩
  | cons j R ih =>
    intro τ h
    unfold StepsI at h
    have ih := fun {τ : St} => ih (fun i o ho hi => hq i o ho (List.mem_cons_of_mem _ hi)) (τ := τ)
    cases ho : ops[j]? with
    | none =>
      rw [ho] at h
      obtain ⟨σ1, h1, h2, h3⟩ := ih h
      exact ⟨σ1, h1, h2, fun i hi => h3 i (by rw [dstsOf, ho] at hi; exact hi)⟩
    | some o =>
      rw [ho] at h
      obtain ⟨v, _, h⟩ := (step1_out (hq j o ho List.mem_cons_self)).1 h
      obtain ⟨σ1, h1, h2, h3⟩ := ih h
      refine ⟨σ1, h1, h2.trans (puto_heap _ _ _), fun i hi => ?_⟩
      rw [dstsOf, ho] at hi
      cases hd : o.dst with
      | none =>
        rw [Option.bind_some, hd] at hi
        rw [h3 i hi, hd]; rfl
      | some d =>
        rw [Option.bind_some, hd] at hi
        rw [h3 i (fun e => hi (List.mem_cons_of_mem _ e)), puto_env _ _ _ _ (by rw [hd]; rintro ⟨rfl⟩; exact hi List.mem_cons_self)]
theorem dstsOf_mem {R : List Nat} {d : Nat} (h : d ∈ dstsOf ops R) : ∃ f ∈ R, (ops[f]?).bind (·.dst) = some d := by
  induction R with
  | nil => cases h
  | cons j R ih =>
    rw [dstsOf] at h
    split at h
    · rename_i e hd
      rcases List.mem_cons.1 h with rfl | h
      · exact ⟨j, List.mem_cons_self, hd⟩
      · obtain ⟨f, h1, h2⟩ := ih h; exact ⟨f, List.mem_cons_of_mem _ h1, h2⟩
    · obtain ⟨f, h1, h2⟩ := ih h; exact ⟨f, List.mem_cons_of_mem _ h1, h2⟩
theorem getD_tf {l : Array Bool} {i : Nat} (h : l.getD i true = false) : l.getD i false = false := by
  rw [Array.getD_eq_getD_getElem?] at h ⊢
  cases hx : l[i]? with
  | none => rfl
  | some b => rw [hx] at h; exact h
theorem tri_drawW {id : Nat} {l : List Oper} {Q : Exit → St → Prop} (wr : Oper → Bool) (j0 : Nat) (PF F A N : List Nat) (hj0 : Nat.blt j0 l.length = true) (hok : okW l.toArray wr j0 PF F A N = true) (hqs : (PF.all fun i => match l.toArray[i]? with
      | some o => !wr o
      | none => true) = true) (hn : dstsOk C.n l = true)
    (h : Steps C wr l.toArray (opsOf l.toArray PF) σ (fun σ1 => AllB (Behind C wr l.toArray j0 A N σ σ1 (Q .normal)) (subsl F))) : Tri C (.region id l.toArray true) σ Q := by
  have hj0 := blt_lt hj0
  simp only [okW, Bool.and_eq_true, decide_eq_true_eq] at hok
  obtain ⟨⟨hgd, hcl, hpr, hN, hPF, hF, hA, hFd⟩, hUp⟩ := hok
  have hquiet : ∀ i o, l.toArray[i]? = some o → i ∈ PF → wr o = false := fun i o ho hi => by
    have := List.all_eq_true.1 hqs i hi
    rw [ho] at this
    simpa using this
  have hNmem : ∀ i, i ∈ N ↔ i < l.toArray.size := fun i => by rw [hN, List.mem_range]
  have hup : ∀ j i, j < l.toArray.size → i < l.toArray.size → j ≤ i → waits l.toArray j i = false := fun j i h1 h2 h3 => by
    have a1 := List.all_eq_true.1 hUp j ((hNmem j).2 h1)
    have a2 := List.all_eq_true.1 a1 i ((hNmem i).2 h2)
    rw [Bool.or_eq_true] at a2
    rcases a2 with a2 | a2
    · have := blt_lt a2; omega
    · simpa using a2
  have hPFmem : ∀ i, i ∈ PF ↔ i < l.toArray.size ∧ i ≠ j0 ∧ waits l.toArray i j0 = false := fun i => by
    rw [hPF, List.mem_filter, hNmem]
    simp only [Bool.and_eq_true, Bool.not_eq_true']
    exact ⟨fun ⟨a, b, c⟩ => ⟨a, (fun e => by rw [e, Nat.beq_refl] at b; cases b), c⟩, fun ⟨a, b, c⟩ => ⟨a, beq_ne b, c⟩⟩
  have hFmem : ∀ i, i ∈ F ↔ i ∈ PF ∧ waits l.toArray j0 i = false := fun i => by
    rw [hF, List.mem_filter]; simp
  have hAmem : ∀ i, i ∈ A ↔ i < l.toArray.size ∧ waits l.toArray i j0 = true := fun i => by
    rw [hA, List.mem_filter, hNmem]
  have hNp : N.Pairwise (· < ·) := by rw [hN]; exact List.pairwise_lt_range
  have hPFp : PF.Pairwise (· < ·) := by rw [hPF]; exact hNp.sublist List.filter_sublist
  intro γ a w s
  refine wp_region_any C.mixed ?_
  have s' : SR C γ σ a w.drew := s.ext (Below.refl _ w).drew
  refine wpAny_inv (fun listed a w => ∃ γ τ, SR C γ τ a w ∧ Down l.toArray listed ∧
    ((listed.getD j0 true = false ∧ ∃ R, R.Pairwise (· < ·) ∧ (∀ i, i ∈ R ↔ i ∈ PF ∧ listed.getD i true = false) ∧ StepsI C wr l.toArray R τ (fun σ1 => AllB (Behind C wr l.toArray j0 A N σ σ1 (Q .normal)) (subsl F)) ∧ ∀ f ∈ F, listed.getD f true = false → ∀ d, (l.toArray[f]?).bind (·.dst) = some d → τ.env d = σ.env d) ∨
     (listed.getD j0 true = true ∧ ∃ R, R.Pairwise (· < ·) ∧ (∀ i, i ∈ R ↔ listed.getD i true = false) ∧ StepsI C wr l.toArray R τ (Q .normal))))
    (fun listed j oj a w hs hoj hj hall hI => ?step) (fun listed a w hs hr hI => ?fin) _ _ a w.drew (by simp) (Nat.le_trans (List.length_filter_le _ _) (by simp)) ?start
  case step =>
    obtain ⟨γ, τ, r, hd, hT⟩ := hI
    have hjs : j < l.toArray.size := (Array.getElem?_eq_some_iff.1 hoj).1
    have hlt : j < listed.size := by omega
    have hset : ∀ i, (listed.setIfInBounds j true).getD i true = false ↔ i ≠ j ∧ listed.getD i true = false := fun i => by
      by_cases hij : i = j
      · subst hij; simp [hlt]
      · rw [getD_set_ne true (Ne.symm hij)]; simp [hij]
    have hd' : Down l.toArray (listed.setIfInBounds j true) := fun k' o' hk hks ho' e he hb => by
      by_cases hkj : k' = j
      · subst hkj
        rw [hoj] at ho'
        cases ho'
        exact getD_set_true (hall e he hb)
      · rw [getD_set_ne true (Ne.symm hkj)] at hk
        exact getD_set_true (hd k' o' hk hks ho' e he hb)
    have hpast : ∀ i, i < j → listed.getD i true = false → waits l.toArray j i = false := fun i hij hi => by
      cases hB : waits l.toArray j i with
      | false => rfl
      | true =>
        have h1 := listed_of_waits hcl hs hd j oj hoj hall i hij hB
        rw [getD_tf hi] at h1
        cases h1
    rcases hT with ⟨hl0, R, hp, hR, ht, hfr⟩ | ⟨hl0, R, hp, hR, ht⟩
    · by_cases hjj : j = j0
      · subst hjj
        -- the writing operation comes up
        have hRF : ∀ i, i ∈ R → i ∈ F := fun i hi => by
          obtain ⟨h1, h2⟩ := (hR i).1 hi
          refine (hFmem i).2 ⟨h1, ?_⟩
          cases hB : waits l.toArray j i with
          | false => rfl
          | true =>
            exfalso
            have hij : i < j := Nat.lt_of_not_le fun hge => by
              have hne := ((hPFmem i).1 h1).2.1
              have hgt : j < i := by omega
              -- what is waited for stands ahead
              exact absurd hB (by
                rw [hup j i hjs ((hPFmem i).1 h1).1 (Nat.le_of_lt hgt)]
                exact Bool.false_ne_true)
            rw [hpast i hij h2] at hB
            cases hB
        have hRf : R = F.filter (fun i => !(listed.getD i true)) := sorted_ext hp (by rw [hF]; exact (hPFp.sublist List.filter_sublist).sublist List.filter_sublist) (fun i => by
          rw [hR, List.mem_filter, hFmem]
          constructor
          · rintro ⟨h1, h2⟩
            exact ⟨⟨h1, ((hFmem i).1 (hRF i ((hR i).2 ⟨h1, h2⟩))).2⟩, by rw [h2]; rfl⟩
          · rintro ⟨⟨h1, _⟩, h2⟩
            exact ⟨h1, by simpa using h2⟩)
        obtain ⟨σ1, k1, k2, k3⟩ := stepsI_end (fun i o ho hi => hquiet i o ho ((hR i).1 hi).1) ht
        have hB := allB_mem k1 (by rw [hRf]; exact subsl_filter _ F : R ∈ subsl F)
        unfold Behind at hB
        rw [hoj] at hB
        have hun : undo σ σ1 (dstsOf l.toArray R) = τ := by
          have he : (undo σ σ1 (dstsOf l.toArray R)).env = τ.env := by
            funext i
            show (match memB i (dstsOf l.toArray R) with
              | true => σ.env i
              | false => σ1.env i) = τ.env i
            cases hm : memB i (dstsOf l.toArray R) with
            | true =>
              obtain ⟨f, f1, f2⟩ := dstsOf_mem (memB_iff.1 hm)
              exact (hfr f (hRF f f1) ((hR f).1 f1).2 i f2).symm
            | false => exact k3 i (fun e => by rw [memB_iff.2 e] at hm; cases hm)
          show St.mk (undo σ σ1 (dstsOf l.toArray R)).env σ1.heap = St.mk τ.env τ.heap
          rw [he, k2]
        rw [hun] at hB
        refine Step1.wpOp hoj hB (dstsOk_spec hn j oj hoj) r (fun γ σ a w s k => ?_)
        refine ⟨γ, σ, s, hd', .inr ⟨?_, leftOf R A N, hNp.sublist (leftOf_sub R A N), fun i => ?_, stepsI_opsOf _ _ k⟩⟩
        · cases hx : (listed.setIfInBounds j true).getD j true with
          | true => rfl
          | false => exact absurd rfl ((hset j).1 hx).1
        · rw [leftOf_mem, hset, hNmem]
          constructor
          · rintro ⟨h1, h2 | h2⟩
            · obtain ⟨h3, h4⟩ := (hR i).1 h2
              exact ⟨((hPFmem i).1 h3).2.1, h4⟩
            · obtain ⟨h3, h4⟩ := (hAmem i).1 h2
              have hji : j < i := Nat.lt_of_not_le fun hge => by
                rw [hup i j h3 hjs hge] at h4; cases h4
              refine ⟨by omega, ?_⟩
              cases hx : listed.getD i true with
              | false => rfl
              | true =>
                exfalso
                have hio : l.toArray[i]? = some l.toArray[i] := Array.getElem?_eq_getElem h3
                have := listed_of_waits hcl hs hd i _ hio (fun e he hb => hd i _ hx h3 hio e he hb) j hji h4
                rw [getD_tf hl0] at this
                cases this
          · rintro ⟨h1, h2⟩
            have hil : i < l.toArray.size := by
              rw [← hs]
              rcases Nat.lt_or_ge i listed.size with h | h
              · exact h
              · rw [Array.getD_eq_getD_getElem?, Array.getElem?_eq_none h] at h2; cases h2
            refine ⟨hil, ?_⟩
            cases hw : waits l.toArray i j with
            | true => exact .inr ((hAmem i).2 ⟨hil, hw⟩)
            | false => exact .inl ((hR i).2 ⟨(hPFmem i).2 ⟨hil, h1, hw⟩, h2⟩)
      · have hjPF : j ∈ PF := (hPFmem j).2 ⟨hjs, hjj, by
          cases hB : waits l.toArray j j0 with
          | false => rfl
          | true =>
            exfalso
            have hlt0 : j0 < j := Nat.lt_of_not_le fun hge => by
              rw [hup j j0 hjs (by simpa using hj0) hge] at hB; cases hB
            rw [hpast j0 hlt0 hl0] at hB
            cases hB⟩
        have hjR : j ∈ R := (hR j).2 ⟨hjPF, hj⟩
        have hpull := stepsI_pull hoj R τ hp hjR (fun i oi hi hij hoi => pairs1_spec hpr hoi hoj hij ((hPFmem i).1 ((hR i).1 hi).1).2.1 hjj (hpast i hij ((hR i).1 hi).2)) ht
        have hnd : R.Nodup := hp.imp (fun h => Nat.ne_of_lt h)
        obtain ⟨v, hv, hpull⟩ := (step1_out (hquiet j oj hoj hjPF)).1 hpull
        refine Step1.wpOp hoj ((step1_out (hquiet j oj hoj hjPF)).2 ⟨v, hv, (⟨rfl, hpull⟩ : τ.puto oj.dst v = τ.puto oj.dst v ∧ _)⟩ : Step1 C wr l.toArray oj τ (fun σ' => σ' = τ.puto oj.dst v ∧ StepsI C wr l.toArray (R.erase j) σ' _)) (dstsOk_spec hn j oj hoj) r (fun γ σ2 a w s k => ?_)
        obtain ⟨e2, k⟩ := k
        refine ⟨γ, σ2, s, hd', .inl ⟨(hset j0).2 ⟨fun e => hjj e.symm, hl0⟩, R.erase j, hp.sublist List.erase_sublist, fun i => ?_, k, fun f hf hlf d hd2 => ?_⟩⟩
        · rw [List.Nodup.mem_erase_iff hnd, hR, hset]
          exact ⟨fun ⟨h1, h2, h3⟩ => ⟨h2, h1, h3⟩, fun ⟨h2, h1, h3⟩ => ⟨h1, h2, h3⟩⟩
        · obtain ⟨hfj, hlf⟩ := (hset f).1 hlf
          rw [e2, puto_env _ _ _ _ ?_]
          · exact hfr f hf hlf d hd2
          · intro e
            have h1 := List.all_eq_true.1 hFd f hf
            have h2 := List.all_eq_true.1 h1 j hjPF
            rw [beq_ne (Ne.symm hfj), hd2, hoj] at h2
            simp only [Option.bind_some] at h2
            rw [e] at h2
            simp [Nat.beq_refl] at h2
    · have hjR : j ∈ R := (hR j).2 hj
      have hjj : j ≠ j0 := fun e => by rw [e, hl0] at hj; cases hj
      have hpull := stepsI_pull hoj R τ hp hjR (fun i oi hi hij hoi => pairs1_spec hpr hoi hoj hij (fun e => by have := (hR i).1 hi; rw [e, hl0] at this; cases this) hjj (hpast i hij ((hR i).1 hi))) ht
      have hnd : R.Nodup := hp.imp (fun h => Nat.ne_of_lt h)
      refine Step1.wpOp hoj hpull (dstsOk_spec hn j oj hoj) r (fun γ σ a w s k => ?_)
      refine ⟨γ, σ, s, hd', .inr ⟨?_, R.erase j, hp.sublist List.erase_sublist, fun i => ?_, k⟩⟩
      · rw [getD_set_ne true hjj]; exact hl0
      · rw [List.Nodup.mem_erase_iff hnd, hR, hset]
  case fin =>
    obtain ⟨γ, τ, r, hd, hT⟩ := hI
    have hall := ready_nil hgd hs hr
    rcases hT with ⟨hl0, _⟩ | ⟨_, R, _, hR, ht⟩
    · rw [hall j0] at hl0; cases hl0
    · have : R = [] := by
        cases R with
        | nil => rfl
        | cons i R => have := (hR i).1 List.mem_cons_self; rw [hall i] at this; cases this
      subst this
      exact ⟨γ, τ, ht, r⟩
  case start =>
    have hrep : ∀ i, (Array.replicate l.toArray.size false).getD i true = false ↔ i < l.toArray.size := fun i => by
      rw [Array.getD_eq_getD_getElem?, Array.getElem?_replicate]
      by_cases hi : i < l.toArray.size
      · rw [if_pos hi]; exact ⟨fun _ => hi, fun _ => rfl⟩
      · rw [if_neg hi]; exact ⟨fun h => (by cases h), fun h => absurd h hi⟩
    refine ⟨γ, σ, s', fun k o hk hks => ?_, .inl ⟨(hrep j0).2 (by simpa using hj0), PF, hPFp, fun i => ?_, stepsI_opsOf _ _ h, fun _ _ _ _ _ => rfl⟩⟩
    · rw [(hrep k).2 hks] at hk; cases hk
    · rw [hrep]; exact ⟨fun h => ⟨h, ((hPFmem i).1 h).1⟩, fun h => h.1⟩
theorem allB_n {T : List Nat → Prop} : AllB T [] := trivial
theorem allB_c {T : List Nat → Prop} {R : List Nat} {l : List (List Nat)} (h : T R) (h2 : AllB T l) : AllB T (R :: l) := ⟨h, h2⟩
theorem behind_s {j0 : Nat} {A N R : List Nat} {σ σ1 : St} {o : Oper} (h : Steps C wr ops (o :: opsOf ops (leftOf R A N)) (undo σ σ1 (dstsOf ops R)) K) (ho : ops[j0]? = some o := by rfl) : Behind C wr ops j0 A N σ σ1 K R := by
  unfold Behind; rw [ho]; exact h
end
end Go.Proofs.YtignjjnflcpiiabGreatDoor
/- Slices of whole arrays: of a box, of a variable; an element of an array that is a value. -/
namespace Go.Proofs.YtignjjnflcpiiabGreatDoor
open Go.RowKit
section
variable {C : Cx} {σ : St} {ty : TypeId} {pos : String} {af : Array Edge} {g : Option (Nat × Bool)} {x y : Operand} {t : TypeId} {d : Nat}
end
section
variable {C : Cx} {σ : St} {ty : TypeId} {pos : String} {af : Array Edge} {g : Option (Nat × Bool)} {x y : Operand} {t : TypeId} {d : Option Nat}
end
end Go.Proofs.YtignjjnflcpiiabGreatDoor
