import Derived.Test.YtignjjnflcpiiaaGreatDoorWVm3
import Derived.Scope
import Derived.Laws.MakeOwn
import Derived.Laws.CopyRow
import Derived.Laws.Cover3
import Derived.Lib.ConvBytes
set_option linter.unusedVariables false
set_option linter.unusedSimpArgs false
set_option maxHeartbeats 1000000
namespace Go.Proofs.YtignjjnflcpiiaaGreatDoor
open Go.RowKit
def noGotoQ (Q : Exit → St → Prop) : Exit → St → Prop
  | .goto _, _ => False
  | e, σ => Q e σ
theorem tri_scope {C : Cx} {σ : St} {c : Code} {Q : Exit → St → Prop} (h : Tri C c σ (noGotoQ Q)) : Tri C (.scope c) σ Q := fun γ a w s => by
  refine wp_scope_straight (wp_mono (h γ a w s) ?_)
  rintro e a w ⟨γ, σ, q, r⟩
  cases e with
  | goto l => exact q
  | _ => exact ⟨γ, σ, q, r⟩
theorem wpAny_inv {C : Cx} {ops : Array Oper} {Q : Exit → Act → World → Prop} (Inv : Array Bool → Act → World → Prop)
    (hstep : ∀ (listed : Array Bool) (j : Nat) oj a w, listed.size = ops.size → ops[j]? = some oj → listed.getD j true = false → (∀ e ∈ oj.after, Region.binds .any e = true → listed.getD e.on false = true) → Inv listed a w → wpOp C.P ops Q j (Inv (listed.setIfInBounds j true)) a w)
    (hend : ∀ (listed : Array Bool) a w, listed.size = ops.size → Region.ready .any ops listed = [] → Inv listed a w → Q .normal a w) :
    ∀ (fuel : Nat) (listed : Array Bool) a w, listed.size = ops.size → (listed.toList.filter (! ·)).length ≤ fuel → Inv listed a w → wpAny C.P .any ops Q fuel listed a w := by
  intro fuel
  induction fuel with
  | zero =>
    intro listed a w hs hf hi
    have hr : Region.ready .any ops listed = [] := by
      cases h : Region.ready .any ops listed with
      | nil => rfl
      | cons j r =>
        exfalso
        have hj : j ∈ Region.ready .any ops listed := by rw [h]; exact List.mem_cons_self
        have h0 := (mem_ready.1 hj).1
        rw [Array.getD_eq_getD_getElem?] at h0
        cases hx : listed[j]? with
        | none => rw [hx] at h0; cases h0
        | some b =>
          rw [hx] at h0
          simp only [Option.getD_some] at h0
          subst h0
          have hm : false ∈ listed.toList.filter (! ·) := List.mem_filter.2 ⟨by
            have := Array.mem_of_getElem? hx
            simpa using this, rfl⟩
          have := List.length_pos_iff.2 (List.ne_nil_of_mem hm)
          omega
    exact ⟨hr, hend listed a w hs hr hi⟩
  | succ fuel ih =>
    intro listed a w hs hf hi
    refine ⟨fun hr => hend listed a w hs hr hi, fun j hj => ?_⟩
    obtain ⟨hj0, oj, hoj, hall⟩ := mem_ready.1 hj
    have hjs : j < ops.size := (Array.getElem?_eq_some_iff.1 hoj).1
    have hjl : j < listed.size := by omega
    refine wpOp_mono (fun a w h => ih _ a w (by simpa using hs) ?_ h) (hstep listed j oj a w hs hoj hj0 hall hi)
    have hlj : listed[j] = false := by
      rw [Array.getD_eq_getD_getElem?, Array.getElem?_eq_getElem hjl] at hj0
      exact hj0
    have key : ∀ (l : List Bool) (j : Nat) (h : j < l.length), l[j] = false → ((l.set j true).filter (! ·)).length + 1 = (l.filter (! ·)).length := by
      intro l
      induction l with
      | nil => intro j h; simp at h
      | cons b l ihl =>
        intro j h hb
        cases j with
        | zero =>
          simp only [List.getElem_cons_zero] at hb
          subst hb
          simp
        | succ j =>
          simp only [List.getElem_cons_succ] at hb
          have := ihl j (by simpa using h) hb
          cases b <;> simp [List.set_cons_succ, List.filter_cons] <;> omega
    have hk := key listed.toList j (by simpa using hjl) (by simpa using hlj)
    rw [Array.toList_setIfInBounds]
    omega
theorem ready_nil {ops : Array Oper} (hgd : goesDown ops = true) {listed : Array Bool} (hs : listed.size = ops.size) (hr : Region.ready .any ops listed = []) : ∀ i, listed.getD i true = true := by
  intro i
  induction i using Nat.strongRecOn with
  | _ i ih =>
    cases hi : listed.getD i true with
    | true => rfl
    | false =>
      exfalso
      have his : i < ops.size := by
        rw [← hs]
        rcases Nat.lt_or_ge i listed.size with h | h
        · exact h
        · rw [Array.getD_eq_getD_getElem?, Array.getElem?_eq_none h] at hi; cases hi
      have : i ∈ Region.ready .any ops listed := by
        rw [mem_ready]
        refine ⟨hi, ops[i], Array.getElem?_eq_getElem his, fun e he hb => ?_⟩
        have hlt := goesDown_spec hgd (Array.getElem?_eq_getElem his) he hb
        have h1 := ih e.on hlt
        rw [Array.getD_eq_getD_getElem?, Array.getElem?_eq_getElem (by omega)] at h1 ⊢
        exact h1
      rw [hr] at this
      cases this
end Go.Proofs.YtignjjnflcpiiaaGreatDoor
/- A region that draws its order and has one operation that writes, which does not wait for all that reads: each way in which that one may come up is walked. -/
namespace Go.Proofs.YtignjjnflcpiiaaGreatDoor
open Go.RowKit
def rdy (ops : Array Oper) (R : List Nat) (j : Nat) : Bool := match ops[j]? with
  | some o => o.after.toList.all fun e => match Region.binds .any e with
    | true => !(R.any (Nat.beq e.on))
    | false => true
  | none => false
def opsOf (ops : Array Oper) : List Nat → List Oper
  | [] => []
  | i :: R => match ops[i]? with
    | some o => o :: opsOf ops R
    | none => opsOf ops R
def remv (j : Nat) : List Nat → List Nat
  | [] => []
  | i :: R => match Nat.beq i j with
    | true => R
    | false => i :: remv j R
def TreeW (C : Cx) (wr : Oper → Bool) (ops : Array Oper) (j0 : Nat) (R : List Nat) (σ : St) (K : St → Prop) : Prop := match rdy ops R j0 with
  | true => match ops[j0]? with
    | some o => Steps C wr ops (o :: opsOf ops (remv j0 R)) σ K
    | none => False
  | false => True
def TreeQ (C : Cx) (wr : Oper → Bool) (ops : Array Oper) (σ : St) (T : Nat → St → Prop) : List Nat → Prop
  | [] => True
  | j :: r => (match ops[j]? with
    | some o => Steps C wr ops [o] σ (T j)
    | none => False) ∧ TreeQ C wr ops σ T r
def cands (ops : Array Oper) (j0 : Nat) (R : List Nat) : List Nat → List Nat
  | [] => []
  | j :: r => match Nat.beq j j0, rdy ops R j with
    | false, true => j :: cands ops j0 R r
    | _, _ => cands ops j0 R r
def Tree (C : Cx) (wr : Oper → Bool) (ops : Array Oper) (j0 : Nat) (K : St → Prop) : Nat → List Nat → St → Prop
  | 0, R, σ => TreeW C wr ops j0 R σ K
  | n + 1, R, σ => TreeW C wr ops j0 R σ K ∧ TreeQ C wr ops σ (fun j σ' => Tree C wr ops j0 K n (remv j R) σ') (cands ops j0 R R)
def pairs1 (ops : Array Oper) (wr : Oper → Bool) (B : Nat → Nat → Bool) (j0 : Nat) : Bool := (List.range ops.size).all fun j => (List.range j).all fun i => Nat.beq i j0 || (Nat.beq j j0 || (B j i || match ops[i]?, ops[j]? with
  | some oi, some oj => !wr oi && !wr oj && oi.apart ops oj
  | _, _ => true))
def draw1 (ops : Array Oper) (wr : Oper → Bool) (j0 : Nat) : Bool := goesDown ops && closedB ops (waits ops) && pairs1 ops wr (waits ops) j0
section
variable {C : Cx} {wr : Oper → Bool} {ops : Array Oper} {σ : St} {K : St → Prop}
theorem remv_erase (j : Nat) : ∀ R : List Nat, remv j R = R.erase j
  | [] => rfl
  | i :: R => by
    rw [remv]
    cases h : Nat.beq i j with
    | true =>
      have := Nat.eq_of_beq_eq_true h
      subst this
      rw [List.erase_cons_head]
    | false =>
      have hne : i ≠ j := fun e => by rw [e, Nat.beq_refl] at h; cases h
      rw [List.erase_cons_tail (by simpa using hne), remv_erase j R]
theorem stepsI_opsOf : ∀ (R : List Nat) (σ : St), Steps C wr ops (opsOf ops R) σ K → StepsI C wr ops R σ K
  | [], σ, h => h
  | i :: R, σ, h => by
    unfold StepsI
    rw [opsOf] at h
    cases ho : ops[i]? with
    | none => rw [ho] at h; exact stepsI_opsOf R σ h
    | some o =>
      rw [ho] at h
      exact Step1.mono (fun σ' h' => stepsI_opsOf R σ' h') h
theorem cands_mem {j0 : Nat} {R : List Nat} {j : Nat} (hne : j ≠ j0) (hr : rdy ops R j = true) : ∀ {l : List Nat}, j ∈ l → j ∈ cands ops j0 R l
  | i :: l, h => by
    rw [cands]
    rcases List.mem_cons.1 h with rfl | h
    · rw [hr, beq_ne hne]; exact List.mem_cons_self
    · have ih := cands_mem (j0 := j0) (R := R) hne hr h
      split
      · exact List.mem_cons_of_mem _ ih
      · exact ih
theorem treeQ_get {T : Nat → St → Prop} {j : Nat} {o : Oper} (ho : ops[j]? = some o) : ∀ {l : List Nat}, j ∈ l → TreeQ C wr ops σ T l → Step1 C wr ops o σ (T j)
  | i :: l, h, ht => by
    rw [TreeQ] at ht
    rcases List.mem_cons.1 h with rfl | h
    · have := ht.1
      rw [ho] at this
      exact this
    · exact treeQ_get ho h ht.2
theorem rdy_of {R : List Nat} {j : Nat} {o : Oper} (ho : ops[j]? = some o) (h : ∀ e ∈ o.after, Region.binds .any e = true → e.on ∉ R) : rdy ops R j = true := by
  unfold rdy
  rw [ho]
  simp only
  rw [List.all_eq_true]
  intro e he
  split
  · rename_i hb
    rw [Bool.not_eq_true', List.any_eq_false]
    intro i hi hbq
    exact h e (by simpa using he) hb (by rw [Nat.eq_of_beq_eq_true hbq]; exact hi)
  · rfl
theorem pairs1_spec {B : Nat → Nat → Bool} {j0 : Nat} (h : pairs1 ops wr B j0 = true) {i j : Nat} {oi oj : Oper} (hi : ops[i]? = some oi) (hj : ops[j]? = some oj) (hij : i < j) (h1 : i ≠ j0) (h2 : j ≠ j0) (hB : B j i = false) : wr oi = false ∧ wr oj = false ∧ oi.apart ops oj = true := by
  have hjs : j < ops.size := (Array.getElem?_eq_some_iff.1 hj).1
  have a1 := List.all_eq_true.1 h j (List.mem_range.2 hjs)
  have a2 := List.all_eq_true.1 a1 i (List.mem_range.2 hij)
  rw [hi, hj, beq_ne h1, beq_ne h2, hB] at a2
  simp only [Bool.false_or, Bool.and_eq_true, Bool.not_eq_true'] at a2
  exact ⟨a2.1.1, a2.1.2, a2.2⟩
theorem tri_draw1 {id : Nat} {l : List Oper} {Q : Exit → St → Prop} (wr : Oper → Bool) (j0 n : Nat) (hj0 : Nat.blt j0 l.length = true) (hlen : Nat.beq l.length (n + 1) = true) (hok : draw1 l.toArray wr j0 = true) (hn : dstsOk C.n l = true) (h : Tree C wr l.toArray j0 (Q .normal) n (List.range (n + 1)) σ) :
    Tri C (.region id l.toArray true) σ Q := by
  have hlen := Nat.eq_of_beq_eq_true hlen
  have hj0 := blt_lt hj0
  simp only [draw1, Bool.and_eq_true] at hok
  obtain ⟨⟨hgd, hcl⟩, hpr⟩ := hok
  intro γ a w s
  refine wp_region_any C.mixed ?_
  have s' : SR C γ σ a w.drew := s.ext (Below.refl _ w).drew
  refine wpAny_inv (fun listed a w => ∃ γ σ R, SR C γ σ a w ∧ R.Pairwise (· < ·) ∧ (∀ i, i ∈ R ↔ listed.getD i true = false) ∧ Down l.toArray listed ∧
    ((j0 ∈ R ∧ ∃ n, R.length ≤ n + 1 ∧ Tree C wr l.toArray j0 (Q .normal) n R σ) ∨ (j0 ∉ R ∧ StepsI C wr l.toArray R σ (Q .normal))))
    (fun listed j oj a w hs hoj hj hall hI => ?step) (fun listed a w hs hr hI => ?fin) _ _ a w.drew (by simp) (Nat.le_trans (List.length_filter_le _ _) (by simp)) ?start
  case step =>
    obtain ⟨γ, σ, R, r, hp, hR, hd, hT⟩ := hI
    have hjR : j ∈ R := (hR j).2 hj
    have hjs : j < l.toArray.size := (Array.getElem?_eq_some_iff.1 hoj).1
    have hlt : j < listed.size := by omega
    have hnd : R.Nodup := hp.imp (fun h => Nat.ne_of_lt h)
    have hR' : ∀ i, i ∈ R.erase j ↔ (listed.setIfInBounds j true).getD i true = false := fun i => by
      rw [List.Nodup.mem_erase_iff hnd, hR]
      by_cases hij : i = j
      · subst hij; simp [hlt]
      · rw [getD_set_ne true (Ne.symm hij)]
        simp [hij]
    have hd' : Down l.toArray (listed.setIfInBounds j true) := fun k' o' hk hks ho' e he hb => by
      by_cases hkj : k' = j
      · subst hkj
        rw [hoj] at ho'
        cases ho'
        exact getD_set_true (hall e he hb)
      · rw [getD_set_ne true (Ne.symm hkj)] at hk
        exact getD_set_true (hd k' o' hk hks ho' e he hb)
    have hdep : ∀ e ∈ oj.after, Region.binds .any e = true → e.on ∉ R := fun e he hb hm => by
      have h1 := hall e he hb
      have h2 := (hR e.on).1 hm
      rw [Array.getD_eq_getD_getElem?] at h1 h2
      cases hx : listed[e.on]? with
      | none => rw [hx] at h1; cases h1
      | some b => rw [hx] at h1 h2; simp only [Option.getD_some] at h1 h2; rw [h1] at h2; cases h2
    have hrd := rdy_of hoj hdep
    have hp' : (R.erase j).Pairwise (· < ·) := hp.sublist List.erase_sublist
    rcases hT with ⟨hm, n, hl, ht⟩ | ⟨hm, ht⟩
    · by_cases hjj : j = j0
      · subst hjj
        have hw : TreeW C wr l.toArray j R σ (Q .normal) := by
          cases n with
          | zero => exact ht
          | succ n => exact ht.1
        unfold TreeW at hw
        rw [hrd, hoj] at hw
        refine Step1.wpOp hoj hw (dstsOk_spec hn j oj hoj) r (fun γ σ a w s k => ?_)
        exact ⟨γ, σ, R.erase j, s, hp', hR', hd', .inr ⟨fun h => by rw [List.Nodup.mem_erase_iff hnd] at h; exact h.1 rfl, by rw [← remv_erase]; exact stepsI_opsOf _ _ k⟩⟩
      · cases n with
        | zero =>
          exfalso
          match R, hl, hjR, hm with
          | [x], _, h1, h2 => exact hjj ((List.mem_singleton.1 h1).trans (List.mem_singleton.1 h2).symm)
          | x :: y :: r, hl, _, _ => simp at hl
        | succ n =>
          have hs := treeQ_get hoj (cands_mem (j0 := j0) hjj hrd hjR) ht.2
          refine Step1.wpOp hoj hs (dstsOk_spec hn j oj hoj) r (fun γ σ a w s k => ?_)
          rw [remv_erase] at k
          exact ⟨γ, σ, R.erase j, s, hp', hR', hd', .inl ⟨(List.Nodup.mem_erase_iff hnd).2 ⟨fun e => hjj e.symm, hm⟩, n, by rw [List.length_erase_of_mem hjR]; omega, k⟩⟩
    · have hjj : j ≠ j0 := fun e => hm (e ▸ hjR)
      have hpull := stepsI_pull hoj R σ hp hjR (fun i oi hi hij hoi => by
        refine pairs1_spec hpr hoi hoj hij (fun e => hm (e ▸ hi)) hjj ?_
        cases hB : waits l.toArray j i with
        | false => rfl
        | true =>
          exfalso
          have h1 := listed_of_waits hcl hs hd j oj hoj hall i hij hB
          have h0 := (hR i).1 hi
          rw [Array.getD_eq_getD_getElem?] at h1 h0
          cases hx : listed[i]? with
          | none => rw [hx] at h1; cases h1
          | some b => rw [hx] at h1 h0; simp only [Option.getD_some] at h1 h0; rw [h1] at h0; cases h0) ht
      refine Step1.wpOp hoj hpull (dstsOk_spec hn j oj hoj) r (fun γ σ a w s k => ?_)
      exact ⟨γ, σ, R.erase j, s, hp', hR', hd', .inr ⟨fun h => hm (List.mem_of_mem_erase h), k⟩⟩
  case fin =>
    obtain ⟨γ, σ, R, r, hp, hR, hd, hT⟩ := hI
    have hnil : R = [] := by
      cases R with
      | nil => rfl
      | cons i rest =>
        exfalso
        have h0 := (hR i).1 List.mem_cons_self
        have h1 := ready_nil hgd hs hr i
        rw [h1] at h0; cases h0
    subst hnil
    rcases hT with ⟨hm, _⟩ | ⟨_, ht⟩
    · cases hm
    · exact ⟨γ, σ, ht, r⟩
  case start =>
    refine ⟨γ, σ, List.range (n + 1), s', List.pairwise_lt_range, fun i => ?_, fun k o hk hks => ?_, .inl ⟨List.mem_range.2 (by omega), n, by simp, h⟩⟩
    · rw [List.mem_range, Array.getD_eq_getD_getElem?, Array.getElem?_replicate]
      by_cases hi : i < l.toArray.size
      · rw [if_pos hi]; simp at hi; simp; omega
      · rw [if_neg hi]; simp at hi; simp; omega
    · rw [Array.getD_eq_getD_getElem?, Array.getElem?_replicate, if_pos hks] at hk
      cases hk
theorem tree_0 {j0 : Nat} {R : List Nat} (h : TreeW C wr ops j0 R σ K) : Tree C wr ops j0 K 0 R σ := h
theorem tree_s {j0 n : Nat} {R : List Nat} (h : TreeW C wr ops j0 R σ K) (h2 : TreeQ C wr ops σ (fun j σ' => Tree C wr ops j0 K n (remv j R) σ') (cands ops j0 R R)) : Tree C wr ops j0 K (n + 1) R σ := ⟨h, h2⟩
theorem tw_t {j0 : Nat} {R : List Nat} {o : Oper} (h : Steps C wr ops (o :: opsOf ops (remv j0 R)) σ K) (ho : ops[j0]? = some o := by rfl) (hr : rdy ops R j0 = true := by rfl) : TreeW C wr ops j0 R σ K := by
  unfold TreeW; rw [hr, ho]; exact h
theorem tw_f {j0 : Nat} {R : List Nat} (hr : rdy ops R j0 = false := by rfl) : TreeW C wr ops j0 R σ K := by
  unfold TreeW; rw [hr]; trivial
theorem tq_n {T : Nat → St → Prop} : TreeQ C wr ops σ T [] := trivial
theorem tq_c {T : Nat → St → Prop} {j : Nat} {r : List Nat} {o : Oper} (h : Steps C wr ops [o] σ (T j)) (h2 : TreeQ C wr ops σ T r) (ho : ops[j]? = some o := by rfl) : TreeQ C wr ops σ T (j :: r) := by
  refine ⟨?_, h2⟩
  rw [ho]; exact h
def CutN (C : Cx) (Q : Exit → St → Prop) {Z : Type} (J : Z → Prop) (T : Z → St) : Nat → Code → St → Prop
  | 0, _, σ => ∃ z, J z ∧ Weak C σ (T z)
  | n + 1, .seq x y, σ => Tri C x σ (thenQ (CutN C Q J T n y) Q)
  | _ + 1, _, _ => False
def tailN : Nat → Code → Code
  | 0, c => c
  | n + 1, .seq _ y => tailN n y
  | _ + 1, c => c
theorem tri_cutN {C : Cx} {Q : Exit → St → Prop} {Z : Type} (J : Z → Prop) (T : Z → St) : ∀ (n : Nat) {c : Code} {σ : St}, CutN C Q J T n c σ → (∀ z, J z → Tri C (tailN n c) (T z) Q) → Tri C c σ Q
  | 0, c, σ, ⟨z, hz, hw⟩, h2 => Tri.weak hw (h2 z hz)
  | n + 1, .seq x y, σ, h1, h2 => tri_seq (Tri.mono h1 fun e σ1 h => by
      cases e with
      | normal => exact tri_cutN J T n h h2
      | _ => exact h)
theorem cut_z {C : Cx} {Q : Exit → St → Prop} {Z : Type} {J : Z → Prop} {T : Z → St} {c : Code} {σ : St} (z : Z) (hz : J z) (hw : Weak C σ (T z)) : CutN C Q J T 0 c σ := ⟨z, hz, hw⟩
theorem cut_s {C : Cx} {Q : Exit → St → Prop} {Z : Type} {J : Z → Prop} {T : Z → St} {n : Nat} {x y : Code} {σ : St} (h : Tri C x σ (thenQ (CutN C Q J T n y) Q)) : CutN C Q J T (n + 1) (.seq x y) σ := h
end
end Go.Proofs.YtignjjnflcpiiaaGreatDoor
/- Functions that make a new object; calls that write a box of which the caller hands on all that it holds; made slices, parts of them, copies into them. -/
namespace Go.Proofs.YtignjjnflcpiiaaGreatDoor
open Go.RowKit
section
variable {C : Cx} {γ : Gh} {σ : St} {a : Act} {w w' : World}
theorem SR.renew2 (s : SR C γ σ a w) (old : Option Nat) (t : Nat) (u : Value × Value) (o : AObj) (hpin : C.pin t = none) (hold : ∀ i, old = some i → ∃ p, σ.heap i = some p)
    (hos : w'.os = w.os) (htp : w'.tape = w.tape) (hout : w'.output = w.output) (hsz : w.heap.size ≤ w'.heap.size)
    (hblk : ∀ b, b < w.heap.size → (∀ i, old = some i → ¬ Blk γ i b) → w'.heap[b]? = w.heap[b]?)
    (hnew : ∀ b, Blk (upd γ t u) t b → b < w'.heap.size ∧ (w.heap.size ≤ b ∨ ∃ i, old = some i ∧ Blk γ i b)) (h2 : ∀ b, vblock u.1 = some b → vblock u.2 ≠ some b)
    (ho : ∀ M' : Nat → Prop, (∀ b, b < w.heap.size → M' b → Mut γ σ.heap b) → (∀ b, w.heap.size ≤ b → M' b → Blk (upd γ t u) t b) → ObjRep w' C.N M' (upd γ t u) t o) : SR C (upd γ t u) (((σ.drop old).kill t).set t (some o)) a w' := by
  have live : ∀ {id : Nat} {p : AObj}, (((σ.drop old).kill t).set t (some o)).heap id = some p → (id = t ∧ p = o) ∨ (id ≠ t ∧ old ≠ some id ∧ ∃ p', σ.heap id = some p' ∧ p = p'.kill t) := by
    intro id p h
    rcases set_heap h with ⟨h1, h2⟩ | ⟨h1, h2⟩
    · cases h2; exact .inl ⟨h1, rfl⟩
    · obtain ⟨h3, o', h4, h5⟩ := kill_heap h2
      obtain ⟨h6, h7⟩ := drop_heap h4
      exact .inr ⟨h1, h7, o', h6, h5⟩
  have blk : ∀ {id b : Nat}, id ≠ t → Blk (upd γ t u) id b → Blk γ id b := fun hne h => by unfold Blk at *; rw [upd_ne _ _ hne] at h; exact h
  have mutd : ∀ b, b < w.heap.size → Mut (upd γ t u) (((σ.drop old).kill t).set t (some o)).heap b → Mut γ σ.heap b := by
    rintro b hb ⟨id, p, h1, h3⟩
    rcases live h1 with ⟨rfl, _⟩ | ⟨hne, _, p', hp', _⟩
    · rcases (hnew b h3).2 with h | ⟨i, hi, h⟩
      · omega
      · obtain ⟨p, hp⟩ := hold i hi
        exact ⟨i, p, hp, h⟩
    · exact ⟨id, p', hp', blk hne h3⟩
  have newd : ∀ b, w.heap.size ≤ b → Mut (upd γ t u) (((σ.drop old).kill t).set t (some o)).heap b → Blk (upd γ t u) t b := by
    rintro b hb ⟨id, p, h1, h3⟩
    rcases live h1 with ⟨rfl, _⟩ | ⟨hne, _, p', hp', _⟩
    · exact h3
    · have := (s.lt id p' b hp' (blk hne h3)).1; omega
  have still : ∀ b, b < w.heap.size → ¬ Mut γ σ.heap b → w'.heap[b]? = w.heap[b]? := fun b hb hm => hblk b hb (fun i hi h => hm (by obtain ⟨p, hp⟩ := hold i hi; exact ⟨i, p, hp, h⟩))
  refine { obj := fun id p h => ?_, disj := fun id id' p p' b h h' hb hb' => ?_, two := fun id p b h => ?_, lt := fun id p b h hb => ?_, chg := ?_, glob := ?_, pins := fun id p v hp h => ?_, env := fun k => ?_, size := s.size, defers := s.defers }
  · rcases live h with ⟨rfl, rfl⟩ | ⟨hne, hno, p', hp', rfl⟩
    · exact ho _ mutd newd
    · exact (s.obj id p' hp').killed hne still mutd (fun b hb => hblk b (s.lt id p' b hp' hb).1 (fun i hi hbi => by
        obtain ⟨q, hq⟩ := hold i hi
        have := s.disj id i p' q b hp' hq hb hbi
        exact hno (by rw [this]; exact hi)))
  · rcases live h with ⟨rfl, _⟩ | ⟨hne, hno, q, hq, _⟩
    · rcases live h' with ⟨rfl, _⟩ | ⟨hne', hno', q', hq', _⟩
      · rfl
      · have hb' := blk hne' hb'
        rcases (hnew b hb).2 with h1 | ⟨i, hi, h1⟩
        · have := (s.lt id' q' b hq' hb').1; omega
        · obtain ⟨r, hr⟩ := hold i hi
          have := s.disj id' i q' r b hq' hr hb' h1
          exact absurd (by rw [this]; exact hi) hno'
    · have hb1 := blk hne hb
      rcases live h' with ⟨rfl, _⟩ | ⟨hne', hno', q', hq', _⟩
      · rcases (hnew b hb').2 with h1 | ⟨i, hi, h1⟩
        · have := (s.lt id q b hq hb1).1; omega
        · obtain ⟨r, hr⟩ := hold i hi
          have := s.disj id i q r b hq hr hb1 h1
          exact absurd (by rw [this]; exact hi) hno
      · exact s.disj id id' q q' b hq hq' hb1 (blk hne' hb')
  · rcases live h with ⟨rfl, _⟩ | ⟨hne, _, q, hq, _⟩
    · rw [upd_same]; exact h2 b
    · rw [upd_ne _ _ hne]; exact s.two id q b hq
  · rcases live h with ⟨rfl, _⟩ | ⟨hne, _, q, hq, _⟩
    · obtain ⟨h1, h3⟩ := hnew b hb
      refine ⟨h1, ?_⟩
      rcases h3 with h3 | ⟨i, hi, h3⟩
      · exact .inr (Nat.le_trans s.chg.size h3)
      · obtain ⟨r, hr⟩ := hold i hi
        exact (s.lt i r b hr h3).2
    · obtain ⟨h1, h3⟩ := s.lt id q b hq (blk hne hb)
      exact ⟨Nat.lt_of_lt_of_le h1 hsz, h3⟩
  · refine ⟨hos.trans s.chg.os, htp.trans s.chg.tape, hout.trans s.chg.output, Nat.le_trans s.chg.size hsz, fun k hk hm => ?_⟩
    rw [hblk k (Nat.lt_of_lt_of_le hk s.chg.size) (fun i hi h => ?_)]
    · exact s.chg.block k hk hm
    · obtain ⟨r, hr⟩ := hold i hi
      rcases (s.lt i r k hr h).2 with h1 | h1
      · exact hm h1
      · have : C.w0.heap.size ≤ k := h1
        omega
  · refine C.hG w w' s.glob (fun k hk => hblk k (Nat.lt_of_lt_of_le (Nat.lt_of_lt_of_le hk C.hn) s.chg.size) (fun i hi h => ?_))
    obtain ⟨r, hr⟩ := hold i hi
    have hn := C.hn
    rcases (s.lt i r k hr h).2 with h1 | h1
    · have := C.hM k h1; omega
    · omega
  · rcases live h with ⟨rfl, _⟩ | ⟨hne, _, q, hq, _⟩
    · rw [hpin] at hp; cases hp
    · rw [upd_ne _ _ hne]; exact s.pins id q v hp hq
  · show Rep w' C.N _ _ ((((σ.drop old).kill t).set t (some o)).env k) _
    have : (((σ.drop old).kill t).set t (some o)).env k = (σ.env k).kill t := by
      show ((σ.drop old).env k).kill t = _
      rw [drop_env]
    rw [this]
    exact kill_rep (s.env k) still mutd
end
def CNew (X : Gx) (f : FuncId) (as : List AV) (cells : List AV) : Prop :=
  ∀ (w : World) (vs : List Value), X.G w → X.nG ≤ w.heap.size → vs.length = as.length → (∀ i (h : i < as.length) (h' : i < vs.length), Rep w 0 (fun _ => False) g0 as[i] vs[i]) →
    Calls X.P f vs.toArray w (fun e w' => ∃ b c t, e = .returned (.pointer (some ⟨b, 0, none⟩)) ∧ Ext w w' ∧ w.heap.size ≤ b ∧ b < w'.heap.size ∧ w'.heap[b]? = some (.cells c t (0, 0)) ∧ c.size = cells.length ∧
      ∀ j (h : j < cells.length), ∃ v, c[j]? = some v ∧ Rep w' w.heap.size (fun k => k = b) g0 cells[j] v)
def RetN (rs : List ResultVar) (cells : List AV) : Exit → St → Prop
  | .normal, σ | .ret, σ => ∃ t id cs, rs = [.tmp t] ∧ σ.env t = .ptr id 0 ∧ σ.heap id = some (.box cs) ∧ AV.fzL (σ.set id none).heap true cs = cells
  | _, _ => False
theorem cnew_of {X : Gx} {f : FuncId} {fn : Func} {c : Code} {as : List AV} {cells : List AV} (hf : X.P.funcs[f]? = some fn) (hb : fn.body = some c) (hn : as.length ≤ fn.ntmps) (ho : AV.noFrL as = true)
    (h : ∀ w (hw : X.nG ≤ w.heap.size), Tri (cx X fn.ntmps w hw) c (St.start as) (RetN fn.results.toList cells)) : CNew X f as cells := by
  intro w vs hG hw hl hr
  refine calls_of_wp hf hb (wp_mono (h w hw (fun _ => (undef, undef)) _ w ?_) ?_)
  · refine { obj := fun id o h => (by cases h), disj := fun id id' o o' b h => (by cases h), two := fun id o b h => (by cases h), lt := fun id o b h => (by cases h), chg := Chg.refl _ _, glob := hG, pins := fun id o v h => (by cases h), env := fun t => ?_, size := ?_, defers := rfl }
    · show Rep w w.heap.size _ _ (as.getD t .any) _
      rcases Nat.lt_or_ge t as.length with ht | ht
      · have h1 : as.getD t .any = as[t] := by rw [List.getD_eq_getElem?_getD, List.getElem?_eq_getElem ht]; rfl
        have h2 : (vs.toArray ++ Array.replicate (fn.ntmps - vs.toArray.size) undef).getD t undef = vs[t]'(by omega) := by
          rw [Array.getD_eq_getD_getElem?, Array.getElem?_append_left (by simp; omega)]
          simp [show t < vs.length by omega]
        rw [h1, h2]
        exact ((hr t ht (by omega)).old (noFrL_get _ ho t ht)).mono (fun _ _ _ => rfl) (fun b hb h => by obtain ⟨_, _, h, _⟩ := h; cases h) (Nat.le_refl _) _ (fun _ _ => rfl)
      · have h1 : as.getD t .any = .any := by rw [List.getD_eq_getElem?_getD, List.getElem?_eq_none ht]; rfl
        rw [h1]
        exact .any _ _
    · show (vs.toArray ++ Array.replicate (fn.ntmps - vs.toArray.size) undef).size = fn.ntmps
      simp; omega
  · have fin : ∀ (a : Act) (w' : World) γ σ, SR (cx X fn.ntmps w hw) γ σ a w' → (∃ t id cs, fn.results.toList = [.tmp t] ∧ σ.env t = .ptr id 0 ∧ σ.heap id = some (.box cs) ∧ AV.fzL (σ.set id none).heap true cs = cells) →
        a.defers = [] ∧ ∃ v, (results fn a.tmps).run X.P w' = .ok v w' ∧ ∃ b c t, Ending.returned v = .returned (.pointer (some ⟨b, 0, none⟩)) ∧ Ext w w' ∧ w.heap.size ≤ b ∧ b < w'.heap.size ∧ w'.heap[b]? = some (.cells c t (0, 0)) ∧ c.size = cells.length ∧
          ∀ j (h : j < cells.length), ∃ v, c[j]? = some v ∧ Rep w' w.heap.size (fun k => k = b) g0 cells[j] v := by
      rintro a w' γ σ s ⟨t, id, cs, h1, h2, h3, h4⟩
      obtain ⟨b, c, e, g1, g2, g3, g4⟩ := s.obj id _ h3
      have ev := s.env t
      rw [h2] at ev
      obtain ⟨b', e7, e8⟩ := ev.ptr_inv
      have hg1 : (γ id).1 = .pointer (some ⟨b, 0, none⟩) := by rw [g1]
      rw [hg1] at e7
      cases e7
      have hblk : Blk γ id b := .inl (by rw [hg1]; rfl)
      have hlt := s.lt id _ b h3 hblk
      have hge : w.heap.size ≤ b := by
        rcases hlt.2 with h | h
        · exact h.elim
        · exact h
      have hrun := mapM_results (P := X.P) (w := w') (tmps := a.tmps) fn.results.toList [.pointer (some ⟨b, 0, none⟩)] (by rw [h1]; rfl) (fun i hi hx => by
        have hi0 : i = 0 := by simpa using hx
        subst hi0
        simp only [h1, List.getElem_cons_zero]
        rw [e8]; rfl)
      have hres : (results fn a.tmps).run X.P w' = .ok (.pointer (some ⟨b, 0, none⟩)) w' := by
        unfold results
        rw [Array.mapM_eq_mapM_toList]
        simp only [Sem.run_bind, Sem.run_map, Sem.run_pure]
        exact congrArg (fun r : Result (List Value) => (r.andThen fun a w' => .ok a.toArray w').andThen fun a w' => .ok (if h : a.size = 1 then a[0] else .tuple a) w') hrun
      refine ⟨s.defers, _, hres, b, c, e, rfl, Chg.ext s.chg, hge, hlt.1, g2, ?_, fun j hj => ?_⟩
      · rw [← h4, fzL_length]; exact g3
      · subst h4
        have hj' : j < cs.length := by rw [fzL_length] at hj; exact hj
        obtain ⟨v, hv, hrv⟩ := g4 j hj'
        refine ⟨v, hv, ?_⟩
        rw [fzL_get _ true cs j hj hj']
        have hsub : ∀ (i : Nat) (o : AObj), (σ.set id none).heap i = some o → i ≠ id ∧ σ.heap i = some o := fun i o ho => by
          rcases set_heap ho with ⟨_, h⟩ | h
          · cases h
          · exact h
        exact hrv.frzM s.toHR (fun i o ho => (hsub i o ho).2) (fun k hk => by subst hk; exact ⟨id, _, h3, hblk⟩) (fun i o k ho hk he => by
          subst he
          exact (hsub i o ho).1 (s.disj i id o _ _ (hsub i o ho).2 h3 (.inl hk) hblk)) true (fun _ => Nat.le_refl _) (fun _ _ _ _ _ _ h => h)
    rintro e a w' ⟨γ, σ, q, s⟩
    cases e with
    | normal => exact fin a w' γ σ s q
    | ret => exact fin a w' γ σ s q
    | _ => exact q.elim
section
variable {C : Cx} {σ : St} {d : Nat} {ty : TypeId} {pos : String} {af : Array Edge} {g : Option (Nat × Bool)}
theorem w_new (t : Nat) {f : FuncId} {xs : Array Operand} {ts : Array TypeId} {as cells : List AV} (hc : CNew C.toGx f as cells) (hcf : ∀ args w, (callFunc f args).run C.P w = .ok (.enter f args) w)
    (ha : AV.fzL σ.heap false (xs.toList.map σ.ev) = as) (hfr : cells.all AV.allFr = true) (hd : Nat.blt d C.n = true) (hpin : C.pin t = none) :
    Wr C ⟨some d, .call { callee := .value (.func f), args := xs, argTypes := ts }, ty, pos, af, g⟩ σ (((σ.kill t).set t (some (.box cells))).put d (.ptr t 0)) := by
  intro γ a w s
  obtain ⟨h1, h2⟩ := args_rep (σ := σ) s.toHR (fun x _ => s.ev x) ha
  have hcall := hc w (xs.map a.eval).toList s.glob (Nat.le_trans C.hn s.chg.size) h1 h2
  unfold Oper.wp
  have hr : (execOp a.eval ⟨some d, .call { callee := .value (.func f), args := xs, argTypes := ts }, ty, pos, af, g⟩).run C.P w = .ok (.enter f (xs.map a.eval)) w := by
    simp [execOp, resolve, Act.eval, Deferred.ofValue, invoke, hcf]
  rw [hr, Oper.upon_enter]
  simp only [Array.toArray_toList] at hcall
  refine hcall.mono ?_
  rintro e w' ⟨b, c, t', rfl, hx, hge, hlt, hb, hsz, hcells⟩
  refine ⟨upd γ t (.pointer (some ⟨b, 0, none⟩), undef), ?_⟩
  have s' := s.renew2 none t (.pointer (some ⟨b, 0, none⟩), undef) (.box cells) hpin (fun i h => by cases h) hx.os hx.tape hx.output hx.size (fun k hk _ => hx.block k hk) (fun k hk => by
    unfold Blk at hk
    rw [upd_same] at hk
    rcases hk with hk | hk
    · simp only [vblock, Option.some.injEq] at hk; subst hk; exact ⟨hlt, .inl hge⟩
    · cases hk) (fun k _ h => by cases h) (fun M' hM1 hM2 => by
    refine ⟨b, c, t', by rw [upd_same], hb, hsz, fun j hj => ?_⟩
    obtain ⟨v, hv, hrv⟩ := hcells j hj
    refine ⟨v, hv, hrv.freshM (List.all_eq_true.1 hfr _ (List.getElem_mem hj)) s.chg.size (fun k hk hne hm => hne ?_) _⟩
    have := hM2 k hk hm
    unfold Blk at this
    rw [upd_same] at this
    rcases this with h | h
    · simp only [vblock, Option.some.injEq] at h; exact h.symm
    · cases h)
  exact s'.put (some d) (fun k hk => by cases hk; exact blt_lt hd) (.ptr _ _ _ _ (by simp only [upd_same]))
end
section
variable {C : Cx} {σ : St} {ty : TypeId} {pos : String} {af : Array Edge} {g : Option (Nat × Bool)} {d : Option Nat}
theorem w_callb {f : FuncId} {xs : Array Operand} {ts : Array TypeId} {id : Nat} {cells cells' : List AV} {as : List AV} {res : AV} (hc : CEff C.toGx f (.box cells') as none res) (hcf : ∀ args w, (callFunc f args).run C.P w = .ok (.enter f args) w) (ho : σ.heap id = some (.box cells))
    (hcl : AV.fzL (σ.drop (some id)).heap false cells = cells') (ha : xs.toList.map (fun x => (σ.ev x).fzp id (σ.drop (some id)).heap) = as) (hfr : res.allFr = true) (hd : dstOk C.n ⟨d, .call { callee := .value (.func f), args := xs, argTypes := ts }, ty, pos, af, g⟩ = true) :
    Wr C ⟨d, .call { callee := .value (.func f), args := xs, argTypes := ts }, ty, pos, af, g⟩ σ ((σ.set id none).puto d res) := by
  intro γ a w s
  have hr : (execOp a.eval ⟨d, .call { callee := .value (.func f), args := xs, argTypes := ts }, ty, pos, af, g⟩).run C.P w = .ok (.enter f (xs.map a.eval)) w := by
    simp [execOp, resolve, Act.eval, Deferred.ofValue, invoke, hcf]
  unfold Oper.wp
  rw [hr, Oper.upon_enter]
  -- the callee's view
  let γl : Gh := fun i => match i with
    | 0 => γ id
    | _ + 1 => (undef, undef)
  have hbl : ∀ b, Blk γl 0 b ↔ Blk γ id b := fun b => Iff.rfl
  have hMl : ∀ b, Blk γl 0 b → C.nG ≤ b := fun b hb => by
    have hn := C.hn
    rcases (s.lt id _ b ho hb).2 with h | h
    · exact C.hM b h
    · omega
  have hw : C.nG ≤ w.heap.size := Nat.le_trans C.hn s.chg.size
  have hmutl : ∀ b, Mut γl (heap1 (some (.box cells'))) b → Blk γ id b := fun b ⟨i, p, h1, h2⟩ => by
    cases i with
    | zero => exact h2
    | succ i => cases h1
  have hsub : ∀ (i : Nat) (p : AObj), (σ.drop (some id)).heap i = some p → σ.heap i = some p := fun i p h => (drop_heap h).1
  have hM1 : ∀ b, Mut γl (heap1 (some (.box cells'))) b → Mut γ σ.heap b := fun b hb => ⟨id, _, ho, hmutl b hb⟩
  have hM2 : ∀ (i : Nat) (p : AObj) b, (σ.drop (some id)).heap i = some p → vblock (γ i).1 = some b → ¬ Mut γl (heap1 (some (.box cells'))) b := fun i p b h hb hm => by
    obtain ⟨h1, h2⟩ := drop_heap h
    have := s.disj i id p _ b h1 ho (.inl hb) (hmutl b hm)
    exact h2 (by rw [this])
  have hobj : ObjRep w w.heap.size (Mut γl (heap1 (some (.box cells')))) γl 0 (.box cells') := by
    obtain ⟨b, c, e, h1, h2, h3, h4⟩ := s.obj id _ ho
    subst hcl
    refine ⟨b, c, e, h1, h2, by rw [fzL_length]; exact h3, fun j hj => ?_⟩
    have hj' : j < cells.length := by rw [fzL_length] at hj; exact hj
    obtain ⟨v, hv, hrv⟩ := h4 j hj'
    refine ⟨v, hv, ?_⟩
    rw [fzL_get _ false cells j hj hj']
    exact (hrv.frzM s.toHR hsub hM1 hM2 false (fun h => by cases h) (fun h => by cases h)).mono (fun _ _ _ => rfl) (fun _ _ h => h) (Nat.le_refl _) _ (fun i hi => by rw [fz_noment] at hi; cases hi)
  have hrl : HR (cxe C.toGx 0 w γl hw hMl) γl (heap1 (some (.box cells'))) w :=
    { obj := fun i p h => by
        cases i with
        | zero => cases h; exact hobj
        | succ i => cases h
      disj := fun i i' p p' b h h' _ _ => by
        cases i with
        | zero => cases i' with
          | zero => rfl
          | succ i' => cases h'
        | succ i => cases h
      two := fun i p b h => by
        cases i with
        | zero => exact s.two id _ b ho
        | succ i => cases h
      lt := fun i p b h hb => by
        cases i with
        | zero => exact ⟨(s.lt id _ b ho hb).1, .inl hb⟩
        | succ i => cases h
      chg := Chg.refl _ _
      glob := s.glob
      pins := fun i p v h h' => by
        cases i with
        | zero => cases h; rfl
        | succ i => cases h' }
  have hargs : ∀ x ∈ xs, Rep w w.heap.size (Mut γl (heap1 (some (.box cells')))) (fun i => (γl i).1) ((σ.ev x).fzp id (σ.drop (some id)).heap) (a.eval x) := fun x _ => by
    have e1 := s.ev x
    have gen : ∀ v, Rep w C.N (Mut γ σ.heap) (fun i => (γ i).1) v (a.eval x) → Rep w w.heap.size (Mut γl (heap1 (some (.box cells')))) (fun i => (γl i).1) (v.fz (σ.drop (some id)).heap false) (a.eval x) := fun v hv =>
      (hv.frzM s.toHR hsub hM1 hM2 false (fun h => by cases h) (fun h => by cases h)).mono (fun _ _ _ => rfl) (fun _ _ h => h) (Nat.le_refl _) _ (fun i hi => by rw [fz_noment] at hi; cases hi)
    cases hv : σ.ev x with
    | ptr j fo =>
      rw [hv] at e1
      show Rep w w.heap.size _ _ (match Nat.beq j id with | true => .ptr 0 fo | false => .any) _
      cases hb : Nat.beq j id with
      | true =>
        have := Nat.eq_of_beq_eq_true hb
        subst this
        obtain ⟨b, h1, h2⟩ := e1.ptr_inv
        rw [h2]
        exact .ptr _ _ _ _ h1
      | false => exact .any _ _
    | _ => rw [hv] at e1; exact gen _ e1
  subst ha
  have hcall := hc w γl (xs.map a.eval).toList hw hMl hrl (by simp) (fun i hi hi' => by
    have h1 : (xs.map a.eval).toList[i] = a.eval (xs[i]'(by simpa using hi)) := by simp
    have h2 : (xs.toList.map (fun x => (σ.ev x).fzp id (σ.drop (some id)).heap))[i] = (σ.ev (xs[i]'(by simpa using hi))).fzp id (σ.drop (some id)).heap := by simp
    rw [h1, h2]
    exact hargs _ (Array.getElem_mem _))
  simp only [Array.toArray_toList] at hcall
  refine hcall.mono ?_
  rintro e w' ⟨v, γ', rfl, hr', hv⟩
  -- back in the caller
  have hblk : ∀ k, k < w.heap.size → ¬ Blk γ id k → w'.heap[k]? = w.heap[k]? := fun k hk hb => hr'.chg.block k hk hb
  refine ⟨γ, ?_⟩
  have s1 : SR C γ (σ.set id none) a w := s.less (fun t => .inr rfl) (fun i p h => by
    rcases set_heap h with ⟨_, h⟩ | ⟨_, h⟩
    · cases h
    · exact h)
  have hlive : ∀ {i : Nat} {p : AObj}, (σ.set id none).heap i = some p → i ≠ id ∧ σ.heap i = some p := fun h => by
    rcases set_heap h with ⟨_, h⟩ | h
    · cases h
    · exact h
  have still : ∀ b, b < w.heap.size → ¬ Mut γ σ.heap b → w'.heap[b]? = w.heap[b]? := fun b hb hm => hblk b hb (fun h => hm ⟨id, _, ho, h⟩)
  have sub : ∀ b, b < w.heap.size → Mut γ (σ.set id none).heap b → Mut γ σ.heap b := fun b _ ⟨i, p, h1, h2⟩ => ⟨i, p, (hlive h1).2, h2⟩
  have s2 : SR C γ (σ.set id none) a w' :=
    { obj := fun i p h => by
        obtain ⟨h1, h2⟩ := hlive h
        exact (s.obj i p h2).mono still sub (fun b hb => hblk b (s.lt i p b h2 hb).1 (fun h => h1 (s.disj i id p _ b h2 ho hb h)))
      disj := s1.disj
      two := s1.two
      lt := fun i p b h hb => ⟨Nat.lt_of_lt_of_le (s1.lt i p b h hb).1 hr'.chg.size, (s1.lt i p b h hb).2⟩
      chg := ⟨hr'.chg.os.trans s.chg.os, hr'.chg.tape.trans s.chg.tape, hr'.chg.output.trans s.chg.output, Nat.le_trans s.chg.size hr'.chg.size, fun k hk hm => by
        rw [hblk k (Nat.lt_of_lt_of_le hk s.chg.size) (fun h => by
          rcases (s.lt id _ k ho h).2 with h1 | h1
          · exact hm h1
          · have : C.w0.heap.size ≤ k := h1
            omega)]
        exact s.chg.block k hk hm⟩
      glob := hr'.glob
      pins := s1.pins
      env := fun t => (s.env t).mono still sub (Nat.le_refl _) _ (fun _ _ => rfl)
      size := s.size
      defers := s.defers }
  exact s2.put d (dstOk_spec hd) (hv.freshM hfr s.chg.size (fun b hb _ hm => by
    obtain ⟨i, p, h1, h2⟩ := hm
    have h3 := (s1.lt i p b h1 h2).1
    omega) _)
end
section
variable {C : Cx} {σ : St} {d : Option Nat} {x y z : Operand} {t ty ty2 : TypeId} {pos : String} {af : Array Edge} {g : Option (Nat × Bool)} {k k' : IntKind} {m n : Int}
theorem q_idxarrr {e n' : Nat} {fr : Bool} {cells : List AV} {i : Int} (hx : σ.ev x = .rptr fr cells) (hy : σ.ev y = .int k i) (ht : C.P.underlying t = some (.array n' e)) (hs : sizeB C.P e 1 = true) (h0 : 0 ≤ i) (hi : i.toNat < n') (hc : i.toNat < cells.length) :
    Qd C ⟨d, .indexAddr t x y, ty, pos, af, g⟩ σ (.rptr fr (cells.drop i.toNat)) := qd_of fun γ a w hh he => by
  have e1 := he x (by simp [Op.operands])
  have e2 := he y (by simp [Op.operands])
  rw [hx] at e1; rw [hy] at e2
  have e2 := e2.int_inv
  obtain ⟨b, o, cs, h, h2⟩ := e1.rptr_inv
  have hrun := run_indexAt_arr (w := w) ht hs b o k i h0 hi
  rw [Nat.mul_one] at hrun
  exact ⟨.pointer (some ⟨b, o + i.toNat, none⟩), w, by simp [execOp, h2, e2, hrun], ext_refl w, rptr_drop i.toNat hc h⟩
theorem q_strb {s : List UInt8} {e : TypeId} {u : TypeDesc} (hx : σ.ev x = .str s) (hs : C.P.underlying t = some u) (ht : C.P.underlying ty2 = some (.slice e)) (he' : C.P.underlying e = some (.int .u8)) : Qd C ⟨d, .convert t ty2 x, ty, pos, af, g⟩ σ (.ro true 1 (byteRows s)) := qd_of fun γ a w hh he => by
  have e1 := he x (by simp [Op.operands])
  rw [hx] at e1
  have hv := e1.str_inv
  have hrun := Lib.run_convert_string_bytes (P := C.P) w t ty2 e ⟨s.toArray⟩ hs ht he'
  have hb0 : Below w.heap.size w (Lib.bytesWorld w e ⟨s.toArray⟩) := ⟨rfl, rfl, rfl, by rw [Lib.bytesWorld_size]; omega, fun k hk => Lib.bytesWorld_at_old w e ⟨s.toArray⟩ k hk⟩
  have hsz : (ByteArray.mk s.toArray).size = s.length := by simp [ByteArray.size]
  rw [hsz] at hrun
  refine ⟨.slice (some ⟨w.heap.size, 0, none⟩) s.length (grownCap w s.length 0 e), Lib.bytesWorld w e ⟨s.toArray⟩, by simp [execOp, hv, hrun], hb0, .ro _ _ _ _ _ ?_⟩
  rcases Nat.eq_zero_or_pos s.length with h0 | h0
  · exact .inl ⟨by rw [byteRows, List.eq_nil_of_length_eq_zero h0]; rfl, some ⟨w.heap.size, 0, none⟩, _, by rw [h0], fun h => by cases h⟩
  · refine .inr ⟨w.heap.size, 0, grownCap w s.length 0 e, fun i _ => .int .u8 (s.getD i 0).toNat, by simp [byteRows], ⟨fun h => absurd (Mut.lt (C := C) (σ := σ) hh h) (Nat.lt_irrefl _), fun _ => hh.chg.size⟩, by simpa [byteRows] using h0, Nat.one_pos, by simpa [byteRows] using grownCap_ge w s.length 0 e, fun i hi j hj => ?_, fun i hi => by simp [byteRows], fun i hi j hj => ?_⟩
    · have hj0 : j = 0 := by omega
      subst hj0
      have hi' : i < s.length := by simpa [byteRows] using hi
      have := Lib.bytesWorld_cell w e ⟨s.toArray⟩ i (by rw [hsz]; exact hi')
      simpa using this
    · have hi' : i < s.length := by simpa [byteRows] using hi
      have hj0 : j = 0 := by simp [byteRows] at hj; omega
      subst hj0
      simp only [byteRows, List.getElem_map]
      rw [List.getD_eq_getElem?_getD, List.getElem?_eq_getElem hi']
      exact .int _ _
theorem q_eqsn {e : TypeId} (hx : σ.ev x = .nils) (ht : C.P.underlying t = some (.slice e)) : Qd C ⟨d, .binOp .eql t x (.const (.slice none 0 0)) ty2, ty, pos, af, g⟩ σ (.bool true) := qd_of fun γ a w hh he => by
  have e1 := he x (by simp [Op.operands])
  rw [hx] at e1
  have hv := e1.nils_inv
  have hr := run_equal_slice_nil (P := C.P) w t e none 0 0 ht
  exact ⟨.bool true, w, by simp [execOp, hv, show a.eval (.const (.slice none 0 0)) = .slice none 0 0 from rfl, eqGuard_at_slice, binOp, hr], ext_refl w, .bool _ _⟩
theorem q_nesn {e : TypeId} (hx : σ.ev x = .nils) (ht : C.P.underlying t = some (.slice e)) : Qd C ⟨d, .binOp .neq t x (.const (.slice none 0 0)) ty2, ty, pos, af, g⟩ σ (.bool false) := qd_of fun γ a w hh he => by
  have e1 := he x (by simp [Op.operands])
  rw [hx] at e1
  have hv := e1.nils_inv
  have hr := run_equal_slice_nil (P := C.P) w t e none 0 0 ht
  exact ⟨.bool false, w, by simp [execOp, hv, show a.eval (.const (.slice none 0 0)) = .slice none 0 0 from rfl, eqGuard_at_slice, binOp, hr], ext_refl w, .bool _ _⟩
theorem ro_some {w : World} {ok : Nat → Prop} {sz : Nat} {rows : List (List AV)} {v : Value} (h : RowsAt w ok sz rows v) (hne : 0 < rows.length) : ∃ ad c, v = .slice (some ad) rows.length c := by
  rcases h with ⟨h, _⟩ | ⟨b, o, cap, cs, hv, _⟩
  · rw [h] at hne; exact absurd hne (Nat.lt_irrefl _)
  · exact ⟨_, _, hv⟩
theorem q_eqsr {e sz : Nat} {fr : Bool} {rows : List (List AV)} (hx : σ.ev x = .ro fr sz rows) (ht : C.P.underlying t = some (.slice e)) (hne : 0 < rows.length) : Qd C ⟨d, .binOp .eql t x (.const (.slice none 0 0)) ty2, ty, pos, af, g⟩ σ (.bool false) := qd_of fun γ a w hh he => by
  have e1 := he x (by simp [Op.operands])
  rw [hx] at e1
  obtain ⟨ad, c, hv⟩ := ro_some e1.ro_inv hne
  have hr := run_equal_slice_nil (P := C.P) w t e (some ad) rows.length c ht
  exact ⟨.bool false, w, by simp [execOp, hv, show a.eval (.const (.slice none 0 0)) = .slice none 0 0 from rfl, eqGuard_at_slice, binOp, hr], ext_refl w, .bool _ _⟩
theorem q_nesr {e sz : Nat} {fr : Bool} {rows : List (List AV)} (hx : σ.ev x = .ro fr sz rows) (ht : C.P.underlying t = some (.slice e)) (hne : 0 < rows.length) : Qd C ⟨d, .binOp .neq t x (.const (.slice none 0 0)) ty2, ty, pos, af, g⟩ σ (.bool true) := qd_of fun γ a w hh he => by
  have e1 := he x (by simp [Op.operands])
  rw [hx] at e1
  obtain ⟨ad, c, hv⟩ := ro_some e1.ro_inv hne
  have hr := run_equal_slice_nil (P := C.P) w t e (some ad) rows.length c ht
  exact ⟨.bool true, w, by simp [execOp, hv, show a.eval (.const (.slice none 0 0)) = .slice none 0 0 from rfl, eqGuard_at_slice, binOp, hr], ext_refl w, .bool _ _⟩
theorem q_slsl_lo {e e' sz id : Nat} {rows : List (List AV)} {l : Nat} (hx : σ.ev x = .sl id) (ho : σ.heap id = some (.rows e' sz rows)) (hy : σ.ev y = .int k m) (hm : m = (l : Int)) (ht : C.P.underlying t = some (.slice e)) (hs : sizeB C.P e sz = true) (h1 : l < rows.length) :
    Qd C ⟨d, .slice t x (some y) none none, ty, pos, af, g⟩ σ (.sub id sz l (rows.length - l)) := qd_of fun γ a w hh he => by
  have e1 := he x (by simp [Op.operands])
  have e2 := he y (by simp [Op.operands])
  rw [hx] at e1; rw [hy] at e2
  have e2 := e2.int_inv
  subst hm
  have e1 := e1.sl_inv
  obtain ⟨u, cs, hg, hown, hs', hl, hr⟩ := hh.obj id _ ho
  obtain ⟨hcl, h2⟩ := hown
  have hsz := sizeB_spec hs
  rcases h2 with ⟨rfl, h0'⟩ | ⟨b, cap, cur, rfl, _, hh', hnc, _, hcs, htk⟩
  · omega
  · have hev : a.eval x = .slice (some ⟨b, 0, none⟩) rows.length cap := by rw [e1, hg]
    have hsl : sliced (some ⟨b, 0, none⟩) l rows.length cap sz = .slice (some ⟨b, l * sz, none⟩) (rows.length - l) (cap - l) := by
      unfold sliced
      rw [if_neg (by omega)]
      simp [Addr.add_lit]
    refine ⟨.slice (some ⟨b, l * sz, none⟩) (rows.length - l) (cap - l), w, ?_, ext_refl w, ?_⟩
    · simp only [execOp, hev, e2, Option.map_some, Option.map_none, Sem.run_bind, run_sliceAt_slice w t _ _ _ _ (elem_of ht), run_slice_l w t (some ⟨b, 0, none⟩) rows.length cap (elem_of ht) k (l : Int) (by omega) (by omega), elem_eq ht, hsz w, Result.andThen_ok, Sem.run_pure, Int.toNat_natCast, hsl]
    · exact .sub _ _ _ _ _ b rows.length cap (by rw [hg]) (by omega) hnc
end
section
variable {C : Cx} {σ : St} {ty : TypeId} {pos : String} {af : Array Edge} {g : Option (Nat × Bool)} {x y : Operand} {t : TypeId} {d : Nat}
theorem take_madeCells (z : Value) (n c : Nat) (h : n ≤ c) : (madeCells #[z] c).toList.take n = List.replicate n z := by
  apply List.ext_getElem?
  intro i
  rw [List.getElem?_take, List.getElem?_replicate]
  by_cases hi : i < n
  · rw [if_pos hi, if_pos hi]
    simp [madeCells, show i < c by omega, Nat.mod_one]
  · rw [if_neg hi, if_neg hi]
theorem w_mk (id : Nat) {e : TypeId} {u : AV} {n c : Nat} {mn mc : Int} {kl kc : IntKind} (hx : σ.ev x = .int kl mn) (hy : σ.ev y = .int kc mc) (hmn : mn = (n : Int)) (hmc : mc = (c : Int)) (ht : C.P.underlying t = some (.slice e)) (he : elemB C.P e 1 = true) (hz : zeroL C.P e = some [u]) (hu : u.flat = true)
    (hnc : n ≤ c) (hc : c ≤ 100000000000) (hd : Nat.blt d C.n = true) (hpin : C.pin id = none) :
    Wr C ⟨some d, .makeSlice t x y, ty, pos, af, g⟩ σ (((σ.kill id).set id (some (.rows e 1 (List.replicate n [u])))).put d (.sl id)) := wr_of fun γ a w s => by
  subst hmn; subst hmc
  have e1 := s.ev x
  have e2 := s.ev y
  rw [hx] at e1; rw [hy] at e2
  have e1 := e1.int_inv
  have e2 := e2.int_inv
  obtain ⟨it, z, hi, hz0, hzc⟩ := zeroL_spec hz
  obtain ⟨it', z', hi', hz', hsz, hby, hzs⟩ := elemB_spec he
  rw [hi] at hi'; cases hi'
  rw [hz0] at hz'; cases hz'
  obtain ⟨z1, hz1⟩ : ∃ z1, z.cells = #[z1] := by
    match hq : z.cells, hzs with
    | ⟨[q]⟩, _ => exact ⟨q, rfl⟩
  have hu1 : FRep u z1 := by
    rw [hz1] at hzc
    simp only [List.map_cons, List.map_nil, List.cons.injEq, and_true] at hzc
    have := ofConst_rep (w := w) (N := 0) (M := fun _ => False) (γ := g0) z1
    rw [hzc] at this
    exact this.flat hu
  have hrun := run_make (P := C.P) w t e it z ht hi hz0 kl kc n c (by omega) (by omega) (by
    have : it.bytes * c ≤ 1024 * 100000000000 := Nat.mul_le_mul hby hc
    have h2 : ((it.bytes * c : Nat) : Int) ≤ ((1024 * 100000000000 : Nat) : Int) := by exact_mod_cast this
    rw [Int.natCast_mul] at h2
    omega) (by omega)
  rw [hsz, Nat.mul_one, Int.toNat_natCast, Int.toNat_natCast, hz1] at hrun
  refine ⟨.value (.slice (some ⟨w.heap.size, 0, none⟩) n c), w.alloc (.cells (madeCells #[z1] c) e), by simp [execOp, e1, e2, hrun], .inl ⟨_, rfl, upd γ id (.slice (some ⟨w.heap.size, 0, none⟩) n c, undef), ?_⟩⟩
  have hex : Ext w (w.alloc (.cells (madeCells #[z1] c) e)) := (Below.refl _ w).alloc (Nat.le_refl _) _
  have s' := s.renew (w' := w.alloc (.cells (madeCells #[z1] c) e)) none id (.slice (some ⟨w.heap.size, 0, none⟩) n c, undef) (.rows e 1 (List.replicate n [u])) hpin (fun i h => by cases h) rfl rfl rfl (by simp) (fun b hb _ => hex.block b hb) (fun b hb => by
    unfold Blk at hb
    rw [upd_same] at hb
    rcases hb with hb | hb
    · simp [vblock] at hb; subst hb; exact ⟨by simp, .inl (Nat.le_refl _)⟩
    · cases hb) (fun b _ h => by cases h) (fun M' hM' => by
    refine ⟨.slice (some ⟨w.heap.size, 0, none⟩) n c, List.replicate n z1, by rw [upd_same], ⟨by simp, .inr ⟨w.heap.size, c, madeCells #[z1] c, by simp, Nat.zero_le _, heap_alloc_new w _, by simpa using hnc, by unfold maxLen; omega, by rw [size_madeCells, Nat.mul_one], by rw [List.length_replicate, Nat.mul_one]; exact take_madeCells z1 n c hnc⟩⟩, Nat.one_pos, fun i hi => by simp, fun i hi j hj => ?_⟩
    have hi' : i < n := by simpa using hi
    have hj0 : j = 0 := by simp at hj; exact hj
    subst hj0
    refine ⟨z1, by simp [hi'], ?_⟩
    simp only [List.getElem_replicate, List.getElem_cons_zero]
    exact hu1)
  refine s'.put (some d) (fun k hk => by cases hk; exact blt_lt hd) ?_
  have := Rep.sl (w := w.alloc (.cells (madeCells #[z1] c) e)) (N := C.N) (M := Mut (upd γ id (.slice (some ⟨w.heap.size, 0, none⟩) n c, undef)) ((σ.kill id).set id (some (.rows e 1 (List.replicate n [u])))).heap) (fun i => (upd γ id (.slice (some ⟨w.heap.size, 0, none⟩) n c, undef) i).1) id
  simp only [upd_same] at this
  exact this
theorem w_copy {e e' : TypeId} {id off m : Nat} {fr : Bool} {rows rows2 rows' : List (List AV)} {dT sT : TypeId} (hx : σ.ev x = .sub id 1 off m) (ho : σ.heap id = some (.rows e' 1 rows)) (hy : σ.ev y = .ro fr 1 rows2) (hne : 0 < rows2.length) (hfit : rows2.length ≤ m) (hm : off + m ≤ rows.length)
    (hf : (rows2.all fun r => r.all AV.flat) = true) (ht : C.P.underlying dT = some (.slice e)) (hs : sizeB C.P e 1 = true) (hr' : rows.take off ++ rows2 ++ rows.drop (off + rows2.length) = rows') (hd : Nat.blt d C.n = true) :
    Wr C ⟨some d, .call { callee := .builtin .copy, args := #[x, y], argTypes := #[dT, sT] }, ty, pos, af, g⟩ σ ((σ.set id (some (.rows e' 1 rows'))).put d (.int .i64 rows2.length)) := wr_of fun γ a w s => by
  have e1 := s.ev x
  have e2 := s.ev y
  rw [hx] at e1; rw [hy] at e2
  obtain ⟨b, len, cap0, hb, hoff, hcap0, hev⟩ := e1.sub_inv
  rcases e2.ro_inv with ⟨h, _⟩ | ⟨b2, o2, cap2, cs2, hyv, hok, h0, _, hcap2, hc2, hl2, hr2⟩
  · rw [h] at hne; exact absurd hne (Nat.lt_irrefl _)
  obtain ⟨v, cs, hgg, ⟨hcl, hown⟩, _, hl, hr⟩ := s.obj id _ ho
  rcases hown with ⟨rfl, hz⟩ | ⟨b', cap, cur, rfl, _, hh, hnc, hcm, hcs, htk⟩
  · rw [hgg] at hb; cases hb
  have hb' : b' = b ∧ rows.length = len := by rw [hgg] at hb; cases hb; exact ⟨rfl, rfl⟩
  obtain ⟨rfl, rfl⟩ := hb'
  rw [Nat.mul_one] at hev hcs hcl htk
  let news : List Value := (List.range rows2.length).map (fun i => cs2 i 0)
  have hnl : news.length = rows2.length := by simp [news]
  have hnews : ∀ j v, news[j]? = some v → w.cell? ((⟨b2, o2, none⟩ : Addr).add j) = some v := by
    intro j v hj
    have hj' : j < rows2.length := by have := (List.getElem?_eq_some_iff.1 hj).1; omega
    have hv : v = cs2 j 0 := by simp [news, hj'] at hj; exact hj.symm
    have := hc2 j hj' 0 Nat.one_pos
    rw [Addr.add_lit, hv]
    simpa using this
  have hfr2 : ∀ j (h : j < rows2.length) (h' : 0 < rows2[j].length), FRep rows2[j][0] (cs2 j 0) := fun j h h' => hr2 j h 0 h'
  have hone : ∀ v ∈ news, v.oneCell' = true := by
    intro v hv
    obtain ⟨j, hj, rfl⟩ := List.mem_map.1 hv
    have hj' : j < rows2.length := by simpa using hj
    have h1 : 0 < rows2[j].length := by rw [hl2 j hj']; exact Nat.one_pos
    exact flat_cell (hfr2 j hj' h1) (List.all_eq_true.1 (List.all_eq_true.1 hf _ (List.getElem_mem hj')) _ (List.getElem_mem h1))
  have hsz : (C.P.info? e).map (·.size) = some 1 := by
    unfold sizeB at hs
    cases hi : C.P.info? e with
    | none => rw [hi] at hs; cases hs
    | some i => rw [hi] at hs; exact congrArg some (Nat.eq_of_beq_eq_true hs)
  have hrun := run_copy_row (P := C.P) w dT sT ty e b' off m (cap0 - off) ⟨b2, o2, none⟩ rows2.length cap2 cur e' news ht hsz hh (by rw [hnl]; exact (Nat.min_eq_left hfit).symm) hnews (by rw [hnl, hcs]; omega) hone
  let row' := (cur.toList.take off ++ news ++ cur.toList.drop (off + news.length)).toArray
  obtain ⟨f1, f2, f3, f4⟩ := setRow_facts w b' row'
  have hne' : ∀ k, k ≠ b' → (w.setRow b' row').heap[k]? = w.heap[k]? := fun k hk => setRow_other w b' k _ hk
  refine ⟨.value (goInt news.length), w.setRow b' row', by simp [execOp, resolve, invoke, builtin, hev, hyv, hrun, row'], .inl ⟨_, rfl, γ, ?_⟩⟩
  have hrl : rows'.length = rows.length := by subst hr'; simp; omega
  have hlen1 : ∀ k (hk : k < rows'.length), rows'[k].length = 1 := by
    subst hr'
    have hm2 : ∀ r ∈ rows.take off ++ rows2 ++ rows.drop (off + rows2.length), r.length = 1 := by
      intro r hr
      rcases List.mem_append.1 hr with h | h
      · rcases List.mem_append.1 h with h | h
        · obtain ⟨i, hi, rfl⟩ := List.mem_iff_getElem.1 (List.mem_of_mem_take h); exact hl i hi
        · obtain ⟨i, hi, rfl⟩ := List.mem_iff_getElem.1 h; exact hl2 i hi
      · obtain ⟨i, hi, rfl⟩ := List.mem_iff_getElem.1 (List.mem_of_mem_drop h); exact hl i hi
    exact fun k hk => hm2 _ (List.getElem_mem hk)
  have s' := s.update ho (.rows e' 1 rows') f1 f2 f3 (by omega) (fun k _ hk => hne' k (fun e => hk (.inl (by rw [e, hgg]; rfl)))) (by
    refine ⟨.slice (some ⟨b', 0, none⟩) rows.length cap, cs.take off ++ news ++ cs.drop (off + news.length), hgg, ⟨by simp [hcl]; omega, .inr ⟨b', cap, row', by rw [hrl], Nat.zero_le _, setRow_heap w b' cur _ e' _ hh, by rw [hrl]; exact hnc, hcm, by simp [row', hcs]; omega, ?_⟩⟩, Nat.one_pos, fun k hk => ?_, fun k hk j hj => ?_⟩
    · rw [hrl, Nat.mul_one, ← htk]
      simp only [row']
      apply List.ext_getElem?
      intro k
      rw [List.getElem?_take, splice_get _ _ _ (by simp; omega), splice_get _ _ _ (by simp; omega), List.getElem?_take]
      by_cases hk : k < rows.length
      · rw [if_pos hk, if_pos hk]
      · rw [if_neg hk, if_neg (by omega), if_neg hk]
    · exact hlen1 k hk
    · have hk' : k < rows.length := by omega
      have hj0 : j = 0 := by rw [hlen1 k hk] at hj; omega
      subst hj0
      have hq := splice_get rows rows2 off (by omega) k
      rw [hr', List.getElem?_eq_getElem hk] at hq
      rw [Nat.mul_one, Nat.add_zero, splice_get _ _ _ (by omega), hnl]
      by_cases hc : off ≤ k ∧ k < off + rows2.length
      · rw [if_pos hc] at hq ⊢
        have hi2 : k - off < rows2.length := by omega
        rw [List.getElem?_eq_getElem hi2] at hq
        have hq' := Option.some.inj hq
        have h1 : 0 < rows2[k - off].length := by rw [hl2 _ hi2]; exact Nat.one_pos
        refine ⟨cs2 (k - off) 0, by simp [news, hi2], ?_⟩
        have := hfr2 (k - off) hi2 h1
        simp only [hq']
        exact this
      · rw [if_neg hc] at hq ⊢
        rw [List.getElem?_eq_getElem hk'] at hq
        have hq' := Option.some.inj hq
        have h1 : 0 < rows[k].length := by rw [hl k hk']; exact Nat.one_pos
        obtain ⟨z, hz, hfz⟩ := hr k hk' 0 h1
        refine ⟨z, by simpa using hz, ?_⟩
        simp only [hq']
        exact hfz)
  exact s'.put (some d) (fun k hk => by cases hk; exact blt_lt hd) (by rw [hnl]; exact .int _ _ _)
end
def placeB (P : Program) (t f off : Nat) : Bool := match P.underlying t with
  | some (.struct fs) => (match fs.toList.mapM (fun f => (P.info? f.type).map fun i => (f.offset, i.size)) with
    | some pl => (match pl[f]? with
      | some (o, s) => Nat.beq o off && Nat.beq s 1
      | none => false)
    | none => false)
  | _ => false
theorem fill_at (place : Nat → Option (Nat × Nat)) {i off : Nat} {v : Value} {cells : Array Value} (hp : place i = some (off, 1)) (hv : v.cells = #[v]) (ho : off < cells.size) : Instr.fill place cells [(i, v)] = some (cells.setIfInBounds off v) := by
  have hsz : v.cells.size = 1 := by rw [hv]; rfl
  rw [Instr.fill, hp]
  simp only [hsz]
  simp [Instr.fill, hv, show off + 1 ≤ cells.size by omega, ho]
theorem built_at {P : Program} {t f off : Nat} {it : TypeInfo} {z v : Value} (hi : P.info? t = some it) (hz : it.zero = some z) (hp : placeB P t f off = true) (hv : v.cells = #[v]) (ho : off < z.cells.size) : P.built t [(f, v)] = some (z.cells.setIfInBounds off v) := by
  unfold placeB at hp
  unfold Program.built
  cases hu : P.underlying t with
  | none => rw [hu] at hp; cases hp
  | some d =>
    rw [hu] at hp
    cases d with
    | struct fs =>
      simp only at hp
      simp only [hi, hz]
      cases hm : fs.toList.mapM (fun f => (P.info? f.type).map fun i => (f.offset, i.size)) with
      | none => rw [hm] at hp; cases hp
      | some pl =>
        rw [hm] at hp
        simp only at hp ⊢
        cases hf : pl[f]? with
        | none => rw [hf] at hp; cases hp
        | some os =>
          obtain ⟨o, s⟩ := os
          rw [hf] at hp
          simp only [Bool.and_eq_true] at hp
          obtain ⟨h1, h2⟩ := hp
          have h1 := Nat.eq_of_beq_eq_true h1
          have h2 := Nat.eq_of_beq_eq_true h2
          subst h1; subst h2
          exact fill_at _ (by simpa using hf) hv ho
    | _ => cases hp
section
variable {C : Cx} {σ : St} {d : Option Nat} {x y z : Operand} {t ty ty2 : TypeId} {pos : String} {af : Array Edge} {g : Option (Nat × Bool)}
theorem q_buildf {f off : Nat} {zc : List AV} {u : AV} (hz : zeroL C.P t = some zc) (hp : placeB C.P t f off = true) (hx : σ.ev x = u) (h1 : storable1 σ.heap u = true) (ho : off < zc.length) {res : List AV} (hr : zc.set off u = res) : Qd C ⟨d, .build t #[(f, x)], ty, pos, af, g⟩ σ (.agg res) := qd_of fun γ a w hh he => by
  obtain ⟨it, z, hi, hz0, hzc⟩ := zeroL_spec hz
  have hzs : z.cells.size = zc.length := by rw [← hzc]; simp
  have e1 := he x (by simp [Op.operands])
  rw [hx] at e1
  obtain ⟨c1, c2, c3⟩ := e1.one1 hh h1
  have hb : C.P.built t ((#[(f, x)] : Array (Nat × Operand)).map fun (i, x) => (i, a.eval x)).toList = some (z.cells.setIfInBounds off (a.eval x)) := by
    have := built_at (v := a.eval x) hi hz0 hp c1 (by omega)
    simpa using this
  subst hr
  refine ⟨.agg (z.cells.setIfInBounds off (a.eval x)), w, by simp only [execOp, Sem.run_bind, run_build w t _ _ hb, Result.andThen_ok]; rfl, ext_refl w, ?_⟩
  have := setL_rep (w := w) (N := C.N) (M := Mut γ σ.heap) (γ := fun i => (γ i).1) [(off, u)] [(off, a.eval x)] zc z.cells rfl (fun i hi hx => by
    have hi0 : i = 0 := by simpa using hi
    subst hi0
    exact ⟨rfl, e1⟩) hzs (fun i hi hx => by
    subst hzc
    simp only [List.getElem_map, Array.getElem_toList]
    exact ofConst_rep _)
  exact this
end
end Go.Proofs.YtignjjnflcpiiaaGreatDoor
/- A region that draws its order and has one operation that writes: what must run ahead of it runs in its order; what need not is taken both ways. -/
namespace Go.Proofs.YtignjjnflcpiiaaGreatDoor
open Go.RowKit
def memB (i : Nat) : List Nat → Bool
  | [] => false
  | j :: l => match Nat.beq i j with
    | true => true
    | false => memB i l
def subsl : List Nat → List (List Nat)
  | [] => [[]]
  | f :: F => subsl F ++ (subsl F).map (f :: ·)
def dstsOf (ops : Array Oper) : List Nat → List Nat
  | [] => []
  | i :: R => match (ops[i]?).bind (·.dst) with
    | some d => d :: dstsOf ops R
    | none => dstsOf ops R
def undo (σ σ1 : St) (ds : List Nat) : St := ⟨fun i => match memB i ds with
  | true => σ.env i
  | false => σ1.env i, σ1.heap⟩
def leftOf (R A : List Nat) : List Nat → List Nat
  | [] => []
  | i :: l => match memB i R with
    | true => i :: leftOf R A l
    | false => match memB i A with
      | true => i :: leftOf R A l
      | false => leftOf R A l
def Behind (C : Cx) (wr : Oper → Bool) (ops : Array Oper) (j0 : Nat) (A N : List Nat) (σ σ1 : St) (K : St → Prop) (R : List Nat) : Prop := match ops[j0]? with
  | some o => Steps C wr ops (o :: opsOf ops (leftOf R A N)) (undo σ σ1 (dstsOf ops R)) K
  | none => False
def AllB (T : List Nat → Prop) : List (List Nat) → Prop
  | [] => True
  | R :: l => T R ∧ AllB T l
def okW (ops : Array Oper) (wr : Oper → Bool) (j0 : Nat) (PF F A N : List Nat) : Bool :=
  goesDown ops && (closedB ops (waits ops) && (pairs1 ops wr (waits ops) j0 && (decide (N = List.range ops.size) && (decide (PF = N.filter fun i => !(Nat.beq i j0) && !(waits ops i j0)) && (decide (F = PF.filter fun i => !(waits ops j0 i)) && (decide (A = N.filter fun i => waits ops i j0) &&
    (F.all fun f => PF.all fun i => Nat.beq i f || match (ops[f]?).bind (·.dst), (ops[i]?).bind (·.dst) with
      | some d, some e => !(Nat.beq d e)
      | _, _ => true)))))))  && (N.all fun j => N.all fun i => Nat.blt i j || !(waits ops j i))
section
variable {C : Cx} {wr : Oper → Bool} {ops : Array Oper} {σ : St} {K : St → Prop}
theorem memB_iff {i : Nat} : ∀ {l : List Nat}, memB i l = true ↔ i ∈ l
  | [] => by simp [memB]
  | j :: l => by
    rw [memB]
    cases h : Nat.beq i j with
    | true => simp [Nat.eq_of_beq_eq_true h]
    | false =>
      have hne : i ≠ j := fun e => by rw [e, Nat.beq_refl] at h; cases h
      simp [memB_iff (l := l), hne]
theorem leftOf_mem {R A : List Nat} {i : Nat} : ∀ {N : List Nat}, i ∈ leftOf R A N ↔ i ∈ N ∧ (i ∈ R ∨ i ∈ A)
  | [] => by simp [leftOf]
  | j :: N => by
    have ih := leftOf_mem (R := R) (A := A) (i := i) (N := N)
    rw [leftOf]
    split
    · rename_i h
      have h := memB_iff.1 h
      rw [List.mem_cons, ih, List.mem_cons]
      constructor
      · rintro (rfl | ⟨h1, h2⟩)
        · exact ⟨.inl rfl, .inl h⟩
        · exact ⟨.inr h1, h2⟩
      · rintro ⟨rfl | h1, h2⟩
        · exact .inl rfl
        · exact .inr ⟨h1, h2⟩
    · rename_i h
      have h : j ∉ R := fun e => by rw [memB_iff.2 e] at h; cases h
      split
      · rename_i h3
        have h3 := memB_iff.1 h3
        rw [List.mem_cons, ih, List.mem_cons]
        constructor
        · rintro (rfl | ⟨h1, h2⟩)
          · exact ⟨.inl rfl, .inr h3⟩
          · exact ⟨.inr h1, h2⟩
        · rintro ⟨rfl | h1, h2⟩
          · exact .inl rfl
          · exact .inr ⟨h1, h2⟩
      · rename_i h3
        have h3 : j ∉ A := fun e => by rw [memB_iff.2 e] at h3; cases h3
        rw [ih, List.mem_cons]
        constructor
        · rintro ⟨h1, h2⟩; exact ⟨.inr h1, h2⟩
        · rintro ⟨rfl | h1, h2⟩
          · exact absurd h2 (fun e => e.elim h h3)
          · exact ⟨h1, h2⟩
theorem leftOf_sub (R A : List Nat) : ∀ N : List Nat, (leftOf R A N).Sublist N
  | [] => List.Sublist.refl _
  | j :: N => by
    rw [leftOf]
    split
    · exact (leftOf_sub R A N).cons_cons j
    · split
      · exact (leftOf_sub R A N).cons_cons j
      · exact (leftOf_sub R A N).cons j
theorem sorted_ext : ∀ {l m : List Nat}, l.Pairwise (· < ·) → m.Pairwise (· < ·) → (∀ i, i ∈ l ↔ i ∈ m) → l = m
  | [], [], _, _, _ => rfl
  | [], b :: m, _, _, h => absurd ((h b).2 List.mem_cons_self) (by simp)
  | a :: l, [], _, _, h => absurd ((h a).1 List.mem_cons_self) (by simp)
  | a :: l, b :: m, h1, h2, h => by
    rw [List.pairwise_cons] at h1 h2
    have hab : a = b := by
      have ha := (h a).1 List.mem_cons_self
      have hb := (h b).2 List.mem_cons_self
      rcases List.mem_cons.1 ha with e | ha
      · exact e
      · rcases List.mem_cons.1 hb with e | hb
        · exact e.symm
        · have := h2.1 a ha; have := h1.1 b hb; omega
    subst hab
    rw [sorted_ext h1.2 h2.2 (fun i => ?_)]
    constructor
    · intro hi
      rcases List.mem_cons.1 ((h i).1 (List.mem_cons_of_mem _ hi)) with rfl | hm
      · have := h1.1 i hi; omega
      · exact hm
    · intro hi
      rcases List.mem_cons.1 ((h i).2 (List.mem_cons_of_mem _ hi)) with rfl | hm
      · have := h2.1 i hi; omega
      · exact hm
theorem subsl_filter (p : Nat → Bool) : ∀ F : List Nat, F.filter p ∈ subsl F
  | [] => List.mem_singleton.2 rfl
  | f :: F => by
    rw [subsl, List.mem_append]
    cases h : p f with
    | true => rw [List.filter_cons_of_pos h]; exact .inr (List.mem_map.2 ⟨_, subsl_filter p F, rfl⟩)
    | false => rw [List.filter_cons_of_neg (by rw [h]; exact Bool.false_ne_true)]; exact .inl (subsl_filter p F)
theorem allB_mem {T : List Nat → Prop} {R : List Nat} : ∀ {l : List (List Nat)}, AllB T l → R ∈ l → T R
  | _ :: l, h, hm => by
    rcases List.mem_cons.1 hm with rfl | hm
    · exact h.1
    · exact allB_mem h.2 hm
theorem stepsI_end {R : List Nat} (hq : ∀ i o, ops[i]? = some o → i ∈ R → wr o = false) : ∀ {τ : St}, StepsI C wr ops R τ K → ∃ σ1, K σ1 ∧ σ1.heap = τ.heap ∧ ∀ i, i ∉ dstsOf ops R → σ1.env i = τ.env i := by
  induction R with
  | nil => exact fun h => ⟨_, h, rfl, fun _ _ => rfl⟩
  | cons j R ih =>
    intro τ h
    unfold StepsI at h
    have ih := fun {τ : St} => ih (fun i o ho hi => hq i o ho (List.mem_cons_of_mem _ hi)) (τ := τ)
    cases ho : ops[j]? with
    | none =>
      rw [ho] at h
      obtain ⟨σ1, h1, h2, h3⟩ := ih h
      exact ⟨σ1, h1, h2, fun i hi => h3 i (by rw [dstsOf, ho] at hi; exact hi)⟩
    | some o =>
      rw [ho] at h
      obtain ⟨v, _, h⟩ := (step1_out (hq j o ho List.mem_cons_self)).1 h
      obtain ⟨σ1, h1, h2, h3⟩ := ih h
      refine ⟨σ1, h1, h2.trans (puto_heap _ _ _), fun i hi => ?_⟩
      rw [dstsOf, ho] at hi
      cases hd : o.dst with
      | none =>
        rw [Option.bind_some, hd] at hi
        rw [h3 i hi, hd]; rfl
      | some d =>
        rw [Option.bind_some, hd] at hi
        rw [h3 i (fun e => hi (List.mem_cons_of_mem _ e)), puto_env _ _ _ _ (by rw [hd]; rintro ⟨rfl⟩; exact hi List.mem_cons_self)]
theorem dstsOf_mem {R : List Nat} {d : Nat} (h : d ∈ dstsOf ops R) : ∃ f ∈ R, (ops[f]?).bind (·.dst) = some d := by
  induction R with
  | nil => cases h
  | cons j R ih =>
    rw [dstsOf] at h
    split at h
    · rename_i e hd
      rcases List.mem_cons.1 h with rfl | h
      · exact ⟨j, List.mem_cons_self, hd⟩
      · obtain ⟨f, h1, h2⟩ := ih h; exact ⟨f, List.mem_cons_of_mem _ h1, h2⟩
    · obtain ⟨f, h1, h2⟩ := ih h; exact ⟨f, List.mem_cons_of_mem _ h1, h2⟩
theorem getD_tf {l : Array Bool} {i : Nat} (h : l.getD i true = false) : l.getD i false = false := by
  rw [Array.getD_eq_getD_getElem?] at h ⊢
  cases hx : l[i]? with
  | none => rfl
  | some b => rw [hx] at h; exact h
theorem tri_drawW {id : Nat} {l : List Oper} {Q : Exit → St → Prop} (wr : Oper → Bool) (j0 : Nat) (PF F A N : List Nat) (hj0 : Nat.blt j0 l.length = true) (hok : okW l.toArray wr j0 PF F A N = true) (hqs : (PF.all fun i => match l.toArray[i]? with
      | some o => !wr o
      | none => true) = true) (hn : dstsOk C.n l = true)
    (h : Steps C wr l.toArray (opsOf l.toArray PF) σ (fun σ1 => AllB (Behind C wr l.toArray j0 A N σ σ1 (Q .normal)) (subsl F))) : Tri C (.region id l.toArray true) σ Q := by
  have hj0 := blt_lt hj0
  simp only [okW, Bool.and_eq_true, decide_eq_true_eq] at hok
  obtain ⟨⟨hgd, hcl, hpr, hN, hPF, hF, hA, hFd⟩, hUp⟩ := hok
  have hquiet : ∀ i o, l.toArray[i]? = some o → i ∈ PF → wr o = false := fun i o ho hi => by
    have := List.all_eq_true.1 hqs i hi
    rw [ho] at this
    simpa using this
  have hNmem : ∀ i, i ∈ N ↔ i < l.toArray.size := fun i => by rw [hN, List.mem_range]
  have hup : ∀ j i, j < l.toArray.size → i < l.toArray.size → j ≤ i → waits l.toArray j i = false := fun j i h1 h2 h3 => by
    have a1 := List.all_eq_true.1 hUp j ((hNmem j).2 h1)
    have a2 := List.all_eq_true.1 a1 i ((hNmem i).2 h2)
    rw [Bool.or_eq_true] at a2
    rcases a2 with a2 | a2
    · have := blt_lt a2; omega
    · simpa using a2
  have hPFmem : ∀ i, i ∈ PF ↔ i < l.toArray.size ∧ i ≠ j0 ∧ waits l.toArray i j0 = false := fun i => by
    rw [hPF, List.mem_filter, hNmem]
    simp only [Bool.and_eq_true, Bool.not_eq_true']
    exact ⟨fun ⟨a, b, c⟩ => ⟨a, (fun e => by rw [e, Nat.beq_refl] at b; cases b), c⟩, fun ⟨a, b, c⟩ => ⟨a, beq_ne b, c⟩⟩
  have hFmem : ∀ i, i ∈ F ↔ i ∈ PF ∧ waits l.toArray j0 i = false := fun i => by
    rw [hF, List.mem_filter]; simp
  have hAmem : ∀ i, i ∈ A ↔ i < l.toArray.size ∧ waits l.toArray i j0 = true := fun i => by
    rw [hA, List.mem_filter, hNmem]
  have hNp : N.Pairwise (· < ·) := by rw [hN]; exact List.pairwise_lt_range
  have hPFp : PF.Pairwise (· < ·) := by rw [hPF]; exact hNp.sublist List.filter_sublist
  intro γ a w s
  refine wp_region_any C.mixed ?_
  have s' : SR C γ σ a w.drew := s.ext (Below.refl _ w).drew
  refine wpAny_inv (fun listed a w => ∃ γ τ, SR C γ τ a w ∧ Down l.toArray listed ∧
    ((listed.getD j0 true = false ∧ ∃ R, R.Pairwise (· < ·) ∧ (∀ i, i ∈ R ↔ i ∈ PF ∧ listed.getD i true = false) ∧ StepsI C wr l.toArray R τ (fun σ1 => AllB (Behind C wr l.toArray j0 A N σ σ1 (Q .normal)) (subsl F)) ∧ ∀ f ∈ F, listed.getD f true = false → ∀ d, (l.toArray[f]?).bind (·.dst) = some d → τ.env d = σ.env d) ∨
     (listed.getD j0 true = true ∧ ∃ R, R.Pairwise (· < ·) ∧ (∀ i, i ∈ R ↔ listed.getD i true = false) ∧ StepsI C wr l.toArray R τ (Q .normal))))
    (fun listed j oj a w hs hoj hj hall hI => ?step) (fun listed a w hs hr hI => ?fin) _ _ a w.drew (by simp) (Nat.le_trans (List.length_filter_le _ _) (by simp)) ?start
  case step =>
    obtain ⟨γ, τ, r, hd, hT⟩ := hI
    have hjs : j < l.toArray.size := (Array.getElem?_eq_some_iff.1 hoj).1
    have hlt : j < listed.size := by omega
    have hset : ∀ i, (listed.setIfInBounds j true).getD i true = false ↔ i ≠ j ∧ listed.getD i true = false := fun i => by
      by_cases hij : i = j
      · subst hij; simp [hlt]
      · rw [getD_set_ne true (Ne.symm hij)]; simp [hij]
    have hd' : Down l.toArray (listed.setIfInBounds j true) := fun k' o' hk hks ho' e he hb => by
      by_cases hkj : k' = j
      · subst hkj
        rw [hoj] at ho'
        cases ho'
        exact getD_set_true (hall e he hb)
      · rw [getD_set_ne true (Ne.symm hkj)] at hk
        exact getD_set_true (hd k' o' hk hks ho' e he hb)
    have hpast : ∀ i, i < j → listed.getD i true = false → waits l.toArray j i = false := fun i hij hi => by
      cases hB : waits l.toArray j i with
      | false => rfl
      | true =>
        have h1 := listed_of_waits hcl hs hd j oj hoj hall i hij hB
        rw [getD_tf hi] at h1
        cases h1
    rcases hT with ⟨hl0, R, hp, hR, ht, hfr⟩ | ⟨hl0, R, hp, hR, ht⟩
    · by_cases hjj : j = j0
      · subst hjj
        -- the writing operation comes up
        have hRF : ∀ i, i ∈ R → i ∈ F := fun i hi => by
          obtain ⟨h1, h2⟩ := (hR i).1 hi
          refine (hFmem i).2 ⟨h1, ?_⟩
          cases hB : waits l.toArray j i with
          | false => rfl
          | true =>
            exfalso
            have hij : i < j := Nat.lt_of_not_le fun hge => by
              have hne := ((hPFmem i).1 h1).2.1
              have hgt : j < i := by omega
              -- what is waited for stands ahead
              exact absurd hB (by
                rw [hup j i hjs ((hPFmem i).1 h1).1 (Nat.le_of_lt hgt)]
                exact Bool.false_ne_true)
            rw [hpast i hij h2] at hB
            cases hB
        have hRf : R = F.filter (fun i => !(listed.getD i true)) := sorted_ext hp (by rw [hF]; exact (hPFp.sublist List.filter_sublist).sublist List.filter_sublist) (fun i => by
          rw [hR, List.mem_filter, hFmem]
          constructor
          · rintro ⟨h1, h2⟩
            exact ⟨⟨h1, ((hFmem i).1 (hRF i ((hR i).2 ⟨h1, h2⟩))).2⟩, by rw [h2]; rfl⟩
          · rintro ⟨⟨h1, _⟩, h2⟩
            exact ⟨h1, by simpa using h2⟩)
        obtain ⟨σ1, k1, k2, k3⟩ := stepsI_end (fun i o ho hi => hquiet i o ho ((hR i).1 hi).1) ht
        have hB := allB_mem k1 (by rw [hRf]; exact subsl_filter _ F : R ∈ subsl F)
        unfold Behind at hB
        rw [hoj] at hB
        have hun : undo σ σ1 (dstsOf l.toArray R) = τ := by
          have he : (undo σ σ1 (dstsOf l.toArray R)).env = τ.env := by
            funext i
            show (match memB i (dstsOf l.toArray R) with
              | true => σ.env i
              | false => σ1.env i) = τ.env i
            cases hm : memB i (dstsOf l.toArray R) with
            | true =>
              obtain ⟨f, f1, f2⟩ := dstsOf_mem (memB_iff.1 hm)
              exact (hfr f (hRF f f1) ((hR f).1 f1).2 i f2).symm
            | false => exact k3 i (fun e => by rw [memB_iff.2 e] at hm; cases hm)
          show St.mk (undo σ σ1 (dstsOf l.toArray R)).env σ1.heap = St.mk τ.env τ.heap
          rw [he, k2]
        rw [hun] at hB
        refine Step1.wpOp hoj hB (dstsOk_spec hn j oj hoj) r (fun γ σ a w s k => ?_)
        refine ⟨γ, σ, s, hd', .inr ⟨?_, leftOf R A N, hNp.sublist (leftOf_sub R A N), fun i => ?_, stepsI_opsOf _ _ k⟩⟩
        · cases hx : (listed.setIfInBounds j true).getD j true with
          | true => rfl
          | false => exact absurd rfl ((hset j).1 hx).1
        · rw [leftOf_mem, hset, hNmem]
          constructor
          · rintro ⟨h1, h2 | h2⟩
            · obtain ⟨h3, h4⟩ := (hR i).1 h2
              exact ⟨((hPFmem i).1 h3).2.1, h4⟩
            · obtain ⟨h3, h4⟩ := (hAmem i).1 h2
              have hji : j < i := Nat.lt_of_not_le fun hge => by
                rw [hup i j h3 hjs hge] at h4; cases h4
              refine ⟨by omega, ?_⟩
              cases hx : listed.getD i true with
              | false => rfl
              | true =>
                exfalso
                have hio : l.toArray[i]? = some l.toArray[i] := Array.getElem?_eq_getElem h3
                have := listed_of_waits hcl hs hd i _ hio (fun e he hb => hd i _ hx h3 hio e he hb) j hji h4
                rw [getD_tf hl0] at this
                cases this
          · rintro ⟨h1, h2⟩
            have hil : i < l.toArray.size := by
              rw [← hs]
              rcases Nat.lt_or_ge i listed.size with h | h
              · exact h
              · rw [Array.getD_eq_getD_getElem?, Array.getElem?_eq_none h] at h2; cases h2
            refine ⟨hil, ?_⟩
            cases hw : waits l.toArray i j with
            | true => exact .inr ((hAmem i).2 ⟨hil, hw⟩)
            | false => exact .inl ((hR i).2 ⟨(hPFmem i).2 ⟨hil, h1, hw⟩, h2⟩)
      · have hjPF : j ∈ PF := (hPFmem j).2 ⟨hjs, hjj, by
          cases hB : waits l.toArray j j0 with
          | false => rfl
          | true =>
            exfalso
            have hlt0 : j0 < j := Nat.lt_of_not_le fun hge => by
              rw [hup j j0 hjs (by simpa using hj0) hge] at hB; cases hB
            rw [hpast j0 hlt0 hl0] at hB
            cases hB⟩
        have hjR : j ∈ R := (hR j).2 ⟨hjPF, hj⟩
        have hpull := stepsI_pull hoj R τ hp hjR (fun i oi hi hij hoi => pairs1_spec hpr hoi hoj hij ((hPFmem i).1 ((hR i).1 hi).1).2.1 hjj (hpast i hij ((hR i).1 hi).2)) ht
        have hnd : R.Nodup := hp.imp (fun h => Nat.ne_of_lt h)
        obtain ⟨v, hv, hpull⟩ := (step1_out (hquiet j oj hoj hjPF)).1 hpull
        refine Step1.wpOp hoj ((step1_out (hquiet j oj hoj hjPF)).2 ⟨v, hv, (⟨rfl, hpull⟩ : τ.puto oj.dst v = τ.puto oj.dst v ∧ _)⟩ : Step1 C wr l.toArray oj τ (fun σ' => σ' = τ.puto oj.dst v ∧ StepsI C wr l.toArray (R.erase j) σ' _)) (dstsOk_spec hn j oj hoj) r (fun γ σ2 a w s k => ?_)
        obtain ⟨e2, k⟩ := k
        refine ⟨γ, σ2, s, hd', .inl ⟨(hset j0).2 ⟨fun e => hjj e.symm, hl0⟩, R.erase j, hp.sublist List.erase_sublist, fun i => ?_, k, fun f hf hlf d hd2 => ?_⟩⟩
        · rw [List.Nodup.mem_erase_iff hnd, hR, hset]
          exact ⟨fun ⟨h1, h2, h3⟩ => ⟨h2, h1, h3⟩, fun ⟨h2, h1, h3⟩ => ⟨h1, h2, h3⟩⟩
        · obtain ⟨hfj, hlf⟩ := (hset f).1 hlf
          rw [e2, puto_env _ _ _ _ ?_]
          · exact hfr f hf hlf d hd2
          · intro e
            have h1 := List.all_eq_true.1 hFd f hf
            have h2 := List.all_eq_true.1 h1 j hjPF
            rw [beq_ne (Ne.symm hfj), hd2, hoj] at h2
            simp only [Option.bind_some] at h2
            rw [e] at h2
            simp [Nat.beq_refl] at h2
    · have hjR : j ∈ R := (hR j).2 hj
      have hjj : j ≠ j0 := fun e => by rw [e, hl0] at hj; cases hj
      have hpull := stepsI_pull hoj R τ hp hjR (fun i oi hi hij hoi => pairs1_spec hpr hoi hoj hij (fun e => by have := (hR i).1 hi; rw [e, hl0] at this; cases this) hjj (hpast i hij ((hR i).1 hi))) ht
      have hnd : R.Nodup := hp.imp (fun h => Nat.ne_of_lt h)
      refine Step1.wpOp hoj hpull (dstsOk_spec hn j oj hoj) r (fun γ σ a w s k => ?_)
      refine ⟨γ, σ, s, hd', .inr ⟨?_, R.erase j, hp.sublist List.erase_sublist, fun i => ?_, k⟩⟩
      · rw [getD_set_ne true hjj]; exact hl0
      · rw [List.Nodup.mem_erase_iff hnd, hR, hset]
  case fin =>
    obtain ⟨γ, τ, r, hd, hT⟩ := hI
    have hall := ready_nil hgd hs hr
    rcases hT with ⟨hl0, _⟩ | ⟨_, R, _, hR, ht⟩
    · rw [hall j0] at hl0; cases hl0
    · have : R = [] := by
        cases R with
        | nil => rfl
        | cons i R => have := (hR i).1 List.mem_cons_self; rw [hall i] at this; cases this
      subst this
      exact ⟨γ, τ, ht, r⟩
  case start =>
    have hrep : ∀ i, (Array.replicate l.toArray.size false).getD i true = false ↔ i < l.toArray.size := fun i => by
      rw [Array.getD_eq_getD_getElem?, Array.getElem?_replicate]
      by_cases hi : i < l.toArray.size
      · rw [if_pos hi]; exact ⟨fun _ => hi, fun _ => rfl⟩
      · rw [if_neg hi]; exact ⟨fun h => (by cases h), fun h => absurd h hi⟩
    refine ⟨γ, σ, s', fun k o hk hks => ?_, .inl ⟨(hrep j0).2 (by simpa using hj0), PF, hPFp, fun i => ?_, stepsI_opsOf _ _ h, fun _ _ _ _ _ => rfl⟩⟩
    · rw [(hrep k).2 hks] at hk; cases hk
    · rw [hrep]; exact ⟨fun h => ⟨h, ((hPFmem i).1 h).1⟩, fun h => h.1⟩
theorem allB_n {T : List Nat → Prop} : AllB T [] := trivial
theorem allB_c {T : List Nat → Prop} {R : List Nat} {l : List (List Nat)} (h : T R) (h2 : AllB T l) : AllB T (R :: l) := ⟨h, h2⟩
theorem behind_s {j0 : Nat} {A N R : List Nat} {σ σ1 : St} {o : Oper} (h : Steps C wr ops (o :: opsOf ops (leftOf R A N)) (undo σ σ1 (dstsOf ops R)) K) (ho : ops[j0]? = some o := by rfl) : Behind C wr ops j0 A N σ σ1 K R := by
  unfold Behind; rw [ho]; exact h
end
end Go.Proofs.YtignjjnflcpiiaaGreatDoor
/- Slices of whole arrays: of a box, of a variable; an element of an array that is a value. -/
namespace Go.Proofs.YtignjjnflcpiiaaGreatDoor
open Go.RowKit
section
variable {C : Cx} {σ : St} {ty : TypeId} {pos : String} {af : Array Edge} {g : Option (Nat × Bool)} {x y : Operand} {t : TypeId} {d : Nat}
end
section
variable {C : Cx} {σ : St} {ty : TypeId} {pos : String} {af : Array Edge} {g : Option (Nat × Bool)} {x y : Operand} {t : TypeId} {d : Option Nat}
end
end Go.Proofs.YtignjjnflcpiiaaGreatDoor
