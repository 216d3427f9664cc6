/- Regions: what one operation does to a state; a region in its own order; a region that draws its order, one walk in the order of the text. -/
import Derived.Test.YtignjjnflcpiiaaDoorVmA
set_option linter.unusedVariables false
set_option linter.unusedSimpArgs false
namespace Go.Proofs.YtignjjnflcpiiaaDoor
open Go.RowKit

/-- an operation that writes nothing that was there: in every world that the state stands for it yields what v stands for -/
def Qd (C : Cx) (o : Oper) (σ : St) (v : AV) : Prop :=
  ∀ γ σ1 a w, SR C γ σ1 a w → σ1.heap = σ.heap → (∀ x ∈ o.op.operands, σ1.ev x = σ.ev x) →
    o.wp C.P a w (fun a' w' => ∃ x, a' = a.put o.dst x ∧ Ext w w' ∧ Rep w' C.N (Mut γ σ.heap) (fun i => (γ i).1) v x) (fun _ _ _ => False)
/-- an operation of whatever kind, from a state to a state -/
def Wr (C : Cx) (o : Oper) (σ σ' : St) : Prop :=
  ∀ γ a w, SR C γ σ a w → o.wp C.P a w (fun a' w' => ∃ γ', SR C γ' σ' a' w') (fun _ _ _ => False)
def Do (C : Cx) (wr : Oper → Bool) (o : Oper) (σ : St) (K : St → Prop) : Prop :=
  (∃ v, Qd C o σ v ∧ K (σ.puto o.dst v)) ∨ (wr o = true ∧ ∃ σ', Wr C o σ σ' ∧ K σ')
/-- what an operation that does not run leaves -/
def UN : AV := .tup []
/-- does a guard that holds this let the operation run? -/
def GV (v : AV) (want : Bool) : Option Bool := match v with
  | .bool b => some (b == want)
  | .tup [] => some false
  | _ => none
def Step1 (C : Cx) (wr : Oper → Bool) (ops : Array Oper) (o : Oper) (σ : St) (K : St → Prop) : Prop :=
  match o.guard with
  | none => Do C wr o σ K
  | some (j, want) => ∃ d r, (ops[j]?).bind (·.dst) = some d ∧ GV (σ.env d) want = some r ∧ (r = true → Do C wr o σ K) ∧ (r = false → K (σ.puto o.dst UN))
def Steps (C : Cx) (wr : Oper → Bool) (ops : Array Oper) : List Oper → St → (St → Prop) → Prop
  | [], σ, K => K σ
  | o :: rest, σ, K => Step1 C wr ops o σ (fun σ' => Steps C wr ops rest σ' K)
def StepsI (C : Cx) (wr : Oper → Bool) (ops : Array Oper) : List Nat → St → (St → Prop) → Prop
  | [], σ, K => K σ
  | i :: rest, σ, K => match ops[i]? with
    | none => StepsI C wr ops rest σ K
    | some o => Step1 C wr ops o σ (fun σ' => StepsI C wr ops rest σ' K)

section
variable {C : Cx} {wr : Oper → Bool} {ops : Array Oper} {o : Oper} {σ : St} {K K' : St → Prop}
theorem Do.mono (h : ∀ σ, K σ → K' σ) (hd : Do C wr o σ K) : Do C wr o σ K' := by
  rcases hd with ⟨v, h1, h2⟩ | ⟨h0, σ', h1, h2⟩
  · exact .inl ⟨v, h1, h _ h2⟩
  · exact .inr ⟨h0, σ', h1, h _ h2⟩
theorem Step1.mono (h : ∀ σ, K σ → K' σ) (hd : Step1 C wr ops o σ K) : Step1 C wr ops o σ K' := by
  unfold Step1 at *
  split
  · rename_i hg; rw [hg] at hd; exact hd.mono h
  · rename_i hg
    rw [hg] at hd
    obtain ⟨d, b, h1, h2, h3, h4⟩ := hd
    exact ⟨d, b, h1, h2, fun hb => (h3 hb).mono h, fun hb => h _ (h4 hb)⟩

theorem wp_exits {P : Program} {a : Act} {w : World} {N N' : Act → World → Prop} {Q : Exit → Act → World → Prop} (hh : o.wp P a w N (fun _ _ _ => False)) (h : ∀ a w, N a w → N' a w) : o.wp P a w N' Q := by
  unfold Oper.wp at *
  generalize (execOp a.eval o).run P w = r at *
  cases r with
  | ok n w' =>
    cases n <;> simp only [Oper.upon] at hh ⊢ <;>
      first
        | exact h _ _ hh
        | exact Calls.mono hh (fun e w'' he => by
            cases e with
            | returned v => exact h _ _ he
            | panicked c => exact False.elim he
            | outgrown => obtain ⟨_, _, hf⟩ := he; exact False.elim hf)
        | exact Rows.mono hh (fun _ _ he => h _ _ he)
        | exact False.elim hh
  | halt x w' => cases x <;> simp only [Oper.upon] at hh ⊢ <;> exact False.elim hh

theorem blt_lt {a b : Nat} (h : Nat.blt a b = true) : a < b := Nat.le_of_ble_eq_true h
def dstOk (n : Nat) (o : Oper) : Bool := match o.dst with
  | some d => Nat.blt d n
  | none => true
theorem dstOk_spec {n : Nat} (h : dstOk n o = true) : ∀ t, o.dst = some t → t < n := by
  intro t ht
  unfold dstOk at h
  rw [ht] at h
  exact blt_lt h

theorem Do.wp {γ : Gh} {a : Act} {w : World} {N : Act → World → Prop} {Q : Exit → Act → World → Prop} (hd : Do C wr o σ K) (hn : dstOk C.n o = true) (s : SR C γ σ a w)
    (h : ∀ γ σ a w, SR C γ σ a w → K σ → N a w) : o.wp C.P a w N Q := by
  rcases hd with ⟨v, h1, h2⟩ | ⟨_, σ', h1, h2⟩
  · refine wp_exits (h1 γ σ a w s rfl (fun _ _ => rfl)) ?_
    rintro a' w' ⟨x, rfl, he, hx⟩
    exact h γ _ _ _ ((s.ext he).put o.dst (dstOk_spec hn) hx) h2
  · refine wp_exits (h1 γ a w s) ?_
    rintro a' w' ⟨γ', s'⟩
    exact h γ' _ _ _ s' h2

theorem yielded_of {γ : Gh} {a : Act} {w : World} (s : SR C γ σ a w) {j d : Nat} {b : Bool} (hd : (ops[j]?).bind (·.dst) = some d) (hb : σ.env d = .bool b) : yielded ops a.tmps j = some b := by
  have hv := s.env d
  rw [hb] at hv
  have hv := hv.bool_inv
  have hlt : d < a.tmps.size := by
    rcases Nat.lt_or_ge d a.tmps.size with h | h
    · exact h
    · rw [Array.getD_eq_getD_getElem?, Array.getElem?_eq_none h] at hv
      cases hv
  unfold yielded
  rw [hd]
  rw [Array.getD_eq_getD_getElem?, Array.getElem?_eq_getElem hlt] at hv
  simp only [Option.bind_some]
  rw [Array.getElem?_eq_getElem hlt]
  simp only [Option.getD_some] at hv
  rw [hv]

theorem yielded_un {γ : Gh} {a : Act} {w : World} (s : SR C γ σ a w) {j d : Nat} (hd : (ops[j]?).bind (·.dst) = some d) (hb : σ.env d = .tup []) : yielded ops a.tmps j = none := by
  have hv := s.env d
  rw [hb] at hv
  obtain ⟨xs, hv, hl, _⟩ := hv.tup_inv
  have : xs = [] := List.eq_nil_of_length_eq_zero hl
  subst this
  unfold yielded
  rw [hd]
  simp only [Option.bind_some]
  rcases Nat.lt_or_ge d a.tmps.size with h | h
  · rw [Array.getD_eq_getD_getElem?, Array.getElem?_eq_getElem h] at hv
    rw [Array.getElem?_eq_getElem h]
    simp only [Option.getD_some] at hv
    rw [hv]
  · rw [Array.getElem?_eq_none h]
theorem GV_wanted {γ : Gh} {a : Act} {w : World} (s : SR C γ σ a w) {j d : Nat} {want r : Bool} (hd : (ops[j]?).bind (·.dst) = some d) (hr : GV (σ.env d) want = some r) : (yielded ops a.tmps j == some want) = r := by
  unfold GV at hr
  split at hr
  · rename_i b hb
    cases hr
    rw [yielded_of s hd hb]
    cases b <;> cases want <;> rfl
  · rename_i hb
    cases hr
    rw [yielded_un s hd hb]
    rfl
  · cases hr
theorem Step1.wpOp {γ : Gh} {a : Act} {w : World} {i : Nat} {N : Act → World → Prop} {Q : Exit → Act → World → Prop} (hi : ops[i]? = some o) (hd : Step1 C wr ops o σ K) (hn : dstOk C.n o = true) (s : SR C γ σ a w)
    (h : ∀ γ σ a w, SR C γ σ a w → K σ → N a w) : wpOp C.P ops Q i N a w := by
  unfold Go.wpOp
  simp only [hi]
  unfold Step1 at hd
  cases hg : o.guard with
  | none =>
    rw [hg] at hd
    have hw : Region.wanted o (yielded ops a.tmps) = true := by simp [Region.wanted, hg]
    simp only [hw, if_true]
    exact .inl (Do.wp hd hn s h)
  | some g =>
    obtain ⟨j, want⟩ := g
    rw [hg] at hd
    obtain ⟨d, r, h1, h2, h3, h4⟩ := hd
    have hw : Region.wanted o (yielded ops a.tmps) = r := by simp only [Region.wanted, hg]; exact GV_wanted s h1 h2
    cases r with
    | true =>
      simp only [hw, if_true]
      exact .inl (Do.wp (h3 rfl) hn s h)
    | false =>
      simp only [hw, Bool.false_eq_true, if_false]
      exact h γ _ _ _ (s.put o.dst (dstOk_spec hn) (.tup _ [] [] rfl (fun i h => absurd h (Nat.not_lt_zero i)))) (h4 rfl)

theorem stepsI_wp {Q : Exit → Act → World → Prop} (hQ : ∀ γ σ a w, SR C γ σ a w → K σ → Q .normal a w) (hn : ∀ (i : Nat) o, ops[i]? = some o → dstOk C.n o = true) (l : List Nat) : ∀ γ σ a w, SR C γ σ a w → StepsI C wr ops l σ K → wpOps C.P ops Q l a w := by
  induction l with
  | nil => exact fun γ σ a w s h => hQ γ σ a w s h
  | cons i rest ih =>
    intro γ σ a w s h
    rw [wpOps_cons]
    unfold StepsI at h
    cases ho : ops[i]? with
    | none =>
      rw [ho] at h
      unfold Go.wpOp
      simp only [ho]
      exact ih γ σ a w s h
    | some o =>
      rw [ho] at h
      exact Step1.wpOp ho h (hn i o ho) s (fun γ σ a w s k => ih γ σ a w s k)

theorem stepsI_of (l : List Oper) : ∀ k σ, (∀ j, l[j]? = ops[k + j]?) → Steps C wr ops l σ K → StepsI C wr ops (List.range' k l.length) σ K := by
  induction l with
  | nil => exact fun k σ _ h => h
  | cons o rest ih =>
    intro k σ hl h
    have h0 := hl 0
    simp only [List.getElem?_cons_zero, Nat.add_zero] at h0
    rw [List.length_cons, List.range'_succ]
    unfold StepsI
    rw [← h0]
    exact Step1.mono (fun σ' h' => ih (k + 1) σ' (fun j => by have := hl (j + 1); simp only [List.getElem?_cons_succ] at this; rw [this]; congr 1; omega) h') h

def dstsOk (n : Nat) (l : List Oper) : Bool := l.all (dstOk n)
theorem dstsOk_spec {n : Nat} {l : List Oper} (h : dstsOk n l = true) (i : Nat) (o : Oper) (ho : l.toArray[i]? = some o) : dstOk n o = true :=
  List.all_eq_true.1 h o (by simpa using List.mem_of_getElem? (by simpa using ho))

/-- a region in its own order -/
theorem tri_region {id : Nat} {l : List Oper} {Q : Exit → St → Prop} (hn : dstsOk C.n l = true) (h : Steps C (fun _ => true) l.toArray l σ (Q .normal)) : Tri C (.region id l.toArray false) σ Q := by
  intro γ a w s
  refine wp_region ?_
  rw [List.range_eq_range', List.size_toArray]
  exact stepsI_wp (K := Q .normal) (fun γ σ a w s q => ⟨γ, σ, q, s⟩) (dstsOk_spec hn) _ γ σ a w s (stepsI_of l 0 σ (fun j => by simp) h)

/-! a region that draws its order -/
/-- what one quiet operation comes to -/
def Out (C : Cx) (ops : Array Oper) (o : Oper) (σ : St) (v : AV) : Prop :=
  match o.guard with
  | none => Qd C o σ v
  | some (j, want) => ∃ d r, (ops[j]?).bind (·.dst) = some d ∧ GV (σ.env d) want = some r ∧ (r = true → Qd C o σ v) ∧ (r = false → v = UN)
theorem step1_out (hw : wr o = false) : Step1 C wr ops o σ K ↔ ∃ v, Out C ops o σ v ∧ K (σ.puto o.dst v) := by
  unfold Step1 Out Do
  cases hg : o.guard with
  | none =>
    simp only [hw]
    exact ⟨fun h => h.resolve_right (by simp), .inl⟩
  | some g =>
    obtain ⟨j, want⟩ := g
    simp only [hw]
    constructor
    · rintro ⟨d, r, h1, h2, h3, h4⟩
      cases r with
      | true =>
        obtain ⟨v, h5, h6⟩ := (h3 rfl).resolve_right (by simp)
        exact ⟨v, ⟨d, true, h1, h2, fun _ => h5, fun h => by cases h⟩, h6⟩
      | false => exact ⟨UN, ⟨d, false, h1, h2, (fun h => by cases h), fun _ => rfl⟩, h4 rfl⟩
    · rintro ⟨v, ⟨d, r, h1, h2, h3, h4⟩, h5⟩
      exact ⟨d, r, h1, h2, fun hb => .inl ⟨v, h3 hb, h5⟩, fun hb => by rw [← h4 hb]; exact h5⟩

theorem puto_heap (σ : St) (d : Option Nat) (v : AV) : (σ.puto d v).heap = σ.heap := by cases d <;> rfl
theorem puto_env (σ : St) (d : Option Nat) (v : AV) (i : Nat) (h : d ≠ some i) : (σ.puto d v).env i = σ.env i := by
  cases d with
  | none => rfl
  | some d => show (σ.put d v).env i = _; rw [put_env, if_neg (fun e => h (by rw [e]))]
theorem puto_ev (σ : St) (d : Option Nat) (v : AV) (x : Operand) (h : ∀ t, d = some t → x ≠ .tmp t) : (σ.puto d v).ev x = σ.ev x := by
  cases x with
  | tmp t => exact puto_env σ d v t (fun e => h t e rfl)
  | _ => rfl
theorem puto_comm (σ : St) (x y : Option Nat) (v u : AV) (h : ∀ d, x = some d → y ≠ some d) : (σ.puto x v).puto y u = (σ.puto y u).puto x v := by
  cases x with
  | none => rfl
  | some d =>
    cases y with
    | none => rfl
    | some e =>
      have hne : d ≠ e := fun he => h d rfl (by rw [he])
      show (σ.put d v).put e u = (σ.put e u).put d v
      have : ((σ.put d v).put e u).env = ((σ.put e u).put d v).env := by
        funext i
        rw [put_env, put_env, put_env, put_env]
        by_cases h1 : i = e
        · rw [if_pos h1, if_neg (by rw [h1]; exact Ne.symm hne), if_pos h1]
        · rw [if_neg h1, if_neg h1]
      show St.mk _ _ = St.mk _ _
      exact congrArg (fun f => St.mk f σ.heap) this

theorem mem_looks {o : Oper} {t : Nat} (h : Operand.tmp t ∈ o.op.operands) : t ∈ o.looksAt ops :=
  List.mem_append_left _ (List.mem_filterMap.2 ⟨.tmp t, by simpa using h, rfl⟩)
theorem Out.same {σ σ' : St} {v : AV} (h : Out C ops o σ v) (hh : σ'.heap = σ.heap) (he : ∀ t, t ∈ o.looksAt ops → σ'.env t = σ.env t) : Out C ops o σ' v := by
  have hq : Qd C o σ v → Qd C o σ' v := fun hq γ σ1 a w s h1 h2 => by
    have := hq γ σ1 a w s (h1.trans hh) (fun x hx => by
      rw [h2 x hx]
      cases x with
      | tmp t => exact he t (mem_looks hx)
      | _ => rfl)
    rw [hh]
    exact this
  unfold Out at *
  cases hg : o.guard with
  | none => rw [hg] at h; exact hq h
  | some g =>
    obtain ⟨j, want⟩ := g
    rw [hg] at h
    obtain ⟨d, b, h1, h2, h3, h4⟩ := h
    refine ⟨d, b, h1, ?_, fun hb => hq (h3 hb), h4⟩
    rw [he d (List.mem_append_right _ (by rw [hg]; show d ∈ ((ops[j]?).bind (·.dst)).toList; rw [h1]; simp))]
    exact h2

theorem step1_swap {oi oj : Oper} (hi : wr oi = false) (hj : wr oj = false) (hap : oi.apart ops oj = true) (h : Step1 C wr ops oi σ (fun σ1 => Step1 C wr ops oj σ1 K)) :
    Step1 C wr ops oj σ (fun σ2 => Step1 C wr ops oi σ2 K) := by
  obtain ⟨h1, h2, h3⟩ := Oper.apart_spec hap
  rw [step1_out hi] at h
  obtain ⟨v, hv, h⟩ := h
  rw [step1_out hj] at h
  obtain ⟨u, hu, h⟩ := h
  rw [step1_out hj]
  refine ⟨u, hu.same (puto_heap _ _ _).symm (fun t ht => (puto_env σ oi.dst v t (fun e => h1 t e ht)).symm), ?_⟩
  rw [step1_out hi]
  refine ⟨v, hv.same (puto_heap _ _ _) (fun t ht => puto_env σ oj.dst u t (fun e => h3 t e ht)), ?_⟩
  rw [puto_comm σ oj.dst oi.dst u v (fun d hd => fun e => h2 d e hd)]
  exact h

/-- which operations wait for which, as bits (Region.before), checked -/
def goesDown (ops : Array Oper) : Bool := (List.range ops.size).all fun j => match ops[j]? with
  | some o => o.after.toList.all fun e => !Region.binds .any e || Nat.blt e.on j
  | none => true
def closedB (ops : Array Oper) (B : Nat → Nat → Bool) : Bool := (List.range ops.size).all fun j => (List.range j).all fun i => !B j i || match ops[j]? with
  | some o => o.after.toList.any fun e => Region.binds .any e && Nat.blt e.on j && (Nat.beq e.on i || (Nat.blt i e.on && B e.on i))
  | none => true
def pairsOk (ops : Array Oper) (wr : Oper → Bool) (B : Nat → Nat → Bool) : Bool := (List.range ops.size).all fun j => (List.range j).all fun i => B j i || match ops[i]?, ops[j]? with
  | some oi, some oj => !wr oi && !wr oj && oi.apart ops oj
  | _, _ => true
def waits (ops : Array Oper) (j i : Nat) : Bool := ((Region.before ops).getD j 0).testBit i
def drawOk (ops : Array Oper) (wr : Oper → Bool) : Bool := goesDown ops && closedB ops (waits ops) && pairsOk ops wr (waits ops)

theorem goesDown_spec (h : goesDown ops = true) {j : Nat} {o : Oper} (ho : ops[j]? = some o) {e : Edge} (he : e ∈ o.after) (hb : Region.binds .any e = true) : e.on < j := by
  have h1 := List.all_eq_true.1 h j (List.mem_range.2 (Array.getElem?_eq_some_iff.1 ho).1)
  rw [ho] at h1
  have h2 := List.all_eq_true.1 h1 e (by simpa using he)
  rw [hb] at h2
  exact blt_lt (by simpa using h2)

/-- the list of what has come up is closed under waiting -/
def Down (ops : Array Oper) (listed : Array Bool) : Prop := ∀ (k : Nat) o, listed.getD k true = true → k < ops.size → ops[k]? = some o → ∀ e ∈ o.after, Region.binds .any e = true → listed.getD e.on false = true

theorem listed_of_waits {B : Nat → Nat → Bool} (hc : closedB ops B = true) {listed : Array Bool} (hs : listed.size = ops.size) (hd : Down ops listed) :
    ∀ (j : Nat) o, ops[j]? = some o → (∀ e ∈ o.after, Region.binds .any e = true → listed.getD e.on false = true) → ∀ i, i < j → B j i = true → listed.getD i false = true := by
  intro j
  induction j using Nat.strongRecOn with
  | _ j ih =>
    intro o ho hl i hij hB
    have h1 := List.all_eq_true.1 hc j (List.mem_range.2 (Array.getElem?_eq_some_iff.1 ho).1)
    have h2 := List.all_eq_true.1 h1 i (List.mem_range.2 hij)
    rw [hB, ho] at h2
    simp only [Bool.not_true, Bool.false_or] at h2
    obtain ⟨e, he, h3⟩ := List.any_eq_true.1 h2
    simp only [Bool.and_eq_true, Bool.or_eq_true] at h3
    obtain ⟨⟨hb, hlt⟩, h4⟩ := h3
    have hlt : e.on < j := blt_lt hlt
    have hle := hl e (by simpa using he) hb
    rcases h4 with h4 | ⟨h4, h5⟩
    · rw [← Nat.eq_of_beq_eq_true h4]; exact hle
    · have h4 : i < e.on := blt_lt h4
      have hes : e.on < ops.size := by
        rw [← hs]
        rcases Nat.lt_or_ge e.on listed.size with h | h
        · exact h
        · rw [Array.getD_eq_getD_getElem?, Array.getElem?_eq_none h] at hle; cases hle
      have hle' : listed.getD e.on true = true := by
        rw [Array.getD_eq_getD_getElem?, Array.getElem?_eq_getElem (by omega)] at hle ⊢
        exact hle
      exact ih e.on hlt ops[e.on] (Array.getElem?_eq_getElem hes) (fun e' he' hb' => hd e.on _ hle' hes (Array.getElem?_eq_getElem hes) e' he' hb') i h4 h5

/-- an operation that may come up is taken first -/
theorem stepsI_pull {j : Nat} {oj : Oper} (hj : ops[j]? = some oj) : ∀ (R : List Nat) (σ : St), R.Pairwise (· < ·) → j ∈ R →
    (∀ i oi, i ∈ R → i < j → ops[i]? = some oi → wr oi = false ∧ wr oj = false ∧ oi.apart ops oj = true) → StepsI C wr ops R σ K → Step1 C wr ops oj σ (fun σ' => StepsI C wr ops (R.erase j) σ' K) := by
  intro R
  induction R with
  | nil => intro σ _ h; cases h
  | cons i rest ih =>
    intro σ hp hm hfree h
    rw [List.pairwise_cons] at hp
    by_cases hij : i = j
    · subst hij
      unfold StepsI at h
      rw [hj] at h
      rw [List.erase_cons_head]
      exact h
    · have hm' : j ∈ rest := (List.mem_cons.1 hm).resolve_left (fun e => hij e.symm)
      have hlt : i < j := hp.1 j hm'
      rw [List.erase_cons_tail (by simpa using hij)]
      have ih' := fun σ h => ih σ hp.2 hm' (fun k ok hk hkj hok => hfree k ok (List.mem_cons_of_mem _ hk) hkj hok) h
      unfold StepsI at h
      cases ho : ops[i]? with
      | none =>
        rw [ho] at h
        refine (ih' σ h).mono (fun σ' h' => ?_)
        unfold StepsI
        rw [ho]
        exact h'
      | some oi =>
        rw [ho] at h
        obtain ⟨f1, f2, f3⟩ := hfree i oi List.mem_cons_self hlt ho
        refine (step1_swap f1 f2 f3 (h.mono (fun σ1 h1 => ih' σ1 h1))).mono (fun σ' h' => ?_)
        unfold StepsI
        rw [ho]
        exact h'

theorem wpAny_steps {Q : Exit → Act → World → Prop} (hok : drawOk ops wr = true) (hQ : ∀ γ σ a w, SR C γ σ a w → K σ → Q .normal a w) (hn : ∀ (i : Nat) o, ops[i]? = some o → dstOk C.n o = true) :
    ∀ (fuel : Nat) (listed : Array Bool) (R : List Nat) γ σ a w, listed.size = ops.size → R.Pairwise (· < ·) → (∀ i, i ∈ R ↔ listed.getD i true = false) → Down ops listed → R.length ≤ fuel →
      SR C γ σ a w → StepsI C wr ops R σ K → wpAny C.P .any ops Q fuel listed a w := by
  simp only [drawOk, Bool.and_eq_true] at hok
  obtain ⟨⟨hgd, hcl⟩, hpr⟩ := hok
  have hempty : ∀ (listed : Array Bool) (R : List Nat), listed.size = ops.size → R.Pairwise (· < ·) → (∀ i, i ∈ R ↔ listed.getD i true = false) → Region.ready .any ops listed = [] → R = [] := by
    intro listed R hs hp hR hr
    cases R with
    | nil => rfl
    | cons i rest =>
      exfalso
      have hi : listed.getD i true = false := (hR i).1 List.mem_cons_self
      have his : i < ops.size := by
        rw [← hs]
        rcases Nat.lt_or_ge i listed.size with h | h
        · exact h
        · rw [Array.getD_eq_getD_getElem?, Array.getElem?_eq_none h] at hi; cases hi
      have : i ∈ Region.ready .any ops listed := by
        rw [mem_ready]
        refine ⟨hi, ops[i], Array.getElem?_eq_getElem his, fun e he hb => ?_⟩
        have hlt := goesDown_spec hgd (Array.getElem?_eq_getElem his) he hb
        cases hle : listed.getD e.on false with
        | true => rfl
        | false =>
          have : e.on ∈ i :: rest := (hR e.on).2 (by
            rw [Array.getD_eq_getD_getElem?, Array.getElem?_eq_getElem (by omega)] at hle ⊢
            exact hle)
          rcases List.mem_cons.1 this with h | h
          · omega
          · have := (List.pairwise_cons.1 hp).1 e.on h; omega
      rw [hr] at this
      cases this
  intro fuel
  induction fuel with
  | zero =>
    intro listed R γ σ a w hs hp hR hd hf s h
    have hR0 : R = [] := List.eq_nil_of_length_eq_zero (by omega)
    subst hR0
    refine ⟨?_, hQ γ σ a w s h⟩
    cases hr : Region.ready .any ops listed with
    | nil => rfl
    | cons j rest =>
      have hj : j ∈ Region.ready .any ops listed := by rw [hr]; exact List.mem_cons_self
      have := (hR j).2 (mem_ready.1 hj).1
      cases this
  | succ fuel ih =>
    intro listed R γ σ a w hs hp hR hd hf s h
    refine ⟨fun hr => ?_, fun j hj => ?_⟩
    · have := hempty listed R hs hp hR hr
      subst this
      exact hQ γ σ a w s h
    · obtain ⟨hj0, oj, hoj, hall⟩ := mem_ready.1 hj
      have hjR := (hR j).2 hj0
      have hjs : j < ops.size := (Array.getElem?_eq_some_iff.1 hoj).1
      have hpull := stepsI_pull hoj R σ hp hjR (fun i oi hi hij hoi => by
        have h1 := List.all_eq_true.1 hpr j (List.mem_range.2 hjs)
        have h2 := List.all_eq_true.1 h1 i (List.mem_range.2 hij)
        rw [hoi, hoj] at h2
        rw [Bool.or_eq_true] at h2
        rcases h2 with h2 | h2
        · exfalso
          have := listed_of_waits hcl hs hd j oj hoj hall i hij h2
          have h0 := (hR i).1 hi
          rw [Array.getD_eq_getD_getElem?] at this h0
          cases hx : listed[i]? with
          | none => rw [hx] at this; cases this
          | some b => rw [hx] at this h0; simp only [Option.getD_some] at this h0; rw [this] at h0; cases h0
        · simp only [Bool.and_eq_true, Bool.not_eq_true'] at h2
          exact ⟨h2.1.1, h2.1.2, h2.2⟩) h
      refine Step1.wpOp hoj hpull (hn j oj hoj) s (fun γ σ a w s k => ?_)
      have hlt : j < listed.size := by omega
      refine ih (listed.setIfInBounds j true) (R.erase j) γ σ a w (by simpa using hs) (hp.sublist List.erase_sublist) (fun i => ?_) (fun k' o' hk hks ho' e he hb => ?_) ?_ s k
      · have hnd : R.Nodup := hp.imp (fun h => Nat.ne_of_lt h)
        rw [List.Nodup.mem_erase_iff hnd, hR]
        by_cases hij : i = j
        · subst hij; simp [hlt]
        · rw [getD_set_ne true (Ne.symm hij)]
          simp [hij]
      · by_cases hkj : k' = j
        · subst hkj
          rw [hoj] at ho'
          cases ho'
          exact getD_set_true (hall e he hb)
        · rw [getD_set_ne true (Ne.symm hkj)] at hk
          exact getD_set_true (hd k' o' hk hks ho' e he hb)
      · rw [List.length_erase_of_mem hjR]; omega

/-- a region that draws its order: one walk in the order of the text -/
theorem tri_draw {id : Nat} {l : List Oper} {Q : Exit → St → Prop} (wr : Oper → Bool) (hok : drawOk l.toArray wr = true) (hn : dstsOk C.n l = true) (h : Steps C wr l.toArray l σ (Q .normal)) :
    Tri C (.region id l.toArray true) σ Q := by
  intro γ a w s
  refine wp_region_any C.mixed ?_
  have s' : SR C γ σ a w.drew := s.ext (Below.refl _ w).drew
  refine wpAny_steps (K := Q .normal) hok (fun γ σ a w s q => ⟨γ, σ, q, s⟩) (dstsOk_spec hn) _ _ (List.range' 0 l.length) γ σ a w.drew (by simp) List.pairwise_lt_range' (fun i => ?_) (fun k o hk hks => ?_) (by simp) s' (stepsI_of l 0 σ (fun j => by simp) h)
  · rw [List.mem_range', Array.getD_eq_getD_getElem?, Array.getElem?_replicate]
    by_cases hi : i < l.toArray.size
    · rw [if_pos hi]; simp at hi; simp; omega
    · rw [if_neg hi]; simp at hi; simp; omega
  · rw [Array.getD_eq_getD_getElem?, Array.getElem?_replicate, if_pos hks] at hk
    cases hk
end
end Go.Proofs.YtignjjnflcpiiaaDoor
