/- Contracts of functions that write one object of their caller's: a builder, a struct behind a pointer. -/
import Derived.Test.YtignjjnflcpiiaaDoorVmJ
set_option linter.unusedVariables false
set_option linter.unusedSimpArgs false
namespace Go.Proofs.YtignjjnflcpiiaaDoor
open Go.RowKit

/-- values of one cell that hold no block -/
def AV.scal : AV → Bool
  | .any | .bool _ | .int _ _ | .str _ | .nilp | .nils | .nili => true
  | _ => false
theorem Rep.scal {w w' : World} {N N' : Nat} {M M' : Nat → Prop} {γ γ' : Nat → Value} {v : AV} {x : Value} (h : Rep w N M γ v x) (hs : v.scal = true) : Rep w' N' M' γ' v x := by
  cases h <;> first
    | exact .any _ _
    | exact .bool _ _
    | exact .int _ _ _
    | exact .str _ _
    | exact .nilp _
    | exact .nils _
    | exact .nili _
    | cases hs
/-- objects that may be handed on: a builder, a block of such values -/
def AObj.plain : AObj → Bool
  | .box cells => cells.all AV.scal
  | .bld _ _ _ => true
  | .nest _ _ _ _ _ => true
  | _ => false
def heap1 (o : Option AObj) : Heap := fun i => match i with
  | 0 => o
  | _ + 1 => none
def pin1 (v : Value) : Nat → Option Value := fun i => match i with
  | 0 => some v
  | _ + 1 => none
def cxe (X : Gx) (n : Nat) (w : World) (γ : Gh) (hn : X.nG ≤ w.heap.size) (hM : ∀ b, Blk γ 0 b → X.nG ≤ b) : Cx := { X with n := n, w0 := w, M0 := Blk γ 0, pin := pin1 (γ 0).1, hn := hn, hM := hM }
theorem HR.cxn {X : Gx} {n m : Nat} {w w' : World} {γ γ' : Gh} {hn : X.nG ≤ w.heap.size} {hM : ∀ b, Blk γ 0 b → X.nG ≤ b} {H : Heap} (h : HR (cxe X n w γ hn hM) γ' H w') : HR (cxe X m w γ hn hM) γ' H w' :=
  { obj := h.obj, disj := h.disj, two := h.two, lt := h.lt, chg := h.chg, glob := h.glob, pins := h.pins }

/-- a function that writes the one object 0 -/
def CEff (X : Gx) (f : FuncId) (o : AObj) (as : List AV) (o' : Option AObj) (res : AV) : Prop :=
  ∀ (w : World) (γ : Gh) (vs : List Value) (hn : X.nG ≤ w.heap.size) (hM : ∀ b, Blk γ 0 b → X.nG ≤ b), HR (cxe X 0 w γ hn hM) γ (heap1 (some o)) w → vs.length = as.length →
    (∀ i (h : i < as.length) (h' : i < vs.length), Rep w w.heap.size (Mut γ (heap1 (some o))) (fun i => (γ i).1) as[i] vs[i]) →
    Calls X.P f vs.toArray w (fun e w' => ∃ v γ', e = .returned v ∧ HR (cxe X 0 w γ hn hM) γ' (heap1 o') w' ∧ Rep w' w.heap.size (Mut γ' (heap1 o')) g0 res v)

mutual
theorem fz_noment (H : Heap) (fr : Bool) (t : Nat) : ∀ v : AV, (v.fz H fr).ment t = false
  | .any => rfl
  | .bool _ => rfl
  | .int _ _ => rfl
  | .str _ => rfl
  | .nilp => rfl
  | .gptr _ _ => rfl
  | .nils => rfl
  | .nili => rfl
  | .ptr _ _ => by rw [AV.fz]; rfl
  | .eptr _ _ _ _ => by rw [AV.fz]; rfl
  | .sl id => by
    rw [AV.fz]
    split <;> rfl
  | .ro _ _ _ => by rw [AV.fz]; rfl
  | .pts _ _ => by rw [AV.fz]; rfl
  | .rptr _ _ => by rw [AV.fz]; rfl
  | .iface _ v => by rw [AV.fz, AV.ment]; exact fz_noment H fr t v
  | .agg l => by rw [AV.fz, AV.ment]; exact fzL_noment H fr t l
  | .tup l => by rw [AV.fz, AV.ment]; exact fzL_noment H fr t l
  | .clo _ l => by rw [AV.fz, AV.ment]; exact fzL_noment H fr t l
theorem fzL_noment (H : Heap) (fr : Bool) (t : Nat) : ∀ l : List AV, AV.mentL t (AV.fzL H fr l) = false
  | [] => rfl
  | v :: r => by rw [AV.fzL, AV.mentL, fz_noment H fr t v]; exact fzL_noment H fr t r
end

/-- the results, where nothing of the objects is handed back -/
def RetQE (P : Program) (rs : List ResultVar) (res : AV) (o' : Option AObj) : Exit → St → Prop
  | .normal, σ | .ret, σ => cellOk P σ rs ∧ retV (retLH (fun _ => none) σ rs) = res ∧ σ.heap 0 = o'
  | _, _ => False
def St.starte (as : List AV) (o : AObj) : St := ⟨fun i => as.getD i .any, heap1 (some o)⟩

theorem ceff_of {X : Gx} {f : FuncId} {fn : Func} {c : Code} {o : AObj} {as : List AV} {o' : Option AObj} {res : AV} (hf : X.P.funcs[f]? = some fn) (hb : fn.body = some c) (hn : as.length ≤ fn.ntmps) 
    (h : ∀ w γ (hw : X.nG ≤ w.heap.size) (hM : ∀ b, Blk γ 0 b → X.nG ≤ b), Tri (cxe X fn.ntmps w γ hw hM) c (St.starte as o) (RetQE X.P fn.results.toList res o')) : CEff X f o as o' res := by
  intro w γ vs hw hM hr hl hrep
  refine calls_of_wp hf hb (wp_mono (h w γ hw hM γ _ w ?_) ?_)
  · refine { hr.cxn with env := fun t => ?_, size := ?_, defers := rfl }
    · show Rep w w.heap.size _ _ (as.getD t .any) _
      rcases Nat.lt_or_ge t as.length with ht | ht
      · have h1 : as.getD t .any = as[t] := by rw [List.getD_eq_getElem?_getD, List.getElem?_eq_getElem ht]; rfl
        have h2 : (vs.toArray ++ Array.replicate (fn.ntmps - vs.toArray.size) undef).getD t undef = vs[t]'(by omega) := by
          rw [Array.getD_eq_getD_getElem?, Array.getElem?_append_left (by simp; omega)]
          simp [show t < vs.length by omega]
        rw [h1, h2]
        exact hrep t ht (by omega)
      · have h1 : as.getD t .any = .any := by rw [List.getD_eq_getElem?_getD, List.getElem?_eq_none ht]; rfl
        rw [h1]
        exact .any _ _
    · show (vs.toArray ++ Array.replicate (fn.ntmps - vs.toArray.size) undef).size = fn.ntmps
      simp; omega
  · have fin : ∀ (a : Act) (w' : World) γ' σ, SR (cxe X fn.ntmps w γ hw hM) γ' σ a w' → (cellOk X.P σ fn.results.toList ∧ retV (retLH (fun _ => none) σ fn.results.toList) = res ∧ σ.heap 0 = o') →
        a.defers = [] ∧ ∃ v, (results fn a.tmps).run X.P w' = .ok v w' ∧ ∃ v' γ'', Ending.returned v = .returned v' ∧ HR (cxe X 0 w γ hw hM) γ'' (heap1 o') w' ∧ Rep w' w.heap.size (Mut γ'' (heap1 o')) g0 res v' := by
      intro a w' γ' σ s ⟨q1, q2, q3⟩
      have hsub : ∀ (id : Nat) (p : AObj), heap1 o' id = some p → σ.heap id = some p := fun id p hp => by
        cases id with
        | zero => rw [q3]; exact hp
        | succ id => cases hp
      have hmut : ∀ b, Mut γ' (heap1 o') b → Mut γ' σ.heap b := fun b ⟨id, p, h1, h2⟩ => ⟨id, p, hsub id p h1, h2⟩
      obtain ⟨v, h1, h2⟩ := run_resultsH (C := cxe X fn.ntmps w γ hw hM) (fn := fn) (fun _ => none) (Mut γ' (heap1 o')) s (fun v x hv => hv.frzM s.toHR (fun _ _ h => by cases h) hmut (fun _ _ _ h => by cases h) true (fun _ => Nat.le_refl _) (fun _ _ _ _ h => by cases h)) q1
      rw [q2] at h2
      refine ⟨s.defers, v, h1, v, γ', rfl, ?_, h2⟩
      exact { obj := fun id p hp => (s.obj id p (hsub id p hp)).mono (fun _ _ _ => rfl) (fun b _ => hmut b) (fun _ _ => rfl), disj := fun id id' p p' b h h' => s.disj id id' p p' b (hsub _ _ h) (hsub _ _ h'), two := fun id p b h => s.two id p b (hsub _ _ h), lt := fun id p b h => s.lt id p b (hsub _ _ h), chg := s.chg, glob := s.glob, pins := fun id p v hp h => s.pins id p v hp (hsub _ _ h) }
    rintro e a w' ⟨γ', σ, q, s⟩
    cases e with
    | normal => exact fin a w' γ' σ s q
    | ret => exact fin a w' γ' σ s q
    | _ => exact q.elim

section
variable {C : Cx} {σ : St} {ty : TypeId} {pos : String} {af : Array Edge} {g : Option (Nat × Bool)} {d : Option Nat}
/-- an argument as the callee sees it: the object's pointer, or what is handed on -/
def AV.fzp (id : Nat) (H : Heap) : AV → AV
  | .ptr j f => match Nat.beq j id with
    | true => .ptr 0 f
    | false => .any
  | v => v.fz H false
theorem w_call {f : FuncId} {xs : Array Operand} {ts : Array TypeId} {id : Nat} {o : AObj} {o' : Option AObj} {as : List AV} {res : AV} (hc : CEff C.toGx f o as o' res) (hcf : ∀ args w, (callFunc f args).run C.P w = .ok (.enter f args) w) (ho : σ.heap id = some o)
    (hp : o.plain = true) (hp' : (match o' with | some o' => o'.plain | none => true) = true) (ha : xs.toList.map (fun x => (σ.ev x).fzp id (σ.drop (some id)).heap) = as) (hfr : res.allFr = true) (hd : dstOk C.n ⟨d, .call { callee := .value (.func f), args := xs, argTypes := ts }, ty, pos, af, g⟩ = true) :
    Wr C ⟨d, .call { callee := .value (.func f), args := xs, argTypes := ts }, ty, pos, af, g⟩ σ ((σ.set id o').puto d res) := by
  intro γ a w s
  have hr : (execOp a.eval ⟨d, .call { callee := .value (.func f), args := xs, argTypes := ts }, ty, pos, af, g⟩).run C.P w = .ok (.enter f (xs.map a.eval)) w := by
    simp [execOp, resolve, Act.eval, Deferred.ofValue, invoke, hcf]
  unfold Oper.wp
  rw [hr, Oper.upon_enter]
  -- the callee's view
  let γl : Gh := fun i => match i with
    | 0 => γ id
    | _ + 1 => (undef, undef)
  have hbl : ∀ b, Blk γl 0 b ↔ Blk γ id b := fun b => Iff.rfl
  have hMl : ∀ b, Blk γl 0 b → C.nG ≤ b := fun b hb => by
    have hn := C.hn
    rcases (s.lt id o b ho hb).2 with h | h
    · exact C.hM b h
    · omega
  have hw : C.nG ≤ w.heap.size := Nat.le_trans C.hn s.chg.size
  have hmutl : ∀ b, Mut γl (heap1 (some o)) b → Blk γ id b := fun b ⟨i, p, h1, h2⟩ => by
    cases i with
    | zero => exact h2
    | succ i => cases h1
  have hobj : ObjRep w w.heap.size (Mut γl (heap1 (some o))) γl 0 o := by
    have hob := s.obj id o ho
    cases o with
    | box cells =>
      obtain ⟨b, c, e, h1, h2, h3, h4⟩ := hob
      exact ⟨b, c, e, h1, h2, h3, fun j hj => by
        obtain ⟨v, hv, hrv⟩ := h4 j hj
        exact ⟨v, hv, hrv.scal (List.all_eq_true.1 hp _ (List.getElem_mem hj))⟩⟩
    | bld e eb l => exact hob
    | nest cells k e sz rows => exact hob
    | rows e sz rows => cases hp
    | pts e l => cases hp
    | iter s pos => cases hp
  have hrl : HR (cxe C.toGx 0 w γl hw hMl) γl (heap1 (some o)) w :=
    { obj := fun i p h => by
        cases i with
        | zero => cases h; exact hobj
        | succ i => cases h
      disj := fun i i' p p' b h h' _ _ => by
        cases i with
        | zero => cases i' with
          | zero => rfl
          | succ i' => cases h'
        | succ i => cases h
      two := fun i p b h => by
        cases i with
        | zero => exact s.two id o b ho
        | succ i => cases h
      lt := fun i p b h hb => by
        cases i with
        | zero => exact ⟨(s.lt id o b ho hb).1, .inl hb⟩
        | succ i => cases h
      chg := Chg.refl _ _
      glob := s.glob
      pins := fun i p v h h' => by
        cases i with
        | zero => cases h; rfl
        | succ i => cases h' }
  have hsub : ∀ (i : Nat) (p : AObj), (σ.drop (some id)).heap i = some p → σ.heap i = some p := fun i p h => (drop_heap h).1
  have hM1 : ∀ b, Mut γl (heap1 (some o)) b → Mut γ σ.heap b := fun b hb => ⟨id, o, ho, hmutl b hb⟩
  have hM2 : ∀ (i : Nat) (p : AObj) b, (σ.drop (some id)).heap i = some p → vblock (γ i).1 = some b → ¬ Mut γl (heap1 (some o)) b := fun i p b h hb hm => by
    obtain ⟨h1, h2⟩ := drop_heap h
    have := s.disj i id p o b h1 ho (.inl hb) (hmutl b hm)
    exact h2 (by rw [this])
  have hargs : ∀ x ∈ xs, Rep w w.heap.size (Mut γl (heap1 (some o))) (fun i => (γl i).1) ((σ.ev x).fzp id (σ.drop (some id)).heap) (a.eval x) := fun x _ => by
    have e1 := s.ev x
    have gen : ∀ v, Rep w C.N (Mut γ σ.heap) (fun i => (γ i).1) v (a.eval x) → Rep w w.heap.size (Mut γl (heap1 (some o))) (fun i => (γl i).1) (v.fz (σ.drop (some id)).heap false) (a.eval x) := fun v hv =>
      (hv.frzM s.toHR hsub hM1 hM2 false (fun h => by cases h) (fun h => by cases h)).mono (fun _ _ _ => rfl) (fun _ _ h => h) (Nat.le_refl _) _ (fun i hi => by rw [fz_noment] at hi; cases hi)
    cases hv : σ.ev x with
    | ptr j fo =>
      rw [hv] at e1
      show Rep w w.heap.size _ _ (match Nat.beq j id with | true => .ptr 0 fo | false => .any) _
      cases hb : Nat.beq j id with
      | true =>
        have := Nat.eq_of_beq_eq_true hb
        subst this
        obtain ⟨b, h1, h2⟩ := e1.ptr_inv
        rw [h2]
        exact .ptr _ _ _ _ h1
      | false => exact .any _ _
    | _ => rw [hv] at e1; exact gen _ e1
  subst ha
  have hcall := hc w γl (xs.map a.eval).toList hw hMl hrl (by simp) (fun i hi hi' => by
    have h1 : (xs.map a.eval).toList[i] = a.eval (xs[i]'(by simpa using hi)) := by simp
    have h2 : (xs.toList.map (fun x => (σ.ev x).fzp id (σ.drop (some id)).heap))[i] = (σ.ev (xs[i]'(by simpa using hi))).fzp id (σ.drop (some id)).heap := by simp
    rw [h1, h2]
    exact hargs _ (Array.getElem_mem _))
  simp only [Array.toArray_toList] at hcall
  refine hcall.mono ?_
  rintro e w' ⟨v, γ', rfl, hr', hv⟩
  -- back in the caller
  have hblk : ∀ k, k < w.heap.size → ¬ Blk γ id k → w'.heap[k]? = w.heap[k]? := fun k hk hb => hr'.chg.block k hk hb
  cases o' with
  | none =>
    refine ⟨γ, ?_⟩
    have s1 : SR C γ (σ.set id none) a w := s.less (fun t => .inr rfl) (fun i p h => by
      rcases set_heap h with ⟨_, h⟩ | ⟨_, h⟩
      · cases h
      · exact h)
    have hlive : ∀ {i : Nat} {p : AObj}, (σ.set id none).heap i = some p → i ≠ id ∧ σ.heap i = some p := fun h => by
      rcases set_heap h with ⟨_, h⟩ | h
      · cases h
      · exact h
    have still : ∀ b, b < w.heap.size → ¬ Mut γ σ.heap b → w'.heap[b]? = w.heap[b]? := fun b hb hm => hblk b hb (fun h => hm ⟨id, o, ho, h⟩)
    have sub : ∀ b, b < w.heap.size → Mut γ (σ.set id none).heap b → Mut γ σ.heap b := fun b _ ⟨i, p, h1, h2⟩ => ⟨i, p, (hlive h1).2, h2⟩
    have s2 : SR C γ (σ.set id none) a w' :=
      { obj := fun i p h => by
          obtain ⟨h1, h2⟩ := hlive h
          exact (s.obj i p h2).mono still sub (fun b hb => hblk b (s.lt i p b h2 hb).1 (fun h => h1 (s.disj i id p o b h2 ho hb h)))
        disj := s1.disj
        two := s1.two
        lt := fun i p b h hb => ⟨Nat.lt_of_lt_of_le (s1.lt i p b h hb).1 hr'.chg.size, (s1.lt i p b h hb).2⟩
        chg := ⟨hr'.chg.os.trans s.chg.os, hr'.chg.tape.trans s.chg.tape, hr'.chg.output.trans s.chg.output, Nat.le_trans s.chg.size hr'.chg.size, fun k hk hm => by
          rw [hblk k (Nat.lt_of_lt_of_le hk s.chg.size) (fun h => by
            rcases (s.lt id o k ho h).2 with h1 | h1
            · exact hm h1
            · have : C.w0.heap.size ≤ k := h1
              omega)]
          exact s.chg.block k hk hm⟩
        glob := hr'.glob
        pins := s1.pins
        env := fun t => (s.env t).mono still sub (Nat.le_refl _) _ (fun _ _ => rfl)
        size := s.size
        defers := s.defers }
    exact s2.put d (dstOk_spec hd) (hv.freshM hfr s.chg.size (fun b hb _ hm => by
      obtain ⟨i, p, h1, h2⟩ := hm
      have h3 := (s1.lt i p b h1 h2).1
      omega) _)
  | some o' =>
    refine ⟨upd γ id (γ' 0), ?_⟩
    have hpin : (γ' 0).1 = (γ id).1 := hr'.pins 0 o' _ rfl rfl
    have hlive : ∀ {i : Nat} {p : AObj}, (σ.set id (some o')).heap i = some p → (i = id ∧ p = o') ∨ (i ≠ id ∧ σ.heap i = some p) := fun h => by
      rcases set_heap h with ⟨h1, h2⟩ | h
      · cases h2; exact .inl ⟨h1, rfl⟩
      · exact .inr h
    have still : ∀ b, b < w.heap.size → ¬ Mut γ σ.heap b → w'.heap[b]? = w.heap[b]? := fun b hb hm => hblk b hb (fun h => hm ⟨id, o, ho, h⟩)
    have blkid : ∀ {b : Nat}, Blk (upd γ id (γ' 0)) id b → Blk γ' 0 b := fun h => by unfold Blk at *; rw [upd_same] at h; exact h
    have blkne : ∀ {i b : Nat}, i ≠ id → Blk (upd γ id (γ' 0)) i b → Blk γ i b := fun hne h => by unfold Blk at *; rw [upd_ne _ _ hne] at h; exact h
    have new : ∀ {b : Nat}, Blk γ' 0 b → b < w'.heap.size ∧ (Blk γ id b ∨ w.heap.size ≤ b) := fun h => hr'.lt 0 o' _ rfl h
    have sub : ∀ b, b < w.heap.size → Mut (upd γ id (γ' 0)) (σ.set id (some o')).heap b → Mut γ σ.heap b := fun b hb ⟨i, p, h1, h2⟩ => by
      rcases hlive h1 with ⟨rfl, _⟩ | ⟨hne, hi⟩
      · rcases (new (blkid h2)).2 with h | h
        · exact ⟨i, o, ho, h⟩
        · omega
      · exact ⟨i, p, hi, blkne hne h2⟩
    have s2 : SR C (upd γ id (γ' 0)) (σ.set id (some o')) a w' :=
      { obj := fun i p h => by
          rcases hlive h with ⟨rfl, rfl⟩ | ⟨hne, hi⟩
          · have hob := hr'.obj 0 p rfl
            cases p with
            | box cells =>
              obtain ⟨b, c, e, h1, h2, h3, h4⟩ := hob
              exact ⟨b, c, e, by rw [upd_same]; exact h1, h2, h3, fun j hj => by
                obtain ⟨v, hv, hrv⟩ := h4 j hj
                exact ⟨v, hv, hrv.scal (List.all_eq_true.1 hp' _ (List.getElem_mem hj))⟩⟩
            | bld e eb l =>
              obtain ⟨b, v, cs, p, h1, r⟩ := hob
              exact ⟨b, v, cs, p, by rw [upd_same]; exact h1, r⟩
            | nest cells k e sz rows =>
              obtain ⟨b, c, t, v, cs, h1, r⟩ := hob
              exact ⟨b, c, t, v, cs, by rw [upd_same]; exact h1, r⟩
            | rows e sz rows => cases hp'
            | pts e l => cases hp'
            | iter s pos => cases hp'
          · have hb1 := (s.obj i p hi).killed (t := id) (u := γ' 0) hne still sub (fun b hb => hblk b (s.lt i p b hi hb).1 (fun h => hne (s.disj i id p o b hi ho hb h)))
            have hb0 := (s.obj i p hi).mono still sub (fun b hb => hblk b (s.lt i p b hi hb).1 (fun h => hne (s.disj i id p o b hi ho hb h)))
            cases p with
            | box cells =>
              obtain ⟨b, c, e, h1, h2, h3, h4⟩ := hb0
              refine ⟨b, c, e, by rw [upd_ne _ _ hne]; exact h1, h2, h3, fun j hj => ?_⟩
              obtain ⟨v, hv, hrv⟩ := h4 j hj
              refine ⟨v, hv, hrv.mono (fun _ _ _ => rfl) (fun _ _ h => h) (Nat.le_refl _) _ (fun k hk => ?_)⟩
              by_cases hki : k = id
              · subst hki; simp only [upd_same]; exact hpin
              · simp only [upd_ne _ _ hki]
            | bld e eb l => exact hb1
            | nest cells k e sz rows => exact hb1
            | iter s pos => exact hb1
            | rows e sz rows => exact hb1
            | pts e l => exact hb1
        disj := fun i i' p p' b h h' hb hb' => by
          rcases hlive h with ⟨rfl, _⟩ | ⟨hne, hi⟩
          · rcases hlive h' with ⟨rfl, _⟩ | ⟨hne', hi'⟩
            · rfl
            · have hb1 := blkne hne' hb'
              rcases (new (blkid hb)).2 with h1 | h1
              · exact s.disj i i' o p' b ho hi' h1 hb1
              · have := (s.lt i' p' b hi' hb1).1; omega
          · have hb0 := blkne hne hb
            rcases hlive h' with ⟨rfl, _⟩ | ⟨hne', hi'⟩
            · rcases (new (blkid hb')).2 with h1 | h1
              · exact s.disj i i' p o b hi ho hb0 h1
              · have := (s.lt i p b hi hb0).1; omega
            · exact s.disj i i' p p' b hi hi' hb0 (blkne hne' hb')
        two := fun i p b h => by
          rcases hlive h with ⟨rfl, _⟩ | ⟨hne, hi⟩
          · rw [upd_same]; exact hr'.two 0 o' b rfl
          · rw [upd_ne _ _ hne]; exact s.two i p b hi
        lt := fun i p b h hb => by
          rcases hlive h with ⟨rfl, _⟩ | ⟨hne, hi⟩
          · obtain ⟨h1, h2⟩ := new (blkid hb)
            refine ⟨h1, ?_⟩
            rcases h2 with h2 | h2
            · exact (s.lt i o b ho h2).2
            · exact .inr (Nat.le_trans s.chg.size h2)
          · obtain ⟨h1, h2⟩ := s.lt i p b hi (blkne hne hb)
            exact ⟨Nat.lt_of_lt_of_le h1 hr'.chg.size, h2⟩
        chg := ⟨hr'.chg.os.trans s.chg.os, hr'.chg.tape.trans s.chg.tape, hr'.chg.output.trans s.chg.output, Nat.le_trans s.chg.size hr'.chg.size, fun k hk hm => by
          rw [hblk k (Nat.lt_of_lt_of_le hk s.chg.size) (fun h => by
            rcases (s.lt id o k ho h).2 with h1 | h1
            · exact hm h1
            · have : C.w0.heap.size ≤ k := h1
              omega)]
          exact s.chg.block k hk hm⟩
        glob := hr'.glob
        pins := fun i p v hpv h => by
          rcases hlive h with ⟨rfl, _⟩ | ⟨hne, hi⟩
          · rw [upd_same, hpin]; exact s.pins i o v hpv ho
          · rw [upd_ne _ _ hne]; exact s.pins i p v hpv hi
        env := fun t => (s.env t).mono still sub (Nat.le_refl _) _ (fun k _ => by
          by_cases hki : k = id
          · subst hki; simp only [upd_same]; exact hpin
          · simp only [upd_ne _ _ hki])
        size := s.size
        defers := s.defers }
    exact s2.put d (dstOk_spec hd) (hv.freshM hfr s.chg.size (fun b hb hnm hm => by
      obtain ⟨i, p, h1, h2⟩ := hm
      rcases hlive h1 with ⟨rfl, _⟩ | ⟨hne, hi⟩
      · exact hnm ⟨0, o', rfl, blkid h2⟩
      · have := (s.lt i p b hi (blkne hne h2)).1
        omega) _)
end
end Go.Proofs.YtignjjnflcpiiaaDoor
