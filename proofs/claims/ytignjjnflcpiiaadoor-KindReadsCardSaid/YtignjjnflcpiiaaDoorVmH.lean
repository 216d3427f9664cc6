/- Memory that is written: new variables, boxes, stores, appends; when nil is an empty slice of the frame's own. -/
import Derived.Test.YtignjjnflcpiiaaDoorVmG
set_option linter.unusedVariables false
set_option linter.unusedSimpArgs false
namespace Go.Proofs.YtignjjnflcpiiaaDoor
open Go.RowKit

def upd (γ : Gh) (id : Nat) (v : Value × Value) : Gh := fun i => match Nat.beq i id with
  | true => v
  | false => γ i
theorem upd_same (γ : Gh) (id : Nat) (v : Value × Value) : upd γ id v id = v := by unfold upd; rw [Nat.beq_refl]
theorem upd_ne (γ : Gh) {id i : Nat} (v : Value × Value) (h : i ≠ id) : upd γ id v i = γ i := by unfold upd; rw [beq_ne h]
theorem kill_rep {w w' : World} {N : Nat} {M M' : Nat → Prop} {γ : Gh} {t : Nat} {u : Value × Value} {v : AV} {x : Value} (h : Rep w N M (fun i => (γ i).1) v x) (hw : ∀ b, b < w.heap.size → ¬ M b → w'.heap[b]? = w.heap[b]?) (hM : ∀ b, b < w.heap.size → M' b → M b) : Rep w' N M' (fun i => (upd γ t u i).1) (v.kill t) x := by
  unfold AV.kill
  cases hm : v.ment t with
  | true => exact .any _ _
  | false =>
    refine h.mono hw hM (Nat.le_refl _) _ (fun id hid => ?_)
    have : id ≠ t := fun e => by rw [e, hm] at hid; cases hid
    simp only [upd_ne γ u this]

/-- slot values and objects but for object old -/
def St.drop (σ : St) (old : Option Nat) : St := match old with
  | some i => σ.set i none
  | none => σ
theorem drop_heap {σ : St} {old : Option Nat} {id : Nat} {o : AObj} (h : (σ.drop old).heap id = some o) : σ.heap id = some o ∧ old ≠ some id := by
  cases old with
  | none => exact ⟨h, fun e => by cases e⟩
  | some i =>
    change (match Nat.beq id i with | true => none | false => σ.heap id) = some o at h
    cases hb : Nat.beq id i with
    | true => rw [hb] at h; cases h
    | false =>
      rw [hb] at h
      exact ⟨h, fun e => by cases e; rw [Nat.beq_refl] at hb; cases hb⟩
theorem drop_env (σ : St) (old : Option Nat) : (σ.drop old).env = σ.env := by cases old <;> rfl
theorem kill_heap {σ : St} {t id : Nat} {o : AObj} (h : (σ.kill t).heap id = some o) : id ≠ t ∧ ∃ o', σ.heap id = some o' ∧ o = o'.kill t := by
  change (match Nat.beq id t with | true => none | false => (σ.heap id).map (AObj.kill t)) = some o at h
  cases hb : Nat.beq id t with
  | true => rw [hb] at h; cases h
  | false =>
    rw [hb] at h
    refine ⟨fun e => (by rw [e, Nat.beq_refl] at hb; cases hb), ?_⟩
    cases ho : σ.heap id with
    | none => rw [ho] at h; cases h
    | some o' => rw [ho] at h; cases h; exact ⟨o', rfl, rfl⟩
theorem set_heap {σ : St} {t id : Nat} {p : Option AObj} {o : AObj} (h : (σ.set t p).heap id = some o) : (id = t ∧ p = some o) ∨ (id ≠ t ∧ σ.heap id = some o) := by
  change (match Nat.beq id t with | true => p | false => σ.heap id) = some o at h
  cases hb : Nat.beq id t with
  | true => rw [hb] at h; exact Or.inl ⟨Nat.eq_of_beq_eq_true hb, h⟩
  | false => rw [hb] at h; exact .inr ⟨fun e => (by rw [e, Nat.beq_refl] at hb; cases hb), h⟩

theorem ObjRep.killed {w w' : World} {N : Nat} {M M' : Nat → Prop} {γ : Gh} {t id : Nat} {u : Value × Value} {o : AObj} (hne : id ≠ t) (h : ObjRep w N M γ id o) (hw : ∀ b, b < w.heap.size → ¬ M b → w'.heap[b]? = w.heap[b]?) (hM : ∀ b, b < w.heap.size → M' b → M b)
    (hb : ∀ b, Blk γ id b → w'.heap[b]? = w.heap[b]?) : ObjRep w' N M' (upd γ t u) id (o.kill t) := by
  have h' := h.mono hw hM hb
  cases o with
  | box cells =>
    obtain ⟨b, c, e, hg, hh, hs, hr⟩ := h
    refine ⟨b, c, e, by rw [upd_ne _ _ hne]; exact hg, ?_, by simpa using hs, fun j hj => ?_⟩
    · rw [hb b (.inl (by rw [hg]; rfl))]; exact hh
    · simp only [List.length_map] at hj
      obtain ⟨v, hv, hr⟩ := hr j hj
      refine ⟨v, hv, ?_⟩
      rw [List.getElem_map]
      exact kill_rep hr hw hM
  | rows e sz rows =>
    obtain ⟨v, cs, hg, r⟩ := h'
    exact ⟨v, cs, by rw [upd_ne _ _ hne]; exact hg, r⟩
  | pts e l =>
    obtain ⟨v, cs, hg, r⟩ := h'
    exact ⟨v, cs, by rw [upd_ne _ _ hne]; exact hg, r⟩
  | bld e eb l =>
    obtain ⟨b, v, cs, p, hg, r⟩ := h'
    exact ⟨b, v, cs, p, by rw [upd_ne _ _ hne]; exact hg, r⟩
  | iter s pos =>
    obtain ⟨b, hg, r⟩ := h'
    exact ⟨b, by rw [upd_ne _ _ hne]; exact hg, r⟩
  | nest cells k e sz rows =>
    obtain ⟨b, c, t, v, cs, hg, r⟩ := h'
    exact ⟨b, c, t, v, cs, by rw [upd_ne _ _ hne]; exact hg, r⟩

section
variable {C : Cx} {γ : Gh} {σ : St} {a : Act} {w w' : World}
/-- a new object t, in new blocks or in those of an object that goes -/
theorem SR.renew (s : SR C γ σ a w) (old : Option Nat) (t : Nat) (u : Value × Value) (o : AObj) (hpin : C.pin t = none) (hold : ∀ i, old = some i → ∃ p, σ.heap i = some p)
    (hos : w'.os = w.os) (htp : w'.tape = w.tape) (hout : w'.output = w.output) (hsz : w.heap.size ≤ w'.heap.size)
    (hblk : ∀ b, b < w.heap.size → (∀ i, old = some i → ¬ Blk γ i b) → w'.heap[b]? = w.heap[b]?)
    (hnew : ∀ b, Blk (upd γ t u) t b → b < w'.heap.size ∧ (w.heap.size ≤ b ∨ ∃ i, old = some i ∧ Blk γ i b)) (h2 : ∀ b, vblock u.1 = some b → vblock u.2 ≠ some b)
    (ho : ∀ M' : Nat → Prop, (∀ b, b < w.heap.size → M' b → Mut γ σ.heap b) → ObjRep w' C.N M' (upd γ t u) t o) : SR C (upd γ t u) (((σ.drop old).kill t).set t (some o)) a w' := by
  have live : ∀ {id : Nat} {p : AObj}, (((σ.drop old).kill t).set t (some o)).heap id = some p → (id = t ∧ p = o) ∨ (id ≠ t ∧ old ≠ some id ∧ ∃ p', σ.heap id = some p' ∧ p = p'.kill t) := by
    intro id p h
    rcases set_heap h with ⟨h1, h2⟩ | ⟨h1, h2⟩
    · cases h2; exact .inl ⟨h1, rfl⟩
    · obtain ⟨h3, o', h4, h5⟩ := kill_heap h2
      obtain ⟨h6, h7⟩ := drop_heap h4
      exact .inr ⟨h1, h7, o', h6, h5⟩
  have blk : ∀ {id b : Nat}, id ≠ t → Blk (upd γ t u) id b → Blk γ id b := fun hne h => by unfold Blk at *; rw [upd_ne _ _ hne] at h; exact h
  have mutd : ∀ b, b < w.heap.size → Mut (upd γ t u) (((σ.drop old).kill t).set t (some o)).heap b → Mut γ σ.heap b := by
    rintro b hb ⟨id, p, h1, h3⟩
    rcases live h1 with ⟨rfl, _⟩ | ⟨hne, _, p', hp', _⟩
    · rcases (hnew b h3).2 with h | ⟨i, hi, h⟩
      · omega
      · obtain ⟨p, hp⟩ := hold i hi
        exact ⟨i, p, hp, h⟩
    · exact ⟨id, p', hp', blk hne h3⟩
  have still : ∀ b, b < w.heap.size → ¬ Mut γ σ.heap b → w'.heap[b]? = w.heap[b]? := fun b hb hm => hblk b hb (fun i hi h => hm (by obtain ⟨p, hp⟩ := hold i hi; exact ⟨i, p, hp, h⟩))
  refine { obj := fun id p h => ?_, disj := fun id id' p p' b h h' hb hb' => ?_, two := fun id p b h => ?_, lt := fun id p b h hb => ?_, chg := ?_, glob := ?_, pins := fun id p v hp h => ?_, env := fun k => ?_, size := s.size, defers := s.defers }
  · rcases live h with ⟨rfl, rfl⟩ | ⟨hne, hno, p', hp', rfl⟩
    · exact ho _ mutd
    · exact (s.obj id p' hp').killed hne still mutd (fun b hb => hblk b (s.lt id p' b hp' hb).1 (fun i hi hbi => by
        obtain ⟨q, hq⟩ := hold i hi
        have := s.disj id i p' q b hp' hq hb hbi
        exact hno (by rw [this]; exact hi)))
  · rcases live h with ⟨rfl, _⟩ | ⟨hne, hno, q, hq, _⟩
    · rcases live h' with ⟨rfl, _⟩ | ⟨hne', hno', q', hq', _⟩
      · rfl
      · have hb' := blk hne' hb'
        rcases (hnew b hb).2 with h1 | ⟨i, hi, h1⟩
        · have := (s.lt id' q' b hq' hb').1; omega
        · obtain ⟨r, hr⟩ := hold i hi
          have := s.disj id' i q' r b hq' hr hb' h1
          exact absurd (by rw [this]; exact hi) hno'
    · have hb1 := blk hne hb
      rcases live h' with ⟨rfl, _⟩ | ⟨hne', hno', q', hq', _⟩
      · rcases (hnew b hb').2 with h1 | ⟨i, hi, h1⟩
        · have := (s.lt id q b hq hb1).1; omega
        · obtain ⟨r, hr⟩ := hold i hi
          have := s.disj id i q r b hq hr hb1 h1
          exact absurd (by rw [this]; exact hi) hno
      · exact s.disj id id' q q' b hq hq' hb1 (blk hne' hb')
  · rcases live h with ⟨rfl, _⟩ | ⟨hne, _, q, hq, _⟩
    · rw [upd_same]; exact h2 b
    · rw [upd_ne _ _ hne]; exact s.two id q b hq
  · rcases live h with ⟨rfl, _⟩ | ⟨hne, _, q, hq, _⟩
    · obtain ⟨h1, h3⟩ := hnew b hb
      refine ⟨h1, ?_⟩
      rcases h3 with h3 | ⟨i, hi, h3⟩
      · exact .inr (Nat.le_trans s.chg.size h3)
      · obtain ⟨r, hr⟩ := hold i hi
        exact (s.lt i r b hr h3).2
    · obtain ⟨h1, h3⟩ := s.lt id q b hq (blk hne hb)
      exact ⟨Nat.lt_of_lt_of_le h1 hsz, h3⟩
  · refine ⟨hos.trans s.chg.os, htp.trans s.chg.tape, hout.trans s.chg.output, Nat.le_trans s.chg.size hsz, fun k hk hm => ?_⟩
    rw [hblk k (Nat.lt_of_lt_of_le hk s.chg.size) (fun i hi h => ?_)]
    · exact s.chg.block k hk hm
    · obtain ⟨r, hr⟩ := hold i hi
      rcases (s.lt i r k hr h).2 with h1 | h1
      · exact hm h1
      · have : C.w0.heap.size ≤ k := h1
        omega
  · refine C.hG w w' s.glob (fun k hk => hblk k (Nat.lt_of_lt_of_le (Nat.lt_of_lt_of_le hk C.hn) s.chg.size) (fun i hi h => ?_))
    obtain ⟨r, hr⟩ := hold i hi
    have hn := C.hn
    rcases (s.lt i r k hr h).2 with h1 | h1
    · have := C.hM k h1; omega
    · omega
  · rcases live h with ⟨rfl, _⟩ | ⟨hne, _, q, hq, _⟩
    · rw [hpin] at hp; cases hp
    · rw [upd_ne _ _ hne]; exact s.pins id q v hp hq
  · show Rep w' C.N _ _ ((((σ.drop old).kill t).set t (some o)).env k) _
    have : (((σ.drop old).kill t).set t (some o)).env k = (σ.env k).kill t := by
      show ((σ.drop old).env k).kill t = _
      rw [drop_env]
    rw [this]
    exact kill_rep (s.env k) still mutd

/-- an object written in place -/
theorem SR.update (s : SR C γ σ a w) {id : Nat} {o : AObj} (hid : σ.heap id = some o) (o' : AObj)
    (hos : w'.os = w.os) (htp : w'.tape = w.tape) (hout : w'.output = w.output) (hsz : w.heap.size ≤ w'.heap.size)
    (hblk : ∀ b, b < w.heap.size → ¬ Blk γ id b → w'.heap[b]? = w.heap[b]?) (ho : ObjRep w' C.N (Mut γ σ.heap) γ id o') : SR C γ (σ.set id (some o')) a w' := by
  have hlive : ∀ {i : Nat} {p : AObj}, (σ.set id (some o')).heap i = some p → (i = id ∧ p = o') ∨ (i ≠ id ∧ σ.heap i = some p) := fun h => by
    rcases set_heap h with ⟨h1, h2⟩ | h
    · cases h2; exact .inl ⟨h1, rfl⟩
    · exact .inr h
  have hlive' : ∀ {i : Nat} {p : AObj}, (σ.set id (some o')).heap i = some p → ∃ q, σ.heap i = some q := fun h => by
    rcases hlive h with ⟨rfl, _⟩ | ⟨_, h⟩
    · exact ⟨o, hid⟩
    · exact ⟨_, h⟩
  have mutd : ∀ b, b < w.heap.size → Mut γ (σ.set id (some o')).heap b → Mut γ σ.heap b := fun b _ ⟨i, p, h1, h2⟩ => by
    obtain ⟨q, hq⟩ := hlive' h1
    exact ⟨i, q, hq, h2⟩
  have mutd' : ∀ b, Mut γ (σ.set id (some o')).heap b → Mut γ σ.heap b := fun b ⟨i, p, h1, h2⟩ => by
    obtain ⟨q, hq⟩ := hlive' h1
    exact ⟨i, q, hq, h2⟩
  have still : ∀ b, b < w.heap.size → ¬ Mut γ σ.heap b → w'.heap[b]? = w.heap[b]? := fun b hb hm => hblk b hb (fun h => hm ⟨id, o, hid, h⟩)
  refine { obj := fun i p h => ?_, disj := fun i i' p p' b h h' hb hb' => ?_, two := fun i p b h => ?_, lt := fun i p b h hb => ?_, chg := ?_, glob := ?_, pins := fun i p v hp h => (by obtain ⟨q, hq⟩ := hlive' h; exact s.pins i q v hp hq), env := fun k => ?_, size := s.size, defers := s.defers }
  · rcases hlive h with ⟨rfl, rfl⟩ | ⟨hne, h⟩
    · exact ho.mono (fun _ _ _ => rfl) (fun b _ => mutd' b) (fun _ _ => rfl)
    · exact (s.obj i p h).mono still mutd (fun b hb => hblk b (s.lt i p b h hb).1 (fun hbi => hne (s.disj i id p o b h hid hb hbi)))
  · obtain ⟨q, hq⟩ := hlive' h
    obtain ⟨q', hq'⟩ := hlive' h'
    exact s.disj i i' q q' b hq hq' hb hb'
  · obtain ⟨q, hq⟩ := hlive' h
    exact s.two i q b hq
  · obtain ⟨q, hq⟩ := hlive' h
    obtain ⟨h1, h2⟩ := s.lt i q b hq hb
    exact ⟨Nat.lt_of_lt_of_le h1 hsz, h2⟩
  · refine ⟨hos.trans s.chg.os, htp.trans s.chg.tape, hout.trans s.chg.output, Nat.le_trans s.chg.size hsz, fun k hk hm => ?_⟩
    rw [hblk k (Nat.lt_of_lt_of_le hk s.chg.size) (fun h => ?_)]
    · exact s.chg.block k hk hm
    · rcases (s.lt id o k hid h).2 with h1 | h1
      · exact hm h1
      · have : C.w0.heap.size ≤ k := h1
        omega
  · refine C.hG w w' s.glob (fun k hk => hblk k (Nat.lt_of_lt_of_le (Nat.lt_of_lt_of_le hk C.hn) s.chg.size) (fun h => ?_))
    have hn := C.hn
    rcases (s.lt id o k hid h).2 with h1 | h1
    · have := C.hM k h1; omega
    · omega
  · exact (s.env k).mono still mutd (Nat.le_refl _) _ (fun _ _ => rfl)
end
end Go.Proofs.YtignjjnflcpiiaaDoor
