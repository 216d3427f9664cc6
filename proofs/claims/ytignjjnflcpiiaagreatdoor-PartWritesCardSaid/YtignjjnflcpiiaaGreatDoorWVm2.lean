import Derived.Test.YtignjjnflcpiiaaGreatDoorWVm1
import Derived.Laws.Build
import Derived.Laws.Tables
import Derived.Great.BuildSlice
import Derived.Laws.IdiomStrings
import Derived.Laws.StructEq
set_option linter.unusedVariables false
set_option linter.unusedSimpArgs false
set_option maxHeartbeats 1000000
namespace Go.Proofs.YtignjjnflcpiiaaGreatDoor
open Go.RowKit
def envL : List (Nat × AV) → Nat → AV
  | [], _ => .any
  | (j, v) :: r, i => match Nat.beq i j with
    | true => v
    | false => envL r i
def heapL : List (Nat × AObj) → Nat → Option AObj
  | [], _ => none
  | (j, o) :: r, i => match Nat.beq i j with
    | true => some o
    | false => heapL r i
def st (L : List (Nat × AV)) (H : List (Nat × AObj)) : St := ⟨envL L, heapL H⟩
def AllE (σ : St) : List (Nat × AV) → Prop
  | [] => True
  | (j, v) :: r => σ.env j = v ∧ AllE σ r
def AllH (σ : St) : List (Nat × AObj) → Prop
  | [] => True
  | (j, o) :: r => σ.heap j = some o ∧ AllH σ r
theorem envL_of {σ : St} {t : Nat} : ∀ {L : List (Nat × AV)}, AllE σ L → envL L t = .any ∨ envL L t = σ.env t
  | [], _ => .inl rfl
  | (j, v) :: r, h => by
    rw [envL]
    cases hb : Nat.beq t j with
    | true => exact .inr (by rw [Nat.eq_of_beq_eq_true hb]; exact h.1.symm)
    | false => exact envL_of h.2
theorem heapL_of {σ : St} {t : Nat} {o : AObj} : ∀ {H : List (Nat × AObj)}, AllH σ H → heapL H t = some o → σ.heap t = some o
  | (j, p) :: r, h, he => by
    rw [heapL] at he
    cases hb : Nat.beq t j with
    | true =>
      rw [hb] at he
      rw [Nat.eq_of_beq_eq_true hb]
      exact h.1.trans he
    | false =>
      rw [hb] at he
      exact heapL_of h.2 he
section
variable {C : Cx}
theorem SR.less {γ : Gh} {σ : St} {a : Act} {w : World} (s : SR C γ σ a w) {τ : St} (he : ∀ t, τ.env t = .any ∨ τ.env t = σ.env t) (hh : ∀ t o, τ.heap t = some o → σ.heap t = some o) : SR C γ τ a w := by
  have hM : ∀ b, b < w.heap.size → Mut γ τ.heap b → Mut γ σ.heap b := fun b _ ⟨id, o, h1, h2⟩ => ⟨id, o, hh id o h1, h2⟩
  refine { obj := fun id o h => ?_, disj := fun id id' o o' b h h' => s.disj id id' o o' b (hh _ _ h) (hh _ _ h'), two := fun id o b h => s.two id o b (hh _ _ h), lt := fun id o b h => s.lt id o b (hh _ _ h), chg := s.chg, glob := s.glob, pins := fun id o v hp h => s.pins id o v hp (hh _ _ h), env := fun t => ?_, size := s.size, defers := s.defers }
  · exact (s.obj id o (hh _ _ h)).mono (fun _ _ _ => rfl) hM (fun _ _ => rfl)
  · rcases he t with h | h
    · rw [h]; exact .any _ _
    · rw [h]; exact (s.env t).mono (fun _ _ _ => rfl) hM (Nat.le_refl _) _ (fun _ _ => rfl)
theorem weak_st {σ : St} {L : List (Nat × AV)} {H : List (Nat × AObj)} (hL : AllE σ L) (hH : AllH σ H) : Weak C σ (st L H) := fun γ _ _ s => ⟨γ, s.less (fun _ => envL_of hL) (fun _ _ h => heapL_of hH h)⟩
end
end Go.Proofs.YtignjjnflcpiiaaGreatDoor
/- Memory that is read: places of fields and elements, loads, lengths, structs and slices that are made and not written, texts out of bytes, comparisons. -/
namespace Go.Proofs.YtignjjnflcpiiaaGreatDoor
open Go.RowKit
def fieldB (P : Program) (t : TypeId) (f off : Nat) : Bool := match P.underlying t with
  | some (.struct fs) => match fs[f]? with
    | some x => Nat.beq x.offset off && (match P.info? x.type with
      | some i => Nat.blt 0 i.size
      | none => false)
    | none => false
  | _ => false
def sizeB (P : Program) (e : TypeId) (sz : Nat) : Bool := match P.info? e with
  | some i => Nat.beq i.size sz
  | none => false
theorem sizeB_spec {P : Program} {e : TypeId} {sz : Nat} (h : sizeB P e sz = true) (w : World) : (sizeOf e).run P w = .ok sz w := by
  unfold sizeB at h
  cases hi : P.info? e with
  | none => rw [hi] at h; cases h
  | some i => rw [hi] at h; simp [sizeOf, typeInfo, hi, Nat.eq_of_beq_eq_true h]
theorem fieldB_spec {P : Program} {t : TypeId} {f off : Nat} (h : fieldB P t f off = true) (b o : Nat) (w : World) : (Instr.fieldAt t (.pointer (some ⟨b, o, none⟩)) f).run P w = .ok (.pointer (some ⟨b, o + off, none⟩)) w := by
  unfold fieldB at h
  cases hu : P.underlying t with
  | none => rw [hu] at h; cases h
  | some d =>
    rw [hu] at h
    cases d with
    | struct fs =>
      simp only at h
      cases hf : fs[f]? with
      | none => rw [hf] at h; cases h
      | some x =>
        rw [hf] at h
        simp only [Bool.and_eq_true] at h
        obtain ⟨h1, h2⟩ := h
        cases hi : P.info? x.type with
        | none => rw [hi] at h2; cases h2
        | some i =>
          rw [hi] at h2
          have h3 : i.size ≠ 0 := by have := blt_lt h2; omega
          have h4 := Nat.eq_of_beq_eq_true h1
          simp only [Instr.fieldAt, Sem.run_bind, run_underlying hu, Result.andThen_ok, hf, Instr.sureAddr, Sem.run_pure, fieldPlace, sizeOf, typeInfo, run_program, hi]
          simp [h3, h4, Addr.add_lit]
    | _ => cases h
theorem FRep.rep {w : World} {N : Nat} {M : Nat → Prop} {γ : Nat → Value} {v : AV} {x : Value} (h : FRep v x) : Rep w N M γ v x := by
  cases h with
  | any v => exact .any _ _
  | bool b => exact .bool _ _
  | int k n => exact .int _ _ _
  | str s => exact .str _ _
section
variable {C : Cx} {γ : Gh} {H : Heap} {w : World}
theorem HR.boxCell (h : HR C γ H w) {id : Nat} {cells : List AV} (hid : H id = some (.box cells)) {b : Nat} (hb : (γ id).1 = .pointer (some ⟨b, 0, none⟩)) {j : Nat} {v : AV} (hj : cells[j]? = some v) :
    ∃ x, w.cell? ⟨b, j, none⟩ = some x ∧ Rep w C.N (Mut γ H) (fun i => (γ i).1) v x := by
  obtain ⟨b', c, e, h1, h2, h3, h4⟩ := box_cells h hid
  rw [hb] at h1
  cases h1
  obtain ⟨hl, he⟩ := List.getElem?_eq_some_iff.1 hj
  obtain ⟨x, hx, hr⟩ := h4 j hl
  rw [he] at hr
  exact ⟨x, by rw [cell_of_row w b j c e (0, 0) h2]; exact hx, hr⟩
theorem HR.rowCell (h : HR C γ H w) {id : Nat} {e : TypeId} {sz : Nat} {rows : List (List AV)} (hid : H id = some (.rows e sz rows)) {i j : Nat} {r : List AV} {v : AV} (hi : rows[i]? = some r) (hj : r[j]? = some v) :
    ∃ g n cap x, (γ id).1 = .slice (some ⟨g, 0, none⟩) n cap ∧ w.cell? ⟨g, i * sz + j, none⟩ = some x ∧ FRep v x := by
  obtain ⟨u, cs, hg, hown, hs, hl, hr⟩ := h.obj id _ hid
  obtain ⟨hil, hie⟩ := List.getElem?_eq_some_iff.1 hi
  subst hie
  obtain ⟨hjl, hje⟩ := List.getElem?_eq_some_iff.1 hj
  subst hje
  obtain ⟨x, hx, hf⟩ := hr i hil j hjl
  obtain ⟨hcl, h2⟩ := hown
  rcases h2 with ⟨rfl, h0⟩ | ⟨g, cap, cur, rfl, _, hh, hnc, _, hcs, htk⟩
  · omega
  · refine ⟨g, _, cap, x, by rw [hg], ?_, hf⟩
    have h1 : i * sz + j < rows.length * sz := by
      have : (i + 1) * sz ≤ rows.length * sz := Nat.mul_le_mul_right _ hil
      have := hl i hil
      rw [Nat.add_mul] at *
      omega
    rw [cell_of_row w g _ cur e (0, 0) hh]
    rw [← htk, List.getElem?_take, if_pos h1] at hx
    simpa using hx
end
def ptCells (fr : Bool) (p : PT) : List AV := [.ro fr 2 (fieldRows p.head), .str p.body, .bool p.many, .pts fr p.parts]
section
variable {C : Cx} {σ : St} {d : Option Nat} {ty : TypeId} {pos : String} {af : Array Edge} {g : Option (Nat × Bool)} {x y : Operand} {t : TypeId}
theorem q_mkiface {v : AV} (hx : σ.ev x = v) (ht : C.P.concrete t = true) : Qd C ⟨d, .makeInterface t x, ty, pos, af, g⟩ σ (.iface t v) := qd_of fun γ a w _ he => by
  have e := he x (by simp [Op.operands])
  rw [hx] at e
  exact ⟨.iface t (a.eval x), w, by simp [execOp, run_makeInterface w t _ ht], ext_refl w, .iface _ _ _ _ e⟩
theorem q_field {f off id fo : Nat} (hx : σ.ev x = .ptr id fo) (ht : fieldB C.P t f off = true) : Qd C ⟨d, .fieldAddr t x f, ty, pos, af, g⟩ σ (.ptr id (fo + off)) := qd_of fun γ a w _ he => by
  have e := he x (by simp [Op.operands])
  rw [hx] at e
  obtain ⟨b, h1, h2⟩ := e.ptr_inv
  exact ⟨_, w, by simp [execOp, h2, fieldB_spec ht], ext_refl w, .ptr _ _ _ _ h1⟩
theorem q_fielde {f off id sz i fo : Nat} (hx : σ.ev x = .eptr id sz i fo) (ht : fieldB C.P t f off = true) : Qd C ⟨d, .fieldAddr t x f, ty, pos, af, g⟩ σ (.eptr id sz i (fo + off)) := qd_of fun γ a w _ he => by
  have e := he x (by simp [Op.operands])
  rw [hx] at e
  obtain ⟨b, n, cap, h1, h2⟩ := e.eptr_inv
  exact ⟨.pointer (some ⟨b, i * sz + (fo + off), none⟩), w, by simp [execOp, h2, fieldB_spec ht, Nat.add_assoc], ext_refl w, .eptr _ _ _ _ _ _ _ _ h1⟩
theorem rptr_drop {w : World} {N : Nat} {M : Nat → Prop} {γ : Nat → Value} {fr : Bool} {cells : List AV} {b o : Nat} {cs : Nat → Value} (off : Nat) (hof : off < cells.length)
    (h : Still N M fr b ∧ 0 < cells.length ∧ (∀ j, j < cells.length → w.cell? ⟨b, o + j, none⟩ = some (cs j)) ∧ ∀ j (h : j < cells.length), Rep w N M g0 cells[j] (cs j)) : Rep w N M γ (.rptr fr (cells.drop off)) (.pointer (some ⟨b, o + off, none⟩)) := by
  obtain ⟨h1, h2, h3, h4⟩ := h
  refine .rptr _ _ _ _ _ (fun j => cs (off + j)) h1 (by simp; omega) (fun j hj => ?_) (fun j hj => ?_)
  · simp at hj
    rw [Nat.add_assoc]
    exact h3 (off + j) (by omega)
  · simp at hj
    rw [List.getElem_drop]
    exact h4 (off + j) (by omega)
theorem q_fieldr {f off : Nat} {fr : Bool} {cells : List AV} (hx : σ.ev x = .rptr fr cells) (ht : fieldB C.P t f off = true) (hof : off < cells.length) : Qd C ⟨d, .fieldAddr t x f, ty, pos, af, g⟩ σ (.rptr fr (cells.drop off)) := qd_of fun γ a w _ he => by
  have e := he x (by simp [Op.operands])
  rw [hx] at e
  obtain ⟨b, o, cs, h, h2⟩ := e.rptr_inv
  exact ⟨_, w, by simp [execOp, h2, fieldB_spec ht], ext_refl w, rptr_drop off hof h⟩
theorem run_indexAt_sl {P : Program} {w : World} {t e : TypeId} {sz : Nat} (ht : P.underlying t = some (.slice e)) (hs : sizeB P e sz = true) (b o len cap : Nat) (k : IntKind) (i : Int) (h0 : 0 ≤ i) (h1 : i.toNat < len) :
    (Instr.indexAt t (.slice (some ⟨b, o, none⟩) len cap) (.int k i)).run P w = .ok (.pointer (some ⟨b, o + i.toNat * sz, none⟩)) w := by
  have h2 : i < len := by omega
  simp [Instr.indexAt, run_underlying ht, asIntOf, h0, h2, sizeB_spec hs, Addr.add_lit]
theorem q_idxro {e : TypeId} {sz : Nat} {fr : Bool} {rows : List (List AV)} {i : Int} {k : IntKind} {r : List AV} (hx : σ.ev x = .ro fr sz rows) (hy : σ.ev y = .int k i) (ht : C.P.underlying t = some (.slice e)) (hs : sizeB C.P e sz = true) (h0 : 0 ≤ i) (hi : rows[i.toNat]? = some r) :
    Qd C ⟨d, .indexAddr t x y, ty, pos, af, g⟩ σ (.rptr fr r) := qd_of fun γ a w _ he => by
  have e1 := he x (by simp [Op.operands])
  have e2 := he y (by simp [Op.operands])
  rw [hx] at e1; rw [hy] at e2
  have e2 := e2.int_inv
  obtain ⟨hil, hie⟩ := List.getElem?_eq_some_iff.1 hi
  rcases e1.ro_inv with ⟨h1, _⟩ | ⟨b, o, cap, cs, hv, hok, h0', hsz, hcap, hc, hl, hr⟩
  · rw [h1] at hil; simp at hil
  · have hlr := hl _ hil
    rw [hie] at hlr
    have hrun := run_indexAt_sl (w := w) ht hs b o rows.length cap k i h0 hil
    refine ⟨.pointer (some ⟨b, o + i.toNat * sz, none⟩), w, by simp [execOp, hv, e2, hrun], ext_refl w, ?_⟩
    refine .rptr _ _ _ _ _ (fun j => cs i.toNat j) hok (by omega) (fun j hj => hc _ hil j (by omega)) (fun j hj => ?_)
    have := hr _ hil j (by rw [hie]; exact hj)
    simp only [hie] at this
    exact this.rep
theorem q_idxpts {e : TypeId} {fr : Bool} {l : List PT} {i : Int} {k : IntKind} {p : PT} (hx : σ.ev x = .pts fr l) (hy : σ.ev y = .int k i) (ht : C.P.underlying t = some (.slice e)) (hs : sizeB C.P e 4 = true) (h0 : 0 ≤ i) (hi : l[i.toNat]? = some p) :
    Qd C ⟨d, .indexAddr t x y, ty, pos, af, g⟩ σ (.rptr fr (ptCells fr p)) := qd_of fun γ a w _ he => by
  have e1 := he x (by simp [Op.operands])
  have e2 := he y (by simp [Op.operands])
  rw [hx] at e1; rw [hy] at e2
  have e2 := e2.int_inv
  obtain ⟨hil, hie⟩ := List.getElem?_eq_some_iff.1 hi
  have e1 := e1.pts_inv
  generalize hev : a.eval x = v at e1
  cases e1 with
  | nil a cap ha => simp at hil
  | mk l b o cap hv pv hok h0' hcap hc hh hp =>
    obtain ⟨c1, c2, c3, c4⟩ := hc _ hil
    have e3 := hh _ hil
    have e4 := hp _ hil
    rw [hie] at c2 c3 e3 e4
    have hrun := run_indexAt_sl (w := w) ht hs b o l.length cap k i h0 hil
    refine ⟨.pointer (some ⟨b, o + i.toNat * 4, none⟩), w, by simp [execOp, hev, e2, hrun], ext_refl w, ?_⟩
    · refine .rptr _ _ _ _ _ (fun j => match j with | 0 => hv i.toNat | 1 => .string ⟨p.body.toArray⟩ | 2 => .bool p.many | _ => pv i.toNat) hok (by simp [ptCells]) (fun j hj => ?_) (fun j hj => ?_)
      · simp [ptCells] at hj
        match j, hj with
        | 0, _ => exact c1
        | 1, _ => exact c2
        | 2, _ => exact c3
        | 3, _ => exact c4
      · simp [ptCells] at hj
        match j, hj with
        | 0, _ => exact .ro _ _ _ _ _ e3
        | 1, _ => exact .str _ _
        | 2, _ => exact .bool _ _
        | 3, _ => exact .pts _ _ _ _ e4
theorem q_idxsl {e e' : TypeId} {sz id : Nat} {rows : List (List AV)} {i : Int} {k : IntKind} (hx : σ.ev x = .sl id) (ho : σ.heap id = some (.rows e' sz rows)) (hy : σ.ev y = .int k i) (ht : C.P.underlying t = some (.slice e)) (hs : sizeB C.P e sz = true) (h0 : 0 ≤ i) (hi : i.toNat < rows.length) :
    Qd C ⟨d, .indexAddr t x y, ty, pos, af, g⟩ σ (.eptr id sz i.toNat 0) := qd_of fun γ a w hh he => by
  have e1 := he x (by simp [Op.operands])
  have e2 := he y (by simp [Op.operands])
  rw [hx] at e1; rw [hy] at e2
  have e2 := e2.int_inv
  have e1 := e1.sl_inv
  obtain ⟨u, cs, hg, hown, hs', hl, hr⟩ := hh.obj id _ ho
  obtain ⟨hcl, h2⟩ := hown
  rcases h2 with ⟨rfl, h0'⟩ | ⟨b, cap, cur, rfl, _, hh', hnc, _, hcs, htk⟩
  · omega
  · have hev : a.eval x = .slice (some ⟨b, 0, none⟩) rows.length cap := by rw [e1, hg]
    have hrun := run_indexAt_sl (w := w) ht hs b 0 rows.length cap k i h0 hi
    refine ⟨.pointer (some ⟨b, i.toNat * sz + 0, none⟩), w, by simp [execOp, hev, e2, hrun], ext_refl w, ?_⟩
    exact .eptr _ _ _ _ _ _ rows.length cap (by rw [hg])
theorem run_indexAt_arr {P : Program} {w : World} {t e n : Nat} {sz : Nat} (ht : P.underlying t = some (.array n e)) (hs : sizeB P e sz = true) (b o : Nat) (k : IntKind) (i : Int) (h0 : 0 ≤ i) (h1 : i.toNat < n) :
    (Instr.indexAt t (.pointer (some ⟨b, o, none⟩)) (.int k i)).run P w = .ok (.pointer (some ⟨b, o + i.toNat * sz, none⟩)) w := by
  have h2 : i < n := by omega
  simp [Instr.indexAt, run_underlying ht, asIntOf, h0, h2, sizeB_spec hs, Addr.add_lit, Instr.sureAddr]
theorem q_idxarr {e n sz id fo : Nat} {i : Int} {k : IntKind} (hx : σ.ev x = .ptr id fo) (hy : σ.ev y = .int k i) (ht : C.P.underlying t = some (.array n e)) (hs : sizeB C.P e sz = true) (h0 : 0 ≤ i) (hi : i.toNat < n) :
    Qd C ⟨d, .indexAddr t x y, ty, pos, af, g⟩ σ (.ptr id (fo + i.toNat * sz)) := qd_of fun γ a w hh he => by
  have e1 := he x (by simp [Op.operands])
  have e2 := he y (by simp [Op.operands])
  rw [hx] at e1; rw [hy] at e2
  have e2 := e2.int_inv
  obtain ⟨b, h1, h2⟩ := e1.ptr_inv
  have hrun := run_indexAt_arr (w := w) ht hs b fo k i h0 hi
  exact ⟨_, w, by simp [execOp, h2, e2, hrun], ext_refl w, .ptr _ _ _ _ h1⟩
theorem q_idxg {e n sz b fo : Nat} {i : Int} {k : IntKind} (hx : σ.ev x = .gptr b fo) (hy : σ.ev y = .int k i) (ht : C.P.underlying t = some (.array n e)) (hs : sizeB C.P e sz = true) (h0 : 0 ≤ i) (hi : i.toNat < n) :
    Qd C ⟨d, .indexAddr t x y, ty, pos, af, g⟩ σ (.gptr b (fo + i.toNat * sz)) := qd_of fun γ a w hh he => by
  have e1 := he x (by simp [Op.operands])
  have e2 := he y (by simp [Op.operands])
  rw [hx] at e1; rw [hy] at e2
  have e2 := e2.int_inv
  have h2 := e1.gptr_inv
  have hrun := run_indexAt_arr (w := w) ht hs b fo k i h0 hi
  exact ⟨_, w, by simp [execOp, h2, e2, hrun], ext_refl w, .gptr _ _ _⟩
theorem run_load_scal {P : Program} {w : World} {t : TypeId} (ht : scalB P t = true) {ad : Addr} {v : Value} (hc : w.cell? ad = some v) : (loadVar t ad).run P w = .ok v w := by
  simp [loadVar, scalB_spec ht, hc]
theorem run_load_agg {P : Program} {w : World} {t n : Nat} (ht : aggB P t n = true) {b o : Nat} {vs : List Value} (hl : vs.length = n) (hc : ∀ j v, vs[j]? = some v → w.cell? ⟨b, o + j, none⟩ = some v) : (loadVar t ⟨b, o, none⟩).run P w = .ok (.agg vs.toArray) w := by
  obtain ⟨a1, a2⟩ := aggB_spec ht w
  have hld := run_loadCells_list (P := P) (w := w) ⟨b, o, none⟩ vs (fun j v hj => by rw [Addr.add_lit]; exact hc j v hj)
  rw [hl] at hld
  simp only [loadVar, Sem.run_bind, a1, a2, Result.andThen_ok, if_true]
  rw [hld]
  rfl
theorem choose_list {n : Nat} {p : Nat → Value → Prop} (h : ∀ j, j < n → ∃ v, p j v) : ∃ vs : List Value, vs.length = n ∧ ∀ j (hj : j < vs.length), p j vs[j] := by
  induction n with
  | zero => exact ⟨[], rfl, fun j hj => absurd hj (Nat.not_lt_zero _)⟩
  | succ n ih =>
    obtain ⟨vs, h1, h2⟩ := ih (fun j hj => h j (by omega))
    obtain ⟨v, hv⟩ := h n (by omega)
    refine ⟨vs ++ [v], by simp [h1], fun j hj => ?_⟩
    by_cases hjn : j < vs.length
    · rw [List.getElem_append_left hjn]; exact h2 j hjn
    · have : j = n := by simp at hj; omega
      subst this
      rw [List.getElem_append_right (by omega)]
      simpa [h1] using hv
theorem q_load {id fo : Nat} {cells : List AV} {v : AV} (hx : σ.ev x = .ptr id fo) (ho : σ.heap id = some (.box cells)) (hv : cells[fo]? = some v) (ht : scalB C.P t = true) : Qd C ⟨d, .load t x, ty, pos, af, g⟩ σ v := qd_of fun γ a w hh he => by
  have e1 := he x (by simp [Op.operands])
  rw [hx] at e1
  obtain ⟨b, h1, h2⟩ := e1.ptr_inv
  obtain ⟨u, hc, hr⟩ := hh.boxCell ho h1 hv
  exact ⟨u, w, by simp [execOp, h2, Instr.loadAt, Instr.sureAddr, run_load_scal ht hc], ext_refl w, hr⟩
theorem q_loade {id sz i fo : Nat} {e' : TypeId} {rows : List (List AV)} {r : List AV} {v : AV} (hx : σ.ev x = .eptr id sz i fo) (ho : σ.heap id = some (.rows e' sz rows)) (hi : rows[i]? = some r) (hv : r[fo]? = some v) (ht : scalB C.P t = true) : Qd C ⟨d, .load t x, ty, pos, af, g⟩ σ v := qd_of fun γ a w hh he => by
  have e1 := he x (by simp [Op.operands])
  rw [hx] at e1
  obtain ⟨b, n, cap, h1, h2⟩ := e1.eptr_inv
  obtain ⟨g', n', cap', u, h3, hc, hr⟩ := hh.rowCell ho hi hv
  rw [h1] at h3
  cases h3
  exact ⟨u, w, by simp [execOp, h2, Instr.loadAt, Instr.sureAddr, run_load_scal ht hc], ext_refl w, hr.rep⟩
theorem q_loadr {fr : Bool} {cells : List AV} {v : AV} (hx : σ.ev x = .rptr fr cells) (hv : cells[0]? = some v) (ht : scalB C.P t = true) (hm : ∀ id, v.ment id = false) : Qd C ⟨d, .load t x, ty, pos, af, g⟩ σ v := qd_of fun γ a w hh he => by
  have e1 := he x (by simp [Op.operands])
  rw [hx] at e1
  obtain ⟨b, o, cs, ⟨h1, h2, h3, h4⟩, h5⟩ := e1.rptr_inv
  obtain ⟨hl, hv'⟩ := List.getElem?_eq_some_iff.1 hv
  have hc := h3 0 hl
  have hr := h4 0 hl
  rw [hv'] at hr
  rw [Nat.add_zero] at hc
  refine ⟨cs 0, w, by simp [execOp, h5, Instr.loadAt, Instr.sureAddr, run_load_scal ht hc], ext_refl w, ?_⟩
  exact hr.mono (fun _ _ _ => rfl) (fun _ _ h => h) (Nat.le_refl _) _ (fun id h => by rw [hm id] at h; cases h)
theorem q_loada {id fo n : Nat} {cells sub : List AV} (hx : σ.ev x = .ptr id fo) (ho : σ.heap id = some (.box cells)) (hs : (cells.drop fo).take n = sub) (hn : fo + n ≤ cells.length) (ht : aggB C.P t n = true) : Qd C ⟨d, .load t x, ty, pos, af, g⟩ σ (.agg sub) := qd_of fun γ a w hh he => by
  have e1 := he x (by simp [Op.operands])
  rw [hx] at e1
  obtain ⟨b, h1, h2⟩ := e1.ptr_inv
  have get : ∀ j, j < n → cells[fo + j]? = sub[j]? := by
    intro j hj
    subst hs
    rw [List.getElem?_take, if_pos hj, List.getElem?_drop]
  have hsl : sub.length = n := by subst hs; simp; omega
  obtain ⟨vs, hl, hvs⟩ := choose_list (n := n) (p := fun j u => w.cell? ⟨b, fo + j, none⟩ = some u ∧ ∀ v, sub[j]? = some v → Rep w C.N (Mut γ σ.heap) (fun i => (γ i).1) v u) (fun j hj => by
    have hj' : sub[j]? = some (sub[j]'(by omega)) := List.getElem?_eq_getElem (by omega)
    obtain ⟨u, hc, hr⟩ := hh.boxCell ho h1 ((get j hj).trans hj')
    exact ⟨u, hc, fun v hv => by rw [hj'] at hv; cases hv; exact hr⟩)
  refine ⟨.agg vs.toArray, w, ?_, ext_refl w, .agg _ _ _ (by rw [hl, hsl]) (fun j hj hj' => (hvs j hj').2 _ (List.getElem?_eq_getElem hj))⟩
  simp [execOp, h2, Instr.loadAt, Instr.sureAddr, run_load_agg ht hl (fun j v hj => by
    obtain ⟨hjl, hje⟩ := List.getElem?_eq_some_iff.1 hj
    rw [← hje]
    exact (hvs j hjl).1)]
theorem q_loadae {id sz i fo n : Nat} {e' : TypeId} {rows : List (List AV)} {r sub : List AV} (hx : σ.ev x = .eptr id sz i fo) (ho : σ.heap id = some (.rows e' sz rows)) (hi : rows[i]? = some r) (hs : (r.drop fo).take n = sub) (hn : fo + n ≤ r.length) (hn0 : 0 < n) (ht : aggB C.P t n = true) : Qd C ⟨d, .load t x, ty, pos, af, g⟩ σ (.agg sub) := qd_of fun γ a w hh he => by
  have e1 := he x (by simp [Op.operands])
  rw [hx] at e1
  obtain ⟨b, n', cap, h1, h2⟩ := e1.eptr_inv
  have get : ∀ j, j < n → r[fo + j]? = sub[j]? := by
    intro j hj
    subst hs
    rw [List.getElem?_take, if_pos hj, List.getElem?_drop]
  have hsl : sub.length = n := by subst hs; simp; omega
  obtain ⟨vs, hl, hvs⟩ := choose_list (n := n) (p := fun j u => w.cell? ⟨b, i * sz + fo + j, none⟩ = some u ∧ ∀ v, sub[j]? = some v → Rep w C.N (Mut γ σ.heap) (fun i => (γ i).1) v u) (fun j hj => by
    have hj' : sub[j]? = some (sub[j]'(by omega)) := List.getElem?_eq_getElem (by omega)
    obtain ⟨g', n'', cap', u, h3, hc, hr⟩ := hh.rowCell ho hi ((get j hj).trans hj')
    rw [h1] at h3
    cases h3
    exact ⟨u, by rw [Nat.add_assoc]; exact hc, fun v hv => by rw [hj'] at hv; cases hv; exact hr.rep⟩)
  refine ⟨.agg vs.toArray, w, ?_, ext_refl w, .agg _ _ _ (by rw [hl, hsl]) (fun j hj hj' => (hvs j hj').2 _ (List.getElem?_eq_getElem hj))⟩
  simp [execOp, h2, Instr.loadAt, Instr.sureAddr, run_load_agg ht hl (fun j v hj => by
    obtain ⟨hjl, hje⟩ := List.getElem?_eq_some_iff.1 hj
    rw [← hje]
    exact (hvs j hjl).1)]
theorem q_loadar {n : Nat} {fr : Bool} {cells sub : List AV} (hx : σ.ev x = .rptr fr cells) (hs : cells.take n = sub) (hn : n ≤ cells.length) (ht : aggB C.P t n = true) (hm : ∀ id, AV.mentL id sub = false) : Qd C ⟨d, .load t x, ty, pos, af, g⟩ σ (.agg sub) := qd_of fun γ a w hh he => by
  have e1 := he x (by simp [Op.operands])
  rw [hx] at e1
  obtain ⟨b, o, cs, ⟨h1, h2, h3, h4⟩, h5⟩ := e1.rptr_inv
  have hsl : sub.length = n := by subst hs; simp; omega
  have hl : ((List.range n).map cs).length = n := by simp
  refine ⟨.agg ((List.range n).map cs).toArray, w, ?_, ext_refl w, .agg _ _ _ (by rw [hl, hsl]) (fun j hj hj' => ?_)⟩
  · simp only [execOp, h5, Instr.loadAt, Instr.sureAddr, Sem.run_bind, Sem.run_pure, Result.andThen_ok, run_load_agg ht hl (fun j v hj => by
      obtain ⟨hjl, hje⟩ := List.getElem?_eq_some_iff.1 hj
      rw [← hje, List.getElem_map, List.getElem_range]
      exact h3 j (by simp at hjl; omega))]
  · rw [List.getElem_map, List.getElem_range]
    have hjc : j < cells.length := by omega
    have he' : sub[j] = cells[j] := by subst hs; rw [List.getElem_take]
    rw [he']
    refine (h4 j hjc).mono (fun _ _ _ => rfl) (fun _ _ h => h) (Nat.le_refl _) _ (fun id h => ?_)
    rw [← he'] at h
    have := AV.mentL_mem (List.getElem_mem hj) h
    rw [hm id] at this
    cases this
theorem run_len_sl {P : Program} {w : World} {t ty e : TypeId} (ht : P.underlying t = some (.slice e)) (b : Option Addr) (n c : Nat) : (Builtin.len_ #[t] ty #[.slice b n c]).run P w = .ok (.int .i64 n) w := by
  simp [Builtin.len_, run_underlying ht, goInt]
theorem q_lenof {e : TypeId} {n : Nat} (hx : ∀ (γ : Gh) (w : World) (v : Value), HR C γ σ.heap w → Rep w C.N (Mut γ σ.heap) (fun i => (γ i).1) (σ.ev x) v → ∃ b c, v = .slice b n c) (ht : C.P.underlying t = some (.slice e)) :
    Qd C ⟨d, .call { callee := .builtin .len, args := #[x], argTypes := #[t] }, ty, pos, af, g⟩ σ (.int .i64 n) := qd_of fun γ a w hh he => by
  have e1 := he x (by simp [Op.operands, Call.operands])
  obtain ⟨b, c, hv⟩ := hx γ w _ hh e1
  exact ⟨.int .i64 n, w, by simp [execOp, resolve, invoke, builtin, hv, run_len_sl ht], ext_refl w, .int _ _ _⟩
theorem q_lenro {e : TypeId} {sz : Nat} {fr : Bool} {rows : List (List AV)} (hx : σ.ev x = .ro fr sz rows) (ht : C.P.underlying t = some (.slice e)) : Qd C ⟨d, .call { callee := .builtin .len, args := #[x], argTypes := #[t] }, ty, pos, af, g⟩ σ (.int .i64 rows.length) :=
  q_lenof (fun γ w v _ h => by
    rw [hx] at h
    rcases h.ro_inv with ⟨rfl, a, c, hv, _⟩ | ⟨b, o, cap, cs, hv, _⟩
    · exact ⟨a, c, hv⟩
    · exact ⟨_, _, hv⟩) ht
theorem q_lenpts {e : TypeId} {fr : Bool} {l : List PT} (hx : σ.ev x = .pts fr l) (ht : C.P.underlying t = some (.slice e)) : Qd C ⟨d, .call { callee := .builtin .len, args := #[x], argTypes := #[t] }, ty, pos, af, g⟩ σ (.int .i64 l.length) :=
  q_lenof (fun γ w v _ h => by
    rw [hx] at h
    have h := h.pts_inv
    cases h with
    | nil a c _ => exact ⟨a, c, rfl⟩
    | mk l b o cap => exact ⟨_, _, rfl⟩) ht
theorem q_lennil {e : TypeId} (hx : σ.ev x = .nils) (ht : C.P.underlying t = some (.slice e)) : Qd C ⟨d, .call { callee := .builtin .len, args := #[x], argTypes := #[t] }, ty, pos, af, g⟩ σ (.int .i64 (0 : Nat)) :=
  q_lenof (fun γ w v _ h => by rw [hx] at h; exact ⟨_, _, h.nils_inv⟩) ht
theorem own_sl {γ : Gh} {w : World} {id : Nat} {e : TypeId} {sz : Nat} {rows : List (List AV)} (hh : HR C γ σ.heap w) (ho : σ.heap id = some (.rows e sz rows)) : ∃ b c, (γ id).1 = .slice b rows.length c := by
  obtain ⟨u, cs, hg, hown, _⟩ := hh.obj id _ ho
  rcases hown.2 with ⟨rfl, h0⟩ | ⟨g, cap, cur, rfl, _⟩
  · exact ⟨none, 0, by rw [hg, h0]⟩
  · exact ⟨_, _, by rw [hg]⟩
theorem q_lensl {e e' : TypeId} {id sz : Nat} {rows : List (List AV)} (hx : σ.ev x = .sl id) (ho : σ.heap id = some (.rows e' sz rows)) (ht : C.P.underlying t = some (.slice e)) : Qd C ⟨d, .call { callee := .builtin .len, args := #[x], argTypes := #[t] }, ty, pos, af, g⟩ σ (.int .i64 rows.length) :=
  q_lenof (fun γ w v hh h => by
    rw [hx] at h
    obtain ⟨b, c, hb⟩ := own_sl hh ho
    exact ⟨b, c, by rw [h.sl_inv]; exact hb⟩) ht
end
end Go.Proofs.YtignjjnflcpiiaaGreatDoor
/- Structs and slices that are made and not written; texts out of bytes; slices of slices; comparisons of errors, pointers, structs. -/
namespace Go.Proofs.YtignjjnflcpiiaaGreatDoor
open Go.RowKit
theorem fill_one (place : Nat → Option (Nat × Nat)) : ∀ (parts : List (Nat × Value)) (cells : Array Value), (∀ p ∈ parts, p.1 < cells.size ∧ p.2.cells = #[p.2] ∧ place p.1 = some (p.1, 1)) →
    Instr.fill place cells parts = some (parts.foldl (fun cs p => cs.setIfInBounds p.1 p.2) cells)
  | [], cells, _ => rfl
  | (i, v) :: rest, cells, h => by
    obtain ⟨h1, h2, h3⟩ := h (i, v) List.mem_cons_self
    simp only at h1 h2 h3
    have hsz : v.cells.size = 1 := by rw [h2]; rfl
    rw [Instr.fill, h3]
    simp only [hsz]
    rw [if_neg (by simp; omega), h2]
    have ih := fill_one place rest (cells.setIfInBounds i v) (fun p hp => by
      obtain ⟨a, b, c⟩ := h p (List.mem_cons_of_mem _ hp)
      exact ⟨by simpa using a, b, c⟩)
    simpa using ih
theorem foldl_set (l : List Value) : ∀ (k : Nat) (pre post : List Value), pre.length = k → post.length = l.length →
    ((l.zipIdx 0).foldl (fun (cs : Array Value) (x : Value × Nat) => cs.setIfInBounds (k + x.2) x.1) (pre ++ post).toArray) = (pre ++ l).toArray := by
  intro k pre post hpre hpost
  suffices key : ∀ (l : List Value) (n : Nat) (pre post : List Value), pre.length = k + n → post.length = l.length →
      ((l.zipIdx n).foldl (fun (cs : Array Value) (x : Value × Nat) => cs.setIfInBounds (k + x.2) x.1) (pre ++ post).toArray) = (pre ++ l).toArray from key l 0 pre post (by omega) hpost
  intro l
  induction l with
  | nil =>
    intro n pre post h1 h2
    have : post = [] := List.eq_nil_of_length_eq_zero h2
    subst this
    rfl
  | cons v r ih =>
    intro n pre post h1 h2
    match post, h2 with
    | p :: post, h2 =>
      rw [List.zipIdx_cons, List.foldl_cons]
      have : ((pre ++ p :: post).toArray.setIfInBounds (k + n) v) = ((pre ++ [v]) ++ post).toArray := by
        rw [List.setIfInBounds_toArray, ← h1]
        simp
      rw [this, ih (n + 1) (pre ++ [v]) post (by simp; omega) (by simpa using h2)]
      simp
theorem fill_agg (place : Nat → Option (Nat × Nat)) (v : Value) (cells : Array Value) (hp : place 0 = some (0, cells.size)) (hv : v.cells.size = cells.size) : Instr.fill place cells [(0, v)] = some v.cells := by
  rw [Instr.fill, hp]
  simp only [hv]
  rw [if_neg (by simp)]
  have := foldl_set v.cells.toList 0 [] cells.toList rfl (by simpa using hv.symm)
  simp only [List.nil_append, Array.toArray_toList] at this
  rw [Instr.fill]
  rw [← Array.foldl_toList, Array.toList_zipIdx]
  exact congrArg some this
def AV.one : AV → Bool
  | .any | .agg _ | .tup _ | .sl _ => false
  | _ => true
theorem Rep.one {w : World} {N : Nat} {M : Nat → Prop} {γ : Nat → Value} {v : AV} {x : Value} (h : Rep w N M γ v x) (h1 : v.one = true) : x.cells = #[x] ∧ x.oneCell' = true := by
  cases h with
  | any => cases h1
  | agg => cases h1
  | tup => cases h1
  | sl => cases h1
  | ro _ _ _ _ _ h =>
    rcases h with ⟨_, a, c, rfl, _⟩ | ⟨b, o, cap, cs, rfl, _⟩ <;> exact ⟨rfl, rfl⟩
  | pts _ _ _ _ h => cases h <;> exact ⟨rfl, rfl⟩
  | _ => exact ⟨rfl, rfl⟩
theorem FRep.one {v : AV} {x : Value} (h : FRep v x) (h1 : v.one = true) : x.cells = #[x] := by
  cases h with
  | any => cases h1
  | _ => rfl
def AV.flat : AV → Bool
  | .bool _ | .int _ _ | .str _ => true
  | _ => false
theorem Rep.flat {w : World} {N : Nat} {M : Nat → Prop} {γ : Nat → Value} {v : AV} {x : Value} (h : Rep w N M γ v x) (h1 : v.flat = true) : FRep v x := by
  cases h with
  | bool => exact .bool _
  | int => exact .int _ _
  | str => exact .str _
  | _ => cases h1
theorem flat_one {v : AV} (h : v.flat = true) : v.one = true := by cases v <;> first | rfl | cases h
def zeroL (P : Program) (t : TypeId) : Option (List AV) := match P.info? t with
  | some i => match i.zero with
    | some v => some (v.cells.toList.map ofConst)
    | none => none
  | none => none
def allOnes (P : Program) : Nat → List Field → Bool
  | _, [] => true
  | k, f :: r => Nat.beq f.offset k && sizeB P f.type 1 && allOnes P (k + 1) r
def placesB (P : Program) (t n : Nat) : Bool := match P.underlying t with
  | some (.struct fs) => Nat.beq fs.size n && allOnes P 0 fs.toList
  | some (.array m e) => Nat.beq m n && sizeB P e 1
  | _ => false
def setL (z : List AV) : List (Nat × AV) → List AV
  | [] => z
  | (i, v) :: r => setL (z.set i v) r
theorem zeroL_spec {P : Program} {t : TypeId} {zc : List AV} (h : zeroL P t = some zc) : ∃ it z, P.info? t = some it ∧ it.zero = some z ∧ z.cells.toList.map ofConst = zc := by
  unfold zeroL at h
  cases hi : P.info? t with
  | none => rw [hi] at h; cases h
  | some it =>
    rw [hi] at h
    simp only at h
    cases hz : it.zero with
    | none => rw [hz] at h; cases h
    | some z => rw [hz] at h; cases h; exact ⟨it, z, rfl, hz, rfl⟩
theorem sizeB_info {P : Program} {e : TypeId} {sz : Nat} (h : sizeB P e sz = true) : ∃ i, P.info? e = some i ∧ i.size = sz := by
  unfold sizeB at h
  cases hi : P.info? e with
  | none => rw [hi] at h; cases h
  | some i => rw [hi] at h; exact ⟨i, rfl, Nat.eq_of_beq_eq_true h⟩
theorem allOnes_spec {P : Program} : ∀ (fs : List Field) (k : Nat), allOnes P k fs = true → (fs.mapM fun f => (P.info? f.type).map fun i => (f.offset, i.size)) = some ((List.range' k fs.length).map fun i => (i, 1))
  | [], k, _ => rfl
  | f :: r, k, h => by
    simp only [allOnes, Bool.and_eq_true] at h
    obtain ⟨⟨h1, h2⟩, h3⟩ := h
    obtain ⟨i, hi, hs⟩ := sizeB_info h2
    rw [List.mapM_cons, allOnes_spec r (k + 1) h3, hi]
    simp [hs, Nat.eq_of_beq_eq_true h1, List.range'_succ]
theorem built_flat {P : Program} {t n : Nat} {it : TypeInfo} {z : Value} (hi : P.info? t = some it) (hz : it.zero = some z) (hn : z.cells.size = n) (hp : placesB P t n = true) (parts : List (Nat × Value)) (h : ∀ p ∈ parts, p.1 < n ∧ p.2.cells = #[p.2]) :
    P.built t parts = some (parts.foldl (fun cs p => cs.setIfInBounds p.1 p.2) z.cells) := by
  unfold placesB at hp
  unfold Program.built
  cases hu : P.underlying t with
  | none => rw [hu] at hp; cases hp
  | some d =>
    rw [hu] at hp
    cases d with
    | struct fs =>
      simp only [Bool.and_eq_true] at hp
      obtain ⟨h1, h2⟩ := hp
      have h1 := Nat.eq_of_beq_eq_true h1
      simp only [hi, hz, allOnes_spec _ _ h2]
      refine fill_one _ parts _ (fun p hpp => ⟨by rw [hn]; exact (h p hpp).1, (h p hpp).2, ?_⟩)
      have : p.1 < fs.toList.length := by simpa [h1] using (h p hpp).1
      have hlt : p.1 < fs.size := by simpa using this
      simp [hlt]
    | array m e =>
      simp only [Bool.and_eq_true] at hp
      obtain ⟨h1, h2⟩ := hp
      obtain ⟨ie, hie, hse⟩ := sizeB_info h2
      simp only [hi, hz, hie, hse]
      exact fill_one _ parts _ (fun p hpp => ⟨by rw [hn]; exact (h p hpp).1, (h p hpp).2, by simp⟩)
    | _ => cases hp
theorem setL_rep {w : World} {N : Nat} {M : Nat → Prop} {γ : Nat → Value} : ∀ (pv : List (Nat × AV)) (pc : List (Nat × Value)) (zc : List AV) (z : Array Value), pc.length = pv.length → (∀ i (h : i < pv.length) (h' : i < pc.length), pc[i].1 = pv[i].1 ∧ Rep w N M γ pv[i].2 pc[i].2) →
    z.size = zc.length → (∀ i (h : i < zc.length) (h' : i < z.size), Rep w N M γ zc[i] z[i]) → Rep w N M γ (.agg (setL zc pv)) (.agg (pc.foldl (fun cs p => cs.setIfInBounds p.1 p.2) z))
  | [], [], zc, z, _, _, hz, hr => by
    have := Rep.agg γ zc z.toList (by simpa using hz) (fun i hi hx => hr i hi (by simpa using hx))
    simpa [setL] using this
  | (i, v) :: pv, (j, x) :: pc, zc, z, hl, h, hz, hr => by
    have h0 := h 0 (by simp) (by simp)
    simp only [List.getElem_cons_zero] at h0
    obtain ⟨h0, h1⟩ := h0
    subst h0
    rw [setL, List.foldl_cons]
    refine setL_rep pv pc _ _ (by simpa using hl) (fun i hi hx => h (i + 1) (by simpa using hi) (by simpa using hx)) (by simpa using hz) (fun k hk hk' => ?_)
    rw [List.getElem_set, Array.getElem_setIfInBounds (by simpa using hk')]
    by_cases hjk : j = k
    · rw [if_pos hjk, if_pos hjk]; exact h1
    · rw [if_neg hjk, if_neg hjk]; exact hr k (by simpa using hk) (by simpa using hk')
section
variable {C : Cx} {σ : St} {d : Option Nat} {ty : TypeId} {pos : String} {af : Array Edge} {g : Option (Nat × Bool)} {x y : Operand} {t : TypeId}
theorem q_build {parts : Array (Nat × Operand)} {zc : List AV} {pv : List (Nat × AV)} {n : Nat} (hz : zeroL C.P t = some zc) (hn : zc.length = n) (hp : placesB C.P t n = true) (hv : parts.toList.map (fun p => (p.1, σ.ev p.2)) = pv)
    (h1 : (pv.all fun p => Nat.blt p.1 n && p.2.one) = true) {res : List AV} (hr : setL zc pv = res) : Qd C ⟨d, .build t parts, ty, pos, af, g⟩ σ (.agg res) := qd_of fun γ a w hh he => by
  obtain ⟨it, z, hi, hz0, hzc⟩ := zeroL_spec hz
  have hzs : z.cells.size = n := by rw [← hn, ← hzc]; simp
  subst hv hr
  have hone : ∀ p ∈ parts.toList, p.1 < n ∧ (σ.ev p.2).one = true := fun p hp => by
    have := List.all_eq_true.1 h1 (p.1, σ.ev p.2) (List.mem_map.2 ⟨p, hp, rfl⟩)
    simp only [Bool.and_eq_true] at this
    exact ⟨blt_lt this.1, this.2⟩
  have hev : ∀ p ∈ parts.toList, Rep w C.N (Mut γ σ.heap) (fun i => (γ i).1) (σ.ev p.2) (a.eval p.2) := fun p hp => he p.2 (by
    simp only [Op.operands]
    simp only [List.mem_toArray, List.mem_map]
    exact ⟨p, hp, rfl⟩)
  have hb := built_flat hi hz0 hzs hp ((parts.map fun (i, x) => (i, a.eval x)).toList) (fun p hp => by
    simp only [Array.toList_map, List.mem_map] at hp
    obtain ⟨q, hq, rfl⟩ := hp
    exact ⟨(hone q hq).1, ((hev q hq).one (hone q hq).2).1⟩)
  refine ⟨_, w, by simp only [execOp, Sem.run_bind, run_build w t _ _ hb, Result.andThen_ok]; rfl, ext_refl w, ?_⟩
  refine setL_rep _ _ _ _ (by simp) (fun i hi hx => ?_) (by rw [hzs, hn]) (fun i hi hx => ?_)
  · simp only [Array.toList_map, List.getElem_map]
    exact ⟨trivial, hev _ (List.getElem_mem _)⟩
  · subst hzc
    simp only [List.getElem_map, Array.getElem_toList]
    exact ofConst_rep _
theorem q_build0 {zc : List AV} {n : Nat} (hz : zeroL C.P t = some zc) (hn : zc.length = n) (hp : placesB C.P t n = true) : Qd C ⟨d, .build t #[], ty, pos, af, g⟩ σ (.agg zc) := q_build hz hn hp rfl rfl rfl
theorem q_build1 {i : Nat} {zc : List AV} {n : Nat} {u : AV} (hz : zeroL C.P t = some zc) (hn : zc.length = n) (hp : placesB C.P t n = true) (hx : σ.ev x = u) (h1 : (Nat.blt i n && u.one) = true) {res : List AV} (hr : zc.set i u = res) : Qd C ⟨d, .build t #[(i, x)], ty, pos, af, g⟩ σ (.agg res) :=
  q_build (pv := [(i, u)]) hz hn hp (by simp [hx]) (by simpa using h1) hr
theorem q_build2 {i j : Nat} {zc : List AV} {n : Nat} {u v : AV} (hz : zeroL C.P t = some zc) (hn : zc.length = n) (hp : placesB C.P t n = true) (hx : σ.ev x = u) (hy : σ.ev y = v) (h1 : (Nat.blt i n && u.one) = true) (h2 : (Nat.blt j n && v.one) = true) {res : List AV} (hr : (zc.set i u).set j v = res) : Qd C ⟨d, .build t #[(i, x), (j, y)], ty, pos, af, g⟩ σ (.agg res) :=
  q_build (pv := [(i, u), (j, v)]) hz hn hp (by simp [hx, hy]) (by simp only [List.all_cons, List.all_nil, h1, h2]; rfl) hr
theorem q_build3 {i j k : Nat} {zc : List AV} {n : Nat} {x3 : Operand} {u v u3 : AV} (hz : zeroL C.P t = some zc) (hn : zc.length = n) (hp : placesB C.P t n = true) (hx : σ.ev x = u) (hy : σ.ev y = v) (hx3 : σ.ev x3 = u3) (h1 : (Nat.blt i n && u.one) = true) (h2 : (Nat.blt j n && v.one) = true) (h3 : (Nat.blt k n && u3.one) = true) {res : List AV} (hr : ((zc.set i u).set j v).set k u3 = res) : Qd C ⟨d, .build t #[(i, x), (j, y), (k, x3)], ty, pos, af, g⟩ σ (.agg res) :=
  q_build (pv := [(i, u), (j, v), (k, u3)]) hz hn hp (by simp [hx, hy, hx3]) (by simp only [List.all_cons, List.all_nil, h1, h2, h3]; rfl) hr
theorem bs_rows {w : World} {vs : List AV} {xs : List Value} (e : TypeId) (hl : xs.length = vs.length) (h0 : 0 < vs.length) (hr : ∀ i (h : i < vs.length) (h' : i < xs.length), FRep vs[i] xs[i]) (N : Nat) (M : Nat → Prop) (hN : N ≤ w.heap.size) (hM : ∀ b, M b → b < w.heap.size) :
    RowsAt (w.alloc (.cells xs.toArray e)) (Still N M true) 1 (vs.map fun v => [v]) (.slice (some ⟨w.heap.size, 0, none⟩) vs.length vs.length) := by
  refine .inr ⟨w.heap.size, 0, vs.length, fun i _ => xs.getD i undef, by simp, ⟨fun h => absurd (hM _ h) (Nat.lt_irrefl _), fun _ => hN⟩, by simpa using h0, by omega, by simp, fun i hi j hj => ?_, fun i hi => by simp, fun i hi j hj => ?_⟩
  · have hi' : i < xs.length := by rw [hl]; simpa using hi
    have : 0 + i * 1 + j = i := by omega
    rw [this, World.cell?_alloc_new]
    simp [hi']
  · simp at hi hj
    have hi' : i < xs.length := by omega
    subst hj
    simp only [List.getElem_map, List.getElem_cons_zero]
    rw [List.getD_eq_getElem?_getD, List.getElem?_eq_getElem hi']
    exact hr i hi hi'
theorem q_bslice {parts : Array (Nat × Operand)} {xs : List Operand} {vs : List AV} {len : Nat} {e : TypeId} (ht : C.P.underlying t = some (.slice e)) (hs : sizeB C.P e 1 = true) (hz : (zeroL C.P e).isSome = true) (hp : parts.toList = xs.zipIdx.map (fun p => (p.2, p.1))) (hv : xs.map σ.ev = vs) (hl : vs.length = len) (h0 : 0 < len) (hbig : len ≤ 16777216)
    (hf : vs.all AV.flat = true) : Qd C ⟨d, .buildSlice t len parts, ty, pos, af, g⟩ σ (.ro true 1 (vs.map fun v => [v])) := qd_of fun γ a w hh he => by
  obtain ⟨zc, hzc⟩ := Option.isSome_iff_exists.1 hz
  obtain ⟨ie, z, hi, hz0, _⟩ := zeroL_spec hzc
  obtain ⟨ie', hi', hsz⟩ := sizeB_info hs
  rw [hi] at hi'
  cases hi'
  have hxl : xs.length = len := by rw [← hl, ← hv]; simp
  have hmem : ∀ i (h : i < xs.length), Rep w C.N (Mut γ σ.heap) (fun i => (γ i).1) (σ.ev xs[i]) (a.eval xs[i]) := fun i h => he _ (by
    simp only [Op.operands, hp]
    simp only [List.mem_toArray, List.map_map, List.mem_map]
    exact ⟨(xs[i], i), by rw [List.mem_zipIdx_iff_getElem?]; simp [h], rfl⟩)
  have hfl : ∀ i (h : i < xs.length), (σ.ev xs[i]).flat = true := fun i h => by
    subst hv
    exact List.all_eq_true.1 hf _ (List.mem_map.2 ⟨xs[i], List.getElem_mem h, rfl⟩)
  have hfill : Instr.fill (fun i => some (i * ie.size, ie.size)) ((Array.range (len * ie.size)).map (z.cells[· % z.cells.size]!)) (parts.map fun (i, x) => (i, a.eval x)).toList = some (xs.map a.eval).toArray := by
    rw [hsz, fill_one]
    · rw [Array.toList_map, hp, List.map_map, List.foldl_map]
      have := foldl_set (xs.map a.eval) 0 [] ((Array.range (len * 1)).map (z.cells[· % z.cells.size]!)).toList rfl (by simp [hxl])
      simp only [List.nil_append, Array.toArray_toList] at this
      rw [← this, List.zipIdx_map, List.foldl_map]
      simp
    · intro p hp'
      rw [Array.toList_map, hp, List.map_map] at hp'
      obtain ⟨⟨q, j⟩, hq, rfl⟩ := List.mem_map.1 hp'
      obtain ⟨hj, hqe⟩ := List.mem_zipIdx' hq
      simp only [Function.comp]
      have hmj := hmem j hj
      have hfj := hfl j hj
      have hqe' : xs[j] = q := by simpa using hqe.symm
      rw [hqe'] at hmj hfj
      refine ⟨by simp; omega, (hmj.one (flat_one hfj)).1, by simp⟩
  have hrun := run_buildSlice (P := C.P) w t e len (parts.map fun (i, x) => (i, a.eval x)) (xs.map a.eval).toArray ie z ht hi hz0 (by rw [hsz]; omega) (by rw [hsz]; omega) hfill
  refine ⟨_, _, by simp only [execOp, Sem.run_bind, hrun, Result.andThen_ok]; rfl, (Below.refl _ w).alloc (Nat.le_refl _) _, .ro _ _ _ _ _ ?_⟩
  have := bs_rows (w := w) (vs := vs) (xs := xs.map a.eval) e (by subst hv; simp) (by omega) (fun i h h' => by
    subst hv
    simp only [List.getElem_map]
    have hi'' : i < xs.length := by simpa using h'
    exact (hmem i hi'').flat (hfl i hi'')) C.N (Mut γ σ.heap) hh.chg.size (fun b hb => Mut.lt (C := C) (σ := σ) hh hb)
  rw [hl] at this
  exact this
section
variable {e : TypeId} {x1 x2 x3 x4 : Operand} {v1 v2 v3 v4 : AV}
theorem q_bs1 (ht : C.P.underlying t = some (.slice e)) (hs : sizeB C.P e 1 = true) (hz : (zeroL C.P e).isSome = true) (h1 : σ.ev x1 = v1) (f1 : v1.flat = true) : Qd C ⟨d, .buildSlice t 1 #[(0, x1)], ty, pos, af, g⟩ σ (.ro true 1 [[v1]]) :=
  q_bslice (xs := [x1]) (vs := [v1]) ht hs hz rfl (by simp [h1]) rfl (by omega) (by omega) (by simp [f1])
theorem q_bs2 (ht : C.P.underlying t = some (.slice e)) (hs : sizeB C.P e 1 = true) (hz : (zeroL C.P e).isSome = true) (h1 : σ.ev x1 = v1) (h2 : σ.ev x2 = v2) (f1 : v1.flat = true) (f2 : v2.flat = true) : Qd C ⟨d, .buildSlice t 2 #[(0, x1), (1, x2)], ty, pos, af, g⟩ σ (.ro true 1 [[v1], [v2]]) :=
  q_bslice (xs := [x1, x2]) (vs := [v1, v2]) ht hs hz rfl (by simp [h1, h2]) rfl (by omega) (by omega) (by simp [f1, f2])
theorem q_bs3 (ht : C.P.underlying t = some (.slice e)) (hs : sizeB C.P e 1 = true) (hz : (zeroL C.P e).isSome = true) (h1 : σ.ev x1 = v1) (h2 : σ.ev x2 = v2) (h3 : σ.ev x3 = v3) (f1 : v1.flat = true) (f2 : v2.flat = true) (f3 : v3.flat = true) : Qd C ⟨d, .buildSlice t 3 #[(0, x1), (1, x2), (2, x3)], ty, pos, af, g⟩ σ (.ro true 1 [[v1], [v2], [v3]]) :=
  q_bslice (xs := [x1, x2, x3]) (vs := [v1, v2, v3]) ht hs hz rfl (by simp [h1, h2, h3]) rfl (by omega) (by omega) (by simp [f1, f2, f3])
theorem q_bs4 (ht : C.P.underlying t = some (.slice e)) (hs : sizeB C.P e 1 = true) (hz : (zeroL C.P e).isSome = true) (h1 : σ.ev x1 = v1) (h2 : σ.ev x2 = v2) (h3 : σ.ev x3 = v3) (h4 : σ.ev x4 = v4) (f1 : v1.flat = true) (f2 : v2.flat = true) (f3 : v3.flat = true) (f4 : v4.flat = true) : Qd C ⟨d, .buildSlice t 4 #[(0, x1), (1, x2), (2, x3), (3, x4)], ty, pos, af, g⟩ σ (.ro true 1 [[v1], [v2], [v3], [v4]]) :=
  q_bslice (xs := [x1, x2, x3, x4]) (vs := [v1, v2, v3, v4]) ht hs hz rfl (by simp [h1, h2, h3, h4]) rfl (by omega) (by omega) (by simp [f1, f2, f3, f4])
end
theorem run_bsa {w : World} {e sz : Nat} (ht : C.P.underlying t = some (.slice e)) (hs : sizeB C.P e sz = true) (hz : (zeroL C.P e).map List.length = some sz) (h0 : 0 < sz) (hbig : sz ≤ 16777216) (cs : List Value) (hcs : cs.length = sz) :
    (Instr.buildSlice t 1 #[(0, .agg cs.toArray)]).run C.P w = .ok (.slice (some ⟨w.heap.size, 0, none⟩) 1 1) (w.alloc (.cells cs.toArray e)) := by
  cases hzz : zeroL C.P e with
  | none => rw [hzz] at hz; cases hz
  | some zc =>
    rw [hzz] at hz
    obtain ⟨ie, z, hi, hz0, hzc⟩ := zeroL_spec hzz
    obtain ⟨ie', hi', hsz⟩ := sizeB_info hs
    rw [hi] at hi'
    cases hi'
    refine run_buildSlice w t e 1 _ cs.toArray ie z ht hi hz0 (by rw [hsz]; omega) (by rw [hsz]; omega) ?_
    exact fill_agg _ (.agg cs.toArray) _ (by simp) (by simp [Value.cells, hcs, hsz])
theorem q_bsa {e sz : Nat} {l : List AV} (ht : C.P.underlying t = some (.slice e)) (hs : sizeB C.P e sz = true) (hz : (zeroL C.P e).map List.length = some sz) (h0 : 0 < sz) (hbig : sz ≤ 16777216) (hx : σ.ev x = .agg l) (hl : l.length = sz) (hf : l.all AV.flat = true) :
    Qd C ⟨d, .buildSlice t 1 #[(0, x)], ty, pos, af, g⟩ σ (.ro true sz [l]) := qd_of fun γ a w hh he => by
  have e1 := he x (by simp [Op.operands])
  rw [hx] at e1
  obtain ⟨cs, hv, hcl, hr⟩ := e1.agg_inv
  have hrun := run_bsa (C := C) (w := w) ht hs hz h0 hbig cs (by omega)
  refine ⟨.slice (some ⟨w.heap.size, 0, none⟩) 1 1, w.alloc (.cells cs.toArray e), by simp [execOp, hv, hrun], (Below.refl _ w).alloc (Nat.le_refl _) _, .ro _ _ _ _ _ ?_⟩
  refine .inr ⟨w.heap.size, 0, 1, fun _ j => cs.getD j undef, rfl, ⟨fun h => absurd (Mut.lt (C := C) (σ := σ) hh h) (Nat.lt_irrefl _), fun _ => hh.chg.size⟩, by simp, h0, by simp, fun i hi j hj => ?_, fun i hi => ?_, fun i hi j hj => ?_⟩
  · simp at hi
    subst hi
    rw [show 0 + 0 * sz + j = j by omega, World.cell?_alloc_new]
    simp [show j < cs.length by omega]
  · simp at hi; subst hi; exact hl
  · simp at hi
    subst hi
    simp only [List.getElem_cons_zero] at hj ⊢
    rw [List.getD_eq_getElem?_getD, List.getElem?_eq_getElem (by omega)]
    exact (hr j hj (by omega)).flat (List.all_eq_true.1 hf _ (List.getElem_mem _))
def byteRows (l : List UInt8) : List (List AV) := l.map fun c => [.int .u8 c.toNat]
theorem bytes_cells {w : World} {ok : Nat → Prop} {l : List UInt8} {v : Value} (h : RowsAt w ok 1 (byteRows l) v) : (l = [] ∧ ∃ a c, v = .slice a 0 c) ∨ ∃ b o cap, v = .slice (some ⟨b, o, none⟩) l.length cap ∧ ∀ j (hj : j < l.length), w.cell? ((⟨b, o, none⟩ : Addr).add j) = some (.int .u8 (l[j].toNat : Int)) := by
  rcases h with ⟨h, a, c, hv, _⟩ | ⟨b, o, cap, cs, hv, hok, h0, hs, hcap, hc, hl, hr⟩
  · exact .inl ⟨by simpa [byteRows] using h, a, c, hv⟩
  · refine .inr ⟨b, o, cap, by simpa [byteRows] using hv, fun j hj => ?_⟩
    have hj' : j < (byteRows l).length := by simpa [byteRows] using hj
    have h1 := hc j hj' 0 (by omega)
    have h2 := hr j hj' 0 (by simp [byteRows])
    rw [Addr.add_lit]
    rw [show o + j * 1 + 0 = o + j by omega] at h1
    rw [h1]
    simp only [byteRows, List.getElem_map, List.getElem_cons_zero] at h2
    generalize cs j 0 = z at h2 ⊢
    cases h2
    rfl
theorem run_str_bytes {P : Program} {w : World} {s t e : TypeId} (hs : P.underlying s = some (.slice e)) (he : P.underlying e = some (.int .u8)) (ht : P.underlying t = some .string) (a : Option Addr) (c : Nat) : (convert s t (.slice a 0 c)).run P w = .ok (.string ⟨#[]⟩) w := by
  cases a with
  | none => simp [convert, run_underlying hs, run_underlying ht, run_underlying he, Conv.bytesToString]; rfl
  | some a => exact run_convert_bytes_back w s t e a c [] hs he ht (fun j hj => absurd hj (Nat.not_lt_zero _))
theorem q_bstr {fr : Bool} {s e : TypeId} {rows : List (List AV)} (l : List UInt8) (hx : σ.ev x = .ro fr 1 rows) (hl : rows = byteRows l) (hs : C.P.underlying s = some (.slice e)) (he' : C.P.underlying e = some (.int .u8)) (ht : C.P.underlying t = some .string) :
    Qd C ⟨d, .convert s t x, ty, pos, af, g⟩ σ (.str l) := qd_of fun γ a w hh he => by
  have e1 := he x (by simp [Op.operands])
  rw [hx, hl] at e1
  rcases bytes_cells e1.ro_inv with ⟨rfl, ad, c, hv⟩ | ⟨b, o, cap, hv, hc⟩
  · exact ⟨.string ⟨#[]⟩, w, by simp [execOp, hv, run_str_bytes hs he' ht], ext_refl w, .str _ []⟩
  · exact ⟨.string ⟨l.toArray⟩, w, by simp [execOp, hv, run_convert_bytes_back w s t e ⟨b, o, none⟩ cap l hs he' ht hc], ext_refl w, .str _ l⟩
theorem q_bstrsl {id : Nat} {s e e' : TypeId} {rows : List (List AV)} (l : List UInt8) (hx : σ.ev x = .sl id) (ho : σ.heap id = some (.rows e' 1 rows)) (hl : rows = byteRows l) (hs : C.P.underlying s = some (.slice e)) (he' : C.P.underlying e = some (.int .u8)) (ht : C.P.underlying t = some .string) :
    Qd C ⟨d, .convert s t x, ty, pos, af, g⟩ σ (.str l) := qd_of fun γ a w hh he => by
  have e1 := he x (by simp [Op.operands])
  rw [hx] at e1
  have e2 := e1.frz hh false (N' := 0) (fun h => by cases h) (fun h => by cases h)
  rw [AV.fz, ho, hl] at e2
  rcases bytes_cells e2.ro_inv with ⟨rfl, ad, c, hv⟩ | ⟨b, o, cap, hv, hc⟩
  · exact ⟨.string ⟨#[]⟩, w, by simp [execOp, hv, run_str_bytes hs he' ht], ext_refl w, .str _ []⟩
  · exact ⟨.string ⟨l.toArray⟩, w, by simp [execOp, hv, run_convert_bytes_back w s t e ⟨b, o, none⟩ cap l hs he' ht hc], ext_refl w, .str _ l⟩
theorem run_nil_nil {P : Program} {w : World} {t : TypeId} {ms : Array (String × TypeId)} (ht : P.underlying t = some (.interface ms)) : (Op.equal t .nilIface .nilIface).run P w = .ok true w := by
  unfold Op.equal Op.maxDepth
  rw [Op.equalIn]
  simp [run_underlying ht]
theorem run_if_nil {P : Program} {w : World} {t : TypeId} {ms : Array (String × TypeId)} (ht : P.underlying t = some (.interface ms)) (u : TypeId) (v : Value) : (Op.equal t (.iface u v) .nilIface).run P w = .ok false w := by
  unfold Op.equal Op.maxDepth
  rw [Op.equalIn]
  simp [run_underlying ht]
variable {ty2 : TypeId} {ms : Array (String × TypeId)}
theorem q_nenil (hx : σ.ev x = .nili) (ht : C.P.underlying t = some (.interface ms)) : Qd C ⟨d, .binOp .neq t x (.const .nilIface) ty2, ty, pos, af, g⟩ σ (.bool false) := qd_of fun γ a w hh he => by
  have e1 := he x (by simp [Op.operands])
  rw [hx] at e1
  have hv := e1.nili_inv
  exact ⟨.bool false, w, by simp [execOp, hv, show a.eval (.const .nilIface) = .nilIface from rfl, eqGuard_nil_constR, binOp, run_nil_nil ht], ext_refl w, .bool _ _⟩
theorem q_neif {u : TypeId} {v : AV} (hx : σ.ev x = .iface u v) (ht : C.P.underlying t = some (.interface ms)) : Qd C ⟨d, .binOp .neq t x (.const .nilIface) ty2, ty, pos, af, g⟩ σ (.bool true) := qd_of fun γ a w hh he => by
  have e1 := he x (by simp [Op.operands])
  rw [hx] at e1
  obtain ⟨y, hv, _⟩ := e1.iface_inv
  exact ⟨.bool true, w, by simp [execOp, hv, show a.eval (.const .nilIface) = .nilIface from rfl, eqGuard_at_iface, binOp, run_if_nil ht], ext_refl w, .bool _ _⟩
end
end Go.Proofs.YtignjjnflcpiiaaGreatDoor
/- Memory that is written: new variables, boxes, stores, appends; when nil is an empty slice of the frame's own. -/
namespace Go.Proofs.YtignjjnflcpiiaaGreatDoor
open Go.RowKit
def upd (γ : Gh) (id : Nat) (v : Value × Value) : Gh := fun i => match Nat.beq i id with
  | true => v
  | false => γ i
theorem upd_same (γ : Gh) (id : Nat) (v : Value × Value) : upd γ id v id = v := by unfold upd; rw [Nat.beq_refl]
theorem upd_ne (γ : Gh) {id i : Nat} (v : Value × Value) (h : i ≠ id) : upd γ id v i = γ i := by unfold upd; rw [beq_ne h]
theorem kill_rep {w w' : World} {N : Nat} {M M' : Nat → Prop} {γ : Gh} {t : Nat} {u : Value × Value} {v : AV} {x : Value} (h : Rep w N M (fun i => (γ i).1) v x) (hw : ∀ b, b < w.heap.size → ¬ M b → w'.heap[b]? = w.heap[b]?) (hM : ∀ b, b < w.heap.size → M' b → M b) : Rep w' N M' (fun i => (upd γ t u i).1) (v.kill t) x := by
  unfold AV.kill
  cases hm : v.ment t with
  | true => exact .any _ _
  | false =>
    refine h.mono hw hM (Nat.le_refl _) _ (fun id hid => ?_)
    have : id ≠ t := fun e => by rw [e, hm] at hid; cases hid
    simp only [upd_ne γ u this]
def St.drop (σ : St) (old : Option Nat) : St := match old with
  | some i => σ.set i none
  | none => σ
theorem drop_heap {σ : St} {old : Option Nat} {id : Nat} {o : AObj} (h : (σ.drop old).heap id = some o) : σ.heap id = some o ∧ old ≠ some id := by
  cases old with
  | none => exact ⟨h, fun e => by cases e⟩
  | some i =>
    change (match Nat.beq id i with | true => none | false => σ.heap id) = some o at h
    cases hb : Nat.beq id i with
    | true => rw [hb] at h; cases h
    | false =>
      rw [hb] at h
      exact ⟨h, fun e => by cases e; rw [Nat.beq_refl] at hb; cases hb⟩
theorem drop_env (σ : St) (old : Option Nat) : (σ.drop old).env = σ.env := by cases old <;> rfl
theorem kill_heap {σ : St} {t id : Nat} {o : AObj} (h : (σ.kill t).heap id = some o) : id ≠ t ∧ ∃ o', σ.heap id = some o' ∧ o = o'.kill t := by
  change (match Nat.beq id t with | true => none | false => (σ.heap id).map (AObj.kill t)) = some o at h
  cases hb : Nat.beq id t with
  | true => rw [hb] at h; cases h
  | false =>
    rw [hb] at h
    refine ⟨fun e => (by rw [e, Nat.beq_refl] at hb; cases hb), ?_⟩
    cases ho : σ.heap id with
    | none => rw [ho] at h; cases h
    | some o' => rw [ho] at h; cases h; exact ⟨o', rfl, rfl⟩
theorem set_heap {σ : St} {t id : Nat} {p : Option AObj} {o : AObj} (h : (σ.set t p).heap id = some o) : (id = t ∧ p = some o) ∨ (id ≠ t ∧ σ.heap id = some o) := by
  change (match Nat.beq id t with | true => p | false => σ.heap id) = some o at h
  cases hb : Nat.beq id t with
  | true => rw [hb] at h; exact Or.inl ⟨Nat.eq_of_beq_eq_true hb, h⟩
  | false => rw [hb] at h; exact .inr ⟨fun e => (by rw [e, Nat.beq_refl] at hb; cases hb), h⟩
theorem ObjRep.killed {w w' : World} {N : Nat} {M M' : Nat → Prop} {γ : Gh} {t id : Nat} {u : Value × Value} {o : AObj} (hne : id ≠ t) (h : ObjRep w N M γ id o) (hw : ∀ b, b < w.heap.size → ¬ M b → w'.heap[b]? = w.heap[b]?) (hM : ∀ b, b < w.heap.size → M' b → M b)
    (hb : ∀ b, Blk γ id b → w'.heap[b]? = w.heap[b]?) : ObjRep w' N M' (upd γ t u) id (o.kill t) := by
  have h' := h.mono hw hM hb
  cases o with
  | box cells =>
    obtain ⟨b, c, e, hg, hh, hs, hr⟩ := h
    refine ⟨b, c, e, by rw [upd_ne _ _ hne]; exact hg, ?_, by simpa using hs, fun j hj => ?_⟩
    · rw [hb b (.inl (by rw [hg]; rfl))]; exact hh
    · simp only [List.length_map] at hj
      obtain ⟨v, hv, hr⟩ := hr j hj
      refine ⟨v, hv, ?_⟩
      rw [List.getElem_map]
      exact kill_rep hr hw hM
  | rows e sz rows =>
    obtain ⟨v, cs, hg, r⟩ := h'
    exact ⟨v, cs, by rw [upd_ne _ _ hne]; exact hg, r⟩
  | pts f e l =>
    obtain ⟨v, cs, hg, r⟩ := h'
    exact ⟨v, cs, by rw [upd_ne _ _ hne]; exact hg, r⟩
  | bld e eb l =>
    obtain ⟨b, v, cs, p, hg, r⟩ := h'
    exact ⟨b, v, cs, p, by rw [upd_ne _ _ hne]; exact hg, r⟩
  | iter s pos =>
    obtain ⟨b, hg, r⟩ := h'
    exact ⟨b, by rw [upd_ne _ _ hne]; exact hg, r⟩
  | nest cells k e sz rows =>
    obtain ⟨b, c, t, v, cs, hg, r⟩ := h'
    exact ⟨b, c, t, v, cs, by rw [upd_ne _ _ hne]; exact hg, r⟩
section
variable {C : Cx} {γ : Gh} {σ : St} {a : Act} {w w' : World}
theorem SR.renew (s : SR C γ σ a w) (old : Option Nat) (t : Nat) (u : Value × Value) (o : AObj) (hpin : C.pin t = none) (hold : ∀ i, old = some i → ∃ p, σ.heap i = some p)
    (hos : w'.os = w.os) (htp : w'.tape = w.tape) (hout : w'.output = w.output) (hsz : w.heap.size ≤ w'.heap.size)
    (hblk : ∀ b, b < w.heap.size → (∀ i, old = some i → ¬ Blk γ i b) → w'.heap[b]? = w.heap[b]?)
    (hnew : ∀ b, Blk (upd γ t u) t b → b < w'.heap.size ∧ (w.heap.size ≤ b ∨ ∃ i, old = some i ∧ Blk γ i b)) (h2 : ∀ b, vblock u.1 = some b → vblock u.2 ≠ some b)
    (ho : ∀ M' : Nat → Prop, (∀ b, b < w.heap.size → M' b → Mut γ σ.heap b) → ObjRep w' C.N M' (upd γ t u) t o) : SR C (upd γ t u) (((σ.drop old).kill t).set t (some o)) a w' := by
  have live : ∀ {id : Nat} {p : AObj}, (((σ.drop old).kill t).set t (some o)).heap id = some p → (id = t ∧ p = o) ∨ (id ≠ t ∧ old ≠ some id ∧ ∃ p', σ.heap id = some p' ∧ p = p'.kill t) := by
    intro id p h
    rcases set_heap h with ⟨h1, h2⟩ | ⟨h1, h2⟩
    · cases h2; exact .inl ⟨h1, rfl⟩
    · obtain ⟨h3, o', h4, h5⟩ := kill_heap h2
      obtain ⟨h6, h7⟩ := drop_heap h4
      exact .inr ⟨h1, h7, o', h6, h5⟩
  have blk : ∀ {id b : Nat}, id ≠ t → Blk (upd γ t u) id b → Blk γ id b := fun hne h => by unfold Blk at *; rw [upd_ne _ _ hne] at h; exact h
  have mutd : ∀ b, b < w.heap.size → Mut (upd γ t u) (((σ.drop old).kill t).set t (some o)).heap b → Mut γ σ.heap b := by
    rintro b hb ⟨id, p, h1, h3⟩
    rcases live h1 with ⟨rfl, _⟩ | ⟨hne, _, p', hp', _⟩
    · rcases (hnew b h3).2 with h | ⟨i, hi, h⟩
      · omega
      · obtain ⟨p, hp⟩ := hold i hi
        exact ⟨i, p, hp, h⟩
    · exact ⟨id, p', hp', blk hne h3⟩
  have still : ∀ b, b < w.heap.size → ¬ Mut γ σ.heap b → w'.heap[b]? = w.heap[b]? := fun b hb hm => hblk b hb (fun i hi h => hm (by obtain ⟨p, hp⟩ := hold i hi; exact ⟨i, p, hp, h⟩))
  refine { obj := fun id p h => ?_, disj := fun id id' p p' b h h' hb hb' => ?_, two := fun id p b h => ?_, lt := fun id p b h hb => ?_, chg := ?_, glob := ?_, pins := fun id p v hp h => ?_, env := fun k => ?_, size := s.size, defers := s.defers }
  · rcases live h with ⟨rfl, rfl⟩ | ⟨hne, hno, p', hp', rfl⟩
    · exact ho _ mutd
    · exact (s.obj id p' hp').killed hne still mutd (fun b hb => hblk b (s.lt id p' b hp' hb).1 (fun i hi hbi => by
        obtain ⟨q, hq⟩ := hold i hi
        have := s.disj id i p' q b hp' hq hb hbi
        exact hno (by rw [this]; exact hi)))
  · rcases live h with ⟨rfl, _⟩ | ⟨hne, hno, q, hq, _⟩
    · rcases live h' with ⟨rfl, _⟩ | ⟨hne', hno', q', hq', _⟩
      · rfl
      · have hb' := blk hne' hb'
        rcases (hnew b hb).2 with h1 | ⟨i, hi, h1⟩
        · have := (s.lt id' q' b hq' hb').1; omega
        · obtain ⟨r, hr⟩ := hold i hi
          have := s.disj id' i q' r b hq' hr hb' h1
          exact absurd (by rw [this]; exact hi) hno'
    · have hb1 := blk hne hb
      rcases live h' with ⟨rfl, _⟩ | ⟨hne', hno', q', hq', _⟩
      · rcases (hnew b hb').2 with h1 | ⟨i, hi, h1⟩
        · have := (s.lt id q b hq hb1).1; omega
        · obtain ⟨r, hr⟩ := hold i hi
          have := s.disj id i q r b hq hr hb1 h1
          exact absurd (by rw [this]; exact hi) hno
      · exact s.disj id id' q q' b hq hq' hb1 (blk hne' hb')
  · rcases live h with ⟨rfl, _⟩ | ⟨hne, _, q, hq, _⟩
    · rw [upd_same]; exact h2 b
    · rw [upd_ne _ _ hne]; exact s.two id q b hq
  · rcases live h with ⟨rfl, _⟩ | ⟨hne, _, q, hq, _⟩
    · obtain ⟨h1, h3⟩ := hnew b hb
      refine ⟨h1, ?_⟩
      rcases h3 with h3 | ⟨i, hi, h3⟩
      · exact .inr (Nat.le_trans s.chg.size h3)
      · obtain ⟨r, hr⟩ := hold i hi
        exact (s.lt i r b hr h3).2
    · obtain ⟨h1, h3⟩ := s.lt id q b hq (blk hne hb)
      exact ⟨Nat.lt_of_lt_of_le h1 hsz, h3⟩
  · refine ⟨hos.trans s.chg.os, htp.trans s.chg.tape, hout.trans s.chg.output, Nat.le_trans s.chg.size hsz, fun k hk hm => ?_⟩
    rw [hblk k (Nat.lt_of_lt_of_le hk s.chg.size) (fun i hi h => ?_)]
    · exact s.chg.block k hk hm
    · obtain ⟨r, hr⟩ := hold i hi
      rcases (s.lt i r k hr h).2 with h1 | h1
      · exact hm h1
      · have : C.w0.heap.size ≤ k := h1
        omega
  · refine C.hG w w' s.glob (fun k hk => hblk k (Nat.lt_of_lt_of_le (Nat.lt_of_lt_of_le hk C.hn) s.chg.size) (fun i hi h => ?_))
    obtain ⟨r, hr⟩ := hold i hi
    have hn := C.hn
    rcases (s.lt i r k hr h).2 with h1 | h1
    · have := C.hM k h1; omega
    · omega
  · rcases live h with ⟨rfl, _⟩ | ⟨hne, _, q, hq, _⟩
    · rw [hpin] at hp; cases hp
    · rw [upd_ne _ _ hne]; exact s.pins id q v hp hq
  · show Rep w' C.N _ _ ((((σ.drop old).kill t).set t (some o)).env k) _
    have : (((σ.drop old).kill t).set t (some o)).env k = (σ.env k).kill t := by
      show ((σ.drop old).env k).kill t = _
      rw [drop_env]
    rw [this]
    exact kill_rep (s.env k) still mutd
theorem SR.update (s : SR C γ σ a w) {id : Nat} {o : AObj} (hid : σ.heap id = some o) (o' : AObj)
    (hos : w'.os = w.os) (htp : w'.tape = w.tape) (hout : w'.output = w.output) (hsz : w.heap.size ≤ w'.heap.size)
    (hblk : ∀ b, b < w.heap.size → ¬ Blk γ id b → w'.heap[b]? = w.heap[b]?) (ho : ObjRep w' C.N (Mut γ σ.heap) γ id o') : SR C γ (σ.set id (some o')) a w' := by
  have hlive : ∀ {i : Nat} {p : AObj}, (σ.set id (some o')).heap i = some p → (i = id ∧ p = o') ∨ (i ≠ id ∧ σ.heap i = some p) := fun h => by
    rcases set_heap h with ⟨h1, h2⟩ | h
    · cases h2; exact .inl ⟨h1, rfl⟩
    · exact .inr h
  have hlive' : ∀ {i : Nat} {p : AObj}, (σ.set id (some o')).heap i = some p → ∃ q, σ.heap i = some q := fun h => by
    rcases hlive h with ⟨rfl, _⟩ | ⟨_, h⟩
    · exact ⟨o, hid⟩
    · exact ⟨_, h⟩
  have mutd : ∀ b, b < w.heap.size → Mut γ (σ.set id (some o')).heap b → Mut γ σ.heap b := fun b _ ⟨i, p, h1, h2⟩ => by
    obtain ⟨q, hq⟩ := hlive' h1
    exact ⟨i, q, hq, h2⟩
  have mutd' : ∀ b, Mut γ (σ.set id (some o')).heap b → Mut γ σ.heap b := fun b ⟨i, p, h1, h2⟩ => by
    obtain ⟨q, hq⟩ := hlive' h1
    exact ⟨i, q, hq, h2⟩
  have still : ∀ b, b < w.heap.size → ¬ Mut γ σ.heap b → w'.heap[b]? = w.heap[b]? := fun b hb hm => hblk b hb (fun h => hm ⟨id, o, hid, h⟩)
  refine { obj := fun i p h => ?_, disj := fun i i' p p' b h h' hb hb' => ?_, two := fun i p b h => ?_, lt := fun i p b h hb => ?_, chg := ?_, glob := ?_, pins := fun i p v hp h => (by obtain ⟨q, hq⟩ := hlive' h; exact s.pins i q v hp hq), env := fun k => ?_, size := s.size, defers := s.defers }
  · rcases hlive h with ⟨rfl, rfl⟩ | ⟨hne, h⟩
    · exact ho.mono (fun _ _ _ => rfl) (fun b _ => mutd' b) (fun _ _ => rfl)
    · exact (s.obj i p h).mono still mutd (fun b hb => hblk b (s.lt i p b h hb).1 (fun hbi => hne (s.disj i id p o b h hid hb hbi)))
  · obtain ⟨q, hq⟩ := hlive' h
    obtain ⟨q', hq'⟩ := hlive' h'
    exact s.disj i i' q q' b hq hq' hb hb'
  · obtain ⟨q, hq⟩ := hlive' h
    exact s.two i q b hq
  · obtain ⟨q, hq⟩ := hlive' h
    obtain ⟨h1, h2⟩ := s.lt i q b hq hb
    exact ⟨Nat.lt_of_lt_of_le h1 hsz, h2⟩
  · refine ⟨hos.trans s.chg.os, htp.trans s.chg.tape, hout.trans s.chg.output, Nat.le_trans s.chg.size hsz, fun k hk hm => ?_⟩
    rw [hblk k (Nat.lt_of_lt_of_le hk s.chg.size) (fun h => ?_)]
    · exact s.chg.block k hk hm
    · rcases (s.lt id o k hid h).2 with h1 | h1
      · exact hm h1
      · have : C.w0.heap.size ≤ k := h1
        omega
  · refine C.hG w w' s.glob (fun k hk => hblk k (Nat.lt_of_lt_of_le (Nat.lt_of_lt_of_le hk C.hn) s.chg.size) (fun h => ?_))
    have hn := C.hn
    rcases (s.lt id o k hid h).2 with h1 | h1
    · have := C.hM k h1; omega
    · omega
  · exact (s.env k).mono still mutd (Nat.le_refl _) _ (fun _ _ => rfl)
end
end Go.Proofs.YtignjjnflcpiiaaGreatDoor
/- The writing operations, one rule each. -/
namespace Go.Proofs.YtignjjnflcpiiaaGreatDoor
open Go.RowKit
def AV.cl : AV → List AV
  | .agg l => l
  | v => [v]
def storable1 (H : Heap) : AV → Bool
  | .sl id => match H id with
    | some (.rows _ _ _) | some (.pts _ _ _) => true
    | _ => false
  | v => v.one
def storable (H : Heap) : AV → Bool
  | .agg l => l.all (storable1 H)
  | v => storable1 H v
theorem one_storable1 {H : Heap} {v : AV} (h : v.one = true) : storable1 H v = true := by cases v <;> first | exact h | cases h
theorem cl_one {v : AV} (h : v.one = true) : v.cl = [v] := by cases v <;> first | rfl | cases h
theorem Rep.one1 {C : Cx} {γ : Gh} {H : Heap} {w : World} (hh : HR C γ H w) {v : AV} {x : Value} (h : Rep w C.N (Mut γ H) (fun i => (γ i).1) v x) (hs : storable1 H v = true) : x.cells = #[x] ∧ x.oneCell' = true ∧ v.cl = [v] := by
  have one : v.one = true → x.cells = #[x] ∧ x.oneCell' = true ∧ v.cl = [v] := fun h1 => ⟨(h.one h1).1, (h.one h1).2, cl_one h1⟩
  cases v with
  | sl id =>
    have hx := h.sl_inv
    have : ∃ b n c, x = .slice b n c := by
      simp only [storable1] at hs
      cases ho : H id with
      | none => rw [ho] at hs; cases hs
      | some o =>
        rw [ho] at hs
        cases o with
        | rows e sz rows =>
          obtain ⟨u, cs, hg, hown, _⟩ := hh.obj id _ ho
          rcases hown.2 with ⟨rfl, h0⟩ | ⟨g, cap, cur, rfl, _⟩ <;> exact ⟨_, _, _, by rw [hx, hg]⟩
        | pts f e l =>
          obtain ⟨u, cs, hg, hown, _⟩ := hh.obj id _ ho
          rcases hown.2 with ⟨rfl, h0⟩ | ⟨g, cap, cur, rfl, _⟩ <;> exact ⟨_, _, _, by rw [hx, hg]⟩
        | _ => cases hs
    obtain ⟨b, n, c, rfl⟩ := this
    exact ⟨rfl, rfl, rfl⟩
  | _ => exact one hs
theorem Rep.cellsOf {C : Cx} {γ : Gh} {H : Heap} {w : World} (hh : HR C γ H w) {v : AV} {x : Value} (h : Rep w C.N (Mut γ H) (fun i => (γ i).1) v x) (hs : storable H v = true) :
    ∃ xs : List Value, x.cells = xs.toArray ∧ xs.length = v.cl.length ∧ (∀ i (h : i < v.cl.length) (h' : i < xs.length), Rep w C.N (Mut γ H) (fun i => (γ i).1) v.cl[i] xs[i]) ∧ ∀ y ∈ xs, y.oneCell' = true := by
  have one : storable1 H v = true → ∃ xs : List Value, x.cells = xs.toArray ∧ xs.length = v.cl.length ∧ (∀ i (h : i < v.cl.length) (h' : i < xs.length), Rep w C.N (Mut γ H) (fun i => (γ i).1) v.cl[i] xs[i]) ∧ ∀ y ∈ xs, y.oneCell' = true := by
    intro h1
    obtain ⟨h2, h3, h4⟩ := h.one1 hh h1
    refine ⟨[x], h2, by rw [h4]; rfl, fun i hi hx => ?_, fun y hy => by simp at hy; rw [hy]; exact h3⟩
    have : i = 0 := by simpa using hx
    subst this
    simp only [h4, List.getElem_cons_zero]
    exact h
  cases v with
  | agg l =>
    obtain ⟨xs, hx, hl, hr⟩ := h.agg_inv
    subst hx
    refine ⟨xs, rfl, hl, hr, fun y hy => ?_⟩
    obtain ⟨i, hi, rfl⟩ := List.mem_iff_getElem.1 hy
    exact ((hr i (by omega) hi).one1 hh (List.all_eq_true.1 hs _ (List.getElem_mem _))).2.1
  | _ => exact one hs
section
variable {C : Cx} {σ : St} {ty : TypeId} {pos : String} {af : Array Edge} {g : Option (Nat × Bool)} {x y : Operand} {t : TypeId} {d : Nat}
theorem wr_of {o : Oper} {σ' : St} (h : ∀ γ (a : Act) (w : World), SR C γ σ a w → ∃ n w', (execOp a.eval o).run C.P w = .ok n w' ∧ ((∃ v, n = .value v ∧ ∃ γ', SR C γ' σ' (a.put o.dst v) w') ∨ (n = .skip ∧ ∃ γ', SR C γ' σ' (a.put o.dst undef) w'))) : Wr C o σ σ' := by
  intro γ a w s
  obtain ⟨n, w', hr, h⟩ := h γ a w s
  unfold Oper.wp
  rw [hr]
  rcases h with ⟨v, rfl, γ', s'⟩ | ⟨rfl, γ', s'⟩
  · exact ⟨γ', s'⟩
  · exact ⟨γ', s'⟩
theorem SR.box {γ : Gh} {a : Act} {w : World} (s : SR C γ σ a w) (id : Nat) (cells : List AV) (xs : List Value) (e : TypeId) (hl : xs.length = cells.length) (hm : AV.mentL id cells = false) (hpin : C.pin id = none)
    (hr : ∀ i (h : i < cells.length) (h' : i < xs.length), Rep w C.N (Mut γ σ.heap) (fun i => (γ i).1) cells[i] xs[i]) :
    SR C (upd γ id (.pointer (some ⟨w.heap.size, 0, none⟩), undef)) ((σ.kill id).set id (some (.box cells))) a (w.alloc (.cells xs.toArray e)) := by
  have he : Ext w (w.alloc (.cells xs.toArray e)) := (Below.refl _ w).alloc (Nat.le_refl _) _
  refine s.renew none id (.pointer (some ⟨w.heap.size, 0, none⟩), undef) (.box cells) hpin (fun i h => by cases h) rfl rfl rfl (by simp) (fun b hb _ => he.block b hb) (fun b hb => ?_) (fun b _ h => by cases h) (fun M' hM' => ?_)
  · unfold Blk at hb
    rw [upd_same] at hb
    rcases hb with hb | hb
    · simp [vblock] at hb; subst hb; exact ⟨by simp, .inl (Nat.le_refl _)⟩
    · cases hb
  · refine ⟨w.heap.size, xs.toArray, e, by rw [upd_same], heap_alloc_new w _, by simpa using hl, fun j hj => ⟨xs[j]'(by omega), by simp [show j < xs.length by omega], ?_⟩⟩
    refine (hr j hj (by omega)).mono (fun b hb _ => he.block b hb) hM' (Nat.le_refl _) _ (fun i hi => ?_)
    have : i ≠ id := fun e => by
      subst e
      have := AV.mentL_mem (List.getElem_mem hj) hi
      rw [hm] at this
      cases this
    simp only [upd_ne γ _ this]
theorem w_alloc (id : Nat) {cells : List AV} (hz : zeroL C.P t = some cells) (hd : Nat.blt d C.n = true) (hm : AV.mentL id cells = false) (hpin : C.pin id = none) : Wr C ⟨some d, .alloc t, ty, pos, af, g⟩ σ (((σ.kill id).set id (some (.box cells))).put d (.ptr id 0)) := wr_of fun γ a w s => by
  obtain ⟨it, z, hi, hz0, hzc⟩ := zeroL_spec hz
  have hrun : (execOp a.eval ⟨some d, .alloc t, ty, pos, af, g⟩).run C.P w = .ok (.value (.pointer (some ⟨w.heap.size, 0, none⟩))) (w.alloc (.cells z.cells t)) := by
    simp [execOp, Instr.alloc, zeroValue, typeInfo, hi, hz0, newVar, newRow]
  refine ⟨_, _, hrun, .inl ⟨_, rfl, upd γ id (.pointer (some ⟨w.heap.size, 0, none⟩), undef), ?_⟩⟩
  have s' := s.box id cells z.cells.toList t (by rw [← hzc]; simp) hm hpin (fun i h h' => by subst hzc; simp only [List.getElem_map]; exact ofConst_rep _)
  simp only [Array.toArray_toList] at s'
  exact s'.put (some d) (fun k hk => by cases hk; exact blt_lt hd) (.ptr _ _ _ _ (by simp only [upd_same]))
theorem w_box (id : Nat) {v : AV} {cells : List AV} (hx : σ.ev x = v) (hv : storable σ.heap v = true) (hc : v.cl = cells) (hd : Nat.blt d C.n = true) (hm : AV.mentL id cells = false) (hpin : C.pin id = none) : Wr C ⟨some d, .box t x, ty, pos, af, g⟩ σ (((σ.kill id).set id (some (.box cells))).put d (.ptr id 0)) := wr_of fun γ a w s => by
  have e1 := s.ev x
  rw [hx] at e1
  obtain ⟨xs, h1, h2, h3, h4⟩ := e1.cellsOf s.toHR hv
  have hrun : (execOp a.eval ⟨some d, .box t x, ty, pos, af, g⟩).run C.P w = .ok (.value (.pointer (some ⟨w.heap.size, 0, none⟩))) (w.alloc (.cells xs.toArray t)) := by
    simp [execOp, Instr.box, newVar, newRow, h1]
  refine ⟨_, _, hrun, .inl ⟨_, rfl, upd γ id (.pointer (some ⟨w.heap.size, 0, none⟩), undef), ?_⟩⟩
  subst hc
  exact (s.box id v.cl xs t h2 hm hpin h3).put (some d) (fun k hk => by cases hk; exact blt_lt hd) (.ptr _ _ _ _ (by simp only [upd_same]))
theorem w_allocb (id e : Nat) (hz : zeroL C.P t = some [.nilp, .nils]) (hd : Nat.blt d C.n = true) (hpin : C.pin id = none) : Wr C ⟨some d, .alloc t, ty, pos, af, g⟩ σ (((σ.kill id).set id (some (.bld e t []))).put d (.ptr id 0)) := wr_of fun γ a w s => by
  obtain ⟨it, z, hi, hz0, hzc⟩ := zeroL_spec hz
  have hcells : z.cells = #[.pointer none, .slice none 0 0] := by
    have hl : z.cells.toList.length = 2 := by have := congrArg List.length hzc; simpa using this
    match hzl : z.cells.toList, hl with
    | [p, q], _ =>
      rw [hzl] at hzc
      simp only [List.map_cons, List.map_nil, List.cons.injEq, and_true] at hzc
      have hp : p = .pointer none := by
        have := hzc.1
        unfold ofConst at this
        split at this <;> first | rfl | cases this
      have hq : q = .slice none 0 0 := by
        have := hzc.2
        unfold ofConst at this
        split at this <;> first | rfl | cases this
      rw [← Array.toArray_toList (xs := z.cells), hzl, hp, hq]
  have hrun : (execOp a.eval ⟨some d, .alloc t, ty, pos, af, g⟩).run C.P w = .ok (.value (.pointer (some ⟨w.heap.size, 0, none⟩))) (w.alloc (.cells #[.pointer none, .slice none 0 0] t)) := by
    simp [execOp, Instr.alloc, zeroValue, typeInfo, hi, hz0, newVar, newRow, hcells]
  refine ⟨_, _, hrun, .inl ⟨_, rfl, upd γ id (.pointer (some ⟨w.heap.size, 0, none⟩), .slice none 0 0), ?_⟩⟩
  have he : Ext w (w.alloc (.cells #[.pointer none, .slice none 0 0] t)) := (Below.refl _ w).alloc (Nat.le_refl _) _
  have s' := s.renew (w' := w.alloc (.cells #[.pointer none, .slice none 0 0] t)) none id (.pointer (some ⟨w.heap.size, 0, none⟩), .slice none 0 0) (.bld e t []) hpin (fun i h => by cases h) rfl rfl rfl (by simp) (fun b hb _ => he.block b hb) (fun b hb => by
    unfold Blk at hb
    rw [upd_same] at hb
    rcases hb with hb | hb
    · simp [vblock] at hb; subst hb; exact ⟨by simp, .inl (Nat.le_refl _)⟩
    · cases hb) (fun b _ h => by cases h) (fun M' hM' => ⟨w.heap.size, .slice none 0 0, [], .pointer none, by rw [upd_same], heap_alloc_new w _, .inl rfl, World.ownsRow_nil _ _ _ _, rfl⟩)
  exact s'.put (some d) (fun k hk => by cases hk; exact blt_lt hd) (.ptr _ _ _ _ (by simp only [upd_same]))
theorem run_store_cells {P : Program} {w : World} {T n : Nat} (hs : sizeB P T n = true) {b o : Nat} {c : Array Value} {e : TypeId} (hb : w.heap[b]? = some (.cells c e (0, 0))) {v : Value} {xs : List Value} (hv : v.cells = xs.toArray) (hl : xs.length = n) (h1 : ∀ y ∈ xs, y.oneCell' = true) (hfit : o + n ≤ c.size) :
    (Instr.storeAt T (.pointer (some ⟨b, o, none⟩)) v).run P w = .ok () (w.setRow b (c.toList.take o ++ xs ++ c.toList.drop (o + xs.length)).toArray) := by
  have hst := run_storeCells_at P b o e xs 0 c w hb (by omega) h1
  simp only [Nat.add_zero] at hst
  simp [Instr.storeAt, Instr.sureAddr, storeVar, hv, sizeB_spec hs, hl, hst]
theorem setRow_facts (w : World) (b : Nat) (cs : Array Value) : (w.setRow b cs).os = w.os ∧ (w.setRow b cs).tape = w.tape ∧ (w.setRow b cs).output = w.output ∧ (w.setRow b cs).heap.size = w.heap.size := ⟨rfl, rfl, rfl, size_setRow w b cs⟩
theorem w_store {id fo : Nat} {cells : List AV} {v : AV} {n : Nat} {cells' : List AV} (hx : σ.ev x = .ptr id fo) (ho : σ.heap id = some (.box cells)) (hy : σ.ev y = v) (hv : storable σ.heap v = true) (hs : sizeB C.P t n = true) (hn : v.cl.length = n) (hfit : fo + n ≤ cells.length) (hc : cells.take fo ++ v.cl ++ cells.drop (fo + n) = cells') :
    Wr C ⟨none, .store t x y, ty, pos, af, g⟩ σ (σ.set id (some (.box cells'))) := wr_of fun γ a w s => by
  have e1 := s.ev x
  have e2 := s.ev y
  rw [hx] at e1; rw [hy] at e2
  obtain ⟨b, hb, hev⟩ := e1.ptr_inv
  obtain ⟨xs, h1, h2, h3, h4⟩ := e2.cellsOf s.toHR hv
  obtain ⟨b', c, e, hb', hh, hsz, hr⟩ := box_cells s.toHR ho
  obtain ⟨b'', c'', e'', hgg, _⟩ := s.obj id _ ho
  rw [hb] at hb'
  cases hb'
  have hrun := run_store_cells (P := C.P) hs (o := fo) hh h1 (by omega) h4 (by omega)
  refine ⟨.skip, w.setRow b (c.toList.take fo ++ xs ++ c.toList.drop (fo + xs.length)).toArray, by simp [execOp, hev, hrun], .inr ⟨rfl, γ, ?_⟩⟩
  obtain ⟨f1, f2, f3, f4⟩ := setRow_facts w b (c.toList.take fo ++ xs ++ c.toList.drop (fo + xs.length)).toArray
  have hne : ∀ k, k ≠ b → (w.setRow b (c.toList.take fo ++ xs ++ c.toList.drop (fo + xs.length)).toArray).heap[k]? = w.heap[k]? := fun k hk => setRow_other w b k _ hk
  have hMb : Mut γ σ.heap b := ⟨id, _, ho, .inl (by rw [hb]; rfl)⟩
  have hlen : cells'.length = cells.length := by subst hc; simp; omega
  refine s.update ho (.box cells') f1 f2 f3 (by omega) (fun k _ hk => hne k (fun e => hk (.inl (by rw [e, hb]; rfl)))) ?_
  refine ⟨b, _, e, ?_, setRow_heap w b c _ e _ hh, ?_, fun j hj => ?_⟩
  · have : (γ id).2 = undef := by rw [hgg]
    exact Prod.ext hb this
  · simp [hlen]; omega
  · have get : ∀ (v' : AV) (u : Value), Rep w C.N (Mut γ σ.heap) (fun i => (γ i).1) v' u → Rep (w.setRow b (c.toList.take fo ++ xs ++ c.toList.drop (fo + xs.length)).toArray) C.N (Mut γ σ.heap) (fun i => (γ i).1) v' u := fun v' u hu =>
      hu.mono (fun k _ hk => hne k (fun e => hk (by rw [e]; exact hMb))) (fun _ _ h => h) (Nat.le_refl _) _ (fun _ _ => rfl)
    subst hc
    rw [List.getElem?_toArray]
    by_cases hj1 : j < fo
    · obtain ⟨u, hu, hru⟩ := hr j (by omega)
      refine ⟨u, ?_, ?_⟩
      · rw [List.append_assoc, List.getElem?_append_left (by simp; omega), List.getElem?_take, if_pos hj1]
        simpa using hu
      · have : (cells.take fo ++ v.cl ++ cells.drop (fo + n))[j] = cells[j]'(by omega) := by
          rw [List.getElem_append_left (by simp; omega), List.getElem_append_left (by simp; omega), List.getElem_take]
        rw [this]
        exact get _ _ hru
    · by_cases hj2 : j < fo + n
      · refine ⟨xs[j - fo]'(by omega), ?_, ?_⟩
        · rw [List.append_assoc, List.getElem?_append_right (by simp; omega), List.getElem?_append_left (by simp; omega)]
          have : j - (c.toList.take fo).length = j - fo := by simp; omega
          rw [this, List.getElem?_eq_getElem]
        · have : (cells.take fo ++ v.cl ++ cells.drop (fo + n))[j] = v.cl[j - fo]'(by omega) := by
            rw [List.getElem_append_left (by simp; omega), List.getElem_append_right (by simp; omega)]
            congr 1
            simp; omega
          rw [this]
          exact get _ _ (h3 _ _ _)
      · have hjl : j < cells.length := by omega
        obtain ⟨u, hu, hru⟩ := hr j hjl
        refine ⟨u, ?_, ?_⟩
        · rw [List.getElem?_append_right (by simp; omega), List.getElem?_drop]
          have : fo + xs.length + (j - (c.toList.take fo ++ xs).length) = j := by simp; omega
          rw [this]
          simpa using hu
        · have : (cells.take fo ++ v.cl ++ cells.drop (fo + n))[j] = cells[j]'hjl := by
            rw [List.getElem_append_right (by simp; omega), List.getElem_drop]
            congr 1
            simp; omega
          rw [this]
          exact get _ _ hru
theorem splice_get {α : Type} (l xs : List α) (o : Nat) (h : o + xs.length ≤ l.length) (k : Nat) : (l.take o ++ xs ++ l.drop (o + xs.length))[k]? = if o ≤ k ∧ k < o + xs.length then xs[k - o]? else l[k]? := by
  by_cases h1 : k < o
  · rw [if_neg (by omega), List.append_assoc, List.getElem?_append_left (by simp; omega), List.getElem?_take, if_pos h1]
  · by_cases h2 : k < o + xs.length
    · rw [if_pos (by omega), List.append_assoc, List.getElem?_append_right (by simp; omega), List.getElem?_append_left (by simp; omega)]
      congr 1
      simp; omega
    · rw [if_neg (by omega), List.getElem?_append_right (by simp; omega), List.getElem?_drop]
      congr 1
      simp; omega
theorem in_row {i i' j sz fo n : Nat} (hj : j < sz) (hf : fo + n ≤ sz) (hn : 0 < n) : (i * sz + fo ≤ i' * sz + j ∧ i' * sz + j < i * sz + fo + n) ↔ (i' = i ∧ fo ≤ j ∧ j < fo + n) := by
  constructor
  · rintro ⟨h1, h2⟩
    have : i' = i := by
      rcases Nat.lt_trichotomy i' i with h | h | h
      · have : (i' + 1) * sz ≤ i * sz := Nat.mul_le_mul_right _ h
        rw [Nat.add_mul] at this; omega
      · exact h
      · have : (i + 1) * sz ≤ i' * sz := Nat.mul_le_mul_right _ h
        rw [Nat.add_mul] at this; omega
    subst this
    exact ⟨rfl, by omega, by omega⟩
  · rintro ⟨rfl, h1, h2⟩
    omega
theorem w_storee {id sz i fo n : Nat} {e' : TypeId} {rows : List (List AV)} {r r' : List AV} {v : AV} (hx : σ.ev x = .eptr id sz i fo) (ho : σ.heap id = some (.rows e' sz rows)) (hi : rows[i]? = some r) (hy : σ.ev y = v) (hv : v.cl.all AV.flat = true) (hs : sizeB C.P t n = true) (hn : v.cl.length = n) (hn0 : 0 < n) (hfit : fo + n ≤ sz)
    (hr' : r.take fo ++ v.cl ++ r.drop (fo + n) = r') : Wr C ⟨none, .store t x y, ty, pos, af, g⟩ σ (σ.set id (some (.rows e' sz (rows.set i r')))) := wr_of fun γ a w s => by
  have e1 := s.ev x
  have e2 := s.ev y
  rw [hx] at e1; rw [hy] at e2
  obtain ⟨b, n', cap, hb, hev⟩ := e1.eptr_inv
  have hst : storable σ.heap v = true := by
    cases v <;> first
      | rfl
      | (simp only [storable]; exact List.all_eq_true.2 (fun u hu => one_storable1 (flat_one (List.all_eq_true.1 hv u hu))))
      | (simp [AV.cl, AV.flat] at hv)
  obtain ⟨xs, h1, h2, h3, h4⟩ := e2.cellsOf s.toHR hst
  obtain ⟨u, cs, hgg, hown, hsz0, hl, hr⟩ := s.obj id _ ho
  have hu : u = .slice (some ⟨b, 0, none⟩) n' cap := by rw [← hb, hgg]
  subst hu
  obtain ⟨hcl, h5⟩ := hown
  rcases h5 with ⟨h6, _⟩ | ⟨b', cap', cur, h6, _, hh, hnc, hcm, hcs, htk⟩
  · cases h6
  · cases h6
    obtain ⟨hil, hie⟩ := List.getElem?_eq_some_iff.1 hi
    have hrl : r.length = sz := by rw [← hie]; exact hl i hil
    have hpos : i * sz + fo + n ≤ rows.length * sz := by
      have : (i + 1) * sz ≤ rows.length * sz := Nat.mul_le_mul_right _ hil
      rw [Nat.add_mul] at this; omega
    have hcur : rows.length * sz ≤ cur.size := by rw [hcs]; exact Nat.mul_le_mul_right _ hnc
    have hxl : xs.length = n := by omega
    have hrun := run_store_cells (P := C.P) hs (o := i * sz + fo) hh h1 hxl h4 (by omega)
    refine ⟨.skip, w.setRow b (cur.toList.take (i * sz + fo) ++ xs ++ cur.toList.drop (i * sz + fo + xs.length)).toArray, by simp [execOp, hev, hrun], .inr ⟨rfl, γ, ?_⟩⟩
    obtain ⟨f1, f2, f3, f4⟩ := setRow_facts w b (cur.toList.take (i * sz + fo) ++ xs ++ cur.toList.drop (i * sz + fo + xs.length)).toArray
    have hne : ∀ k, k ≠ b → (w.setRow b (cur.toList.take (i * sz + fo) ++ xs ++ cur.toList.drop (i * sz + fo + xs.length)).toArray).heap[k]? = w.heap[k]? := fun k hk => setRow_other w b k _ hk
    refine s.update ho _ f1 f2 f3 (by omega) (fun k _ hk => hne k (fun e => hk (.inl (by rw [e, hgg]; rfl)))) ?_
    have hcsl : cs.length = rows.length * sz := hcl
    refine ⟨.slice (some ⟨b, 0, none⟩) rows.length cap, cs.take (i * sz + fo) ++ xs ++ cs.drop (i * sz + fo + xs.length), hgg, ?_, hsz0, fun k hk => ?_, fun k hk j hj => ?_⟩
    · refine ⟨by simp [hcsl]; omega, .inr ⟨b, cap, _, by simp, Nat.zero_le _, setRow_heap w b cur _ e' _ hh, by simpa using hnc, hcm, by simp; omega, ?_⟩⟩
      rw [← htk]
      simp only [List.length_set]
      apply List.ext_getElem?
      intro k
      rw [List.getElem?_take, splice_get _ _ _ (by simp; omega), splice_get _ _ _ (by simp; omega), List.getElem?_take]
      by_cases hk : k < rows.length * sz
      · rw [if_pos hk, if_pos hk]
      · rw [if_neg hk, if_neg (by omega), if_neg hk]
    · simp only [List.length_set] at hk
      rw [List.getElem_set]
      by_cases hik : i = k
      · rw [if_pos hik, ← hr']; simp; omega
      · rw [if_neg hik]; exact hl k hk
    · simp only [List.length_set] at hk
      rw [splice_get _ _ _ (by omega), hxl]
      have hrow : (rows.set i r')[k]'(by simpa using hk) = if i = k then r' else rows[k] := by rw [List.getElem_set]
      have hjs : j < sz := by
        rw [hrow] at hj
        by_cases hik : i = k
        · rw [if_pos hik, ← hr'] at hj; simp at hj; omega
        · rw [if_neg hik, hl k hk] at hj; exact hj
      have hin := in_row (i := i) (i' := k) hjs hfit hn0
      have hget : ∀ (q : List AV) (hq : q = (rows.set i r')[k]'(by simpa using hk)) (z : AV), q[j]? = some z → (rows.set i r')[k][j] = z := by
        intro q hq z hz
        subst hq
        exact (List.getElem?_eq_some_iff.1 hz).2
      by_cases hc : i * sz + fo ≤ k * sz + j ∧ k * sz + j < i * sz + fo + n
      · rw [if_pos hc]
        obtain ⟨rfl, hj1, hj2⟩ := hin.1 hc
        have hjx : k * sz + j - (k * sz + fo) = j - fo := by omega
        rw [hjx]
        refine ⟨xs[j - fo]'(by omega), List.getElem?_eq_getElem (by omega), ?_⟩
        have hvj : (rows.set k r')[k][j] = v.cl[j - fo]'(by omega) := by
          refine hget r' (by rw [hrow, if_pos rfl]) _ ?_
          have hs2 := splice_get r v.cl fo (by omega) j
          rw [hn, hr'] at hs2
          rw [hs2, if_pos ⟨hj1, hj2⟩, List.getElem?_eq_getElem]
        rw [hvj]
        exact (h3 _ _ _).flat (List.all_eq_true.1 hv _ (List.getElem_mem _))
      · rw [if_neg hc]
        have hjr : j < rows[k].length := by rw [hl k hk]; exact hjs
        obtain ⟨z, hz, hfz⟩ := hr k hk j hjr
        refine ⟨z, hz, ?_⟩
        have hvj : (rows.set i r')[k][j] = rows[k][j] := by
          by_cases hik : i = k
          · subst hik
            refine hget r' (by rw [hrow, if_pos rfl]) _ ?_
            have hnot : ¬ (fo ≤ j ∧ j < fo + n) := fun h => hc (hin.2 ⟨rfl, h⟩)
            have hs2 := splice_get r v.cl fo (by omega) j
            rw [hn, hr'] at hs2
            rw [hs2, if_neg hnot, ← hie, List.getElem?_eq_getElem]
          · exact hget rows[k] (by rw [hrow, if_neg hik]) _ (List.getElem?_eq_getElem hjr)
        rw [hvj]
        exact hfz
end
end Go.Proofs.YtignjjnflcpiiaaGreatDoor
