/- Memory that is read: places of fields and elements, loads, lengths, structs and slices that are made and not written, texts out of bytes, comparisons. -/
import Derived.Test.YtignjjnflcpiiaaDoorVmE
import Derived.Laws.Build
import Derived.Laws.Tables
import Derived.Great.BuildSlice
import Derived.Laws.IdiomStrings
set_option linter.unusedVariables false
set_option linter.unusedSimpArgs false
namespace Go.Proofs.YtignjjnflcpiiaaDoor
open Go.RowKit

def fieldB (P : Program) (t : TypeId) (f off : Nat) : Bool := match P.underlying t with
  | some (.struct fs) => match fs[f]? with
    | some x => Nat.beq x.offset off && (match P.info? x.type with
      | some i => Nat.blt 0 i.size
      | none => false)
    | none => false
  | _ => false
def sizeB (P : Program) (e : TypeId) (sz : Nat) : Bool := match P.info? e with
  | some i => Nat.beq i.size sz
  | none => false
theorem sizeB_spec {P : Program} {e : TypeId} {sz : Nat} (h : sizeB P e sz = true) (w : World) : (sizeOf e).run P w = .ok sz w := by
  unfold sizeB at h
  cases hi : P.info? e with
  | none => rw [hi] at h; cases h
  | some i => rw [hi] at h; simp [sizeOf, typeInfo, hi, Nat.eq_of_beq_eq_true h]
theorem fieldB_spec {P : Program} {t : TypeId} {f off : Nat} (h : fieldB P t f off = true) (b o : Nat) (w : World) : (Instr.fieldAt t (.pointer (some ⟨b, o, none⟩)) f).run P w = .ok (.pointer (some ⟨b, o + off, none⟩)) w := by
  unfold fieldB at h
  cases hu : P.underlying t with
  | none => rw [hu] at h; cases h
  | some d =>
    rw [hu] at h
    cases d with
    | struct fs =>
      simp only at h
      cases hf : fs[f]? with
      | none => rw [hf] at h; cases h
      | some x =>
        rw [hf] at h
        simp only [Bool.and_eq_true] at h
        obtain ⟨h1, h2⟩ := h
        cases hi : P.info? x.type with
        | none => rw [hi] at h2; cases h2
        | some i =>
          rw [hi] at h2
          have h3 : i.size ≠ 0 := by have := blt_lt h2; omega
          have h4 := Nat.eq_of_beq_eq_true h1
          simp only [Instr.fieldAt, Sem.run_bind, run_underlying hu, Result.andThen_ok, hf, Instr.sureAddr, Sem.run_pure, fieldPlace, sizeOf, typeInfo, run_program, hi]
          simp [h3, h4, Addr.add_lit]
    | _ => cases h

theorem FRep.rep {w : World} {N : Nat} {M : Nat → Prop} {γ : Nat → Value} {v : AV} {x : Value} (h : FRep v x) : Rep w N M γ v x := by
  cases h with
  | any v => exact .any _ _
  | bool b => exact .bool _ _
  | int k n => exact .int _ _ _
  | str s => exact .str _ _

section
variable {C : Cx} {γ : Gh} {H : Heap} {w : World}
theorem HR.boxCell (h : HR C γ H w) {id : Nat} {cells : List AV} (hid : H id = some (.box cells)) {b : Nat} (hb : (γ id).1 = .pointer (some ⟨b, 0, none⟩)) {j : Nat} {v : AV} (hj : cells[j]? = some v) :
    ∃ x, w.cell? ⟨b, j, none⟩ = some x ∧ Rep w C.N (Mut γ H) (fun i => (γ i).1) v x := by
  obtain ⟨b', c, e, h1, h2, h3, h4⟩ := box_cells h hid
  rw [hb] at h1
  cases h1
  obtain ⟨hl, he⟩ := List.getElem?_eq_some_iff.1 hj
  obtain ⟨x, hx, hr⟩ := h4 j hl
  rw [he] at hr
  exact ⟨x, by rw [cell_of_row w b j c e (0, 0) h2]; exact hx, hr⟩
theorem HR.rowCell (h : HR C γ H w) {id : Nat} {e : TypeId} {sz : Nat} {rows : List (List AV)} (hid : H id = some (.rows e sz rows)) {i j : Nat} {r : List AV} {v : AV} (hi : rows[i]? = some r) (hj : r[j]? = some v) :
    ∃ g n cap x, (γ id).1 = .slice (some ⟨g, 0, none⟩) n cap ∧ w.cell? ⟨g, i * sz + j, none⟩ = some x ∧ FRep v x := by
  obtain ⟨u, cs, hg, hown, hs, hl, hr⟩ := h.obj id _ hid
  obtain ⟨hil, hie⟩ := List.getElem?_eq_some_iff.1 hi
  subst hie
  obtain ⟨hjl, hje⟩ := List.getElem?_eq_some_iff.1 hj
  subst hje
  obtain ⟨x, hx, hf⟩ := hr i hil j hjl
  obtain ⟨hcl, h2⟩ := hown
  rcases h2 with ⟨rfl, h0⟩ | ⟨g, cap, cur, rfl, _, hh, hnc, _, hcs, htk⟩
  · omega
  · refine ⟨g, _, cap, x, by rw [hg], ?_, hf⟩
    have h1 : i * sz + j < rows.length * sz := by
      have : (i + 1) * sz ≤ rows.length * sz := Nat.mul_le_mul_right _ hil
      have := hl i hil
      rw [Nat.add_mul] at *
      omega
    rw [cell_of_row w g _ cur e (0, 0) hh]
    rw [← htk, List.getElem?_take, if_pos h1] at hx
    simpa using hx
end
def ptCells (fr : Bool) (p : PT) : List AV := [.ro fr 2 (fieldRows p.head), .str p.body, .bool p.many, .pts fr p.parts]

section
variable {C : Cx} {σ : St} {d : Option Nat} {ty : TypeId} {pos : String} {af : Array Edge} {g : Option (Nat × Bool)} {x y : Operand} {t : TypeId}
theorem q_mkiface {v : AV} (hx : σ.ev x = v) (ht : C.P.concrete t = true) : Qd C ⟨d, .makeInterface t x, ty, pos, af, g⟩ σ (.iface t v) := qd_of fun γ a w _ he => by
  have e := he x (by simp [Op.operands])
  rw [hx] at e
  exact ⟨.iface t (a.eval x), w, by simp [execOp, run_makeInterface w t _ ht], ext_refl w, .iface _ _ _ _ e⟩

/-! places -/
theorem q_field {f off id fo : Nat} (hx : σ.ev x = .ptr id fo) (ht : fieldB C.P t f off = true) : Qd C ⟨d, .fieldAddr t x f, ty, pos, af, g⟩ σ (.ptr id (fo + off)) := qd_of fun γ a w _ he => by
  have e := he x (by simp [Op.operands])
  rw [hx] at e
  obtain ⟨b, h1, h2⟩ := e.ptr_inv
  exact ⟨_, w, by simp [execOp, h2, fieldB_spec ht], ext_refl w, .ptr _ _ _ _ h1⟩
theorem q_fielde {f off id sz i fo : Nat} (hx : σ.ev x = .eptr id sz i fo) (ht : fieldB C.P t f off = true) : Qd C ⟨d, .fieldAddr t x f, ty, pos, af, g⟩ σ (.eptr id sz i (fo + off)) := qd_of fun γ a w _ he => by
  have e := he x (by simp [Op.operands])
  rw [hx] at e
  obtain ⟨b, n, cap, h1, h2⟩ := e.eptr_inv
  exact ⟨.pointer (some ⟨b, i * sz + (fo + off), none⟩), w, by simp [execOp, h2, fieldB_spec ht, Nat.add_assoc], ext_refl w, .eptr _ _ _ _ _ _ _ _ h1⟩
theorem rptr_drop {w : World} {N : Nat} {M : Nat → Prop} {γ : Nat → Value} {fr : Bool} {cells : List AV} {b o : Nat} {cs : Nat → Value} (off : Nat) (hof : off < cells.length)
    (h : Still N M fr b ∧ 0 < cells.length ∧ (∀ j, j < cells.length → w.cell? ⟨b, o + j, none⟩ = some (cs j)) ∧ ∀ j (h : j < cells.length), Rep w N M g0 cells[j] (cs j)) : Rep w N M γ (.rptr fr (cells.drop off)) (.pointer (some ⟨b, o + off, none⟩)) := by
  obtain ⟨h1, h2, h3, h4⟩ := h
  refine .rptr _ _ _ _ _ (fun j => cs (off + j)) h1 (by simp; omega) (fun j hj => ?_) (fun j hj => ?_)
  · simp at hj
    rw [Nat.add_assoc]
    exact h3 (off + j) (by omega)
  · simp at hj
    rw [List.getElem_drop]
    exact h4 (off + j) (by omega)
theorem q_fieldr {f off : Nat} {fr : Bool} {cells : List AV} (hx : σ.ev x = .rptr fr cells) (ht : fieldB C.P t f off = true) (hof : off < cells.length) : Qd C ⟨d, .fieldAddr t x f, ty, pos, af, g⟩ σ (.rptr fr (cells.drop off)) := qd_of fun γ a w _ he => by
  have e := he x (by simp [Op.operands])
  rw [hx] at e
  obtain ⟨b, o, cs, h, h2⟩ := e.rptr_inv
  exact ⟨_, w, by simp [execOp, h2, fieldB_spec ht], ext_refl w, rptr_drop off hof h⟩
theorem run_indexAt_sl {P : Program} {w : World} {t e : TypeId} {sz : Nat} (ht : P.underlying t = some (.slice e)) (hs : sizeB P e sz = true) (b o len cap : Nat) (k : IntKind) (i : Int) (h0 : 0 ≤ i) (h1 : i.toNat < len) :
    (Instr.indexAt t (.slice (some ⟨b, o, none⟩) len cap) (.int k i)).run P w = .ok (.pointer (some ⟨b, o + i.toNat * sz, none⟩)) w := by
  have h2 : i < len := by omega
  simp [Instr.indexAt, run_underlying ht, asIntOf, h0, h2, sizeB_spec hs, Addr.add_lit]
/-- an element of a slice that nobody writes -/
theorem q_idxro {e : TypeId} {sz : Nat} {fr : Bool} {rows : List (List AV)} {i : Int} {k : IntKind} {r : List AV} (hx : σ.ev x = .ro fr sz rows) (hy : σ.ev y = .int k i) (ht : C.P.underlying t = some (.slice e)) (hs : sizeB C.P e sz = true) (h0 : 0 ≤ i) (hi : rows[i.toNat]? = some r) :
    Qd C ⟨d, .indexAddr t x y, ty, pos, af, g⟩ σ (.rptr fr r) := qd_of fun γ a w _ he => by
  have e1 := he x (by simp [Op.operands])
  have e2 := he y (by simp [Op.operands])
  rw [hx] at e1; rw [hy] at e2
  have e2 := e2.int_inv
  obtain ⟨hil, hie⟩ := List.getElem?_eq_some_iff.1 hi
  rcases e1.ro_inv with ⟨h1, _⟩ | ⟨b, o, cap, cs, hv, hok, h0', hsz, hcap, hc, hl, hr⟩
  · rw [h1] at hil; simp at hil
  · have hlr := hl _ hil
    rw [hie] at hlr
    have hrun := run_indexAt_sl (w := w) ht hs b o rows.length cap k i h0 hil
    refine ⟨.pointer (some ⟨b, o + i.toNat * sz, none⟩), w, by simp [execOp, hv, e2, hrun], ext_refl w, ?_⟩
    refine .rptr _ _ _ _ _ (fun j => cs i.toNat j) hok (by omega) (fun j hj => hc _ hil j (by omega)) (fun j hj => ?_)
    have := hr _ hil j (by rw [hie]; exact hj)
    simp only [hie] at this
    exact this.rep
theorem q_idxpts {e : TypeId} {fr : Bool} {l : List PT} {i : Int} {k : IntKind} {p : PT} (hx : σ.ev x = .pts fr l) (hy : σ.ev y = .int k i) (ht : C.P.underlying t = some (.slice e)) (hs : sizeB C.P e 4 = true) (h0 : 0 ≤ i) (hi : l[i.toNat]? = some p) :
    Qd C ⟨d, .indexAddr t x y, ty, pos, af, g⟩ σ (.rptr fr (ptCells fr p)) := qd_of fun γ a w _ he => by
  have e1 := he x (by simp [Op.operands])
  have e2 := he y (by simp [Op.operands])
  rw [hx] at e1; rw [hy] at e2
  have e2 := e2.int_inv
  obtain ⟨hil, hie⟩ := List.getElem?_eq_some_iff.1 hi
  have e1 := e1.pts_inv
  generalize hev : a.eval x = v at e1
  cases e1 with
  | nil a cap ha => simp at hil
  | mk l b o cap hv pv hok h0' hcap hc hh hp =>
    obtain ⟨c1, c2, c3, c4⟩ := hc _ hil
    have e3 := hh _ hil
    have e4 := hp _ hil
    rw [hie] at c2 c3 e3 e4
    have hrun := run_indexAt_sl (w := w) ht hs b o l.length cap k i h0 hil
    refine ⟨.pointer (some ⟨b, o + i.toNat * 4, none⟩), w, by simp [execOp, hev, e2, hrun], ext_refl w, ?_⟩
    · refine .rptr _ _ _ _ _ (fun j => match j with | 0 => hv i.toNat | 1 => .string ⟨p.body.toArray⟩ | 2 => .bool p.many | _ => pv i.toNat) hok (by simp [ptCells]) (fun j hj => ?_) (fun j hj => ?_)
      · simp [ptCells] at hj
        match j, hj with
        | 0, _ => exact c1
        | 1, _ => exact c2
        | 2, _ => exact c3
        | 3, _ => exact c4
      · simp [ptCells] at hj
        match j, hj with
        | 0, _ => exact .ro _ _ _ _ _ e3
        | 1, _ => exact .str _ _
        | 2, _ => exact .bool _ _
        | 3, _ => exact .pts _ _ _ _ e4
/-- an element of a slice of the frame's own -/
theorem q_idxsl {e e' : TypeId} {sz id : Nat} {rows : List (List AV)} {i : Int} {k : IntKind} (hx : σ.ev x = .sl id) (ho : σ.heap id = some (.rows e' sz rows)) (hy : σ.ev y = .int k i) (ht : C.P.underlying t = some (.slice e)) (hs : sizeB C.P e sz = true) (h0 : 0 ≤ i) (hi : i.toNat < rows.length) :
    Qd C ⟨d, .indexAddr t x y, ty, pos, af, g⟩ σ (.eptr id sz i.toNat 0) := qd_of fun γ a w hh he => by
  have e1 := he x (by simp [Op.operands])
  have e2 := he y (by simp [Op.operands])
  rw [hx] at e1; rw [hy] at e2
  have e2 := e2.int_inv
  have e1 := e1.sl_inv
  obtain ⟨u, cs, hg, hown, hs', hl, hr⟩ := hh.obj id _ ho
  obtain ⟨hcl, h2⟩ := hown
  rcases h2 with ⟨rfl, h0'⟩ | ⟨b, cap, cur, rfl, _, hh', hnc, _, hcs, htk⟩
  · omega
  · have hev : a.eval x = .slice (some ⟨b, 0, none⟩) rows.length cap := by rw [e1, hg]
    have hrun := run_indexAt_sl (w := w) ht hs b 0 rows.length cap k i h0 hi
    refine ⟨.pointer (some ⟨b, i.toNat * sz + 0, none⟩), w, by simp [execOp, hev, e2, hrun], ext_refl w, ?_⟩
    exact .eptr _ _ _ _ _ _ rows.length cap (by rw [hg])
theorem run_indexAt_arr {P : Program} {w : World} {t e n : Nat} {sz : Nat} (ht : P.underlying t = some (.array n e)) (hs : sizeB P e sz = true) (b o : Nat) (k : IntKind) (i : Int) (h0 : 0 ≤ i) (h1 : i.toNat < n) :
    (Instr.indexAt t (.pointer (some ⟨b, o, none⟩)) (.int k i)).run P w = .ok (.pointer (some ⟨b, o + i.toNat * sz, none⟩)) w := by
  have h2 : i < n := by omega
  simp [Instr.indexAt, run_underlying ht, asIntOf, h0, h2, sizeB_spec hs, Addr.add_lit, Instr.sureAddr]
/-- an element of an array variable -/
theorem q_idxarr {e n sz id fo : Nat} {i : Int} {k : IntKind} (hx : σ.ev x = .ptr id fo) (hy : σ.ev y = .int k i) (ht : C.P.underlying t = some (.array n e)) (hs : sizeB C.P e sz = true) (h0 : 0 ≤ i) (hi : i.toNat < n) :
    Qd C ⟨d, .indexAddr t x y, ty, pos, af, g⟩ σ (.ptr id (fo + i.toNat * sz)) := qd_of fun γ a w hh he => by
  have e1 := he x (by simp [Op.operands])
  have e2 := he y (by simp [Op.operands])
  rw [hx] at e1; rw [hy] at e2
  have e2 := e2.int_inv
  obtain ⟨b, h1, h2⟩ := e1.ptr_inv
  have hrun := run_indexAt_arr (w := w) ht hs b fo k i h0 hi
  exact ⟨_, w, by simp [execOp, h2, e2, hrun], ext_refl w, .ptr _ _ _ _ h1⟩
theorem q_idxg {e n sz b fo : Nat} {i : Int} {k : IntKind} (hx : σ.ev x = .gptr b fo) (hy : σ.ev y = .int k i) (ht : C.P.underlying t = some (.array n e)) (hs : sizeB C.P e sz = true) (h0 : 0 ≤ i) (hi : i.toNat < n) :
    Qd C ⟨d, .indexAddr t x y, ty, pos, af, g⟩ σ (.gptr b (fo + i.toNat * sz)) := qd_of fun γ a w hh he => by
  have e1 := he x (by simp [Op.operands])
  have e2 := he y (by simp [Op.operands])
  rw [hx] at e1; rw [hy] at e2
  have e2 := e2.int_inv
  have h2 := e1.gptr_inv
  have hrun := run_indexAt_arr (w := w) ht hs b fo k i h0 hi
  exact ⟨_, w, by simp [execOp, h2, e2, hrun], ext_refl w, .gptr _ _ _⟩

/-! loads -/
theorem run_load_scal {P : Program} {w : World} {t : TypeId} (ht : scalB P t = true) {ad : Addr} {v : Value} (hc : w.cell? ad = some v) : (loadVar t ad).run P w = .ok v w := by
  simp [loadVar, scalB_spec ht, hc]
theorem run_load_agg {P : Program} {w : World} {t n : Nat} (ht : aggB P t n = true) {b o : Nat} {vs : List Value} (hl : vs.length = n) (hc : ∀ j v, vs[j]? = some v → w.cell? ⟨b, o + j, none⟩ = some v) : (loadVar t ⟨b, o, none⟩).run P w = .ok (.agg vs.toArray) w := by
  obtain ⟨a1, a2⟩ := aggB_spec ht w
  have hld := run_loadCells_list (P := P) (w := w) ⟨b, o, none⟩ vs (fun j v hj => by rw [Addr.add_lit]; exact hc j v hj)
  rw [hl] at hld
  simp only [loadVar, Sem.run_bind, a1, a2, Result.andThen_ok, if_true]
  rw [hld]
  rfl
theorem choose_list {n : Nat} {p : Nat → Value → Prop} (h : ∀ j, j < n → ∃ v, p j v) : ∃ vs : List Value, vs.length = n ∧ ∀ j (hj : j < vs.length), p j vs[j] := by
  induction n with
  | zero => exact ⟨[], rfl, fun j hj => absurd hj (Nat.not_lt_zero _)⟩
  | succ n ih =>
    obtain ⟨vs, h1, h2⟩ := ih (fun j hj => h j (by omega))
    obtain ⟨v, hv⟩ := h n (by omega)
    refine ⟨vs ++ [v], by simp [h1], fun j hj => ?_⟩
    by_cases hjn : j < vs.length
    · rw [List.getElem_append_left hjn]; exact h2 j hjn
    · have : j = n := by simp at hj; omega
      subst this
      rw [List.getElem_append_right (by omega)]
      simpa [h1] using hv
theorem q_load {id fo : Nat} {cells : List AV} {v : AV} (hx : σ.ev x = .ptr id fo) (ho : σ.heap id = some (.box cells)) (hv : cells[fo]? = some v) (ht : scalB C.P t = true) : Qd C ⟨d, .load t x, ty, pos, af, g⟩ σ v := qd_of fun γ a w hh he => by
  have e1 := he x (by simp [Op.operands])
  rw [hx] at e1
  obtain ⟨b, h1, h2⟩ := e1.ptr_inv
  obtain ⟨u, hc, hr⟩ := hh.boxCell ho h1 hv
  exact ⟨u, w, by simp [execOp, h2, Instr.loadAt, Instr.sureAddr, run_load_scal ht hc], ext_refl w, hr⟩
theorem q_loade {id sz i fo : Nat} {e' : TypeId} {rows : List (List AV)} {r : List AV} {v : AV} (hx : σ.ev x = .eptr id sz i fo) (ho : σ.heap id = some (.rows e' sz rows)) (hi : rows[i]? = some r) (hv : r[fo]? = some v) (ht : scalB C.P t = true) : Qd C ⟨d, .load t x, ty, pos, af, g⟩ σ v := qd_of fun γ a w hh he => by
  have e1 := he x (by simp [Op.operands])
  rw [hx] at e1
  obtain ⟨b, n, cap, h1, h2⟩ := e1.eptr_inv
  obtain ⟨g', n', cap', u, h3, hc, hr⟩ := hh.rowCell ho hi hv
  rw [h1] at h3
  cases h3
  exact ⟨u, w, by simp [execOp, h2, Instr.loadAt, Instr.sureAddr, run_load_scal ht hc], ext_refl w, hr.rep⟩
theorem q_loadr {fr : Bool} {cells : List AV} {v : AV} (hx : σ.ev x = .rptr fr cells) (hv : cells[0]? = some v) (ht : scalB C.P t = true) (hm : ∀ id, v.ment id = false) : Qd C ⟨d, .load t x, ty, pos, af, g⟩ σ v := qd_of fun γ a w hh he => by
  have e1 := he x (by simp [Op.operands])
  rw [hx] at e1
  obtain ⟨b, o, cs, ⟨h1, h2, h3, h4⟩, h5⟩ := e1.rptr_inv
  obtain ⟨hl, hv'⟩ := List.getElem?_eq_some_iff.1 hv
  have hc := h3 0 hl
  have hr := h4 0 hl
  rw [hv'] at hr
  rw [Nat.add_zero] at hc
  refine ⟨cs 0, w, by simp [execOp, h5, Instr.loadAt, Instr.sureAddr, run_load_scal ht hc], ext_refl w, ?_⟩
  exact hr.mono (fun _ _ _ => rfl) (fun _ _ h => h) (Nat.le_refl _) _ (fun id h => by rw [hm id] at h; cases h)
theorem q_loada {id fo n : Nat} {cells sub : List AV} (hx : σ.ev x = .ptr id fo) (ho : σ.heap id = some (.box cells)) (hs : (cells.drop fo).take n = sub) (hn : fo + n ≤ cells.length) (ht : aggB C.P t n = true) : Qd C ⟨d, .load t x, ty, pos, af, g⟩ σ (.agg sub) := qd_of fun γ a w hh he => by
  have e1 := he x (by simp [Op.operands])
  rw [hx] at e1
  obtain ⟨b, h1, h2⟩ := e1.ptr_inv
  have get : ∀ j, j < n → cells[fo + j]? = sub[j]? := by
    intro j hj
    subst hs
    rw [List.getElem?_take, if_pos hj, List.getElem?_drop]
  have hsl : sub.length = n := by subst hs; simp; omega
  obtain ⟨vs, hl, hvs⟩ := choose_list (n := n) (p := fun j u => w.cell? ⟨b, fo + j, none⟩ = some u ∧ ∀ v, sub[j]? = some v → Rep w C.N (Mut γ σ.heap) (fun i => (γ i).1) v u) (fun j hj => by
    have hj' : sub[j]? = some (sub[j]'(by omega)) := List.getElem?_eq_getElem (by omega)
    obtain ⟨u, hc, hr⟩ := hh.boxCell ho h1 ((get j hj).trans hj')
    exact ⟨u, hc, fun v hv => by rw [hj'] at hv; cases hv; exact hr⟩)
  refine ⟨.agg vs.toArray, w, ?_, ext_refl w, .agg _ _ _ (by rw [hl, hsl]) (fun j hj hj' => (hvs j hj').2 _ (List.getElem?_eq_getElem hj))⟩
  simp [execOp, h2, Instr.loadAt, Instr.sureAddr, run_load_agg ht hl (fun j v hj => by
    obtain ⟨hjl, hje⟩ := List.getElem?_eq_some_iff.1 hj
    rw [← hje]
    exact (hvs j hjl).1)]
theorem q_loadae {id sz i fo n : Nat} {e' : TypeId} {rows : List (List AV)} {r sub : List AV} (hx : σ.ev x = .eptr id sz i fo) (ho : σ.heap id = some (.rows e' sz rows)) (hi : rows[i]? = some r) (hs : (r.drop fo).take n = sub) (hn : fo + n ≤ r.length) (hn0 : 0 < n) (ht : aggB C.P t n = true) : Qd C ⟨d, .load t x, ty, pos, af, g⟩ σ (.agg sub) := qd_of fun γ a w hh he => by
  have e1 := he x (by simp [Op.operands])
  rw [hx] at e1
  obtain ⟨b, n', cap, h1, h2⟩ := e1.eptr_inv
  have get : ∀ j, j < n → r[fo + j]? = sub[j]? := by
    intro j hj
    subst hs
    rw [List.getElem?_take, if_pos hj, List.getElem?_drop]
  have hsl : sub.length = n := by subst hs; simp; omega
  obtain ⟨vs, hl, hvs⟩ := choose_list (n := n) (p := fun j u => w.cell? ⟨b, i * sz + fo + j, none⟩ = some u ∧ ∀ v, sub[j]? = some v → Rep w C.N (Mut γ σ.heap) (fun i => (γ i).1) v u) (fun j hj => by
    have hj' : sub[j]? = some (sub[j]'(by omega)) := List.getElem?_eq_getElem (by omega)
    obtain ⟨g', n'', cap', u, h3, hc, hr⟩ := hh.rowCell ho hi ((get j hj).trans hj')
    rw [h1] at h3
    cases h3
    exact ⟨u, by rw [Nat.add_assoc]; exact hc, fun v hv => by rw [hj'] at hv; cases hv; exact hr.rep⟩)
  refine ⟨.agg vs.toArray, w, ?_, ext_refl w, .agg _ _ _ (by rw [hl, hsl]) (fun j hj hj' => (hvs j hj').2 _ (List.getElem?_eq_getElem hj))⟩
  simp [execOp, h2, Instr.loadAt, Instr.sureAddr, run_load_agg ht hl (fun j v hj => by
    obtain ⟨hjl, hje⟩ := List.getElem?_eq_some_iff.1 hj
    rw [← hje]
    exact (hvs j hjl).1)]
theorem q_loadar {n : Nat} {fr : Bool} {cells sub : List AV} (hx : σ.ev x = .rptr fr cells) (hs : cells.take n = sub) (hn : n ≤ cells.length) (ht : aggB C.P t n = true) (hm : ∀ id, AV.mentL id sub = false) : Qd C ⟨d, .load t x, ty, pos, af, g⟩ σ (.agg sub) := qd_of fun γ a w hh he => by
  have e1 := he x (by simp [Op.operands])
  rw [hx] at e1
  obtain ⟨b, o, cs, ⟨h1, h2, h3, h4⟩, h5⟩ := e1.rptr_inv
  have hsl : sub.length = n := by subst hs; simp; omega
  have hl : ((List.range n).map cs).length = n := by simp
  refine ⟨.agg ((List.range n).map cs).toArray, w, ?_, ext_refl w, .agg _ _ _ (by rw [hl, hsl]) (fun j hj hj' => ?_)⟩
  · simp only [execOp, h5, Instr.loadAt, Instr.sureAddr, Sem.run_bind, Sem.run_pure, Result.andThen_ok, run_load_agg ht hl (fun j v hj => by
      obtain ⟨hjl, hje⟩ := List.getElem?_eq_some_iff.1 hj
      rw [← hje, List.getElem_map, List.getElem_range]
      exact h3 j (by simp at hjl; omega))]
  · rw [List.getElem_map, List.getElem_range]
    have hjc : j < cells.length := by omega
    have he' : sub[j] = cells[j] := by subst hs; rw [List.getElem_take]
    rw [he']
    refine (h4 j hjc).mono (fun _ _ _ => rfl) (fun _ _ h => h) (Nat.le_refl _) _ (fun id h => ?_)
    rw [← he'] at h
    have := AV.mentL_mem (List.getElem_mem hj) h
    rw [hm id] at this
    cases this

/-! lengths -/
theorem run_len_sl {P : Program} {w : World} {t ty e : TypeId} (ht : P.underlying t = some (.slice e)) (b : Option Addr) (n c : Nat) : (Builtin.len_ #[t] ty #[.slice b n c]).run P w = .ok (.int .i64 n) w := by
  simp [Builtin.len_, run_underlying ht, goInt]
theorem q_lenof {e : TypeId} {n : Nat} (hx : ∀ (γ : Gh) (w : World) (v : Value), HR C γ σ.heap w → Rep w C.N (Mut γ σ.heap) (fun i => (γ i).1) (σ.ev x) v → ∃ b c, v = .slice b n c) (ht : C.P.underlying t = some (.slice e)) :
    Qd C ⟨d, .call { callee := .builtin .len, args := #[x], argTypes := #[t] }, ty, pos, af, g⟩ σ (.int .i64 n) := qd_of fun γ a w hh he => by
  have e1 := he x (by simp [Op.operands, Call.operands])
  obtain ⟨b, c, hv⟩ := hx γ w _ hh e1
  exact ⟨.int .i64 n, w, by simp [execOp, resolve, invoke, builtin, hv, run_len_sl ht], ext_refl w, .int _ _ _⟩
theorem q_lenro {e : TypeId} {sz : Nat} {fr : Bool} {rows : List (List AV)} (hx : σ.ev x = .ro fr sz rows) (ht : C.P.underlying t = some (.slice e)) : Qd C ⟨d, .call { callee := .builtin .len, args := #[x], argTypes := #[t] }, ty, pos, af, g⟩ σ (.int .i64 rows.length) :=
  q_lenof (fun γ w v _ h => by
    rw [hx] at h
    rcases h.ro_inv with ⟨rfl, a, c, hv, _⟩ | ⟨b, o, cap, cs, hv, _⟩
    · exact ⟨a, c, hv⟩
    · exact ⟨_, _, hv⟩) ht
theorem q_lenpts {e : TypeId} {fr : Bool} {l : List PT} (hx : σ.ev x = .pts fr l) (ht : C.P.underlying t = some (.slice e)) : Qd C ⟨d, .call { callee := .builtin .len, args := #[x], argTypes := #[t] }, ty, pos, af, g⟩ σ (.int .i64 l.length) :=
  q_lenof (fun γ w v _ h => by
    rw [hx] at h
    have h := h.pts_inv
    cases h with
    | nil a c _ => exact ⟨a, c, rfl⟩
    | mk l b o cap => exact ⟨_, _, rfl⟩) ht
theorem q_lennil {e : TypeId} (hx : σ.ev x = .nils) (ht : C.P.underlying t = some (.slice e)) : Qd C ⟨d, .call { callee := .builtin .len, args := #[x], argTypes := #[t] }, ty, pos, af, g⟩ σ (.int .i64 (0 : Nat)) :=
  q_lenof (fun γ w v _ h => by rw [hx] at h; exact ⟨_, _, h.nils_inv⟩) ht
theorem own_sl {γ : Gh} {w : World} {id : Nat} {e : TypeId} {sz : Nat} {rows : List (List AV)} (hh : HR C γ σ.heap w) (ho : σ.heap id = some (.rows e sz rows)) : ∃ b c, (γ id).1 = .slice b rows.length c := by
  obtain ⟨u, cs, hg, hown, _⟩ := hh.obj id _ ho
  rcases hown.2 with ⟨rfl, h0⟩ | ⟨g, cap, cur, rfl, _⟩
  · exact ⟨none, 0, by rw [hg, h0]⟩
  · exact ⟨_, _, by rw [hg]⟩
theorem q_lensl {e e' : TypeId} {id sz : Nat} {rows : List (List AV)} (hx : σ.ev x = .sl id) (ho : σ.heap id = some (.rows e' sz rows)) (ht : C.P.underlying t = some (.slice e)) : Qd C ⟨d, .call { callee := .builtin .len, args := #[x], argTypes := #[t] }, ty, pos, af, g⟩ σ (.int .i64 rows.length) :=
  q_lenof (fun γ w v hh h => by
    rw [hx] at h
    obtain ⟨b, c, hb⟩ := own_sl hh ho
    exact ⟨b, c, by rw [h.sl_inv]; exact hb⟩) ht
end
end Go.Proofs.YtignjjnflcpiiaaDoor
