/- More rules: slices of texts, results that say less. -/
import Derived.Test.YtignjjnflcpiiaaDoorVmK
set_option linter.unusedVariables false
set_option linter.unusedSimpArgs false
namespace Go.Proofs.YtignjjnflcpiiaaDoor
open Go.RowKit

section
variable {C : Cx} {σ : St} {d : Option Nat} {x y z : Operand} {t ty : TypeId} {pos : String} {af : Array Edge} {g : Option (Nat × Bool)} {u : List UInt8} {k k' : IntKind} {m n : Int}
theorem q_slice_lo (hx : σ.ev x = .str u) (hy : σ.ev y = .int k m) (ht : C.P.underlying t = some .string) (h0 : 0 ≤ m) (h1 : m.toNat ≤ u.length) : Qd C ⟨d, .slice t x (some y) none none, ty, pos, af, g⟩ σ (.str (u.drop m.toNat)) := by
  have h := q_slice (C := C) (d := d) (ty := ty) (pos := pos) (af := af) (g := g) (yl := some y) (yh := none) (l := m.toNat) (h := u.length) hx ht ⟨k, m, hy, h0, rfl⟩ rfl h1 (Nat.le_refl _)
  rw [List.take_of_length_le (Nat.le_refl _)] at h
  exact h
theorem q_slice_hi (hx : σ.ev x = .str u) (hy : σ.ev y = .int k m) (ht : C.P.underlying t = some .string) (h0 : 0 ≤ m) (h1 : m.toNat ≤ u.length) : Qd C ⟨d, .slice t x none (some y) none, ty, pos, af, g⟩ σ (.str (u.take m.toNat)) := by
  have h := q_slice (C := C) (d := d) (ty := ty) (pos := pos) (af := af) (g := g) (yl := none) (yh := some y) (l := 0) (h := m.toNat) hx ht rfl ⟨k, m, hy, h0, rfl⟩ (Nat.zero_le _) h1
  rw [List.drop_zero] at h
  exact h
theorem q_slice_lh (hx : σ.ev x = .str u) (hy : σ.ev y = .int k m) (hz : σ.ev z = .int k' n) (ht : C.P.underlying t = some .string) (h0 : 0 ≤ m) (h1 : m ≤ n) (h2 : n.toNat ≤ u.length) : Qd C ⟨d, .slice t x (some y) (some z) none, ty, pos, af, g⟩ σ (.str ((u.take n.toNat).drop m.toNat)) :=
  q_slice (yl := some y) (yh := some z) (l := m.toNat) (h := n.toNat) hx ht ⟨k, m, hy, h0, rfl⟩ ⟨k', n, hz, Int.le_trans h0 h1, rfl⟩ (by omega) h2
theorem q_slice_hiE {n' : Nat} {l : List UInt8} (hx : σ.ev x = .str u) (hy : σ.ev y = .int k m) (hm : m = (n' : Int)) (ht : C.P.underlying t = some .string) (h1 : n' ≤ u.length) (hl : u.take n' = l) : Qd C ⟨d, .slice t x none (some y) none, ty, pos, af, g⟩ σ (.str l) := by
  subst hm; subst hl
  exact q_slice_hi hx hy ht (by omega) (by omega)
theorem q_slice_loE {n' : Nat} {l : List UInt8} (hx : σ.ev x = .str u) (hy : σ.ev y = .int k m) (hm : m = (n' : Int)) (ht : C.P.underlying t = some .string) (h1 : n' ≤ u.length) (hl : u.drop n' = l) : Qd C ⟨d, .slice t x (some y) none none, ty, pos, af, g⟩ σ (.str l) := by
  subst hm; subst hl
  exact q_slice_lo hx hy ht (by omega) (by omega)
theorem q_field' {f id fo : Nat} (hx : σ.ev x = .ptr id fo) (ht : fieldB C.P t f f = true) : Qd C ⟨d, .fieldAddr t x f, ty, pos, af, g⟩ σ (.ptr id (fo + f)) := q_field hx ht
theorem q_fielde' {f id sz i fo : Nat} (hx : σ.ev x = .eptr id sz i fo) (ht : fieldB C.P t f f = true) : Qd C ⟨d, .fieldAddr t x f, ty, pos, af, g⟩ σ (.eptr id sz i (fo + f)) := q_fielde hx ht
theorem q_fieldr' {f : Nat} {fr : Bool} {cells : List AV} (hx : σ.ev x = .rptr fr cells) (ht : fieldB C.P t f f = true) (hof : f < cells.length) : Qd C ⟨d, .fieldAddr t x f, ty, pos, af, g⟩ σ (.rptr fr (cells.drop f)) := q_fieldr hx ht hof
/-- a pointer to a new block that nobody writes -/
theorem q_boxr {l : List AV} (hx : σ.ev x = .agg l) (hf : l.all AV.flat = true) (h0 : 0 < l.length) : Qd C ⟨d, .box t x, ty, pos, af, g⟩ σ (.rptr true l) := qd_of fun γ a w hh he => by
  have e1 := he x (by simp [Op.operands])
  rw [hx] at e1
  obtain ⟨xs, h1, h2, h3, h4⟩ := e1.cellsOf hh (show l.all AV.one = true from List.all_eq_true.2 (fun u hu => flat_one (List.all_eq_true.1 hf u hu)))
  have hl : xs.length = l.length := h2
  refine ⟨.pointer (some ⟨w.heap.size, 0, none⟩), w.alloc (.cells xs.toArray t), by simp [execOp, Instr.box, newVar, newRow, h1], (Below.refl _ w).alloc (Nat.le_refl _) _, .rptr _ _ _ _ _ (fun j => xs.getD j undef) ⟨fun h => absurd (Mut.lt (C := C) (σ := σ) hh h) (Nat.lt_irrefl _), fun _ => hh.chg.size⟩ h0 (fun j hj => ?_) (fun j hj => ?_)⟩
  · rw [Nat.zero_add, World.cell?_alloc_new]
    simp [show j < xs.length by omega]
  · rw [List.getD_eq_getElem?_getD, List.getElem?_eq_getElem (by omega)]
    exact ((h3 j hj (by omega)).flat (List.all_eq_true.1 hf _ (List.getElem_mem _))).rep
end

/-- the ops that write an object -/
def wrB (o : Oper) : Bool := match o.op with
  | .alloc _ | .store .. => true
  | .call c => match c.callee with
    | .builtin .append => true
    | _ => false
  | _ => false

/-- a round's end -/
theorem loop_next {C : Cx} {X : Type} {I : X → Prop} {S : X → St} {μ : X → Nat} {m : Nat} {Q : Exit → St → Prop} {σ : St} (y : X) (hI : I y) (hw : Weak C σ (S y)) (hm : μ y < m) : loopQ C I S μ m Q .normal σ := ⟨y, hI, hw, hm⟩

/-- b says less than a -/
def Up (a b : AV) : Prop := ∀ (w : World) (N : Nat) (M : Nat → Prop) (γ : Nat → Value) (v : Value), Rep w N M γ a v → Rep w N M γ b v
theorem Up.refl (a : AV) : Up a a := fun _ _ _ _ _ h => h
theorem Up.nil (fr : Bool) (sz : Nat) : Up .nils (.ro fr sz []) := fun w N M γ v h => by
  rw [h.nils_inv]
  exact .ro _ _ _ _ _ (.inl ⟨rfl, none, 0, rfl, fun _ => rfl⟩)
theorem Up.nilp (fr : Bool) : Up .nils (.pts fr []) := fun w N M γ v h => by
  rw [h.nils_inv]
  exact .pts _ _ _ _ (.nil none 0 (fun _ => rfl))
inductive UpL : List AV → List AV → Prop
  | nil : UpL [] []
  | cons {a b : AV} {l r : List AV} (h : Up a b) (t : UpL l r) : UpL (a :: l) (b :: r)
theorem UpL.get {l r : List AV} (h : UpL l r) : l.length = r.length ∧ ∀ i (hl : i < l.length) (hr : i < r.length), Up l[i] r[i] := by
  induction h with
  | nil => exact ⟨rfl, fun i h => absurd h (Nat.not_lt_zero _)⟩
  | cons h t ih =>
    refine ⟨by simp [ih.1], fun i hl hr => ?_⟩
    cases i with
    | zero => exact h
    | succ i => exact ih.2 i (by simpa using hl) (by simpa using hr)
theorem Up.tup {l r : List AV} (h : UpL l r) : Up (.tup l) (.tup r) := fun w N M γ v hv => by
  obtain ⟨xs, rfl, hl, hx⟩ := Rep.tup_inv hv
  exact .tup _ _ _ (hl.trans h.get.1) (fun i hi hx' => h.get.2 i (by rw [h.get.1]; exact hi) hi _ _ _ _ _ (hx i (by rw [h.get.1]; exact hi) hx'))
theorem CPure.up {X : Gx} {f : FuncId} {l : List AV} {a b : AV} (h : CPure X f l a) (hu : Up a b) : CPure X f l b := fun w vs hG hn hl hr =>
  (h w vs hG hn hl hr).mono fun _ _ ⟨v, h1, h2, h3⟩ => ⟨v, h1, h2, hu _ _ _ _ _ h3⟩
end Go.Proofs.YtignjjnflcpiiaaDoor
