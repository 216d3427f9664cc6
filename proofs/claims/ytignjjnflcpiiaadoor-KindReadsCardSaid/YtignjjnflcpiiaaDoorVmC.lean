/- The quiet operations, one rule each: what an operation that writes nothing yields. -/
import Derived.Test.YtignjjnflcpiiaaDoorVmB
import Derived.WalkLawsBesides
import Derived.WalkSpells
import Derived.Laws.Small
import Derived.Lib.Strings
import Derived.Lib.UnsafeStr
import Derived.Lib.IndexBytes
set_option linter.unusedVariables false
set_option linter.unusedSimpArgs false
namespace Go.Proofs.YtignjjnflcpiiaaDoor
open Go.RowKit

theorem sizeMk (u : List UInt8) : (⟨u.toArray⟩ : ByteArray).size = u.length := by simp [ByteArray.size]
theorem beqd {α : Type} [BEq α] [LawfulBEq α] [DecidableEq α] (a b : α) : (a == b) = decide (a = b) := by rw [Bool.eq_iff_iff]; simp
section
variable {C : Cx} {wr : Oper → Bool} {ops : Array Oper} {o : Oper} {rest : List Oper} {σ : St} {K : St → Prop}
/-! steps -/
theorem st_nil (h : K σ) : Steps C wr ops [] σ K := h
theorem st_q {v : AV} (hg : o.guard = none) (hq : Qd C o σ v) (hk : Steps C wr ops rest (σ.puto o.dst v) K) : Steps C wr ops (o :: rest) σ K := by
  unfold Steps Step1
  rw [hg]
  exact .inl ⟨v, hq, hk⟩
theorem st_w {σ' : St} (hg : o.guard = none) (hw : wr o = true) (hq : Wr C o σ σ') (hk : Steps C wr ops rest σ' K) : Steps C wr ops (o :: rest) σ K := by
  unfold Steps Step1
  rw [hg]
  exact .inr ⟨hw, σ', hq, hk⟩
theorem GV_self (b : Bool) : GV (.bool b) b = some true := by cases b <;> rfl
/-- a guarded operation that runs -/
theorem st_gq {v : AV} {j d : Nat} {b : Bool} (hg : o.guard = some (j, b)) (hd : (ops[j]?).bind (·.dst) = some d) (hb : σ.env d = .bool b) (hq : Qd C o σ v) (hk : Steps C wr ops rest (σ.puto o.dst v) K) : Steps C wr ops (o :: rest) σ K := by
  unfold Steps Step1
  rw [hg]
  exact ⟨d, true, hd, by rw [hb]; exact GV_self b, fun _ => .inl ⟨v, hq, hk⟩, fun h => by cases h⟩
theorem st_gw {σ' : St} {j d : Nat} {b : Bool} (hg : o.guard = some (j, b)) (hd : (ops[j]?).bind (·.dst) = some d) (hb : σ.env d = .bool b) (hw : wr o = true) (hq : Wr C o σ σ') (hk : Steps C wr ops rest σ' K) : Steps C wr ops (o :: rest) σ K := by
  unfold Steps Step1
  rw [hg]
  exact ⟨d, true, hd, by rw [hb]; exact GV_self b, fun _ => .inr ⟨hw, σ', hq, hk⟩, fun h => by cases h⟩
/-- a guarded operation that does not run -/
theorem st_gn {j d : Nat} {b : Bool} (hg : o.guard = some (j, b)) (hd : (ops[j]?).bind (·.dst) = some d) (hb : GV (σ.env d) b = some false) (hk : Steps C wr ops rest (σ.puto o.dst UN) K) : Steps C wr ops (o :: rest) σ K := by
  unfold Steps Step1
  rw [hg]
  exact ⟨d, false, hd, hb, (fun h => by cases h), fun _ => hk⟩
/-- an operation that yields a test: two ways -/
theorem st_if {p : Prop} {dp : Decidable p} (hg : o.guard = none) (hq : Qd C o σ (.bool (decide p))) (h1 : p → Steps C wr ops rest (σ.puto o.dst (.bool true)) K) (h2 : ¬ p → Steps C wr ops rest (σ.puto o.dst (.bool false)) K) : Steps C wr ops (o :: rest) σ K := by
  refine st_q hg hq ?_
  by_cases hp : p
  · rw [decide_eq_true hp]; exact h1 hp
  · rw [decide_eq_false hp]; exact h2 hp
theorem st_gif {p : Prop} {dp : Decidable p} {j d : Nat} {b : Bool} (hg : o.guard = some (j, b)) (hd : (ops[j]?).bind (·.dst) = some d) (hb : σ.env d = .bool b) (hq : Qd C o σ (.bool (decide p))) (h1 : p → Steps C wr ops rest (σ.puto o.dst (.bool true)) K) (h2 : ¬ p → Steps C wr ops rest (σ.puto o.dst (.bool false)) K) : Steps C wr ops (o :: rest) σ K := by
  refine st_gq hg hd hb hq ?_
  by_cases hp : p
  · rw [decide_eq_true hp]; exact h1 hp
  · rw [decide_eq_false hp]; exact h2 hp
theorem st_b {b : Bool} (hg : o.guard = none) (hq : Qd C o σ (.bool b)) (h1 : b = true → Steps C wr ops rest (σ.puto o.dst (.bool true)) K) (h2 : b = false → Steps C wr ops rest (σ.puto o.dst (.bool false)) K) : Steps C wr ops (o :: rest) σ K := by
  refine st_q hg hq ?_
  cases b
  · exact h2 rfl
  · exact h1 rfl
theorem st_gb {b : Bool} {j d : Nat} {b' : Bool} (hg : o.guard = some (j, b')) (hd : (ops[j]?).bind (·.dst) = some d) (hb : σ.env d = .bool b') (hq : Qd C o σ (.bool b)) (h1 : b = true → Steps C wr ops rest (σ.puto o.dst (.bool true)) K) (h2 : b = false → Steps C wr ops rest (σ.puto o.dst (.bool false)) K) : Steps C wr ops (o :: rest) σ K := by
  refine st_gq hg hd hb hq ?_
  cases b
  · exact h2 rfl
  · exact h1 rfl

theorem qd_of {v : AV} (h : ∀ γ (a : Act) (w : World), HR C γ σ.heap w → (∀ x ∈ o.op.operands, Rep w C.N (Mut γ σ.heap) (fun i => (γ i).1) (σ.ev x) (a.eval x)) →
    ∃ x w', (execOp a.eval o).run C.P w = .ok (.value x) w' ∧ Ext w w' ∧ Rep w' C.N (Mut γ σ.heap) (fun i => (γ i).1) v x) : Qd C o σ v := by
  intro γ σ1 a w s hh he
  obtain ⟨x, w', hr, he', hx⟩ := h γ a w (by rw [← hh]; exact s.toHR) (fun x hx => by have := s.ev x; rw [he x hx, hh] at this; exact this)
  unfold Oper.wp
  rw [hr]
  exact ⟨x, rfl, he', hx⟩
theorem ext_refl (w : World) : Ext w w := Below.refl _ w

variable {d : Option Nat} {ty : TypeId} {pos : String} {af : Array Edge} {g : Option (Nat × Bool)}
theorem q_move {x : Operand} {v : AV} (hx : σ.ev x = v) : Qd C ⟨d, .move x, ty, pos, af, g⟩ σ v := qd_of fun γ a w _ he => by
  have e := he x (by simp [Op.operands])
  rw [hx] at e
  exact ⟨a.eval x, w, by simp [execOp], ext_refl w, e⟩
theorem q_assign {x : Operand} {v : AV} (hx : σ.ev x = v) : Qd C ⟨d, .assign x, ty, pos, af, g⟩ σ v := qd_of fun γ a w _ he => by
  have e := he x (by simp [Op.operands])
  rw [hx] at e
  exact ⟨a.eval x, w, by simp [execOp], ext_refl w, e⟩
theorem q_pick {c x y : Operand} {b : Bool} {v : AV} (hc : σ.ev c = .bool b) (hv : (match b with | true => σ.ev x | false => σ.ev y) = v) : Qd C ⟨d, .pick c x y, ty, pos, af, g⟩ σ v := qd_of fun γ a w _ he => by
  have e := he c (by simp [Op.operands])
  rw [hc] at e
  have e := e.bool_inv
  have ex := he x (by simp [Op.operands])
  have ey := he y (by simp [Op.operands])
  subst hv
  cases b with
  | true => exact ⟨a.eval x, w, by simp [execOp, asBool, e], ext_refl w, ex⟩
  | false => exact ⟨a.eval y, w, by simp [execOp, asBool, e], ext_refl w, ey⟩
theorem q_not {x : Operand} {t : TypeId} {b : Bool} (hx : σ.ev x = .bool b) : Qd C ⟨d, .unOp .not t x, ty, pos, af, g⟩ σ (.bool !b) := qd_of fun γ a w _ he => by
  have e := he x (by simp [Op.operands])
  rw [hx] at e
  have e := e.bool_inv
  exact ⟨.bool !b, w, by simp [execOp, e, Op.unary], ext_refl w, .bool _ _⟩
theorem q_extract {x : Operand} {i : Nat} {l : List AV} {v : AV} (hx : σ.ev x = .tup l) (hi : l[i]? = some v) : Qd C ⟨d, .extract x i, ty, pos, af, g⟩ σ v := qd_of fun γ a w _ he => by
  have e := he x (by simp [Op.operands])
  rw [hx] at e
  obtain ⟨xs, ex, hl, h⟩ := e.tup_inv
  obtain ⟨hi1, hi2⟩ := List.getElem?_eq_some_iff.1 hi
  have hr := h i hi1 (by omega)
  rw [hi2] at hr
  refine ⟨xs[i]'(by omega), w, ?_, ext_refl w, hr⟩
  simp [execOp, ex, Instr.extract, show i < xs.length by omega]

/-! integers -/
theorem q_bin {op : BinOp} {x y : Operand} {t t' : TypeId} {k k' : IntKind} {m n : Int} {v : Value} {av : AV} (hx : σ.ev x = .int k m) (hy : σ.ev y = .int k' n)
    (hr : ∀ (P : Program) (w : World), (binOp op t (.int k m) (.int k' n)).run P w = .ok v w) (hv : ∀ (w : World) N M γ, Rep w N M γ av v) : Qd C ⟨d, .binOp op t x y t', ty, pos, af, g⟩ σ av := qd_of fun γ a w _ he => by
  have e1 := he x (by simp [Op.operands])
  have e2 := he y (by simp [Op.operands])
  rw [hx] at e1; rw [hy] at e2
  have e1 := e1.int_inv
  have e2 := e2.int_inv
  exact ⟨v, w, by simp [execOp, e1, e2, eqGuard_at_int, hr], ext_refl w, hv _ _ _ _⟩
section
variable {x y : Operand} {t t' : TypeId} {k : IntKind} {m n : Int}
theorem q_add (hx : σ.ev x = .int k m) (hy : σ.ev y = .int k n) (hk : k.wrap (m + n) = m + n) : Qd C ⟨d, .binOp .add t x y t', ty, pos, af, g⟩ σ (.int k (m + n)) :=
  q_bin hx hy (fun P w => by simp [binOp_add, Op.intArith, hk]) (fun _ _ _ _ => .int _ _ _)
theorem q_sub (hx : σ.ev x = .int k m) (hy : σ.ev y = .int k n) (hk : k.wrap (m - n) = m - n) : Qd C ⟨d, .binOp .sub t x y t', ty, pos, af, g⟩ σ (.int k (m - n)) :=
  q_bin hx hy (fun P w => by simp [binOp_sub, Op.intArith, hk]) (fun _ _ _ _ => .int _ _ _)
theorem q_mul (hx : σ.ev x = .int k m) (hy : σ.ev y = .int k n) (hk : k.wrap (m * n) = m * n) : Qd C ⟨d, .binOp .mul t x y t', ty, pos, af, g⟩ σ (.int k (m * n)) :=
  q_bin hx hy (fun P w => by simp [binOp_mul, Op.intArith, hk]) (fun _ _ _ _ => .int _ _ _)
theorem q_quo (hx : σ.ev x = .int k m) (hy : σ.ev y = .int k n) (hn : n ≠ 0) (hk : k.wrap (m.tdiv n) = m / n) : Qd C ⟨d, .binOp .quo t x y t', ty, pos, af, g⟩ σ (.int k (m / n)) :=
  q_bin hx hy (fun P w => by simp [binOp_quo, Op.intDiv, hn, hk]) (fun _ _ _ _ => .int _ _ _)
theorem q_rem (hx : σ.ev x = .int k m) (hy : σ.ev y = .int k n) (hn : n ≠ 0) (hm : 0 ≤ m) : Qd C ⟨d, .binOp .rem t x y t', ty, pos, af, g⟩ σ (.int k (m % n)) :=
  q_bin hx hy (fun P w => by simp [binOp_rem, Op.intDiv, hn, Int.tmod_eq_emod_of_nonneg hm]) (fun _ _ _ _ => .int _ _ _)
theorem q_and {r : Int} (hx : σ.ev x = .int k m) (hy : σ.ev y = .int k n) (hk : bits .and k m n = r) : Qd C ⟨d, .binOp .and t x y t', ty, pos, af, g⟩ σ (.int k r) :=
  q_bin hx hy (fun P w => by simp [binOp_and, intBits_and, hk]) (fun _ _ _ _ => .int _ _ _)
theorem q_or {r : Int} (hx : σ.ev x = .int k m) (hy : σ.ev y = .int k n) (hk : bits .or k m n = r) : Qd C ⟨d, .binOp .or t x y t', ty, pos, af, g⟩ σ (.int k r) :=
  q_bin hx hy (fun P w => by simp [binOp_or, intBits_or, hk]) (fun _ _ _ _ => .int _ _ _)
theorem q_shl {k' : IntKind} {r : Int} (hx : σ.ev x = .int k m) (hy : σ.ev y = .int k' n) (h0 : 0 ≤ n) (h1 : n ≤ k.bits) (hk : k.wrap (m * 2 ^ n.toNat) = r) : Qd C ⟨d, .binOp .shl t x y t', ty, pos, af, g⟩ σ (.int k r) :=
  q_bin hx hy (fun P w => by simp [binOp_shl, shift_shl k k' m n h0 h1, hk]) (fun _ _ _ _ => .int _ _ _)
theorem q_shr {k' : IntKind} (hx : σ.ev x = .int k m) (hy : σ.ev y = .int k' n) (h0 : 0 ≤ n) (h1 : n ≤ k.bits) : Qd C ⟨d, .binOp .shr t x y t', ty, pos, af, g⟩ σ (.int k (m / 2 ^ n.toNat)) :=
  q_bin hx hy (fun P w => by simp [binOp_shr, shift_shr k k' m n h0 h1]) (fun _ _ _ _ => .int _ _ _)
theorem q_lss (hx : σ.ev x = .int k m) (hy : σ.ev y = .int k n) : Qd C ⟨d, .binOp .lss t x y t', ty, pos, af, g⟩ σ (.bool (decide (m < n))) :=
  q_bin hx hy (fun P w => by simp [binOp_lss]) (fun _ _ _ _ => .bool _ _)
theorem q_leq (hx : σ.ev x = .int k m) (hy : σ.ev y = .int k n) : Qd C ⟨d, .binOp .leq t x y t', ty, pos, af, g⟩ σ (.bool (decide (m ≤ n))) :=
  q_bin hx hy (fun P w => by simp [binOp_leq]) (fun _ _ _ _ => .bool _ _)
theorem q_gtr (hx : σ.ev x = .int k m) (hy : σ.ev y = .int k n) : Qd C ⟨d, .binOp .gtr t x y t', ty, pos, af, g⟩ σ (.bool (decide (n < m))) :=
  q_bin hx hy (fun P w => by simp [binOp_gtr]) (fun _ _ _ _ => .bool _ _)
theorem q_geq (hx : σ.ev x = .int k m) (hy : σ.ev y = .int k n) : Qd C ⟨d, .binOp .geq t x y t', ty, pos, af, g⟩ σ (.bool (decide (n ≤ m))) :=
  q_bin hx hy (fun P w => by simp [binOp_geq]) (fun _ _ _ _ => .bool _ _)
theorem q_eql (hx : σ.ev x = .int k m) (hy : σ.ev y = .int k n) : Qd C ⟨d, .binOp .eql t x y t', ty, pos, af, g⟩ σ (.bool (decide (m = n))) :=
  q_bin hx hy (fun P w => by simp [binOp_eql]; exact beqd _ _) (fun _ _ _ _ => .bool _ _)
theorem q_neq (hx : σ.ev x = .int k m) (hy : σ.ev y = .int k n) : Qd C ⟨d, .binOp .neq t x y t', ty, pos, af, g⟩ σ (.bool (decide (m ≠ n))) :=
  q_bin hx hy (fun P w => by simp [binOp_neq, bne, beqd]) (fun _ _ _ _ => .bool _ _)
/-- the smaller, the greater of two -/
theorem q_min {ts : Array TypeId} (hx : σ.ev x = .int k m) (hy : σ.ev y = .int k n) : Qd C ⟨d, .call { callee := .builtin .min, args := #[x, y], argTypes := ts }, ty, pos, af, g⟩ σ (.int k (min m n)) := qd_of fun γ a w _ he => by
  have e1 := he x (by simp [Op.operands, Call.operands])
  have e2 := he y (by simp [Op.operands, Call.operands])
  rw [hx] at e1; rw [hy] at e2
  have e1 := e1.int_inv
  have e2 := e2.int_inv
  refine ⟨.int k (min m n), w, ?_, ext_refl w, .int _ _ _⟩
  simp [execOp, resolve, invoke, builtin, e1, e2, run_min_int2]
  omega
theorem q_max {ts : Array TypeId} (hx : σ.ev x = .int k m) (hy : σ.ev y = .int k n) : Qd C ⟨d, .call { callee := .builtin .max, args := #[x, y], argTypes := ts }, ty, pos, af, g⟩ σ (.int k (max m n)) := qd_of fun γ a w _ he => by
  have e1 := he x (by simp [Op.operands, Call.operands])
  have e2 := he y (by simp [Op.operands, Call.operands])
  rw [hx] at e1; rw [hy] at e2
  have e1 := e1.int_inv
  have e2 := e2.int_inv
  refine ⟨.int k (max m n), w, ?_, ext_refl w, .int _ _ _⟩
  simp [execOp, resolve, invoke, builtin, e1, e2, run_max_int2]
  omega
theorem q_convint {k2 : IntKind} {td sd : TypeId} {r : Int} (hx : σ.ev x = .int k m) (hs : (C.P.underlying sd).isSome = true) (hd : C.P.underlying td = some (.int k2)) (hr : k2.wrap m = r) : Qd C ⟨d, .convert sd td x, ty, pos, af, g⟩ σ (.int k2 r) := qd_of fun γ a w _ he => by
  have e1 := he x (by simp [Op.operands])
  rw [hx] at e1
  have e1 := e1.int_inv
  obtain ⟨u, hu⟩ := Option.isSome_iff_exists.mp hs
  refine ⟨.int k2 r, w, ?_, ext_refl w, .int _ _ _⟩
  simp [execOp, e1, convert, run_underlying hu, run_underlying hd, Conv.intToInt, hr]
end

/-! bools, texts -/
section
variable {x y : Operand} {t t' : TypeId} {p q : Bool} {u v : List UInt8}
theorem q_eqlb (hx : σ.ev x = .bool p) (hy : σ.ev y = .bool q) (ht : C.P.underlying t = some .bool) : Qd C ⟨d, .binOp .eql t x y t', ty, pos, af, g⟩ σ (.bool (p == q)) := qd_of fun γ a w _ he => by
  have e1 := he x (by simp [Op.operands])
  have e2 := he y (by simp [Op.operands])
  rw [hx] at e1; rw [hy] at e2
  have e1 := e1.bool_inv
  have e2 := e2.bool_inv
  exact ⟨.bool (p == q), w, by simp [execOp, e1, e2, eqGuard_at_bool, run_eql_bool w t p q ht], ext_refl w, .bool _ _⟩
theorem q_neqb (hx : σ.ev x = .bool p) (hy : σ.ev y = .bool q) (ht : C.P.underlying t = some .bool) : Qd C ⟨d, .binOp .neq t x y t', ty, pos, af, g⟩ σ (.bool (!(p == q))) := qd_of fun γ a w _ he => by
  have e1 := he x (by simp [Op.operands])
  have e2 := he y (by simp [Op.operands])
  rw [hx] at e1; rw [hy] at e2
  have e1 := e1.bool_inv
  have e2 := e2.bool_inv
  exact ⟨.bool (!(p == q)), w, by simp [execOp, e1, e2, eqGuard_at_bool, run_neq_bool w t p q ht], ext_refl w, .bool _ _⟩
theorem q_eqls (hx : σ.ev x = .str u) (hy : σ.ev y = .str v) : Qd C ⟨d, .binOp .eql t x y t', ty, pos, af, g⟩ σ (.bool (decide (u = v))) := qd_of fun γ a w _ he => by
  have e1 := he x (by simp [Op.operands])
  have e2 := he y (by simp [Op.operands])
  rw [hx] at e1; rw [hy] at e2
  have e1 := e1.str_inv
  have e2 := e2.str_inv
  refine ⟨.bool (decide (u = v)), w, ?_, ext_refl w, .bool _ _⟩
  simp [execOp, e1, e2, eqGuard_at_string, binOp_string_eql]
  exact beqd _ _
theorem q_neqs (hx : σ.ev x = .str u) (hy : σ.ev y = .str v) : Qd C ⟨d, .binOp .neq t x y t', ty, pos, af, g⟩ σ (.bool (decide (u ≠ v))) := qd_of fun γ a w _ he => by
  have e1 := he x (by simp [Op.operands])
  have e2 := he y (by simp [Op.operands])
  rw [hx] at e1; rw [hy] at e2
  have e1 := e1.str_inv
  have e2 := e2.str_inv
  refine ⟨.bool (decide (u ≠ v)), w, ?_, ext_refl w, .bool _ _⟩
  simp [execOp, e1, e2, eqGuard_at_string, binOp_string_neq, beqd]
theorem q_adds (hx : σ.ev x = .str u) (hy : σ.ev y = .str v) (hl : u.length + v.length ≤ 9223372036854775807) : Qd C ⟨d, .binOp .add t x y t', ty, pos, af, g⟩ σ (.str (u ++ v)) := qd_of fun γ a w _ he => by
  have e1 := he x (by simp [Op.operands])
  have e2 := he y (by simp [Op.operands])
  rw [hx] at e1; rw [hy] at e2
  have e1 := e1.str_inv
  have e2 := e2.str_inv
  have hs : ¬ (((⟨u.toArray⟩ : ByteArray).size + (⟨v.toArray⟩ : ByteArray).size : Nat) : Int) > IntKind.i64.max := by
    rw [IntKind.max_i64, sizeMk, sizeMk]; omega
  have hc : ((⟨u.toArray⟩ : ByteArray) ++ (⟨v.toArray⟩ : ByteArray)) = ⟨(u ++ v).toArray⟩ := by apply ByteArray.ext; simp
  refine ⟨.string ⟨(u ++ v).toArray⟩, w, ?_, ext_refl w, .str _ _⟩
  simp only [execOp, e1, e2, eqGuard_at_string, binOp_string_add, Op.stringOp, if_neg hs, hc]
  simp
theorem q_lens {ts : TypeId} (hx : σ.ev x = .str u) (ht : C.P.underlying ts = some .string) (hl : u.length ≤ 9223372036854775807) : Qd C ⟨d, .call { callee := .builtin .len, args := #[x], argTypes := #[ts] }, ty, pos, af, g⟩ σ (.int .i64 u.length) := qd_of fun γ a w _ he => by
  have e1 := he x (by simp [Op.operands, Call.operands])
  rw [hx] at e1
  have e1 := e1.str_inv
  have hw : IntKind.i64.wrap (u.length : Int) = u.length := IntWalk.i64_in _ (by omega)
  refine ⟨.int .i64 u.length, w, ?_, ext_refl w, .int _ _ _⟩
  simp [execOp, resolve, invoke, builtin, e1, run_len_string w ts ty _ ht, goInt, sizeMk]
theorem q_index {i : Int} {k : IntKind} {c : UInt8} (hx : σ.ev x = .str u) (hy : σ.ev y = .int k i) (ht : C.P.underlying t = some .string) (h0 : 0 ≤ i) (hi : u[i.toNat]? = some c) : Qd C ⟨d, .index t x y, ty, pos, af, g⟩ σ (.int .u8 c.toNat) := qd_of fun γ a w _ he => by
  have e1 := he x (by simp [Op.operands])
  have e2 := he y (by simp [Op.operands])
  rw [hx] at e1; rw [hy] at e2
  have e1 := e1.str_inv
  have e2 := e2.int_inv
  obtain ⟨h1, h2⟩ := List.getElem?_eq_some_iff.1 hi
  refine ⟨.int .u8 c.toNat, w, ?_, ext_refl w, .int _ _ _⟩
  have hg : (⟨u.toArray⟩ : ByteArray)[i.toNat]? = some c := by
    rw [ByteArray.getElem?_lt' _ _ (by rw [sizeMk]; exact h1)]
    exact congrArg some h2
  simp [execOp, e1, e2, Instr.index, asIntOf, run_underlying ht, h0, hg]
/-- the byte at a place of which it is known that it is there -/
theorem q_index' {i : Int} {k : IntKind} (hx : σ.ev x = .str u) (hy : σ.ev y = .int k i) (ht : C.P.underlying t = some .string) (h0 : 0 ≤ i) (hi : i.toNat < u.length) : Qd C ⟨d, .index t x y, ty, pos, af, g⟩ σ (.int .u8 (u.getD i.toNat 0).toNat) :=
  q_index hx hy ht h0 (by rw [List.getD_eq_getElem?_getD, List.getElem?_eq_getElem hi]; rfl)
theorem extract_mk (u : List UInt8) (l h : Nat) (hh : h ≤ u.length) : (⟨u.toArray⟩ : ByteArray).extract l h = ⟨((u.take h).drop l).toArray⟩ := by
  apply ByteArray.ext
  simp [List.drop_take]
/-- s[l:h], s[l:], s[:h] -/
theorem q_slice {yl yh : Option Operand} {l h : Nat} (hx : σ.ev x = .str u) (ht : C.P.underlying t = some .string)
    (hl : match yl with | some yl => ∃ k m, σ.ev yl = .int k m ∧ 0 ≤ m ∧ m.toNat = l | none => l = 0)
    (hh : match yh with | some yh => ∃ k m, σ.ev yh = .int k m ∧ 0 ≤ m ∧ m.toNat = h | none => h = u.length)
    (h1 : l ≤ h) (h2 : h ≤ u.length) : Qd C ⟨d, .slice t x yl yh none, ty, pos, af, g⟩ σ (.str ((u.take h).drop l)) := qd_of fun γ a w _ he => by
  have e1 := he x (by simp [Op.operands])
  rw [hx] at e1
  have e1 := e1.str_inv
  refine ⟨.string ⟨((u.take h).drop l).toArray⟩, w, ?_, ext_refl w, .str _ _⟩
  have hsz : (⟨u.toArray⟩ : ByteArray).size = u.length := sizeMk _
  cases yl with
  | none =>
    simp only at hl
    subst hl
    cases yh with
    | none =>
      simp only at hh
      subst hh
      simp [execOp, e1, run_sliceAt_string w t _ _ _ _ ht, Instr.slice, run_underlying ht, Instr.sliceBounds, hsz, extract_mk u 0 u.length (Nat.le_refl _)]
    | some yh =>
      obtain ⟨k, m, e2, e3, e4⟩ := hh
      have e5 := he yh (by simp [Op.operands])
      rw [e2] at e5
      have e5 := e5.int_inv
      have e6 : m ≤ u.length := by omega
      simp [execOp, e1, e5, run_sliceAt_string w t _ _ _ _ ht, Instr.slice, run_underlying ht, Instr.sliceBounds, Instr.sliceBound, asIntOf, hsz, e3, e4, e6, extract_mk u 0 h h2]
  | some yl =>
    obtain ⟨k, m, e2, e3, e4⟩ := hl
    have e5 := he yl (by simp [Op.operands])
    rw [e2] at e5
    have e5 := e5.int_inv
    cases yh with
    | none =>
      simp only at hh
      subst hh
      have e6 : m ≤ u.length := by omega
      simp [execOp, e1, e5, run_sliceAt_string w t _ _ _ _ ht, Instr.slice, run_underlying ht, Instr.sliceBounds, Instr.sliceBound, asIntOf, hsz, e3, e4, e6, extract_mk u l u.length (Nat.le_refl _)]
    | some yh =>
      obtain ⟨k', m', e2', e3', e4'⟩ := hh
      have e5' := he yh (by simp [Op.operands])
      rw [e2'] at e5'
      have e5' := e5'.int_inv
      have e6 : m ≤ h := by omega
      have e6' : m' ≤ u.length := by omega
      simp [execOp, e1, e5, e5', run_sliceAt_string w t _ _ _ _ ht, Instr.slice, run_underlying ht, Instr.sliceBounds, Instr.sliceBound, asIntOf, hsz, e3, e4, e6, e3', e4', e6', extract_mk u l h h2]
end

theorem q_nilCheck {x : Operand} {v : AV} (hx : σ.ev x = v) (hv : (match v with | .ptr _ _ | .eptr _ _ _ _ | .gptr _ _ | .rptr _ _ => true | _ => false) = true) : Qd C ⟨d, .nilCheck x, ty, pos, af, g⟩ σ v := qd_of fun γ a w _ he => by
  have e := he x (by simp [Op.operands])
  rw [hx] at e
  have : ∃ ad, a.eval x = .pointer (some ad) := by
    cases v <;> first
      | (obtain ⟨b, _, h⟩ := e.ptr_inv; exact ⟨_, h⟩)
      | (obtain ⟨g, n, c, _, h⟩ := e.eptr_inv; exact ⟨_, h⟩)
      | (have h := e.gptr_inv; exact ⟨_, h⟩)
      | (obtain ⟨b, o, _, _, h⟩ := e.rptr_inv; exact ⟨_, h⟩)
      | cases hv
  obtain ⟨ad, had⟩ := this
  exact ⟨a.eval x, w, by simp [execOp, had], ext_refl w, e⟩

/-! operations that need no facts: by reckoning -/
def stepF (σ : St) : Op → Option AV
  | .move x => some (σ.ev x)
  | .assign x => some (σ.ev x)
  | .pick c x y => match σ.ev c with
    | .bool true => some (σ.ev x)
    | .bool false => some (σ.ev y)
    | _ => none
  | .unOp .not _ x => match σ.ev x with
    | .bool true => some (.bool false)
    | .bool false => some (.bool true)
    | _ => none
  | .extract x i => match σ.ev x with
    | .tup l => l[i]?
    | _ => none
  | .nilCheck x => match σ.ev x with
    | .ptr i f => some (.ptr i f)
    | .eptr a b c e => some (.eptr a b c e)
    | .gptr a b => some (.gptr a b)
    | .rptr f l => some (.rptr f l)
    | _ => none
  | _ => none
theorem stepF_qd {v : AV} (h : stepF σ o.op = some v) : Qd C o σ v := by
  obtain ⟨d, op, ty, pos, af, g⟩ := o
  simp only at h
  unfold stepF at h
  split at h
  · cases h; exact q_move rfl
  · cases h; exact q_assign rfl
  · split at h
    · rename_i hc; cases h; exact q_pick hc rfl
    · rename_i hc; cases h; exact q_pick hc rfl
    · cases h
  · split at h
    · rename_i hx; cases h; exact q_not hx
    · rename_i hx; cases h; exact q_not hx
    · cases h
  · split at h
    · rename_i hx; exact q_extract hx h
    · cases h
  · split at h
    · rename_i hx; cases h; exact q_nilCheck hx rfl
    · rename_i hx; cases h; exact q_nilCheck hx rfl
    · rename_i hx; cases h; exact q_nilCheck hx rfl
    · rename_i hx; cases h; exact q_nilCheck hx rfl
    · cases h
  · cases h
/-- does the operation run? (none: not known) -/
def runs (ops : Array Oper) (σ : St) (o : Oper) : Option Bool := match o.guard with
  | none => some true
  | some (j, want) => match ops[j]? with
    | none => none
    | some p => match p.dst with
      | none => none
      | some d => match σ.env d with
        | .bool true => some want
        | .bool false => some (!want)
        | .tup [] => some false
        | _ => none
theorem runs_spec {b : Bool} (h : runs ops σ o = some b) : o.guard = none ∧ b = true ∨ ∃ j want d, o.guard = some (j, want) ∧ (ops[j]?).bind (·.dst) = some d ∧ GV (σ.env d) want = some b := by
  unfold runs at h
  split at h
  · rename_i hg; cases h; exact .inl ⟨hg, rfl⟩
  · rename_i j want hg
    split at h
    · cases h
    · rename_i p hp
      split at h
      · cases h
      · rename_i d hd
        refine .inr ⟨j, want, d, hg, by rw [hp]; exact hd, ?_⟩
        split at h
        · rename_i hv; cases h; rw [hv]; cases b <;> rfl
        · rename_i hv; cases h; rw [hv]; cases want <;> rfl
        · rename_i hv; cases h; rw [hv]; rfl
        · cases h
theorem GV_true {v : AV} {want : Bool} (h : GV v want = some true) : v = .bool want := by
  unfold GV at h
  split at h
  · rename_i b
    have : b = want := by simpa using h
    rw [this]
  · cases h
  · cases h
theorem st_r {v : AV} (hr : runs ops σ o = some true) (hq : Qd C o σ v) (hk : Steps C wr ops rest (σ.puto o.dst v) K) : Steps C wr ops (o :: rest) σ K := by
  rcases runs_spec hr with ⟨hg, _⟩ | ⟨j, want, d, hg, hd, hv⟩
  · exact st_q hg hq hk
  · exact st_gq hg hd (GV_true hv) hq hk
theorem st_rw {σ' : St} (hr : runs ops σ o = some true) (hw : wr o = true) (hq : Wr C o σ σ') (hk : Steps C wr ops rest σ' K) : Steps C wr ops (o :: rest) σ K := by
  rcases runs_spec hr with ⟨hg, _⟩ | ⟨j, want, d, hg, hd, hv⟩
  · exact st_w hg hw hq hk
  · exact st_gw hg hd (GV_true hv) hw hq hk
theorem st_n (hr : runs ops σ o = some false) (hk : Steps C wr ops rest (σ.puto o.dst UN) K) : Steps C wr ops (o :: rest) σ K := by
  rcases runs_spec hr with ⟨_, hb⟩ | ⟨j, want, d, hg, hd, hv⟩
  · cases hb
  · exact st_gn hg hd hv hk
theorem st_rif {p : Prop} {dp : Decidable p} (hr : runs ops σ o = some true) (hq : Qd C o σ (.bool (decide p))) (h1 : p → Steps C wr ops rest (σ.puto o.dst (.bool true)) K) (h2 : ¬ p → Steps C wr ops rest (σ.puto o.dst (.bool false)) K) : Steps C wr ops (o :: rest) σ K := by
  refine st_r hr hq ?_
  by_cases hp : p
  · rw [decide_eq_true hp]; exact h1 hp
  · rw [decide_eq_false hp]; exact h2 hp
theorem st_rb {b : Bool} (hr : runs ops σ o = some true) (hq : Qd C o σ (.bool b)) (h1 : b = true → Steps C wr ops rest (σ.puto o.dst (.bool true)) K) (h2 : b = false → Steps C wr ops rest (σ.puto o.dst (.bool false)) K) : Steps C wr ops (o :: rest) σ K := by
  refine st_r hr hq ?_
  cases b
  · exact h2 rfl
  · exact h1 rfl
/-- one operation that needs no facts, or does not run -/
def stepG (ops : Array Oper) (σ : St) (o : Oper) : Option AV := match runs ops σ o with
  | some true => stepF σ o.op
  | some false => some UN
  | none => none
theorem st_f {v : AV} (h : stepG ops σ o = some v) (hk : Steps C wr ops rest (σ.puto o.dst v) K) : Steps C wr ops (o :: rest) σ K := by
  unfold stepG at h
  split at h
  · rename_i hr; exact st_r hr (stepF_qd h) hk
  · rename_i hr; cases h; exact st_n hr hk
  · cases h
end
end Go.Proofs.YtignjjnflcpiiaaDoor
