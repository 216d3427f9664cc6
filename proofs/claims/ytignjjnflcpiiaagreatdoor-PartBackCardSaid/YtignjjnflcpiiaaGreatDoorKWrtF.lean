import Derived.Test.YtignjjnflcpiiaaGreatDoorKWrtE
import Derived.Test.YtignjjnflcpiiaaGreatDoorKG39
import Derived.Test.YtignjjnflcpiiaaGreatDoorKG12
import Derived.Test.YtignjjnflcpiiaaGreatDoorKG40
import Derived.Test.YtignjjnflcpiiaaGreatDoorKG42
set_option linter.unusedVariables false
set_option linter.unusedSimpArgs false
set_option maxHeartbeats 1000000
namespace Go.Proofs.YtignjjnflcpiiaaGreatDoor
open Go.RowKit
attribute [local irreducible] Tri Steps Qd Wr Weak CPure CEff
set_option maxRecDepth 100000
set_option linter.unusedSectionVars false
theorem CMod.p {f : FuncId} {e : TypeId} {sz : Nat} {rows rows' : List (List AV)} {az : List AV} (h : CMod gxo f e sz rows az rows') : CMod gxp f e sz rows az rows' := by
  intro w γ vs hn hM hr hl hrep
  have hr' : HR (cxm gxo 0 w γ hn hM) γ (heap1 (some (.rows e sz rows))) w := { obj := hr.obj, disj := hr.disj, two := hr.two, lt := hr.lt, chg := hr.chg, glob := hr.glob.1, pins := hr.pins }
  refine (h w γ vs hn hM hr' hl hrep).mono ?_
  rintro en w' ⟨γ', he, h2⟩
  refine ⟨γ', he, { obj := h2.obj, disj := h2.disj, two := h2.two, lt := h2.lt, chg := h2.chg, glob := ?_, pins := h2.pins }⟩
  have hgl : gxp.G w := hr.glob
  exact gxp.hG w w' hgl (fun k hk => h2.chg.block k (by have : gxp.nG ≤ w.heap.size := hn; show k < w.heap.size; omega) (fun hb => by have := hM k hb; have h3 : gxp.nG ≤ k := this; omega))
theorem CNewR.q {f : FuncId} {e : TypeId} {sz : Nat} {rows : List (List AV)} {az : List AV} (h : CNewR gx f az e sz rows) : CNewR gxp f az e sz rows := fun w vs hG hn hl hr => h w vs hG.1.1.1 hn hl hr
theorem ours0p : ∀ w, gxp.G w → w.cell? ⟨1, 0, none⟩ = some (.string ⟨ctN.toArray⟩) := fun w h => h.1.2.1
theorem ours1p : ∀ w, gxp.G w → w.cell? ⟨1, 1, none⟩ = some (.string ⟨ceN.toArray⟩) := fun w h => h.1.2.2
def wCell : Res (B × Nat) → AV
  | .ok (_, n) => .int .i64 (n : Int)
  | .err _ => .any
def wAV : Res (B × Nat) → AV
  | .ok (s, _) => .tup [.str s, .nili]
  | .err e => .tup [.str [], .iface 28 (.int .i64 (e : Int))]
theorem writeH_ok {l : Fs} (h : rightB l = true) : writeH l = .ok (headW l) := by
  unfold writeH
  rw [writeGo_ok l 0 [] h, List.nil_append]
  rfl
section
variable {hd : Fs} {bd : B} {m : Bool} {ps : List PT}
set_option maxHeartbeats 8000000 in
theorem pw_lim {d left : Nat} (hz : d = 0 ∨ left = 0) (hd4 : d ≤ 4) (hl : left ≤ 40) : ∀ dep : Int, dep = 5 - (d : Int) → CEff gxp 34 (.box [.int .i64 (left : Int)]) [.ptr 0 0, .agg [.ro false 2 (fieldRows hd), .str bd, .bool m, .pts false ps], .int .i64 dep] (some (.box [.any])) (wAV (.err 4)) := by
  intro dep hdep
  refine ceff_ofb Tryz.func34 rfl (Nat.le_of_ble_eq_true rfl) (fun w γ hw hM => ?_)
  refine tri_postE ?_
  rcases hz with hz | hz
  · by_cases h0 : left = 0
    all_goals
      repeat' (first | refine a_f ?_ | refine st_nil ?_ | refine tri_seq ?_ | refine tri_region rfl ?_ | refine a_draw ?_ | (apply st_r rfl; case hq => first | exact a_q) | (apply st_rif rfl; (case hq => first | exact a_i); all_goals (intro _; try (exfalso; first | omega | contradiction))) | (apply st_rw rfl rfl; case hq => first | exact w_box (d := 4) 104 (by conv => lhs; whnf) rfl (by conv => lhs; whnf) rfl rfl rfl | exact a_store) | refine tri_true rfl ?_ | refine tri_false rfl ?_ | refine tri_block ?_ | refine tri_skip ?_ | refine tri_ret ?_ | refine tri_exit ?_)
      exact ⟨_, weak_boxany 0 rfl, ⟨trivial, by (conv => lhs; whnf); rfl, rfl⟩⟩
  · repeat' (first | refine a_f ?_ | refine st_nil ?_ | refine tri_seq ?_ | refine tri_region rfl ?_ | refine a_draw ?_ | (apply st_r rfl; case hq => first | exact a_q) | (apply st_rif rfl; (case hq => first | exact a_i); all_goals (intro _; try (exfalso; first | omega | contradiction))) | (apply st_rw rfl rfl; case hq => first | exact w_box (d := 4) 104 (by conv => lhs; whnf) rfl (by conv => lhs; whnf) rfl rfl rfl | exact a_store) | refine tri_true rfl ?_ | refine tri_false rfl ?_ | refine tri_block ?_ | refine tri_skip ?_ | refine tri_ret ?_ | refine tri_exit ?_)
    exact ⟨_, weak_boxany 0 rfl, ⟨trivial, by (conv => lhs; whnf); rfl, rfl⟩⟩
variable {d left : Nat} (hd4 : d + 1 ≤ 4) (hl : left + 1 ≤ 40) (hf : Fit (.mk hd bd m ps))
include hd4 hl hf
set_option maxHeartbeats 8000000 in
theorem pw_right (h : rightB hd = false) : ∀ dep : Int, dep = 5 - ((d + 1 : Nat) : Int) → CEff gxp 34 (.box [.int .i64 ((left + 1 : Nat) : Int)]) [.ptr 0 0, .agg [.ro false 2 (fieldRows hd), .str bd, .bool m, .pts false ps], .int .i64 dep] (some (.box [.any])) (wAV (.err 1)) := by
  intro dep hdep
  refine ceff_ofb Tryz.func34 rfl (Nat.le_of_ble_eq_true rfl) (fun w γ hw hM => ?_)
  refine tri_postE ?_
  obtain ⟨_, hsm, _, hpl⟩ := hf.head
  have R1 : CPure gxp 74 [.ro false 2 (fieldRows hd)] (.bool false) := by
    have := (right_c hd hsm).q
    rw [h] at this
    exact this
  repeat' (first | refine a_f ?_ | refine st_nil ?_ | refine tri_seq ?_ | refine tri_region rfl ?_ | refine a_draw ?_ | (apply st_r rfl; case hq => first | exact q_call R1 (hcf := Tryz.call74) rfl rfl | exact a_q) | (apply st_rif rfl; (case hq => first | exact a_i); all_goals (intro _; try (exfalso; first | omega | contradiction))) | (apply st_rw rfl rfl; case hq => first | exact w_box (d := 4) 104 (by conv => lhs; whnf) rfl (by conv => lhs; whnf) rfl rfl rfl | exact a_store) | refine tri_true rfl ?_ | refine tri_false rfl ?_ | refine tri_block ?_ | refine tri_skip ?_ | refine tri_ret ?_ | refine tri_exit ?_)
  exact ⟨_, weak_boxany 0 rfl, ⟨trivial, by (conv => lhs; whnf); rfl, rfl⟩⟩
variable (hr : rightB hd = true)
include hr
set_option maxHeartbeats 8000000 in
theorem pw_bnd (h : bndF hd = none) : ∀ dep : Int, dep = 5 - ((d + 1 : Nat) : Int) → CEff gxp 34 (.box [.int .i64 ((left + 1 : Nat) : Int)]) [.ptr 0 0, .agg [.ro false 2 (fieldRows hd), .str bd, .bool m, .pts false ps], .int .i64 dep] (some (.box [.any])) (wAV (.err 1)) := by
  intro dep hdep
  refine ceff_ofb Tryz.func34 rfl (Nat.le_of_ble_eq_true rfl) (fun w γ hw hM => ?_)
  refine tri_postE ?_
  obtain ⟨_, hsm, _, hpl⟩ := hf.head
  have R1 : CPure gxp 74 [.ro false 2 (fieldRows hd)] (.bool true) := by
    have := (right_c hd hsm).q
    rw [hr] at this
    exact this
  have B1 : CPure gxp 75 [.ro false 2 (fieldRows hd)] (.tup [.str [], .bool false, .iface 28 (.int .i64 3)]) := by
    have := (boundary_c hd hsm).p
    rw [h] at this
    exact this
  repeat' (first | refine a_f ?_ | refine st_nil ?_ | refine tri_seq ?_ | refine tri_region rfl ?_ | refine a_draw ?_ | (apply st_r rfl; case hq => first | exact q_call R1 (hcf := Tryz.call74) rfl rfl | exact q_call B1 (hcf := Tryz.call75) rfl rfl | exact q_neif (by conv => lhs; whnf) Tryz.underlying32 | exact a_q) | (apply st_rif rfl; (case hq => first | exact a_i); all_goals (intro _; try (exfalso; first | omega | contradiction))) | (apply st_rw rfl rfl; case hq => first | exact w_box (d := 4) 104 (by conv => lhs; whnf) rfl (by conv => lhs; whnf) rfl rfl rfl | exact a_store) | refine tri_true rfl ?_ | refine tri_false rfl ?_ | refine tri_block ?_ | refine tri_skip ?_ | refine tri_ret ?_ | refine tri_exit ?_)
  exact ⟨_, weak_boxany 0 rfl, ⟨trivial, by (conv => lhs; whnf); rfl, rfl⟩⟩
omit hd4 hl hf hr in
theorem q_nebL {C : Cx} {σ : St} {ty t t' : TypeId} {pos : String} {af : Array Edge} {g : Option (Nat × Bool)} {x y : Operand} {d : Option Nat} {p q r : Bool} (hx : σ.ev x = .bool p) (hy : σ.ev y = .bool q) (hr : (!(p == q)) = r) (ht : C.P.underlying t = some .bool) : Qd C ⟨d, .binOp .neq t x y t', ty, pos, af, g⟩ σ (.bool r) := by
  subst hr
  exact q_neqb hx hy ht
set_option maxHeartbeats 8000000 in
theorem pw_bad1 (h : bndF hd = some none) (hm : m = true) : ∀ dep : Int, dep = 5 - ((d + 1 : Nat) : Int) → CEff gxp 34 (.box [.int .i64 ((left + 1 : Nat) : Int)]) [.ptr 0 0, .agg [.ro false 2 (fieldRows hd), .str bd, .bool m, .pts false ps], .int .i64 dep] (some (.box [.any])) (wAV (.err 1)) := by
  intro dep hdep
  refine ceff_ofb Tryz.func34 rfl (Nat.le_of_ble_eq_true rfl) (fun w γ hw hM => ?_)
  refine tri_postE ?_
  subst hm
  obtain ⟨_, hsm, _, hpl⟩ := hf.head
  have R1 : CPure gxp 74 [.ro false 2 (fieldRows hd)] (.bool true) := by
    have := (right_c hd hsm).q
    rw [hr] at this
    exact this
  have B1 : CPure gxp 75 [.ro false 2 (fieldRows hd)] (.tup [.str [], .bool false, .nili]) := by
    have := (boundary_c hd hsm).p
    rw [h] at this
    exact this
  repeat' (first | refine a_f ?_ | refine st_nil ?_ | refine tri_seq ?_ | refine tri_region rfl ?_ | refine a_draw ?_ | (apply st_r rfl; case hq => first | exact q_call R1 (hcf := Tryz.call74) rfl rfl | exact q_call B1 (hcf := Tryz.call75) rfl rfl | exact q_nenil (by rfl) Tryz.underlying32 | exact q_nebL (by conv => lhs; whnf) (by conv => lhs; whnf) (by rfl) (by kernel_rfl) | exact a_q) | (apply st_rif rfl; (case hq => first | exact a_i); all_goals (intro _; try (exfalso; first | omega | contradiction))) | (apply st_rw rfl rfl; case hq => first | exact w_box (d := 4) 104 (by conv => lhs; whnf) rfl (by conv => lhs; whnf) rfl rfl rfl | exact a_store) | refine tri_true rfl ?_ | refine tri_false rfl ?_ | refine tri_block ?_ | refine tri_skip ?_ | refine tri_ret ?_ | refine tri_exit ?_)
  exact ⟨_, weak_boxany 0 rfl, ⟨trivial, by (conv => lhs; whnf); rfl, rfl⟩⟩
set_option maxHeartbeats 8000000 in
theorem pw_bad2 (h : bndF hd = some none) (hm : m = false) (hp : 0 < ps.length) : ∀ dep : Int, dep = 5 - ((d + 1 : Nat) : Int) → CEff gxp 34 (.box [.int .i64 ((left + 1 : Nat) : Int)]) [.ptr 0 0, .agg [.ro false 2 (fieldRows hd), .str bd, .bool m, .pts false ps], .int .i64 dep] (some (.box [.any])) (wAV (.err 1)) := by
  intro dep hdep
  refine ceff_ofb Tryz.func34 rfl (Nat.le_of_ble_eq_true rfl) (fun w γ hw hM => ?_)
  refine tri_postE ?_
  subst hm
  obtain ⟨_, hsm, _, hpl⟩ := hf.head
  have R1 : CPure gxp 74 [.ro false 2 (fieldRows hd)] (.bool true) := by
    have := (right_c hd hsm).q
    rw [hr] at this
    exact this
  have B1 : CPure gxp 75 [.ro false 2 (fieldRows hd)] (.tup [.str [], .bool false, .nili]) := by
    have := (boundary_c hd hsm).p
    rw [h] at this
    exact this
  repeat' (first | refine a_f ?_ | refine st_nil ?_ | refine tri_seq ?_ | refine tri_region rfl ?_ | refine a_draw ?_ | (apply st_r rfl; case hq => first | exact q_call R1 (hcf := Tryz.call74) rfl rfl | exact q_call B1 (hcf := Tryz.call75) rfl rfl | exact q_nenil (by rfl) Tryz.underlying32 | exact q_nebL (by conv => lhs; whnf) (by conv => lhs; whnf) (by rfl) (by kernel_rfl) | exact q_lenpts (fr := false) (l := ps) (by rfl) Tryz.underlying23 | exact a_q) | (apply st_rif rfl; (case hq => first | exact a_i); all_goals (intro _; try (exfalso; first | omega | contradiction))) | (apply st_rw rfl rfl; case hq => first | exact w_box (d := 4) 104 (by conv => lhs; whnf) rfl (by conv => lhs; whnf) rfl rfl rfl | exact a_store) | refine tri_true rfl ?_ | refine tri_false rfl ?_ | refine tri_block ?_ | refine tri_skip ?_ | refine tri_ret ?_ | refine tri_exit ?_)
  exact ⟨_, weak_boxany 0 rfl, ⟨trivial, by (conv => lhs; whnf); rfl, rfl⟩⟩
set_option maxHeartbeats 8000000 in
theorem pw_bad3 {b : B} (h : bndF hd = some (some b)) (hm : m = false) : ∀ dep : Int, dep = 5 - ((d + 1 : Nat) : Int) → CEff gxp 34 (.box [.int .i64 ((left + 1 : Nat) : Int)]) [.ptr 0 0, .agg [.ro false 2 (fieldRows hd), .str bd, .bool m, .pts false ps], .int .i64 dep] (some (.box [.any])) (wAV (.err 1)) := by
  intro dep hdep
  refine ceff_ofb Tryz.func34 rfl (Nat.le_of_ble_eq_true rfl) (fun w γ hw hM => ?_)
  refine tri_postE ?_
  subst hm
  obtain ⟨_, hsm, _, hpl⟩ := hf.head
  have R1 : CPure gxp 74 [.ro false 2 (fieldRows hd)] (.bool true) := by
    have := (right_c hd hsm).q
    rw [hr] at this
    exact this
  have B1 : CPure gxp 75 [.ro false 2 (fieldRows hd)] (.tup [.str b, .bool true, .nili]) := by
    have := (boundary_c hd hsm).p
    rw [h] at this
    exact this
  repeat' (first | refine a_f ?_ | refine st_nil ?_ | refine tri_seq ?_ | refine tri_region rfl ?_ | refine a_draw ?_ | (apply st_r rfl; case hq => first | exact q_call R1 (hcf := Tryz.call74) rfl rfl | exact q_call B1 (hcf := Tryz.call75) rfl rfl | exact q_nenil (by rfl) Tryz.underlying32 | exact q_nebL (by conv => lhs; whnf) (by conv => lhs; whnf) (by rfl) (by kernel_rfl) | exact a_q) | (apply st_rif rfl; (case hq => first | exact a_i); all_goals (intro _; try (exfalso; first | omega | contradiction))) | (apply st_rw rfl rfl; case hq => first | exact w_box (d := 4) 104 (by conv => lhs; whnf) rfl (by conv => lhs; whnf) rfl rfl rfl | exact a_store) | refine tri_true rfl ?_ | refine tri_false rfl ?_ | refine tri_block ?_ | refine tri_skip ?_ | refine tri_ret ?_ | refine tri_exit ?_)
  exact ⟨_, weak_boxany 0 rfl, ⟨trivial, by (conv => lhs; whnf); rfl, rfl⟩⟩
set_option maxHeartbeats 8000000 in
theorem pw_bad4 {b : B} (h : bndF hd = some (some b)) (hm : m = true) (hb : bd ≠ []) : ∀ dep : Int, dep = 5 - ((d + 1 : Nat) : Int) → CEff gxp 34 (.box [.int .i64 ((left + 1 : Nat) : Int)]) [.ptr 0 0, .agg [.ro false 2 (fieldRows hd), .str bd, .bool m, .pts false ps], .int .i64 dep] (some (.box [.any])) (wAV (.err 1)) := by
  intro dep hdep
  refine ceff_ofb Tryz.func34 rfl (Nat.le_of_ble_eq_true rfl) (fun w γ hw hM => ?_)
  refine tri_postE ?_
  subst hm
  obtain ⟨_, hsm, _, hpl⟩ := hf.head
  have R1 : CPure gxp 74 [.ro false 2 (fieldRows hd)] (.bool true) := by
    have := (right_c hd hsm).q
    rw [hr] at this
    exact this
  have B1 : CPure gxp 75 [.ro false 2 (fieldRows hd)] (.tup [.str b, .bool true, .nili]) := by
    have := (boundary_c hd hsm).p
    rw [h] at this
    exact this
  repeat' (first | refine a_f ?_ | refine st_nil ?_ | refine tri_seq ?_ | refine tri_region rfl ?_ | refine a_draw ?_ | (apply st_r rfl; case hq => first | exact q_call R1 (hcf := Tryz.call74) rfl rfl | exact q_call B1 (hcf := Tryz.call75) rfl rfl | exact q_nenil (by rfl) Tryz.underlying32 | exact q_nebL (by conv => lhs; whnf) (by conv => lhs; whnf) (by rfl) (by kernel_rfl) | exact a_q) | (apply st_rif rfl; (case hq => first | exact a_i); all_goals (intro _; try (exfalso; first | omega | contradiction))) | (apply st_rw rfl rfl; case hq => first | exact w_box (d := 4) 104 (by conv => lhs; whnf) rfl (by conv => lhs; whnf) rfl rfl rfl | exact a_store) | refine tri_true rfl ?_ | refine tri_false rfl ?_ | refine tri_block ?_ | refine tri_skip ?_ | refine tri_ret ?_ | refine tri_exit ?_)
  exact ⟨_, weak_boxany 0 rfl, ⟨trivial, by (conv => lhs; whnf); rfl, rfl⟩⟩
end
end Go.Proofs.YtignjjnflcpiiaaGreatDoor
