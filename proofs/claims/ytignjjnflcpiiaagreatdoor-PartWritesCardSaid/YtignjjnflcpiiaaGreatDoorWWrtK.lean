import Derived.Test.YtignjjnflcpiiaaGreatDoorWG42
import Derived.Test.YtignjjnflcpiiaaGreatDoorWG41
set_option linter.unusedVariables false
set_option linter.unusedSimpArgs false
set_option maxHeartbeats 1000000
namespace Go.Proofs.YtignjjnflcpiiaaGreatDoor
open Go.RowKit
attribute [local irreducible] Tri Steps Qd Wr Weak CPure CEff
set_option maxRecDepth 100000
set_option linter.unusedSectionVars false
def rwCell : Res (B × Nat) → AV
  | .ok (_, n) => .int .i64 (40 - (n : Int))
  | .err _ => .any
def rwAV : Res (B × Nat) → AV
  | .ok (s, _) => .tup [.str s, .int .i64 0]
  | .err e => .tup [.str [], .int .i64 (e : Int)]
section
variable {hd : Fs} {bd : B} {m : Bool} {ps : List PT}
set_option maxHeartbeats 8000000 in
theorem rw_lim {d left : Nat} (hz : d = 0 ∨ left = 0) (hd4 : d ≤ 4) (hl : left ≤ 40) : ∀ ab : Int, ab = 4 - (d : Int) → CEff gxp 33 (.box [.int .i64 (40 - (left : Int))]) [.agg [.ro false 2 (fieldRows hd), .str bd, .bool m, .pts false ps], .int .i64 ab, .ptr 0 0] (some (.box [.any])) (rwAV (.err 4)) := by
  intro ab hab
  refine ceff_ofb Tryz.func33 rfl (Nat.le_of_ble_eq_true rfl) (fun w γ hw hM => ?_)
  refine tri_postE ?_
  by_cases h0 : left = 0
  · repeat' (first | refine a_f ?_ | refine st_nil ?_ | refine tri_seq ?_ | refine tri_region rfl ?_ | refine a_draw ?_ | (apply st_r rfl; case hq => first | exact a_q) | (apply st_rif rfl; (case hq => first | exact a_i); all_goals (intro _; try (exfalso; first | omega | contradiction))) | (apply st_rw rfl rfl; case hq => first | exact w_box (d := 3) 103 (by conv => lhs; whnf) rfl (by conv => lhs; whnf) rfl rfl rfl | exact a_store) | refine tri_true rfl ?_ | refine tri_false rfl ?_ | refine tri_block ?_ | refine tri_skip ?_ | refine tri_ret ?_ | refine tri_exit ?_)
    exact ⟨_, weak_boxany 0 rfl, ⟨trivial, by (conv => lhs; whnf); rfl, rfl⟩⟩
  · have hz : d = 0 := by omega
    repeat' (first | refine a_f ?_ | refine st_nil ?_ | refine tri_seq ?_ | refine tri_region rfl ?_ | refine a_draw ?_ | (apply st_r rfl; case hq => first | exact a_q) | (apply st_rif rfl; (case hq => first | exact a_i); all_goals (intro _; try (exfalso; first | omega | contradiction))) | (apply st_rw rfl rfl; case hq => first | exact w_box (d := 3) 103 (by conv => lhs; whnf) rfl (by conv => lhs; whnf) rfl rfl rfl | exact a_store) | refine tri_true rfl ?_ | refine tri_false rfl ?_ | refine tri_block ?_ | refine tri_skip ?_ | refine tri_ret ?_ | refine tri_exit ?_)
    exact ⟨_, weak_boxany 0 rfl, ⟨trivial, by (conv => lhs; whnf); rfl, rfl⟩⟩
variable {d left : Nat} (hd4 : d + 1 ≤ 4) (hl : left + 1 ≤ 40) (hf : Fit (.mk hd bd m ps))
include hd4 hl hf
set_option maxHeartbeats 8000000 in
theorem rw_right (h : rightB hd = false) : ∀ ab : Int, ab = 4 - ((d + 1 : Nat) : Int) → CEff gxp 33 (.box [.int .i64 (40 - ((left + 1 : Nat) : Int))]) [.agg [.ro false 2 (fieldRows hd), .str bd, .bool m, .pts false ps], .int .i64 ab, .ptr 0 0] (some (.box [.any])) (rwAV (.err 1)) := by
  intro ab hab
  refine ceff_ofb Tryz.func33 rfl (Nat.le_of_ble_eq_true rfl) (fun w γ hw hM => ?_)
  refine tri_postE ?_
  obtain ⟨_, hsm, _, hpl⟩ := hf.head
  have R1 : CPure gxp 67 [.ro false 2 (fieldRows hd)] (.bool false) := by
    have := (rhead_c hd hsm).q
    rw [h] at this
    exact this
  have B1 := (manies_c hd hsm).q
  rcases hbn : bndF hd with _ | _ | b0 <;> rw [hbn] at B1 <;> simp only [mnAV] at B1
  all_goals
    repeat' (first | refine a_f ?_ | refine st_nil ?_ | refine tri_seq ?_ | refine tri_region rfl ?_ | refine a_draw ?_ | (apply st_r rfl; case hq => first | exact q_call R1 (hcf := Tryz.call67) rfl rfl | exact q_call B1 (hcf := Tryz.call66) rfl rfl | exact a_q) | (apply st_rif rfl; (case hq => first | exact a_i); all_goals (intro _; try (exfalso; first | omega | contradiction))) | (apply st_rw rfl rfl; case hq => first | exact w_box (d := 3) 103 (by conv => lhs; whnf) rfl (by conv => lhs; whnf) rfl rfl rfl | exact a_store) | refine tri_true rfl ?_ | refine tri_false rfl ?_ | refine tri_block ?_ | refine tri_skip ?_ | refine tri_ret ?_ | refine tri_exit ?_)
    exact ⟨_, weak_boxany 0 rfl, ⟨trivial, by (conv => lhs; whnf); rfl, rfl⟩⟩
variable (hr : rightB hd = true)
include hr
set_option maxHeartbeats 8000000 in
theorem rw_bnd (h : bndF hd = none) : ∀ ab : Int, ab = 4 - ((d + 1 : Nat) : Int) → CEff gxp 33 (.box [.int .i64 (40 - ((left + 1 : Nat) : Int))]) [.agg [.ro false 2 (fieldRows hd), .str bd, .bool m, .pts false ps], .int .i64 ab, .ptr 0 0] (some (.box [.any])) (rwAV (.err 1)) := by
  intro ab hab
  refine ceff_ofb Tryz.func33 rfl (Nat.le_of_ble_eq_true rfl) (fun w γ hw hM => ?_)
  refine tri_postE ?_
  obtain ⟨_, hsm, _, hpl⟩ := hf.head
  have R1 : CPure gxp 67 [.ro false 2 (fieldRows hd)] (.bool true) := by
    have := (rhead_c hd hsm).q
    rw [hr] at this
    exact this
  have B1 : CPure gxp 66 [.ro false 2 (fieldRows hd)] (.tup [.str [], .bool false, .int .i64 3]) := by
    have := (manies_c hd hsm).q
    rw [h] at this
    exact this
  repeat' (first | refine a_f ?_ | refine st_nil ?_ | refine tri_seq ?_ | refine tri_region rfl ?_ | refine a_draw ?_ | (apply st_r rfl; case hq => first | exact q_call R1 (hcf := Tryz.call67) rfl rfl | exact q_call B1 (hcf := Tryz.call66) rfl rfl | exact a_q) | (apply st_rif rfl; (case hq => first | exact a_i); all_goals (intro _; try (exfalso; first | omega | contradiction))) | (apply st_rw rfl rfl; case hq => first | exact w_box (d := 3) 103 (by conv => lhs; whnf) rfl (by conv => lhs; whnf) rfl rfl rfl | exact a_store) | refine tri_true rfl ?_ | refine tri_false rfl ?_ | refine tri_block ?_ | refine tri_skip ?_ | refine tri_ret ?_ | refine tri_exit ?_)
  exact ⟨_, weak_boxany 0 rfl, ⟨trivial, by (conv => lhs; whnf); rfl, rfl⟩⟩
set_option maxHeartbeats 8000000 in
theorem rw_bad1 (h : bndF hd = some none) (hm : m = true) : ∀ ab : Int, ab = 4 - ((d + 1 : Nat) : Int) → CEff gxp 33 (.box [.int .i64 (40 - ((left + 1 : Nat) : Int))]) [.agg [.ro false 2 (fieldRows hd), .str bd, .bool m, .pts false ps], .int .i64 ab, .ptr 0 0] (some (.box [.any])) (rwAV (.err 1)) := by
  intro ab hab
  refine ceff_ofb Tryz.func33 rfl (Nat.le_of_ble_eq_true rfl) (fun w γ hw hM => ?_)
  refine tri_postE ?_
  subst hm
  obtain ⟨_, hsm, _, hpl⟩ := hf.head
  have R1 : CPure gxp 67 [.ro false 2 (fieldRows hd)] (.bool true) := by
    have := (rhead_c hd hsm).q
    rw [hr] at this
    exact this
  have B1 : CPure gxp 66 [.ro false 2 (fieldRows hd)] (.tup [.str [], .bool false, .int .i64 0]) := by
    have := (manies_c hd hsm).q
    rw [h] at this
    exact this
  repeat' (first | refine a_f ?_ | refine st_nil ?_ | refine tri_seq ?_ | refine tri_region rfl ?_ | refine a_draw ?_ | (apply st_r rfl; case hq => first | exact q_call R1 (hcf := Tryz.call67) rfl rfl | exact q_call B1 (hcf := Tryz.call66) rfl rfl | exact q_nebL (by conv => lhs; whnf) (by conv => lhs; whnf) (by rfl) (by kernel_rfl) | exact a_q) | (apply st_rif rfl; (case hq => first | exact a_i); all_goals (intro _; try (exfalso; first | omega | contradiction))) | (apply st_rw rfl rfl; case hq => first | exact w_box (d := 3) 103 (by conv => lhs; whnf) rfl (by conv => lhs; whnf) rfl rfl rfl | exact a_store) | refine tri_true rfl ?_ | refine tri_false rfl ?_ | refine tri_block ?_ | refine tri_skip ?_ | refine tri_ret ?_ | refine tri_exit ?_)
  exact ⟨_, weak_boxany 0 rfl, ⟨trivial, by (conv => lhs; whnf); rfl, rfl⟩⟩
set_option maxHeartbeats 8000000 in
theorem rw_bad2 (h : bndF hd = some none) (hm : m = false) (hp : 0 < ps.length) : ∀ ab : Int, ab = 4 - ((d + 1 : Nat) : Int) → CEff gxp 33 (.box [.int .i64 (40 - ((left + 1 : Nat) : Int))]) [.agg [.ro false 2 (fieldRows hd), .str bd, .bool m, .pts false ps], .int .i64 ab, .ptr 0 0] (some (.box [.any])) (rwAV (.err 1)) := by
  intro ab hab
  refine ceff_ofb Tryz.func33 rfl (Nat.le_of_ble_eq_true rfl) (fun w γ hw hM => ?_)
  refine tri_postE ?_
  subst hm
  obtain ⟨_, hsm, _, hpl⟩ := hf.head
  have R1 : CPure gxp 67 [.ro false 2 (fieldRows hd)] (.bool true) := by
    have := (rhead_c hd hsm).q
    rw [hr] at this
    exact this
  have B1 : CPure gxp 66 [.ro false 2 (fieldRows hd)] (.tup [.str [], .bool false, .int .i64 0]) := by
    have := (manies_c hd hsm).q
    rw [h] at this
    exact this
  repeat' (first | refine a_f ?_ | refine st_nil ?_ | refine tri_seq ?_ | refine tri_region rfl ?_ | refine a_draw ?_ | (apply st_r rfl; case hq => first | exact q_call R1 (hcf := Tryz.call67) rfl rfl | exact q_call B1 (hcf := Tryz.call66) rfl rfl | exact q_nebL (by conv => lhs; whnf) (by conv => lhs; whnf) (by rfl) (by kernel_rfl) | exact q_lenpts (fr := false) (l := ps) (by rfl) Tryz.underlying23 | exact a_q) | (apply st_rif rfl; (case hq => first | exact a_i); all_goals (intro _; try (exfalso; first | omega | contradiction))) | (apply st_rw rfl rfl; case hq => first | exact w_box (d := 3) 103 (by conv => lhs; whnf) rfl (by conv => lhs; whnf) rfl rfl rfl | exact a_store) | refine tri_true rfl ?_ | refine tri_false rfl ?_ | refine tri_block ?_ | refine tri_skip ?_ | refine tri_ret ?_ | refine tri_exit ?_)
  exact ⟨_, weak_boxany 0 rfl, ⟨trivial, by (conv => lhs; whnf); rfl, rfl⟩⟩
set_option maxHeartbeats 8000000 in
theorem rw_bad3 {b : B} (h : bndF hd = some (some b)) (hm : m = false) : ∀ ab : Int, ab = 4 - ((d + 1 : Nat) : Int) → CEff gxp 33 (.box [.int .i64 (40 - ((left + 1 : Nat) : Int))]) [.agg [.ro false 2 (fieldRows hd), .str bd, .bool m, .pts false ps], .int .i64 ab, .ptr 0 0] (some (.box [.any])) (rwAV (.err 1)) := by
  intro ab hab
  refine ceff_ofb Tryz.func33 rfl (Nat.le_of_ble_eq_true rfl) (fun w γ hw hM => ?_)
  refine tri_postE ?_
  subst hm
  obtain ⟨_, hsm, _, hpl⟩ := hf.head
  have R1 : CPure gxp 67 [.ro false 2 (fieldRows hd)] (.bool true) := by
    have := (rhead_c hd hsm).q
    rw [hr] at this
    exact this
  have B1 : CPure gxp 66 [.ro false 2 (fieldRows hd)] (.tup [.str b, .bool true, .int .i64 0]) := by
    have := (manies_c hd hsm).q
    rw [h] at this
    exact this
  repeat' (first | refine a_f ?_ | refine st_nil ?_ | refine tri_seq ?_ | refine tri_region rfl ?_ | refine a_draw ?_ | (apply st_r rfl; case hq => first | exact q_call R1 (hcf := Tryz.call67) rfl rfl | exact q_call B1 (hcf := Tryz.call66) rfl rfl | exact q_nebL (by conv => lhs; whnf) (by conv => lhs; whnf) (by rfl) (by kernel_rfl) | exact a_q) | (apply st_rif rfl; (case hq => first | exact a_i); all_goals (intro _; try (exfalso; first | omega | contradiction))) | (apply st_rw rfl rfl; case hq => first | exact w_box (d := 3) 103 (by conv => lhs; whnf) rfl (by conv => lhs; whnf) rfl rfl rfl | exact a_store) | refine tri_true rfl ?_ | refine tri_false rfl ?_ | refine tri_block ?_ | refine tri_skip ?_ | refine tri_ret ?_ | refine tri_exit ?_)
  exact ⟨_, weak_boxany 0 rfl, ⟨trivial, by (conv => lhs; whnf); rfl, rfl⟩⟩
set_option maxHeartbeats 8000000 in
theorem rw_bad4 {b : B} (h : bndF hd = some (some b)) (hm : m = true) (hb : bd ≠ []) : ∀ ab : Int, ab = 4 - ((d + 1 : Nat) : Int) → CEff gxp 33 (.box [.int .i64 (40 - ((left + 1 : Nat) : Int))]) [.agg [.ro false 2 (fieldRows hd), .str bd, .bool m, .pts false ps], .int .i64 ab, .ptr 0 0] (some (.box [.any])) (rwAV (.err 1)) := by
  intro ab hab
  refine ceff_ofb Tryz.func33 rfl (Nat.le_of_ble_eq_true rfl) (fun w γ hw hM => ?_)
  refine tri_postE ?_
  subst hm
  obtain ⟨_, hsm, _, hpl⟩ := hf.head
  have R1 : CPure gxp 67 [.ro false 2 (fieldRows hd)] (.bool true) := by
    have := (rhead_c hd hsm).q
    rw [hr] at this
    exact this
  have B1 : CPure gxp 66 [.ro false 2 (fieldRows hd)] (.tup [.str b, .bool true, .int .i64 0]) := by
    have := (manies_c hd hsm).q
    rw [h] at this
    exact this
  repeat' (first | refine a_f ?_ | refine st_nil ?_ | refine tri_seq ?_ | refine tri_region rfl ?_ | refine a_draw ?_ | (apply st_r rfl; case hq => first | exact q_call R1 (hcf := Tryz.call67) rfl rfl | exact q_call B1 (hcf := Tryz.call66) rfl rfl | exact q_nebL (by conv => lhs; whnf) (by conv => lhs; whnf) (by rfl) (by kernel_rfl) | exact a_q) | (apply st_rif rfl; (case hq => first | exact a_i); all_goals (intro _; try (exfalso; first | omega | contradiction))) | (apply st_rw rfl rfl; case hq => first | exact w_box (d := 3) 103 (by conv => lhs; whnf) rfl (by conv => lhs; whnf) rfl rfl rfl | exact a_store) | refine tri_true rfl ?_ | refine tri_false rfl ?_ | refine tri_block ?_ | refine tri_skip ?_ | refine tri_ret ?_ | refine tri_exit ?_)
  exact ⟨_, weak_boxany 0 rfl, ⟨trivial, by (conv => lhs; whnf); rfl, rfl⟩⟩
end
def RWOk (d left : Nat) (p : PT) : Prop := ∀ ab : Int, ab = 4 - (d : Int) → CEff gxp 33 (.box [.int .i64 (40 - (left : Int))]) [.agg [.ro false 2 (fieldRows p.head), .str p.body, .bool p.many, .pts false p.parts], .int .i64 ab, .ptr 0 0] (some (.box [rwCell (writePt d left p)])) (rwAV (writePt d left p))
abbrev RwKidS (ab : Int) (hd : Fs) (bd : B) (m : Bool) (ps : List PT) (x : Nat × Nat × List B) : St := st [(1, .int .i64 ab), (2, .ptr 0 0), (3, .ptr 103 0), (9, .bool m), (11, .sl 111), (90, .pts false ps), (91, .int .i64 ps.length), (92, .int .i64 x.1)] [(0, .box [.int .i64 (40 - (x.2.1 : Int))]), (103, .box [.ro false 2 (fieldRows hd), .str bd, .bool m, .pts false ps]), (111, .rows 9 1 (strRows x.2.2))]
noncomputable abbrev RwC (w : World) (γ : Gh) (hw : gxp.nG ≤ w.heap.size) (hM : ∀ b, Blk γ 0 b → gxp.nG ≤ b) : Cx := cxe gxp Tryz.f33.ntmps w γ hw hM
section
variable {w : World} {γ : Gh} (hw : gxp.nG ≤ w.heap.size) (hM : ∀ b, Blk γ 0 b → gxp.nG ≤ b) (I : Nat × Nat × List B → Prop) (Q : Exit → St → Prop) (ab : Int) (hd : Fs) (bd : B) (m : Bool) (ps : List PT) (i lf : Nat) (out : List B) (qh : Fs) (qb : B) (qm : Bool) (qp : List PT)
  (hab : 0 ≤ ab ∧ ab ≤ 4) (hi : i < ps.length) (hpl : ps.length ≤ 2000000) (hol : out.length ≤ i) (hqr : ps[(i : Int).toNat]? = some (.mk qh qb qm qp))
include hab hi hpl hol hqr
set_option maxHeartbeats 8000000 in
theorem rwkid_ok (s : B) (n : Nat) (E : CEff gxp 33 (.box [.int .i64 (40 - (lf : Int))]) [.agg [.ro false 2 (fieldRows qh), .str qb, .bool qm, .pts false qp], .int .i64 (ab + 1), .ptr 0 0] (some (.box [.int .i64 (40 - (n : Int))])) (.tup [.str s, .int .i64 0])) (hI : I (i + 1, n, out ++ [s])) :
    Tri (RwC w γ hw hM) (loopN Tryz.f33 0) (RwKidS ab hd bd m ps (i, lf, out)) (loopQ (RwC w γ hw hM) I (RwKidS ab hd bd m ps) (fun x => ps.length - x.1) (ps.length - i) Q) := by
  have hsl := sr_len out
  have e1 := sr_app out s
  change Tri _ _ (st [(1, .int .i64 ab), (2, .ptr 0 0), (3, .ptr 103 0), (9, .bool m), (11, .sl 111), (90, .pts false ps), (91, .int .i64 ps.length), (92, .int .i64 i)] [(0, .box [.int .i64 (40 - (lf : Int))]), (103, .box [.ro false 2 (fieldRows hd), .str bd, .bool m, .pts false ps]), (111, .rows 9 1 (strRows out))]) _
  repeat' (first | refine a_f ?_ | refine st_nil ?_ | refine tri_seq ?_ | refine tri_region rfl ?_ | refine a_draw ?_ | (apply st_r rfl; case hq => first | exact q_idxpts (p := .mk qh qb qm qp) (by conv => lhs; whnf) (by conv => lhs; whnf) Tryz.underlying23 (by kernel_rfl) (by omega) hqr | exact q_loadar (n := 4) (by conv => lhs; whnf) (by conv => lhs; whnf) (by first | rfl | exact Nat.le_of_ble_eq_true rfl | exact Nat.succ_pos _ | decide) (by kernel_rfl) (fun _ => rfl) | exact q_loada (n := 4) (by conv => lhs; whnf) (by conv => lhs; whnf; arg 1; whnf) (by conv => lhs; whnf) (by first | rfl | exact Nat.le_of_ble_eq_true rfl | exact Nat.succ_pos _ | decide) (by show aggB Tryz.prog _ _ = true; decide +kernel) | exact a_q) | (apply st_rif rfl; (case hq => first | exact a_i); all_goals (intro _; try (exfalso; first | omega | contradiction))) | (apply st_rw rfl rfl; case hq => first | exact w_alloc (d := 13) 113 (by exact zPartK) rfl rfl rfl | exact w_call (id := 0) E (hcf := Tryz.call33) (by rfl) rfl rfl rfl rfl rfl | exact w_append (id := 111) (by conv => lhs; whnf) (by conv => lhs; whnf; arg 1; whnf) (by conv => lhs; whnf) (by first | exact Tryz.underlying22 | exact Tryz.underlying23 | exact Tryz.underlying43 | exact Tryz.underlying44 | exact Tryz.underlying51 | exact Tryz.underlying86 | exact Tryz.underlying191 | exact Tryz.underlying209 | exact Tryz.underlying234 | exact Tryz.underlying270 | exact Tryz.underlying281 | exact Tryz.underlying344) (by kernel_rfl) (by simp) rfl (by simp only [List.length_cons, List.length_nil]; omega) rfl rfl | exact a_store) | refine tri_true rfl ?_ | refine tri_false rfl ?_ | refine tri_block ?_ | refine tri_skip ?_ | refine tri_ret ?_ | refine tri_exit ?_)
  exact nextR (i + 1, n, out ++ [s]) hI (weak_st ⟨rfl, rfl, rfl, rfl, rfl, rfl, rfl, rfl, trivial⟩ ⟨rfl, rfl, congrArg (fun r => some (AObj.rows 9 1 r)) e1, trivial⟩) (show ps.length - (i + 1) < ps.length - i by omega)
set_option maxHeartbeats 8000000 in
theorem rwkid_err (e : Nat) (he : 1 ≤ e) (E : CEff gxp 33 (.box [.int .i64 (40 - (lf : Int))]) [.agg [.ro false 2 (fieldRows qh), .str qb, .bool qm, .pts false qp], .int .i64 (ab + 1), .ptr 0 0] (some (.box [.any])) (.tup [.str [], .int .i64 (e : Int)]))
    (hQ : ∀ σ, (∃ σ', Weak (RwC w γ hw hM) σ σ' ∧ RetQB gxp.P Tryz.f33.results.toList (.tup [.str [], .int .i64 (e : Int)]) (some (.box [.any])) .ret σ') → Q .ret σ) :
    Tri (RwC w γ hw hM) (loopN Tryz.f33 0) (RwKidS ab hd bd m ps (i, lf, out)) (loopQ (RwC w γ hw hM) I (RwKidS ab hd bd m ps) (fun x => ps.length - x.1) (ps.length - i) Q) := by
  have hsl := sr_len out
  change Tri _ _ (st [(1, .int .i64 ab), (2, .ptr 0 0), (3, .ptr 103 0), (9, .bool m), (11, .sl 111), (90, .pts false ps), (91, .int .i64 ps.length), (92, .int .i64 i)] [(0, .box [.int .i64 (40 - (lf : Int))]), (103, .box [.ro false 2 (fieldRows hd), .str bd, .bool m, .pts false ps]), (111, .rows 9 1 (strRows out))]) _
  repeat' (first | refine a_f ?_ | refine st_nil ?_ | refine tri_seq ?_ | refine tri_region rfl ?_ | refine a_draw ?_ | (apply st_r rfl; case hq => first | exact q_idxpts (p := .mk qh qb qm qp) (by conv => lhs; whnf) (by conv => lhs; whnf) Tryz.underlying23 (by kernel_rfl) (by omega) hqr | exact q_loadar (n := 4) (by conv => lhs; whnf) (by conv => lhs; whnf) (by first | rfl | exact Nat.le_of_ble_eq_true rfl | exact Nat.succ_pos _ | decide) (by kernel_rfl) (fun _ => rfl) | exact q_loada (n := 4) (by conv => lhs; whnf) (by conv => lhs; whnf; arg 1; whnf) (by conv => lhs; whnf) (by first | rfl | exact Nat.le_of_ble_eq_true rfl | exact Nat.succ_pos _ | decide) (by show aggB Tryz.prog _ _ = true; decide +kernel) | exact a_q) | (apply st_rif rfl; (case hq => first | exact a_i); all_goals (intro _; try (exfalso; first | omega | contradiction))) | (apply st_rw rfl rfl; case hq => first | exact w_alloc (d := 13) 113 (by exact zPartK) rfl rfl rfl | exact w_call (id := 0) E (hcf := Tryz.call33) (by rfl) rfl rfl rfl rfl rfl | exact a_store) | refine tri_true rfl ?_ | refine tri_false rfl ?_ | refine tri_block ?_ | refine tri_skip ?_ | refine tri_ret ?_ | refine tri_exit ?_)
  exact hQ _ ⟨_, Weak.refl _ _, ⟨trivial, by (conv => lhs; whnf); rfl, rfl⟩⟩
end
end Go.Proofs.YtignjjnflcpiiaaGreatDoor
