import Derived.Test.YtignjjnflcpiiabGreatDoorZPartM
import Derived.Test.YtignjjnflcpiiabGreatDoorZPartK
set_option linter.unusedVariables false
set_option linter.unusedSimpArgs false
set_option maxHeartbeats 1000000
namespace Go.Proofs.YtignjjnflcpiiabGreatDoor
open Go.RowKit
attribute [local irreducible] Tri Steps Qd Wr Weak CPure CEff AllB Behind
set_option maxRecDepth 100000
set_option linter.unusedSectionVars false
def rprCell : Res (PT × Nat) → AV
  | .ok (_, n) => .int .i64 (40 - (n : Int))
  | .err _ => .any
def rprAV (p0 : PT) : Res (PT × Nat) → AV
  | .ok (p, _) => .tup [.agg (ptCells true p), .int .i64 0]
  | .err e => .tup [.agg (ptCells true p0), .int .i64 (e : Int)]
theorem rup_leaf (l : Fs) (x : B) (m : Bool) (v : AV) : Up (.tup [.agg [.ro true 2 (fieldRows l), .str x, .bool m, .nils], v]) (.tup [.agg (ptCells true (.mk l x m [])), v]) :=
  Up.tup (.cons (Up.agg (.cons (.refl _) (.cons (.refl _) (.cons (.refl _) (.cons (Up.nilp true) .nil))))) (.cons (.refl _) .nil))
theorem rup_zero (v : AV) : Up (.tup [.agg [.nils, .str [], .bool false, .nils], v]) (.tup [.agg (ptCells true pt0), v]) :=
  Up.tup (.cons (Up.agg (.cons (Up.nil true 2) (.cons (.refl _) (.cons (.refl _) (.cons (Up.nilp true) .nil))))) (.cons (.refl _) .nil))
def RRdOk (d left : Nat) (s : B) : Prop := ∃ p0, ∀ ab : Int, ab = 4 - (d : Int) → CEff gx 8 (.box [.int .i64 (40 - (left : Int))]) [.str s, .int .i64 ab, .ptr 0 0] (some (.box [rprCell (readPt d left s)])) (rprAV p0 (readPt d left s))
set_option maxHeartbeats 8000000 in
theorem rpr_lim {d left : Nat} {s : B} (hd : d = 0 ∨ left = 0) (hd4 : d ≤ 4) (hl : left ≤ 40) : ∀ ab : Int, ab = 4 - (d : Int) → CEff gx 8 (.box [.int .i64 (40 - (left : Int))]) [.str s, .int .i64 ab, .ptr 0 0] (some (.box [.any])) (rprAV pt0 (.err 4)) := by
  intro ab hab
  refine CEff.up ?_ (rup_zero _)
  refine ceff_ofb Tryz.func8 rfl (Nat.le_of_ble_eq_true rfl) (fun w γ hw hM => ?_)
  refine tri_postE ?_
  by_cases h0 : left = 0
  · repeat' (first | refine a_f ?_ | refine st_nil ?_ | refine tri_seq ?_ | refine tri_region rfl ?_ | refine a_draw ?_ | (apply st_r rfl; case hq => first | exact q_loada (n := 4) (by conv => lhs; whnf) (by conv => lhs; whnf; arg 1; whnf) (by conv => lhs; whnf) (by first | rfl | exact Nat.le_of_ble_eq_true rfl | exact Nat.succ_pos _ | decide) (by show aggB Tryz.prog _ _ = true; decide +kernel) | exact a_lens | exact a_index | exact a_add | exact a_adds0 | exact a_addsc | exact a_adds | exact a_sub | exact a_slo | exact a_shi | exact a_slh | exact a_lensl | exact a_lenro | exact a_lennil | exact a_lenpts | exact a_field | exact a_fielde | exact a_fieldr | exact a_idxsl | exact a_load | exact a_loada | exact a_mki | exact a_build2 | exact a_build3 | exact a_build1 | exact a_build0 | exact a_bs1 | exact a_bs2 | exact a_bs3 | exact a_bs4 | exact a_bsa | exact a_boxr) | (apply st_rif rfl; (case hq => first | exact a_lss | exact a_gtr | exact a_eql | exact a_neq | exact a_eqls0 | exact a_neqs0 | exact a_eqls | exact a_neqs | exact a_leq | exact a_geq); all_goals (intro _; try (exfalso; first | omega | contradiction))) | (apply st_rw rfl rfl; case hq => first | exact w_alloc (d := 6) 106 (by exact zPartK) rfl rfl rfl | exact a_store) | refine tri_true rfl ?_ | refine tri_false rfl ?_ | refine tri_block ?_ | refine tri_skip ?_ | refine tri_ret ?_ | refine tri_exit ?_)
    exact ⟨_, weak_boxany 0 rfl, ⟨⟨106, _, rfl, rfl, by kernel_rfl⟩, trivial⟩, by (conv => lhs; whnf); rfl, rfl⟩
  · have hd : d = 0 := by omega
    repeat' (first | refine a_f ?_ | refine st_nil ?_ | refine tri_seq ?_ | refine tri_region rfl ?_ | refine a_draw ?_ | (apply st_r rfl; case hq => first | exact q_loada (n := 4) (by conv => lhs; whnf) (by conv => lhs; whnf; arg 1; whnf) (by conv => lhs; whnf) (by first | rfl | exact Nat.le_of_ble_eq_true rfl | exact Nat.succ_pos _ | decide) (by show aggB Tryz.prog _ _ = true; decide +kernel) | exact a_lens | exact a_index | exact a_add | exact a_adds0 | exact a_addsc | exact a_adds | exact a_sub | exact a_slo | exact a_shi | exact a_slh | exact a_lensl | exact a_lenro | exact a_lennil | exact a_lenpts | exact a_field | exact a_fielde | exact a_fieldr | exact a_idxsl | exact a_load | exact a_loada | exact a_mki | exact a_build2 | exact a_build3 | exact a_build1 | exact a_build0 | exact a_bs1 | exact a_bs2 | exact a_bs3 | exact a_bs4 | exact a_bsa | exact a_boxr) | (apply st_rif rfl; (case hq => first | exact a_lss | exact a_gtr | exact a_eql | exact a_neq | exact a_eqls0 | exact a_neqs0 | exact a_eqls | exact a_neqs | exact a_leq | exact a_geq); all_goals (intro _; try (exfalso; first | omega | contradiction))) | (apply st_rw rfl rfl; case hq => first | exact w_alloc (d := 6) 106 (by exact zPartK) rfl rfl rfl | exact a_store) | refine tri_true rfl ?_ | refine tri_false rfl ?_ | refine tri_block ?_ | refine tri_skip ?_ | refine tri_ret ?_ | refine tri_exit ?_)
    exact ⟨_, weak_boxany 0 rfl, ⟨⟨106, _, rfl, rfl, by kernel_rfl⟩, trivial⟩, by (conv => lhs; whnf); rfl, rfl⟩
section
variable {d left : Nat} {s : B} (hd4 : d + 1 ≤ 4) (hl : left + 1 ≤ 40) (hs : s.length ≤ 1000000)
include hd4 hl hs
set_option maxHeartbeats 8000000 in
theorem rpr_head {n : Nat} (h : readH s = .bad n) : ∀ ab : Int, ab = 4 - ((d + 1 : Nat) : Int) → CEff gx 8 (.box [.int .i64 (40 - ((left + 1 : Nat) : Int))]) [.str s, .int .i64 ab, .ptr 0 0] (some (.box [.any])) (rprAV pt0 (.err 3)) := by
  intro ab hab
  refine CEff.up ?_ (rup_zero _)
  refine ceff_ofb Tryz.func8 rfl (Nat.le_of_ble_eq_true rfl) (fun w γ hw hM => ?_)
  refine tri_postE ?_
  have R1 : CPure gx 12 [.str s] (.tup [.nils, .str [], .agg [.int .i64 3, .int .i64 n]]) := by
    have := rread_c s hs
    rw [h] at this
    exact this
  repeat' (first | refine a_f ?_ | refine st_nil ?_ | refine tri_seq ?_ | refine tri_region rfl ?_ | refine tri_drawW wrB 3 [0, 1, 2] [1, 2] [4] [0, 1, 2, 3, 4] rfl (by kernel_rfl) (by kernel_rfl) rfl ?_ | refine allB_c ?_ ?_ | exact allB_n | refine behind_s ?_ | refine a_draw ?_ | (apply st_r rfl; case hq => first | exact q_loada (n := 4) (by conv => lhs; whnf) (by conv => lhs; whnf; arg 1; whnf) (by conv => lhs; whnf) (by first | rfl | exact Nat.le_of_ble_eq_true rfl | exact Nat.succ_pos _ | decide) (by show aggB Tryz.prog _ _ = true; decide +kernel) | exact q_call R1 (hcf := Tryz.call12) rfl rfl | exact a_lens | exact a_index | exact a_add | exact a_adds0 | exact a_addsc | exact a_adds | exact a_sub | exact a_slo | exact a_shi | exact a_slh | exact a_lensl | exact a_lenro | exact a_lennil | exact a_lenpts | exact a_field | exact a_fielde | exact a_fieldr | exact a_idxsl | exact a_load | exact a_loada | exact a_mki | exact a_build2 | exact a_build3 | exact a_build1 | exact a_build0 | exact a_bs1 | exact a_bs2 | exact a_bs3 | exact a_bs4 | exact a_bsa | exact a_boxr) | (apply st_rif rfl; (case hq => first | exact a_lss | exact a_gtr | exact a_eql | exact a_neq | exact a_eqls0 | exact a_neqs0 | exact a_eqls | exact a_neqs | exact a_leq | exact a_geq); all_goals (intro _; try (exfalso; first | omega | contradiction))) | (apply st_rw rfl rfl; case hq => first | exact w_alloc (d := 6) 106 (by exact zPartK) rfl rfl rfl | exact w_alloc (d := 10) 110 (by first | exact zAt | exact zFault | exact zField | exact zParam | exact zLink | exact zPart | exact zReader) rfl rfl rfl | exact a_store) | refine tri_true rfl ?_ | refine tri_false rfl ?_ | refine tri_block ?_ | refine tri_skip ?_ | refine tri_ret ?_ | refine tri_exit ?_)
  all_goals exact ⟨_, weak_boxany 0 rfl, ⟨⟨106, _, rfl, rfl, by kernel_rfl⟩, trivial⟩, by (conv => lhs; whnf); rfl, rfl⟩
variable {l0 : Fs} {body : B} (h1 : readH s = .ok l0 body)
include h1
set_option maxHeartbeats 8000000 in
theorem rpr_clean {n : Nat} (h : cleanF l0 = .bad n) : ∀ ab : Int, ab = 4 - ((d + 1 : Nat) : Int) → CEff gx 8 (.box [.int .i64 (40 - ((left + 1 : Nat) : Int))]) [.str s, .int .i64 ab, .ptr 0 0] (some (.box [.any])) (rprAV pt0 (.err 1)) := by
  intro ab hab
  refine CEff.up ?_ (rup_zero _)
  refine ceff_ofb Tryz.func8 rfl (Nat.le_of_ble_eq_true rfl) (fun w γ hw hM => ?_)
  refine tri_postE ?_
  have R1 : CPure gx 12 [.str s] (.tup [.ro true 2 (fieldRows l0), .str body, .agg [.int .i64 0, .int .i64 (-1)]]) := by
    have := rread_c s hs
    rw [h1] at this
    exact this
  have C1 : CPure gx 13 [.ro false 2 (fieldRows l0)] (.tup [.nils, .agg [.int .i64 1, .int .i64 n]]) := by
    have := rclean_c l0 (readH_small h1 hs).1
    rw [h] at this
    exact this
  repeat' (first | refine a_f ?_ | refine st_nil ?_ | refine tri_seq ?_ | refine tri_region rfl ?_ | refine tri_drawW wrB 3 [0, 1, 2] [1, 2] [4] [0, 1, 2, 3, 4] rfl (by kernel_rfl) (by kernel_rfl) rfl ?_ | refine allB_c ?_ ?_ | exact allB_n | refine behind_s ?_ | refine a_draw ?_ | (apply st_r rfl; case hq => first | exact q_loada (n := 4) (by conv => lhs; whnf) (by conv => lhs; whnf; arg 1; whnf) (by conv => lhs; whnf) (by first | rfl | exact Nat.le_of_ble_eq_true rfl | exact Nat.succ_pos _ | decide) (by show aggB Tryz.prog _ _ = true; decide +kernel) | exact q_call R1 (hcf := Tryz.call12) rfl rfl | exact q_call C1 (hcf := Tryz.call13) rfl rfl | exact a_lens | exact a_index | exact a_add | exact a_adds0 | exact a_addsc | exact a_adds | exact a_sub | exact a_slo | exact a_shi | exact a_slh | exact a_lensl | exact a_lenro | exact a_lennil | exact a_lenpts | exact a_field | exact a_fielde | exact a_fieldr | exact a_idxsl | exact a_load | exact a_loada | exact a_mki | exact a_build2 | exact a_build3 | exact a_build1 | exact a_build0 | exact a_bs1 | exact a_bs2 | exact a_bs3 | exact a_bs4 | exact a_bsa | exact a_boxr) | (apply st_rif rfl; (case hq => first | exact a_lss | exact a_gtr | exact a_eql | exact a_neq | exact a_eqls0 | exact a_neqs0 | exact a_eqls | exact a_neqs | exact a_leq | exact a_geq); all_goals (intro _; try (exfalso; first | omega | contradiction))) | (apply st_rw rfl rfl; case hq => first | exact w_alloc (d := 6) 106 (by exact zPartK) rfl rfl rfl | exact w_alloc (d := 10) 110 (by first | exact zAt | exact zFault | exact zField | exact zParam | exact zLink | exact zPart | exact zReader) rfl rfl rfl | exact a_store) | refine tri_true rfl ?_ | refine tri_false rfl ?_ | refine tri_block ?_ | refine tri_skip ?_ | refine tri_ret ?_ | refine tri_exit ?_)
  all_goals exact ⟨_, weak_boxany 0 rfl, ⟨⟨106, _, rfl, rfl, by kernel_rfl⟩, trivial⟩, by (conv => lhs; whnf); rfl, rfl⟩
variable {l : Fs} (h2 : cleanF l0 = .ok l)
include h2
set_option maxHeartbeats 8000000 in
theorem rpr_bnd (h : bndF l = none) : ∀ ab : Int, ab = 4 - ((d + 1 : Nat) : Int) → CEff gx 8 (.box [.int .i64 (40 - ((left + 1 : Nat) : Int))]) [.str s, .int .i64 ab, .ptr 0 0] (some (.box [.any])) (rprAV pt0 (.err 3)) := by
  intro ab hab
  refine CEff.up ?_ (rup_zero _)
  refine ceff_ofb Tryz.func8 rfl (Nat.le_of_ble_eq_true rfl) (fun w γ hw hM => ?_)
  refine tri_postE ?_
  have R1 : CPure gx 12 [.str s] (.tup [.ro true 2 (fieldRows l0), .str body, .agg [.int .i64 0, .int .i64 (-1)]]) := by
    have := rread_c s hs
    rw [h1] at this
    exact this
  obtain ⟨hl0, hbl⟩ := readH_small h1 hs
  have hlS := cleanF_small h2 hl0
  have C1 : CPure gx 13 [.ro false 2 (fieldRows l0)] (.tup [.ro true 2 (fieldRows l), .agg [.int .i64 0, .int .i64 (-1)]]) := by
    have := rclean_c l0 hl0
    rw [h2] at this
    exact this
  have B1 : CPure gx 14 [.ro false 2 (fieldRows l)] (.tup [.str [], .bool false, .int .i64 3]) := by
    have := manies_c l hlS
    rw [h] at this
    exact this
  repeat' (first | refine a_f ?_ | refine st_nil ?_ | refine tri_seq ?_ | refine tri_region rfl ?_ | refine a_draw ?_ | (apply st_r rfl; case hq => first | exact q_loada (n := 4) (by conv => lhs; whnf) (by conv => lhs; whnf; arg 1; whnf) (by conv => lhs; whnf) (by first | rfl | exact Nat.le_of_ble_eq_true rfl | exact Nat.succ_pos _ | decide) (by show aggB Tryz.prog _ _ = true; decide +kernel) | exact q_call R1 (hcf := Tryz.call12) rfl rfl | exact q_call C1 (hcf := Tryz.call13) rfl rfl | exact q_call B1 (hcf := Tryz.call14) rfl rfl | exact a_lens | exact a_index | exact a_add | exact a_adds0 | exact a_addsc | exact a_adds | exact a_sub | exact a_slo | exact a_shi | exact a_slh | exact a_lensl | exact a_lenro | exact a_lennil | exact a_lenpts | exact a_field | exact a_fielde | exact a_fieldr | exact a_idxsl | exact a_load | exact a_loada | exact a_mki | exact a_build2 | exact a_build3 | exact a_build1 | exact a_build0 | exact a_bs1 | exact a_bs2 | exact a_bs3 | exact a_bs4 | exact a_bsa | exact a_boxr) | (apply st_rif rfl; (case hq => first | exact a_lss | exact a_gtr | exact a_eql | exact a_neq | exact a_eqls0 | exact a_neqs0 | exact a_eqls | exact a_neqs | exact a_leq | exact a_geq); all_goals (intro _; try (exfalso; first | omega | contradiction))) | (apply st_rw rfl rfl; case hq => first | exact w_alloc (d := 6) 106 (by exact zPartK) rfl rfl rfl | exact w_alloc (d := 10) 110 (by first | exact zAt | exact zFault | exact zField | exact zParam | exact zLink | exact zPart | exact zReader) rfl rfl rfl | exact a_store) | refine tri_true rfl ?_ | refine tri_false rfl ?_ | refine tri_block ?_ | refine tri_skip ?_ | refine tri_ret ?_ | refine tri_exit ?_)
  exact ⟨_, weak_boxany 0 rfl, ⟨⟨106, _, rfl, rfl, by kernel_rfl⟩, trivial⟩, by (conv => lhs; whnf); rfl, rfl⟩
set_option maxHeartbeats 8000000 in
theorem rpr_cut {b : B} (h3 : bndF l = some (some b)) (h : cutF b body = none) : ∀ ab : Int, ab = 4 - ((d + 1 : Nat) : Int) → CEff gx 8 (.box [.int .i64 (40 - ((left + 1 : Nat) : Int))]) [.str s, .int .i64 ab, .ptr 0 0] (some (.box [.any])) (rprAV (.mk l [] true []) (.err 3)) := by
  intro ab hab
  refine CEff.up ?_ (rup_leaf l [] true (.int .i64 3))
  refine ceff_ofb Tryz.func8 rfl (Nat.le_of_ble_eq_true rfl) (fun w γ hw hM => ?_)
  refine tri_postE ?_
  have R1 : CPure gx 12 [.str s] (.tup [.ro true 2 (fieldRows l0), .str body, .agg [.int .i64 0, .int .i64 (-1)]]) := by
    have := rread_c s hs
    rw [h1] at this
    exact this
  obtain ⟨hl0, hbl⟩ := readH_small h1 hs
  have hlS := cleanF_small h2 hl0
  have C1 : CPure gx 13 [.ro false 2 (fieldRows l0)] (.tup [.ro true 2 (fieldRows l), .agg [.int .i64 0, .int .i64 (-1)]]) := by
    have := rclean_c l0 hl0
    rw [h2] at this
    exact this
  have B1 : CPure gx 14 [.ro false 2 (fieldRows l)] (.tup [.str b, .bool true, .int .i64 0]) := by
    have := manies_c l hlS
    rw [h3] at this
    exact this
  have K1 : CPure gx 19 [.str body, .str b] (.tup [.nils, .bool false]) := by
    have := between_c body b (by omega) (bndF_le hlS h3)
    rw [h] at this
    exact this
  repeat' (first | refine a_f ?_ | refine st_nil ?_ | refine tri_seq ?_ | refine tri_region rfl ?_ | refine a_draw ?_ | (apply st_r rfl; case hq => first | exact q_loada (n := 4) (by conv => lhs; whnf) (by conv => lhs; whnf; arg 1; whnf) (by conv => lhs; whnf) (by first | rfl | exact Nat.le_of_ble_eq_true rfl | exact Nat.succ_pos _ | decide) (by show aggB Tryz.prog _ _ = true; decide +kernel) | exact q_build2 zPartK rfl (by kernel_rfl) (by conv => lhs; whnf) (by conv => lhs; whnf) rfl rfl (by conv => lhs; whnf) | exact q_call R1 (hcf := Tryz.call12) rfl rfl | exact q_call C1 (hcf := Tryz.call13) rfl rfl | exact q_call B1 (hcf := Tryz.call14) rfl rfl | exact q_call K1 (hcf := Tryz.call19) rfl rfl | exact a_lens | exact a_index | exact a_add | exact a_adds0 | exact a_addsc | exact a_adds | exact a_sub | exact a_slo | exact a_shi | exact a_slh | exact a_lensl | exact a_lenro | exact a_lennil | exact a_lenpts | exact a_field | exact a_fielde | exact a_fieldr | exact a_idxsl | exact a_load | exact a_loada | exact a_mki | exact a_build2 | exact a_build3 | exact a_build1 | exact a_build0 | exact a_bs1 | exact a_bs2 | exact a_bs3 | exact a_bs4 | exact a_bsa | exact a_boxr) | (apply st_rif rfl; (case hq => first | exact a_lss | exact a_gtr | exact a_eql | exact a_neq | exact a_eqls0 | exact a_neqs0 | exact a_eqls | exact a_neqs | exact a_leq | exact a_geq); all_goals (intro _; try (exfalso; first | omega | contradiction))) | (apply st_rw rfl rfl; case hq => first | exact w_alloc (d := 6) 106 (by exact zPartK) rfl rfl rfl | exact w_alloc (d := 10) 110 (by first | exact zAt | exact zFault | exact zField | exact zParam | exact zLink | exact zPart | exact zReader) rfl rfl rfl | exact a_store) | refine tri_true rfl ?_ | refine tri_false rfl ?_ | refine tri_block ?_ | refine tri_skip ?_ | refine tri_ret ?_ | refine tri_exit ?_)
  exact ⟨_, weak_boxany 0 rfl, ⟨⟨106, _, rfl, rfl, by kernel_rfl⟩, trivial⟩, by (conv => lhs; whnf); rfl, rfl⟩
end
end Go.Proofs.YtignjjnflcpiiabGreatDoor
