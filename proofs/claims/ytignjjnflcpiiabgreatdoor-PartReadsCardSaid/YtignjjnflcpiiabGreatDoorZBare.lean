import Derived.Test.YtignjjnflcpiiabGreatDoorZHeadA
set_option linter.unusedVariables false
set_option linter.unusedSimpArgs false
set_option maxHeartbeats 1000000
namespace Go.Proofs.YtignjjnflcpiiabGreatDoor
open Go.RowKit
attribute [local irreducible] Tri Steps Qd Wr Weak CPure CEff
set_option maxRecDepth 100000
theorem bare_c (e : Int) : CPure gx 11 [.int .i64 e] (.agg [.int .i64 e, .int .i64 (-1)]) := by
  refine cpure_of Tryz.func11 rfl (Nat.le_of_ble_eq_true rfl) rfl (fun w hw => ?_)
  repeat' (first | refine a_f ?_ | refine st_nil ?_ | refine tri_seq ?_ | refine tri_region rfl ?_ | refine a_draw ?_ | (apply st_r rfl; case hq => first | exact a_lens | exact a_index | exact a_add | exact a_adds0 | exact a_addsc | exact a_adds | exact a_sub | exact a_slo | exact a_shi | exact a_slh | exact a_lensl | exact a_lenro | exact a_lennil | exact a_lenpts | exact a_field | exact a_fielde | exact a_fieldr | exact a_idxsl | exact a_load | exact a_loada | exact a_mki | exact a_build2 | exact a_build3 | exact a_build1 | exact a_build0 | exact a_bs1 | exact a_bs2 | exact a_bs3 | exact a_bs4 | exact a_bsa | exact a_boxr) | (apply st_rif rfl; (case hq => first | exact a_lss | exact a_gtr | exact a_eql | exact a_neq | exact a_eqls0 | exact a_neqs0 | exact a_eqls | exact a_neqs | exact a_leq | exact a_geq); all_goals (intro _; try (exfalso; first | omega | contradiction))) | (apply st_rw rfl rfl; case hq => first | exact w_alloc 101 (by first | exact zAt | exact zFault | exact zField | exact zParam | exact zLink | exact zPart | exact zReader) rfl rfl rfl | exact a_store) | refine tri_true rfl ?_ | refine tri_false rfl ?_ | refine tri_block ?_ | refine tri_skip ?_ | refine tri_ret ?_ | refine tri_exit ?_)
  refine And.intro (And.intro ⟨101, _, rfl, rfl, by kernel_rfl⟩ trivial) ?_
  conv => lhs; whnf
  rfl
end Go.Proofs.YtignjjnflcpiiabGreatDoor
