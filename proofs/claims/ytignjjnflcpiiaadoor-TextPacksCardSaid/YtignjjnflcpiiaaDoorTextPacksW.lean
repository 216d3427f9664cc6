/- TextPacks: the law is true wherever it is called. -/
import Derived.Test.YtignjjnflcpiiaaDoorUnqR
import Derived.Test.YtignjjnflcpiiaaDoorKindB
set_option linter.unusedVariables false
set_option linter.unusedSimpArgs false
namespace Go.Proofs.YtignjjnflcpiiaaDoor
open Go.RowKit
attribute [local irreducible] Tri Steps Qd Wr Weak CPure CEff
set_option maxRecDepth 100000

set_option maxHeartbeats 4000000 in
theorem textPacks_c (s : B) (hs : s.length ≤ 140737488351232) : CPure gxe 8 [.str s] (.bool true) := by
  refine cpure_of Tryd.func8 rfl (Nat.le_of_ble_eq_true rfl) rfl (fun w hw => ?_)
  by_cases h15 : 1500 < s.length
  · repeat' (first | refine a_f ?_ | refine st_nil ?_ | refine tri_seq ?_ | refine tri_region rfl ?_ | refine a_draw ?_ | (apply st_r rfl; case hq => first | exact a_lens | exact a_index | exact a_add | exact a_adds0 | exact a_addsc | exact a_adds | exact a_sub | exact a_slo | exact a_shi | exact a_slh | exact a_lensl | exact a_lenro | exact a_lennil | exact a_lenpts | exact a_field | exact a_fielde | exact a_fieldr | exact a_idxsl | exact a_load | exact a_loada | exact a_mki | exact a_build2 | exact a_build3 | exact a_build1 | exact a_build0 | exact a_bs1 | exact a_bs2 | exact a_bs3 | exact a_bs4 | exact a_bsa | exact a_boxr) | (apply st_rif rfl; (case hq => first | exact a_lss | exact a_gtr | exact a_eql | exact a_neq | exact a_eqls0 | exact a_neqs0 | exact a_eqls | exact a_neqs | exact a_leq | exact a_geq); all_goals (intro _; try (exfalso; first | omega | contradiction))) | (apply st_rw rfl rfl; case hq => first | exact a_store) | refine tri_true rfl ?_ | refine tri_false rfl ?_ | refine tri_block ?_ | refine tri_skip ?_ | refine tri_ret ?_ | refine tri_exit ?_)
    refine And.intro trivial ?_
    conv => lhs; whnf
  have U1 := (refUnpack_c s (by omega)).e
  have U2 := (unpack_c s (by omega)).e
  have Q1 := (runq_c s (by omega)).e
  have Q2 := (unquote_c s (by omega)).e
  have P1 := (refPack_c s (by omega)).e
  have P2 := (pack_c s (by omega)).e
  have R1 := (rquote_c s (by omega)).e
  have R2 := (quote_c s (by omega)).e
  have B0 : CPure gxe 38 [.nili, .int .i64 0] (.bool true) := by have := bare_nil_c 0; simpa using this
  have B3 : CPure gxe 38 [.iface 46 (.int .i64 3), .int .i64 3] (.bool true) := by have := bare_no_c 3 3; simpa using this
  generalize pack s = p at P1 P2
  generalize quote s = q at R1 R2
  cases hu : unpack s <;> rw [hu] at U1 U2 <;> cases hq : unquote s <;> rw [hq] at Q1 Q2
  all_goals
    repeat' (first | refine a_f ?_ | refine st_nil ?_ | refine tri_seq ?_ | refine tri_region rfl ?_ | refine a_draw ?_ | (apply st_r rfl; case hq => first | exact q_call U1 (hcf := Tryd.call40) rfl rfl | exact q_call U2 (hcf := Tryd.call12) rfl rfl | exact q_call Q1 (hcf := Tryd.call41) rfl rfl | exact q_call Q2 (hcf := Tryd.call13) rfl rfl | exact q_call P1 (hcf := Tryd.call42) rfl rfl | exact q_call P2 (hcf := Tryd.call10) rfl rfl | exact q_call R1 (hcf := Tryd.call43) rfl rfl | exact q_call R2 (hcf := Tryd.call11) rfl rfl | exact q_call B0 (hcf := Tryd.call38) rfl rfl | exact q_call B3 (hcf := Tryd.call38) rfl rfl | exact a_lens | exact a_index | exact a_add | exact a_adds0 | exact a_addsc | exact a_adds | exact a_sub | exact a_slo | exact a_shi | exact a_slh | exact a_lensl | exact a_lenro | exact a_lennil | exact a_lenpts | exact a_field | exact a_fielde | exact a_fieldr | exact a_idxsl | exact a_load | exact a_loada | exact a_mki | exact a_build2 | exact a_build3 | exact a_build1 | exact a_build0 | exact a_bs1 | exact a_bs2 | exact a_bs3 | exact a_bs4 | exact a_bsa | exact a_boxr) | (apply st_rif rfl; (case hq => first | exact a_lss | exact a_gtr | exact a_eql | exact a_neq | exact a_eqls0 | exact a_neqs0 | exact a_eqls | exact a_neqs | exact a_leq | exact a_geq); all_goals (intro _; try (exfalso; first | omega | contradiction))) | (apply st_rw rfl rfl; case hq => first | exact a_store) | refine tri_true rfl ?_ | refine tri_false rfl ?_ | refine tri_block ?_ | refine tri_skip ?_ | refine tri_ret ?_ | refine tri_exit ?_)
  all_goals
    refine And.intro trivial ?_
    conv => lhs; whnf
end Go.Proofs.YtignjjnflcpiiaaDoor
