import Derived.Test.YtignjjnflcpiiabGreatDoorZPartO
import Derived.Test.YtignjjnflcpiiabGreatDoorZPartL
import Derived.Test.YtignjjnflcpiiabGreatDoorZSameW
import Derived.Test.YtignjjnflcpiiabGreatDoorCards
import Derived.Test.YtignjjnflcpiiabGreatDoorZPartG
import Derived.OpenShut
import Derived.MakeChecks
import Derived.LaidSub
set_option linter.unusedVariables false
set_option linter.unusedSimpArgs false
set_option maxHeartbeats 1000000
namespace Go.Proofs.YtignjjnflcpiiabGreatDoor
open Go.RowKit
attribute [local irreducible] Tri Steps Qd Wr Weak CPure CEff
set_option maxRecDepth 100000
set_option maxHeartbeats 16000000 in
theorem partReads_c (s : B) (hs : s.length ≤ 140737488351232) : CPure gxo 3 [.str s] (.bool true) := by
  refine cpure_of Tryz.func3 rfl (Nat.le_of_ble_eq_true rfl) rfl (fun w hw => ?_)
  by_cases h1 : 25000 < s.length
  · repeat' (first | refine a_f ?_ | refine st_nil ?_ | refine tri_seq ?_ | refine tri_region rfl ?_ | refine a_draw ?_ | (apply st_r rfl; case hq => first | exact a_lens | exact a_index | exact a_add | exact a_adds0 | exact a_addsc | exact a_adds | exact a_sub | exact a_slo | exact a_shi | exact a_slh | exact a_lensl | exact a_lenro | exact a_lennil | exact a_lenpts | exact a_field | exact a_fielde | exact a_fieldr | exact a_idxsl | exact a_load | exact a_loada | exact a_mki | exact a_build2 | exact a_build3 | exact a_build1 | exact a_build0 | exact a_bs1 | exact a_bs2 | exact a_bs3 | exact a_bs4 | exact a_bsa | exact a_boxr) | (apply st_rif rfl; (case hq => first | exact a_lss | exact a_gtr | exact a_eql | exact a_neq | exact a_eqls0 | exact a_neqs0 | exact a_eqls | exact a_neqs | exact a_leq | exact a_geq); all_goals (intro _; try (exfalso; first | omega | contradiction))) | (apply st_rw rfl rfl; case hq => first | exact a_store) | refine tri_true rfl ?_ | refine tri_false rfl ?_ | refine tri_block ?_ | refine tri_skip ?_ | refine tri_ret ?_ | refine tri_exit ?_)
    refine And.intro trivial ?_
    conv => lhs; whnf
    try rfl
  by_cases h2 : 2500 < s.length ∧ s.length ≤ 20000
  · obtain ⟨h3, h4⟩ := h2
    repeat' (first | refine a_f ?_ | refine st_nil ?_ | refine tri_seq ?_ | refine tri_region rfl ?_ | refine a_draw ?_ | (apply st_r rfl; case hq => first | exact a_lens | exact a_index | exact a_add | exact a_adds0 | exact a_addsc | exact a_adds | exact a_sub | exact a_slo | exact a_shi | exact a_slh | exact a_lensl | exact a_lenro | exact a_lennil | exact a_lenpts | exact a_field | exact a_fielde | exact a_fieldr | exact a_idxsl | exact a_load | exact a_loada | exact a_mki | exact a_build2 | exact a_build3 | exact a_build1 | exact a_build0 | exact a_bs1 | exact a_bs2 | exact a_bs3 | exact a_bs4 | exact a_bsa | exact a_boxr) | (apply st_rif rfl; (case hq => first | exact a_lss | exact a_gtr | exact a_eql | exact a_neq | exact a_eqls0 | exact a_neqs0 | exact a_eqls | exact a_neqs | exact a_leq | exact a_geq); all_goals (intro _; try (exfalso; first | omega | contradiction))) | (apply st_rw rfl rfl; case hq => first | exact a_store) | refine tri_true rfl ?_ | refine tri_false rfl ?_ | refine tri_block ?_ | refine tri_skip ?_ | refine tri_ret ?_ | refine tri_exit ?_)
    refine And.intro trivial ?_
    conv => lhs; whnf
    try rfl
  have W1 := (rreadPart_c s (by omega)).o
  have P1 := partRead_c s (by omega)
  cases hr : readTop s with
  | err e =>
    rw [hr] at W1 P1
    have W1 : CPure gxo 4 [.str s] (.tup [.agg [.ro true 2 (fieldRows []), .str [], .bool false, .pts true []], .int .i64 (e : Int)]) := W1
    have P1 : CPure gxo 5 [.str s] (.tup [.agg [.ro true 2 (fieldRows []), .str [], .bool false, .pts true []], .iface 26 (.int .i64 (e : Int))]) := P1
    have S1 : CPure gxo 7 [.agg [.ro false 2 (fieldRows []), .str [], .bool false, .pts false []], .agg [.ro false 2 (fieldRows []), .str [], .bool false, .pts false []]] (.bool true) := (same_mk [] [] false [] (by decide) (by decide) (fun q hq => by cases hq)).o
    have B1 : CPure gxo 6 [.iface 26 (.int .i64 (e : Int)), .int .i64 (e : Int)] (.bool true) := by have := (bare_no_c (e : Int) (e : Int)).eo; simpa using this
    generalize fieldRows [] = fr0 at W1 P1 S1
    generalize ([] : List PT) = pt0 at W1 P1 S1
    clear hr
    rcases (by omega : s.length ≤ 2500 ∨ 20000 < s.length) with h3 | h3
    all_goals
      repeat' (first | refine a_f ?_ | refine st_nil ?_ | refine tri_seq ?_ | refine tri_region rfl ?_ | refine a_draw ?_ | (apply st_r rfl; case hq => first | exact q_loada (n := 4) (by conv => lhs; whnf) (by conv => lhs; whnf; arg 1; whnf) (by conv => lhs; whnf) (by first | rfl | exact Nat.le_of_ble_eq_true rfl | exact Nat.succ_pos _ | decide) (by show aggB Tryz.prog _ _ = true; decide +kernel) | exact q_call W1 (hcf := Tryz.call4) rfl rfl | exact q_call P1 (hcf := Tryz.call5) rfl rfl | exact q_call S1 (hcf := Tryz.call7) rfl rfl | exact q_call B1 (hcf := Tryz.call6) rfl rfl | exact a_lens | exact a_index | exact a_add | exact a_adds0 | exact a_addsc | exact a_adds | exact a_sub | exact a_slo | exact a_shi | exact a_slh | exact a_lensl | exact a_lenro | exact a_lennil | exact a_lenpts | exact a_field | exact a_fielde | exact a_fieldr | exact a_idxsl | exact a_load | exact a_loada | exact a_mki | exact a_build2 | exact a_build3 | exact a_build1 | exact a_build0 | exact a_bs1 | exact a_bs2 | exact a_bs3 | exact a_bs4 | exact a_bsa | exact a_boxr) | (apply st_rif rfl; (case hq => first | exact a_lss | exact a_gtr | exact a_eql | exact a_neq | exact a_eqls0 | exact a_neqs0 | exact a_eqls | exact a_neqs | exact a_leq | exact a_geq); all_goals (intro _; try (exfalso; first | omega | contradiction))) | (apply st_rw rfl rfl; case hq => first | exact w_alloc (d := 3) 103 (by exact zPartK) rfl rfl rfl | exact w_alloc (d := 5) 105 (by exact zPartK) rfl rfl rfl | exact a_store) | refine tri_true rfl ?_ | refine tri_false rfl ?_ | refine tri_block ?_ | refine tri_skip ?_ | refine tri_ret ?_ | refine tri_exit ?_)
      refine And.intro trivial ?_
      conv => lhs; whnf
      try rfl
  | ok p =>
    have hsm := readTop_sm (by omega) hr
    rw [hr] at W1 P1
    have S0 := same_c 4 p hsm
    obtain ⟨qh, qb, qm, qp⟩ := p
    have W1 : CPure gxo 4 [.str s] (.tup [.agg [.ro true 2 (fieldRows qh), .str qb, .bool qm, .pts true qp], .int .i64 0]) := W1
    have P1 : CPure gxo 5 [.str s] (.tup [.agg [.ro true 2 (fieldRows qh), .str qb, .bool qm, .pts true qp], .nili]) := P1
    have S1 : CPure gxo 7 [.agg [.ro false 2 (fieldRows qh), .str qb, .bool qm, .pts false qp], .agg [.ro false 2 (fieldRows qh), .str qb, .bool qm, .pts false qp]] (.bool true) := S0.o
    have B1 : CPure gxo 6 [.nili, .int .i64 0] (.bool true) := by have := (bare_nil_c 0).eo; simpa using this
    clear hr hsm S0
    rcases (by omega : s.length ≤ 2500 ∨ 20000 < s.length) with h3 | h3
    all_goals
      repeat' (first | refine a_f ?_ | refine st_nil ?_ | refine tri_seq ?_ | refine tri_region rfl ?_ | refine a_draw ?_ | (apply st_r rfl; case hq => first | exact q_loada (n := 4) (by conv => lhs; whnf) (by conv => lhs; whnf; arg 1; whnf) (by conv => lhs; whnf) (by first | rfl | exact Nat.le_of_ble_eq_true rfl | exact Nat.succ_pos _ | decide) (by show aggB Tryz.prog _ _ = true; decide +kernel) | exact q_call W1 (hcf := Tryz.call4) rfl rfl | exact q_call P1 (hcf := Tryz.call5) rfl rfl | exact q_call S1 (hcf := Tryz.call7) rfl rfl | exact q_call B1 (hcf := Tryz.call6) rfl rfl | exact a_lens | exact a_index | exact a_add | exact a_adds0 | exact a_addsc | exact a_adds | exact a_sub | exact a_slo | exact a_shi | exact a_slh | exact a_lensl | exact a_lenro | exact a_lennil | exact a_lenpts | exact a_field | exact a_fielde | exact a_fieldr | exact a_idxsl | exact a_load | exact a_loada | exact a_mki | exact a_build2 | exact a_build3 | exact a_build1 | exact a_build0 | exact a_bs1 | exact a_bs2 | exact a_bs3 | exact a_bs4 | exact a_bsa | exact a_boxr) | (apply st_rif rfl; (case hq => first | exact a_lss | exact a_gtr | exact a_eql | exact a_neq | exact a_eqls0 | exact a_neqs0 | exact a_eqls | exact a_neqs | exact a_leq | exact a_geq); all_goals (intro _; try (exfalso; first | omega | contradiction))) | (apply st_rw rfl rfl; case hq => first | exact w_alloc (d := 3) 103 (by exact zPartK) rfl rfl rfl | exact w_alloc (d := 5) 105 (by exact zPartK) rfl rfl rfl | exact a_store) | refine tri_true rfl ?_ | refine tri_false rfl ?_ | refine tri_block ?_ | refine tri_skip ?_ | refine tri_ret ?_ | refine tri_exit ?_)
      refine And.intro trivial ?_
      conv => lhs; whnf
      try rfl
end Go.Proofs.YtignjjnflcpiiabGreatDoor
namespace Go.Proofs.YtignjjnflcpiiabGreatDoor
open Go.ChangeShapes Go.WideShapes Go.ChangeAt Go.RowKit
set_option maxRecDepth 100000
def oursD : List (DataW Unit) := [.lit (.string ctN), .lit (.string ceN)]
theorem byte_eqO {z : ByteArray} {l : List UInt8} (h : z.data.toList = l) : z = ⟨l.toArray⟩ := by
  subst h
  cases z
  simp
theorem ours_of {W : World} (h : laidMet Tryz.prog [("bindery/part.ours", Rows.laid_bindery_part_ours)] W) : OursVar W := by
  obtain ⟨ps, ⟨g, t, cs, fuel, p, q, hg, ht, hv, hd, _, _⟩, _⟩ := h
  obtain rfl := Option.some.inj ((show Tryz.prog.globalNamed "bindery/part.ours" = some 0 by kernel_rfl).symm.trans hg)
  obtain rfl := Option.some.inj ((show (Tryz.prog.globals[0]?).map (·.type) = some 94 by kernel_rfl).symm.trans ht)
  have c1 : Tryz.prog.cellsOf 9 = 1 := by kernel_rfl
  obtain ⟨ys, m', _, ey, hleny, hyl, hely⟩ := DataW.trod_array Tryz.underlying94 hd
  have e3 : (ys.map (·.1)) = oursD := (DataW.agg.inj (Prod.mk.inj ey).1).symm
  have key : ∀ j, j < 2 → ∃ z : ByteArray, W.cell? ⟨0, j, none⟩ = some (.string z) ∧ oursD[j]? = some (.lit (.string z.data.toList)) := by
    intro j hj
    have hF := hely j hj
    rw [c1, Nat.mul_one, List.getElem?_eq_getElem (by omega)] at hF
    obtain ⟨z, f1, f2, _⟩ := DataW.trod_string Tryz.underlying9 hF
    have h0 : (cs.toList.drop j)[0]? = some (.string z) := by
      have : ((cs.toList.drop j).take 1)[0]? = some (.string z) := by rw [f1]; rfl
      simpa using this
    have h1 : cs[j]? = some (.string z) := by
      rw [List.getElem?_drop] at h0
      simpa using h0
    refine ⟨z, ?_, ?_⟩
    · rw [World.var?_cell hg hv, h1]
    · rw [← e3, List.getElem?_map, List.getElem?_eq_getElem (by omega : j < ys.length), f2]; rfl
  obtain ⟨z0, a0, b0⟩ := key 0 (by decide)
  obtain ⟨z1, a1, b1⟩ := key 1 (by decide)
  refine ⟨?_, ?_⟩
  · rw [a0, byte_eqO (Lit.string.inj (DataW.lit.inj (Option.some.inj b0))).symm]
  · rw [a1, byte_eqO (Lit.string.inj (DataW.lit.inj (Option.some.inj b1))).symm]
theorem ours_row {W : World} {l : List (String × DataW Unit)} (h : laidMetH Tryz.prog l W) (e : (l.filter fun x => x.1 == "bindery/part.ours") = [("bindery/part.ours", Rows.laid_bindery_part_ours)]) : OursVar W := by
  have h1 := h.filter (fun x => x.1 == "bindery/part.ours")
  rw [e, MakeChecks.laidMetH_plain _ _ _ (by kernel_rfl)] at h1
  exact ours_of h1
end Go.Proofs.YtignjjnflcpiiabGreatDoor
