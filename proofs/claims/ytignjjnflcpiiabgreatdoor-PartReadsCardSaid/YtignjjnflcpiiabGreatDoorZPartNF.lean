import Derived.Test.YtignjjnflcpiiabGreatDoorZPartN
set_option linter.unusedVariables false
set_option linter.unusedSimpArgs false
set_option maxHeartbeats 1000000
namespace Go.Proofs.YtignjjnflcpiiabGreatDoor
open Go.RowKit
attribute [local irreducible] Tri Steps Qd Wr Weak CPure CEff AllB Behind
set_option maxRecDepth 100000
set_option linter.unusedSectionVars false
section
variable {d left : Nat} {s : B} (hd4 : d + 1 ≤ 4) (hl : left + 1 ≤ 40) (hs : s.length ≤ 1000000)
include hd4 hl hs
variable {l0 : Fs} {body : B} (h1 : readH s = .ok l0 body)
include h1
variable {l : Fs} (h2 : cleanF l0 = .ok l)
include h2
set_option maxHeartbeats 16000000 in
theorem rpr_leaf {x : B} (h3 : bndF l = some none) (h : decodeF l body = .ok x) : ∀ ab : Int, ab = 4 - ((d + 1 : Nat) : Int) → CEff gx 8 (.box [.int .i64 (40 - ((left + 1 : Nat) : Int))]) [.str s, .int .i64 ab, .ptr 0 0] (some (.box [.int .i64 (40 - (left : Int))])) (rprAV pt0 (.ok (.mk l x false [], left))) := by
  intro ab hab
  refine CEff.up ?_ (rup_leaf l x false (.int .i64 0))
  refine ceff_ofb Tryz.func8 rfl (Nat.le_of_ble_eq_true rfl) (fun w γ hw hM => ?_)
  have R1 : CPure gx 12 [.str s] (.tup [.ro true 2 (fieldRows l0), .str body, .agg [.int .i64 0, .int .i64 (-1)]]) := by
    have := rread_c s hs
    rw [h1] at this
    exact this
  obtain ⟨hl0, hbl⟩ := readH_small h1 hs
  have hlS := cleanF_small h2 hl0
  have C1 : CPure gx 13 [.ro false 2 (fieldRows l0)] (.tup [.ro true 2 (fieldRows l), .agg [.int .i64 0, .int .i64 (-1)]]) := by
    have := rclean_c l0 hl0
    rw [h2] at this
    exact this
  have B1 : CPure gx 14 [.ro false 2 (fieldRows l)] (.tup [.str [], .bool false, .int .i64 0]) := by
    have := manies_c l hlS
    rw [h3] at this
    exact this
  have G1 := rget_c l ceB hlS (by decide)
  rw [getAV_of l ceB ceB (by decide)] at G1
  have U1 := refUnpack_c body (by omega)
  have U2 := runq_c body (by omega)
  unfold decodeF at h
  cases hv : getF l ceB with
  | none =>
    rw [hv] at G1 h
    cases h
    have S1 := low_c [] (by simp)
    repeat' (first | refine a_f ?_ | refine st_nil ?_ | refine tri_seq ?_ | refine tri_region rfl ?_ | refine a_draw ?_ | (apply st_r rfl; case hq => first | exact q_loada (n := 4) (by conv => lhs; whnf) (by conv => lhs; whnf; arg 1; whnf) (by conv => lhs; whnf) (by first | rfl | exact Nat.le_of_ble_eq_true rfl | exact Nat.succ_pos _ | decide) (by show aggB Tryz.prog _ _ = true; decide +kernel) | exact q_build2 zPartK rfl (by kernel_rfl) (by conv => lhs; whnf) (by conv => lhs; whnf) rfl rfl (by conv => lhs; whnf) | exact q_call R1 (hcf := Tryz.call12) rfl rfl | exact q_call C1 (hcf := Tryz.call13) rfl rfl | exact q_call B1 (hcf := Tryz.call14) rfl rfl | exact q_call G1 (hcf := Tryz.call15) rfl rfl | exact q_call S1 (hcf := Tryz.call16) rfl rfl | exact q_call U1 (hcf := Tryz.call17) rfl rfl | exact q_call U2 (hcf := Tryz.call18) rfl rfl | exact a_lens | exact a_index | exact a_add | exact a_adds0 | exact a_addsc | exact a_adds | exact a_sub | exact a_slo | exact a_shi | exact a_slh | exact a_lensl | exact a_lenro | exact a_lennil | exact a_lenpts | exact a_field | exact a_fielde | exact a_fieldr | exact a_idxsl | exact a_load | exact a_loada | exact a_mki | exact a_build2 | exact a_build3 | exact a_build1 | exact a_build0 | exact a_bs1 | exact a_bs2 | exact a_bs3 | exact a_bs4 | exact a_bsa | exact a_boxr) | (apply st_rif rfl; (case hq => first | exact a_lss | exact a_gtr | exact a_eql | exact a_neq | exact a_eqls0 | exact a_neqs0 | exact a_eqls | exact a_neqs | exact a_leq | exact a_geq); all_goals (intro _; try (exfalso; first | omega | contradiction))) | (apply st_rw rfl rfl; case hq => first | exact w_alloc (d := 6) 106 (by exact zPartK) rfl rfl rfl | exact w_alloc (d := 10) 110 (by first | exact zAt | exact zFault | exact zField | exact zParam | exact zLink | exact zPart | exact zReader) rfl rfl rfl | exact a_store) | refine tri_true rfl ?_ | refine tri_false rfl ?_ | refine tri_block ?_ | refine tri_skip ?_ | refine tri_ret ?_ | refine tri_exit ?_)
    exact ⟨⟨⟨106, _, rfl, rfl, by kernel_rfl⟩, trivial⟩, by (conv => lhs; whnf); rfl, congrArg (fun z => some (AObj.box [AV.int .i64 z])) (by omega)⟩
  | some v =>
    rw [hv] at G1 h
    obtain ⟨f, hfm, _, rfl⟩ := getF_mem hv
    have hvl := (hlS.one f hfm).2
    have S1 := low_c f.2 (by omega)
    simp only at h
    generalize lowB f.2 = lv at S1 h
    by_cases e1 : lv = [55, 98, 105, 116]
    · rw [if_pos (show lv = b7 ∨ lv = b8 ∨ lv = bBin from .inl e1)] at h
      cases h
      repeat' (first | refine a_f ?_ | refine st_nil ?_ | refine tri_seq ?_ | refine tri_region rfl ?_ | refine a_draw ?_ | (apply st_r rfl; case hq => first | exact q_loada (n := 4) (by conv => lhs; whnf) (by conv => lhs; whnf; arg 1; whnf) (by conv => lhs; whnf) (by first | rfl | exact Nat.le_of_ble_eq_true rfl | exact Nat.succ_pos _ | decide) (by show aggB Tryz.prog _ _ = true; decide +kernel) | exact q_build2 zPartK rfl (by kernel_rfl) (by conv => lhs; whnf) (by conv => lhs; whnf) rfl rfl (by conv => lhs; whnf) | exact q_call R1 (hcf := Tryz.call12) rfl rfl | exact q_call C1 (hcf := Tryz.call13) rfl rfl | exact q_call B1 (hcf := Tryz.call14) rfl rfl | exact q_call G1 (hcf := Tryz.call15) rfl rfl | exact q_call S1 (hcf := Tryz.call16) rfl rfl | exact q_call U1 (hcf := Tryz.call17) rfl rfl | exact q_call U2 (hcf := Tryz.call18) rfl rfl | exact a_lens | exact a_index | exact a_add | exact a_adds0 | exact a_addsc | exact a_adds | exact a_sub | exact a_slo | exact a_shi | exact a_slh | exact a_lensl | exact a_lenro | exact a_lennil | exact a_lenpts | exact a_field | exact a_fielde | exact a_fieldr | exact a_idxsl | exact a_load | exact a_loada | exact a_mki | exact a_build2 | exact a_build3 | exact a_build1 | exact a_build0 | exact a_bs1 | exact a_bs2 | exact a_bs3 | exact a_bs4 | exact a_bsa | exact a_boxr) | (apply st_rif rfl; (case hq => first | exact a_lss | exact a_gtr | exact a_eql | exact a_neq | exact a_eqls0 | exact a_neqs0 | exact a_eqls | exact a_neqs | exact a_leq | exact a_geq); all_goals (intro _; try (exfalso; first | omega | contradiction))) | (apply st_rw rfl rfl; case hq => first | exact w_alloc (d := 6) 106 (by exact zPartK) rfl rfl rfl | exact w_alloc (d := 10) 110 (by first | exact zAt | exact zFault | exact zField | exact zParam | exact zLink | exact zPart | exact zReader) rfl rfl rfl | exact a_store) | refine tri_true rfl ?_ | refine tri_false rfl ?_ | refine tri_block ?_ | refine tri_skip ?_ | refine tri_ret ?_ | refine tri_exit ?_)
      exact ⟨⟨⟨106, _, rfl, rfl, by kernel_rfl⟩, trivial⟩, by (conv => lhs; whnf); rfl, congrArg (fun z => some (AObj.box [AV.int .i64 z])) (by omega)⟩
    by_cases e2 : lv = [56, 98, 105, 116]
    · rw [if_pos (show lv = b7 ∨ lv = b8 ∨ lv = bBin from .inr (.inl e2))] at h
      cases h
      repeat' (first | refine a_f ?_ | refine st_nil ?_ | refine tri_seq ?_ | refine tri_region rfl ?_ | refine a_draw ?_ | (apply st_r rfl; case hq => first | exact q_loada (n := 4) (by conv => lhs; whnf) (by conv => lhs; whnf; arg 1; whnf) (by conv => lhs; whnf) (by first | rfl | exact Nat.le_of_ble_eq_true rfl | exact Nat.succ_pos _ | decide) (by show aggB Tryz.prog _ _ = true; decide +kernel) | exact q_build2 zPartK rfl (by kernel_rfl) (by conv => lhs; whnf) (by conv => lhs; whnf) rfl rfl (by conv => lhs; whnf) | exact q_call R1 (hcf := Tryz.call12) rfl rfl | exact q_call C1 (hcf := Tryz.call13) rfl rfl | exact q_call B1 (hcf := Tryz.call14) rfl rfl | exact q_call G1 (hcf := Tryz.call15) rfl rfl | exact q_call S1 (hcf := Tryz.call16) rfl rfl | exact q_call U1 (hcf := Tryz.call17) rfl rfl | exact q_call U2 (hcf := Tryz.call18) rfl rfl | exact a_lens | exact a_index | exact a_add | exact a_adds0 | exact a_addsc | exact a_adds | exact a_sub | exact a_slo | exact a_shi | exact a_slh | exact a_lensl | exact a_lenro | exact a_lennil | exact a_lenpts | exact a_field | exact a_fielde | exact a_fieldr | exact a_idxsl | exact a_load | exact a_loada | exact a_mki | exact a_build2 | exact a_build3 | exact a_build1 | exact a_build0 | exact a_bs1 | exact a_bs2 | exact a_bs3 | exact a_bs4 | exact a_bsa | exact a_boxr) | (apply st_rif rfl; (case hq => first | exact a_lss | exact a_gtr | exact a_eql | exact a_neq | exact a_eqls0 | exact a_neqs0 | exact a_eqls | exact a_neqs | exact a_leq | exact a_geq); all_goals (intro _; try (exfalso; first | omega | contradiction))) | (apply st_rw rfl rfl; case hq => first | exact w_alloc (d := 6) 106 (by exact zPartK) rfl rfl rfl | exact w_alloc (d := 10) 110 (by first | exact zAt | exact zFault | exact zField | exact zParam | exact zLink | exact zPart | exact zReader) rfl rfl rfl | exact a_store) | refine tri_true rfl ?_ | refine tri_false rfl ?_ | refine tri_block ?_ | refine tri_skip ?_ | refine tri_ret ?_ | refine tri_exit ?_)
      exact ⟨⟨⟨106, _, rfl, rfl, by kernel_rfl⟩, trivial⟩, by (conv => lhs; whnf); rfl, congrArg (fun z => some (AObj.box [AV.int .i64 z])) (by omega)⟩
    by_cases e3 : lv = [98, 105, 110, 97, 114, 121]
    · rw [if_pos (show lv = b7 ∨ lv = b8 ∨ lv = bBin from .inr (.inr e3))] at h
      cases h
      repeat' (first | refine a_f ?_ | refine st_nil ?_ | refine tri_seq ?_ | refine tri_region rfl ?_ | refine a_draw ?_ | (apply st_r rfl; case hq => first | exact q_loada (n := 4) (by conv => lhs; whnf) (by conv => lhs; whnf; arg 1; whnf) (by conv => lhs; whnf) (by first | rfl | exact Nat.le_of_ble_eq_true rfl | exact Nat.succ_pos _ | decide) (by show aggB Tryz.prog _ _ = true; decide +kernel) | exact q_build2 zPartK rfl (by kernel_rfl) (by conv => lhs; whnf) (by conv => lhs; whnf) rfl rfl (by conv => lhs; whnf) | exact q_call R1 (hcf := Tryz.call12) rfl rfl | exact q_call C1 (hcf := Tryz.call13) rfl rfl | exact q_call B1 (hcf := Tryz.call14) rfl rfl | exact q_call G1 (hcf := Tryz.call15) rfl rfl | exact q_call S1 (hcf := Tryz.call16) rfl rfl | exact q_call U1 (hcf := Tryz.call17) rfl rfl | exact q_call U2 (hcf := Tryz.call18) rfl rfl | exact a_lens | exact a_index | exact a_add | exact a_adds0 | exact a_addsc | exact a_adds | exact a_sub | exact a_slo | exact a_shi | exact a_slh | exact a_lensl | exact a_lenro | exact a_lennil | exact a_lenpts | exact a_field | exact a_fielde | exact a_fieldr | exact a_idxsl | exact a_load | exact a_loada | exact a_mki | exact a_build2 | exact a_build3 | exact a_build1 | exact a_build0 | exact a_bs1 | exact a_bs2 | exact a_bs3 | exact a_bs4 | exact a_bsa | exact a_boxr) | (apply st_rif rfl; (case hq => first | exact a_lss | exact a_gtr | exact a_eql | exact a_neq | exact a_eqls0 | exact a_neqs0 | exact a_eqls | exact a_neqs | exact a_leq | exact a_geq); all_goals (intro _; try (exfalso; first | omega | contradiction))) | (apply st_rw rfl rfl; case hq => first | exact w_alloc (d := 6) 106 (by exact zPartK) rfl rfl rfl | exact w_alloc (d := 10) 110 (by first | exact zAt | exact zFault | exact zField | exact zParam | exact zLink | exact zPart | exact zReader) rfl rfl rfl | exact a_store) | refine tri_true rfl ?_ | refine tri_false rfl ?_ | refine tri_block ?_ | refine tri_skip ?_ | refine tri_ret ?_ | refine tri_exit ?_)
      exact ⟨⟨⟨106, _, rfl, rfl, by kernel_rfl⟩, trivial⟩, by (conv => lhs; whnf); rfl, congrArg (fun z => some (AObj.box [AV.int .i64 z])) (by omega)⟩
    rw [if_neg (show ¬ (lv = b7 ∨ lv = b8 ∨ lv = bBin) from fun h => h.elim e1 (fun h => h.elim e2 e3))] at h
    by_cases e4 : lv = [98, 97, 115, 101, 54, 52]
    · rw [if_pos (show lv = b64 from e4)] at h
      cases hu : unpack body with
      | none =>
        rw [hu] at U1 h
        cases h
      | some y =>
        rw [hu] at U1 h
        cases h
        simp only [ruAV] at U1
        repeat' (first | refine a_f ?_ | refine st_nil ?_ | refine tri_seq ?_ | refine tri_region rfl ?_ | refine a_draw ?_ | (apply st_r rfl; case hq => first | exact q_loada (n := 4) (by conv => lhs; whnf) (by conv => lhs; whnf; arg 1; whnf) (by conv => lhs; whnf) (by first | rfl | exact Nat.le_of_ble_eq_true rfl | exact Nat.succ_pos _ | decide) (by show aggB Tryz.prog _ _ = true; decide +kernel) | exact q_build2 zPartK rfl (by kernel_rfl) (by conv => lhs; whnf) (by conv => lhs; whnf) rfl rfl (by conv => lhs; whnf) | exact q_call R1 (hcf := Tryz.call12) rfl rfl | exact q_call C1 (hcf := Tryz.call13) rfl rfl | exact q_call B1 (hcf := Tryz.call14) rfl rfl | exact q_call G1 (hcf := Tryz.call15) rfl rfl | exact q_call S1 (hcf := Tryz.call16) rfl rfl | exact q_call U1 (hcf := Tryz.call17) rfl rfl | exact q_call U2 (hcf := Tryz.call18) rfl rfl | exact a_lens | exact a_index | exact a_add | exact a_adds0 | exact a_addsc | exact a_adds | exact a_sub | exact a_slo | exact a_shi | exact a_slh | exact a_lensl | exact a_lenro | exact a_lennil | exact a_lenpts | exact a_field | exact a_fielde | exact a_fieldr | exact a_idxsl | exact a_load | exact a_loada | exact a_mki | exact a_build2 | exact a_build3 | exact a_build1 | exact a_build0 | exact a_bs1 | exact a_bs2 | exact a_bs3 | exact a_bs4 | exact a_bsa | exact a_boxr) | (apply st_rif rfl; (case hq => first | exact a_lss | exact a_gtr | exact a_eql | exact a_neq | exact a_eqls0 | exact a_neqs0 | exact a_eqls | exact a_neqs | exact a_leq | exact a_geq); all_goals (intro _; try (exfalso; first | omega | contradiction))) | (apply st_rw rfl rfl; case hq => first | exact w_alloc (d := 6) 106 (by exact zPartK) rfl rfl rfl | exact w_alloc (d := 10) 110 (by first | exact zAt | exact zFault | exact zField | exact zParam | exact zLink | exact zPart | exact zReader) rfl rfl rfl | exact a_store) | refine tri_true rfl ?_ | refine tri_false rfl ?_ | refine tri_block ?_ | refine tri_skip ?_ | refine tri_ret ?_ | refine tri_exit ?_)
        exact ⟨⟨⟨106, _, rfl, rfl, by kernel_rfl⟩, trivial⟩, by (conv => lhs; whnf); rfl, congrArg (fun z => some (AObj.box [AV.int .i64 z])) (by omega)⟩
    rw [if_neg (show ¬ lv = b64 from e4)] at h
    by_cases e5 : lv = [113, 117, 111, 116, 101, 100, 45, 112, 114, 105, 110, 116, 97, 98, 108, 101]
    · rw [if_pos (show lv = bQP from e5)] at h
      cases hu : unquote body with
      | none =>
        rw [hu] at U2 h
        cases h
      | some y =>
        rw [hu] at U2 h
        cases h
        simp only [ruAV] at U2
        repeat' (first | refine a_f ?_ | refine st_nil ?_ | refine tri_seq ?_ | refine tri_region rfl ?_ | refine a_draw ?_ | (apply st_r rfl; case hq => first | exact q_loada (n := 4) (by conv => lhs; whnf) (by conv => lhs; whnf; arg 1; whnf) (by conv => lhs; whnf) (by first | rfl | exact Nat.le_of_ble_eq_true rfl | exact Nat.succ_pos _ | decide) (by show aggB Tryz.prog _ _ = true; decide +kernel) | exact q_build2 zPartK rfl (by kernel_rfl) (by conv => lhs; whnf) (by conv => lhs; whnf) rfl rfl (by conv => lhs; whnf) | exact q_call R1 (hcf := Tryz.call12) rfl rfl | exact q_call C1 (hcf := Tryz.call13) rfl rfl | exact q_call B1 (hcf := Tryz.call14) rfl rfl | exact q_call G1 (hcf := Tryz.call15) rfl rfl | exact q_call S1 (hcf := Tryz.call16) rfl rfl | exact q_call U1 (hcf := Tryz.call17) rfl rfl | exact q_call U2 (hcf := Tryz.call18) rfl rfl | exact a_lens | exact a_index | exact a_add | exact a_adds0 | exact a_addsc | exact a_adds | exact a_sub | exact a_slo | exact a_shi | exact a_slh | exact a_lensl | exact a_lenro | exact a_lennil | exact a_lenpts | exact a_field | exact a_fielde | exact a_fieldr | exact a_idxsl | exact a_load | exact a_loada | exact a_mki | exact a_build2 | exact a_build3 | exact a_build1 | exact a_build0 | exact a_bs1 | exact a_bs2 | exact a_bs3 | exact a_bs4 | exact a_bsa | exact a_boxr) | (apply st_rif rfl; (case hq => first | exact a_lss | exact a_gtr | exact a_eql | exact a_neq | exact a_eqls0 | exact a_neqs0 | exact a_eqls | exact a_neqs | exact a_leq | exact a_geq); all_goals (intro _; try (exfalso; first | omega | contradiction))) | (apply st_rw rfl rfl; case hq => first | exact w_alloc (d := 6) 106 (by exact zPartK) rfl rfl rfl | exact w_alloc (d := 10) 110 (by first | exact zAt | exact zFault | exact zField | exact zParam | exact zLink | exact zPart | exact zReader) rfl rfl rfl | exact a_store) | refine tri_true rfl ?_ | refine tri_false rfl ?_ | refine tri_block ?_ | refine tri_skip ?_ | refine tri_ret ?_ | refine tri_exit ?_)
        exact ⟨⟨⟨106, _, rfl, rfl, by kernel_rfl⟩, trivial⟩, by (conv => lhs; whnf); rfl, congrArg (fun z => some (AObj.box [AV.int .i64 z])) (by omega)⟩
    rw [if_neg (show ¬ lv = bQP from e5)] at h
    cases h
end
end Go.Proofs.YtignjjnflcpiiabGreatDoor
