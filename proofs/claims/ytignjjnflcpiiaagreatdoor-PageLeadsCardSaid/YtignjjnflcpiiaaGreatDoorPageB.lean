/- A page's words: unescape. -/
import Derived.Test.YtignjjnflcpiiaaGreatDoorPageA
set_option linter.unusedVariables false
set_option linter.unusedSimpArgs false
set_option maxHeartbeats 1000000
namespace Go.Proofs.YtignjjnflcpiiaaGreatDoor
open Go.RowKit
attribute [local irreducible] Tri Steps Qd Wr Weak CPure CEff CNew CutN AllB Behind
set_option maxRecDepth 100000

theorem isPre {p s : B} : Lib.hasPrefix s p = p.isPrefixOf s := rfl
theorem zBld : zeroL Tryz.prog BT = some [.nilp, .nils] := by kernel_rfl
/-- which word stands here -/
theorem sg_word (s : B) : (wordAt s = none ∧ sgIdx s signL 0 = -1) ∨ ∃ (i : Nat) (c : UInt8), i < 5 ∧ sgIdx s signL 0 = i ∧ (signL.getD i ([], [])).1 = [c] ∧ wordAt s = some (c, (signL.getD i ([], [])).2.length) := by
  simp only [signL, sgIdx, isPre, wordAt]
  by_cases h1 : ampW.isPrefixOf s = true
  · exact .inr ⟨0, 38, by decide, by simp only [h1, if_true], rfl, by simp only [h1, if_true]; rfl⟩
  by_cases h2 : quotW.isPrefixOf s = true
  · exact .inr ⟨1, 34, by decide, by simp only [h1, h2, if_true, if_false, Bool.false_eq_true], rfl, by simp only [h1, h2, if_true, if_false, Bool.false_eq_true]; rfl⟩
  by_cases h3 : aposW.isPrefixOf s = true
  · exact .inr ⟨2, 39, by decide, by simp only [h1, h2, h3, if_true, if_false, Bool.false_eq_true], rfl, by simp only [h1, h2, h3, if_true, if_false, Bool.false_eq_true]; rfl⟩
  by_cases h4 : ltW.isPrefixOf s = true
  · exact .inr ⟨3, 60, by decide, by simp only [h1, h2, h3, h4, if_true, if_false, Bool.false_eq_true], rfl, by simp only [h1, h2, h3, h4, if_true, if_false, Bool.false_eq_true]; rfl⟩
  by_cases h5 : gtW.isPrefixOf s = true
  · exact .inr ⟨4, 62, by decide, by simp only [h1, h2, h3, h4, h5, if_true, if_false, Bool.false_eq_true], rfl, by simp only [h1, h2, h3, h4, h5, if_true, if_false, Bool.false_eq_true]; rfl⟩
  exact .inl ⟨by simp only [h1, h2, h3, h4, h5, if_false, Bool.false_eq_true], by simp only [h1, h2, h3, h4, h5, if_false, Bool.false_eq_true]⟩
theorem signRows_len : ∀ i (h : i < signRows.length), signRows[i].length = 2 := by
  intro i h
  simp [signRows]
theorem signRows_rep : ∀ i (h : i < signRows.length) j (hj : j < signRows[i].length), FRep signRows[i][j] (signV i j) := by
  intro i h j hj
  have hj2 : j < 2 := by rw [signRows_len i h] at hj; exact hj
  have hi : i < signL.length := by simpa [signRows] using h
  have e : signL.getD i ([], []) = signL[i] := by rw [List.getD_eq_getElem?_getD, List.getElem?_eq_getElem hi]; rfl
  match j, hj2 with
  | 0, _ =>
    simp only [signRows, List.getElem_map, List.getElem_cons_zero, signV, e]
    exact .str _
  | 1, _ =>
    simp only [signRows, List.getElem_map, List.getElem_cons_succ, List.getElem_cons_zero, signV, e]
    exact .str _
set_option maxHeartbeats 4000000 in
theorem unescape_c (s : B) (hs : s.length ≤ 100000000) : CPure gxs 185 [.str s] (.str (unescB s)) := by
  refine cpure_of Tryz.func185 rfl (Nat.le_of_ble_eq_true rfl) rfl (fun w hw => ?_)
  repeat' (first | refine a_f ?_ | refine st_nil ?_ | refine tri_seq ?_ | refine tri_region rfl ?_ | refine a_draw ?_ | (apply st_r rfl; case hq => first | exact a_lens | exact a_index | exact a_add | exact a_adds0 | exact a_addsc | exact a_adds | exact a_sub | exact a_slo | exact a_shi | exact a_slh | exact a_lensl | exact a_lenro | exact a_lennil | exact a_lenpts | exact a_field | exact a_fielde | exact a_fieldr | exact a_idxsl | exact a_load | exact a_loada | exact a_mki | exact a_build2 | exact a_build3 | exact a_build1 | exact a_build0 | exact a_bs1 | exact a_bs2 | exact a_bs3 | exact a_bs4 | exact a_bsa | exact a_boxr) | (apply st_rif rfl; (case hq => first | exact a_lss | exact a_gtr | exact a_eql | exact a_neq | exact a_eqls0 | exact a_neqs0 | exact a_eqls | exact a_neqs | exact a_leq | exact a_geq); all_goals (intro _; try (exfalso; first | omega | contradiction))) | (apply st_rw rfl rfl; case hq => first | exact w_box 101 (by conv => lhs; whnf) rfl (by conv => lhs; whnf) rfl rfl rfl | exact w_allocb 100 ByT zBld rfl rfl | exact a_store) | refine tri_true rfl ?_ | refine tri_false rfl ?_ | refine tri_block ?_ | refine tri_skip ?_ | refine tri_ret ?_ | refine tri_exit ?_)
  refine tri_loop (fun (x : B × B) => x.1 ++ unescB x.2 = unescB s ∧ x.1.length + x.2.length ≤ s.length) (fun x => st [(1, .ptr 101 0), (2, .str []), (3, .ptr 100 0)] [(100, .bld ByT BT x.1), (101, .box [.str x.2])]) (fun x => x.2.length) ([], s) ⟨rfl, by simp⟩ ?hw (fun x hx => ?_)
  case hw => exact weak_st ⟨rfl, rfl, rfl, trivial⟩ ⟨rfl, rfl, trivial⟩
  obtain ⟨out, r⟩ := x
  change Tri _ _ (st [(1, .ptr 101 0), (2, .str []), (3, .ptr 100 0)] [(100, .bld ByT BT out), (101, .box [.str r])]) _
  obtain ⟨hu, hl⟩ := hx
  simp only at hu hl
  cases r with
  | nil =>
    rw [unescB_nil, List.append_nil] at hu
    have S1 := (string_e out).s
    repeat' (first | refine a_f ?_ | refine st_nil ?_ | refine tri_seq ?_ | refine tri_region rfl ?_ | refine a_draw ?_ | (apply st_r rfl; case hq => first | exact a_lens | exact a_index | exact a_add | exact a_adds0 | exact a_addsc | exact a_adds | exact a_sub | exact a_slo | exact a_shi | exact a_slh | exact a_lensl | exact a_lenro | exact a_lennil | exact a_lenpts | exact a_field | exact a_fielde | exact a_fieldr | exact a_idxsl | exact a_load | exact a_loada | exact a_mki | exact a_build2 | exact a_build3 | exact a_build1 | exact a_build0 | exact a_bs1 | exact a_bs2 | exact a_bs3 | exact a_bs4 | exact a_bsa | exact a_boxr) | (apply st_rif rfl; (case hq => first | exact a_lss | exact a_gtr | exact a_eql | exact a_neq | exact a_eqls0 | exact a_neqs0 | exact a_eqls | exact a_neqs | exact a_leq | exact a_geq); all_goals (intro _; try (exfalso; first | omega | contradiction))) | (apply st_rw rfl rfl; case hq => first | exact w_call (id := 100) S1 (hcf := Tryz.call45) (by conv => lhs; whnf; arg 1; whnf) rfl rfl rfl rfl rfl | exact a_store) | refine tri_true rfl ?_ | refine tri_false rfl ?_ | refine tri_block ?_ | refine tri_skip ?_ | refine tri_ret ?_ | refine tri_exit ?_)
    refine And.intro trivial ?_
    conv => lhs; whnf
    rw [hu]
  | cons c t =>
    have G1 := (gindex_c (c :: t)).s
    have hne : (c :: t : B) ≠ [] := by simp
    simp only [List.length_cons] at hl
    rcases sg_word (c :: t) with ⟨h1, h2⟩ | ⟨i, d, hi5, h2, hd, h1⟩
    · rw [h2] at G1
      rw [unescB_one h1] at hu
      have W1 := (writeByte_e out c (by omega)).s
      have g0 : (c :: t)[(0 : Int).toNat]? = some c := rfl
      repeat' (first | refine a_f ?_ | refine st_nil ?_ | refine tri_seq ?_ | refine tri_region rfl ?_ | refine a_draw ?_ | (apply st_r rfl; case hq => first | exact q_slglob (rows := signRows) (cs := signV) rfl Tryz.underlying110 (by kernel_rfl) rfl (by decide) (by decide) (show 0 < 10 by decide) (fun w h i hi j hj => h.2 i hi j hj) signRows_len signRows_rep | exact q_mkfunc (by rfl) | exact q_call G1 (hcf := Tryz.call206) rfl rfl | exact q_index (c := c) (by conv => lhs; whnf) (by conv => lhs; whnf) (by kernel_rfl) (by decide) g0 | exact q_slice_loE (n' := 1) (l := t) (by conv => lhs; whnf) (by conv => lhs; whnf) (by rfl) (by kernel_rfl) (by simp) rfl | exact a_lens | exact a_index | exact a_add | exact a_adds0 | exact a_addsc | exact a_adds | exact a_sub | exact a_slo | exact a_shi | exact a_slh | exact a_lensl | exact a_lenro | exact a_lennil | exact a_lenpts | exact a_field | exact a_fielde | exact a_fieldr | exact a_idxsl | exact a_load | exact a_loada | exact a_mki | exact a_build2 | exact a_build3 | exact a_build1 | exact a_build0 | exact a_bs1 | exact a_bs2 | exact a_bs3 | exact a_bs4 | exact a_bsa | exact a_boxr) | (apply st_rif rfl; (case hq => first | exact a_lss | exact a_gtr | exact a_eql | exact a_neq | exact a_eqls0 | exact a_neqs0 | exact a_eqls | exact a_neqs | exact a_leq | exact a_geq); all_goals (intro _; try (exfalso; first | omega | contradiction))) | (apply st_rw rfl rfl; case hq => first | exact w_call (id := 100) W1 (hcf := Tryz.call92) (by conv => lhs; whnf; arg 1; whnf) rfl rfl rfl rfl rfl | exact a_store) | refine tri_true rfl ?_ | refine tri_false rfl ?_ | refine tri_block ?_ | refine tri_skip ?_ | refine tri_ret ?_ | refine tri_exit ?_)
      exact Exists.intro (out ++ [c], t) (And.intro ⟨by simp only; rw [← hu]; simp, by simp only [List.length_append, List.length_singleton]; omega⟩ (And.intro (weak_st ⟨rfl, rfl, rfl, trivial⟩ ⟨rfl, rfl, trivial⟩) (show t.length < (c :: t).length by simp)))
    · rw [h2] at G1
      rw [unescB_word h1] at hu
      have hp := wordAt_pos h1
      simp only [List.length_cons] at hp
      generalize hW : (signL.getD i ([], [])).2 = W at h1 hu hp
      have W1 := (writeString_e out [d] (by simp; omega)).s
      have hlen : (out ++ [d]).length + ((c :: t).drop W.length).length ≤ s.length := by
        obtain ⟨q1, q2⟩ := hp
        simp only [List.length_append, List.length_drop, List.length_cons, List.length_nil]
        omega
      have c0 : ∀ w, gxs.G w → w.cell? ⟨0, 0 + (i : Int).toNat * 2 + (0 : Int).toNat * 1, none⟩ = some (.string ⟨([d] : B).toArray⟩) := fun w h => by
        have := h.2 i hi5 0 (by decide)
        simp only [signV, hd] at this
        simpa using this
      have c1 : ∀ w, gxs.G w → w.cell? ⟨0, 0 + (i : Int).toNat * 2 + (1 : Int).toNat * 1, none⟩ = some (.string ⟨W.toArray⟩) := fun w h => by
        have := h.2 i hi5 1 (by decide)
        simp only [signV, hW] at this
        simpa using this
      repeat' (first | refine a_f ?_ | refine st_nil ?_ | refine tri_seq ?_ | refine tri_region rfl ?_ | refine a_draw ?_ | (apply st_r rfl; case hq => first | exact q_slglob (rows := signRows) (cs := signV) rfl Tryz.underlying110 (by kernel_rfl) rfl (by decide) (by decide) (show 0 < 10 by decide) (fun w h i hi j hj => h.2 i hi j hj) signRows_len signRows_rep | exact q_mkfunc (by rfl) | exact q_call G1 (hcf := Tryz.call206) rfl rfl | exact q_idxg (sz := 2) (by conv => lhs; whnf) (by conv => lhs; whnf) Tryz.underlying110 (by kernel_rfl) (by omega) (by omega) | exact q_idxg (sz := 1) (by conv => lhs; whnf) (by conv => lhs; whnf) Tryz.underlying109 (by kernel_rfl) (by omega) (by omega) | exact q_loadg (by rfl) c0 (fun _ _ _ _ => .str _ _) (by show scalB Tryz.prog _ = true; decide +kernel) | exact q_loadg (by rfl) c1 (fun _ _ _ _ => .str _ _) (by show scalB Tryz.prog _ = true; decide +kernel) | exact q_slice_loE (n' := W.length) (l := (c :: t).drop W.length) (by conv => lhs; whnf) (by conv => lhs; whnf) (by rfl) (by kernel_rfl) (by simp only [List.length_cons]; omega) rfl | exact a_lens | exact a_index | exact a_add | exact a_adds0 | exact a_addsc | exact a_adds | exact a_sub | exact a_slo | exact a_shi | exact a_slh | exact a_lensl | exact a_lenro | exact a_lennil | exact a_lenpts | exact a_field | exact a_fielde | exact a_fieldr | exact a_idxsl | exact a_load | exact a_loada | exact a_mki | exact a_build2 | exact a_build3 | exact a_build1 | exact a_build0 | exact a_bs1 | exact a_bs2 | exact a_bs3 | exact a_bs4 | exact a_bsa | exact a_boxr) | (apply st_rif rfl; (case hq => first | exact a_lss | exact a_gtr | exact a_eql | exact a_neq | exact a_eqls0 | exact a_neqs0 | exact a_eqls | exact a_neqs | exact a_leq | exact a_geq); all_goals (intro _; try (exfalso; first | omega | contradiction))) | (apply st_rw rfl rfl; case hq => first | exact w_call (id := 100) W1 (hcf := Tryz.call44) (by conv => lhs; whnf; arg 1; whnf) rfl rfl rfl rfl rfl | exact a_store) | refine tri_true rfl ?_ | refine tri_false rfl ?_ | refine tri_block ?_ | refine tri_skip ?_ | refine tri_ret ?_ | refine tri_exit ?_)
      exact Exists.intro (out ++ [d], (c :: t).drop W.length) (And.intro ⟨by simp only; rw [← hu]; simp, hlen⟩ (And.intro (weak_st ⟨rfl, rfl, rfl, trivial⟩ ⟨rfl, rfl, trivial⟩) (show ((c :: t).drop W.length).length < (c :: t).length by rw [List.length_drop]; simp only [List.length_cons]; omega)))
end Go.Proofs.YtignjjnflcpiiaaGreatDoor
