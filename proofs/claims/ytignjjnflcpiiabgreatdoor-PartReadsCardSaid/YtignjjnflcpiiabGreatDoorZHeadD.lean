import Derived.Test.YtignjjnflcpiiabGreatDoorZHeadC
import Derived.Test.YtignjjnflcpiiabGreatDoorZBare
set_option linter.unusedVariables false
set_option linter.unusedSimpArgs false
set_option maxHeartbeats 1000000
namespace Go.Proofs.YtignjjnflcpiiabGreatDoor
open Go.RowKit
attribute [local irreducible] Tri Steps Qd Wr Weak CPure CEff
set_option maxRecDepth 100000
def rdAV : HRes → AV
  | .ok l rest => .tup [.ro true 2 (fieldRows l), .str rest, .agg [.int .i64 0, .int .i64 (-1)]]
  | .bad n => .tup [.nils, .str [], .agg [.int .i64 3, .int .i64 n]]
theorem cut_none {x sep : B} (h : Lib.index x sep < 0) : Lib.cut x sep = (x, [], false) := by
  unfold Lib.cut; rw [if_neg (by omega)]
theorem cut_some {x sep : B} {k : Nat} (h : Lib.index x sep = k) : Lib.cut x sep = (x.take k, x.drop (k + sep.length), true) := by
  unfold Lib.cut; rw [if_pos (by omega), h]; rfl
theorem name_blk {x : B} (h : blk (x.getD 0 0) = true) (k : Nat) : nameB (x.take k) = false := by
  cases x with
  | nil => simp [nameB]
  | cons a l =>
    cases k with
    | zero => simp [nameB]
    | succ k =>
      have ha : blk a = true := h
      have := (blk_iff a).1 ha
      rw [List.take_succ_cons, nameB, List.all_cons, show nameC a = false by simp only [nameC, decide_eq_false_iff_not]; omega]
      rfl
set_option maxHeartbeats 4000000 in
set_option maxHeartbeats 4000000 in
set_option maxHeartbeats 4000000 in
theorem rread_c (s : B) (hs : s.length ≤ 1000000) : CPure gx 12 [.str s] (rdAV (readH s)) := by
  refine cpure_of Tryz.func12 rfl (Nat.le_of_ble_eq_true rfl) rfl (fun w hw => ?_)
  repeat' (first | refine a_f ?_ | refine st_nil ?_ | refine tri_seq ?_ | refine tri_region rfl ?_ | refine a_draw ?_ | (apply st_r rfl; case hq => first | exact a_lens | exact a_index | exact a_add | exact a_adds0 | exact a_addsc | exact a_adds | exact a_sub | exact a_slo | exact a_shi | exact a_slh | exact a_lensl | exact a_lenro | exact a_lennil | exact a_lenpts | exact a_field | exact a_fielde | exact a_fieldr | exact a_idxsl | exact a_load | exact a_loada | exact a_mki | exact a_build2 | exact a_build3 | exact a_build1 | exact a_build0 | exact a_bs1 | exact a_bs2 | exact a_bs3 | exact a_bs4 | exact a_bsa | exact a_boxr) | (apply st_rif rfl; (case hq => first | exact a_lss | exact a_gtr | exact a_eql | exact a_neq | exact a_eqls0 | exact a_neqs0 | exact a_eqls | exact a_neqs | exact a_leq | exact a_geq); all_goals (intro _; try (exfalso; first | omega | contradiction))) | (apply st_rw rfl rfl; case hq => first | exact w_alloc 101 (by first | exact zAt | exact zFault | exact zField | exact zParam | exact zLink | exact zPart | exact zReader) rfl rfl rfl | exact a_store) | refine tri_true rfl ?_ | refine tri_false rfl ?_ | refine tri_block ?_ | refine tri_skip ?_ | refine tri_ret ?_ | refine tri_exit ?_)
  refine tri_loop (HInv s) (fun x => st [(0, .str x.2.2), (2, .nils), (3, .str []), (4, .ptr 101 0), (5, .sl 100), (6, .int .i64 x.2.1)] [(100, .rows 44 2 (fieldRows x.1)), (101, .box [.int .i64 0, .int .i64 0])]) (fun x => x.2.2.length) ([], 0, s) ⟨rfl, Nat.le_refl _, by simp, fun f hf => by cases hf⟩ ?hw (fun x hx => ?_)
  case hw => exact (weak_nil 5 100 44 2 rfl (by decide) rfl rfl).trans (weak_st ⟨rfl, rfl, rfl, rfl, rfl, rfl, trivial⟩ ⟨rfl, rfl, trivial⟩)
  obtain ⟨out, n, x⟩ := x
  change Tri _ _ (st [(0, .str x), (2, .nils), (3, .str []), (4, .ptr 101 0), (5, .sl 100), (6, .int .i64 n)] [(100, .rows 44 2 (fieldRows out)), (101, .box [.int .i64 0, .int .i64 0])]) _
  have hlen := hx.len
  have hnum := hx.num
  have hval := hx.val
  have hgo := hx.go
  have hnx := fun o => HInv.next (o := o) hx
  simp only at hlen hnum hval hgo
  have hfl := fr_len out
  have hs1 := cut_sum x [13, 10]
  have I1 := index_c x [13, 10] (by omega)
  have e1 := readGo_end (out := out) (n := n) (s := x)
  have e2 := readGo_bad (out := out) (n := n) (s := x)
  by_cases hx0 : x = []
  · subst hx0
    repeat' (first | refine a_f ?_ | refine st_nil ?_ | refine tri_seq ?_ | refine tri_region rfl ?_ | refine a_draw ?_ | (apply st_r rfl; case hq => first | exact q_call (bare_c 0) (hcf := Tryz.call11) rfl rfl | exact a_lens | exact a_index | exact a_add | exact a_adds0 | exact a_addsc | exact a_adds | exact a_sub | exact a_slo | exact a_shi | exact a_slh | exact a_lensl | exact a_lenro | exact a_lennil | exact a_lenpts | exact a_field | exact a_fielde | exact a_fieldr | exact a_idxsl | exact a_load | exact a_loada | exact a_mki | exact a_build2 | exact a_build3 | exact a_build1 | exact a_build0 | exact a_bs1 | exact a_bs2 | exact a_bs3 | exact a_bs4 | exact a_bsa | exact a_boxr) | (apply st_rif rfl; (case hq => first | exact a_lss | exact a_gtr | exact a_eql | exact a_neq | exact a_eqls0 | exact a_neqs0 | exact a_eqls | exact a_neqs | exact a_leq | exact a_geq); all_goals (intro _; try (exfalso; first | omega | contradiction))) | (apply st_rw rfl rfl; case hq => first | exact a_store) | refine tri_true rfl ?_ | refine tri_false rfl ?_ | refine tri_block ?_ | refine tri_skip ?_ | refine tri_ret ?_ | refine tri_exit ?_)
    refine And.intro (And.intro ⟨101, _, rfl, rfl, by kernel_rfl⟩ trivial) ?_
    conv => lhs; whnf
    rw [← hgo, readGo_nil]
    rfl
  by_cases hk : 0 ≤ Lib.index x [13, 10]
  · obtain ⟨k, hk'⟩ := Int.eq_ofNat_of_zero_le hk
    have hkl := index_len x [13, 10] hk
    rw [hk'] at I1 hkl
    simp only [List.length_cons, List.length_nil] at hkl
    have hcut := cut_some hk'
    simp only [List.length_cons, List.length_nil] at hcut
    obtain ⟨ln, hln⟩ : ∃ l, l = x.take k := ⟨_, rfl⟩
    obtain ⟨rest, hrs⟩ : ∃ l, l = x.drop (k + 2) := ⟨_, rfl⟩
    rw [show 0 + 1 + 1 = 2 from rfl, ← hln, ← hrs] at hcut
    have hs1 := cut_sum x [13, 10]
    rw [hcut] at hnx e1 e2 hs1
    simp only at hnx e1 e2 hs1
    by_cases hl0 : ln = []
    · repeat' (first | refine a_f ?_ | refine st_nil ?_ | refine tri_seq ?_ | refine tri_region rfl ?_ | refine a_draw ?_ | (apply st_r rfl; case hq => first | exact q_call I1 (hcf := Tryz.call27) rfl rfl | exact q_slice_hiE (by conv => lhs; whnf) (by conv => lhs; whnf) rfl (by kernel_rfl) (by omega) hln.symm | exact q_slice_loE (n' := k + 2) (by conv => lhs; whnf) (by conv => lhs; whnf) (by omega) (by kernel_rfl) (by omega) hrs.symm | exact q_call (bare_c 0) (hcf := Tryz.call11) rfl rfl | exact a_lens | exact a_index | exact a_add | exact a_adds0 | exact a_addsc | exact a_adds | exact a_sub | exact a_slo | exact a_shi | exact a_slh | exact a_lensl | exact a_lenro | exact a_lennil | exact a_lenpts | exact a_field | exact a_fielde | exact a_fieldr | exact a_idxsl | exact a_load | exact a_loada | exact a_mki | exact a_build2 | exact a_build3 | exact a_build1 | exact a_build0 | exact a_bs1 | exact a_bs2 | exact a_bs3 | exact a_bs4 | exact a_bsa | exact a_boxr) | (apply st_rif rfl; (case hq => first | exact a_lss | exact a_gtr | exact a_eql | exact a_neq | exact a_eqls0 | exact a_neqs0 | exact a_eqls | exact a_neqs | exact a_leq | exact a_geq); all_goals (intro _; try (exfalso; first | omega | contradiction))) | (apply st_rw rfl rfl; case hq => first | exact a_store) | refine tri_true rfl ?_ | refine tri_false rfl ?_ | refine tri_block ?_ | refine tri_skip ?_ | refine tri_ret ?_ | refine tri_exit ?_)
      all_goals
        refine And.intro (And.intro ⟨101, _, rfl, rfl, by kernel_rfl⟩ trivial) ?_
        conv => lhs; whnf
        rw [← hgo, e1 hx0 hl0]
        rfl
    have hl1 := List.length_pos_iff.2 hl0
    replace e2 := e2 hx0 hl0
    replace hnx := fun o => hnx o hx0 hl0
    clear e1
    have hst := @readStep_eq out ln
    by_cases hb : blk (ln.getD 0 0) = true
    · rw [if_pos hb] at hst
      have B1 := blank_c (ln.getD (Int.toNat 0) 0)
      rw [show decide (ln.getD (Int.toNat 0) 0 = 32 ∨ ln.getD (Int.toNat 0) 0 = 9) = true from hb] at B1
      by_cases ho : out = []
      · rw [if_pos ho] at hst
        subst ho
        have I2 := index_c ln [58] (by omega)
        by_cases hj : 0 ≤ Lib.index ln [58]
        · obtain ⟨j, hj'⟩ := Int.eq_ofNat_of_zero_le hj
          have hjl := index_len ln [58] hj
          rw [hj'] at I2 hjl
          simp only [List.length_cons, List.length_nil] at hjl
          have C3 := rname_c (ln.take j) (by simp; omega)
          rw [name_blk hb j] at C3
          repeat' (first | refine a_f ?_ | refine st_nil ?_ | refine tri_seq ?_ | refine tri_region rfl ?_ | refine a_draw ?_ | (apply st_r rfl; case hq => first | exact q_call I1 (hcf := Tryz.call27) rfl rfl | exact q_slice_hiE (by conv => lhs; whnf) (by conv => lhs; whnf) rfl (by kernel_rfl) (by omega) hln.symm | exact q_slice_loE (n' := k + 2) (by conv => lhs; whnf) (by conv => lhs; whnf) (by omega) (by kernel_rfl) (by omega) hrs.symm | exact q_call I2 (hcf := Tryz.call27) rfl rfl | exact q_call B1 (hcf := Tryz.call28) rfl rfl | exact q_call C3 (hcf := Tryz.call29) rfl rfl | exact q_slice_hiE (by conv => lhs; whnf) (by conv => lhs; whnf) rfl (by kernel_rfl) (by omega) rfl | exact a_lens | exact a_index | exact a_add | exact a_adds0 | exact a_addsc | exact a_adds | exact a_sub | exact a_slo | exact a_shi | exact a_slh | exact a_lensl | exact a_lenro | exact a_lennil | exact a_lenpts | exact a_field | exact a_fielde | exact a_fieldr | exact a_idxsl | exact a_load | exact a_loada | exact a_mki | exact a_build2 | exact a_build3 | exact a_build1 | exact a_build0 | exact a_bs1 | exact a_bs2 | exact a_bs3 | exact a_bs4 | exact a_bsa | exact a_boxr) | (apply st_rif rfl; (case hq => first | exact a_lss | exact a_gtr | exact a_eql | exact a_neq | exact a_eqls0 | exact a_neqs0 | exact a_eqls | exact a_neqs | exact a_leq | exact a_geq); all_goals (intro _; try (exfalso; first | omega | contradiction))) | (apply st_rw rfl rfl; case hq => first | exact a_store) | refine tri_true rfl ?_ | refine tri_false rfl ?_ | refine tri_block ?_ | refine tri_skip ?_ | refine tri_ret ?_ | refine tri_exit ?_)
          all_goals
            refine And.intro (And.intro ⟨101, _, rfl, rfl, by kernel_rfl⟩ trivial) ?_
            conv => lhs; whnf
            rw [← hgo, e2 hst]
            rfl
        · repeat' (first | refine a_f ?_ | refine st_nil ?_ | refine tri_seq ?_ | refine tri_region rfl ?_ | refine a_draw ?_ | (apply st_r rfl; case hq => first | exact q_call I1 (hcf := Tryz.call27) rfl rfl | exact q_slice_hiE (by conv => lhs; whnf) (by conv => lhs; whnf) rfl (by kernel_rfl) (by omega) hln.symm | exact q_slice_loE (n' := k + 2) (by conv => lhs; whnf) (by conv => lhs; whnf) (by omega) (by kernel_rfl) (by omega) hrs.symm | exact q_call I2 (hcf := Tryz.call27) rfl rfl | exact q_call B1 (hcf := Tryz.call28) rfl rfl | exact a_lens | exact a_index | exact a_add | exact a_adds0 | exact a_addsc | exact a_adds | exact a_sub | exact a_slo | exact a_shi | exact a_slh | exact a_lensl | exact a_lenro | exact a_lennil | exact a_lenpts | exact a_field | exact a_fielde | exact a_fieldr | exact a_idxsl | exact a_load | exact a_loada | exact a_mki | exact a_build2 | exact a_build3 | exact a_build1 | exact a_build0 | exact a_bs1 | exact a_bs2 | exact a_bs3 | exact a_bs4 | exact a_bsa | exact a_boxr) | (apply st_rif rfl; (case hq => first | exact a_lss | exact a_gtr | exact a_eql | exact a_neq | exact a_eqls0 | exact a_neqs0 | exact a_eqls | exact a_neqs | exact a_leq | exact a_geq); all_goals (intro _; try (exfalso; first | omega | contradiction))) | (apply st_rw rfl rfl; case hq => first | exact a_store) | refine tri_true rfl ?_ | refine tri_false rfl ?_ | refine tri_block ?_ | refine tri_skip ?_ | refine tri_ret ?_ | refine tri_exit ?_)
          all_goals
            refine And.intro (And.intro ⟨101, _, rfl, rfl, by kernel_rfl⟩ trivial) ?_
            conv => lhs; whnf
            rw [← hgo, e2 hst]
            rfl
      · rw [if_neg ho] at hst
        have hol := List.length_pos_iff.2 ho
        have hlv := hval _ (lastF_mem ho)
        repeat' (first | refine a_f ?_ | refine st_nil ?_ | refine tri_seq ?_ | refine tri_region rfl ?_ | refine a_draw ?_ | (apply st_r rfl; case hq => first | exact q_call I1 (hcf := Tryz.call27) rfl rfl | exact q_slice_hiE (by conv => lhs; whnf) (by conv => lhs; whnf) rfl (by kernel_rfl) (by omega) hln.symm | exact q_slice_loE (n' := k + 2) (by conv => lhs; whnf) (by conv => lhs; whnf) (by omega) (by kernel_rfl) (by omega) hrs.symm | exact q_call B1 (hcf := Tryz.call28) rfl rfl | exact q_loade (by conv => lhs; whnf) (by conv => lhs; whnf; arg 1; whnf) (fr_lastI ho) (by conv => lhs; whnf) (by kernel_rfl) | exact a_lens | exact a_index | exact a_add | exact a_adds0 | exact a_addsc | exact a_adds | exact a_sub | exact a_slo | exact a_shi | exact a_slh | exact a_lensl | exact a_lenro | exact a_lennil | exact a_lenpts | exact a_field | exact a_fielde | exact a_fieldr | exact a_idxsl | exact a_load | exact a_loada | exact a_mki | exact a_build2 | exact a_build3 | exact a_build1 | exact a_build0 | exact a_bs1 | exact a_bs2 | exact a_bs3 | exact a_bs4 | exact a_bsa | exact a_boxr) | (apply st_rif rfl; (case hq => first | exact a_lss | exact a_gtr | exact a_eql | exact a_neq | exact a_eqls0 | exact a_neqs0 | exact a_eqls | exact a_neqs | exact a_leq | exact a_geq); all_goals (intro _; try (exfalso; first | omega | contradiction))) | (apply st_rw rfl rfl; case hq => first | exact w_storee (by conv => lhs; whnf) (by conv => lhs; whnf; arg 1; whnf) (fr_lastI ho) (by conv => lhs; whnf) rfl (by kernel_rfl) rfl (by first | rfl | exact Nat.le_of_ble_eq_true rfl | exact Nat.succ_pos _ | decide) (by first | rfl | exact Nat.le_of_ble_eq_true rfl | exact Nat.succ_pos _ | decide) (by conv => lhs; whnf) | exact a_store) | refine tri_true rfl ?_ | refine tri_false rfl ?_ | refine tri_block ?_ | refine tri_skip ?_ | refine tri_ret ?_ | refine tri_exit ?_)
        all_goals
          exact loop_next (out.set (out.length - 1) ((lastF out).1, (lastF out).2 ++ ln), n + 1, rest) (hnx _ hst) (weak_st ⟨rfl, rfl, rfl, rfl, rfl, rfl, trivial⟩ ⟨congrArg (fun r => some (AObj.rows 44 2 r)) (fr_setI out _ _), rfl, trivial⟩) (show List.length (rest : B) < List.length x by first | omega | (simp only [List.length_nil]; omega))
    · rw [if_neg hb] at hst
      have B1 := blank_c (ln.getD (Int.toNat 0) 0)
      rw [show decide (ln.getD (Int.toNat 0) 0 = 32 ∨ ln.getD (Int.toNat 0) 0 = 9) = false from Bool.not_eq_true _ |>.mp hb] at B1
      have I2 := index_c ln [58] (by omega)
      by_cases hj : 0 ≤ Lib.index ln [58]
      · obtain ⟨j, hj'⟩ := Int.eq_ofNat_of_zero_le hj
        have hjl := index_len ln [58] hj
        rw [hj'] at I2 hjl
        simp only [List.length_cons, List.length_nil] at hjl
        have C3 := rname_c (ln.take j) (by simp; omega)
        rw [cut_some hj'] at hst
        simp only [List.length_cons, List.length_nil] at hst
        cases hnm : nameB (ln.take j) <;> rw [hnm] at C3 hst
        all_goals
          repeat' (first | refine a_f ?_ | refine st_nil ?_ | refine tri_seq ?_ | refine tri_region rfl ?_ | refine a_draw ?_ | (apply st_r rfl; case hq => first | exact q_call I1 (hcf := Tryz.call27) rfl rfl | exact q_slice_hiE (by conv => lhs; whnf) (by conv => lhs; whnf) rfl (by kernel_rfl) (by omega) hln.symm | exact q_slice_loE (n' := k + 2) (by conv => lhs; whnf) (by conv => lhs; whnf) (by omega) (by kernel_rfl) (by omega) hrs.symm | exact q_call I2 (hcf := Tryz.call27) rfl rfl | exact q_call B1 (hcf := Tryz.call28) rfl rfl | exact q_call C3 (hcf := Tryz.call29) rfl rfl | exact q_slice_hiE (by conv => lhs; whnf) (by conv => lhs; whnf) rfl (by kernel_rfl) (by omega) rfl | exact q_slice_loE (n' := j + 1) (by conv => lhs; whnf) (by conv => lhs; whnf) (by omega) (by kernel_rfl) (by omega) rfl | exact a_lens | exact a_index | exact a_add | exact a_adds0 | exact a_addsc | exact a_adds | exact a_sub | exact a_slo | exact a_shi | exact a_slh | exact a_lensl | exact a_lenro | exact a_lennil | exact a_lenpts | exact a_field | exact a_fielde | exact a_fieldr | exact a_idxsl | exact a_load | exact a_loada | exact a_mki | exact a_build2 | exact a_build3 | exact a_build1 | exact a_build0 | exact a_bs1 | exact a_bs2 | exact a_bs3 | exact a_bs4 | exact a_bsa | exact a_boxr) | (apply st_rif rfl; (case hq => first | exact a_lss | exact a_gtr | exact a_eql | exact a_neq | exact a_eqls0 | exact a_neqs0 | exact a_eqls | exact a_neqs | exact a_leq | exact a_geq); all_goals (intro _; try (exfalso; first | omega | contradiction))) | (apply st_rw rfl rfl; case hq => first | exact w_append (by conv => lhs; whnf) (by conv => lhs; whnf; arg 1; whnf) (by conv => lhs; whnf) (by first | exact Tryz.underlying22 | exact Tryz.underlying23 | exact Tryz.underlying56 | exact Tryz.underlying74 | exact Tryz.underlying80 | exact Tryz.underlying81 | exact Tryz.underlying157 | exact Tryz.underlying177 | exact Tryz.underlying211) (by kernel_rfl) (by simp) rfl (by simp only [List.length_cons, List.length_nil]; omega) rfl rfl | exact a_store) | refine tri_true rfl ?_ | refine tri_false rfl ?_ | refine tri_block ?_ | refine tri_skip ?_ | refine tri_ret ?_ | refine tri_exit ?_)
          first
            | (refine And.intro (And.intro ⟨101, _, rfl, rfl, by kernel_rfl⟩ trivial) ?_
               conv => lhs; whnf
               rw [← hgo, e2 (hst.trans (by simp))]
               rfl)
            | exact loop_next (out ++ [(ln.take j, ln.drop (j + 1))], n + 1, rest) (hnx _ (hst.trans (if_pos (by simp)))) (weak_st ⟨rfl, rfl, rfl, rfl, rfl, rfl, trivial⟩ ⟨congrArg (fun r => some (AObj.rows 44 2 r)) (fr_app out _ _), rfl, trivial⟩) (show List.length (rest : B) < List.length x by first | omega | (simp only [List.length_nil]; omega))
      · rw [cut_none (by omega)] at hst
        repeat' (first | refine a_f ?_ | refine st_nil ?_ | refine tri_seq ?_ | refine tri_region rfl ?_ | refine a_draw ?_ | (apply st_r rfl; case hq => first | exact q_call I1 (hcf := Tryz.call27) rfl rfl | exact q_slice_hiE (by conv => lhs; whnf) (by conv => lhs; whnf) rfl (by kernel_rfl) (by omega) hln.symm | exact q_slice_loE (n' := k + 2) (by conv => lhs; whnf) (by conv => lhs; whnf) (by omega) (by kernel_rfl) (by omega) hrs.symm | exact q_call I2 (hcf := Tryz.call27) rfl rfl | exact q_call B1 (hcf := Tryz.call28) rfl rfl | exact a_lens | exact a_index | exact a_add | exact a_adds0 | exact a_addsc | exact a_adds | exact a_sub | exact a_slo | exact a_shi | exact a_slh | exact a_lensl | exact a_lenro | exact a_lennil | exact a_lenpts | exact a_field | exact a_fielde | exact a_fieldr | exact a_idxsl | exact a_load | exact a_loada | exact a_mki | exact a_build2 | exact a_build3 | exact a_build1 | exact a_build0 | exact a_bs1 | exact a_bs2 | exact a_bs3 | exact a_bs4 | exact a_bsa | exact a_boxr) | (apply st_rif rfl; (case hq => first | exact a_lss | exact a_gtr | exact a_eql | exact a_neq | exact a_eqls0 | exact a_neqs0 | exact a_eqls | exact a_neqs | exact a_leq | exact a_geq); all_goals (intro _; try (exfalso; first | omega | contradiction))) | (apply st_rw rfl rfl; case hq => first | exact a_store) | refine tri_true rfl ?_ | refine tri_false rfl ?_ | refine tri_block ?_ | refine tri_skip ?_ | refine tri_ret ?_ | refine tri_exit ?_)
        all_goals
          refine And.intro (And.intro ⟨101, _, rfl, rfl, by kernel_rfl⟩ trivial) ?_
          conv => lhs; whnf
          rw [← hgo, e2 (hst.trans (by simp))]
          rfl
  · have hcut := cut_none (x := x) (sep := [13, 10]) (by omega)
    have hs1 := cut_sum x [13, 10]
    rw [hcut] at hnx e1 e2 hs1
    simp only at hnx e1 e2 hs1
    by_cases hl0 : x = []
    · repeat' (first | refine a_f ?_ | refine st_nil ?_ | refine tri_seq ?_ | refine tri_region rfl ?_ | refine a_draw ?_ | (apply st_r rfl; case hq => first | exact q_call I1 (hcf := Tryz.call27) rfl rfl | exact q_call (bare_c 0) (hcf := Tryz.call11) rfl rfl | exact a_lens | exact a_index | exact a_add | exact a_adds0 | exact a_addsc | exact a_adds | exact a_sub | exact a_slo | exact a_shi | exact a_slh | exact a_lensl | exact a_lenro | exact a_lennil | exact a_lenpts | exact a_field | exact a_fielde | exact a_fieldr | exact a_idxsl | exact a_load | exact a_loada | exact a_mki | exact a_build2 | exact a_build3 | exact a_build1 | exact a_build0 | exact a_bs1 | exact a_bs2 | exact a_bs3 | exact a_bs4 | exact a_bsa | exact a_boxr) | (apply st_rif rfl; (case hq => first | exact a_lss | exact a_gtr | exact a_eql | exact a_neq | exact a_eqls0 | exact a_neqs0 | exact a_eqls | exact a_neqs | exact a_leq | exact a_geq); all_goals (intro _; try (exfalso; first | omega | contradiction))) | (apply st_rw rfl rfl; case hq => first | exact a_store) | refine tri_true rfl ?_ | refine tri_false rfl ?_ | refine tri_block ?_ | refine tri_skip ?_ | refine tri_ret ?_ | refine tri_exit ?_)
      all_goals
        refine And.intro (And.intro ⟨101, _, rfl, rfl, by kernel_rfl⟩ trivial) ?_
        conv => lhs; whnf
        rw [← hgo, e1 hx0 hl0]
        rfl
    have hl1 := List.length_pos_iff.2 hl0
    replace e2 := e2 hx0 hl0
    replace hnx := fun o => hnx o hx0 hl0
    clear e1
    have hst := @readStep_eq out x
    by_cases hb : blk (x.getD 0 0) = true
    · rw [if_pos hb] at hst
      have B1 := blank_c (x.getD (Int.toNat 0) 0)
      rw [show decide (x.getD (Int.toNat 0) 0 = 32 ∨ x.getD (Int.toNat 0) 0 = 9) = true from hb] at B1
      by_cases ho : out = []
      · rw [if_pos ho] at hst
        subst ho
        have I2 := index_c x [58] (by omega)
        by_cases hj : 0 ≤ Lib.index x [58]
        · obtain ⟨j, hj'⟩ := Int.eq_ofNat_of_zero_le hj
          have hjl := index_len x [58] hj
          rw [hj'] at I2 hjl
          simp only [List.length_cons, List.length_nil] at hjl
          have C3 := rname_c (x.take j) (by simp; omega)
          rw [name_blk hb j] at C3
          repeat' (first | refine a_f ?_ | refine st_nil ?_ | refine tri_seq ?_ | refine tri_region rfl ?_ | refine a_draw ?_ | (apply st_r rfl; case hq => first | exact q_call I1 (hcf := Tryz.call27) rfl rfl | exact q_call I2 (hcf := Tryz.call27) rfl rfl | exact q_call B1 (hcf := Tryz.call28) rfl rfl | exact q_call C3 (hcf := Tryz.call29) rfl rfl | exact q_slice_hiE (by conv => lhs; whnf) (by conv => lhs; whnf) rfl (by kernel_rfl) (by omega) rfl | exact a_lens | exact a_index | exact a_add | exact a_adds0 | exact a_addsc | exact a_adds | exact a_sub | exact a_slo | exact a_shi | exact a_slh | exact a_lensl | exact a_lenro | exact a_lennil | exact a_lenpts | exact a_field | exact a_fielde | exact a_fieldr | exact a_idxsl | exact a_load | exact a_loada | exact a_mki | exact a_build2 | exact a_build3 | exact a_build1 | exact a_build0 | exact a_bs1 | exact a_bs2 | exact a_bs3 | exact a_bs4 | exact a_bsa | exact a_boxr) | (apply st_rif rfl; (case hq => first | exact a_lss | exact a_gtr | exact a_eql | exact a_neq | exact a_eqls0 | exact a_neqs0 | exact a_eqls | exact a_neqs | exact a_leq | exact a_geq); all_goals (intro _; try (exfalso; first | omega | contradiction))) | (apply st_rw rfl rfl; case hq => first | exact a_store) | refine tri_true rfl ?_ | refine tri_false rfl ?_ | refine tri_block ?_ | refine tri_skip ?_ | refine tri_ret ?_ | refine tri_exit ?_)
          all_goals
            refine And.intro (And.intro ⟨101, _, rfl, rfl, by kernel_rfl⟩ trivial) ?_
            conv => lhs; whnf
            rw [← hgo, e2 hst]
            rfl
        · repeat' (first | refine a_f ?_ | refine st_nil ?_ | refine tri_seq ?_ | refine tri_region rfl ?_ | refine a_draw ?_ | (apply st_r rfl; case hq => first | exact q_call I1 (hcf := Tryz.call27) rfl rfl | exact q_call I2 (hcf := Tryz.call27) rfl rfl | exact q_call B1 (hcf := Tryz.call28) rfl rfl | exact a_lens | exact a_index | exact a_add | exact a_adds0 | exact a_addsc | exact a_adds | exact a_sub | exact a_slo | exact a_shi | exact a_slh | exact a_lensl | exact a_lenro | exact a_lennil | exact a_lenpts | exact a_field | exact a_fielde | exact a_fieldr | exact a_idxsl | exact a_load | exact a_loada | exact a_mki | exact a_build2 | exact a_build3 | exact a_build1 | exact a_build0 | exact a_bs1 | exact a_bs2 | exact a_bs3 | exact a_bs4 | exact a_bsa | exact a_boxr) | (apply st_rif rfl; (case hq => first | exact a_lss | exact a_gtr | exact a_eql | exact a_neq | exact a_eqls0 | exact a_neqs0 | exact a_eqls | exact a_neqs | exact a_leq | exact a_geq); all_goals (intro _; try (exfalso; first | omega | contradiction))) | (apply st_rw rfl rfl; case hq => first | exact a_store) | refine tri_true rfl ?_ | refine tri_false rfl ?_ | refine tri_block ?_ | refine tri_skip ?_ | refine tri_ret ?_ | refine tri_exit ?_)
          all_goals
            refine And.intro (And.intro ⟨101, _, rfl, rfl, by kernel_rfl⟩ trivial) ?_
            conv => lhs; whnf
            rw [← hgo, e2 hst]
            rfl
      · rw [if_neg ho] at hst
        have hol := List.length_pos_iff.2 ho
        have hlv := hval _ (lastF_mem ho)
        repeat' (first | refine a_f ?_ | refine st_nil ?_ | refine tri_seq ?_ | refine tri_region rfl ?_ | refine a_draw ?_ | (apply st_r rfl; case hq => first | exact q_call I1 (hcf := Tryz.call27) rfl rfl | exact q_call B1 (hcf := Tryz.call28) rfl rfl | exact q_loade (by conv => lhs; whnf) (by conv => lhs; whnf; arg 1; whnf) (fr_lastI ho) (by conv => lhs; whnf) (by kernel_rfl) | exact a_lens | exact a_index | exact a_add | exact a_adds0 | exact a_addsc | exact a_adds | exact a_sub | exact a_slo | exact a_shi | exact a_slh | exact a_lensl | exact a_lenro | exact a_lennil | exact a_lenpts | exact a_field | exact a_fielde | exact a_fieldr | exact a_idxsl | exact a_load | exact a_loada | exact a_mki | exact a_build2 | exact a_build3 | exact a_build1 | exact a_build0 | exact a_bs1 | exact a_bs2 | exact a_bs3 | exact a_bs4 | exact a_bsa | exact a_boxr) | (apply st_rif rfl; (case hq => first | exact a_lss | exact a_gtr | exact a_eql | exact a_neq | exact a_eqls0 | exact a_neqs0 | exact a_eqls | exact a_neqs | exact a_leq | exact a_geq); all_goals (intro _; try (exfalso; first | omega | contradiction))) | (apply st_rw rfl rfl; case hq => first | exact w_storee (by conv => lhs; whnf) (by conv => lhs; whnf; arg 1; whnf) (fr_lastI ho) (by conv => lhs; whnf) rfl (by kernel_rfl) rfl (by first | rfl | exact Nat.le_of_ble_eq_true rfl | exact Nat.succ_pos _ | decide) (by first | rfl | exact Nat.le_of_ble_eq_true rfl | exact Nat.succ_pos _ | decide) (by conv => lhs; whnf) | exact a_store) | refine tri_true rfl ?_ | refine tri_false rfl ?_ | refine tri_block ?_ | refine tri_skip ?_ | refine tri_ret ?_ | refine tri_exit ?_)
        all_goals
          exact loop_next (out.set (out.length - 1) ((lastF out).1, (lastF out).2 ++ x), n + 1, []) (hnx _ hst) (weak_st ⟨rfl, rfl, rfl, rfl, rfl, rfl, trivial⟩ ⟨congrArg (fun r => some (AObj.rows 44 2 r)) (fr_setI out _ _), rfl, trivial⟩) (show List.length ([] : B) < List.length x by first | omega | (simp only [List.length_nil]; omega))
    · rw [if_neg hb] at hst
      have B1 := blank_c (x.getD (Int.toNat 0) 0)
      rw [show decide (x.getD (Int.toNat 0) 0 = 32 ∨ x.getD (Int.toNat 0) 0 = 9) = false from Bool.not_eq_true _ |>.mp hb] at B1
      have I2 := index_c x [58] (by omega)
      by_cases hj : 0 ≤ Lib.index x [58]
      · obtain ⟨j, hj'⟩ := Int.eq_ofNat_of_zero_le hj
        have hjl := index_len x [58] hj
        rw [hj'] at I2 hjl
        simp only [List.length_cons, List.length_nil] at hjl
        have C3 := rname_c (x.take j) (by simp; omega)
        rw [cut_some hj'] at hst
        simp only [List.length_cons, List.length_nil] at hst
        cases hnm : nameB (x.take j) <;> rw [hnm] at C3 hst
        all_goals
          repeat' (first | refine a_f ?_ | refine st_nil ?_ | refine tri_seq ?_ | refine tri_region rfl ?_ | refine a_draw ?_ | (apply st_r rfl; case hq => first | exact q_call I1 (hcf := Tryz.call27) rfl rfl | exact q_call I2 (hcf := Tryz.call27) rfl rfl | exact q_call B1 (hcf := Tryz.call28) rfl rfl | exact q_call C3 (hcf := Tryz.call29) rfl rfl | exact q_slice_hiE (by conv => lhs; whnf) (by conv => lhs; whnf) rfl (by kernel_rfl) (by omega) rfl | exact q_slice_loE (n' := j + 1) (by conv => lhs; whnf) (by conv => lhs; whnf) (by omega) (by kernel_rfl) (by omega) rfl | exact a_lens | exact a_index | exact a_add | exact a_adds0 | exact a_addsc | exact a_adds | exact a_sub | exact a_slo | exact a_shi | exact a_slh | exact a_lensl | exact a_lenro | exact a_lennil | exact a_lenpts | exact a_field | exact a_fielde | exact a_fieldr | exact a_idxsl | exact a_load | exact a_loada | exact a_mki | exact a_build2 | exact a_build3 | exact a_build1 | exact a_build0 | exact a_bs1 | exact a_bs2 | exact a_bs3 | exact a_bs4 | exact a_bsa | exact a_boxr) | (apply st_rif rfl; (case hq => first | exact a_lss | exact a_gtr | exact a_eql | exact a_neq | exact a_eqls0 | exact a_neqs0 | exact a_eqls | exact a_neqs | exact a_leq | exact a_geq); all_goals (intro _; try (exfalso; first | omega | contradiction))) | (apply st_rw rfl rfl; case hq => first | exact w_append (by conv => lhs; whnf) (by conv => lhs; whnf; arg 1; whnf) (by conv => lhs; whnf) (by first | exact Tryz.underlying22 | exact Tryz.underlying23 | exact Tryz.underlying56 | exact Tryz.underlying74 | exact Tryz.underlying80 | exact Tryz.underlying81 | exact Tryz.underlying157 | exact Tryz.underlying177 | exact Tryz.underlying211) (by kernel_rfl) (by simp) rfl (by simp only [List.length_cons, List.length_nil]; omega) rfl rfl | exact a_store) | refine tri_true rfl ?_ | refine tri_false rfl ?_ | refine tri_block ?_ | refine tri_skip ?_ | refine tri_ret ?_ | refine tri_exit ?_)
          first
            | (refine And.intro (And.intro ⟨101, _, rfl, rfl, by kernel_rfl⟩ trivial) ?_
               conv => lhs; whnf
               rw [← hgo, e2 (hst.trans (by simp))]
               rfl)
            | exact loop_next (out ++ [(x.take j, x.drop (j + 1))], n + 1, []) (hnx _ (hst.trans (if_pos (by simp)))) (weak_st ⟨rfl, rfl, rfl, rfl, rfl, rfl, trivial⟩ ⟨congrArg (fun r => some (AObj.rows 44 2 r)) (fr_app out _ _), rfl, trivial⟩) (show List.length ([] : B) < List.length x by first | omega | (simp only [List.length_nil]; omega))
      · rw [cut_none (by omega)] at hst
        repeat' (first | refine a_f ?_ | refine st_nil ?_ | refine tri_seq ?_ | refine tri_region rfl ?_ | refine a_draw ?_ | (apply st_r rfl; case hq => first | exact q_call I1 (hcf := Tryz.call27) rfl rfl | exact q_call I2 (hcf := Tryz.call27) rfl rfl | exact q_call B1 (hcf := Tryz.call28) rfl rfl | exact a_lens | exact a_index | exact a_add | exact a_adds0 | exact a_addsc | exact a_adds | exact a_sub | exact a_slo | exact a_shi | exact a_slh | exact a_lensl | exact a_lenro | exact a_lennil | exact a_lenpts | exact a_field | exact a_fielde | exact a_fieldr | exact a_idxsl | exact a_load | exact a_loada | exact a_mki | exact a_build2 | exact a_build3 | exact a_build1 | exact a_build0 | exact a_bs1 | exact a_bs2 | exact a_bs3 | exact a_bs4 | exact a_bsa | exact a_boxr) | (apply st_rif rfl; (case hq => first | exact a_lss | exact a_gtr | exact a_eql | exact a_neq | exact a_eqls0 | exact a_neqs0 | exact a_eqls | exact a_neqs | exact a_leq | exact a_geq); all_goals (intro _; try (exfalso; first | omega | contradiction))) | (apply st_rw rfl rfl; case hq => first | exact a_store) | refine tri_true rfl ?_ | refine tri_false rfl ?_ | refine tri_block ?_ | refine tri_skip ?_ | refine tri_ret ?_ | refine tri_exit ?_)
        all_goals
          refine And.intro (And.intro ⟨101, _, rfl, rfl, by kernel_rfl⟩ trivial) ?_
          conv => lhs; whnf
          rw [← hgo, e2 (hst.trans (by simp))]
          rfl
end Go.Proofs.YtignjjnflcpiiabGreatDoor
