/- PageTurns: a round of the loop that picks the values. -/
import Derived.Test.YtignjjnflcpiiaaGreatDoorTurnsA
set_option linter.unusedVariables false
set_option linter.unusedSimpArgs false
set_option maxHeartbeats 1000000
namespace Go.Proofs.YtignjjnflcpiiaaGreatDoor
open Go.RowKit
attribute [local irreducible] Tri Steps Qd Wr Weak CPure CEff CNew CutN AllB Behind
set_option maxRecDepth 100000

set_option maxHeartbeats 8000000 in
theorem turn_r2a (s : B) (vs : List B) (L : List Lk) (i : Nat) (hil : i < L.length) (hll : L.length ≤ 1500) (hvl : vs.length ≤ 60) (h0 : 0 < vs.length) {w : World} (hw : gxs.nG ≤ w.heap.size) (Q : Exit → St → Prop) :
    Tri (cx gxs Tryz.f5.ntmps w hw) (loopN Tryz.f5 1) (S2 s vs L i) (loopQ (cx gxs Tryz.f5.ntmps w hw) (fun i => i ≤ L.length) (S2 s vs L) (fun i => L.length - i) (L.length - i) Q) := by
  have hnv := nm_len vs
  have hkl := lk_len L
  obtain ⟨⟨p, g, val⟩, hxi, hxd, hxr⟩ := lk_at2 hil
  have e1 := picks_take (vs := vs) hil
  have e2 := vals_take hxi
  simp only at hxr
  have hrow := pick_row h0 i
  have hm0 : 0 ≤ (i : Int) % ((nmRows vs).length : Int) := Int.emod_nonneg _ (by omega)
  have hm1 : (i : Int) % ((nmRows vs).length : Int) < ((nmRows vs).length : Int) := Int.emod_lt_of_pos _ (by omega)
  generalize pick vs i = pv at e1 hrow
  repeat' (first | refine a_f ?_ | refine st_nil ?_ | refine tri_seq ?_ | refine tri_region rfl ?_ | refine tri_drawX wrB 3 [0, 1, 2, 4, 5, 6, 7, 8, 9, 10] [4, 5, 6, 7, 8, 9, 10] [11, 12, 13] [0, 1, 2, 3, 4, 5, 6, 7, 8, 9, 10, 11, 12, 13] Rs20 rfl (by kernel_rfl) (by kernel_rfl) (by kernel_rfl) rfl ?_ | refine allB_c ?_ ?_ | exact allB_n | refine behind_s ?_ | refine a_draw ?_ | (apply st_r rfl; case hq => first | exact q_rem (by conv => lhs; whnf) (by conv => lhs; whnf) (by omega) (by omega) | exact q_idxro (by conv => lhs; whnf) (by conv => lhs; whnf) (by first | exact Tryz.underlying22 | exact Tryz.underlying23 | exact Tryz.underlying43 | exact Tryz.underlying44 | exact Tryz.underlying51 | exact Tryz.underlying86 | exact Tryz.underlying191 | exact Tryz.underlying209 | exact Tryz.underlying234 | exact Tryz.underlying270 | exact Tryz.underlying281 | exact Tryz.underlying344) (by kernel_rfl) (by omega) hrow | exact q_idxro (by conv => lhs; whnf) (by conv => lhs; whnf) (by first | exact Tryz.underlying22 | exact Tryz.underlying23 | exact Tryz.underlying43 | exact Tryz.underlying44 | exact Tryz.underlying51 | exact Tryz.underlying86 | exact Tryz.underlying191 | exact Tryz.underlying209 | exact Tryz.underlying234 | exact Tryz.underlying270 | exact Tryz.underlying281 | exact Tryz.underlying344) (by kernel_rfl) (by omega) hxr | exact q_loadr (by conv => lhs; whnf) (by conv => lhs; whnf) (by show scalB Tryz.prog _ = true; decide +kernel) (fun _ => rfl) | exact a_lens | exact a_index | exact a_add | exact a_adds0 | exact a_addsc | exact a_adds | exact a_sub | exact a_slo | exact a_shi | exact a_slh | exact a_lensl | exact a_lenro | exact a_lennil | exact a_lenpts | exact a_field | exact a_fielde | exact a_fieldr | exact a_idxsl | exact a_load | exact a_loada | exact a_mki | exact a_build2 | exact a_build3 | exact a_build1 | exact a_build0 | exact a_bs1 | exact a_bs2 | exact a_bs3 | exact a_bs4 | exact a_bsa | exact a_boxr) | (apply st_rif rfl; (case hq => first | exact a_lss | exact a_gtr | exact a_eql | exact a_neq | exact a_eqls0 | exact a_neqs0 | exact a_eqls | exact a_neqs | exact a_leq | exact a_geq); all_goals (intro _; try (exfalso; first | omega | contradiction))) | (apply st_rw rfl rfl; case hq => first | exact w_append (by conv => lhs; whnf) (by conv => lhs; whnf; arg 1; whnf) (by conv => lhs; whnf) (by first | exact Tryz.underlying22 | exact Tryz.underlying23 | exact Tryz.underlying43 | exact Tryz.underlying44 | exact Tryz.underlying51 | exact Tryz.underlying86 | exact Tryz.underlying191 | exact Tryz.underlying209 | exact Tryz.underlying234 | exact Tryz.underlying270 | exact Tryz.underlying281 | exact Tryz.underlying344) (by kernel_rfl) (by simp) rfl (by simp only [nm_len, List.length_take, List.length_cons, List.length_nil]; omega) rfl rfl | exact a_store) | refine tri_true rfl ?_ | refine tri_false rfl ?_ | refine tri_block ?_ | refine tri_skip ?_ | refine tri_ret ?_ | refine tri_exit ?_)
  all_goals exact nextR (i + 1) (by omega) (weak_st ⟨rfl, rfl, rfl, rfl, rfl, rfl, rfl, trivial⟩ ⟨by rw [← e1]; rfl, by rw [← e2]; rfl, trivial⟩) (show L.length - (i + 1) < L.length - i by omega)
end Go.Proofs.YtignjjnflcpiiaaGreatDoor
