/- KindBack: the law is true wherever it is called. -/
import Derived.Test.YtignjjnflcpiiaaGreatDoorKindWritesW
set_option linter.unusedVariables false
set_option linter.unusedSimpArgs false
set_option maxHeartbeats 1000000
namespace Go.Proofs.YtignjjnflcpiiaaGreatDoor
open Go.RowKit
attribute [local irreducible] Tri Steps Qd Wr Weak CPure CEff CNew CutN AllB Behind
set_option maxRecDepth 100000

/-- Text/HTML; a="b c"; D=e -/
def toldS : B := [84, 101, 120, 116, 47, 72, 84, 77, 76, 59, 32, 97, 61, 34, 98, 32, 99, 34, 59, 32, 68, 61, 101]
theorem told_f : readK tokC blk lowC toldS = some ([116, 101, 120, 116, 47, 104, 116, 109, 108], [([97], [98, 32, 99]), ([100], [101])]) := by
  have h1 : mainOf lowC toldS = [116, 101, 120, 116, 47, 104, 116, 109, 108] := by decide +kernel
  have h2 : restOf toldS = [59, 32, 97, 61, 34, 98, 32, 99, 34, 59, 32, 68, 61, 101] := by decide +kernel
  have h3 : mainOk tokC [116, 101, 120, 116, 47, 104, 116, 109, 108] = true := by decide +kernel
  have p1 : parR tokC blk [32, 97, 61, 34, 98, 32, 99, 34, 59, 32, 68, 61, 101] = some (([97], [98, 32, 99]), [59, 32, 68, 61, 101]) := by decide +kernel
  have p2 : parR tokC blk [32, 68, 61, 101] = some (([68], [101]), []) := by decide +kernel
  unfold readK
  rw [h1, h2, h3, if_pos rfl, parsGo_some tokC blk lowC p1, parsGo_some tokC blk lowC p2, parsGo_nil]
  decide +kernel
set_option maxHeartbeats 2000000 in
theorem told_c : CPure gx 25 [] (.bool true) := by
  refine cpure_of Tryz.func25 rfl (Nat.le_of_ble_eq_true rfl) rfl (fun w hw => ?_)
  have R1 := kread_c' toldS (by decide)
  rw [told_f] at R1
  have R1' : CPure gx 26 [.str toldS] (.tup [.str [116, 101, 120, 116, 47, 104, 116, 109, 108], .ro true 2 [[.str [97], .str [98, 32, 99]], [.str [100], .str [101]]], .nili]) := R1
  repeat' (first | refine a_f ?_ | refine st_nil ?_ | refine tri_seq ?_ | refine tri_region rfl ?_ | refine a_draw ?_ | (apply st_r rfl; case hq => first | exact q_call R1' (hcf := Tryz.call26) rfl rfl | exact q_eqnil (by conv => lhs; whnf) Tryz.underlying32 | exact q_idxro (by conv => lhs; whnf) (by conv => lhs; whnf) (by first | exact Tryz.underlying22 | exact Tryz.underlying23 | exact Tryz.underlying43 | exact Tryz.underlying44 | exact Tryz.underlying51 | exact Tryz.underlying86 | exact Tryz.underlying191 | exact Tryz.underlying209 | exact Tryz.underlying234 | exact Tryz.underlying270 | exact Tryz.underlying281 | exact Tryz.underlying344) (by kernel_rfl) (by omega) rfl | exact q_loadr (by conv => lhs; whnf) (by conv => lhs; whnf) (by show scalB Tryz.prog _ = true; decide +kernel) (fun _ => rfl) | exact a_lens | exact a_index | exact a_add | exact a_adds0 | exact a_addsc | exact a_adds | exact a_sub | exact a_slo | exact a_shi | exact a_slh | exact a_lensl | exact a_lenro | exact a_lennil | exact a_lenpts | exact a_field | exact a_fielde | exact a_fieldr | exact a_idxsl | exact a_load | exact a_loada | exact a_mki | exact a_build2 | exact a_build3 | exact a_build1 | exact a_build0 | exact a_bs1 | exact a_bs2 | exact a_bs3 | exact a_bs4 | exact a_bsa | exact a_boxr) | (apply st_rif rfl; (case hq => first | exact a_lss | exact a_gtr | exact a_eql | exact a_neq | exact a_eqls0 | exact a_neqs0 | exact a_eqls | exact a_neqs | exact a_leq | exact a_geq); all_goals (intro _; try (exfalso; first | omega | contradiction))) | (apply st_rw rfl rfl; case hq => first | exact a_store) | refine tri_true rfl ?_ | refine tri_false rfl ?_ | refine tri_block ?_ | refine tri_skip ?_ | refine tri_ret ?_ | refine tri_exit ?_)
  all_goals first
    | (refine And.intro trivial ?_
       conv => lhs; whnf)
    | (exfalso; exact ‹¬ _› rfl)
    | (exfalso; simp_all; done)
theorem flat_len {K : Nat} : ∀ l : Fs, (∀ p ∈ l, p.1.length + 2 * p.2.length + 5 ≤ K) → ((l.map (parW tokC)).flatten).length ≤ l.length * K
  | [], _ => by simp
  | p :: r, h => by
    have ih := flat_len r (fun q hq => h q (List.mem_cons_of_mem _ hq))
    have h1 := h p List.mem_cons_self
    have h2 := parW_len p
    simp only [List.map_cons, List.flatten_cons, List.length_append, List.length_cons, Nat.add_mul, Nat.one_mul]
    omega
theorem writeK_inv {m t : B} {l : Fs} (h : writeK tokC lowC m l = .ok t) : t = m ++ (l.map (parW tokC)).flatten := by
  unfold writeK at h
  split at h
  · exact (writeKGo_inv l 0 m t h).2
  · cases h
theorem rowsT (l : Fs) : Up (.ro true 2 (fieldRows l)) (.ro true 2 (fieldRows l)) := Up.refl _
set_option maxHeartbeats 8000000 in
theorem kindBack_c (m : B) (l : Fs) (s : B) (hm : m.length ≤ 140737488351232) (hl : l.length ≤ 140737488351232) (h1 : ∀ f ∈ l, f.1.length ≤ 140737488351232 ∧ f.2.length ≤ 140737488351232) (hs : s.length ≤ 140737488351232) : CPure gx 7 [.str m, .ro false 2 (fieldRows l), .str s] (.bool true) := by
  refine cpure_of Tryz.func7 rfl (Nat.le_of_ble_eq_true rfl) rfl (fun w hw => ?_)
  have hfl := fr_len l
  by_cases h5 : 100 < m.length
  · repeat' (first | refine a_f ?_ | refine st_nil ?_ | refine tri_seq ?_ | refine tri_region rfl ?_ | refine a_draw ?_ | (apply st_r rfl; case hq => first | exact a_lens | exact a_index | exact a_add | exact a_adds0 | exact a_addsc | exact a_adds | exact a_sub | exact a_slo | exact a_shi | exact a_slh | exact a_lensl | exact a_lenro | exact a_lennil | exact a_lenpts | exact a_field | exact a_fielde | exact a_fieldr | exact a_idxsl | exact a_load | exact a_loada | exact a_mki | exact a_build2 | exact a_build3 | exact a_build1 | exact a_build0 | exact a_bs1 | exact a_bs2 | exact a_bs3 | exact a_bs4 | exact a_bsa | exact a_boxr) | (apply st_rif rfl; (case hq => first | exact a_lss | exact a_gtr | exact a_eql | exact a_neq | exact a_eqls0 | exact a_neqs0 | exact a_eqls | exact a_neqs | exact a_leq | exact a_geq); all_goals (intro _; try (exfalso; first | omega | contradiction))) | (apply st_rw rfl rfl; case hq => first | exact a_store) | refine tri_true rfl ?_ | refine tri_false rfl ?_ | refine tri_block ?_ | refine tri_skip ?_ | refine tri_ret ?_ | refine tri_exit ?_)
    refine And.intro trivial ?_
    conv => lhs; whnf
  by_cases h20 : 20 < l.length
  · repeat' (first | refine a_f ?_ | refine st_nil ?_ | refine tri_seq ?_ | refine tri_region rfl ?_ | refine a_draw ?_ | (apply st_r rfl; case hq => first | exact a_lens | exact a_index | exact a_add | exact a_adds0 | exact a_addsc | exact a_adds | exact a_sub | exact a_slo | exact a_shi | exact a_slh | exact a_lensl | exact a_lenro | exact a_lennil | exact a_lenpts | exact a_field | exact a_fielde | exact a_fieldr | exact a_idxsl | exact a_load | exact a_loada | exact a_mki | exact a_build2 | exact a_build3 | exact a_build1 | exact a_build0 | exact a_bs1 | exact a_bs2 | exact a_bs3 | exact a_bs4 | exact a_bsa | exact a_boxr) | (apply st_rif rfl; (case hq => first | exact a_lss | exact a_gtr | exact a_eql | exact a_neq | exact a_eqls0 | exact a_neqs0 | exact a_eqls | exact a_neqs | exact a_leq | exact a_geq); all_goals (intro _; try (exfalso; first | omega | contradiction))) | (apply st_rw rfl rfl; case hq => first | exact a_store) | refine tri_true rfl ?_ | refine tri_false rfl ?_ | refine tri_block ?_ | refine tri_skip ?_ | refine tri_ret ?_ | refine tri_exit ?_)
    refine And.intro trivial ?_
    conv => lhs; whnf
  by_cases h50 : 500 < s.length
  · repeat' (first | refine a_f ?_ | refine st_nil ?_ | refine tri_seq ?_ | refine tri_region rfl ?_ | refine a_draw ?_ | (apply st_r rfl; case hq => first | exact a_lens | exact a_index | exact a_add | exact a_adds0 | exact a_addsc | exact a_adds | exact a_sub | exact a_slo | exact a_shi | exact a_slh | exact a_lensl | exact a_lenro | exact a_lennil | exact a_lenpts | exact a_field | exact a_fielde | exact a_fieldr | exact a_idxsl | exact a_load | exact a_loada | exact a_mki | exact a_build2 | exact a_build3 | exact a_build1 | exact a_build0 | exact a_bs1 | exact a_bs2 | exact a_bs3 | exact a_bs4 | exact a_bsa | exact a_boxr) | (apply st_rif rfl; (case hq => first | exact a_lss | exact a_gtr | exact a_eql | exact a_neq | exact a_eqls0 | exact a_neqs0 | exact a_eqls | exact a_neqs | exact a_leq | exact a_geq); all_goals (intro _; try (exfalso; first | omega | contradiction))) | (apply st_rw rfl rfl; case hq => first | exact a_store) | refine tri_true rfl ?_ | refine tri_false rfl ?_ | refine tri_block ?_ | refine tri_skip ?_ | refine tri_ret ?_ | refine tri_exit ?_)
    refine And.intro trivial ?_
    conv => lhs; whnf
  repeat' (first | refine a_f ?_ | refine st_nil ?_ | refine tri_seq ?_ | refine tri_region rfl ?_ | refine a_draw ?_ | (apply st_r rfl; case hq => first | exact a_lens | exact a_index | exact a_add | exact a_adds0 | exact a_addsc | exact a_adds | exact a_sub | exact a_slo | exact a_shi | exact a_slh | exact a_lensl | exact a_lenro | exact a_lennil | exact a_lenpts | exact a_field | exact a_fielde | exact a_fieldr | exact a_idxsl | exact a_load | exact a_loada | exact a_mki | exact a_build2 | exact a_build3 | exact a_build1 | exact a_build0 | exact a_bs1 | exact a_bs2 | exact a_bs3 | exact a_bs4 | exact a_bsa | exact a_boxr) | (apply st_rif rfl; (case hq => first | exact a_lss | exact a_gtr | exact a_eql | exact a_neq | exact a_eqls0 | exact a_neqs0 | exact a_eqls | exact a_neqs | exact a_leq | exact a_geq); all_goals (intro _; try (exfalso; first | omega | contradiction))) | (apply st_rw rfl rfl; case hq => first | exact a_store) | refine tri_true rfl ?_ | refine tri_false rfl ?_ | refine tri_block ?_ | refine tri_skip ?_ | refine tri_ret ?_ | refine tri_exit ?_)
  refine tri_loop_to (fun (i : Nat) => i ≤ l.length ∧ l.all fitP = (l.drop i).all fitP) (fun i => st [(0, .str m), (1, .ro false 2 (fieldRows l)), (2, .str s), (6, .bool false), (7, .int .i64 i)] []) (fun i => l.length - i)
    (fun (_ : Unit) => l.all fitP = true) (fun _ => st [(0, .str m), (1, .ro false 2 (fieldRows l)), (2, .str s), (6, .bool false)] []) 0 ⟨Nat.zero_le _, rfl⟩ ?hw weak_tri (fun i hi => ?_) (fun _ hz => ?_)
  case hw => exact weak_st ⟨rfl, rfl, rfl, rfl, rfl, trivial⟩ trivial
  · obtain ⟨hi, hf⟩ := hi
    by_cases hil : i < l.length
    · obtain ⟨f, hf1, hfm, hfd, hfr⟩ := fr_at hil
      have hb := h1 f hfm
      have hf' := fit_drop hf hfd
      by_cases h400 : 200 < f.1.length + f.2.length
      all_goals
        repeat' (first | refine a_f ?_ | refine st_nil ?_ | refine tri_seq ?_ | refine tri_region rfl ?_ | refine a_draw ?_ | (apply st_r rfl; case hq => first | exact q_idxro (by conv => lhs; whnf) (by conv => lhs; whnf) (by first | exact Tryz.underlying22 | exact Tryz.underlying23 | exact Tryz.underlying43 | exact Tryz.underlying44 | exact Tryz.underlying51 | exact Tryz.underlying86 | exact Tryz.underlying191 | exact Tryz.underlying209 | exact Tryz.underlying234 | exact Tryz.underlying270 | exact Tryz.underlying281 | exact Tryz.underlying344) (by kernel_rfl) (by omega) hfr | exact q_loadr (by conv => lhs; whnf) (by conv => lhs; whnf) (by show scalB Tryz.prog _ = true; decide +kernel) (fun _ => rfl) | exact a_lens | exact a_index | exact a_add | exact a_adds0 | exact a_addsc | exact a_adds | exact a_sub | exact a_slo | exact a_shi | exact a_slh | exact a_lensl | exact a_lenro | exact a_lennil | exact a_lenpts | exact a_field | exact a_fielde | exact a_fieldr | exact a_idxsl | exact a_load | exact a_loada | exact a_mki | exact a_build2 | exact a_build3 | exact a_build1 | exact a_build0 | exact a_bs1 | exact a_bs2 | exact a_bs3 | exact a_bs4 | exact a_bsa | exact a_boxr) | (apply st_rif rfl; (case hq => first | exact a_lss | exact a_gtr | exact a_eql | exact a_neq | exact a_eqls0 | exact a_neqs0 | exact a_eqls | exact a_neqs | exact a_leq | exact a_geq); all_goals (intro _; try (exfalso; first | omega | contradiction))) | (apply st_rw rfl rfl; case hq => first | exact a_store) | refine tri_true rfl ?_ | refine tri_false rfl ?_ | refine tri_block ?_ | refine tri_skip ?_ | refine tri_ret ?_ | refine tri_exit ?_)
      · refine And.intro trivial ?_
        conv => lhs; whnf
      · exact nextR (i + 1) ⟨by omega, by rw [hf']; simp [fitP, h400]⟩ (weak_st ⟨rfl, rfl, rfl, rfl, rfl, trivial⟩ trivial) (show l.length - (i + 1) < l.length - i by omega)
    · repeat' (first | refine a_f ?_ | refine st_nil ?_ | refine tri_seq ?_ | refine tri_region rfl ?_ | refine a_draw ?_ | (apply st_r rfl; case hq => first | exact a_lens | exact a_index | exact a_add | exact a_adds0 | exact a_addsc | exact a_adds | exact a_sub | exact a_slo | exact a_shi | exact a_slh | exact a_lensl | exact a_lenro | exact a_lennil | exact a_lenpts | exact a_field | exact a_fielde | exact a_fieldr | exact a_idxsl | exact a_load | exact a_loada | exact a_mki | exact a_build2 | exact a_build3 | exact a_build1 | exact a_build0 | exact a_bs1 | exact a_bs2 | exact a_bs3 | exact a_bs4 | exact a_bsa | exact a_boxr) | (apply st_rif rfl; (case hq => first | exact a_lss | exact a_gtr | exact a_eql | exact a_neq | exact a_eqls0 | exact a_neqs0 | exact a_eqls | exact a_neqs | exact a_leq | exact a_geq); all_goals (intro _; try (exfalso; first | omega | contradiction))) | (apply st_rw rfl rfl; case hq => first | exact a_store) | refine tri_true rfl ?_ | refine tri_false rfl ?_ | refine tri_block ?_ | refine tri_skip ?_ | refine tri_ret ?_ | refine tri_exit ?_)
      exact outR () (by rw [hf, List.drop_eq_nil_of_le (by omega)]; rfl) (weak_st ⟨rfl, rfl, rfl, rfl, trivial⟩ trivial)
  have hfit : ∀ f ∈ l, f.1.length + f.2.length ≤ 200 := fun f hf => by
    have := List.all_eq_true.1 hz f hf
    simp only [fitP, decide_eq_true_eq] at this
    omega
  have hsm : Small l := ⟨by omega, fun f hf => by have := hfit f hf; omega⟩
  have T1 := told_c
  have W1 := kwrite_c m l (by omega) hsm
  rw [kwAV_eq] at W1
  refine tri_cutN (fun (_ : Unit) => True) (fun _ => st [(2, .str s), (6, .bool false)] []) 2 ?_ (fun _ _ => ?_)
  · cases hW : writeK tokC lowC m l with
    | bad n =>
      rw [hW] at W1
      by_cases hn : n < 0
      · simp only [kwErr, kwS, hn, if_true] at W1
        repeat' (first | refine a_f ?_ | refine st_nil ?_ | refine tri_seq ?_ | refine tri_region rfl ?_ | refine cut_s ?_ | refine a_draw ?_ | (apply st_r rfl; case hq => first | exact q_call T1 (hcf := Tryz.call25) rfl rfl | exact q_call W1 (hcf := Tryz.call23) rfl rfl | exact q_eqif (by conv => lhs; whnf) Tryz.underlying32 | exact a_lens | exact a_index | exact a_add | exact a_adds0 | exact a_addsc | exact a_adds | exact a_sub | exact a_slo | exact a_shi | exact a_slh | exact a_lensl | exact a_lenro | exact a_lennil | exact a_lenpts | exact a_field | exact a_fielde | exact a_fieldr | exact a_idxsl | exact a_load | exact a_loada | exact a_mki | exact a_build2 | exact a_build3 | exact a_build1 | exact a_build0 | exact a_bs1 | exact a_bs2 | exact a_bs3 | exact a_bs4 | exact a_bsa | exact a_boxr) | (apply st_rif rfl; (case hq => first | exact a_lss | exact a_gtr | exact a_eql | exact a_neq | exact a_eqls0 | exact a_neqs0 | exact a_eqls | exact a_neqs | exact a_leq | exact a_geq); all_goals (intro _; try (exfalso; first | omega | contradiction))) | (apply st_rw rfl rfl; case hq => first | exact a_store) | refine tri_true rfl ?_ | refine tri_false rfl ?_ | refine tri_block ?_ | refine tri_skip ?_ | refine tri_ret ?_ | refine tri_exit ?_)
        exact cut_z () trivial (weak_st ⟨rfl, rfl, trivial⟩ trivial)
      · simp only [kwErr, kwS, hn, if_false] at W1
        repeat' (first | refine a_f ?_ | refine st_nil ?_ | refine tri_seq ?_ | refine tri_region rfl ?_ | refine cut_s ?_ | refine a_draw ?_ | (apply st_r rfl; case hq => first | exact q_call T1 (hcf := Tryz.call25) rfl rfl | exact q_call W1 (hcf := Tryz.call23) rfl rfl | exact q_eqif (by conv => lhs; whnf) Tryz.underlying32 | exact a_lens | exact a_index | exact a_add | exact a_adds0 | exact a_addsc | exact a_adds | exact a_sub | exact a_slo | exact a_shi | exact a_slh | exact a_lensl | exact a_lenro | exact a_lennil | exact a_lenpts | exact a_field | exact a_fielde | exact a_fieldr | exact a_idxsl | exact a_load | exact a_loada | exact a_mki | exact a_build2 | exact a_build3 | exact a_build1 | exact a_build0 | exact a_bs1 | exact a_bs2 | exact a_bs3 | exact a_bs4 | exact a_bsa | exact a_boxr) | (apply st_rif rfl; (case hq => first | exact a_lss | exact a_gtr | exact a_eql | exact a_neq | exact a_eqls0 | exact a_neqs0 | exact a_eqls | exact a_neqs | exact a_leq | exact a_geq); all_goals (intro _; try (exfalso; first | omega | contradiction))) | (apply st_rw rfl rfl; case hq => first | exact a_store) | refine tri_true rfl ?_ | refine tri_false rfl ?_ | refine tri_block ?_ | refine tri_skip ?_ | refine tri_ret ?_ | refine tri_exit ?_)
        exact cut_z () trivial (weak_st ⟨rfl, rfl, trivial⟩ trivial)
    | ok t =>
      have ht := writeK_inv hW
      have hfl2 := flat_len (K := 405) l (fun p hp => by have := hfit p hp; omega)
      have htl : t.length ≤ 1000000 := by rw [ht, List.length_append]; omega
      have R1 := kread_c' t htl
      rw [read_write tkT hW] at R1
      rw [hW] at W1
      simp only [kwErr, kwS, kM, kL, kErr] at W1 R1
      repeat' (first | refine a_f ?_ | refine st_nil ?_ | refine tri_seq ?_ | refine tri_region rfl ?_ | refine cut_s ?_ | refine a_draw ?_ | (apply st_r rfl; case hq => first | exact q_call T1 (hcf := Tryz.call25) rfl rfl | exact q_call W1 (hcf := Tryz.call23) rfl rfl | exact q_call R1 (hcf := Tryz.call26) rfl rfl | exact q_eqnil (by conv => lhs; whnf) Tryz.underlying32 | exact q_nenil (by conv => lhs; whnf) Tryz.underlying32 | exact a_lens | exact a_index | exact a_add | exact a_adds0 | exact a_addsc | exact a_adds | exact a_sub | exact a_slo | exact a_shi | exact a_slh | exact a_lensl | exact a_lenro | exact a_lennil | exact a_lenpts | exact a_field | exact a_fielde | exact a_fieldr | exact a_idxsl | exact a_load | exact a_loada | exact a_mki | exact a_build2 | exact a_build3 | exact a_build1 | exact a_build0 | exact a_bs1 | exact a_bs2 | exact a_bs3 | exact a_bs4 | exact a_bsa | exact a_boxr) | (apply st_rif rfl; (case hq => first | exact a_lss | exact a_gtr | exact a_eql | exact a_neq | exact a_eqls0 | exact a_neqs0 | exact a_eqls | exact a_neqs | exact a_leq | exact a_geq); all_goals (intro _; try (exfalso; first | omega | contradiction))) | (apply st_rw rfl rfl; case hq => first | exact a_store) | refine tri_true rfl ?_ | refine tri_false rfl ?_ | refine tri_block ?_ | refine tri_skip ?_ | refine tri_ret ?_ | refine tri_exit ?_)
      refine tri_loop (fun (i : Nat) => i ≤ l.length) (fun i => st [(1, .ro false 2 (fieldRows l)), (2, .str s), (6, .bool false), (11, .ro true 2 (fieldRows l)), (13, .int .i64 i)] []) (fun i => l.length - i) 0 (Nat.zero_le _) ?hw2 (fun i hi => ?_)
      case hw2 => exact weak_st ⟨rfl, rfl, rfl, rfl, rfl, trivial⟩ trivial
      by_cases hil : i < l.length
      · obtain ⟨f, hf1, hfm, hfd, hfr⟩ := fr_at hil
        repeat' (first | refine a_f ?_ | refine st_nil ?_ | refine tri_seq ?_ | refine tri_region rfl ?_ | refine a_draw ?_ | (apply st_r rfl; case hq => first | exact q_idxro (by conv => lhs; whnf) (by conv => lhs; whnf) (by first | exact Tryz.underlying22 | exact Tryz.underlying23 | exact Tryz.underlying43 | exact Tryz.underlying44 | exact Tryz.underlying51 | exact Tryz.underlying86 | exact Tryz.underlying191 | exact Tryz.underlying209 | exact Tryz.underlying234 | exact Tryz.underlying270 | exact Tryz.underlying281 | exact Tryz.underlying344) (by kernel_rfl) (by omega) hfr | exact q_loadar (n := 2) (by conv => lhs; whnf) (by conv => lhs; whnf) (by first | rfl | exact Nat.le_of_ble_eq_true rfl | exact Nat.succ_pos _ | decide) (by kernel_rfl) (fun _ => rfl) | exact a_lens | exact a_index | exact a_add | exact a_adds0 | exact a_addsc | exact a_adds | exact a_sub | exact a_slo | exact a_shi | exact a_slh | exact a_lensl | exact a_lenro | exact a_lennil | exact a_lenpts | exact a_field | exact a_fielde | exact a_fieldr | exact a_idxsl | exact a_load | exact a_loada | exact a_mki | exact a_build2 | exact a_build3 | exact a_build1 | exact a_build0 | exact a_bs1 | exact a_bs2 | exact a_bs3 | exact a_bs4 | exact a_bsa | exact a_boxr) | (apply st_rif rfl; (case hq => first | exact q_nestr (dp := inferInstance) (bs := [true, true]) rfl rfl (by kernel_rfl) rfl rfl (ne_fields (f := f) (g := f)) | exact a_lss | exact a_gtr | exact a_eql | exact a_neq | exact a_eqls0 | exact a_neqs0 | exact a_eqls | exact a_neqs | exact a_leq | exact a_geq); all_goals (intro _; try (exfalso; first | omega | contradiction))) | (apply st_rw rfl rfl; case hq => first | exact a_store) | refine tri_true rfl ?_ | refine tri_false rfl ?_ | refine tri_block ?_ | refine tri_skip ?_ | refine tri_ret ?_ | refine tri_exit ?_)
        all_goals exact loop_next (i + 1) (by omega) (weak_st ⟨rfl, rfl, rfl, rfl, rfl, trivial⟩ trivial) (show l.length - (i + 1) < l.length - i by omega)
      · repeat' (first | refine a_f ?_ | refine st_nil ?_ | refine tri_seq ?_ | refine tri_region rfl ?_ | refine a_draw ?_ | (apply st_r rfl; case hq => first | exact a_lens | exact a_index | exact a_add | exact a_adds0 | exact a_addsc | exact a_adds | exact a_sub | exact a_slo | exact a_shi | exact a_slh | exact a_lensl | exact a_lenro | exact a_lennil | exact a_lenpts | exact a_field | exact a_fielde | exact a_fieldr | exact a_idxsl | exact a_load | exact a_loada | exact a_mki | exact a_build2 | exact a_build3 | exact a_build1 | exact a_build0 | exact a_bs1 | exact a_bs2 | exact a_bs3 | exact a_bs4 | exact a_bsa | exact a_boxr) | (apply st_rif rfl; (case hq => first | exact a_lss | exact a_gtr | exact a_eql | exact a_neq | exact a_eqls0 | exact a_neqs0 | exact a_eqls | exact a_neqs | exact a_leq | exact a_geq); all_goals (intro _; try (exfalso; first | omega | contradiction))) | (apply st_rw rfl rfl; case hq => first | exact a_store) | refine tri_true rfl ?_ | refine tri_false rfl ?_ | refine tri_block ?_ | refine tri_skip ?_ | refine tri_ret ?_ | refine tri_exit ?_)
        exact cut_z () trivial (weak_st ⟨rfl, rfl, trivial⟩ trivial)
  · have R1 := kread_c' s (by omega)
    cases hR : readK tokC blk lowC s with
    | none =>
      rw [hR] at R1
      simp only [kM, kL, kErr] at R1
      repeat' (first | refine a_f ?_ | refine st_nil ?_ | refine tri_seq ?_ | refine tri_region rfl ?_ | refine a_draw ?_ | (apply st_r rfl; case hq => first | exact q_call R1 (hcf := Tryz.call26) rfl rfl | exact q_neif (by conv => lhs; whnf) Tryz.underlying32 | exact a_lens | exact a_index | exact a_add | exact a_adds0 | exact a_addsc | exact a_adds | exact a_sub | exact a_slo | exact a_shi | exact a_slh | exact a_lensl | exact a_lenro | exact a_lennil | exact a_lenpts | exact a_field | exact a_fielde | exact a_fieldr | exact a_idxsl | exact a_load | exact a_loada | exact a_mki | exact a_build2 | exact a_build3 | exact a_build1 | exact a_build0 | exact a_bs1 | exact a_bs2 | exact a_bs3 | exact a_bs4 | exact a_bsa | exact a_boxr) | (apply st_rif rfl; (case hq => first | exact a_lss | exact a_gtr | exact a_eql | exact a_neq | exact a_eqls0 | exact a_neqs0 | exact a_eqls | exact a_neqs | exact a_leq | exact a_geq); all_goals (intro _; try (exfalso; first | omega | contradiction))) | (apply st_rw rfl rfl; case hq => first | exact a_store) | refine tri_true rfl ?_ | refine tri_false rfl ?_ | refine tri_block ?_ | refine tri_skip ?_ | refine tri_ret ?_ | refine tri_exit ?_)
      refine And.intro trivial ?_
      conv => lhs; whnf
    | some p =>
      obtain ⟨n, k⟩ := p
      rw [hR] at R1
      simp only [kM, kL, kErr] at R1
      obtain ⟨hks, hnl⟩ := readK_small hR (by omega)
      obtain ⟨t, hW⟩ := write_read tfT hR
      have hfk := fr_len k
      have hkl : k.length ≤ 500 ∧ ∀ f ∈ k, f.1.length ≤ 500 ∧ f.2.length ≤ 500 := by
        unfold readK at hR
        split at hR
        · split at hR
          · cases hR
          · rename_i l' hl'
            cases hR
            have hr := restOf_len s
            obtain ⟨q1, q2⟩ := parsGo_fits (K := 500) _ _ (Nat.le_refl _) [] k (by simp only [List.length_nil]; omega) (fun f hf => by cases hf) hl'
            exact ⟨q1, q2⟩
        · cases hR
      have ht := writeK_inv hW
      have hfl2 := flat_len (K := 1505) k (fun p hp => by have := hkl.2 p hp; omega)
      have htl : t.length ≤ 1000000 := by
        have : k.length * 1505 ≤ 500 * 1505 := Nat.mul_le_mul_right _ hkl.1
        rw [ht, List.length_append]; omega
      have W2 := kwrite_c n k (by omega) hks
      have R2 := kread_c' t htl
      rw [read_write tkT hW] at R2
      rw [kwAV_eq, hW] at W2
      simp only [kwErr, kwS, kM, kL, kErr] at W2 R2
      clear hfl2 ht
      repeat' (first | refine a_f ?_ | refine st_nil ?_ | refine tri_seq ?_ | refine tri_region rfl ?_ | refine a_draw ?_ | (apply st_r rfl; case hq => first | exact q_call R1 (hcf := Tryz.call26) rfl rfl | exact q_call W2 (hcf := Tryz.call23) rfl rfl | exact q_call R2 (hcf := Tryz.call26) rfl rfl | exact q_nenil (by conv => lhs; whnf) Tryz.underlying32 | exact a_lens | exact a_index | exact a_add | exact a_adds0 | exact a_addsc | exact a_adds | exact a_sub | exact a_slo | exact a_shi | exact a_slh | exact a_lensl | exact a_lenro | exact a_lennil | exact a_lenpts | exact a_field | exact a_fielde | exact a_fieldr | exact a_idxsl | exact a_load | exact a_loada | exact a_mki | exact a_build2 | exact a_build3 | exact a_build1 | exact a_build0 | exact a_bs1 | exact a_bs2 | exact a_bs3 | exact a_bs4 | exact a_bsa | exact a_boxr) | (apply st_rif rfl; (case hq => first | exact a_lss | exact a_gtr | exact a_eql | exact a_neq | exact a_eqls0 | exact a_neqs0 | exact a_eqls | exact a_neqs | exact a_leq | exact a_geq); all_goals (intro _; try (exfalso; first | omega | contradiction))) | (apply st_rw rfl rfl; case hq => first | exact a_store) | refine tri_true rfl ?_ | refine tri_false rfl ?_ | refine tri_block ?_ | refine tri_skip ?_ | refine tri_ret ?_ | refine tri_exit ?_)
      refine tri_loop (fun (i : Nat) => i ≤ k.length) (fun i => st [(6, .bool false), (15, .ro true 2 (fieldRows k)), (19, .ro true 2 (fieldRows k)), (20, .int .i64 i)] []) (fun i => k.length - i) 0 (Nat.zero_le _) ?hw3 (fun i hi => ?_)
      case hw3 => exact weak_st ⟨rfl, rfl, rfl, rfl, trivial⟩ trivial
      by_cases hil : i < k.length
      · obtain ⟨f, hf1, hfm, hfd, hfr⟩ := fr_at hil
        repeat' (first | refine a_f ?_ | refine st_nil ?_ | refine tri_seq ?_ | refine tri_region rfl ?_ | refine a_draw ?_ | (apply st_r rfl; case hq => first | exact q_idxro (by conv => lhs; whnf) (by conv => lhs; whnf) (by first | exact Tryz.underlying22 | exact Tryz.underlying23 | exact Tryz.underlying43 | exact Tryz.underlying44 | exact Tryz.underlying51 | exact Tryz.underlying86 | exact Tryz.underlying191 | exact Tryz.underlying209 | exact Tryz.underlying234 | exact Tryz.underlying270 | exact Tryz.underlying281 | exact Tryz.underlying344) (by kernel_rfl) (by omega) hfr | exact q_loadar (n := 2) (by conv => lhs; whnf) (by conv => lhs; whnf) (by first | rfl | exact Nat.le_of_ble_eq_true rfl | exact Nat.succ_pos _ | decide) (by kernel_rfl) (fun _ => rfl) | exact a_lens | exact a_index | exact a_add | exact a_adds0 | exact a_addsc | exact a_adds | exact a_sub | exact a_slo | exact a_shi | exact a_slh | exact a_lensl | exact a_lenro | exact a_lennil | exact a_lenpts | exact a_field | exact a_fielde | exact a_fieldr | exact a_idxsl | exact a_load | exact a_loada | exact a_mki | exact a_build2 | exact a_build3 | exact a_build1 | exact a_build0 | exact a_bs1 | exact a_bs2 | exact a_bs3 | exact a_bs4 | exact a_bsa | exact a_boxr) | (apply st_rif rfl; (case hq => first | exact q_nestr (dp := inferInstance) (bs := [true, true]) rfl rfl (by kernel_rfl) rfl rfl (ne_fields (f := f) (g := f)) | exact a_lss | exact a_gtr | exact a_eql | exact a_neq | exact a_eqls0 | exact a_neqs0 | exact a_eqls | exact a_neqs | exact a_leq | exact a_geq); all_goals (intro _; try (exfalso; first | omega | contradiction))) | (apply st_rw rfl rfl; case hq => first | exact a_store) | refine tri_true rfl ?_ | refine tri_false rfl ?_ | refine tri_block ?_ | refine tri_skip ?_ | refine tri_ret ?_ | refine tri_exit ?_)
        all_goals exact loop_next (i + 1) (by omega) (weak_st ⟨rfl, rfl, rfl, rfl, trivial⟩ trivial) (show k.length - (i + 1) < k.length - i by omega)
      · repeat' (first | refine a_f ?_ | refine st_nil ?_ | refine tri_seq ?_ | refine tri_region rfl ?_ | refine a_draw ?_ | (apply st_r rfl; case hq => first | exact a_lens | exact a_index | exact a_add | exact a_adds0 | exact a_addsc | exact a_adds | exact a_sub | exact a_slo | exact a_shi | exact a_slh | exact a_lensl | exact a_lenro | exact a_lennil | exact a_lenpts | exact a_field | exact a_fielde | exact a_fieldr | exact a_idxsl | exact a_load | exact a_loada | exact a_mki | exact a_build2 | exact a_build3 | exact a_build1 | exact a_build0 | exact a_bs1 | exact a_bs2 | exact a_bs3 | exact a_bs4 | exact a_bsa | exact a_boxr) | (apply st_rif rfl; (case hq => first | exact a_lss | exact a_gtr | exact a_eql | exact a_neq | exact a_eqls0 | exact a_neqs0 | exact a_eqls | exact a_neqs | exact a_leq | exact a_geq); all_goals (intro _; try (exfalso; first | omega | contradiction))) | (apply st_rw rfl rfl; case hq => first | exact a_store) | refine tri_true rfl ?_ | refine tri_false rfl ?_ | refine tri_block ?_ | refine tri_skip ?_ | refine tri_ret ?_ | refine tri_exit ?_)
        refine And.intro trivial ?_
        conv => lhs; whnf
end Go.Proofs.YtignjjnflcpiiaaGreatDoor
