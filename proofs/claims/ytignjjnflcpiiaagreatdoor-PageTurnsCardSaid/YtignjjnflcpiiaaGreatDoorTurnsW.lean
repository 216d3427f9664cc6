/- PageTurns: the law is true wherever it is called. -/
import Derived.Test.YtignjjnflcpiiaaGreatDoorTurnsB
import Derived.Test.YtignjjnflcpiiaaGreatDoorTurnsC
import Derived.Test.YtignjjnflcpiiaaGreatDoorTurns3a
import Derived.Test.YtignjjnflcpiiaaGreatDoorTurns3b
import Derived.Test.YtignjjnflcpiiaaGreatDoorTurns3c
import Derived.Test.YtignjjnflcpiiaaGreatDoorTurns3d
set_option linter.unusedVariables false
set_option linter.unusedSimpArgs false
set_option maxHeartbeats 1000000
namespace Go.Proofs.YtignjjnflcpiiaaGreatDoor
open Go.RowKit
attribute [local irreducible] Tri Steps Qd Wr Weak CPure CEff CNew CutN AllB Behind
set_option maxRecDepth 100000

set_option maxHeartbeats 8000000 in
theorem pageTurns_c (s : B) (vs : List B) (hs : s.length ≤ 140737488351232) (hl : vs.length ≤ 140737488351232) (hv : ∀ v ∈ vs, v.length ≤ 140737488351232) : CPure gxs 5 [.str s, .ro false 1 (nmRows vs)] (.bool true) := by
  refine cpure_of Tryz.func5 rfl (Nat.le_of_ble_eq_true rfl) rfl (fun w hw => ?_)
  have hnv := nm_len vs
  by_cases h5 : 1500 < s.length
  · repeat' (first | refine a_f ?_ | refine st_nil ?_ | refine tri_seq ?_ | refine tri_region rfl ?_ | refine a_draw ?_ | (apply st_r rfl; case hq => first | exact a_lens | exact a_index | exact a_add | exact a_adds0 | exact a_addsc | exact a_adds | exact a_sub | exact a_slo | exact a_shi | exact a_slh | exact a_lensl | exact a_lenro | exact a_lennil | exact a_lenpts | exact a_field | exact a_fielde | exact a_fieldr | exact a_idxsl | exact a_load | exact a_loada | exact a_mki | exact a_build2 | exact a_build3 | exact a_build1 | exact a_build0 | exact a_bs1 | exact a_bs2 | exact a_bs3 | exact a_bs4 | exact a_bsa | exact a_boxr) | (apply st_rif rfl; (case hq => first | exact a_lss | exact a_gtr | exact a_eql | exact a_neq | exact a_eqls0 | exact a_neqs0 | exact a_eqls | exact a_neqs | exact a_leq | exact a_geq); all_goals (intro _; try (exfalso; first | omega | contradiction))) | (apply st_rw rfl rfl; case hq => first | exact a_store) | refine tri_true rfl ?_ | refine tri_false rfl ?_ | refine tri_block ?_ | refine tri_skip ?_ | refine tri_ret ?_ | refine tri_exit ?_)
    refine And.intro trivial ?_
    conv => lhs; whnf
  by_cases h20 : 60 < vs.length
  · repeat' (first | refine a_f ?_ | refine st_nil ?_ | refine tri_seq ?_ | refine tri_region rfl ?_ | refine a_draw ?_ | (apply st_r rfl; case hq => first | exact a_lens | exact a_index | exact a_add | exact a_adds0 | exact a_addsc | exact a_adds | exact a_sub | exact a_slo | exact a_shi | exact a_slh | exact a_lensl | exact a_lenro | exact a_lennil | exact a_lenpts | exact a_field | exact a_fielde | exact a_fieldr | exact a_idxsl | exact a_load | exact a_loada | exact a_mki | exact a_build2 | exact a_build3 | exact a_build1 | exact a_build0 | exact a_bs1 | exact a_bs2 | exact a_bs3 | exact a_bs4 | exact a_bsa | exact a_boxr) | (apply st_rif rfl; (case hq => first | exact a_lss | exact a_gtr | exact a_eql | exact a_neq | exact a_eqls0 | exact a_neqs0 | exact a_eqls | exact a_neqs | exact a_leq | exact a_geq); all_goals (intro _; try (exfalso; first | omega | contradiction))) | (apply st_rw rfl rfl; case hq => first | exact a_store) | refine tri_true rfl ?_ | refine tri_false rfl ?_ | refine tri_block ?_ | refine tri_skip ?_ | refine tri_ret ?_ | refine tri_exit ?_)
    refine And.intro trivial ?_
    conv => lhs; whnf
  repeat' (first | refine a_f ?_ | refine st_nil ?_ | refine tri_seq ?_ | refine tri_region rfl ?_ | refine a_draw ?_ | (apply st_r rfl; case hq => first | exact a_lens | exact a_index | exact a_add | exact a_adds0 | exact a_addsc | exact a_adds | exact a_sub | exact a_slo | exact a_shi | exact a_slh | exact a_lensl | exact a_lenro | exact a_lennil | exact a_lenpts | exact a_field | exact a_fielde | exact a_fieldr | exact a_idxsl | exact a_load | exact a_loada | exact a_mki | exact a_build2 | exact a_build3 | exact a_build1 | exact a_build0 | exact a_bs1 | exact a_bs2 | exact a_bs3 | exact a_bs4 | exact a_bsa | exact a_boxr) | (apply st_rif rfl; (case hq => first | exact a_lss | exact a_gtr | exact a_eql | exact a_neq | exact a_eqls0 | exact a_neqs0 | exact a_eqls | exact a_neqs | exact a_leq | exact a_geq); all_goals (intro _; try (exfalso; first | omega | contradiction))) | (apply st_rw rfl rfl; case hq => first | exact a_store) | refine tri_true rfl ?_ | refine tri_false rfl ?_ | refine tri_block ?_ | refine tri_skip ?_ | refine tri_ret ?_ | refine tri_exit ?_)
  refine tri_loop_to (fun (x : Nat × Nat) => x.1 ≤ vs.length ∧ x.2 ≤ 1500 ∧ ∀ v ∈ vs.take x.1, v.length ≤ 1500) (fun x => st [(0, .str s), (1, .ro false 1 (nmRows vs)), (4, .bool false), (5, .int .i64 x.2), (6, .int .i64 x.1)] []) (fun x => vs.length - x.1)
    (fun (_ : Unit) => ∀ v ∈ vs, v.length ≤ 1500) (fun _ => st [(0, .str s), (1, .ro false 1 (nmRows vs)), (4, .bool false)] []) (0, 0) ⟨Nat.zero_le _, Nat.zero_le _, by simp⟩ ?hw weak_tri (fun x hx => ?_) (fun _ hz => ?_)
  case hw => exact weak_st ⟨rfl, rfl, rfl, rfl, rfl, trivial⟩ trivial
  · obtain ⟨i, n⟩ := x
    change Tri _ _ (st [(0, .str s), (1, .ro false 1 (nmRows vs)), (4, .bool false), (5, .int .i64 n), (6, .int .i64 i)] []) _
    obtain ⟨hi, hn, ha⟩ := hx
    simp only at hi hn ha
    by_cases hil : i < vs.length
    · have hvr := nm_get hil
      have hvle := hv vs[i] (List.getElem_mem hil)
      have hta := fun h => tk_all (P := fun v => v.length ≤ 1500) hil ha h
      generalize vs[i] = v at hvr hvle hta
      by_cases h400 : 1500 < n + v.length
      all_goals
        repeat' (first | refine a_f ?_ | refine st_nil ?_ | refine tri_seq ?_ | refine tri_region rfl ?_ | refine a_draw ?_ | (apply st_r rfl; case hq => first | exact q_idxro (by conv => lhs; whnf) (by conv => lhs; whnf) (by first | exact Tryz.underlying22 | exact Tryz.underlying23 | exact Tryz.underlying43 | exact Tryz.underlying44 | exact Tryz.underlying51 | exact Tryz.underlying86 | exact Tryz.underlying191 | exact Tryz.underlying209 | exact Tryz.underlying234 | exact Tryz.underlying270 | exact Tryz.underlying281 | exact Tryz.underlying344) (by kernel_rfl) (by omega) hvr | exact q_loadr (by conv => lhs; whnf) (by conv => lhs; whnf) (by show scalB Tryz.prog _ = true; decide +kernel) (fun _ => rfl) | exact a_lens | exact a_index | exact a_add | exact a_adds0 | exact a_addsc | exact a_adds | exact a_sub | exact a_slo | exact a_shi | exact a_slh | exact a_lensl | exact a_lenro | exact a_lennil | exact a_lenpts | exact a_field | exact a_fielde | exact a_fieldr | exact a_idxsl | exact a_load | exact a_loada | exact a_mki | exact a_build2 | exact a_build3 | exact a_build1 | exact a_build0 | exact a_bs1 | exact a_bs2 | exact a_bs3 | exact a_bs4 | exact a_bsa | exact a_boxr) | (apply st_rif rfl; (case hq => first | exact a_lss | exact a_gtr | exact a_eql | exact a_neq | exact a_eqls0 | exact a_neqs0 | exact a_eqls | exact a_neqs | exact a_leq | exact a_geq); all_goals (intro _; try (exfalso; first | omega | contradiction))) | (apply st_rw rfl rfl; case hq => first | exact a_store) | refine tri_true rfl ?_ | refine tri_false rfl ?_ | refine tri_block ?_ | refine tri_skip ?_ | refine tri_ret ?_ | refine tri_exit ?_)
      · refine And.intro trivial ?_
        conv => lhs; whnf
      · exact nextR (i + 1, n + v.length) ⟨by simp only; omega, by simp only; omega, hta (by omega)⟩ (weak_st ⟨rfl, rfl, rfl, rfl, rfl, trivial⟩ trivial) (show vs.length - (i + 1) < vs.length - i by omega)
    · repeat' (first | refine a_f ?_ | refine st_nil ?_ | refine tri_seq ?_ | refine tri_region rfl ?_ | refine a_draw ?_ | (apply st_r rfl; case hq => first | exact a_lens | exact a_index | exact a_add | exact a_adds0 | exact a_addsc | exact a_adds | exact a_sub | exact a_slo | exact a_shi | exact a_slh | exact a_lensl | exact a_lenro | exact a_lennil | exact a_lenpts | exact a_field | exact a_fielde | exact a_fieldr | exact a_idxsl | exact a_load | exact a_loada | exact a_mki | exact a_build2 | exact a_build3 | exact a_build1 | exact a_build0 | exact a_bs1 | exact a_bs2 | exact a_bs3 | exact a_bs4 | exact a_bsa | exact a_boxr) | (apply st_rif rfl; (case hq => first | exact a_lss | exact a_gtr | exact a_eql | exact a_neq | exact a_eqls0 | exact a_neqs0 | exact a_eqls | exact a_neqs | exact a_leq | exact a_geq); all_goals (intro _; try (exfalso; first | omega | contradiction))) | (apply st_rw rfl rfl; case hq => first | exact a_store) | refine tri_true rfl ?_ | refine tri_false rfl ?_ | refine tri_block ?_ | refine tri_skip ?_ | refine tri_ret ?_ | refine tri_exit ?_)
      exact outR () (by rw [List.take_of_length_le (by omega)] at ha; exact ha) (weak_st ⟨rfl, rfl, rfl, trivial⟩ trivial)
  have T1 := linked_c
  have L1 := links_c s (by omega)
  have hll := linksF_len s
  obtain ⟨t, u, g1, g2, g3, g4, g5, g6, g7, g8⟩ := page_turns s (picks vs (linksF s.length s).length) (picks_len _ _)
  have hpl : ∀ v ∈ picks vs (linksF s.length s).length, v.length ≤ 1500 := fun v hv => by
    obtain ⟨j, _, rfl⟩ := List.mem_map.1 hv
    exact pick_le hz j
  have ht := rep_len s _ (by omega) (by rw [picks_len]; omega) hpl
  have hu := own_len s (by omega)
  have hol := own_le s
  have P1 := replace_c s (picks vs (linksF s.length s).length) (by omega) (by rw [picks_len]; omega) (fun v hv => by have := hpl v hv; omega)
  have P2 := replace_c s ((linksF s.length s).map (·.2.2)) (by omega) (by rw [List.length_map]; omega) (fun v hv => by have := hol v hv; omega)
  rw [if_pos (picks_len _ _), g1] at P1
  rw [if_pos (List.length_map ..), g2] at P2
  rw [g1] at ht
  rw [g2] at hu
  have P3 := replace_c u ((linksF s.length s).map (·.2.2)) hu (by rw [List.length_map]; omega) (fun v hv => by have := hol v hv; omega)
  rw [if_pos (by rw [List.length_map, g4]), g8] at P3
  have L2 := links_c t ht
  have L3 := links_c u (by omega)
  clear g1 g2 g8 hpl hol hz
  generalize linksF s.length s = L at L1 hll P1 P2 P3 g3 g4 g5 g6 g7
  generalize linksF t.length t = M at L2 g3 g5 g7
  generalize linksF u.length u = O at L3 g4 g6
  have hkl := lk_len L
  have hkm := lk_len M
  have hko := lk_len O
  repeat' (first | refine a_f ?_ | refine st_nil ?_ | refine tri_seq ?_ | refine tri_region rfl ?_ | refine a_draw ?_ | (apply st_r rfl; case hq => first | exact q_call T1 (hcf := Tryz.call18) rfl rfl | exact q_call L1 (hcf := Tryz.call19) rfl rfl | exact a_lens | exact a_index | exact a_add | exact a_adds0 | exact a_addsc | exact a_adds | exact a_sub | exact a_slo | exact a_shi | exact a_slh | exact a_lensl | exact a_lenro | exact a_lennil | exact a_lenpts | exact a_field | exact a_fielde | exact a_fieldr | exact a_idxsl | exact a_load | exact a_loada | exact a_mki | exact a_build2 | exact a_build3 | exact a_build1 | exact a_build0 | exact a_bs1 | exact a_bs2 | exact a_bs3 | exact a_bs4 | exact a_bsa | exact a_boxr) | (apply st_rif rfl; (case hq => first | exact a_lss | exact a_gtr | exact a_eql | exact a_neq | exact a_eqls0 | exact a_neqs0 | exact a_eqls | exact a_neqs | exact a_leq | exact a_geq); all_goals (intro _; try (exfalso; first | omega | contradiction))) | (apply st_rw rfl rfl; case hq => first | exact a_store) | refine tri_true rfl ?_ | refine tri_false rfl ?_ | refine tri_block ?_ | refine tri_skip ?_ | refine tri_ret ?_ | refine tri_exit ?_)
  refine tri_loop_to (fun (i : Nat) => i ≤ L.length) (S2 s vs L) (fun i => L.length - i)
    (fun (_ : Unit) => True) (fun _ => st [(0, .str s), (4, .bool false), (7, .ro true 3 (lkRows L)), (8, .ro false 1 (nmRows (picks vs L.length))), (9, .ro false 1 (nmRows (L.map (·.2.2))))] []) 0 (Nat.zero_le _) ?hw2 weak_tri (fun i hi => ?_) (fun _ _ => ?_)
  case hw2 => exact Weak.trans (weak_nil 8 101 9 1 rfl (by decide) rfl rfl) (Weak.trans (weak_nil 9 102 9 1 rfl (by decide) rfl rfl) (weak_st ⟨rfl, rfl, rfl, rfl, rfl, rfl, rfl, trivial⟩ ⟨rfl, rfl, trivial⟩))
  · by_cases hil : i < L.length
    · by_cases h0 : 0 < vs.length
      · exact turn_r2a s vs L i hil (by omega) (by omega) h0 hw _
      · exact turn_r2b s vs L i hil (by omega) (by omega) h0 hw _
    · unfold S2
      rw [List.take_of_length_le (l := picks vs L.length) (by rw [picks_len]; omega), List.take_of_length_le (l := L.map (·.2.2)) (by rw [List.length_map]; omega)]
      repeat' (first | refine a_f ?_ | refine st_nil ?_ | refine tri_seq ?_ | refine tri_region rfl ?_ | refine a_draw ?_ | (apply st_r rfl; case hq => first | exact a_lens | exact a_index | exact a_add | exact a_adds0 | exact a_addsc | exact a_adds | exact a_sub | exact a_slo | exact a_shi | exact a_slh | exact a_lensl | exact a_lenro | exact a_lennil | exact a_lenpts | exact a_field | exact a_fielde | exact a_fieldr | exact a_idxsl | exact a_load | exact a_loada | exact a_mki | exact a_build2 | exact a_build3 | exact a_build1 | exact a_build0 | exact a_bs1 | exact a_bs2 | exact a_bs3 | exact a_bs4 | exact a_bsa | exact a_boxr) | (apply st_rif rfl; (case hq => first | exact a_lss | exact a_gtr | exact a_eql | exact a_neq | exact a_eqls0 | exact a_neqs0 | exact a_eqls | exact a_neqs | exact a_leq | exact a_geq); all_goals (intro _; try (exfalso; first | omega | contradiction))) | (apply st_rw rfl rfl; case hq => first | exact a_store) | refine tri_true rfl ?_ | refine tri_false rfl ?_ | refine tri_block ?_ | refine tri_skip ?_ | refine tri_ret ?_ | refine tri_exit ?_)
      exact outR () trivial (Weak.trans (weak_freeze 8 101 rfl rfl rfl) (Weak.trans (weak_freeze 9 102 rfl rfl rfl) (weak_st ⟨rfl, rfl, rfl, rfl, rfl, trivial⟩ trivial)))
  generalize picks vs L.length = A at P1 g5
  generalize L.map (·.2.2) = D at P2 P3 g6
  repeat' (first | refine a_f ?_ | refine st_nil ?_ | refine tri_seq ?_ | refine tri_region rfl ?_ | refine a_draw ?_ | (apply st_r rfl; case hq => first | exact q_call P1 (hcf := Tryz.call20) rfl rfl | exact q_call P2 (hcf := Tryz.call20) rfl rfl | exact q_call L2 (hcf := Tryz.call19) rfl rfl | exact q_call L3 (hcf := Tryz.call19) rfl rfl | exact q_nenil (by conv => lhs; whnf) Tryz.underlying32 | exact a_lens | exact a_index | exact a_add | exact a_adds0 | exact a_addsc | exact a_adds | exact a_sub | exact a_slo | exact a_shi | exact a_slh | exact a_lensl | exact a_lenro | exact a_lennil | exact a_lenpts | exact a_field | exact a_fielde | exact a_fieldr | exact a_idxsl | exact a_load | exact a_loada | exact a_mki | exact a_build2 | exact a_build3 | exact a_build1 | exact a_build0 | exact a_bs1 | exact a_bs2 | exact a_bs3 | exact a_bs4 | exact a_bsa | exact a_boxr) | (apply st_rif rfl; (case hq => first | exact a_lss | exact a_gtr | exact a_eql | exact a_neq | exact a_eqls0 | exact a_neqs0 | exact a_eqls | exact a_neqs | exact a_leq | exact a_geq); all_goals (intro _; try (exfalso; first | omega | contradiction))) | (apply st_rw rfl rfl; case hq => first | exact a_store) | refine tri_true rfl ?_ | refine tri_false rfl ?_ | refine tri_block ?_ | refine tri_skip ?_ | refine tri_ret ?_ | refine tri_exit ?_)
  refine tri_loop_to (fun (x : Nat × Nat × Nat) => x.1 ≤ L.length ∧ TurnOk s t x.2.1 x.2.2 (L.drop x.1) (M.drop x.1)) (S3 s t u L M O A D) (fun x => L.length - x.1)
    (fun (y : Nat × Nat) => TurnOk s t y.1 y.2 [] []) (fun y => st [(0, .str s), (4, .bool false), (9, .ro false 1 (nmRows D)), (12, .str t), (14, .str u), (18, .int .i64 y.1), (19, .int .i64 y.2)] []) (0, 0, 0) ⟨Nat.zero_le _, g7⟩ ?hw3 weak_tri (fun x hx => ?_) (fun y hy => ?_)
  case hw3 => exact weak_st ⟨rfl, rfl, rfl, rfl, rfl, rfl, rfl, rfl, rfl, rfl, rfl, rfl, trivial⟩ trivial
  · obtain ⟨i, a, b⟩ := x
    change Tri _ _ (st [(0, .str s), (4, .bool false), (7, .ro true 3 (lkRows L)), (8, .ro false 1 (nmRows A)), (9, .ro false 1 (nmRows D)), (12, .str t), (14, .str u), (16, .ro true 3 (lkRows M)), (17, .ro true 3 (lkRows O)), (18, .int .i64 a), (19, .int .i64 b), (20, .int .i64 i)] []) _
    obtain ⟨hi, hk⟩ := hx
    simp only at hi hk
    by_cases hil : i < L.length
    · obtain ⟨⟨p, g, val⟩, hxi, hxd, hxr⟩ := lk_at2 hil
      obtain ⟨⟨p2, lg2, val2⟩, hyi, hyd, hyr⟩ := lk_at2 (show i < M.length by omega)
      obtain ⟨⟨p3, lg3, val3⟩, hzi, hzd, hzr⟩ := lk_at2 (show i < O.length by omega)
      have hA : (nmRows A)[(i : Int).toNat]? = some [.str val2] := by rw [← g5]; exact vals_at hyi
      have hD : (nmRows D)[(i : Int).toNat]? = some [.str val3] := by rw [← g6]; exact vals_at hzi
      have hAl : (nmRows A).length = L.length := by rw [nm_len, ← g5, List.length_map, g3]
      have hDl : (nmRows D).length = L.length := by rw [nm_len, ← g6, List.length_map, g4]
      rw [hxd, hyd] at hk
      obtain ⟨k1, k2, k3, k4, k5, k6⟩ := hk
      simp only at k1 k2 k3 k4 k5 k6 hxr hyr hzr
      have c1 : (s.take p).drop a = (s.drop a).take (p - a) := List.drop_take ..
      have c2 : (t.take p2).drop b = (t.drop b).take (p2 - b) := List.drop_take ..
      have hsl : ((s.drop a).take (p - a)).length ≤ 1500 := by rw [List.length_take, List.length_drop]; omega
      generalize (s.drop a).take (p - a) = x1 at c1 k5 hsl
      generalize (t.drop b).take (p2 - b) = x2 at c2 k5
      rcases k5 with rfl | rfl | rfl | rfl
      · exact turn_r3a s t u L M O A D i a b p g p2 lg2 p3 lg3 val val2 val3 x2 hil (by omega) ht g3 g4 (by omega) hxr hyr hzr hA hD hAl hDl k1 k2 k3 k4 k6 c1 c2 hsl hw _
      · exact turn_r3b s t u L M O A D i a b p g p2 lg2 p3 lg3 val val2 val3 x1 hil (by omega) ht g3 g4 (by omega) hxr hyr hzr hA hD hAl hDl k1 k2 k3 k4 k6 c1 c2 hsl hw _
      · exact turn_r3c s t u L M O A D i a b p g p2 lg2 p3 lg3 val val2 val3 x1 hil (by omega) ht g3 g4 (by omega) hxr hyr hzr hA hD hAl hDl k1 k2 k3 k4 k6 c1 c2 hsl hw _
      · exact turn_r3d s t u L M O A D i a b p g p2 lg2 p3 lg3 val val2 val3 x1 hil (by omega) ht g3 g4 (by omega) hxr hyr hzr hA hD hAl hDl k1 k2 k3 k4 k6 c1 c2 hsl hw _
    · rw [List.drop_eq_nil_of_le (by omega), List.drop_eq_nil_of_le (show M.length ≤ i by omega)] at hk
      repeat' (first | refine a_f ?_ | refine st_nil ?_ | refine tri_seq ?_ | refine tri_region rfl ?_ | refine a_draw ?_ | (apply st_r rfl; case hq => first | exact a_lens | exact a_index | exact a_add | exact a_adds0 | exact a_addsc | exact a_adds | exact a_sub | exact a_slo | exact a_shi | exact a_slh | exact a_lensl | exact a_lenro | exact a_lennil | exact a_lenpts | exact a_field | exact a_fielde | exact a_fieldr | exact a_idxsl | exact a_load | exact a_loada | exact a_mki | exact a_build2 | exact a_build3 | exact a_build1 | exact a_build0 | exact a_bs1 | exact a_bs2 | exact a_bs3 | exact a_bs4 | exact a_bsa | exact a_boxr) | (apply st_rif rfl; (case hq => first | exact a_lss | exact a_gtr | exact a_eql | exact a_neq | exact a_eqls0 | exact a_neqs0 | exact a_eqls | exact a_neqs | exact a_leq | exact a_geq); all_goals (intro _; try (exfalso; first | omega | contradiction))) | (apply st_rw rfl rfl; case hq => first | exact a_store) | refine tri_true rfl ?_ | refine tri_false rfl ?_ | refine tri_block ?_ | refine tri_skip ?_ | refine tri_ret ?_ | refine tri_exit ?_)
      exact outR (a, b) hk (weak_st ⟨rfl, rfl, rfl, rfl, rfl, rfl, rfl, trivial⟩ trivial)
  obtain ⟨a, b⟩ := y
  obtain ⟨ka, kb, z, hz1, hz2⟩ := hy
  change Tri _ _ (st [(0, .str s), (4, .bool false), (9, .ro false 1 (nmRows D)), (12, .str t), (14, .str u), (18, .int .i64 a), (19, .int .i64 b)] []) _
  simp only at ka kb hz1
  have hzl : t.length - b = z.length + (s.length - a) := by
    have := congrArg List.length hz1
    rw [List.length_append, List.length_drop, List.length_drop] at this
    exact this
  have S1 := suffix_c (z ++ s.drop a) (s.drop a) (by rw [List.length_append, List.length_drop]; omega)
  rw [suf_app] at S1
  repeat' (first | refine a_f ?_ | refine st_nil ?_ | refine tri_seq ?_ | refine tri_region rfl ?_ | refine a_draw ?_ | (apply st_r rfl; case hq => first | exact q_call P3 (hcf := Tryz.call20) rfl rfl | exact q_eqnil (by conv => lhs; whnf) Tryz.underlying32 | exact q_slice_loE (n' := b) (by conv => lhs; whnf) (by conv => lhs; whnf) (by rfl) (by kernel_rfl) (by omega) hz1 | exact q_slice_loE (n' := a) (l := s.drop a) (by conv => lhs; whnf) (by conv => lhs; whnf) (by rfl) (by kernel_rfl) (by omega) rfl | exact q_call S1 (hcf := Tryz.call21) rfl rfl | exact a_lens | exact a_index | exact a_add | exact a_adds0 | exact a_addsc | exact a_adds | exact a_sub | exact a_slo | exact a_shi | exact a_slh | exact a_lensl | exact a_lenro | exact a_lennil | exact a_lenpts | exact a_field | exact a_fielde | exact a_fieldr | exact a_idxsl | exact a_load | exact a_loada | exact a_mki | exact a_build2 | exact a_build3 | exact a_build1 | exact a_build0 | exact a_bs1 | exact a_bs2 | exact a_bs3 | exact a_bs4 | exact a_bsa | exact a_boxr) | (apply st_rif rfl; (case hq => first | exact a_lss | exact a_gtr | exact a_eql | exact a_neq | exact a_eqls0 | exact a_neqs0 | exact a_eqls | exact a_neqs | exact a_leq | exact a_geq); all_goals (intro _; try (exfalso; first | omega | contradiction))) | (apply st_rw rfl rfl; case hq => first | exact a_store) | refine tri_true rfl ?_ | refine tri_false rfl ?_ | refine tri_block ?_ | refine tri_skip ?_ | refine tri_ret ?_ | refine tri_exit ?_)
  all_goals first
    | (refine And.intro trivial ?_
       conv => lhs; whnf
       done)
    | (refine And.intro trivial ?_
       conv => lhs; whnf
       rfl)
    | (exfalso; exact ‹¬ _› rfl)
    | (exfalso; simp_all; done)
end Go.Proofs.YtignjjnflcpiiaaGreatDoor
