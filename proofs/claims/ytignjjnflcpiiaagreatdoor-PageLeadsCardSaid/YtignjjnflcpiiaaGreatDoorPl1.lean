/- The document's small functions of pages: find, gap, Escape, unescape. -/
import Derived.Test.YtignjjnflcpiiaaGreatDoorPageD
import Derived.Test.YtignjjnflcpiiaaGreatDoorPageT
set_option linter.unusedVariables false
set_option linter.unusedSimpArgs false
set_option maxHeartbeats 1000000
namespace Go.Proofs.YtignjjnflcpiiaaGreatDoor
open Go.RowKit
set_option maxRecDepth 100000

def findN (s o : B) (a : Nat) : Nat := if Lib.index (s.drop a) o < 0 then s.length else a + (Lib.index (s.drop a) o).toNat
theorem find_hit {s o : B} {a : Nat} (h : o.isPrefixOf (s.drop a) = true) : findN s o a = a := by
  have h0 : Lib.index (s.drop a) o = 0 := by
    exact Go.Lib.index_first (s := s.drop a) (sub := o) (i := 0) (Nat.zero_le _) (by simp [Go.Lib.occAt, h]) (fun _ h => absurd h (Nat.not_lt_zero _))
  unfold findN
  rw [h0]; rfl
theorem find_past {s o : B} {a : Nat} (ho : o ≠ []) (h : s.length ≤ a) : findN s o a = s.length := by
  unfold findN
  rw [List.drop_eq_nil_of_le h]
  cases o with
  | nil => exact absurd rfl ho
  | cons c t => rfl
theorem find_step {s o : B} {a : Nat} (ha : a < s.length) (h : o.isPrefixOf (s.drop a) = false) : findN s o (a + 1) = findN s o a := by
  unfold findN
  rw [List.drop_eq_getElem_cons ha] at h ⊢
  have hge := Go.Lib.index_ge (s.drop (a + 1)) o
  rw [index_cons _ _ _ h]
  split
  · rfl
  · rename_i h1
    rw [if_neg (by omega)]
    omega
theorem find_le (s o : B) (a : Nat) (h : a ≤ s.length) : a ≤ findN s o a ∧ findN s o a ≤ s.length := by
  unfold findN
  have := Go.Lib.index_le (s.drop a) o
  rw [List.length_drop] at this
  split
  · omega
  · omega
section
attribute [local irreducible] Tri Steps Qd Wr Weak CPure CEff CNew CutN AllB Behind
variable {C : Cx} {σ : St} {ty : TypeId} {pos : String} {af : Array Edge} {g : Option (Nat × Bool)} {t e : TypeId} {d : Option Nat} {x1 x2 x3 x4 x5 : Operand} {v1 v2 v3 v4 v5 : AV}
theorem q_bs5 (ht : C.P.underlying t = some (.slice e)) (hs : sizeB C.P e 1 = true) (hz : (zeroL C.P e).isSome = true) (h1 : σ.ev x1 = v1) (h2 : σ.ev x2 = v2) (h3 : σ.ev x3 = v3) (h4 : σ.ev x4 = v4) (h5 : σ.ev x5 = v5) (f1 : v1.flat = true) (f2 : v2.flat = true) (f3 : v3.flat = true) (f4 : v4.flat = true) (f5 : v5.flat = true) : Qd C ⟨d, .buildSlice t 5 #[(0, x1), (1, x2), (2, x3), (3, x4), (4, x5)], ty, pos, af, g⟩ σ (.ro true 1 [[v1], [v2], [v3], [v4], [v5]]) :=
  q_bslice (xs := [x1, x2, x3, x4, x5]) (vs := [v1, v2, v3, v4, v5]) ht hs hz rfl (by simp [h1, h2, h3, h4, h5]) rfl (by omega) (by omega) (by simp [f1, f2, f3, f4, f5])
end
section
attribute [local irreducible] Tri Steps Qd Wr Weak CPure CEff CNew CutN AllB Behind
set_option maxHeartbeats 2000000 in
theorem find_c (s o : B) (a : Nat) (hs : s.length ≤ 100000000) (ho : o ≠ []) (ha : a ≤ 200000000) : CPure gx 64 [.str s, .str o, .int .i64 a] (.int .i64 (findN s o a)) := by
  refine cpure_of Tryz.func64 rfl (Nat.le_of_ble_eq_true rfl) rfl (fun w hw => ?_)
  repeat' (first | refine a_f ?_ | refine st_nil ?_ | refine tri_seq ?_ | refine tri_region rfl ?_ | refine a_draw ?_ | (apply st_r rfl; case hq => first | exact a_lens | exact a_index | exact a_add | exact a_adds0 | exact a_addsc | exact a_adds | exact a_sub | exact a_slo | exact a_shi | exact a_slh | exact a_lensl | exact a_lenro | exact a_lennil | exact a_lenpts | exact a_field | exact a_fielde | exact a_fieldr | exact a_idxsl | exact a_load | exact a_loada | exact a_mki | exact a_build2 | exact a_build3 | exact a_build1 | exact a_build0 | exact a_bs1 | exact a_bs2 | exact a_bs3 | exact a_bs4 | exact a_bsa | exact a_boxr) | (apply st_rif rfl; (case hq => first | exact a_lss | exact a_gtr | exact a_eql | exact a_neq | exact a_eqls0 | exact a_neqs0 | exact a_eqls | exact a_neqs | exact a_leq | exact a_geq); all_goals (intro _; try (exfalso; first | omega | contradiction))) | (apply st_rw rfl rfl; case hq => first | exact a_store) | refine tri_true rfl ?_ | refine tri_false rfl ?_ | refine tri_block ?_ | refine tri_skip ?_ | refine tri_ret ?_ | refine tri_exit ?_)
  refine tri_loop (fun (x : Nat) => findN s o x = findN s o a ∧ x ≤ 200000000) (fun x => st [(0, .str s), (1, .str o), (2, .int .i64 x)] []) (fun x => s.length - x) a ⟨rfl, ha⟩ ?hw (fun x hx => ?_)
  case hw => exact weak_st ⟨rfl, rfl, rfl, trivial⟩ trivial
  obtain ⟨hf, hx2⟩ := hx
  by_cases hxl : x < s.length
  · have C1 := pre_c (s.drop x) o
    cases hp : Lib.hasPrefix (s.drop x) o <;> rw [hp] at C1
    · rw [isPre] at hp
      repeat' (first | refine a_f ?_ | refine st_nil ?_ | refine tri_seq ?_ | refine tri_region rfl ?_ | refine a_draw ?_ | (apply st_r rfl; case hq => first | exact q_slice_loE (n' := x) (l := s.drop x) (by conv => lhs; whnf) (by conv => lhs; whnf) (by rfl) (by kernel_rfl) (by omega) rfl | exact q_call C1 (hcf := Tryz.call41) rfl rfl | exact a_lens | exact a_index | exact a_add | exact a_adds0 | exact a_addsc | exact a_adds | exact a_sub | exact a_slo | exact a_shi | exact a_slh | exact a_lensl | exact a_lenro | exact a_lennil | exact a_lenpts | exact a_field | exact a_fielde | exact a_fieldr | exact a_idxsl | exact a_load | exact a_loada | exact a_mki | exact a_build2 | exact a_build3 | exact a_build1 | exact a_build0 | exact a_bs1 | exact a_bs2 | exact a_bs3 | exact a_bs4 | exact a_bsa | exact a_boxr) | (apply st_rif rfl; (case hq => first | exact a_lss | exact a_gtr | exact a_eql | exact a_neq | exact a_eqls0 | exact a_neqs0 | exact a_eqls | exact a_neqs | exact a_leq | exact a_geq); all_goals (intro _; try (exfalso; first | omega | contradiction))) | (apply st_rw rfl rfl; case hq => first | exact a_store) | refine tri_true rfl ?_ | refine tri_false rfl ?_ | refine tri_block ?_ | refine tri_skip ?_ | refine tri_ret ?_ | refine tri_exit ?_)
      exact loop_next (x + 1) ⟨by rw [find_step hxl hp, hf], by omega⟩ (weak_st ⟨rfl, rfl, rfl, trivial⟩ trivial) (show s.length - (x + 1) < s.length - x by omega)
    · rw [isPre] at hp
      rw [find_hit hp] at hf
      repeat' (first | refine a_f ?_ | refine st_nil ?_ | refine tri_seq ?_ | refine tri_region rfl ?_ | refine a_draw ?_ | (apply st_r rfl; case hq => first | exact q_slice_loE (n' := x) (l := s.drop x) (by conv => lhs; whnf) (by conv => lhs; whnf) (by rfl) (by kernel_rfl) (by omega) rfl | exact q_call C1 (hcf := Tryz.call41) rfl rfl | exact a_lens | exact a_index | exact a_add | exact a_adds0 | exact a_addsc | exact a_adds | exact a_sub | exact a_slo | exact a_shi | exact a_slh | exact a_lensl | exact a_lenro | exact a_lennil | exact a_lenpts | exact a_field | exact a_fielde | exact a_fieldr | exact a_idxsl | exact a_load | exact a_loada | exact a_mki | exact a_build2 | exact a_build3 | exact a_build1 | exact a_build0 | exact a_bs1 | exact a_bs2 | exact a_bs3 | exact a_bs4 | exact a_bsa | exact a_boxr) | (apply st_rif rfl; (case hq => first | exact a_lss | exact a_gtr | exact a_eql | exact a_neq | exact a_eqls0 | exact a_neqs0 | exact a_eqls | exact a_neqs | exact a_leq | exact a_geq); all_goals (intro _; try (exfalso; first | omega | contradiction))) | (apply st_rw rfl rfl; case hq => first | exact a_store) | refine tri_true rfl ?_ | refine tri_false rfl ?_ | refine tri_block ?_ | refine tri_skip ?_ | refine tri_ret ?_ | refine tri_exit ?_)
      refine And.intro trivial ?_
      conv => lhs; whnf
      rw [hf]
  · rw [find_past ho (by omega)] at hf
    repeat' (first | refine a_f ?_ | refine st_nil ?_ | refine tri_seq ?_ | refine tri_region rfl ?_ | refine a_draw ?_ | (apply st_r rfl; case hq => first | exact a_lens | exact a_index | exact a_add | exact a_adds0 | exact a_addsc | exact a_adds | exact a_sub | exact a_slo | exact a_shi | exact a_slh | exact a_lensl | exact a_lenro | exact a_lennil | exact a_lenpts | exact a_field | exact a_fielde | exact a_fieldr | exact a_idxsl | exact a_load | exact a_loada | exact a_mki | exact a_build2 | exact a_build3 | exact a_build1 | exact a_build0 | exact a_bs1 | exact a_bs2 | exact a_bs3 | exact a_bs4 | exact a_bsa | exact a_boxr) | (apply st_rif rfl; (case hq => first | exact a_lss | exact a_gtr | exact a_eql | exact a_neq | exact a_eqls0 | exact a_neqs0 | exact a_eqls | exact a_neqs | exact a_leq | exact a_geq); all_goals (intro _; try (exfalso; first | omega | contradiction))) | (apply st_rw rfl rfl; case hq => first | exact a_store) | refine tri_true rfl ?_ | refine tri_false rfl ?_ | refine tri_block ?_ | refine tri_skip ?_ | refine tri_ret ?_ | refine tri_exit ?_)
    refine And.intro trivial ?_
    conv => lhs; whnf
    rw [← hf]
theorem gap_in : ∀ c : UInt8, gapB c = (decide (c = 32) || (decide (c = 9) || (decide (c = 13) || decide (c = 10)))) := all8 (by decide +kernel)
theorem u8_eq {c d : UInt8} (h : (c.toNat : Int) = (d.toNat : Int)) : c = d := UInt8.toNat_inj.1 (by omega)
theorem u8_ne {c d : UInt8} (h : c ≠ d) : (c.toNat : Int) ≠ (d.toNat : Int) := fun e => h (u8_eq e)
set_option maxHeartbeats 2000000 in
theorem gap_c (c : UInt8) : CPure gx 118 [.int .u8 c.toNat] (.bool (gapB c)) := by
  refine cpure_of Tryz.func118 rfl (Nat.le_of_ble_eq_true rfl) rfl (fun w hw => ?_)
  by_cases h1 : c = 32
  · have n1 : (c.toNat : Int) = 32 := by rw [h1]; rfl
    rw [show gapB c = true by rw [h1]; rfl]
    repeat' (first | refine a_f ?_ | refine st_nil ?_ | refine tri_seq ?_ | refine tri_region rfl ?_ | refine a_draw ?_ | (apply st_r rfl; case hq => first | exact a_lens | exact a_index | exact a_add | exact a_adds0 | exact a_addsc | exact a_adds | exact a_sub | exact a_slo | exact a_shi | exact a_slh | exact a_lensl | exact a_lenro | exact a_lennil | exact a_lenpts | exact a_field | exact a_fielde | exact a_fieldr | exact a_idxsl | exact a_load | exact a_loada | exact a_mki | exact a_build2 | exact a_build3 | exact a_build1 | exact a_build0 | exact a_bs1 | exact a_bs2 | exact a_bs3 | exact a_bs4 | exact a_bsa | exact a_boxr) | (apply st_rif rfl; (case hq => first | exact a_lss | exact a_gtr | exact a_eql | exact a_neq | exact a_eqls0 | exact a_neqs0 | exact a_eqls | exact a_neqs | exact a_leq | exact a_geq); all_goals (intro _; try (exfalso; first | omega | contradiction))) | (apply st_rw rfl rfl; case hq => first | exact a_store) | refine tri_true rfl ?_ | refine tri_false rfl ?_ | refine tri_block ?_ | refine tri_skip ?_ | refine tri_ret ?_ | refine tri_exit ?_)
    all_goals
      refine And.intro trivial ?_
      conv => lhs; whnf
  by_cases h2 : c = 9
  · have n2 : (c.toNat : Int) = 9 := by rw [h2]; rfl
    rw [show gapB c = true by rw [h2]; rfl]
    repeat' (first | refine a_f ?_ | refine st_nil ?_ | refine tri_seq ?_ | refine tri_region rfl ?_ | refine a_draw ?_ | (apply st_r rfl; case hq => first | exact a_lens | exact a_index | exact a_add | exact a_adds0 | exact a_addsc | exact a_adds | exact a_sub | exact a_slo | exact a_shi | exact a_slh | exact a_lensl | exact a_lenro | exact a_lennil | exact a_lenpts | exact a_field | exact a_fielde | exact a_fieldr | exact a_idxsl | exact a_load | exact a_loada | exact a_mki | exact a_build2 | exact a_build3 | exact a_build1 | exact a_build0 | exact a_bs1 | exact a_bs2 | exact a_bs3 | exact a_bs4 | exact a_bsa | exact a_boxr) | (apply st_rif rfl; (case hq => first | exact a_lss | exact a_gtr | exact a_eql | exact a_neq | exact a_eqls0 | exact a_neqs0 | exact a_eqls | exact a_neqs | exact a_leq | exact a_geq); all_goals (intro _; try (exfalso; first | omega | contradiction))) | (apply st_rw rfl rfl; case hq => first | exact a_store) | refine tri_true rfl ?_ | refine tri_false rfl ?_ | refine tri_block ?_ | refine tri_skip ?_ | refine tri_ret ?_ | refine tri_exit ?_)
    all_goals
      refine And.intro trivial ?_
      conv => lhs; whnf
  by_cases h3 : c = 13
  · have n3 : (c.toNat : Int) = 13 := by rw [h3]; rfl
    rw [show gapB c = true by rw [h3]; rfl]
    repeat' (first | refine a_f ?_ | refine st_nil ?_ | refine tri_seq ?_ | refine tri_region rfl ?_ | refine a_draw ?_ | (apply st_r rfl; case hq => first | exact a_lens | exact a_index | exact a_add | exact a_adds0 | exact a_addsc | exact a_adds | exact a_sub | exact a_slo | exact a_shi | exact a_slh | exact a_lensl | exact a_lenro | exact a_lennil | exact a_lenpts | exact a_field | exact a_fielde | exact a_fieldr | exact a_idxsl | exact a_load | exact a_loada | exact a_mki | exact a_build2 | exact a_build3 | exact a_build1 | exact a_build0 | exact a_bs1 | exact a_bs2 | exact a_bs3 | exact a_bs4 | exact a_bsa | exact a_boxr) | (apply st_rif rfl; (case hq => first | exact a_lss | exact a_gtr | exact a_eql | exact a_neq | exact a_eqls0 | exact a_neqs0 | exact a_eqls | exact a_neqs | exact a_leq | exact a_geq); all_goals (intro _; try (exfalso; first | omega | contradiction))) | (apply st_rw rfl rfl; case hq => first | exact a_store) | refine tri_true rfl ?_ | refine tri_false rfl ?_ | refine tri_block ?_ | refine tri_skip ?_ | refine tri_ret ?_ | refine tri_exit ?_)
    all_goals
      refine And.intro trivial ?_
      conv => lhs; whnf
  by_cases h4 : c = 10
  · have n4 : (c.toNat : Int) = 10 := by rw [h4]; rfl
    rw [show gapB c = true by rw [h4]; rfl]
    repeat' (first | refine a_f ?_ | refine st_nil ?_ | refine tri_seq ?_ | refine tri_region rfl ?_ | refine a_draw ?_ | (apply st_r rfl; case hq => first | exact a_lens | exact a_index | exact a_add | exact a_adds0 | exact a_addsc | exact a_adds | exact a_sub | exact a_slo | exact a_shi | exact a_slh | exact a_lensl | exact a_lenro | exact a_lennil | exact a_lenpts | exact a_field | exact a_fielde | exact a_fieldr | exact a_idxsl | exact a_load | exact a_loada | exact a_mki | exact a_build2 | exact a_build3 | exact a_build1 | exact a_build0 | exact a_bs1 | exact a_bs2 | exact a_bs3 | exact a_bs4 | exact a_bsa | exact a_boxr) | (apply st_rif rfl; (case hq => first | exact a_lss | exact a_gtr | exact a_eql | exact a_neq | exact a_eqls0 | exact a_neqs0 | exact a_eqls | exact a_neqs | exact a_leq | exact a_geq); all_goals (intro _; try (exfalso; first | omega | contradiction))) | (apply st_rw rfl rfl; case hq => first | exact a_store) | refine tri_true rfl ?_ | refine tri_false rfl ?_ | refine tri_block ?_ | refine tri_skip ?_ | refine tri_ret ?_ | refine tri_exit ?_)
    all_goals
      refine And.intro trivial ?_
      conv => lhs; whnf
  have hg : gapB c = false := by rw [gap_in]; simp [h1, h2, h3, h4]
  rw [hg]
  have n1 : (c.toNat : Int) ≠ 32 := u8_ne h1
  have n2 : (c.toNat : Int) ≠ 9 := u8_ne h2
  have n3 : (c.toNat : Int) ≠ 13 := u8_ne h3
  have n4 : (c.toNat : Int) ≠ 10 := u8_ne h4
  repeat' (first | refine a_f ?_ | refine st_nil ?_ | refine tri_seq ?_ | refine tri_region rfl ?_ | refine a_draw ?_ | (apply st_r rfl; case hq => first | exact a_lens | exact a_index | exact a_add | exact a_adds0 | exact a_addsc | exact a_adds | exact a_sub | exact a_slo | exact a_shi | exact a_slh | exact a_lensl | exact a_lenro | exact a_lennil | exact a_lenpts | exact a_field | exact a_fielde | exact a_fieldr | exact a_idxsl | exact a_load | exact a_loada | exact a_mki | exact a_build2 | exact a_build3 | exact a_build1 | exact a_build0 | exact a_bs1 | exact a_bs2 | exact a_bs3 | exact a_bs4 | exact a_bsa | exact a_boxr) | (apply st_rif rfl; (case hq => first | exact a_lss | exact a_gtr | exact a_eql | exact a_neq | exact a_eqls0 | exact a_neqs0 | exact a_eqls | exact a_neqs | exact a_leq | exact a_geq); all_goals (intro _; try (exfalso; first | omega | contradiction))) | (apply st_rw rfl rfl; case hq => first | exact a_store) | refine tri_true rfl ?_ | refine tri_false rfl ?_ | refine tri_block ?_ | refine tri_skip ?_ | refine tri_ret ?_ | refine tri_exit ?_)
  all_goals
    refine And.intro trivial ?_
    conv => lhs; whnf
theorem escB_take {s : B} {i : Nat} {c : UInt8} (h : s[i]? = some c) : escB (s.take i) ++ escC1 c = escB (s.take (i + 1)) := by
  rw [List.take_add_one, h]
  simp [escB]
theorem escC1_len (c : UInt8) : (escC1 c).length ≤ 6 := by
  unfold escC1
  repeat' split
  all_goals simp [ampW, quotW, aposW, ltW, gtW]
theorem escB_le6 (v : B) : (escB v).length ≤ 6 * v.length := by
  induction v with
  | nil => simp [escB]
  | cons c v ih =>
    have e : escB (c :: v) = escC1 c ++ escB v := by simp [escB]
    have h := escC1_len c
    rw [e, List.length_append, List.length_cons]; omega
set_option maxHeartbeats 8000000 in
theorem rescape_c (s : B) (hs : s.length ≤ 1000000) : CPure gx 31 [.str s] (.str (escB s)) := by
  refine cpure_of Tryz.func31 rfl (Nat.le_of_ble_eq_true rfl) rfl (fun w hw => ?_)
  repeat' (first | refine a_f ?_ | refine st_nil ?_ | refine tri_seq ?_ | refine tri_region rfl ?_ | refine a_draw ?_ | (apply st_r rfl; case hq => first | exact a_lens | exact a_index | exact a_add | exact a_adds0 | exact a_addsc | exact a_adds | exact a_sub | exact a_slo | exact a_shi | exact a_slh | exact a_lensl | exact a_lenro | exact a_lennil | exact a_lenpts | exact a_field | exact a_fielde | exact a_fieldr | exact a_idxsl | exact a_load | exact a_loada | exact a_mki | exact a_build2 | exact a_build3 | exact a_build1 | exact a_build0 | exact a_bs1 | exact a_bs2 | exact a_bs3 | exact a_bs4 | exact a_bsa | exact a_boxr) | (apply st_rif rfl; (case hq => first | exact a_lss | exact a_gtr | exact a_eql | exact a_neq | exact a_eqls0 | exact a_neqs0 | exact a_eqls | exact a_neqs | exact a_leq | exact a_geq); all_goals (intro _; try (exfalso; first | omega | contradiction))) | (apply st_rw rfl rfl; case hq => first | exact a_store) | refine tri_true rfl ?_ | refine tri_false rfl ?_ | refine tri_block ?_ | refine tri_skip ?_ | refine tri_ret ?_ | refine tri_exit ?_)
  refine tri_loop (fun (i : Nat) => i ≤ s.length) (fun i => st [(0, .str s), (2, .str []), (3, .str (escB (s.take i))), (7, .int .i64 s.length), (8, .int .i64 i)] []) (fun i => s.length - i) 0 (Nat.zero_le _) ?hw (fun i hi => ?_)
  case hw => exact weak_st ⟨rfl, rfl, rfl, rfl, rfl, trivial⟩ trivial
  by_cases hil : i < s.length
  · have hg : s[i]? = some s[i] := List.getElem?_eq_getElem hil
    generalize s[i] = c at hg
    have hst := escB_take hg
    have hc : c.toNat < 256 := c.toNat_lt
    have hcl : (s.take (i + 1)).drop i = [c] := by
      rw [List.take_add_one, hg, List.drop_append_of_le_length (by rw [List.length_take]; omega), List.drop_eq_nil_of_le (by rw [List.length_take]; omega)]; rfl
    have hel := escB_le6 (s.take i)
    rw [List.length_take, Nat.min_eq_left (by omega)] at hel
    have hx : escC1 c = if c = 38 then ampW else if c = 34 then quotW else if c = 39 then aposW else if c = 60 then ltW else if c = 62 then gtW else [c] := rfl
    have hcl6 := escC1_len c
    generalize hX : escC1 c = X at hst hx hcl6
    have hfin : ∀ Y : B, (Y = X) → (AV.str (escB (s.take i) ++ Y)) = AV.str (escB (s.take (i + 1))) := fun Y h => by rw [h, hst]
    by_cases h1 : c = 38
    · have n1 : (c.toNat : Int) = 38 := by rw [h1]; rfl
      replace hx : ampW = X := by rw [hx, h1]; rfl
      repeat' (first | refine a_f ?_ | refine st_nil ?_ | refine tri_seq ?_ | refine tri_region rfl ?_ | refine a_draw ?_ | (apply st_r rfl; case hq => first | exact q_slice_lhE (m' := i) (n' := i + 1) (by conv => lhs; whnf) (by conv => lhs; whnf) (by conv => lhs; whnf) (by omega) (by omega) (by kernel_rfl) (by omega) (by omega) hcl | exact q_indexE (i' := i) (c := c) (by conv => lhs; whnf) (by conv => lhs; whnf) (by omega) (by kernel_rfl) hg | exact q_adds (v := [38, 97, 109, 112, 59]) (by conv => lhs; whnf) rfl (by first | omega | (simp only [List.length_append, List.length_cons, List.length_nil, List.length_take, List.length_drop]; omega)) | exact a_lens | exact a_index | exact a_add | exact a_adds0 | exact a_addsc | exact a_adds | exact a_sub | exact a_slo | exact a_shi | exact a_slh | exact a_lensl | exact a_lenro | exact a_lennil | exact a_lenpts | exact a_field | exact a_fielde | exact a_fieldr | exact a_idxsl | exact a_load | exact a_loada | exact a_mki | exact a_build2 | exact a_build3 | exact a_build1 | exact a_build0 | exact a_bs1 | exact a_bs2 | exact a_bs3 | exact a_bs4 | exact a_bsa | exact a_boxr) | (apply st_rif rfl; (case hq => first | exact a_lss | exact a_gtr | exact a_eql | exact a_neq | exact a_eqls0 | exact a_neqs0 | exact a_eqls | exact a_neqs | exact a_leq | exact a_geq); all_goals (intro _; try (exfalso; first | omega | contradiction))) | (apply st_rw rfl rfl; case hq => first | exact a_store) | refine tri_true rfl ?_ | refine tri_false rfl ?_ | refine tri_block ?_ | refine tri_skip ?_ | refine tri_ret ?_ | refine tri_exit ?_)
      all_goals exact loop_next (i + 1) (by omega) (weak_st ⟨rfl, rfl, hfin _ hx, rfl, rfl, trivial⟩ trivial) (show s.length - (i + 1) < s.length - i by omega)
    by_cases h2 : c = 34
    · have n2 : (c.toNat : Int) = 34 := by rw [h2]; rfl
      replace hx : quotW = X := by rw [hx, h2]; rfl
      repeat' (first | refine a_f ?_ | refine st_nil ?_ | refine tri_seq ?_ | refine tri_region rfl ?_ | refine a_draw ?_ | (apply st_r rfl; case hq => first | exact q_slice_lhE (m' := i) (n' := i + 1) (by conv => lhs; whnf) (by conv => lhs; whnf) (by conv => lhs; whnf) (by omega) (by omega) (by kernel_rfl) (by omega) (by omega) hcl | exact q_indexE (i' := i) (c := c) (by conv => lhs; whnf) (by conv => lhs; whnf) (by omega) (by kernel_rfl) hg | exact q_adds (v := [38, 113, 117, 111, 116, 59]) (by conv => lhs; whnf) rfl (by first | omega | (simp only [List.length_append, List.length_cons, List.length_nil, List.length_take, List.length_drop]; omega)) | exact a_lens | exact a_index | exact a_add | exact a_adds0 | exact a_addsc | exact a_adds | exact a_sub | exact a_slo | exact a_shi | exact a_slh | exact a_lensl | exact a_lenro | exact a_lennil | exact a_lenpts | exact a_field | exact a_fielde | exact a_fieldr | exact a_idxsl | exact a_load | exact a_loada | exact a_mki | exact a_build2 | exact a_build3 | exact a_build1 | exact a_build0 | exact a_bs1 | exact a_bs2 | exact a_bs3 | exact a_bs4 | exact a_bsa | exact a_boxr) | (apply st_rif rfl; (case hq => first | exact a_lss | exact a_gtr | exact a_eql | exact a_neq | exact a_eqls0 | exact a_neqs0 | exact a_eqls | exact a_neqs | exact a_leq | exact a_geq); all_goals (intro _; try (exfalso; first | omega | contradiction))) | (apply st_rw rfl rfl; case hq => first | exact a_store) | refine tri_true rfl ?_ | refine tri_false rfl ?_ | refine tri_block ?_ | refine tri_skip ?_ | refine tri_ret ?_ | refine tri_exit ?_)
      all_goals exact loop_next (i + 1) (by omega) (weak_st ⟨rfl, rfl, hfin _ hx, rfl, rfl, trivial⟩ trivial) (show s.length - (i + 1) < s.length - i by omega)
    by_cases h3 : c = 39
    · have n3 : (c.toNat : Int) = 39 := by rw [h3]; rfl
      replace hx : aposW = X := by rw [hx, h3]; rfl
      repeat' (first | refine a_f ?_ | refine st_nil ?_ | refine tri_seq ?_ | refine tri_region rfl ?_ | refine a_draw ?_ | (apply st_r rfl; case hq => first | exact q_slice_lhE (m' := i) (n' := i + 1) (by conv => lhs; whnf) (by conv => lhs; whnf) (by conv => lhs; whnf) (by omega) (by omega) (by kernel_rfl) (by omega) (by omega) hcl | exact q_indexE (i' := i) (c := c) (by conv => lhs; whnf) (by conv => lhs; whnf) (by omega) (by kernel_rfl) hg | exact q_adds (v := [38, 35, 51, 57, 59]) (by conv => lhs; whnf) rfl (by first | omega | (simp only [List.length_append, List.length_cons, List.length_nil, List.length_take, List.length_drop]; omega)) | exact a_lens | exact a_index | exact a_add | exact a_adds0 | exact a_addsc | exact a_adds | exact a_sub | exact a_slo | exact a_shi | exact a_slh | exact a_lensl | exact a_lenro | exact a_lennil | exact a_lenpts | exact a_field | exact a_fielde | exact a_fieldr | exact a_idxsl | exact a_load | exact a_loada | exact a_mki | exact a_build2 | exact a_build3 | exact a_build1 | exact a_build0 | exact a_bs1 | exact a_bs2 | exact a_bs3 | exact a_bs4 | exact a_bsa | exact a_boxr) | (apply st_rif rfl; (case hq => first | exact a_lss | exact a_gtr | exact a_eql | exact a_neq | exact a_eqls0 | exact a_neqs0 | exact a_eqls | exact a_neqs | exact a_leq | exact a_geq); all_goals (intro _; try (exfalso; first | omega | contradiction))) | (apply st_rw rfl rfl; case hq => first | exact a_store) | refine tri_true rfl ?_ | refine tri_false rfl ?_ | refine tri_block ?_ | refine tri_skip ?_ | refine tri_ret ?_ | refine tri_exit ?_)
      all_goals exact loop_next (i + 1) (by omega) (weak_st ⟨rfl, rfl, hfin _ hx, rfl, rfl, trivial⟩ trivial) (show s.length - (i + 1) < s.length - i by omega)
    by_cases h4 : c = 60
    · have n4 : (c.toNat : Int) = 60 := by rw [h4]; rfl
      replace hx : ltW = X := by rw [hx, h4]; rfl
      repeat' (first | refine a_f ?_ | refine st_nil ?_ | refine tri_seq ?_ | refine tri_region rfl ?_ | refine a_draw ?_ | (apply st_r rfl; case hq => first | exact q_slice_lhE (m' := i) (n' := i + 1) (by conv => lhs; whnf) (by conv => lhs; whnf) (by conv => lhs; whnf) (by omega) (by omega) (by kernel_rfl) (by omega) (by omega) hcl | exact q_indexE (i' := i) (c := c) (by conv => lhs; whnf) (by conv => lhs; whnf) (by omega) (by kernel_rfl) hg | exact q_adds (v := [38, 108, 116, 59]) (by conv => lhs; whnf) rfl (by first | omega | (simp only [List.length_append, List.length_cons, List.length_nil, List.length_take, List.length_drop]; omega)) | exact a_lens | exact a_index | exact a_add | exact a_adds0 | exact a_addsc | exact a_adds | exact a_sub | exact a_slo | exact a_shi | exact a_slh | exact a_lensl | exact a_lenro | exact a_lennil | exact a_lenpts | exact a_field | exact a_fielde | exact a_fieldr | exact a_idxsl | exact a_load | exact a_loada | exact a_mki | exact a_build2 | exact a_build3 | exact a_build1 | exact a_build0 | exact a_bs1 | exact a_bs2 | exact a_bs3 | exact a_bs4 | exact a_bsa | exact a_boxr) | (apply st_rif rfl; (case hq => first | exact a_lss | exact a_gtr | exact a_eql | exact a_neq | exact a_eqls0 | exact a_neqs0 | exact a_eqls | exact a_neqs | exact a_leq | exact a_geq); all_goals (intro _; try (exfalso; first | omega | contradiction))) | (apply st_rw rfl rfl; case hq => first | exact a_store) | refine tri_true rfl ?_ | refine tri_false rfl ?_ | refine tri_block ?_ | refine tri_skip ?_ | refine tri_ret ?_ | refine tri_exit ?_)
      all_goals exact loop_next (i + 1) (by omega) (weak_st ⟨rfl, rfl, hfin _ hx, rfl, rfl, trivial⟩ trivial) (show s.length - (i + 1) < s.length - i by omega)
    by_cases h5 : c = 62
    · have n5 : (c.toNat : Int) = 62 := by rw [h5]; rfl
      replace hx : gtW = X := by rw [hx, h5]; rfl
      repeat' (first | refine a_f ?_ | refine st_nil ?_ | refine tri_seq ?_ | refine tri_region rfl ?_ | refine a_draw ?_ | (apply st_r rfl; case hq => first | exact q_slice_lhE (m' := i) (n' := i + 1) (by conv => lhs; whnf) (by conv => lhs; whnf) (by conv => lhs; whnf) (by omega) (by omega) (by kernel_rfl) (by omega) (by omega) hcl | exact q_indexE (i' := i) (c := c) (by conv => lhs; whnf) (by conv => lhs; whnf) (by omega) (by kernel_rfl) hg | exact q_adds (v := [38, 103, 116, 59]) (by conv => lhs; whnf) rfl (by first | omega | (simp only [List.length_append, List.length_cons, List.length_nil, List.length_take, List.length_drop]; omega)) | exact a_lens | exact a_index | exact a_add | exact a_adds0 | exact a_addsc | exact a_adds | exact a_sub | exact a_slo | exact a_shi | exact a_slh | exact a_lensl | exact a_lenro | exact a_lennil | exact a_lenpts | exact a_field | exact a_fielde | exact a_fieldr | exact a_idxsl | exact a_load | exact a_loada | exact a_mki | exact a_build2 | exact a_build3 | exact a_build1 | exact a_build0 | exact a_bs1 | exact a_bs2 | exact a_bs3 | exact a_bs4 | exact a_bsa | exact a_boxr) | (apply st_rif rfl; (case hq => first | exact a_lss | exact a_gtr | exact a_eql | exact a_neq | exact a_eqls0 | exact a_neqs0 | exact a_eqls | exact a_neqs | exact a_leq | exact a_geq); all_goals (intro _; try (exfalso; first | omega | contradiction))) | (apply st_rw rfl rfl; case hq => first | exact a_store) | refine tri_true rfl ?_ | refine tri_false rfl ?_ | refine tri_block ?_ | refine tri_skip ?_ | refine tri_ret ?_ | refine tri_exit ?_)
      all_goals exact loop_next (i + 1) (by omega) (weak_st ⟨rfl, rfl, hfin _ hx, rfl, rfl, trivial⟩ trivial) (show s.length - (i + 1) < s.length - i by omega)
    rw [if_neg h1, if_neg h2, if_neg h3, if_neg h4, if_neg h5] at hx
    have n1 : (c.toNat : Int) ≠ 38 := u8_ne h1
    have n2 : (c.toNat : Int) ≠ 34 := u8_ne h2
    have n3 : (c.toNat : Int) ≠ 39 := u8_ne h3
    have n4 : (c.toNat : Int) ≠ 60 := u8_ne h4
    have n5 : (c.toNat : Int) ≠ 62 := u8_ne h5
    repeat' (first | refine a_f ?_ | refine st_nil ?_ | refine tri_seq ?_ | refine tri_region rfl ?_ | refine a_draw ?_ | (apply st_r rfl; case hq => first | exact q_slice_lhE (m' := i) (n' := i + 1) (by conv => lhs; whnf) (by conv => lhs; whnf) (by conv => lhs; whnf) (by omega) (by omega) (by kernel_rfl) (by omega) (by omega) hcl | exact q_indexE (i' := i) (c := c) (by conv => lhs; whnf) (by conv => lhs; whnf) (by omega) (by kernel_rfl) hg | exact q_adds (v := [c]) (by conv => lhs; whnf) (by conv => lhs; whnf) (by first | omega | (simp only [List.length_append, List.length_cons, List.length_nil, List.length_take, List.length_drop]; omega)) | exact a_lens | exact a_index | exact a_add | exact a_adds0 | exact a_addsc | exact a_adds | exact a_sub | exact a_slo | exact a_shi | exact a_slh | exact a_lensl | exact a_lenro | exact a_lennil | exact a_lenpts | exact a_field | exact a_fielde | exact a_fieldr | exact a_idxsl | exact a_load | exact a_loada | exact a_mki | exact a_build2 | exact a_build3 | exact a_build1 | exact a_build0 | exact a_bs1 | exact a_bs2 | exact a_bs3 | exact a_bs4 | exact a_bsa | exact a_boxr) | (apply st_rif rfl; (case hq => first | exact a_lss | exact a_gtr | exact a_eql | exact a_neq | exact a_eqls0 | exact a_neqs0 | exact a_eqls | exact a_neqs | exact a_leq | exact a_geq); all_goals (intro _; try (exfalso; first | omega | contradiction))) | (apply st_rw rfl rfl; case hq => first | exact a_store) | refine tri_true rfl ?_ | refine tri_false rfl ?_ | refine tri_block ?_ | refine tri_skip ?_ | refine tri_ret ?_ | refine tri_exit ?_)
    all_goals exact loop_next (i + 1) (by omega) (weak_st ⟨rfl, rfl, hfin _ hx.symm, rfl, rfl, trivial⟩ trivial) (show s.length - (i + 1) < s.length - i by omega)
  · rw [List.take_of_length_le (by omega)]
    repeat' (first | refine a_f ?_ | refine st_nil ?_ | refine tri_seq ?_ | refine tri_region rfl ?_ | refine a_draw ?_ | (apply st_r rfl; case hq => first | exact a_lens | exact a_index | exact a_add | exact a_adds0 | exact a_addsc | exact a_adds | exact a_sub | exact a_slo | exact a_shi | exact a_slh | exact a_lensl | exact a_lenro | exact a_lennil | exact a_lenpts | exact a_field | exact a_fielde | exact a_fieldr | exact a_idxsl | exact a_load | exact a_loada | exact a_mki | exact a_build2 | exact a_build3 | exact a_build1 | exact a_build0 | exact a_bs1 | exact a_bs2 | exact a_bs3 | exact a_bs4 | exact a_bsa | exact a_boxr) | (apply st_rif rfl; (case hq => first | exact a_lss | exact a_gtr | exact a_eql | exact a_neq | exact a_eqls0 | exact a_neqs0 | exact a_eqls | exact a_neqs | exact a_leq | exact a_geq); all_goals (intro _; try (exfalso; first | omega | contradiction))) | (apply st_rw rfl rfl; case hq => first | exact a_store) | refine tri_true rfl ?_ | refine tri_false rfl ?_ | refine tri_block ?_ | refine tri_skip ?_ | refine tri_ret ?_ | refine tri_exit ?_)
    refine And.intro trivial ?_
    conv => lhs; whnf
end
end Go.Proofs.YtignjjnflcpiiaaGreatDoor
namespace Go.Proofs.YtignjjnflcpiiaaGreatDoor
open Go.RowKit
set_option maxRecDepth 100000

/-- the word that stands here, by the last that fits -/
def wrd (j : Nat) : B × B := signL.getD j ([], [])
def uf (r : B) (c : UInt8) : Nat → B × Nat
  | 0 => ([c], 1)
  | j + 1 => if (wrd j).2.isPrefixOf r = true then ((wrd j).1, (wrd j).2.length) else uf r c j
theorem uf_word (c : UInt8) (t : B) : unescB (c :: t) = (uf (c :: t) c 5).1 ++ unescB ((c :: t).drop (uf (c :: t) c 5).2) ∧ 1 ≤ (uf (c :: t) c 5).2 ∧ (uf (c :: t) c 5).2 ≤ (c :: t).length ∧ (uf (c :: t) c 5).1.length ≤ (uf (c :: t) c 5).2 := by
  have key : ∀ (d : UInt8) (W : B), W.isPrefixOf (c :: t) = true → wordAt (c :: t) = some (d, W.length) → uf (c :: t) c 5 = ([d], W.length) → 1 ≤ W.length →
      unescB (c :: t) = (uf (c :: t) c 5).1 ++ unescB ((c :: t).drop (uf (c :: t) c 5).2) ∧ 1 ≤ (uf (c :: t) c 5).2 ∧ (uf (c :: t) c 5).2 ≤ (c :: t).length ∧ (uf (c :: t) c 5).1.length ≤ (uf (c :: t) c 5).2 := by
    intro d W h1 h2 h3 h4
    rw [h3, unescB_word h2]
    exact ⟨rfl, h4, (List.isPrefixOf_iff_prefix.1 h1).length_le, h4⟩
  by_cases h1 : ampW.isPrefixOf (c :: t) = true
  · refine key 38 ampW h1 (by simp [wordAt, h1]; rfl) ?_ (by decide)
    obtain ⟨z, hz⟩ := List.isPrefixOf_iff_prefix.1 h1
    rw [← hz]
    simp [uf, wrd, signL, ampW, quotW, aposW, ltW, gtW, List.isPrefixOf]
  by_cases h2 : quotW.isPrefixOf (c :: t) = true
  · refine key 34 quotW h2 (by simp [wordAt, h1, h2]; rfl) ?_ (by decide)
    obtain ⟨z, hz⟩ := List.isPrefixOf_iff_prefix.1 h2
    rw [← hz]
    simp [uf, wrd, signL, ampW, quotW, aposW, ltW, gtW, List.isPrefixOf]
  by_cases h3 : aposW.isPrefixOf (c :: t) = true
  · refine key 39 aposW h3 (by simp [wordAt, h1, h2, h3]; rfl) ?_ (by decide)
    obtain ⟨z, hz⟩ := List.isPrefixOf_iff_prefix.1 h3
    rw [← hz]
    simp [uf, wrd, signL, ampW, quotW, aposW, ltW, gtW, List.isPrefixOf]
  by_cases h4 : ltW.isPrefixOf (c :: t) = true
  · refine key 60 ltW h4 (by simp [wordAt, h1, h2, h3, h4]; rfl) ?_ (by decide)
    obtain ⟨z, hz⟩ := List.isPrefixOf_iff_prefix.1 h4
    rw [← hz]
    simp [uf, wrd, signL, ampW, quotW, aposW, ltW, gtW, List.isPrefixOf]
  by_cases h5 : gtW.isPrefixOf (c :: t) = true
  · refine key 62 gtW h5 (by simp [wordAt, h1, h2, h3, h4, h5]; rfl) ?_ (by decide)
    obtain ⟨z, hz⟩ := List.isPrefixOf_iff_prefix.1 h5
    rw [← hz]
    simp [uf, wrd, signL, ampW, quotW, aposW, ltW, gtW, List.isPrefixOf]
  have hn : wordAt (c :: t) = none := by simp [wordAt, h1, h2, h3, h4, h5]
  have hu : uf (c :: t) c 5 = ([c], 1) := by simp [uf, wrd, signL, h1, h2, h3, h4, h5]
  rw [hu, unescB_one hn]
  exact ⟨rfl, Nat.le_refl _, by simp, Nat.le_refl _⟩
/-- each word behind its sign -/
def wordS : List B := [[38, 38, 97, 109, 112, 59], [34, 38, 113, 117, 111, 116, 59], [39, 38, 35, 51, 57, 59], [60, 38, 108, 116, 59], [62, 38, 103, 116, 59]]
theorem word_at {j : Nat} (h : j < 5) : (nmRows wordS)[(j : Int).toNat]? = some [.str (wordS.getD j [])] ∧ (wordS.getD j []).drop 1 = (wrd j).2 ∧ (wordS.getD j []).take 1 = (wrd j).1 ∧ (wordS.getD j []).length = (wrd j).2.length + 1 ∧ (wrd j).2.length ≤ 6 := by
  match j, h with
  | 0, _ => exact ⟨rfl, rfl, rfl, rfl, by decide⟩
  | 1, _ => exact ⟨rfl, rfl, rfl, rfl, by decide⟩
  | 2, _ => exact ⟨rfl, rfl, rfl, rfl, by decide⟩
  | 3, _ => exact ⟨rfl, rfl, rfl, rfl, by decide⟩
  | 4, _ => exact ⟨rfl, rfl, rfl, rfl, by decide⟩
theorem uf_yes {r : B} {c : UInt8} {j : Nat} (h : (wrd j).2.isPrefixOf r = true) : uf r c (j + 1) = ((wrd j).1, (wrd j).2.length) := by rw [uf, if_pos h]
theorem uf_no {r : B} {c : UInt8} {j : Nat} (h : (wrd j).2.isPrefixOf r = false) : uf r c (j + 1) = uf r c j := by rw [uf, if_neg (by rw [h]; exact Bool.false_ne_true)]
section
attribute [local irreducible] Tri Steps Qd Wr Weak CPure CEff CNew CutN AllB Behind
set_option maxHeartbeats 4000000 in
theorem runescape_c (s : B) (hs : s.length ≤ 100000000) : CPure gx 119 [.str s] (.str (unescB s)) := by
  refine cpure_of Tryz.func119 rfl (Nat.le_of_ble_eq_true rfl) rfl (fun w hw => ?_)
  repeat' (first | refine a_f ?_ | refine st_nil ?_ | refine tri_seq ?_ | refine tri_region rfl ?_ | refine a_draw ?_ | (apply st_r rfl; case hq => first | exact a_lens | exact a_index | exact a_add | exact a_adds0 | exact a_addsc | exact a_adds | exact a_sub | exact a_slo | exact a_shi | exact a_slh | exact a_lensl | exact a_lenro | exact a_lennil | exact a_lenpts | exact a_field | exact a_fielde | exact a_fieldr | exact a_idxsl | exact a_load | exact a_loada | exact a_mki | exact a_build2 | exact a_build3 | exact a_build1 | exact a_build0 | exact a_bs1 | exact a_bs2 | exact a_bs3 | exact a_bs4 | exact a_bsa | exact a_boxr) | (apply st_rif rfl; (case hq => first | exact a_lss | exact a_gtr | exact a_eql | exact a_neq | exact a_eqls0 | exact a_neqs0 | exact a_eqls | exact a_neqs | exact a_leq | exact a_geq); all_goals (intro _; try (exfalso; first | omega | contradiction))) | (apply st_rw rfl rfl; case hq => first | exact a_store) | refine tri_true rfl ?_ | refine tri_false rfl ?_ | refine tri_block ?_ | refine tri_skip ?_ | refine tri_ret ?_ | refine tri_exit ?_)
  refine tri_loop (fun (x : B × B) => x.1 ++ unescB x.2 = unescB s ∧ x.1.length + x.2.length ≤ s.length) (fun x => st [(0, .str x.2), (2, .str []), (3, .str x.1)] []) (fun x => x.2.length) ([], s) ⟨rfl, by simp⟩ ?hw (fun x hx => ?_)
  case hw => exact weak_st ⟨rfl, rfl, rfl, trivial⟩ trivial
  obtain ⟨out, r⟩ := x
  change Tri _ _ (st [(0, .str r), (2, .str []), (3, .str out)] []) _
  obtain ⟨hu, hl⟩ := hx
  simp only at hu hl
  cases r with
  | nil =>
    rw [unescB_nil, List.append_nil] at hu
    repeat' (first | refine a_f ?_ | refine st_nil ?_ | refine tri_seq ?_ | refine tri_region rfl ?_ | refine a_draw ?_ | (apply st_r rfl; case hq => first | exact a_lens | exact a_index | exact a_add | exact a_adds0 | exact a_addsc | exact a_adds | exact a_sub | exact a_slo | exact a_shi | exact a_slh | exact a_lensl | exact a_lenro | exact a_lennil | exact a_lenpts | exact a_field | exact a_fielde | exact a_fieldr | exact a_idxsl | exact a_load | exact a_loada | exact a_mki | exact a_build2 | exact a_build3 | exact a_build1 | exact a_build0 | exact a_bs1 | exact a_bs2 | exact a_bs3 | exact a_bs4 | exact a_bsa | exact a_boxr) | (apply st_rif rfl; (case hq => first | exact a_lss | exact a_gtr | exact a_eql | exact a_neq | exact a_eqls0 | exact a_neqs0 | exact a_eqls | exact a_neqs | exact a_leq | exact a_geq); all_goals (intro _; try (exfalso; first | omega | contradiction))) | (apply st_rw rfl rfl; case hq => first | exact a_store) | refine tri_true rfl ?_ | refine tri_false rfl ?_ | refine tri_block ?_ | refine tri_skip ?_ | refine tri_ret ?_ | refine tri_exit ?_)
    refine And.intro trivial ?_
    conv => lhs; whnf
    rw [hu]
  | cons c t =>
    have hne : (c :: t : B) ≠ [] := by simp
    simp only [List.length_cons] at hl
    obtain ⟨u1, u2, u3, u4⟩ := uf_word c t
    have t1 : (c :: t).take 1 = [c] := rfl
    have hu2 : out ++ ((uf (c :: t) c 5).1 ++ unescB ((c :: t).drop (uf (c :: t) c 5).2)) = unescB s := by rw [← u1]; exact hu
    simp only [List.length_cons] at u3
    repeat' (first | refine a_f ?_ | refine st_nil ?_ | refine tri_seq ?_ | refine tri_region rfl ?_ | refine a_draw ?_ | (apply st_r rfl; case hq => first | exact q_slice_hiE (n' := 1) (by conv => lhs; whnf) (by conv => lhs; whnf) (by rfl) (by kernel_rfl) (by simp) t1 | exact q_bs5 (by first | exact Tryz.underlying22 | exact Tryz.underlying23 | exact Tryz.underlying43 | exact Tryz.underlying44 | exact Tryz.underlying51 | exact Tryz.underlying86 | exact Tryz.underlying191 | exact Tryz.underlying209 | exact Tryz.underlying234 | exact Tryz.underlying270 | exact Tryz.underlying281 | exact Tryz.underlying344) (by kernel_rfl) (by kernel_rfl) (by conv => lhs; whnf) (by conv => lhs; whnf) (by conv => lhs; whnf) (by conv => lhs; whnf) (by conv => lhs; whnf) rfl rfl rfl rfl rfl | exact a_lens | exact a_index | exact a_add | exact a_adds0 | exact a_addsc | exact a_adds | exact a_sub | exact a_slo | exact a_shi | exact a_slh | exact a_lensl | exact a_lenro | exact a_lennil | exact a_lenpts | exact a_field | exact a_fielde | exact a_fieldr | exact a_idxsl | exact a_load | exact a_loada | exact a_mki | exact a_build2 | exact a_build3 | exact a_build1 | exact a_build0 | exact a_bs1 | exact a_bs2 | exact a_bs3 | exact a_bs4 | exact a_bsa | exact a_boxr) | (apply st_rif rfl; (case hq => first | exact a_lss | exact a_gtr | exact a_eql | exact a_neq | exact a_eqls0 | exact a_neqs0 | exact a_eqls | exact a_neqs | exact a_leq | exact a_geq); all_goals (intro _; try (exfalso; first | omega | contradiction))) | (apply st_rw rfl rfl; case hq => first | exact a_store) | refine tri_true rfl ?_ | refine tri_false rfl ?_ | refine tri_block ?_ | refine tri_skip ?_ | refine tri_ret ?_ | refine tri_exit ?_)
    refine tri_loop_to (fun (j : Nat) => j ≤ 5) (fun j => st [(0, .str (c :: t)), (2, .str []), (3, .str out), (4, .str (uf (c :: t) c j).1), (5, .int .i64 (uf (c :: t) c j).2), (12, .ro true 1 (nmRows wordS)), (13, .int .i64 5), (14, .int .i64 j)] []) (fun j => 5 - j)
      (fun (_ : Unit) => True) (fun _ => st [(0, .str (c :: t)), (2, .str []), (3, .str out), (4, .str (uf (c :: t) c 5).1), (5, .int .i64 (uf (c :: t) c 5).2)] []) 0 (Nat.zero_le _) ?hw2 weak_tri (fun j hj => ?_) (fun _ _ => ?_)
    case hw2 => exact weak_st ⟨rfl, rfl, rfl, rfl, rfl, rfl, rfl, rfl, trivial⟩ trivial
    · by_cases h5 : j < 5
      · obtain ⟨w1, w2, w3, w4, w5⟩ := word_at h5
        have C1 := pre_c (c :: t) (wrd j).2
        generalize wordS.getD j [] = ws at w1 w2 w3 w4
        have hwl : 1 ≤ ws.length := by omega
        have hrl : (nmRows wordS).length = 5 := rfl
        cases hp : Lib.hasPrefix (c :: t) (wrd j).2 <;> rw [hp] at C1
        · have e := uf_no (c := c) (show (wrd j).2.isPrefixOf (c :: t) = false from hp)
          repeat' (first | refine a_f ?_ | refine st_nil ?_ | refine tri_seq ?_ | refine tri_region rfl ?_ | refine a_draw ?_ | (apply st_r rfl; case hq => first | exact q_idxro (by conv => lhs; whnf) (by conv => lhs; whnf) (by first | exact Tryz.underlying22 | exact Tryz.underlying23 | exact Tryz.underlying43 | exact Tryz.underlying44 | exact Tryz.underlying51 | exact Tryz.underlying86 | exact Tryz.underlying191 | exact Tryz.underlying209 | exact Tryz.underlying234 | exact Tryz.underlying270 | exact Tryz.underlying281 | exact Tryz.underlying344) (by kernel_rfl) (by omega) w1 | exact q_loadr (by conv => lhs; whnf) (by conv => lhs; whnf) (by show scalB Tryz.prog _ = true; decide +kernel) (fun _ => rfl) | exact q_slice_loE (n' := 1) (by conv => lhs; whnf) (by conv => lhs; whnf) (by rfl) (by kernel_rfl) (by omega) w2 | exact q_slice_hiE (n' := 1) (by conv => lhs; whnf) (by conv => lhs; whnf) (by rfl) (by kernel_rfl) (by omega) w3 | exact q_call C1 (hcf := Tryz.call41) rfl rfl | exact a_lens | exact a_index | exact a_add | exact a_adds0 | exact a_addsc | exact a_adds | exact a_sub | exact a_slo | exact a_shi | exact a_slh | exact a_lensl | exact a_lenro | exact a_lennil | exact a_lenpts | exact a_field | exact a_fielde | exact a_fieldr | exact a_idxsl | exact a_load | exact a_loada | exact a_mki | exact a_build2 | exact a_build3 | exact a_build1 | exact a_build0 | exact a_bs1 | exact a_bs2 | exact a_bs3 | exact a_bs4 | exact a_bsa | exact a_boxr) | (apply st_rif rfl; (case hq => first | exact a_lss | exact a_gtr | exact a_eql | exact a_neq | exact a_eqls0 | exact a_neqs0 | exact a_eqls | exact a_neqs | exact a_leq | exact a_geq); all_goals (intro _; try (exfalso; first | omega | contradiction))) | (apply st_rw rfl rfl; case hq => first | exact a_store) | refine tri_true rfl ?_ | refine tri_false rfl ?_ | refine tri_block ?_ | refine tri_skip ?_ | refine tri_ret ?_ | refine tri_exit ?_)
          all_goals exact nextR (j + 1) (by omega) (weak_st ⟨rfl, rfl, rfl, by rw [e]; rfl, by rw [e]; rfl, rfl, rfl, rfl, trivial⟩ trivial) (show 5 - (j + 1) < 5 - j by omega)
        · have e := uf_yes (c := c) (show (wrd j).2.isPrefixOf (c :: t) = true from hp)
          have hsub : (ws.length : Int) - 1 = ((wrd j).2.length : Int) := by omega
          repeat' (first | refine a_f ?_ | refine st_nil ?_ | refine tri_seq ?_ | refine tri_region rfl ?_ | refine a_draw ?_ | (apply st_r rfl; case hq => first | exact q_idxro (by conv => lhs; whnf) (by conv => lhs; whnf) (by first | exact Tryz.underlying22 | exact Tryz.underlying23 | exact Tryz.underlying43 | exact Tryz.underlying44 | exact Tryz.underlying51 | exact Tryz.underlying86 | exact Tryz.underlying191 | exact Tryz.underlying209 | exact Tryz.underlying234 | exact Tryz.underlying270 | exact Tryz.underlying281 | exact Tryz.underlying344) (by kernel_rfl) (by omega) w1 | exact q_loadr (by conv => lhs; whnf) (by conv => lhs; whnf) (by show scalB Tryz.prog _ = true; decide +kernel) (fun _ => rfl) | exact q_slice_loE (n' := 1) (by conv => lhs; whnf) (by conv => lhs; whnf) (by rfl) (by kernel_rfl) (by omega) w2 | exact q_slice_hiE (n' := 1) (by conv => lhs; whnf) (by conv => lhs; whnf) (by rfl) (by kernel_rfl) (by omega) w3 | exact q_call C1 (hcf := Tryz.call41) rfl rfl | exact a_lens | exact a_index | exact a_add | exact a_adds0 | exact a_addsc | exact a_adds | exact a_sub | exact a_slo | exact a_shi | exact a_slh | exact a_lensl | exact a_lenro | exact a_lennil | exact a_lenpts | exact a_field | exact a_fielde | exact a_fieldr | exact a_idxsl | exact a_load | exact a_loada | exact a_mki | exact a_build2 | exact a_build3 | exact a_build1 | exact a_build0 | exact a_bs1 | exact a_bs2 | exact a_bs3 | exact a_bs4 | exact a_bsa | exact a_boxr) | (apply st_rif rfl; (case hq => first | exact a_lss | exact a_gtr | exact a_eql | exact a_neq | exact a_eqls0 | exact a_neqs0 | exact a_eqls | exact a_neqs | exact a_leq | exact a_geq); all_goals (intro _; try (exfalso; first | omega | contradiction))) | (apply st_rw rfl rfl; case hq => first | exact a_store) | refine tri_true rfl ?_ | refine tri_false rfl ?_ | refine tri_block ?_ | refine tri_skip ?_ | refine tri_ret ?_ | refine tri_exit ?_)
          all_goals exact nextR (j + 1) (by omega) (weak_st ⟨rfl, rfl, rfl, by rw [e]; rfl, by rw [e, ← hsub]; rfl, rfl, rfl, rfl, trivial⟩ trivial) (show 5 - (j + 1) < 5 - j by omega)
      · have e5 : j = 5 := by omega
        subst e5
        repeat' (first | refine a_f ?_ | refine st_nil ?_ | refine tri_seq ?_ | refine tri_region rfl ?_ | refine a_draw ?_ | (apply st_r rfl; case hq => first | exact a_lens | exact a_index | exact a_add | exact a_adds0 | exact a_addsc | exact a_adds | exact a_sub | exact a_slo | exact a_shi | exact a_slh | exact a_lensl | exact a_lenro | exact a_lennil | exact a_lenpts | exact a_field | exact a_fielde | exact a_fieldr | exact a_idxsl | exact a_load | exact a_loada | exact a_mki | exact a_build2 | exact a_build3 | exact a_build1 | exact a_build0 | exact a_bs1 | exact a_bs2 | exact a_bs3 | exact a_bs4 | exact a_bsa | exact a_boxr) | (apply st_rif rfl; (case hq => first | exact a_lss | exact a_gtr | exact a_eql | exact a_neq | exact a_eqls0 | exact a_neqs0 | exact a_eqls | exact a_neqs | exact a_leq | exact a_geq); all_goals (intro _; try (exfalso; first | omega | contradiction))) | (apply st_rw rfl rfl; case hq => first | exact a_store) | refine tri_true rfl ?_ | refine tri_false rfl ?_ | refine tri_block ?_ | refine tri_skip ?_ | refine tri_ret ?_ | refine tri_exit ?_)
        exact outR () trivial (weak_st ⟨rfl, rfl, rfl, rfl, rfl, trivial⟩ trivial)
    generalize uf (c :: t) c 5 = p at u2 u3 u4 hu2
    obtain ⟨p1, p2⟩ := p
    simp only at u2 u3 u4 hu2
    repeat' (first | refine a_f ?_ | refine st_nil ?_ | refine tri_seq ?_ | refine tri_region rfl ?_ | refine a_draw ?_ | (apply st_r rfl; case hq => first | exact q_slice_loE (n' := p2) (l := (c :: t).drop p2) (by conv => lhs; whnf) (by conv => lhs; whnf) (by rfl) (by kernel_rfl) (by simp only [List.length_cons]; omega) rfl | exact q_adds (by conv => lhs; whnf) (by conv => lhs; whnf) (by first | omega | (simp only [List.length_append, List.length_cons, List.length_nil, List.length_take, List.length_drop]; omega)) | exact a_lens | exact a_index | exact a_add | exact a_adds0 | exact a_addsc | exact a_adds | exact a_sub | exact a_slo | exact a_shi | exact a_slh | exact a_lensl | exact a_lenro | exact a_lennil | exact a_lenpts | exact a_field | exact a_fielde | exact a_fieldr | exact a_idxsl | exact a_load | exact a_loada | exact a_mki | exact a_build2 | exact a_build3 | exact a_build1 | exact a_build0 | exact a_bs1 | exact a_bs2 | exact a_bs3 | exact a_bs4 | exact a_bsa | exact a_boxr) | (apply st_rif rfl; (case hq => first | exact a_lss | exact a_gtr | exact a_eql | exact a_neq | exact a_eqls0 | exact a_neqs0 | exact a_eqls | exact a_neqs | exact a_leq | exact a_geq); all_goals (intro _; try (exfalso; first | omega | contradiction))) | (apply st_rw rfl rfl; case hq => first | exact a_store) | refine tri_true rfl ?_ | refine tri_false rfl ?_ | refine tri_block ?_ | refine tri_skip ?_ | refine tri_ret ?_ | refine tri_exit ?_)
    exact Exists.intro (out ++ p1, (c :: t).drop p2) (And.intro ⟨by simp only; rw [← hu2]; simp, by simp only [List.length_append, List.length_drop, List.length_cons]; omega⟩ (And.intro (weak_st ⟨rfl, rfl, rfl, trivial⟩ trivial) (show ((c :: t).drop p2).length < (c :: t).length by rw [List.length_drop]; simp only [List.length_cons]; omega)))
end
end Go.Proofs.YtignjjnflcpiiaaGreatDoor
