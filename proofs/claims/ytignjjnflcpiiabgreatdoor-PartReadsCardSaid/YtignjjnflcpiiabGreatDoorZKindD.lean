import Derived.Test.YtignjjnflcpiiabGreatDoorZKindC
import Derived.Test.YtignjjnflcpiiabGreatDoorZIdx
import Derived.Test.YtignjjnflcpiiabGreatDoorZBl
import Derived.Test.YtignjjnflcpiiabGreatDoorZVm4
set_option linter.unusedVariables false
set_option linter.unusedSimpArgs false
set_option maxHeartbeats 1000000
namespace Go.Proofs.YtignjjnflcpiiabGreatDoor
open Go.RowKit
attribute [local irreducible] Tri Steps Qd Wr Weak CPure CEff Tree TreeW TreeQ
set_option maxRecDepth 100000
def wrG (f : Nat) (o : Oper) : Bool := wrB o || match o.op with
  | .call c => match c.callee with
    | .value (.func g) => Nat.beq g f
    | _ => false
  | _ => false
theorem zBld : zeroL Tryz.prog BT = some [.nilp, .nils] := by kernel_rfl
theorem hasPrefix_c (s p : B) : CPure gx 33 [.str s, .str p] (.bool (Lib.hasPrefix s p)) :=
  cpure_val rfl rfl fun w _ => (Tryz.strings_HasPrefix ⟨s.toArray⟩ ⟨p.toArray⟩ w).mono fun e w' h => ⟨h.1, h.2 ▸ ext_refl w⟩
theorem pre1 (s : B) (c : UInt8) : Lib.hasPrefix s [c] = hd s c := by
  cases s with
  | nil => rfl
  | cons x r =>
    show ([c] : B).isPrefixOf (x :: r) = (x == c)
    simp only [List.isPrefixOf, Bool.and_true]
    rw [Bool.eq_iff_iff, beq_iff_eq, beq_iff_eq]
    exact eq_comm
def kOf (s : B) : Nat := if Lib.indexAny s [59, 32, 9] < 0 then s.length else (Lib.indexAny s [59, 32, 9]).toNat
theorem kOf_le (s : B) : kOf s ≤ s.length := by
  rw [kOf, indexAny_span]
  exact (List.takeWhile_sublist _).length_le
def saidF (s : B) : Bool × B × B := if hd s 34 = true then (if (quoF [] (s.drop 1)).1 = true then quoF [] (s.drop 1) else (false, [], [])) else (tokQ tokC (s.take (kOf s)), s.take (kOf s), s.drop (kOf s))
theorem saidF_eq (s : B) : saidP tokC s = match (saidF s).1 with
    | true => some (saidF s).2
    | false => none := by
  unfold saidP saidF
  cases s with
  | nil => rfl
  | cons c r =>
    by_cases hc : c = 34
    · subst hc
      show quo [] r = _
      rw [quoF_eq _ r (Nat.le_refl _)]
      rw [show hd (34 :: r) 34 = true from rfl, if_pos rfl, show (34 :: r).drop 1 = r from rfl]
      cases h : (quoF [] r).1 <;> simp [h]
    · rw [show hd (c :: r) 34 = false by show (c == 34) = false; simpa using hc]
      split
      · rename_i h; simp only [List.cons.injEq] at h; exact absurd h.1 hc
      · unfold kOf
        cases ht : tokQ tokC ((c :: r).take (if Lib.indexAny (c :: r) [59, 32, 9] < 0 then (c :: r).length else (Lib.indexAny (c :: r) [59, 32, 9]).toNat)) <;> simp [ht]
theorem quoI_q {out s : B} {i : Nat} (h : i < s.length) (hc : s.getD (i : Int).toNat 0 = 34) : quoF out (s.drop i) = (true, out, s.drop (i + 1)) := by
  rw [quoF_q' (List.length_pos_iff.1 (by simp; omega)) (by rw [List.getD_eq_getElem?_getD, List.getElem?_drop, ← List.getD_eq_getElem?_getD]; simpa using hc), List.drop_drop]
theorem getD_drop (s : B) (i k : Nat) : (s.drop i).getD k 0 = s.getD (i + k) 0 := by
  rw [List.getD_eq_getElem?_getD, List.getElem?_drop, ← List.getD_eq_getElem?_getD]
theorem quoI_e {out s : B} {i : Nat} (h : i + 1 < s.length) (hc : s.getD (i : Int).toNat 0 = 92) : quoF out (s.drop i) = if vis (s.getD ((i : Int) + 1).toNat 0) = true then quoF (out ++ [s.getD ((i : Int) + 1).toNat 0]) (s.drop (i + 2)) else (false, [], s.drop (i + 1)) := by
  have e : ((s.drop i).drop 1).getD (Int.toNat 0) 0 = s.getD ((i : Int) + 1).toNat 0 := by
    rw [List.drop_drop, getD_drop]; rfl
  rw [quoF_e' (by simp; omega) (by rw [getD_drop]; simpa using hc), e, List.drop_drop, List.drop_drop, List.drop_drop]
theorem quoI_c {out s : B} {i : Nat} (h : i < s.length) (hc : s.getD (i : Int).toNat 0 ≠ 34) (h9 : s.getD (i : Int).toNat 0 = 92 → ¬ i + 1 < s.length) : quoF out (s.drop i) = if vis (s.getD (i : Int).toNat 0) = true then quoF (out ++ [s.getD (i : Int).toNat 0]) (s.drop (i + 1)) else (false, [], s.drop i) := by
  have e : (s.drop i).getD (Int.toNat 0) 0 = s.getD (i : Int).toNat 0 := by rw [getD_drop]; simp
  rw [quoF_c' (List.length_pos_iff.1 (by simp; omega)) (by rw [e]; exact hc) (by rw [e]; intro h'; have := h9 h'; simp; omega), e, List.drop_drop]
theorem quoI_n {out s : B} {i : Nat} (h : ¬ i < s.length) : quoF out (s.drop i) = (false, [], []) := by
  rw [List.drop_eq_nil_of_le (by omega), quoF.eq_def]
def saAV (x : Bool × B × B) : AV := .tup [.str x.2.1, .str x.2.2, .bool x.1]
theorem low3 : low7 [59, 32, 9] := fun j => by
  match j with
  | 0 => decide
  | 1 => decide
  | 2 => decide
  | j + 3 => simp
set_option maxHeartbeats 8000000 in
theorem said_c (s : B) (hs : s.length ≤ 1000000) : CPure gx 82 [.str s] (saAV (saidF s)) := by
  refine cpure_of Tryz.func82 rfl (Nat.le_of_ble_eq_true rfl) rfl (fun w hw => ?_)
  have P1 := hasPrefix_c s [34]
  rw [pre1] at P1
  cases hq : hd s 34 <;> rw [hq] at P1
  · have I1 := indexAny_c s [59, 32, 9] (by omega) (by decide) (by decide) low3
    have T1 := token_c (s.take (kOf s))
    rw [tokQ_eq] at T1
    have hk := kOf_le s
    have hge := Lib.indexAny_ge [59, 32, 9] s
    have hsf : saidF s = (tokQ tokC (s.take (kOf s)), s.take (kOf s), s.drop (kOf s)) := by rw [saidF, hq]; rfl
    by_cases hn : Lib.indexAny s [59, 32, 9] < 0
    · have hk' : kOf s = s.length := by rw [kOf, if_pos hn]
      have ek : ((s.length : Int)).toNat = kOf s := by omega
      rw [← ek] at T1
      repeat' (first | refine a_f ?_ | refine st_nil ?_ | refine tri_seq ?_ | refine tri_region rfl ?_ | refine a_draw ?_ | (apply st_r rfl; case hq => first | exact q_call P1 (hcf := Tryz.call33) rfl rfl | exact q_call I1 (hcf := Tryz.call109) rfl rfl | exact q_call T1 (hcf := Tryz.call78) rfl rfl | exact a_lens | exact a_index | exact a_add | exact a_adds0 | exact a_addsc | exact a_adds | exact a_sub | exact a_slo | exact a_shi | exact a_slh | exact a_lensl | exact a_lenro | exact a_lennil | exact a_lenpts | exact a_field | exact a_fielde | exact a_fieldr | exact a_idxsl | exact a_load | exact a_loada | exact a_mki | exact a_build2 | exact a_build3 | exact a_build1 | exact a_build0 | exact a_bs1 | exact a_bs2 | exact a_bs3 | exact a_bs4 | exact a_bsa | exact a_boxr) | (apply st_rif rfl; (case hq => first | exact a_lss | exact a_gtr | exact a_eql | exact a_neq | exact a_eqls0 | exact a_neqs0 | exact a_eqls | exact a_neqs | exact a_leq | exact a_geq); all_goals (intro _; try (exfalso; first | omega | contradiction))) | (apply st_rw rfl rfl; case hq => first | exact a_store) | refine tri_true rfl ?_ | refine tri_false rfl ?_ | refine tri_block ?_ | refine tri_skip ?_ | refine tri_ret ?_ | refine tri_exit ?_)
      refine And.intro trivial ?_
      conv => lhs; whnf
      rw [hsf, ← ek]; rfl
    · obtain ⟨k, hk1⟩ := Int.eq_ofNat_of_zero_le (Int.not_lt.1 hn)
      have hk' : kOf s = k := by rw [kOf, if_neg hn, hk1]; rfl
      rw [hk1] at I1
      have ek : ((k : Int)).toNat = kOf s := by omega
      rw [← ek] at T1
      repeat' (first | refine a_f ?_ | refine st_nil ?_ | refine tri_seq ?_ | refine tri_region rfl ?_ | refine a_draw ?_ | (apply st_r rfl; case hq => first | exact q_call P1 (hcf := Tryz.call33) rfl rfl | exact q_call I1 (hcf := Tryz.call109) rfl rfl | exact q_call T1 (hcf := Tryz.call78) rfl rfl | exact a_lens | exact a_index | exact a_add | exact a_adds0 | exact a_addsc | exact a_adds | exact a_sub | exact a_slo | exact a_shi | exact a_slh | exact a_lensl | exact a_lenro | exact a_lennil | exact a_lenpts | exact a_field | exact a_fielde | exact a_fieldr | exact a_idxsl | exact a_load | exact a_loada | exact a_mki | exact a_build2 | exact a_build3 | exact a_build1 | exact a_build0 | exact a_bs1 | exact a_bs2 | exact a_bs3 | exact a_bs4 | exact a_bsa | exact a_boxr) | (apply st_rif rfl; (case hq => first | exact a_lss | exact a_gtr | exact a_eql | exact a_neq | exact a_eqls0 | exact a_neqs0 | exact a_eqls | exact a_neqs | exact a_leq | exact a_geq); all_goals (intro _; try (exfalso; first | omega | contradiction))) | (apply st_rw rfl rfl; case hq => first | exact a_store) | refine tri_true rfl ?_ | refine tri_false rfl ?_ | refine tri_block ?_ | refine tri_skip ?_ | refine tri_ret ?_ | refine tri_exit ?_)
      refine And.intro trivial ?_
      conv => lhs; whnf
      rw [hsf, ← ek]; rfl
  · have hsf : saidF s = if (quoF [] (s.drop 1)).1 = true then quoF [] (s.drop 1) else (false, [], []) := by rw [saidF, hq]; rfl
    have hl1 : 1 ≤ s.length := by
      cases s with
      | nil => cases hq
      | cons c r => simp
    clear hq
    repeat' (first | refine a_f ?_ | refine st_nil ?_ | refine tri_seq ?_ | refine tri_region rfl ?_ | refine a_draw ?_ | (apply st_r rfl; case hq => first | exact q_call P1 (hcf := Tryz.call33) rfl rfl | exact a_lens | exact a_index | exact a_add | exact a_adds0 | exact a_addsc | exact a_adds | exact a_sub | exact a_slo | exact a_shi | exact a_slh | exact a_lensl | exact a_lenro | exact a_lennil | exact a_lenpts | exact a_field | exact a_fielde | exact a_fieldr | exact a_idxsl | exact a_load | exact a_loada | exact a_mki | exact a_build2 | exact a_build3 | exact a_build1 | exact a_build0 | exact a_bs1 | exact a_bs2 | exact a_bs3 | exact a_bs4 | exact a_bsa | exact a_boxr) | (apply st_rif rfl; (case hq => first | exact a_lss | exact a_gtr | exact a_eql | exact a_neq | exact a_eqls0 | exact a_neqs0 | exact a_eqls | exact a_neqs | exact a_leq | exact a_geq); all_goals (intro _; try (exfalso; first | omega | contradiction))) | (apply st_rw rfl rfl; case hq => first | exact w_allocb 101 ByT zBld rfl rfl | exact a_store) | refine tri_true rfl ?_ | refine tri_false rfl ?_ | refine tri_block ?_ | refine tri_skip ?_ | refine tri_ret ?_ | refine tri_exit ?_)
    refine tri_loop_to (fun (x : Nat × B) => 1 ≤ x.1 ∧ x.1 ≤ s.length ∧ quoF x.2 (s.drop x.1) = quoF [] (s.drop 1) ∧ x.2.length ≤ x.1) (fun x => st [(0, .str s), (2, .str []), (3, .str []), (4, .bool false), (6, .ptr 101 0), (7, .int .i64 x.1)] [(101, .bld ByT BT x.2)]) (fun x => s.length - x.1) (fun (_ : Unit) => (quoF [] (s.drop 1)).1 = false) (fun _ => st [(0, .str s)] []) (1, []) ⟨Nat.le_refl _, hl1, rfl, by simp⟩ ?hw weak_tri (fun x hx => ?_) (fun _ hr => ?_)
    case hw => exact weak_st ⟨rfl, rfl, rfl, rfl, rfl, rfl, trivial⟩ ⟨rfl, trivial⟩
    · obtain ⟨i, out⟩ := x
      change Tri _ _ (st [(0, .str s), (2, .str []), (3, .str []), (4, .bool false), (6, .ptr 101 0), (7, .int .i64 i)] [(101, .bld ByT BT out)]) _
      obtain ⟨hi1, hi, hx, hl⟩ := hx
      simp only at hi1 hi hx hl
      by_cases hil : i < s.length
      · have i34 : ∀ k : UInt8, s.getD (i : Int).toNat 0 = k ↔ ((s.getD (i : Int).toNat 0).toNat : Int) = (k.toNat : Int) := fun k => by rw [← UInt8.toNat_inj]; omega
        by_cases h34 : s.getD (i : Int).toNat 0 = 34
        · have g34 : ((s.getD (i : Int).toNat 0).toNat : Int) = 34 := (i34 34).1 h34
          rw [quoI_q hil h34] at hx
          have S1 := string_e out
          clear i34
          repeat' (first | refine a_f ?_ | refine st_nil ?_ | refine tri_seq ?_ | refine tri_region rfl ?_ | refine tri_draw1 (wrG 65) 0 7 rfl rfl (by kernel_rfl) rfl ?_ | refine tree_s ?_ ?_ | refine tree_0 ?_ | refine tw_t ?_ | exact tw_f | refine tq_c ?_ ?_ | exact tq_n | refine a_draw ?_ | (apply st_r rfl; case hq => first | exact a_lens | exact a_index | exact a_add | exact a_adds0 | exact a_addsc | exact a_adds | exact a_sub | exact a_slo | exact a_shi | exact a_slh | exact a_lensl | exact a_lenro | exact a_lennil | exact a_lenpts | exact a_field | exact a_fielde | exact a_fieldr | exact a_idxsl | exact a_load | exact a_loada | exact a_mki | exact a_build2 | exact a_build3 | exact a_build1 | exact a_build0 | exact a_bs1 | exact a_bs2 | exact a_bs3 | exact a_bs4 | exact a_bsa | exact a_boxr) | (apply st_rif rfl; (case hq => first | exact a_lss | exact a_gtr | exact a_eql | exact a_neq | exact a_eqls0 | exact a_neqs0 | exact a_eqls | exact a_neqs | exact a_leq | exact a_geq); all_goals (intro _; try (exfalso; first | omega | contradiction))) | (apply st_rw rfl rfl; case hq => first | exact w_call (id := 101) S1 (hcf := Tryz.call65) (by conv => lhs; whnf; arg 1; whnf) rfl rfl rfl rfl rfl | exact a_store) | refine tri_true rfl ?_ | refine tri_false rfl ?_ | refine tri_block ?_ | refine tri_skip ?_ | refine tri_ret ?_ | refine tri_exit ?_)
          all_goals
            refine And.intro trivial ?_
            conv => lhs; whnf
            rw [hsf, ← hx]; rfl
        have g34 : ¬ ((s.getD (i : Int).toNat 0).toNat : Int) = 34 := fun e => h34 ((i34 34).2 e)
        by_cases h92 : s.getD (i : Int).toNat 0 = 92 ∧ i + 1 < s.length
        · obtain ⟨h92, h1⟩ := h92
          have g92 : ((s.getD (i : Int).toNat 0).toNat : Int) = 92 := (i34 92).1 h92
          rw [quoI_e h1 h92] at hx
          have W1 := writeByte_e out (s.getD ((i : Int) + 1).toNat 0) (by omega)
          have hvi : vis (s.getD ((i : Int) + 1).toNat 0) = decide ((32 : Int) ≤ ((s.getD ((i : Int) + 1).toNat 0).toNat : Int) ∧ ((s.getD ((i : Int) + 1).toNat 0).toNat : Int) ≤ 126) := rfl
          clear i34
          cases hv : vis (s.getD ((i : Int) + 1).toNat 0) <;> rw [hv] at hx hvi
          · have hv2 := of_decide_eq_false hvi.symm
            repeat' (first | refine a_f ?_ | refine st_nil ?_ | refine tri_seq ?_ | refine tri_region rfl ?_ | refine a_draw ?_ | (apply st_r rfl; case hq => first | exact a_lens | exact a_index | exact a_add | exact a_adds0 | exact a_addsc | exact a_adds | exact a_sub | exact a_slo | exact a_shi | exact a_slh | exact a_lensl | exact a_lenro | exact a_lennil | exact a_lenpts | exact a_field | exact a_fielde | exact a_fieldr | exact a_idxsl | exact a_load | exact a_loada | exact a_mki | exact a_build2 | exact a_build3 | exact a_build1 | exact a_build0 | exact a_bs1 | exact a_bs2 | exact a_bs3 | exact a_bs4 | exact a_bsa | exact a_boxr) | (apply st_rif rfl; (case hq => first | exact a_lss | exact a_gtr | exact a_eql | exact a_neq | exact a_eqls0 | exact a_neqs0 | exact a_eqls | exact a_neqs | exact a_leq | exact a_geq); all_goals (intro _; try (exfalso; first | omega | contradiction))) | (apply st_rw rfl rfl; case hq => first | exact a_store) | refine tri_true rfl ?_ | refine tri_false rfl ?_ | refine tri_block ?_ | refine tri_skip ?_ | refine tri_ret ?_ | refine tri_exit ?_)
            all_goals
              refine And.intro trivial ?_
              conv => lhs; whnf
              rw [hsf, ← hx]; rfl
          · have hv2 := of_decide_eq_true hvi.symm
            repeat' (first | refine a_f ?_ | refine st_nil ?_ | refine tri_seq ?_ | refine tri_region rfl ?_ | refine a_draw ?_ | (apply st_r rfl; case hq => first | exact a_lens | exact a_index | exact a_add | exact a_adds0 | exact a_addsc | exact a_adds | exact a_sub | exact a_slo | exact a_shi | exact a_slh | exact a_lensl | exact a_lenro | exact a_lennil | exact a_lenpts | exact a_field | exact a_fielde | exact a_fieldr | exact a_idxsl | exact a_load | exact a_loada | exact a_mki | exact a_build2 | exact a_build3 | exact a_build1 | exact a_build0 | exact a_bs1 | exact a_bs2 | exact a_bs3 | exact a_bs4 | exact a_bsa | exact a_boxr) | (apply st_rif rfl; (case hq => first | exact a_lss | exact a_gtr | exact a_eql | exact a_neq | exact a_eqls0 | exact a_neqs0 | exact a_eqls | exact a_neqs | exact a_leq | exact a_geq); all_goals (intro _; try (exfalso; first | omega | contradiction))) | (apply st_rw rfl rfl; case hq => first | exact w_call (id := 101) W1 (hcf := Tryz.call95) (by conv => lhs; whnf; arg 1; whnf) rfl rfl rfl rfl rfl | exact a_store) | refine tri_true rfl ?_ | refine tri_false rfl ?_ | refine tri_block ?_ | refine tri_skip ?_ | refine tri_ret ?_ | refine tri_exit ?_)
            exact nextR (i + 2, out ++ [s.getD ((i : Int) + 1).toNat 0]) ⟨by simp only; omega, by simp only; omega, hx, by simp only [List.length_append, List.length_cons, List.length_nil]; omega⟩ (weak_st ⟨rfl, rfl, rfl, rfl, rfl, congrArg (AV.int .i64) (by simp only; omega), trivial⟩ ⟨rfl, trivial⟩) (show s.length - (i + 2) < s.length - i by omega)
        · have g92 : ((s.getD (i : Int).toNat 0).toNat : Int) = 92 → ¬ (i : Int) + 1 < s.length := fun e => fun h => h92 ⟨(i34 92).2 e, by omega⟩
          rw [quoI_c hil h34 (fun e h => h92 ⟨e, h⟩)] at hx
          have W1 := writeByte_e out (s.getD (i : Int).toNat 0) (by omega)
          have hvi : vis (s.getD (i : Int).toNat 0) = decide ((32 : Int) ≤ ((s.getD (i : Int).toNat 0).toNat : Int) ∧ ((s.getD (i : Int).toNat 0).toNat : Int) ≤ 126) := rfl
          clear i34
          cases hv : vis (s.getD (i : Int).toNat 0) <;> rw [hv] at hx hvi
          · have hv2 := of_decide_eq_false hvi.symm
            repeat' (first | refine a_f ?_ | refine st_nil ?_ | refine tri_seq ?_ | refine tri_region rfl ?_ | refine a_draw ?_ | (apply st_r rfl; case hq => first | exact a_lens | exact a_index | exact a_add | exact a_adds0 | exact a_addsc | exact a_adds | exact a_sub | exact a_slo | exact a_shi | exact a_slh | exact a_lensl | exact a_lenro | exact a_lennil | exact a_lenpts | exact a_field | exact a_fielde | exact a_fieldr | exact a_idxsl | exact a_load | exact a_loada | exact a_mki | exact a_build2 | exact a_build3 | exact a_build1 | exact a_build0 | exact a_bs1 | exact a_bs2 | exact a_bs3 | exact a_bs4 | exact a_bsa | exact a_boxr) | (apply st_rif rfl; (case hq => first | exact a_lss | exact a_gtr | exact a_eql | exact a_neq | exact a_eqls0 | exact a_neqs0 | exact a_eqls | exact a_neqs | exact a_leq | exact a_geq); all_goals (intro _; try (exfalso; first | omega | contradiction))) | (apply st_rw rfl rfl; case hq => first | exact a_store) | refine tri_true rfl ?_ | refine tri_false rfl ?_ | refine tri_block ?_ | refine tri_skip ?_ | refine tri_ret ?_ | refine tri_exit ?_)
            all_goals
              refine And.intro trivial ?_
              conv => lhs; whnf
              rw [hsf, ← hx]; rfl
          · have hv2 := of_decide_eq_true hvi.symm
            repeat' (first | refine a_f ?_ | refine st_nil ?_ | refine tri_seq ?_ | refine tri_region rfl ?_ | refine a_draw ?_ | (apply st_r rfl; case hq => first | exact a_lens | exact a_index | exact a_add | exact a_adds0 | exact a_addsc | exact a_adds | exact a_sub | exact a_slo | exact a_shi | exact a_slh | exact a_lensl | exact a_lenro | exact a_lennil | exact a_lenpts | exact a_field | exact a_fielde | exact a_fieldr | exact a_idxsl | exact a_load | exact a_loada | exact a_mki | exact a_build2 | exact a_build3 | exact a_build1 | exact a_build0 | exact a_bs1 | exact a_bs2 | exact a_bs3 | exact a_bs4 | exact a_bsa | exact a_boxr) | (apply st_rif rfl; (case hq => first | exact a_lss | exact a_gtr | exact a_eql | exact a_neq | exact a_eqls0 | exact a_neqs0 | exact a_eqls | exact a_neqs | exact a_leq | exact a_geq); all_goals (intro _; try (exfalso; first | omega | contradiction))) | (apply st_rw rfl rfl; case hq => first | exact w_call (id := 101) W1 (hcf := Tryz.call95) (by conv => lhs; whnf; arg 1; whnf) rfl rfl rfl rfl rfl | exact a_store) | refine tri_true rfl ?_ | refine tri_false rfl ?_ | refine tri_block ?_ | refine tri_skip ?_ | refine tri_ret ?_ | refine tri_exit ?_)
            all_goals exact nextR (i + 1, out ++ [s.getD (i : Int).toNat 0]) ⟨by simp only; omega, by simp only; omega, hx, by simp only [List.length_append, List.length_cons, List.length_nil]; omega⟩ (weak_st ⟨rfl, rfl, rfl, rfl, rfl, congrArg (AV.int .i64) (by simp only; omega), trivial⟩ ⟨rfl, trivial⟩) (show s.length - (i + 1) < s.length - i by omega)
      · rw [quoI_n hil] at hx
        repeat' (first | refine a_f ?_ | refine st_nil ?_ | refine tri_seq ?_ | refine tri_region rfl ?_ | refine a_draw ?_ | (apply st_r rfl; case hq => first | exact a_lens | exact a_index | exact a_add | exact a_adds0 | exact a_addsc | exact a_adds | exact a_sub | exact a_slo | exact a_shi | exact a_slh | exact a_lensl | exact a_lenro | exact a_lennil | exact a_lenpts | exact a_field | exact a_fielde | exact a_fieldr | exact a_idxsl | exact a_load | exact a_loada | exact a_mki | exact a_build2 | exact a_build3 | exact a_build1 | exact a_build0 | exact a_bs1 | exact a_bs2 | exact a_bs3 | exact a_bs4 | exact a_bsa | exact a_boxr) | (apply st_rif rfl; (case hq => first | exact a_lss | exact a_gtr | exact a_eql | exact a_neq | exact a_eqls0 | exact a_neqs0 | exact a_eqls | exact a_neqs | exact a_leq | exact a_geq); all_goals (intro _; try (exfalso; first | omega | contradiction))) | (apply st_rw rfl rfl; case hq => first | exact a_store) | refine tri_true rfl ?_ | refine tri_false rfl ?_ | refine tri_block ?_ | refine tri_skip ?_ | refine tri_ret ?_ | refine tri_exit ?_)
        exact outR () (by rw [← hx]) (weak_st ⟨rfl, trivial⟩ trivial)
    · repeat' (first | refine a_f ?_ | refine st_nil ?_ | refine tri_seq ?_ | refine tri_region rfl ?_ | refine a_draw ?_ | (apply st_r rfl; case hq => first | exact a_lens | exact a_index | exact a_add | exact a_adds0 | exact a_addsc | exact a_adds | exact a_sub | exact a_slo | exact a_shi | exact a_slh | exact a_lensl | exact a_lenro | exact a_lennil | exact a_lenpts | exact a_field | exact a_fielde | exact a_fieldr | exact a_idxsl | exact a_load | exact a_loada | exact a_mki | exact a_build2 | exact a_build3 | exact a_build1 | exact a_build0 | exact a_bs1 | exact a_bs2 | exact a_bs3 | exact a_bs4 | exact a_bsa | exact a_boxr) | (apply st_rif rfl; (case hq => first | exact a_lss | exact a_gtr | exact a_eql | exact a_neq | exact a_eqls0 | exact a_neqs0 | exact a_eqls | exact a_neqs | exact a_leq | exact a_geq); all_goals (intro _; try (exfalso; first | omega | contradiction))) | (apply st_rw rfl rfl; case hq => first | exact a_store) | refine tri_true rfl ?_ | refine tri_false rfl ?_ | refine tri_block ?_ | refine tri_skip ?_ | refine tri_ret ?_ | refine tri_exit ?_)
      refine And.intro trivial ?_
      conv => lhs; whnf
      rw [hsf, hr]; rfl
end Go.Proofs.YtignjjnflcpiiabGreatDoor
