/- KindWrites: the law is true wherever it is called. -/
import Derived.Test.YtignjjnflcpiiaaGreatDoorKindX
import Derived.Test.YtignjjnflcpiiaaGreatDoorKindReadsW
set_option linter.unusedVariables false
set_option linter.unusedSimpArgs false
set_option maxHeartbeats 1000000
namespace Go.Proofs.YtignjjnflcpiiaaGreatDoor
open Go.RowKit
attribute [local irreducible] Tri Steps Qd Wr Weak CPure CEff CNew CutN AllB Behind
set_option maxRecDepth 100000

def kwS : KRes → B | .ok s => s | .bad _ => []
def kwErr (fr : Bool) : KRes → AV | .ok _ => .nili | .bad n => if n < 0 then .iface 28 (.int .i64 1) else .iface 98 (.rptr fr [.int .i64 1, .int .i64 n])
def kwE : KRes → Int | .ok _ => 0 | .bad _ => 1
def kwP : KRes → Int | .ok _ => -1 | .bad n => n
theorem kwAV_eq (h : KRes) : kwAV h = .tup [.str (kwS h), kwErr true h] := by
  cases h with
  | ok s => rfl
  | bad n => simp only [kwAV, kwErr, kwS]; split <;> rfl
theorem rkwAV_eq (h : KRes) : rkwAV h = .tup [.str (kwS h), .agg [.int .i64 (kwE h), .int .i64 (kwP h)]] := by cases h <;> rfl
theorem writeKGo_bad : ∀ (l : Fs) (n : Nat) (out : B) (k : Int), writeKGo tokC lowC n out l = .bad k → (n : Int) ≤ k
  | [], n, out, k, h => by cases h
  | p :: r, n, out, k, h => by
    rw [writeKGo_step] at h
    cases hp : okP tokC lowC p <;> rw [hp] at h
    · cases h; exact Int.le_refl _
    · have := writeKGo_bad r (n + 1) _ k h; omega
theorem writeK_bad {m : B} {l : Fs} {k : Int} (h : writeK tokC lowC m l = .bad k) : k = -1 ∨ 0 ≤ k := by
  unfold writeK at h
  split at h
  · have := writeKGo_bad l 0 m k h; omega
  · cases h; exact .inl rfl
theorem is_no_c (e e' p' : Int) : CPure gxe 24 [.iface 28 (.int .i64 e), .agg [.int .i64 e', .int .i64 p']] (.bool (e == e' && (-1 : Int) == p')) := by
  unfold CPure
  intro w vs hG hn hl hr
  obtain ⟨v0, v1, rfl⟩ : ∃ a b, vs = [a, b] := by
    match vs, hl with
    | [a, b], _ => exact ⟨a, b, rfl⟩
  obtain ⟨y, h0, h9⟩ := Rep.iface_inv (hr 0 (by simp) (by simp))
  have h9 := Rep.int_inv h9
  obtain ⟨xs, h1, hl2, h2⟩ := Rep.agg_inv (hr 1 (by simp) (by simp))
  simp only [List.getElem_cons_zero, List.getElem_cons_succ] at h0 h1
  match xs, hl2 with
  | [a, b], _ =>
    have ha := Rep.int_inv (h2 0 (by simp) (by simp))
    have hb := Rep.int_inv (h2 1 (by simp) (by simp))
    simp only [List.getElem_cons_zero, List.getElem_cons_succ] at ha hb
    subst h9
    subst h0 ha hb
    rw [h1]
    exact (is_any _ e (-1) e' p' w (.inr (.inl ⟨rfl, rfl⟩)) hG.2).mono fun x w' h => ⟨_, h.1, h.2, .bool _ _⟩
theorem is_kw {m : B} {l : Fs} : CPure gxe 24 [kwErr false (writeK tokC lowC m l), .agg [.int .i64 (kwE (writeK tokC lowC m l)), .int .i64 (kwP (writeK tokC lowC m l))]] (.bool true) := by
  cases h : writeK tokC lowC m l with
  | ok s => exact is_nil_c 0 (-1)
  | bad n =>
    rcases writeK_bad h with rfl | h0
    · have := is_no_c 1 1 (-1)
      simp only [beq_self_eq_true, Bool.and_self] at this
      exact this
    · have := is_at_c false 1 n 1 n
      simp only [beq_self_eq_true, Bool.and_self] at this
      simp only [kwErr, kwE, kwP]
      rw [if_neg (by omega)]
      exact this
def fitP (f : B × B) : Bool := decide (¬ 200 < f.1.length + f.2.length)
theorem fit_drop {p : B × B → Bool} {l : Fs} {i : Nat} {f : B × B} (h : l.all p = (l.drop i).all p) (hd : l.drop i = f :: l.drop (i + 1)) : l.all p = (p f && (l.drop (i + 1)).all p) := by
  rw [h, hd]; rfl
set_option maxHeartbeats 4000000 in
theorem kindWrites_c (m : B) (l : Fs) (hm : m.length ≤ 140737488351232) (hl : l.length ≤ 140737488351232) (h1 : ∀ f ∈ l, f.1.length ≤ 140737488351232 ∧ f.2.length ≤ 140737488351232) : CPure gxe 6 [.str m, .ro false 2 (fieldRows l)] (.bool true) := by
  refine cpure_of Tryz.func6 rfl (Nat.le_of_ble_eq_true rfl) rfl (fun w hw => ?_)
  have hfl := fr_len l
  by_cases h5 : 100 < m.length
  · repeat' (first | refine a_f ?_ | refine st_nil ?_ | refine tri_seq ?_ | refine tri_region rfl ?_ | refine a_draw ?_ | (apply st_r rfl; case hq => first | exact a_lens | exact a_index | exact a_add | exact a_adds0 | exact a_addsc | exact a_adds | exact a_sub | exact a_slo | exact a_shi | exact a_slh | exact a_lensl | exact a_lenro | exact a_lennil | exact a_lenpts | exact a_field | exact a_fielde | exact a_fieldr | exact a_idxsl | exact a_load | exact a_loada | exact a_mki | exact a_build2 | exact a_build3 | exact a_build1 | exact a_build0 | exact a_bs1 | exact a_bs2 | exact a_bs3 | exact a_bs4 | exact a_bsa | exact a_boxr) | (apply st_rif rfl; (case hq => first | exact a_lss | exact a_gtr | exact a_eql | exact a_neq | exact a_eqls0 | exact a_neqs0 | exact a_eqls | exact a_neqs | exact a_leq | exact a_geq); all_goals (intro _; try (exfalso; first | omega | contradiction))) | (apply st_rw rfl rfl; case hq => first | exact a_store) | refine tri_true rfl ?_ | refine tri_false rfl ?_ | refine tri_block ?_ | refine tri_skip ?_ | refine tri_ret ?_ | refine tri_exit ?_)
    refine And.intro trivial ?_
    conv => lhs; whnf
  by_cases h20 : 20 < l.length
  · repeat' (first | refine a_f ?_ | refine st_nil ?_ | refine tri_seq ?_ | refine tri_region rfl ?_ | refine a_draw ?_ | (apply st_r rfl; case hq => first | exact a_lens | exact a_index | exact a_add | exact a_adds0 | exact a_addsc | exact a_adds | exact a_sub | exact a_slo | exact a_shi | exact a_slh | exact a_lensl | exact a_lenro | exact a_lennil | exact a_lenpts | exact a_field | exact a_fielde | exact a_fieldr | exact a_idxsl | exact a_load | exact a_loada | exact a_mki | exact a_build2 | exact a_build3 | exact a_build1 | exact a_build0 | exact a_bs1 | exact a_bs2 | exact a_bs3 | exact a_bs4 | exact a_bsa | exact a_boxr) | (apply st_rif rfl; (case hq => first | exact a_lss | exact a_gtr | exact a_eql | exact a_neq | exact a_eqls0 | exact a_neqs0 | exact a_eqls | exact a_neqs | exact a_leq | exact a_geq); all_goals (intro _; try (exfalso; first | omega | contradiction))) | (apply st_rw rfl rfl; case hq => first | exact a_store) | refine tri_true rfl ?_ | refine tri_false rfl ?_ | refine tri_block ?_ | refine tri_skip ?_ | refine tri_ret ?_ | refine tri_exit ?_)
    refine And.intro trivial ?_
    conv => lhs; whnf
  repeat' (first | refine a_f ?_ | refine st_nil ?_ | refine tri_seq ?_ | refine tri_region rfl ?_ | refine a_draw ?_ | (apply st_r rfl; case hq => first | exact a_lens | exact a_index | exact a_add | exact a_adds0 | exact a_addsc | exact a_adds | exact a_sub | exact a_slo | exact a_shi | exact a_slh | exact a_lensl | exact a_lenro | exact a_lennil | exact a_lenpts | exact a_field | exact a_fielde | exact a_fieldr | exact a_idxsl | exact a_load | exact a_loada | exact a_mki | exact a_build2 | exact a_build3 | exact a_build1 | exact a_build0 | exact a_bs1 | exact a_bs2 | exact a_bs3 | exact a_bs4 | exact a_bsa | exact a_boxr) | (apply st_rif rfl; (case hq => first | exact a_lss | exact a_gtr | exact a_eql | exact a_neq | exact a_eqls0 | exact a_neqs0 | exact a_eqls | exact a_neqs | exact a_leq | exact a_geq); all_goals (intro _; try (exfalso; first | omega | contradiction))) | (apply st_rw rfl rfl; case hq => first | exact a_store) | refine tri_true rfl ?_ | refine tri_false rfl ?_ | refine tri_block ?_ | refine tri_skip ?_ | refine tri_ret ?_ | refine tri_exit ?_)
  refine tri_loop_to (fun (i : Nat) => i ≤ l.length ∧ l.all fitP = (l.drop i).all fitP) (fun i => st [(0, .str m), (1, .ro false 2 (fieldRows l)), (4, .bool false), (5, .int .i64 i)] []) (fun i => l.length - i)
    (fun (_ : Unit) => l.all fitP = true) (fun _ => st [(0, .str m), (1, .ro false 2 (fieldRows l)), (4, .bool false)] []) 0 ⟨Nat.zero_le _, rfl⟩ ?hw weak_tri (fun i hi => ?_) (fun _ hz => ?_)
  case hw => exact weak_st ⟨rfl, rfl, rfl, rfl, trivial⟩ trivial
  · obtain ⟨hi, hf⟩ := hi
    by_cases hil : i < l.length
    · obtain ⟨f, hf1, hfm, hfd, hfr⟩ := fr_at hil
      have hb := h1 f hfm
      have hf' := fit_drop hf hfd
      by_cases h400 : 200 < f.1.length + f.2.length
      all_goals
        repeat' (first | refine a_f ?_ | refine st_nil ?_ | refine tri_seq ?_ | refine tri_region rfl ?_ | refine a_draw ?_ | (apply st_r rfl; case hq => first | exact q_idxro (by conv => lhs; whnf) (by conv => lhs; whnf) (by first | exact Tryz.underlying22 | exact Tryz.underlying23 | exact Tryz.underlying43 | exact Tryz.underlying44 | exact Tryz.underlying51 | exact Tryz.underlying86 | exact Tryz.underlying191 | exact Tryz.underlying209 | exact Tryz.underlying234 | exact Tryz.underlying270 | exact Tryz.underlying281 | exact Tryz.underlying344) (by kernel_rfl) (by omega) hfr | exact q_loadr (by conv => lhs; whnf) (by conv => lhs; whnf) (by show scalB Tryz.prog _ = true; decide +kernel) (fun _ => rfl) | exact a_lens | exact a_index | exact a_add | exact a_adds0 | exact a_addsc | exact a_adds | exact a_sub | exact a_slo | exact a_shi | exact a_slh | exact a_lensl | exact a_lenro | exact a_lennil | exact a_lenpts | exact a_field | exact a_fielde | exact a_fieldr | exact a_idxsl | exact a_load | exact a_loada | exact a_mki | exact a_build2 | exact a_build3 | exact a_build1 | exact a_build0 | exact a_bs1 | exact a_bs2 | exact a_bs3 | exact a_bs4 | exact a_bsa | exact a_boxr) | (apply st_rif rfl; (case hq => first | exact a_lss | exact a_gtr | exact a_eql | exact a_neq | exact a_eqls0 | exact a_neqs0 | exact a_eqls | exact a_neqs | exact a_leq | exact a_geq); all_goals (intro _; try (exfalso; first | omega | contradiction))) | (apply st_rw rfl rfl; case hq => first | exact a_store) | refine tri_true rfl ?_ | refine tri_false rfl ?_ | refine tri_block ?_ | refine tri_skip ?_ | refine tri_ret ?_ | refine tri_exit ?_)
      · refine And.intro trivial ?_
        conv => lhs; whnf
      · exact nextR (i + 1) ⟨by omega, by rw [hf']; simp [fitP, h400]⟩ (weak_st ⟨rfl, rfl, rfl, rfl, trivial⟩ trivial) (show l.length - (i + 1) < l.length - i by omega)
    · repeat' (first | refine a_f ?_ | refine st_nil ?_ | refine tri_seq ?_ | refine tri_region rfl ?_ | refine a_draw ?_ | (apply st_r rfl; case hq => first | exact a_lens | exact a_index | exact a_add | exact a_adds0 | exact a_addsc | exact a_adds | exact a_sub | exact a_slo | exact a_shi | exact a_slh | exact a_lensl | exact a_lenro | exact a_lennil | exact a_lenpts | exact a_field | exact a_fielde | exact a_fieldr | exact a_idxsl | exact a_load | exact a_loada | exact a_mki | exact a_build2 | exact a_build3 | exact a_build1 | exact a_build0 | exact a_bs1 | exact a_bs2 | exact a_bs3 | exact a_bs4 | exact a_bsa | exact a_boxr) | (apply st_rif rfl; (case hq => first | exact a_lss | exact a_gtr | exact a_eql | exact a_neq | exact a_eqls0 | exact a_neqs0 | exact a_eqls | exact a_neqs | exact a_leq | exact a_geq); all_goals (intro _; try (exfalso; first | omega | contradiction))) | (apply st_rw rfl rfl; case hq => first | exact a_store) | refine tri_true rfl ?_ | refine tri_false rfl ?_ | refine tri_block ?_ | refine tri_skip ?_ | refine tri_ret ?_ | refine tri_exit ?_)
      exact outR () (by rw [hf, List.drop_eq_nil_of_le (by omega)]; rfl) (weak_st ⟨rfl, rfl, rfl, trivial⟩ trivial)
  · have hs : Small l := ⟨by omega, fun f hf => by
      have := List.all_eq_true.1 hz f hf
      simp only [fitP, decide_eq_true_eq] at this
      omega⟩
    have W1 := (kwrite_c m l (by omega) hs).e
    have W2 := (rkwrite_c m l (by omega) hs).e
    have I1 := is_kw (m := m) (l := l)
    rw [kwAV_eq] at W1
    rw [rkwAV_eq] at W2
    have hfr : (kwErr true (writeK tokC lowC m l)).allFr = true := by
      cases writeK tokC lowC m l with
      | ok s => rfl
      | bad n => simp only [kwErr]; split <;> rfl
    cases hW : writeK tokC lowC m l with
    | ok s =>
      rw [hW] at W1 W2 I1
      simp only [kwErr, kwS, kwE, kwP] at W1 W2 I1
      repeat' (first | refine a_f ?_ | refine st_nil ?_ | refine tri_seq ?_ | refine tri_region rfl ?_ | refine a_draw ?_ | (apply st_r rfl; case hq => first | exact q_call W1 (hcf := Tryz.call23) rfl rfl | exact q_call W2 (hcf := Tryz.call22) rfl rfl | exact q_call I1 (hcf := Tryz.call24) rfl rfl | exact q_eqlb (by conv => lhs; whnf) (by conv => lhs; whnf) (by kernel_rfl) | exact a_lens | exact a_index | exact a_add | exact a_adds0 | exact a_addsc | exact a_adds | exact a_sub | exact a_slo | exact a_shi | exact a_slh | exact a_lensl | exact a_lenro | exact a_lennil | exact a_lenpts | exact a_field | exact a_fielde | exact a_fieldr | exact a_idxsl | exact a_load | exact a_loada | exact a_mki | exact a_build2 | exact a_build3 | exact a_build1 | exact a_build0 | exact a_bs1 | exact a_bs2 | exact a_bs3 | exact a_bs4 | exact a_bsa | exact a_boxr) | (apply st_rif rfl; (case hq => first | exact a_lss | exact a_gtr | exact a_eql | exact a_neq | exact a_eqls0 | exact a_neqs0 | exact a_eqls | exact a_neqs | exact a_leq | exact a_geq); all_goals (intro _; try (exfalso; first | omega | contradiction))) | (apply st_rw rfl rfl; case hq => first | exact w_alloc 102 (by first | exact zAt | exact zFault | exact zField | exact zParam | exact zLink | exact zPart | exact zReader) rfl rfl rfl | exact a_store) | refine tri_true rfl ?_ | refine tri_false rfl ?_ | refine tri_block ?_ | refine tri_skip ?_ | refine tri_ret ?_ | refine tri_exit ?_)
      all_goals
        refine And.intro trivial ?_
        conv => lhs; whnf
    | bad n =>
      rw [hW] at W1 W2 I1
      simp only [kwErr, kwS, kwE, kwP] at W1 W2 I1
      by_cases hn : n < 0
      · simp only [hn, if_true] at W1 I1
        repeat' (first | refine a_f ?_ | refine st_nil ?_ | refine tri_seq ?_ | refine tri_region rfl ?_ | refine a_draw ?_ | (apply st_r rfl; case hq => first | exact q_call W1 (hcf := Tryz.call23) rfl rfl | exact q_call W2 (hcf := Tryz.call22) rfl rfl | exact q_call I1 (hcf := Tryz.call24) rfl rfl | exact q_eqlb (by conv => lhs; whnf) (by conv => lhs; whnf) (by kernel_rfl) | exact a_lens | exact a_index | exact a_add | exact a_adds0 | exact a_addsc | exact a_adds | exact a_sub | exact a_slo | exact a_shi | exact a_slh | exact a_lensl | exact a_lenro | exact a_lennil | exact a_lenpts | exact a_field | exact a_fielde | exact a_fieldr | exact a_idxsl | exact a_load | exact a_loada | exact a_mki | exact a_build2 | exact a_build3 | exact a_build1 | exact a_build0 | exact a_bs1 | exact a_bs2 | exact a_bs3 | exact a_bs4 | exact a_bsa | exact a_boxr) | (apply st_rif rfl; (case hq => first | exact a_lss | exact a_gtr | exact a_eql | exact a_neq | exact a_eqls0 | exact a_neqs0 | exact a_eqls | exact a_neqs | exact a_leq | exact a_geq); all_goals (intro _; try (exfalso; first | omega | contradiction))) | (apply st_rw rfl rfl; case hq => first | exact w_alloc 102 (by first | exact zAt | exact zFault | exact zField | exact zParam | exact zLink | exact zPart | exact zReader) rfl rfl rfl | exact a_store) | refine tri_true rfl ?_ | refine tri_false rfl ?_ | refine tri_block ?_ | refine tri_skip ?_ | refine tri_ret ?_ | refine tri_exit ?_)
        all_goals
          refine And.intro trivial ?_
          conv => lhs; whnf
      · simp only [hn, if_false] at W1 I1
        repeat' (first | refine a_f ?_ | refine st_nil ?_ | refine tri_seq ?_ | refine tri_region rfl ?_ | refine a_draw ?_ | (apply st_r rfl; case hq => first | exact q_call W1 (hcf := Tryz.call23) rfl rfl | exact q_call W2 (hcf := Tryz.call22) rfl rfl | exact q_call I1 (hcf := Tryz.call24) rfl rfl | exact q_eqlb (by conv => lhs; whnf) (by conv => lhs; whnf) (by kernel_rfl) | exact a_lens | exact a_index | exact a_add | exact a_adds0 | exact a_addsc | exact a_adds | exact a_sub | exact a_slo | exact a_shi | exact a_slh | exact a_lensl | exact a_lenro | exact a_lennil | exact a_lenpts | exact a_field | exact a_fielde | exact a_fieldr | exact a_idxsl | exact a_load | exact a_loada | exact a_mki | exact a_build2 | exact a_build3 | exact a_build1 | exact a_build0 | exact a_bs1 | exact a_bs2 | exact a_bs3 | exact a_bs4 | exact a_bsa | exact a_boxr) | (apply st_rif rfl; (case hq => first | exact a_lss | exact a_gtr | exact a_eql | exact a_neq | exact a_eqls0 | exact a_neqs0 | exact a_eqls | exact a_neqs | exact a_leq | exact a_geq); all_goals (intro _; try (exfalso; first | omega | contradiction))) | (apply st_rw rfl rfl; case hq => first | exact w_alloc 102 (by first | exact zAt | exact zFault | exact zField | exact zParam | exact zLink | exact zPart | exact zReader) rfl rfl rfl | exact a_store) | refine tri_true rfl ?_ | refine tri_false rfl ?_ | refine tri_block ?_ | refine tri_skip ?_ | refine tri_ret ?_ | refine tri_exit ?_)
        all_goals
          refine And.intro trivial ?_
          conv => lhs; whnf
end Go.Proofs.YtignjjnflcpiiaaGreatDoor
