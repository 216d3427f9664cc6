/- A page with other values: page.Escape, page.Replace. -/
import Derived.Test.YtignjjnflcpiiaaGreatDoorPageF
import Derived.Test.YtignjjnflcpiiaaGreatDoorReplR
set_option linter.unusedVariables false
set_option linter.unusedSimpArgs false
set_option maxHeartbeats 1000000
namespace Go.Proofs.YtignjjnflcpiiaaGreatDoor
open Go.RowKit
set_option maxRecDepth 100000

def escQ : List (UInt8 × List UInt8) := [(38, ampW), (34, quotW), (39, aposW), (60, ltW), (62, gtW)]
theorem subst_escB (v : B) : subst escQ v = escB v := by
  unfold subst escB
  congr 1
  funext c
  unfold escC1 escQ
  simp only [look]
  by_cases h1 : c = 38
  · subst h1; rfl
  by_cases h2 : c = 34
  · subst h2; rfl
  by_cases h3 : c = 39
  · subst h3; rfl
  by_cases h4 : c = 60
  · subst h4; rfl
  by_cases h5 : c = 62
  · subst h5; rfl
  rw [if_neg h1, if_neg h2, if_neg h3, if_neg h4, if_neg h5, if_neg (Ne.symm h1), if_neg (Ne.symm h2), if_neg (Ne.symm h3), if_neg (Ne.symm h4), if_neg (Ne.symm h5)]
  rfl
theorem escB_len (v : B) : (escB v).length ≤ 6 * v.length := by
  induction v with
  | nil => simp [escB]
  | cons c v ih =>
    have e : escB (c :: v) = escC1 c ++ escB v := by simp [escB]
    have h : (escC1 c).length ≤ 6 := by unfold escC1; repeat' split
                                        all_goals simp [ampW, quotW, aposW, ltW, gtW]
    rw [e, List.length_append, List.length_cons]; omega
/-- the links stand one behind the other -/
def LkOk (n : Nat) : Nat → List Lk → Prop
  | k, [] => k ≤ n
  | k, x :: l => k ≤ x.1 ∧ 1 ≤ x.1 ∧ x.1 + x.2.1 ≤ n ∧ LkOk n (x.1 + x.2.1) l
theorem linksOf_ok (t : B) : ∀ (l : List Pc) (pre c0 : B), (∀ x ∈ l, PcOk x) → LkOk (pre ++ (c0 ++ pageOf l t)).length pre.length (linksOf (pre.length + c0.length) l)
  | [], pre, c0, _ => by simp only [linksOf, LkOk, List.length_append]; omega
  | x :: l, pre, c0, hok => by
    have ih := linksOf_ok t l (pre ++ c0 ++ x.p ++ x.v) x.c (fun y hy => hok y (List.mem_cons_of_mem _ hy))
    have hx := hok x List.mem_cons_self
    have hp : 0 < x.p.length := by
      rcases hx with ⟨_, c, h, _⟩ | ⟨q, _, _, h⟩
      · exact last_pos h
      · exact last_pos h
    have e1 : pre ++ (c0 ++ pageOf (x :: l) t) = pre ++ c0 ++ x.p ++ x.v ++ (x.c ++ pageOf l t) := by simp only [pageOf, List.append_assoc]
    have e2 : pre.length + c0.length + x.p.length + x.v.length = (pre ++ c0 ++ x.p ++ x.v).length := by simp only [List.length_append]
    simp only [linksOf, LkOk]
    refine ⟨by omega, by omega, ?_, ?_⟩
    · rw [e1, List.length_append, e2]; omega
    · rw [e1, e2]; exact ih
theorem linksF_ok (s : B) : LkOk s.length 0 (linksF s.length s) := by
  obtain ⟨l, t, h1, h2, h3⟩ := linksF_pieces s
  have := linksOf_ok t l [] [] (pg_ok h1)
  simp only [List.nil_append, List.length_nil, Nat.add_zero] at this
  rw [← h2, ← h3] at this
  exact this
theorem linksF_len (s : B) : (linksF s.length s).length ≤ s.length := by
  have key : ∀ (m : Nat) (r : B), r.length ≤ m → ∀ n, (linksF n r).length ≤ r.length := by
    intro m
    induction m with
    | zero =>
      intro r hr n
      have : r = [] := List.eq_nil_of_length_eq_zero (by omega)
      subst this
      rw [linksF_nil skipW_nil]; exact Nat.le_refl _
    | succ m ih =>
      intro r hr n
      cases h1 : skipW [60] r with
      | nil => rw [linksF_nil h1]; exact Nat.zero_le _
      | cons c t =>
        have hne : r ≠ [] := fun e => by rw [e, skipW_nil] at h1; cases h1
        have h0 := skipW_lt (o := [60]) (by simp) hne
        rw [h1] at h0
        simp only [List.length_cons] at h0
        rw [linksF_cons h1]
        split
        · have h2 := skipW_le [45, 45, 62] (t.drop 2)
          rw [List.length_drop] at h2
          have := ih (skipW [45, 45, 62] (t.drop 2)) (by omega) n
          omega
        · split
          · have h2 := skipW_le [62] (c :: t)
            simp only [List.length_cons] at h2
            have := ih (skipW [62] (c :: t)) (by omega) n
            omega
          · split
            · obtain ⟨h2, h3⟩ := tagF_suf n (c :: t)
              have h4 := h2.length_le
              simp only [List.length_cons] at h3 h4
              have := ih (tagF n (c :: t)).2 (by omega) n
              rw [List.length_append]
              omega
            · have := ih (c :: t) (by simp only [List.length_cons]; omega) n
              simp only [List.length_cons] at this
              omega
  exact key _ s (Nat.le_refl _) _
section
attribute [local irreducible] Tri Steps Qd Wr Weak CPure CEff CNew CutN AllB Behind
def sgVals : List AV := [.str [38], .str ampW, .str [34], .str quotW, .str [39], .str aposW, .str [60], .str ltW, .str [62], .str gtW]
def sgCells : List Value := [.string ⟨#[38]⟩, .string ⟨ampW.toArray⟩, .string ⟨#[34]⟩, .string ⟨quotW.toArray⟩, .string ⟨#[39]⟩, .string ⟨aposW.toArray⟩, .string ⟨#[60]⟩, .string ⟨ltW.toArray⟩, .string ⟨#[62]⟩, .string ⟨gtW.toArray⟩]
theorem sg_at : ∀ w, gxs.G w → ∀ (j : Nat) v, sgCells[j]? = some v → w.cell? ⟨0, 0 + j, none⟩ = some v := fun w h j v hv => by
  have hj : j < 10 := (List.getElem?_eq_some_iff.1 hv).1
  match j, hj with
  | 0, _ => cases hv; exact h.2 0 (by decide) 0 (by decide)
  | 1, _ => cases hv; exact h.2 0 (by decide) 1 (by decide)
  | 2, _ => cases hv; exact h.2 1 (by decide) 0 (by decide)
  | 3, _ => cases hv; exact h.2 1 (by decide) 1 (by decide)
  | 4, _ => cases hv; exact h.2 2 (by decide) 0 (by decide)
  | 5, _ => cases hv; exact h.2 2 (by decide) 1 (by decide)
  | 6, _ => cases hv; exact h.2 3 (by decide) 0 (by decide)
  | 7, _ => cases hv; exact h.2 3 (by decide) 1 (by decide)
  | 8, _ => cases hv; exact h.2 4 (by decide) 0 (by decide)
  | 9, _ => cases hv; exact h.2 4 (by decide) 1 (by decide)
theorem sg_rep : ∀ (w : World) N M γ i (hi : i < sgVals.length) (hx : i < sgCells.length), Rep w N M γ sgVals[i] sgCells[i] := fun w N M γ i hi hx => by
  have hj : i < 10 := hi
  match i, hj with
  | 0, _ => exact .str _ _
  | 1, _ => exact .str _ _
  | 2, _ => exact .str _ _
  | 3, _ => exact .str _ _
  | 4, _ => exact .str _ _
  | 5, _ => exact .str _ _
  | 6, _ => exact .str _ _
  | 7, _ => exact .str _ _
  | 8, _ => exact .str _ _
  | 9, _ => exact .str _ _
theorem zStr2 : zeroL Tryz.prog 109 = some [.str [], .str []] := by kernel_rfl
def escRows (i : Nat) : List (List AV) := pairRows (escQ.take i)
set_option maxHeartbeats 4000000 in
theorem escape_c (s : B) (hs : s.length ≤ 1000000) : CPure gxs 30 [.str s] (.str (escB s)) := by
  refine cpure_of Tryz.func30 rfl (Nat.le_of_ble_eq_true rfl) rfl (fun w hw => ?_)
  have N1 := (newrep_c escQ (by decide) (by decide)).s
  have N2 := (repl_c escQ (by decide) (by decide) (by decide) s hs).s
  rw [subst_escB] at N2
  refine tri_cutN (fun (_ : Unit) => True) (fun _ => st [(0, .str s), (2, .str []), (3, .sl 101)] [(101, .rows 9 1 [])]) 2 ?_ (fun _ _ => ?_)
  · repeat' (first | refine a_f ?_ | refine st_nil ?_ | refine tri_seq ?_ | refine tri_region rfl ?_ | refine cut_s ?_ | refine a_draw ?_ | (apply st_r rfl; case hq => first | exact a_lens | exact a_index | exact a_add | exact a_adds0 | exact a_addsc | exact a_adds | exact a_sub | exact a_slo | exact a_shi | exact a_slh | exact a_lensl | exact a_lenro | exact a_lennil | exact a_lenpts | exact a_field | exact a_fielde | exact a_fieldr | exact a_idxsl | exact a_load | exact a_loada | exact a_mki | exact a_build2 | exact a_build3 | exact a_build1 | exact a_build0 | exact a_bs1 | exact a_bs2 | exact a_bs3 | exact a_bs4 | exact a_bsa | exact a_boxr) | (apply st_rif rfl; (case hq => first | exact a_lss | exact a_gtr | exact a_eql | exact a_neq | exact a_eqls0 | exact a_neqs0 | exact a_eqls | exact a_neqs | exact a_leq | exact a_geq); all_goals (intro _; try (exfalso; first | omega | contradiction))) | (apply st_rw rfl rfl; case hq => first | exact a_store) | refine tri_true rfl ?_ | refine tri_false rfl ?_ | refine tri_block ?_ | refine tri_skip ?_ | refine tri_ret ?_ | refine tri_exit ?_)
    exact cut_z () trivial (Weak.trans (weak_nil 3 101 9 1 rfl (by decide) rfl rfl) (weak_st ⟨rfl, rfl, rfl, trivial⟩ ⟨rfl, trivial⟩))
  repeat' (first | refine a_f ?_ | refine st_nil ?_ | refine tri_seq ?_ | refine tri_region rfl ?_ | refine a_draw ?_ | (apply st_r rfl; case hq => first | exact q_loadga (vs := sgCells) (avs := sgVals) (n := 10) (by rfl) rfl sg_at rfl sg_rep (by kernel_rfl) | exact a_lens | exact a_index | exact a_add | exact a_adds0 | exact a_addsc | exact a_adds | exact a_sub | exact a_slo | exact a_shi | exact a_slh | exact a_lensl | exact a_lenro | exact a_lennil | exact a_lenpts | exact a_field | exact a_fielde | exact a_fieldr | exact a_idxsl | exact a_load | exact a_loada | exact a_mki | exact a_build2 | exact a_build3 | exact a_build1 | exact a_build0 | exact a_bs1 | exact a_bs2 | exact a_bs3 | exact a_bs4 | exact a_bsa | exact a_boxr) | (apply st_rif rfl; (case hq => first | exact a_lss | exact a_gtr | exact a_eql | exact a_neq | exact a_eqls0 | exact a_neqs0 | exact a_eqls | exact a_neqs | exact a_leq | exact a_geq); all_goals (intro _; try (exfalso; first | omega | contradiction))) | (apply st_rw rfl rfl; case hq => first | exact a_store) | refine tri_true rfl ?_ | refine tri_false rfl ?_ | refine tri_block ?_ | refine tri_skip ?_ | refine tri_ret ?_ | refine tri_exit ?_)
  refine tri_loop (fun (i : Nat) => i ≤ 5) (fun i => st [(0, .str s), (2, .str []), (3, .sl 101), (6, .agg sgVals), (7, .int .i64 i)] [(101, .rows 9 1 (escRows i))]) (fun i => 5 - i) 0 (by decide) ?hw (fun i hi => ?_)
  case hw => exact weak_st ⟨rfl, rfl, rfl, rfl, rfl, trivial⟩ ⟨rfl, trivial⟩
  by_cases hi5 : i = 5
  · subst hi5
    repeat' (first | refine a_f ?_ | refine st_nil ?_ | refine tri_seq ?_ | refine tri_region rfl ?_ | refine a_draw ?_ | (apply st_r rfl; case hq => first | exact a_lens | exact a_index | exact a_add | exact a_adds0 | exact a_addsc | exact a_adds | exact a_sub | exact a_slo | exact a_shi | exact a_slh | exact a_lensl | exact a_lenro | exact a_lennil | exact a_lenpts | exact a_field | exact a_fielde | exact a_fieldr | exact a_idxsl | exact a_load | exact a_loada | exact a_mki | exact a_build2 | exact a_build3 | exact a_build1 | exact a_build0 | exact a_bs1 | exact a_bs2 | exact a_bs3 | exact a_bs4 | exact a_bsa | exact a_boxr) | (apply st_rif rfl; (case hq => first | exact a_lss | exact a_gtr | exact a_eql | exact a_neq | exact a_eqls0 | exact a_neqs0 | exact a_eqls | exact a_neqs | exact a_leq | exact a_geq); all_goals (intro _; try (exfalso; first | omega | contradiction))) | (apply st_rw rfl rfl; case hq => first | exact w_new 102 N1 (hcf := Tryz.call56) rfl rfl rfl rfl | exact w_callb (id := 102) N2 (hcf := Tryz.call57) rfl rfl rfl rfl rfl | exact a_store) | refine tri_true rfl ?_ | refine tri_false rfl ?_ | refine tri_block ?_ | refine tri_skip ?_ | refine tri_ret ?_ | refine tri_exit ?_)
    refine And.intro trivial ?_
    conv => lhs; whnf
  · rcases (show i = 0 ∨ i = 1 ∨ i = 2 ∨ i = 3 ∨ i = 4 by omega) with rfl | rfl | rfl | rfl | rfl
    all_goals
      repeat' (first | refine a_f ?_ | refine st_nil ?_ | refine tri_seq ?_ | refine tri_region rfl ?_ | refine a_draw ?_ | (apply st_r rfl; case hq => first | exact q_indexagg (sz := 2) (by conv => lhs; whnf) (by conv => lhs; whnf) Tryz.underlying110 (by kernel_rfl) (by decide) (by decide) (by conv => lhs; whnf) (by decide) | exact q_idxarr (sz := 1) (by conv => lhs; whnf) (by conv => lhs; whnf) Tryz.underlying109 (by kernel_rfl) (by decide) (by decide) | exact q_load (by conv => lhs; whnf) (by conv => lhs; whnf; arg 1; whnf) (by conv => lhs; whnf) (by show scalB Tryz.prog _ = true; decide +kernel) | exact a_lens | exact a_index | exact a_add | exact a_adds0 | exact a_addsc | exact a_adds | exact a_sub | exact a_slo | exact a_shi | exact a_slh | exact a_lensl | exact a_lenro | exact a_lennil | exact a_lenpts | exact a_field | exact a_fielde | exact a_fieldr | exact a_idxsl | exact a_load | exact a_loada | exact a_mki | exact a_build2 | exact a_build3 | exact a_build1 | exact a_build0 | exact a_bs1 | exact a_bs2 | exact a_bs3 | exact a_bs4 | exact a_bsa | exact a_boxr) | (apply st_rif rfl; (case hq => first | exact a_lss | exact a_gtr | exact a_eql | exact a_neq | exact a_eqls0 | exact a_neqs0 | exact a_eqls | exact a_neqs | exact a_leq | exact a_geq); all_goals (intro _; try (exfalso; first | omega | contradiction))) | (apply st_rw rfl rfl; case hq => first | exact w_alloc 103 zStr2 rfl rfl rfl | exact w_append (id := 101) (by conv => lhs; whnf) (by conv => lhs; whnf; arg 1; whnf) (by conv => lhs; whnf) (by first | exact Tryz.underlying22 | exact Tryz.underlying23 | exact Tryz.underlying43 | exact Tryz.underlying44 | exact Tryz.underlying51 | exact Tryz.underlying86 | exact Tryz.underlying191 | exact Tryz.underlying209 | exact Tryz.underlying234 | exact Tryz.underlying270 | exact Tryz.underlying281 | exact Tryz.underlying344) (by kernel_rfl) (by simp) rfl (by decide) rfl rfl | exact a_store) | refine tri_true rfl ?_ | refine tri_false rfl ?_ | refine tri_block ?_ | refine tri_skip ?_ | refine tri_ret ?_ | refine tri_exit ?_)
    · exact loop_next 1 (by decide) (weak_st ⟨rfl, rfl, rfl, rfl, rfl, trivial⟩ ⟨rfl, trivial⟩) (by decide)
    · exact loop_next 2 (by decide) (weak_st ⟨rfl, rfl, rfl, rfl, rfl, trivial⟩ ⟨rfl, trivial⟩) (by decide)
    · exact loop_next 3 (by decide) (weak_st ⟨rfl, rfl, rfl, rfl, rfl, trivial⟩ ⟨rfl, trivial⟩) (by decide)
    · exact loop_next 4 (by decide) (weak_st ⟨rfl, rfl, rfl, rfl, rfl, trivial⟩ ⟨rfl, trivial⟩) (by decide)
    · exact loop_next 5 (by decide) (weak_st ⟨rfl, rfl, rfl, rfl, rfl, trivial⟩ ⟨rfl, trivial⟩) (by decide)
end
end Go.Proofs.YtignjjnflcpiiaaGreatDoor
