import Derived.Test.YtignjjnflcpiiaaGreatDoorKG45
set_option linter.unusedVariables false
set_option linter.unusedSimpArgs false
set_option maxHeartbeats 1000000
namespace Go.Proofs.YtignjjnflcpiiaaGreatDoor
open Go.RowKit
attribute [local irreducible] Tri Steps Qd Wr Weak CPure CEff AllB Behind
set_option maxRecDepth 100000
set_option linter.unusedSectionVars false
def KmOk (k left : Nat) (p : PT) : Prop := ∀ dep : Int, dep = 7 - (k : Int) → CEff gx 13 (.box [.int .i64 (left : Int)]) [.agg [.ro false 2 (fieldRows p.head), .str p.body, .bool p.many, .pts false p.parts], .int .i64 dep, .ptr 0 0] (some (.box [smCell (smallF k left p)])) (.bool (smallF k left p).isSome)
section
variable {hd : Fs} {bd : B} {m : Bool} {ps : List PT} {left : Nat} (hl : left ≤ 60) (hb : bd.length ≤ 140737488355328) (hh : hd.length ≤ 140737488355328 ∧ ∀ f ∈ hd, f.1.length ≤ 140737488355328 ∧ f.2.length ≤ 140737488355328)
include hl hb
set_option maxHeartbeats 8000000 in
theorem km_lim : ∀ dep : Int, dep = 7 - (0 : Int) → CEff gx 13 (.box [.int .i64 (left : Int)]) [.agg [.ro false 2 (fieldRows hd), .str bd, .bool m, .pts false ps], .int .i64 dep, .ptr 0 0] (some (.box [.any])) (.bool false) := by
  intro dep hdep
  refine ceff_ofb Tryz.func13 rfl (Nat.le_of_ble_eq_true rfl) (fun w γ hw hM => ?_)
  refine tri_postE ?_
  repeat' (first | refine a_f ?_ | refine st_nil ?_ | refine tri_seq ?_ | refine tri_region rfl ?_ | refine tri_drawW wrB 10 [0, 1, 2, 3, 4, 5, 6, 7, 8, 9] [] [] [0, 1, 2, 3, 4, 5, 6, 7, 8, 9, 10] rfl (by kernel_rfl) (by kernel_rfl) rfl ?_ | refine allB_c ?_ ?_ | exact allB_n | refine behind_s ?_ | refine a_draw ?_ | (apply st_r rfl; case hq => first | exact q_quo (by conv => lhs; whnf) rfl (by decide) (quo50 hb) | exact a_q) | (apply st_rif rfl; (case hq => first | exact a_i); all_goals (intro _; try (exfalso; first | omega | contradiction))) | (apply st_rw rfl rfl; case hq => first | exact w_box (d := 3) 103 (by conv => lhs; whnf) rfl (by conv => lhs; whnf) rfl rfl rfl | exact a_store) | refine tri_true rfl ?_ | refine tri_false rfl ?_ | refine tri_block ?_ | refine tri_skip ?_ | refine tri_ret ?_ | refine tri_exit ?_)
  all_goals exact ⟨_, weak_boxany 0 rfl, ⟨trivial, by ((conv => lhs; whnf); try rfl), rfl⟩⟩
variable {k : Nat} (hk7 : k + 1 ≤ 7)
include hk7
set_option maxHeartbeats 8000000 in
theorem km_neg (hn : left < 1 + bd.length / 50) : ∀ dep : Int, dep = 7 - ((k + 1 : Nat) : Int) → CEff gx 13 (.box [.int .i64 (left : Int)]) [.agg [.ro false 2 (fieldRows hd), .str bd, .bool m, .pts false ps], .int .i64 dep, .ptr 0 0] (some (.box [.any])) (.bool false) := by
  intro dep hdep
  refine ceff_ofb Tryz.func13 rfl (Nat.le_of_ble_eq_true rfl) (fun w γ hw hM => ?_)
  refine tri_postE ?_
  repeat' (first | refine a_f ?_ | refine st_nil ?_ | refine tri_seq ?_ | refine tri_region rfl ?_ | refine tri_drawW wrB 10 [0, 1, 2, 3, 4, 5, 6, 7, 8, 9] [] [] [0, 1, 2, 3, 4, 5, 6, 7, 8, 9, 10] rfl (by kernel_rfl) (by kernel_rfl) rfl ?_ | refine allB_c ?_ ?_ | exact allB_n | refine behind_s ?_ | refine a_draw ?_ | (apply st_r rfl; case hq => first | exact q_quo (by conv => lhs; whnf) rfl (by decide) (quo50 hb) | exact a_q) | (apply st_rif rfl; (case hq => first | exact a_i); all_goals (intro _; try (exfalso; first | omega | contradiction))) | (apply st_rw rfl rfl; case hq => first | exact w_box (d := 3) 103 (by conv => lhs; whnf) rfl (by conv => lhs; whnf) rfl rfl rfl | exact a_store) | refine tri_true rfl ?_ | refine tri_false rfl ?_ | refine tri_block ?_ | refine tri_skip ?_ | refine tri_ret ?_ | refine tri_exit ?_)
  all_goals exact ⟨_, weak_boxany 0 rfl, ⟨trivial, by ((conv => lhs; whnf); try rfl), rfl⟩⟩
include hh
set_option maxHeartbeats 8000000 in
theorem km_len (hn : ¬ left < 1 + bd.length / 50) (hs : 20 < hd.length) : ∀ dep : Int, dep = 7 - ((k + 1 : Nat) : Int) → CEff gx 13 (.box [.int .i64 (left : Int)]) [.agg [.ro false 2 (fieldRows hd), .str bd, .bool m, .pts false ps], .int .i64 dep, .ptr 0 0] (some (.box [.any])) (.bool false) := by
  intro dep hdep
  refine ceff_ofb Tryz.func13 rfl (Nat.le_of_ble_eq_true rfl) (fun w γ hw hM => ?_)
  refine tri_postE ?_
  have hfl := fr_len hd
  repeat' (first | refine a_f ?_ | refine st_nil ?_ | refine tri_seq ?_ | refine tri_region rfl ?_ | refine tri_drawW wrB 10 [0, 1, 2, 3, 4, 5, 6, 7, 8, 9] [] [] [0, 1, 2, 3, 4, 5, 6, 7, 8, 9, 10] rfl (by kernel_rfl) (by kernel_rfl) rfl ?_ | refine allB_c ?_ ?_ | exact allB_n | refine behind_s ?_ | refine a_draw ?_ | (apply st_r rfl; case hq => first | exact q_quo (by conv => lhs; whnf) rfl (by decide) (quo50 hb) | exact a_q) | (apply st_rif rfl; (case hq => first | exact a_i); all_goals (intro _; try (exfalso; first | omega | contradiction))) | (apply st_rw rfl rfl; case hq => first | exact w_box (d := 3) 103 (by conv => lhs; whnf) rfl (by conv => lhs; whnf) rfl rfl rfl | exact a_store) | refine tri_true rfl ?_ | refine tri_false rfl ?_ | refine tri_block ?_ | refine tri_skip ?_ | refine tri_ret ?_ | refine tri_exit ?_)
  all_goals exact ⟨_, weak_boxany 0 rfl, ⟨trivial, by ((conv => lhs; whnf); try rfl), rfl⟩⟩
set_option maxHeartbeats 8000000 in
theorem km_long (hn : ¬ left < 1 + bd.length / 50) (h20 : ¬ 20 < hd.length) (hs : hd.all fitF = false) : ∀ dep : Int, dep = 7 - ((k + 1 : Nat) : Int) → CEff gx 13 (.box [.int .i64 (left : Int)]) [.agg [.ro false 2 (fieldRows hd), .str bd, .bool m, .pts false ps], .int .i64 dep, .ptr 0 0] (some (.box [.any])) (.bool false) := by
  intro dep hdep
  refine ceff_ofb Tryz.func13 rfl (Nat.le_of_ble_eq_true rfl) (fun w γ hw hM => ?_)
  refine tri_postE ?_
  have hfl := fr_len hd
  repeat' (first | refine a_f ?_ | refine st_nil ?_ | refine tri_seq ?_ | refine tri_region rfl ?_ | refine tri_drawW wrB 10 [0, 1, 2, 3, 4, 5, 6, 7, 8, 9] [] [] [0, 1, 2, 3, 4, 5, 6, 7, 8, 9, 10] rfl (by kernel_rfl) (by kernel_rfl) rfl ?_ | refine allB_c ?_ ?_ | exact allB_n | refine behind_s ?_ | refine a_draw ?_ | (apply st_r rfl; case hq => first | exact q_quo (by conv => lhs; whnf) rfl (by decide) (quo50 hb) | exact a_q) | (apply st_rif rfl; (case hq => first | exact a_i); all_goals (intro _; try (exfalso; first | omega | contradiction))) | (apply st_rw rfl rfl; case hq => first | exact w_box (d := 3) 103 (by conv => lhs; whnf) rfl (by conv => lhs; whnf) rfl rfl rfl | exact a_store) | refine tri_true rfl ?_ | refine tri_false rfl ?_ | refine tri_block ?_ | refine tri_skip ?_ | refine tri_ret ?_ | refine tri_exit ?_)
  refine tri_loop (fun (i : Nat) => i ≤ hd.length ∧ (hd.drop i).all fitF = false) (fun i => st [(1, .int .i64 dep), (2, .ptr 0 0), (3, .ptr 103 0), (6, .bool false), (7, .int .i64 i)] [(0, .box [.int .i64 ((left - (1 + bd.length / 50) : Nat) : Int)]), (103, .box [.ro false 2 (fieldRows hd), .str bd, .bool m, .pts false ps])]) (fun i => hd.length - i) 0 ⟨Nat.zero_le _, by rw [List.drop_zero]; exact hs⟩ ?hw (fun i hi => ?_)
  case hw => exact weak_st ⟨rfl, rfl, rfl, rfl, rfl, trivial⟩ ⟨congrArg (fun z => some (AObj.box [AV.int .i64 z])) (by show _ = ((left - (1 + bd.length / 50) : Nat) : Int); omega), rfl, trivial⟩
  obtain ⟨hi, hf⟩ := hi
  by_cases hil : i < hd.length
  · obtain ⟨f, hf1, hfm, hfd, hfr⟩ := fr_at hil
    have hb1 := hh.2 f hfm
    rw [hfd, List.all_cons] at hf
    by_cases h400 : 400 < f.1.length + f.2.length
    · clear hf
      repeat' (first | refine a_f ?_ | refine st_nil ?_ | refine tri_seq ?_ | refine tri_region rfl ?_ | refine a_draw ?_ | (apply st_r rfl; case hq => first | exact q_idxro (by conv => lhs; whnf) (by conv => lhs; whnf) (by first | exact Tryz.underlying22 | exact Tryz.underlying23 | exact Tryz.underlying43 | exact Tryz.underlying44 | exact Tryz.underlying51 | exact Tryz.underlying86 | exact Tryz.underlying191 | exact Tryz.underlying209 | exact Tryz.underlying234 | exact Tryz.underlying270 | exact Tryz.underlying281 | exact Tryz.underlying344) (by kernel_rfl) (by omega) hfr | exact q_loadr (by conv => lhs; whnf) (by conv => lhs; whnf) (by show scalB Tryz.prog _ = true; decide +kernel) (fun _ => rfl) | exact a_q) | (apply st_rif rfl; (case hq => first | exact a_i); all_goals (intro _; try (exfalso; first | omega | contradiction))) | (apply st_rw rfl rfl; case hq => first | exact a_store) | refine tri_true rfl ?_ | refine tri_false rfl ?_ | refine tri_block ?_ | refine tri_skip ?_ | refine tri_ret ?_ | refine tri_exit ?_)
      exact ⟨_, weak_boxany 0 rfl, ⟨trivial, by ((conv => lhs; whnf); try rfl), rfl⟩⟩
    · have hf2 : (hd.drop (i + 1)).all fitF = false := by
        rw [show fitF f = true from decide_eq_true h400, Bool.true_and] at hf
        exact hf
      clear hf
      repeat' (first | refine a_f ?_ | refine st_nil ?_ | refine tri_seq ?_ | refine tri_region rfl ?_ | refine a_draw ?_ | (apply st_r rfl; case hq => first | exact q_idxro (by conv => lhs; whnf) (by conv => lhs; whnf) (by first | exact Tryz.underlying22 | exact Tryz.underlying23 | exact Tryz.underlying43 | exact Tryz.underlying44 | exact Tryz.underlying51 | exact Tryz.underlying86 | exact Tryz.underlying191 | exact Tryz.underlying209 | exact Tryz.underlying234 | exact Tryz.underlying270 | exact Tryz.underlying281 | exact Tryz.underlying344) (by kernel_rfl) (by omega) hfr | exact q_loadr (by conv => lhs; whnf) (by conv => lhs; whnf) (by show scalB Tryz.prog _ = true; decide +kernel) (fun _ => rfl) | exact a_q) | (apply st_rif rfl; (case hq => first | exact a_i); all_goals (intro _; try (exfalso; first | omega | contradiction))) | (apply st_rw rfl rfl; case hq => first | exact a_store) | refine tri_true rfl ?_ | refine tri_false rfl ?_ | refine tri_block ?_ | refine tri_skip ?_ | refine tri_ret ?_ | refine tri_exit ?_)
      exact nextR (i + 1) ⟨by omega, hf2⟩ (weak_st ⟨rfl, rfl, rfl, rfl, rfl, trivial⟩ ⟨rfl, rfl, trivial⟩) (show hd.length - (i + 1) < hd.length - i by omega)
  · rw [List.drop_eq_nil_of_le (by omega), List.all_nil] at hf
    cases hf
variable (hpl : ps.length ≤ 140737488355328) (hn : ¬ left < 1 + bd.length / 50) (hs : shortB hd = true) (IH : ∀ left q, left ≤ 60 → q ∈ ps → KmOk k left q)
include hpl hn hs IH
set_option maxHeartbeats 16000000 in
theorem km_no (hk : smallKids (smallF k) (left - (1 + bd.length / 50)) ps = none) : ∀ dep : Int, dep = 7 - ((k + 1 : Nat) : Int) → CEff gx 13 (.box [.int .i64 (left : Int)]) [.agg [.ro false 2 (fieldRows hd), .str bd, .bool m, .pts false ps], .int .i64 dep, .ptr 0 0] (some (.box [.any])) (.bool false) := by
  intro dep hdep
  refine ceff_ofb Tryz.func13 rfl (Nat.le_of_ble_eq_true rfl) (fun w γ hw hM => ?_)
  refine tri_postE ?_
  have h20 : ¬ 20 < hd.length := by
    unfold shortB at hs
    rw [Bool.and_eq_true] at hs
    exact of_decide_eq_true hs.1
  have hal : ∀ f ∈ hd, ¬ 400 < f.1.length + f.2.length := fun f hf => by
    unfold shortB at hs
    rw [Bool.and_eq_true] at hs
    exact of_decide_eq_true (List.all_eq_true.1 hs.2 f hf)
  clear hs
  have hfl := fr_len hd
  repeat' (first | refine a_f ?_ | refine st_nil ?_ | refine tri_seq ?_ | refine tri_region rfl ?_ | refine tri_drawW wrB 10 [0, 1, 2, 3, 4, 5, 6, 7, 8, 9] [] [] [0, 1, 2, 3, 4, 5, 6, 7, 8, 9, 10] rfl (by kernel_rfl) (by kernel_rfl) rfl ?_ | refine allB_c ?_ ?_ | exact allB_n | refine behind_s ?_ | refine a_draw ?_ | (apply st_r rfl; case hq => first | exact q_quo (by conv => lhs; whnf) rfl (by decide) (quo50 hb) | exact a_q) | (apply st_rif rfl; (case hq => first | exact a_i); all_goals (intro _; try (exfalso; first | omega | contradiction))) | (apply st_rw rfl rfl; case hq => first | exact w_box (d := 3) 103 (by conv => lhs; whnf) rfl (by conv => lhs; whnf) rfl rfl rfl | exact a_store) | refine tri_true rfl ?_ | refine tri_false rfl ?_ | refine tri_block ?_ | refine tri_skip ?_ | refine tri_ret ?_ | refine tri_exit ?_)
  refine tri_loop (fun (i : Nat) => i ≤ hd.length) (fun i => st [(1, .int .i64 dep), (2, .ptr 0 0), (3, .ptr 103 0), (6, .bool false), (7, .int .i64 i)] [(0, .box [.int .i64 ((left - (1 + bd.length / 50) : Nat) : Int)]), (103, .box [.ro false 2 (fieldRows hd), .str bd, .bool m, .pts false ps])]) (fun i => hd.length - i) 0 (Nat.zero_le _) ?hw (fun i hi => ?_)
  case hw => exact weak_st ⟨rfl, rfl, rfl, rfl, rfl, trivial⟩ ⟨congrArg (fun z => some (AObj.box [AV.int .i64 z])) (by show _ = ((left - (1 + bd.length / 50) : Nat) : Int); omega), rfl, trivial⟩
  by_cases hil : i < hd.length
  · obtain ⟨f, hf1, hfm, hfd, hfr⟩ := fr_at hil
    have hb1 := hh.2 f hfm
    have h400 := hal f hfm
    clear hal
    repeat' (first | refine a_f ?_ | refine st_nil ?_ | refine tri_seq ?_ | refine tri_region rfl ?_ | refine a_draw ?_ | (apply st_r rfl; case hq => first | exact q_idxro (by conv => lhs; whnf) (by conv => lhs; whnf) (by first | exact Tryz.underlying22 | exact Tryz.underlying23 | exact Tryz.underlying43 | exact Tryz.underlying44 | exact Tryz.underlying51 | exact Tryz.underlying86 | exact Tryz.underlying191 | exact Tryz.underlying209 | exact Tryz.underlying234 | exact Tryz.underlying270 | exact Tryz.underlying281 | exact Tryz.underlying344) (by kernel_rfl) (by omega) hfr | exact q_loadr (by conv => lhs; whnf) (by conv => lhs; whnf) (by show scalB Tryz.prog _ = true; decide +kernel) (fun _ => rfl) | exact a_q) | (apply st_rif rfl; (case hq => first | exact a_i); all_goals (intro _; try (exfalso; first | omega | contradiction))) | (apply st_rw rfl rfl; case hq => first | exact a_store) | refine tri_true rfl ?_ | refine tri_false rfl ?_ | refine tri_block ?_ | refine tri_skip ?_ | refine tri_ret ?_ | refine tri_exit ?_)
    exact nextR (i + 1) (by omega) (weak_st ⟨rfl, rfl, rfl, rfl, rfl, trivial⟩ ⟨rfl, rfl, trivial⟩) (show hd.length - (i + 1) < hd.length - i by omega)
  clear hal
  repeat' (first | refine a_f ?_ | refine st_nil ?_ | refine tri_seq ?_ | refine tri_region rfl ?_ | refine a_draw ?_ | (apply st_r rfl; case hq => first | exact a_q) | (apply st_rif rfl; (case hq => first | exact a_i); all_goals (intro _; try (exfalso; first | omega | contradiction))) | (apply st_rw rfl rfl; case hq => first | exact a_store) | refine tri_true rfl ?_ | refine tri_false rfl ?_ | refine tri_block ?_ | refine tri_skip ?_ | refine tri_ret ?_ | refine tri_exit ?_)
  refine tri_loop (fun (x : Nat × Nat) => x.1 ≤ ps.length ∧ x.2 ≤ 60 ∧ smallKids (smallF k) x.2 (ps.drop x.1) = none) (fun x => st [(1, .int .i64 dep), (2, .ptr 0 0), (3, .ptr 103 0), (6, .bool false), (8, .int .i64 x.1)] [(0, .box [.int .i64 (x.2 : Int)]), (103, .box [.ro false 2 (fieldRows hd), .str bd, .bool m, .pts false ps])]) (fun x => ps.length - x.1) (0, left - (1 + bd.length / 50)) ⟨Nat.zero_le _, by simp only; omega, by simp only [List.drop_zero]; exact hk⟩ ?hw2 (fun x hx => ?_)
  case hw2 => exact weak_st ⟨rfl, rfl, rfl, rfl, rfl, trivial⟩ ⟨rfl, rfl, trivial⟩
  obtain ⟨i, lf⟩ := x
  obtain ⟨hi, hlf, hkk⟩ := hx
  simp only at hi hlf hkk
  change Tri _ _ (st [(1, .int .i64 dep), (2, .ptr 0 0), (3, .ptr 103 0), (6, .bool false), (8, .int .i64 i)] [(0, .box [.int .i64 (lf : Int)]), (103, .box [.ro false 2 (fieldRows hd), .str bd, .bool m, .pts false ps])]) _
  by_cases hil : i < ps.length
  · obtain ⟨q, hq1, hqm, hqd, hqr⟩ := pt_at hil
    rw [hqd, smallKids] at hkk
    have E := IH lf q hlf hqm (dep + 1) (by omega)
    cases hwq : smallF k lf q with
    | none =>
      rw [hwq] at E
      obtain ⟨qh, qb, qm, qp⟩ := q
      have E : CEff gx 13 (.box [.int .i64 (lf : Int)]) [.agg [.ro false 2 (fieldRows qh), .str qb, .bool qm, .pts false qp], .int .i64 (dep + 1), .ptr 0 0] (some (.box [.any])) (.bool false) := E
      repeat' (first | refine a_f ?_ | refine st_nil ?_ | refine tri_seq ?_ | refine tri_region rfl ?_ | refine a_draw ?_ | (apply st_r rfl; case hq => first | exact q_idxpts (p := .mk qh qb qm qp) (by conv => lhs; whnf) (by conv => lhs; whnf) Tryz.underlying23 (by kernel_rfl) (by omega) hqr | exact q_loadar (n := 4) (by conv => lhs; whnf) (by conv => lhs; whnf) (by first | rfl | exact Nat.le_of_ble_eq_true rfl | exact Nat.succ_pos _ | decide) (by kernel_rfl) (fun _ => rfl) | exact q_lenpts (fr := false) (l := ps) (by rfl) Tryz.underlying23 | exact a_q) | (apply st_rif rfl; (case hq => first | exact a_i); all_goals (intro _; try (exfalso; first | omega | contradiction))) | (apply st_rw rfl rfl; case hq => first | exact w_call (id := 0) E (hcf := Tryz.call13) (by rfl) rfl rfl rfl rfl rfl | exact a_store) | refine tri_true rfl ?_ | refine tri_false rfl ?_ | refine tri_block ?_ | refine tri_skip ?_ | refine tri_ret ?_ | refine tri_exit ?_)
      exact ⟨_, Weak.refl _ _, ⟨trivial, by ((conv => lhs; whnf); try rfl), rfl⟩⟩
    | some c =>
      rw [hwq] at E hkk
      obtain ⟨hc, _, _⟩ := smallF_le k lf q c hwq
      obtain ⟨qh, qb, qm, qp⟩ := q
      have E : CEff gx 13 (.box [.int .i64 (lf : Int)]) [.agg [.ro false 2 (fieldRows qh), .str qb, .bool qm, .pts false qp], .int .i64 (dep + 1), .ptr 0 0] (some (.box [.int .i64 (c : Int)])) (.bool true) := E
      repeat' (first | refine a_f ?_ | refine st_nil ?_ | refine tri_seq ?_ | refine tri_region rfl ?_ | refine a_draw ?_ | (apply st_r rfl; case hq => first | exact q_idxpts (p := .mk qh qb qm qp) (by conv => lhs; whnf) (by conv => lhs; whnf) Tryz.underlying23 (by kernel_rfl) (by omega) hqr | exact q_loadar (n := 4) (by conv => lhs; whnf) (by conv => lhs; whnf) (by first | rfl | exact Nat.le_of_ble_eq_true rfl | exact Nat.succ_pos _ | decide) (by kernel_rfl) (fun _ => rfl) | exact q_lenpts (fr := false) (l := ps) (by rfl) Tryz.underlying23 | exact a_q) | (apply st_rif rfl; (case hq => first | exact a_i); all_goals (intro _; try (exfalso; first | omega | contradiction))) | (apply st_rw rfl rfl; case hq => first | exact w_call (id := 0) E (hcf := Tryz.call13) (by rfl) rfl rfl rfl rfl rfl | exact a_store) | refine tri_true rfl ?_ | refine tri_false rfl ?_ | refine tri_block ?_ | refine tri_skip ?_ | refine tri_ret ?_ | refine tri_exit ?_)
      exact nextR (i + 1, c) ⟨by simp only; omega, by simp only; omega, hkk⟩ (weak_st ⟨rfl, rfl, rfl, rfl, rfl, trivial⟩ ⟨rfl, rfl, trivial⟩) (show ps.length - (i + 1) < ps.length - i by omega)
  · rw [List.drop_eq_nil_of_le (by omega), smallKids] at hkk
    cases hkk
set_option maxHeartbeats 16000000 in
theorem km_yes {n : Nat} (hk : smallKids (smallF k) (left - (1 + bd.length / 50)) ps = some n) : ∀ dep : Int, dep = 7 - ((k + 1 : Nat) : Int) → CEff gx 13 (.box [.int .i64 (left : Int)]) [.agg [.ro false 2 (fieldRows hd), .str bd, .bool m, .pts false ps], .int .i64 dep, .ptr 0 0] (some (.box [.int .i64 (n : Int)])) (.bool true) := by
  intro dep hdep
  refine ceff_ofb Tryz.func13 rfl (Nat.le_of_ble_eq_true rfl) (fun w γ hw hM => ?_)
  have h20 : ¬ 20 < hd.length := by
    unfold shortB at hs
    rw [Bool.and_eq_true] at hs
    exact of_decide_eq_true hs.1
  have hal : ∀ f ∈ hd, ¬ 400 < f.1.length + f.2.length := fun f hf => by
    unfold shortB at hs
    rw [Bool.and_eq_true] at hs
    exact of_decide_eq_true (List.all_eq_true.1 hs.2 f hf)
  clear hs
  have hfl := fr_len hd
  repeat' (first | refine a_f ?_ | refine st_nil ?_ | refine tri_seq ?_ | refine tri_region rfl ?_ | refine tri_drawW wrB 10 [0, 1, 2, 3, 4, 5, 6, 7, 8, 9] [] [] [0, 1, 2, 3, 4, 5, 6, 7, 8, 9, 10] rfl (by kernel_rfl) (by kernel_rfl) rfl ?_ | refine allB_c ?_ ?_ | exact allB_n | refine behind_s ?_ | refine a_draw ?_ | (apply st_r rfl; case hq => first | exact q_quo (by conv => lhs; whnf) rfl (by decide) (quo50 hb) | exact a_q) | (apply st_rif rfl; (case hq => first | exact a_i); all_goals (intro _; try (exfalso; first | omega | contradiction))) | (apply st_rw rfl rfl; case hq => first | exact w_box (d := 3) 103 (by conv => lhs; whnf) rfl (by conv => lhs; whnf) rfl rfl rfl | exact a_store) | refine tri_true rfl ?_ | refine tri_false rfl ?_ | refine tri_block ?_ | refine tri_skip ?_ | refine tri_ret ?_ | refine tri_exit ?_)
  refine tri_loop (fun (i : Nat) => i ≤ hd.length) (fun i => st [(1, .int .i64 dep), (2, .ptr 0 0), (3, .ptr 103 0), (6, .bool false), (7, .int .i64 i)] [(0, .box [.int .i64 ((left - (1 + bd.length / 50) : Nat) : Int)]), (103, .box [.ro false 2 (fieldRows hd), .str bd, .bool m, .pts false ps])]) (fun i => hd.length - i) 0 (Nat.zero_le _) ?hw (fun i hi => ?_)
  case hw => exact weak_st ⟨rfl, rfl, rfl, rfl, rfl, trivial⟩ ⟨congrArg (fun z => some (AObj.box [AV.int .i64 z])) (by show _ = ((left - (1 + bd.length / 50) : Nat) : Int); omega), rfl, trivial⟩
  by_cases hil : i < hd.length
  · obtain ⟨f, hf1, hfm, hfd, hfr⟩ := fr_at hil
    have hb1 := hh.2 f hfm
    have h400 := hal f hfm
    clear hal
    repeat' (first | refine a_f ?_ | refine st_nil ?_ | refine tri_seq ?_ | refine tri_region rfl ?_ | refine a_draw ?_ | (apply st_r rfl; case hq => first | exact q_idxro (by conv => lhs; whnf) (by conv => lhs; whnf) (by first | exact Tryz.underlying22 | exact Tryz.underlying23 | exact Tryz.underlying43 | exact Tryz.underlying44 | exact Tryz.underlying51 | exact Tryz.underlying86 | exact Tryz.underlying191 | exact Tryz.underlying209 | exact Tryz.underlying234 | exact Tryz.underlying270 | exact Tryz.underlying281 | exact Tryz.underlying344) (by kernel_rfl) (by omega) hfr | exact q_loadr (by conv => lhs; whnf) (by conv => lhs; whnf) (by show scalB Tryz.prog _ = true; decide +kernel) (fun _ => rfl) | exact a_q) | (apply st_rif rfl; (case hq => first | exact a_i); all_goals (intro _; try (exfalso; first | omega | contradiction))) | (apply st_rw rfl rfl; case hq => first | exact a_store) | refine tri_true rfl ?_ | refine tri_false rfl ?_ | refine tri_block ?_ | refine tri_skip ?_ | refine tri_ret ?_ | refine tri_exit ?_)
    exact nextR (i + 1) (by omega) (weak_st ⟨rfl, rfl, rfl, rfl, rfl, trivial⟩ ⟨rfl, rfl, trivial⟩) (show hd.length - (i + 1) < hd.length - i by omega)
  clear hal
  repeat' (first | refine a_f ?_ | refine st_nil ?_ | refine tri_seq ?_ | refine tri_region rfl ?_ | refine a_draw ?_ | (apply st_r rfl; case hq => first | exact a_q) | (apply st_rif rfl; (case hq => first | exact a_i); all_goals (intro _; try (exfalso; first | omega | contradiction))) | (apply st_rw rfl rfl; case hq => first | exact a_store) | refine tri_true rfl ?_ | refine tri_false rfl ?_ | refine tri_block ?_ | refine tri_skip ?_ | refine tri_ret ?_ | refine tri_exit ?_)
  refine tri_loop (fun (x : Nat × Nat) => x.1 ≤ ps.length ∧ x.2 ≤ 60 ∧ smallKids (smallF k) x.2 (ps.drop x.1) = some n) (fun x => st [(1, .int .i64 dep), (2, .ptr 0 0), (3, .ptr 103 0), (6, .bool false), (8, .int .i64 x.1)] [(0, .box [.int .i64 (x.2 : Int)]), (103, .box [.ro false 2 (fieldRows hd), .str bd, .bool m, .pts false ps])]) (fun x => ps.length - x.1) (0, left - (1 + bd.length / 50)) ⟨Nat.zero_le _, by simp only; omega, by simp only [List.drop_zero]; exact hk⟩ ?hw2 (fun x hx => ?_)
  case hw2 => exact weak_st ⟨rfl, rfl, rfl, rfl, rfl, trivial⟩ ⟨rfl, rfl, trivial⟩
  obtain ⟨i, lf⟩ := x
  obtain ⟨hi, hlf, hkk⟩ := hx
  simp only at hi hlf hkk
  change Tri _ _ (st [(1, .int .i64 dep), (2, .ptr 0 0), (3, .ptr 103 0), (6, .bool false), (8, .int .i64 i)] [(0, .box [.int .i64 (lf : Int)]), (103, .box [.ro false 2 (fieldRows hd), .str bd, .bool m, .pts false ps])]) _
  by_cases hil : i < ps.length
  · obtain ⟨q, hq1, hqm, hqd, hqr⟩ := pt_at hil
    rw [hqd, smallKids] at hkk
    have E := IH lf q hlf hqm (dep + 1) (by omega)
    cases hwq : smallF k lf q with
    | none =>
      rw [hwq] at hkk
      cases hkk
    | some c =>
      rw [hwq] at E hkk
      obtain ⟨hc, _, _⟩ := smallF_le k lf q c hwq
      obtain ⟨qh, qb, qm, qp⟩ := q
      have E : CEff gx 13 (.box [.int .i64 (lf : Int)]) [.agg [.ro false 2 (fieldRows qh), .str qb, .bool qm, .pts false qp], .int .i64 (dep + 1), .ptr 0 0] (some (.box [.int .i64 (c : Int)])) (.bool true) := E
      repeat' (first | refine a_f ?_ | refine st_nil ?_ | refine tri_seq ?_ | refine tri_region rfl ?_ | refine a_draw ?_ | (apply st_r rfl; case hq => first | exact q_idxpts (p := .mk qh qb qm qp) (by conv => lhs; whnf) (by conv => lhs; whnf) Tryz.underlying23 (by kernel_rfl) (by omega) hqr | exact q_loadar (n := 4) (by conv => lhs; whnf) (by conv => lhs; whnf) (by first | rfl | exact Nat.le_of_ble_eq_true rfl | exact Nat.succ_pos _ | decide) (by kernel_rfl) (fun _ => rfl) | exact q_lenpts (fr := false) (l := ps) (by rfl) Tryz.underlying23 | exact a_q) | (apply st_rif rfl; (case hq => first | exact a_i); all_goals (intro _; try (exfalso; first | omega | contradiction))) | (apply st_rw rfl rfl; case hq => first | exact w_call (id := 0) E (hcf := Tryz.call13) (by rfl) rfl rfl rfl rfl rfl | exact a_store) | refine tri_true rfl ?_ | refine tri_false rfl ?_ | refine tri_block ?_ | refine tri_skip ?_ | refine tri_ret ?_ | refine tri_exit ?_)
      exact nextR (i + 1, c) ⟨by simp only; omega, by simp only; omega, hkk⟩ (weak_st ⟨rfl, rfl, rfl, rfl, rfl, trivial⟩ ⟨rfl, rfl, trivial⟩) (show ps.length - (i + 1) < ps.length - i by omega)
  · rw [List.drop_eq_nil_of_le (by omega), smallKids] at hkk
    cases hkk
    repeat' (first | refine a_f ?_ | refine st_nil ?_ | refine tri_seq ?_ | refine tri_region rfl ?_ | refine a_draw ?_ | (apply st_r rfl; case hq => first | exact q_lenpts (fr := false) (l := ps) (by rfl) Tryz.underlying23 | exact a_q) | (apply st_rif rfl; (case hq => first | exact a_i); all_goals (intro _; try (exfalso; first | omega | contradiction))) | (apply st_rw rfl rfl; case hq => first | exact a_store) | refine tri_true rfl ?_ | refine tri_false rfl ?_ | refine tri_block ?_ | refine tri_skip ?_ | refine tri_ret ?_ | refine tri_exit ?_)
    exact ⟨trivial, by ((conv => lhs; whnf); try rfl), rfl⟩
end
theorem ksmall_e : ∀ (k left : Nat) (p : PT), k ≤ 7 → left ≤ 60 → BigD k p → KmOk k left p
  | 0, left, .mk hd bd m ps, hk, hl, hB => by
    unfold KmOk
    rw [show smallF 0 left (.mk hd bd m ps) = none by rw [smallF]]
    exact km_lim hl hB
  | k + 1, left, .mk hd bd m ps, hk, hl, hB => by
    obtain ⟨hb, hh1, hh2, hpl, hq⟩ := hB
    have IH : ∀ left q, left ≤ 60 → q ∈ ps → KmOk k left q := fun left q hl hm => ksmall_e k left q (by omega) hl (hq q hm)
    unfold KmOk
    rw [smallF]
    by_cases hn : left < 1 + bd.length / 50
    · rw [if_pos hn]
      exact km_neg hl hb hk hn
    · rw [if_neg hn]
      cases hs : shortB hd with
      | false =>
        by_cases h20 : 20 < hd.length
        · exact km_len hl hb ⟨hh1, hh2⟩ hk hn h20
        · refine km_long hl hb ⟨hh1, hh2⟩ hk hn h20 ?_
          unfold shortB at hs
          rw [decide_eq_true h20, Bool.true_and] at hs
          exact hs
      | true =>
        cases hk' : smallKids (smallF k) (left - (1 + bd.length / 50)) ps with
        | none => exact km_no hl hb ⟨hh1, hh2⟩ hk hpl hn hs IH hk'
        | some n => exact km_yes hl hb ⟨hh1, hh2⟩ hk hpl hn hs IH hk'
end Go.Proofs.YtignjjnflcpiiaaGreatDoor
