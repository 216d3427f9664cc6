import Derived.Test.YtignjjnflcpiiaaGreatDoorWG50
import Derived.Test.YtignjjnflcpiiaaGreatDoorWG49
import Derived.Test.YtignjjnflcpiiaaGreatDoorWVm5
import Derived.Test.YtignjjnflcpiiaaGreatDoorCards
import Derived.Test.YtignjjnflcpiiaaGreatDoorWPartG
import Derived.OpenShut
import Derived.MakeChecks
import Derived.LaidSub
set_option linter.unusedVariables false
set_option linter.unusedSimpArgs false
set_option maxHeartbeats 1000000
namespace Go.Proofs.YtignjjnflcpiiaaGreatDoor
open Go.RowKit
attribute [local irreducible] Tri Steps Qd Wr Weak CPure CEff AllB Behind
set_option maxRecDepth 100000
set_option linter.unusedSectionVars false
def SmOk (k left : Nat) (p : PT) : Prop := ∀ dep : Int, dep = 7 - (k : Int) → CEff gx 9 (.box [.int .i64 (left : Int)]) [.agg [.ro false 2 (fieldRows p.head), .str p.body, .bool p.many, .pts false p.parts], .int .i64 dep, .ptr 0 0] (some (.box [smCell (smallF k left p)])) (.bool (smallF k left p).isSome)
section
variable {hd : Fs} {bd : B} {m : Bool} {ps : List PT} {left : Nat} (hl : left ≤ 60) (hb : bd.length ≤ 140737488355328) {k : Nat} (hk7 : k + 1 ≤ 7)
  (hh : hd.length ≤ 140737488355328 ∧ ∀ f ∈ hd, f.1.length ≤ 140737488355328 ∧ f.2.length ≤ 140737488355328) (hpl : ps.length ≤ 140737488355328)
  (hn : ¬ left < 1 + bd.length / 50) (hs : shortB hd = true) (IH : ∀ left q, left ≤ 60 → q ∈ ps → SmOk k left q)
include hl hb hk7 hh hpl hn hs IH
set_option maxHeartbeats 16000000 in
theorem sm_no (hk : smallKids (smallF k) (left - (1 + bd.length / 50)) ps = none) : ∀ dep : Int, dep = 7 - ((k + 1 : Nat) : Int) → CEff gx 9 (.box [.int .i64 (left : Int)]) [.agg [.ro false 2 (fieldRows hd), .str bd, .bool m, .pts false ps], .int .i64 dep, .ptr 0 0] (some (.box [.any])) (.bool false) := by
  intro dep hdep
  refine ceff_ofb Tryz.func9 rfl (Nat.le_of_ble_eq_true rfl) (fun w γ hw hM => ?_)
  refine tri_postE ?_
  have S1 := short_c hd (by omega) (fun f hf => by have := hh.2 f hf; omega)
  rw [hs] at S1
  repeat' (first | refine a_f ?_ | refine st_nil ?_ | refine tri_seq ?_ | refine tri_region rfl ?_ | refine tri_drawW wrB 10 [0, 1, 2, 3, 4, 5, 6, 7, 8, 9] [] [] [0, 1, 2, 3, 4, 5, 6, 7, 8, 9, 10] rfl (by kernel_rfl) (by kernel_rfl) rfl ?_ | refine allB_c ?_ ?_ | exact allB_n | refine behind_s ?_ | refine a_draw ?_ | (apply st_r rfl; case hq => first | exact q_quo (by conv => lhs; whnf) rfl (by decide) (quo50 hb) | exact q_call S1 (hcf := Tryz.call32) rfl rfl | exact a_q) | (apply st_rif rfl; (case hq => first | exact a_i); all_goals (intro _; try (exfalso; first | omega | contradiction))) | (apply st_rw rfl rfl; case hq => first | exact w_box (d := 3) 103 (by conv => lhs; whnf) rfl (by conv => lhs; whnf) rfl rfl rfl | exact a_store) | refine tri_true rfl ?_ | refine tri_false rfl ?_ | refine tri_block ?_ | refine tri_skip ?_ | refine tri_ret ?_ | refine tri_exit ?_)
  refine tri_loop (fun (x : Nat × Nat) => x.1 ≤ ps.length ∧ x.2 ≤ 60 ∧ smallKids (smallF k) x.2 (ps.drop x.1) = none) (fun x => st [(1, .int .i64 dep), (2, .ptr 0 0), (3, .ptr 103 0), (6, .bool false), (7, .int .i64 x.1)] [(0, .box [.int .i64 (x.2 : Int)]), (103, .box [.ro false 2 (fieldRows hd), .str bd, .bool m, .pts false ps])]) (fun x => ps.length - x.1) (0, left - (1 + bd.length / 50)) ⟨Nat.zero_le _, by simp only; omega, by simp only [List.drop_zero]; exact hk⟩ ?hw (fun x hx => ?_)
  case hw => exact weak_st ⟨rfl, rfl, rfl, rfl, rfl, trivial⟩ ⟨congrArg (fun z => some (AObj.box [AV.int .i64 z])) (by show _ = ((left - (1 + bd.length / 50) : Nat) : Int); omega), rfl, trivial⟩
  obtain ⟨i, lf⟩ := x
  obtain ⟨hi, hlf, hkk⟩ := hx
  simp only at hi hlf hkk
  change Tri _ _ (st [(1, .int .i64 dep), (2, .ptr 0 0), (3, .ptr 103 0), (6, .bool false), (7, .int .i64 i)] [(0, .box [.int .i64 (lf : Int)]), (103, .box [.ro false 2 (fieldRows hd), .str bd, .bool m, .pts false ps])]) _
  by_cases hil : i < ps.length
  · obtain ⟨q, hq1, hqm, hqd, hqr⟩ := pt_at hil
    rw [hqd, smallKids] at hkk
    have E := IH lf q hlf hqm (dep + 1) (by omega)
    cases hwq : smallF k lf q with
    | none =>
      rw [hwq] at E
      obtain ⟨qh, qb, qm, qp⟩ := q
      have E : CEff gx 9 (.box [.int .i64 (lf : Int)]) [.agg [.ro false 2 (fieldRows qh), .str qb, .bool qm, .pts false qp], .int .i64 (dep + 1), .ptr 0 0] (some (.box [.any])) (.bool false) := E
      repeat' (first | refine a_f ?_ | refine st_nil ?_ | refine tri_seq ?_ | refine tri_region rfl ?_ | refine a_draw ?_ | (apply st_r rfl; case hq => first | exact q_idxpts (p := .mk qh qb qm qp) (by conv => lhs; whnf) (by conv => lhs; whnf) Tryz.underlying23 (by kernel_rfl) (by omega) hqr | exact q_loadar (n := 4) (by conv => lhs; whnf) (by conv => lhs; whnf) (by first | rfl | exact Nat.le_of_ble_eq_true rfl | exact Nat.succ_pos _ | decide) (by kernel_rfl) (fun _ => rfl) | exact q_lenpts (fr := false) (l := ps) (by rfl) Tryz.underlying23 | exact a_q) | (apply st_rif rfl; (case hq => first | exact a_i); all_goals (intro _; try (exfalso; first | omega | contradiction))) | (apply st_rw rfl rfl; case hq => first | exact w_call (id := 0) E (hcf := Tryz.call9) (by rfl) rfl rfl rfl rfl rfl | exact a_store) | refine tri_true rfl ?_ | refine tri_false rfl ?_ | refine tri_block ?_ | refine tri_skip ?_ | refine tri_ret ?_ | refine tri_exit ?_)
      exact ⟨_, Weak.refl _ _, ⟨trivial, by ((conv => lhs; whnf); try rfl), rfl⟩⟩
    | some c =>
      rw [hwq] at E hkk
      obtain ⟨hc, _, _⟩ := smallF_le k lf q c hwq
      obtain ⟨qh, qb, qm, qp⟩ := q
      have E : CEff gx 9 (.box [.int .i64 (lf : Int)]) [.agg [.ro false 2 (fieldRows qh), .str qb, .bool qm, .pts false qp], .int .i64 (dep + 1), .ptr 0 0] (some (.box [.int .i64 (c : Int)])) (.bool true) := E
      repeat' (first | refine a_f ?_ | refine st_nil ?_ | refine tri_seq ?_ | refine tri_region rfl ?_ | refine a_draw ?_ | (apply st_r rfl; case hq => first | exact q_idxpts (p := .mk qh qb qm qp) (by conv => lhs; whnf) (by conv => lhs; whnf) Tryz.underlying23 (by kernel_rfl) (by omega) hqr | exact q_loadar (n := 4) (by conv => lhs; whnf) (by conv => lhs; whnf) (by first | rfl | exact Nat.le_of_ble_eq_true rfl | exact Nat.succ_pos _ | decide) (by kernel_rfl) (fun _ => rfl) | exact q_lenpts (fr := false) (l := ps) (by rfl) Tryz.underlying23 | exact a_q) | (apply st_rif rfl; (case hq => first | exact a_i); all_goals (intro _; try (exfalso; first | omega | contradiction))) | (apply st_rw rfl rfl; case hq => first | exact w_call (id := 0) E (hcf := Tryz.call9) (by rfl) rfl rfl rfl rfl rfl | exact a_store) | refine tri_true rfl ?_ | refine tri_false rfl ?_ | refine tri_block ?_ | refine tri_skip ?_ | refine tri_ret ?_ | refine tri_exit ?_)
      exact nextR (i + 1, c) ⟨by simp only; omega, by simp only; omega, hkk⟩ (weak_st ⟨rfl, rfl, rfl, rfl, rfl, trivial⟩ ⟨rfl, rfl, trivial⟩) (show ps.length - (i + 1) < ps.length - i by omega)
  · rw [List.drop_eq_nil_of_le (by omega), smallKids] at hkk
    cases hkk
set_option maxHeartbeats 16000000 in
theorem sm_yes {n : Nat} (hk : smallKids (smallF k) (left - (1 + bd.length / 50)) ps = some n) : ∀ dep : Int, dep = 7 - ((k + 1 : Nat) : Int) → CEff gx 9 (.box [.int .i64 (left : Int)]) [.agg [.ro false 2 (fieldRows hd), .str bd, .bool m, .pts false ps], .int .i64 dep, .ptr 0 0] (some (.box [.int .i64 (n : Int)])) (.bool true) := by
  intro dep hdep
  refine ceff_ofb Tryz.func9 rfl (Nat.le_of_ble_eq_true rfl) (fun w γ hw hM => ?_)
  have S1 := short_c hd (by omega) (fun f hf => by have := hh.2 f hf; omega)
  rw [hs] at S1
  repeat' (first | refine a_f ?_ | refine st_nil ?_ | refine tri_seq ?_ | refine tri_region rfl ?_ | refine tri_drawW wrB 10 [0, 1, 2, 3, 4, 5, 6, 7, 8, 9] [] [] [0, 1, 2, 3, 4, 5, 6, 7, 8, 9, 10] rfl (by kernel_rfl) (by kernel_rfl) rfl ?_ | refine allB_c ?_ ?_ | exact allB_n | refine behind_s ?_ | refine a_draw ?_ | (apply st_r rfl; case hq => first | exact q_quo (by conv => lhs; whnf) rfl (by decide) (quo50 hb) | exact q_call S1 (hcf := Tryz.call32) rfl rfl | exact a_q) | (apply st_rif rfl; (case hq => first | exact a_i); all_goals (intro _; try (exfalso; first | omega | contradiction))) | (apply st_rw rfl rfl; case hq => first | exact w_box (d := 3) 103 (by conv => lhs; whnf) rfl (by conv => lhs; whnf) rfl rfl rfl | exact a_store) | refine tri_true rfl ?_ | refine tri_false rfl ?_ | refine tri_block ?_ | refine tri_skip ?_ | refine tri_ret ?_ | refine tri_exit ?_)
  refine tri_loop (fun (x : Nat × Nat) => x.1 ≤ ps.length ∧ x.2 ≤ 60 ∧ smallKids (smallF k) x.2 (ps.drop x.1) = some n) (fun x => st [(1, .int .i64 dep), (2, .ptr 0 0), (3, .ptr 103 0), (6, .bool false), (7, .int .i64 x.1)] [(0, .box [.int .i64 (x.2 : Int)]), (103, .box [.ro false 2 (fieldRows hd), .str bd, .bool m, .pts false ps])]) (fun x => ps.length - x.1) (0, left - (1 + bd.length / 50)) ⟨Nat.zero_le _, by simp only; omega, by simp only [List.drop_zero]; exact hk⟩ ?hw (fun x hx => ?_)
  case hw => exact weak_st ⟨rfl, rfl, rfl, rfl, rfl, trivial⟩ ⟨congrArg (fun z => some (AObj.box [AV.int .i64 z])) (by show _ = ((left - (1 + bd.length / 50) : Nat) : Int); omega), rfl, trivial⟩
  obtain ⟨i, lf⟩ := x
  obtain ⟨hi, hlf, hkk⟩ := hx
  simp only at hi hlf hkk
  change Tri _ _ (st [(1, .int .i64 dep), (2, .ptr 0 0), (3, .ptr 103 0), (6, .bool false), (7, .int .i64 i)] [(0, .box [.int .i64 (lf : Int)]), (103, .box [.ro false 2 (fieldRows hd), .str bd, .bool m, .pts false ps])]) _
  by_cases hil : i < ps.length
  · obtain ⟨q, hq1, hqm, hqd, hqr⟩ := pt_at hil
    rw [hqd, smallKids] at hkk
    have E := IH lf q hlf hqm (dep + 1) (by omega)
    cases hwq : smallF k lf q with
    | none =>
      rw [hwq] at hkk
      cases hkk
    | some c =>
      rw [hwq] at E hkk
      obtain ⟨hc, _, _⟩ := smallF_le k lf q c hwq
      obtain ⟨qh, qb, qm, qp⟩ := q
      have E : CEff gx 9 (.box [.int .i64 (lf : Int)]) [.agg [.ro false 2 (fieldRows qh), .str qb, .bool qm, .pts false qp], .int .i64 (dep + 1), .ptr 0 0] (some (.box [.int .i64 (c : Int)])) (.bool true) := E
      repeat' (first | refine a_f ?_ | refine st_nil ?_ | refine tri_seq ?_ | refine tri_region rfl ?_ | refine a_draw ?_ | (apply st_r rfl; case hq => first | exact q_idxpts (p := .mk qh qb qm qp) (by conv => lhs; whnf) (by conv => lhs; whnf) Tryz.underlying23 (by kernel_rfl) (by omega) hqr | exact q_loadar (n := 4) (by conv => lhs; whnf) (by conv => lhs; whnf) (by first | rfl | exact Nat.le_of_ble_eq_true rfl | exact Nat.succ_pos _ | decide) (by kernel_rfl) (fun _ => rfl) | exact q_lenpts (fr := false) (l := ps) (by rfl) Tryz.underlying23 | exact a_q) | (apply st_rif rfl; (case hq => first | exact a_i); all_goals (intro _; try (exfalso; first | omega | contradiction))) | (apply st_rw rfl rfl; case hq => first | exact w_call (id := 0) E (hcf := Tryz.call9) (by rfl) rfl rfl rfl rfl rfl | exact a_store) | refine tri_true rfl ?_ | refine tri_false rfl ?_ | refine tri_block ?_ | refine tri_skip ?_ | refine tri_ret ?_ | refine tri_exit ?_)
      exact nextR (i + 1, c) ⟨by simp only; omega, by simp only; omega, hkk⟩ (weak_st ⟨rfl, rfl, rfl, rfl, rfl, trivial⟩ ⟨rfl, rfl, trivial⟩) (show ps.length - (i + 1) < ps.length - i by omega)
  · rw [List.drop_eq_nil_of_le (by omega), smallKids] at hkk
    cases hkk
    repeat' (first | refine a_f ?_ | refine st_nil ?_ | refine tri_seq ?_ | refine tri_region rfl ?_ | refine a_draw ?_ | (apply st_r rfl; case hq => first | exact q_lenpts (fr := false) (l := ps) (by rfl) Tryz.underlying23 | exact a_q) | (apply st_rif rfl; (case hq => first | exact a_i); all_goals (intro _; try (exfalso; first | omega | contradiction))) | (apply st_rw rfl rfl; case hq => first | exact a_store) | refine tri_true rfl ?_ | refine tri_false rfl ?_ | refine tri_block ?_ | refine tri_skip ?_ | refine tri_ret ?_ | refine tri_exit ?_)
    exact ⟨trivial, by ((conv => lhs; whnf); try rfl), rfl⟩
end
theorem small_e : ∀ (k left : Nat) (p : PT), k ≤ 7 → left ≤ 60 → BigD k p → SmOk k left p
  | 0, left, .mk hd bd m ps, hk, hl, hB => by
    unfold SmOk
    rw [show smallF 0 left (.mk hd bd m ps) = none by rw [smallF]]
    exact sm_lim hl hB
  | k + 1, left, .mk hd bd m ps, hk, hl, hB => by
    obtain ⟨hb, hh1, hh2, hpl, hq⟩ := hB
    have IH : ∀ left q, left ≤ 60 → q ∈ ps → SmOk k left q := fun left q hl hm => small_e k left q (by omega) hl (hq q hm)
    unfold SmOk
    rw [smallF]
    by_cases hn : left < 1 + bd.length / 50
    · rw [if_pos hn]
      exact sm_neg hl hb hk hn
    · rw [if_neg hn]
      cases hs : shortB hd with
      | false => exact sm_short hl hb hk ⟨hh1, hh2⟩ hn hs
      | true =>
        cases hk' : smallKids (smallF k) (left - (1 + bd.length / 50)) ps with
        | none => exact sm_no hl hb hk ⟨hh1, hh2⟩ hpl hn hs IH hk'
        | some n => exact sm_yes hl hb hk ⟨hh1, hh2⟩ hpl hn hs IH hk'
end Go.Proofs.YtignjjnflcpiiaaGreatDoor
namespace Go.Proofs.YtignjjnflcpiiaaGreatDoor
open Go.RowKit
attribute [local irreducible] Tri Steps Qd Wr Weak CPure CEff
set_option maxRecDepth 100000
set_option maxHeartbeats 16000000 in
theorem partWrites_c (p : PT) (hp : ∀ k, BigD k p) : CPure gxp 3 [.agg [.ro false 2 (fieldRows p.head), .str p.body, .bool p.many, .pts false p.parts]] (.bool true) := by
  have E := (small_e 7 60 p (Nat.le_refl _) (Nat.le_refl _) (hp 7)) 0 (by decide)
  have hft := @small_fit p
  obtain ⟨hd, bd, m, ps⟩ := p
  change CPure gxp 3 [.agg [.ro false 2 (fieldRows hd), .str bd, .bool m, .pts false ps]] (.bool true)
  refine cpure_of Tryz.func3 rfl (Nat.le_of_ble_eq_true rfl) rfl (fun w hw => ?_)
  cases hs : smallF 7 60 (.mk hd bd m ps) with
  | none =>
    rw [hs] at E
    have E : CEff gxp 9 (.box [.int .i64 60]) [.agg [.ro false 2 (fieldRows hd), .str bd, .bool m, .pts false ps], .int .i64 0, .ptr 0 0] (some (.box [.any])) (.bool false) := CEff.q E
    repeat' (first | refine a_f ?_ | refine st_nil ?_ | refine tri_seq ?_ | refine tri_region rfl ?_ | refine a_draw ?_ | (apply st_r rfl; case hq => first | exact q_loada (n := 4) (by conv => lhs; whnf) (by conv => lhs; whnf; arg 1; whnf) (by conv => lhs; whnf) (by first | rfl | exact Nat.le_of_ble_eq_true rfl | exact Nat.succ_pos _ | decide) (by show aggB Tryz.prog _ _ = true; decide +kernel) | exact a_q) | (apply st_rif rfl; (case hq => first | exact a_i); all_goals (intro _; try (exfalso; first | omega | contradiction))) | (apply st_rw rfl rfl; case hq => first | exact w_box (d := 1) 101 (by conv => lhs; whnf) rfl (by conv => lhs; whnf) rfl rfl rfl | exact w_alloc (d := 3) 103 (by exact zInt) rfl rfl rfl | exact w_call (id := 103) E (hcf := Tryz.call9) (by rfl) rfl rfl rfl rfl rfl | exact a_store) | refine tri_true rfl ?_ | refine tri_false rfl ?_ | refine tri_block ?_ | refine tri_skip ?_ | refine tri_ret ?_ | refine tri_exit ?_)
    refine And.intro trivial ?_
    conv => lhs; whnf
    try rfl
  | some n =>
    have hf := hft hs
    have W1 := rwritePart_c hd bd m ps hf
    have P1 := partWrite_c hd bd m ps hf
    rw [hs] at E
    have E : CEff gxp 9 (.box [.int .i64 60]) [.agg [.ro false 2 (fieldRows hd), .str bd, .bool m, .pts false ps], .int .i64 0, .ptr 0 0] (some (.box [.int .i64 (n : Int)])) (.bool true) := CEff.q E
    cases hw : writeTop (.mk hd bd m ps) with
    | err e =>
      rw [hw] at W1 P1
      have W1 : CPure gxp 10 [.agg [.ro false 2 (fieldRows hd), .str bd, .bool m, .pts false ps]] (.tup [.str [], .int .i64 (e : Int)]) := W1
      have P1 : CPure gxp 11 [.agg [.ro false 2 (fieldRows hd), .str bd, .bool m, .pts false ps]] (.tup [.str [], .iface 28 (.int .i64 (e : Int))]) := P1
      have B1 : CPure gxp 12 [.iface 28 (.int .i64 (e : Int)), .int .i64 (e : Int)] (.bool true) := by have := (bare_no_c (e : Int) (e : Int)).eo.p; simpa using this
      clear hw hs hft hf
      repeat' (first | refine a_f ?_ | refine st_nil ?_ | refine tri_seq ?_ | refine tri_region rfl ?_ | refine a_draw ?_ | (apply st_r rfl; case hq => first | exact q_loada (n := 4) (by conv => lhs; whnf) (by conv => lhs; whnf; arg 1; whnf) (by conv => lhs; whnf) (by first | rfl | exact Nat.le_of_ble_eq_true rfl | exact Nat.succ_pos _ | decide) (by show aggB Tryz.prog _ _ = true; decide +kernel) | exact q_eqss (by conv => lhs; whnf) (by rfl) | exact q_call W1 (hcf := Tryz.call10) rfl rfl | exact q_call P1 (hcf := Tryz.call11) rfl rfl | exact q_call B1 (hcf := Tryz.call12) rfl rfl | exact a_q) | (apply st_rif rfl; (case hq => first | exact a_i); all_goals (intro _; try (exfalso; first | omega | contradiction))) | (apply st_rw rfl rfl; case hq => first | exact w_box (d := 1) 101 (by conv => lhs; whnf) rfl (by conv => lhs; whnf) rfl rfl rfl | exact w_alloc (d := 3) 103 (by exact zInt) rfl rfl rfl | exact w_call (id := 103) E (hcf := Tryz.call9) (by rfl) rfl rfl rfl rfl rfl | exact a_store) | refine tri_true rfl ?_ | refine tri_false rfl ?_ | refine tri_block ?_ | refine tri_skip ?_ | refine tri_ret ?_ | refine tri_exit ?_)
      refine And.intro trivial ?_
      conv => lhs; whnf
      try rfl
    | ok s =>
      rw [hw] at W1 P1
      have W1 : CPure gxp 10 [.agg [.ro false 2 (fieldRows hd), .str bd, .bool m, .pts false ps]] (.tup [.str s, .int .i64 0]) := W1
      have P1 : CPure gxp 11 [.agg [.ro false 2 (fieldRows hd), .str bd, .bool m, .pts false ps]] (.tup [.str s, .nili]) := P1
      have B1 : CPure gxp 12 [.nili, .int .i64 0] (.bool true) := by have := (bare_nil_c 0).eo.p; simpa using this
      clear hw hs hft hf
      repeat' (first | refine a_f ?_ | refine st_nil ?_ | refine tri_seq ?_ | refine tri_region rfl ?_ | refine a_draw ?_ | (apply st_r rfl; case hq => first | exact q_loada (n := 4) (by conv => lhs; whnf) (by conv => lhs; whnf; arg 1; whnf) (by conv => lhs; whnf) (by first | rfl | exact Nat.le_of_ble_eq_true rfl | exact Nat.succ_pos _ | decide) (by show aggB Tryz.prog _ _ = true; decide +kernel) | exact q_eqss (by conv => lhs; whnf) (by rfl) | exact q_call W1 (hcf := Tryz.call10) rfl rfl | exact q_call P1 (hcf := Tryz.call11) rfl rfl | exact q_call B1 (hcf := Tryz.call12) rfl rfl | exact a_q) | (apply st_rif rfl; (case hq => first | exact a_i); all_goals (intro _; try (exfalso; first | omega | contradiction))) | (apply st_rw rfl rfl; case hq => first | exact w_box (d := 1) 101 (by conv => lhs; whnf) rfl (by conv => lhs; whnf) rfl rfl rfl | exact w_alloc (d := 3) 103 (by exact zInt) rfl rfl rfl | exact w_call (id := 103) E (hcf := Tryz.call9) (by rfl) rfl rfl rfl rfl rfl | exact a_store) | refine tri_true rfl ?_ | refine tri_false rfl ?_ | refine tri_block ?_ | refine tri_skip ?_ | refine tri_ret ?_ | refine tri_exit ?_)
      refine And.intro trivial ?_
      conv => lhs; whnf
      try rfl
end Go.Proofs.YtignjjnflcpiiaaGreatDoor
namespace Go.Proofs.YtignjjnflcpiiaaGreatDoor
open Go.ChangeShapes Go.WideShapes Go.ChangeAt Go.RowKit
set_option maxRecDepth 100000
def oursD : List (DataW Unit) := [.lit (.string ctN), .lit (.string ceN)]
theorem byte_eqO {z : ByteArray} {l : List UInt8} (h : z.data.toList = l) : z = ⟨l.toArray⟩ := by
  subst h
  cases z
  simp
theorem ours_of {W : World} (h : laidMet Tryz.prog [("bindery/part.ours", Rows.laid_bindery_part_ours)] W) : OursVar W := by
  obtain ⟨ps, ⟨g, t, cs, fuel, p, q, hg, ht, hv, hd, _, _⟩, _⟩ := h
  obtain rfl := Option.some.inj ((show Tryz.prog.globalNamed "bindery/part.ours" = some 1 by kernel_rfl).symm.trans hg)
  obtain rfl := Option.some.inj ((show (Tryz.prog.globals[1]?).map (·.type) = some 109 by kernel_rfl).symm.trans ht)
  have c1 : Tryz.prog.cellsOf 9 = 1 := by kernel_rfl
  obtain ⟨ys, m', _, ey, hleny, hyl, hely⟩ := DataW.trod_array Tryz.underlying109 hd
  have e3 : (ys.map (·.1)) = oursD := (DataW.agg.inj (Prod.mk.inj ey).1).symm
  have key : ∀ j, j < 2 → ∃ z : ByteArray, W.cell? ⟨1, j, none⟩ = some (.string z) ∧ oursD[j]? = some (.lit (.string z.data.toList)) := by
    intro j hj
    have hF := hely j hj
    rw [c1, Nat.mul_one, List.getElem?_eq_getElem (by omega)] at hF
    obtain ⟨z, f1, f2, _⟩ := DataW.trod_string Tryz.underlying9 hF
    have h0 : (cs.toList.drop j)[0]? = some (.string z) := by
      have : ((cs.toList.drop j).take 1)[0]? = some (.string z) := by rw [f1]; rfl
      simpa using this
    have h1 : cs[j]? = some (.string z) := by
      rw [List.getElem?_drop] at h0
      simpa using h0
    refine ⟨z, ?_, ?_⟩
    · rw [World.var?_cell hg hv, h1]
    · rw [← e3, List.getElem?_map, List.getElem?_eq_getElem (by omega : j < ys.length), f2]; rfl
  obtain ⟨z0, a0, b0⟩ := key 0 (by decide)
  obtain ⟨z1, a1, b1⟩ := key 1 (by decide)
  refine ⟨?_, ?_⟩
  · rw [a0, byte_eqO (Lit.string.inj (DataW.lit.inj (Option.some.inj b0))).symm]
  · rw [a1, byte_eqO (Lit.string.inj (DataW.lit.inj (Option.some.inj b1))).symm]
theorem ours_row {W : World} {l : List (String × DataW Unit)} (h : laidMetH Tryz.prog l W) (e : (l.filter fun x => x.1 == "bindery/part.ours") = [("bindery/part.ours", Rows.laid_bindery_part_ours)]) : OursVar W := by
  have h1 := h.filter (fun x => x.1 == "bindery/part.ours")
  rw [e, MakeChecks.laidMetH_plain _ _ _ (by kernel_rfl)] at h1
  exact ours_of h1
end Go.Proofs.YtignjjnflcpiiaaGreatDoor
