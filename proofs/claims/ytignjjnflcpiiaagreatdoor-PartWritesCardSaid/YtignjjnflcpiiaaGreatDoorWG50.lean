import Derived.Test.YtignjjnflcpiiaaGreatDoorWG20
import Derived.Test.YtignjjnflcpiiaaGreatDoorWG30
import Derived.Test.YtignjjnflcpiiaaGreatDoorWG42
import Derived.Test.YtignjjnflcpiiaaGreatDoorWG3
set_option linter.unusedVariables false
set_option linter.unusedSimpArgs false
set_option maxHeartbeats 1000000
namespace Go.Proofs.YtignjjnflcpiiaaGreatDoor
open Go.RowKit
attribute [local irreducible] Tri Steps Qd Wr Weak CPure CEff
set_option maxRecDepth 100000
def fitF (f : B × B) : Bool := decide (¬ 400 < f.1.length + f.2.length)
def shortB (l : Fs) : Bool := decide (¬ 20 < l.length) && l.all fitF
theorem short_drop {l : Fs} {i : Nat} {f : B × B} (h : l.all fitF = (l.drop i).all fitF) (hd : l.drop i = f :: l.drop (i + 1)) : l.all fitF = (fitF f && (l.drop (i + 1)).all fitF) := by
  rw [h, hd]; rfl
set_option maxHeartbeats 2000000 in
theorem short_c (l : Fs) (hl : l.length ≤ 4611686018427387904) (h1 : ∀ f ∈ l, f.1.length ≤ 4611686018427387903 ∧ f.2.length ≤ 4611686018427387903) : CPure gx 32 [.ro false 2 (fieldRows l)] (.bool (shortB l)) := by
  refine cpure_of Tryz.func32 rfl (Nat.le_of_ble_eq_true rfl) rfl (fun w hw => ?_)
  have hfl := fr_len l
  by_cases h20 : 20 < l.length
  · repeat' (first | refine a_f ?_ | refine st_nil ?_ | refine tri_seq ?_ | refine tri_region rfl ?_ | refine a_draw ?_ | (apply st_r rfl; case hq => first | exact a_q) | (apply st_rif rfl; (case hq => first | exact a_i); all_goals (intro _; try (exfalso; first | omega | contradiction))) | (apply st_rw rfl rfl; case hq => first | exact a_store) | refine tri_true rfl ?_ | refine tri_false rfl ?_ | refine tri_block ?_ | refine tri_skip ?_ | refine tri_ret ?_ | refine tri_exit ?_)
    refine And.intro trivial ?_
    conv => lhs; whnf
    simp [shortB, h20]
  · repeat' (first | refine a_f ?_ | refine st_nil ?_ | refine tri_seq ?_ | refine tri_region rfl ?_ | refine a_draw ?_ | (apply st_r rfl; case hq => first | exact a_q) | (apply st_rif rfl; (case hq => first | exact a_i); all_goals (intro _; try (exfalso; first | omega | contradiction))) | (apply st_rw rfl rfl; case hq => first | exact a_store) | refine tri_true rfl ?_ | refine tri_false rfl ?_ | refine tri_block ?_ | refine tri_skip ?_ | refine tri_ret ?_ | refine tri_exit ?_)
    refine tri_loop (fun (i : Nat) => i ≤ l.length ∧ l.all fitF = (l.drop i).all fitF) (fun i => st [(0, .ro false 2 (fieldRows l)), (2, .bool false), (3, .int .i64 i)] []) (fun i => l.length - i) 0 ⟨Nat.zero_le _, rfl⟩ ?hw (fun i hi => ?_)
    case hw => exact weak_st ⟨rfl, rfl, rfl, trivial⟩ trivial
    obtain ⟨hi, hf⟩ := hi
    by_cases hil : i < l.length
    · obtain ⟨f, hf1, hfm, hfd, hfr⟩ := fr_at hil
      have hb := h1 f hfm
      have hf' := short_drop hf hfd
      by_cases h400 : 400 < f.1.length + f.2.length
      all_goals
        repeat' (first | refine a_f ?_ | refine st_nil ?_ | refine tri_seq ?_ | refine tri_region rfl ?_ | refine a_draw ?_ | (apply st_r rfl; case hq => first | exact q_idxro (by conv => lhs; whnf) (by conv => lhs; whnf) (by first | exact Tryz.underlying22 | exact Tryz.underlying23 | exact Tryz.underlying43 | exact Tryz.underlying44 | exact Tryz.underlying51 | exact Tryz.underlying86 | exact Tryz.underlying191 | exact Tryz.underlying209 | exact Tryz.underlying234 | exact Tryz.underlying270 | exact Tryz.underlying281 | exact Tryz.underlying344) (by kernel_rfl) (by omega) hfr | exact q_loadr (by conv => lhs; whnf) (by conv => lhs; whnf) (by show scalB Tryz.prog _ = true; decide +kernel) (fun _ => rfl) | exact a_q) | (apply st_rif rfl; (case hq => first | exact a_i); all_goals (intro _; try (exfalso; first | omega | contradiction))) | (apply st_rw rfl rfl; case hq => first | exact a_store) | refine tri_true rfl ?_ | refine tri_false rfl ?_ | refine tri_block ?_ | refine tri_skip ?_ | refine tri_ret ?_ | refine tri_exit ?_)
      · refine And.intro trivial ?_
        conv => lhs; whnf
        rw [shortB, hf']
        simp [fitF, h400]
      · exact loop_next (i + 1) ⟨by omega, by rw [hf']; simp [fitF, h400]⟩ (weak_st ⟨rfl, rfl, rfl, trivial⟩ trivial) (show l.length - (i + 1) < l.length - i by omega)
    · repeat' (first | refine a_f ?_ | refine st_nil ?_ | refine tri_seq ?_ | refine tri_region rfl ?_ | refine a_draw ?_ | (apply st_r rfl; case hq => first | exact a_q) | (apply st_rif rfl; (case hq => first | exact a_i); all_goals (intro _; try (exfalso; first | omega | contradiction))) | (apply st_rw rfl rfl; case hq => first | exact a_store) | refine tri_true rfl ?_ | refine tri_false rfl ?_ | refine tri_block ?_ | refine tri_skip ?_ | refine tri_ret ?_ | refine tri_exit ?_)
      refine And.intro trivial ?_
      conv => lhs; whnf
      rw [shortB, hf, List.drop_eq_nil_of_le (by omega)]
      simp [h20]
end Go.Proofs.YtignjjnflcpiiaaGreatDoor
namespace Go.Proofs.YtignjjnflcpiiaaGreatDoor
open Go.RowKit
attribute [local irreducible] Tri Steps Qd Wr Weak CPure CEff AllB Behind
set_option maxRecDepth 100000
set_option linter.unusedSectionVars false
def smallKids (f : Nat → PT → Option Nat) : Nat → List PT → Option Nat
  | left, [] => some left
  | left, p :: r => match f left p with
    | none => none
    | some n => smallKids f n r
def smallF : Nat → Nat → PT → Option Nat
  | 0, _, _ => none
  | k + 1, left, .mk h b _ ps => if left < 1 + b.length / 50 then none else match shortB h with
    | false => none
    | true => smallKids (smallF k) (left - (1 + b.length / 50)) ps
theorem short_tot {l : Fs} (h : shortB l = true) : htot l ≤ 8020 := by
  unfold shortB at h
  rw [Bool.and_eq_true] at h
  have h1 := of_decide_eq_true h.1
  have key : ∀ l : Fs, l.all fitF = true → htot l ≤ 401 * l.length := by
    intro l
    induction l with
    | nil => intro _; exact Nat.le_refl _
    | cons f r ih =>
      intro h
      rw [List.all_cons, Bool.and_eq_true] at h
      have h2 := ih h.2
      have h3 := of_decide_eq_true h.1
      rw [htot_cons, List.length_cons]; omega
  have := key l h.2
  omega
theorem smallKids_le {k : Nat} (ih : ∀ left p n, smallF k left p = some n → n ≤ left ∧ ms p + 8120 * n ≤ 8120 * left ∧ mh p ≤ 8020) : ∀ (ps : List PT) (left n : Nat), smallKids (smallF k) left ps = some n → n ≤ left ∧ msL ps + 8120 * n ≤ 8120 * left ∧ mhL ps ≤ 8020
  | [], left, n, h => by rw [smallKids] at h; cases h; exact ⟨Nat.le_refl _, by rw [msL]; omega, by rw [mhL]; omega⟩
  | p :: r, left, n, h => by
    rw [smallKids] at h
    split at h
    · cases h
    · rename_i c hc
      obtain ⟨a1, a2, a3⟩ := ih _ _ _ hc
      obtain ⟨b1, b2, b3⟩ := smallKids_le ih r c n h
      rw [msL, mhL]
      exact ⟨by omega, by omega, by omega⟩
theorem smallF_le : ∀ (k left : Nat) (p : PT) (n : Nat), smallF k left p = some n → n ≤ left ∧ ms p + 8120 * n ≤ 8120 * left ∧ mh p ≤ 8020
  | 0, left, p, n, h => by rw [smallF] at h; cases h
  | k + 1, left, .mk hd b m ps, n, h => by
    rw [smallF] at h
    split at h
    · cases h
    · rename_i hlt
      split at h
      · cases h
      · rename_i hs
        obtain ⟨a1, a2, a3⟩ := smallKids_le (smallF_le k) ps _ n h
        have ht := short_tot hs
        rw [ms, mh]
        exact ⟨by omega, by omega, by omega⟩
theorem small_fit {p : PT} {n : Nat} (h : smallF 7 60 p = some n) : Fit p := by
  obtain ⟨_, h2, h3⟩ := smallF_le 7 60 p n h
  exact ⟨by omega, by omega⟩
def smCell : Option Nat → AV
  | some n => .int .i64 (n : Int)
  | none => .any
end Go.Proofs.YtignjjnflcpiiaaGreatDoor
namespace Go.Proofs.YtignjjnflcpiiaaGreatDoor
open Go.RowKit
attribute [local irreducible] Tri Steps Qd Wr Weak CPure CEff AllB Behind
set_option maxRecDepth 100000
set_option linter.unusedSectionVars false
theorem quo50 {n : Nat} (h : n ≤ 140737488355328) : IntKind.i64.wrap ((n : Int).tdiv 50) = (n : Int) / 50 := by
  rw [Int.tdiv_eq_ediv_of_nonneg (by omega)]
  exact IntWalk.i64_in _ (by omega)
section
variable {hd : Fs} {bd : B} {m : Bool} {ps : List PT} {left : Nat} (hl : left ≤ 60) (hb : bd.length ≤ 140737488355328)
include hl hb
set_option maxHeartbeats 8000000 in
theorem sm_lim : ∀ dep : Int, dep = 7 - (0 : Int) → CEff gx 9 (.box [.int .i64 (left : Int)]) [.agg [.ro false 2 (fieldRows hd), .str bd, .bool m, .pts false ps], .int .i64 dep, .ptr 0 0] (some (.box [.any])) (.bool false) := by
  intro dep hdep
  refine ceff_ofb Tryz.func9 rfl (Nat.le_of_ble_eq_true rfl) (fun w γ hw hM => ?_)
  refine tri_postE ?_
  repeat' (first | refine a_f ?_ | refine st_nil ?_ | refine tri_seq ?_ | refine tri_region rfl ?_ | refine tri_drawW wrB 10 [0, 1, 2, 3, 4, 5, 6, 7, 8, 9] [] [] [0, 1, 2, 3, 4, 5, 6, 7, 8, 9, 10] rfl (by kernel_rfl) (by kernel_rfl) rfl ?_ | refine allB_c ?_ ?_ | exact allB_n | refine behind_s ?_ | refine a_draw ?_ | (apply st_r rfl; case hq => first | exact q_quo (by conv => lhs; whnf) rfl (by decide) (quo50 hb) | exact a_q) | (apply st_rif rfl; (case hq => first | exact a_i); all_goals (intro _; try (exfalso; first | omega | contradiction))) | (apply st_rw rfl rfl; case hq => first | exact w_box (d := 3) 103 (by conv => lhs; whnf) rfl (by conv => lhs; whnf) rfl rfl rfl | exact a_store) | refine tri_true rfl ?_ | refine tri_false rfl ?_ | refine tri_block ?_ | refine tri_skip ?_ | refine tri_ret ?_ | refine tri_exit ?_)
  all_goals exact ⟨_, weak_boxany 0 rfl, ⟨trivial, by ((conv => lhs; whnf); try rfl), rfl⟩⟩
variable {k : Nat} (hk7 : k + 1 ≤ 7)
include hk7
set_option maxHeartbeats 8000000 in
theorem sm_neg (hn : left < 1 + bd.length / 50) : ∀ dep : Int, dep = 7 - ((k + 1 : Nat) : Int) → CEff gx 9 (.box [.int .i64 (left : Int)]) [.agg [.ro false 2 (fieldRows hd), .str bd, .bool m, .pts false ps], .int .i64 dep, .ptr 0 0] (some (.box [.any])) (.bool false) := by
  intro dep hdep
  refine ceff_ofb Tryz.func9 rfl (Nat.le_of_ble_eq_true rfl) (fun w γ hw hM => ?_)
  refine tri_postE ?_
  repeat' (first | refine a_f ?_ | refine st_nil ?_ | refine tri_seq ?_ | refine tri_region rfl ?_ | refine tri_drawW wrB 10 [0, 1, 2, 3, 4, 5, 6, 7, 8, 9] [] [] [0, 1, 2, 3, 4, 5, 6, 7, 8, 9, 10] rfl (by kernel_rfl) (by kernel_rfl) rfl ?_ | refine allB_c ?_ ?_ | exact allB_n | refine behind_s ?_ | refine a_draw ?_ | (apply st_r rfl; case hq => first | exact q_quo (by conv => lhs; whnf) rfl (by decide) (quo50 hb) | exact a_q) | (apply st_rif rfl; (case hq => first | exact a_i); all_goals (intro _; try (exfalso; first | omega | contradiction))) | (apply st_rw rfl rfl; case hq => first | exact w_box (d := 3) 103 (by conv => lhs; whnf) rfl (by conv => lhs; whnf) rfl rfl rfl | exact a_store) | refine tri_true rfl ?_ | refine tri_false rfl ?_ | refine tri_block ?_ | refine tri_skip ?_ | refine tri_ret ?_ | refine tri_exit ?_)
  all_goals exact ⟨_, weak_boxany 0 rfl, ⟨trivial, by ((conv => lhs; whnf); try rfl), rfl⟩⟩
variable (hh : hd.length ≤ 140737488355328 ∧ ∀ f ∈ hd, f.1.length ≤ 140737488355328 ∧ f.2.length ≤ 140737488355328)
include hh
set_option maxHeartbeats 8000000 in
theorem sm_short (hn : ¬ left < 1 + bd.length / 50) (hs : shortB hd = false) : ∀ dep : Int, dep = 7 - ((k + 1 : Nat) : Int) → CEff gx 9 (.box [.int .i64 (left : Int)]) [.agg [.ro false 2 (fieldRows hd), .str bd, .bool m, .pts false ps], .int .i64 dep, .ptr 0 0] (some (.box [.any])) (.bool false) := by
  intro dep hdep
  refine ceff_ofb Tryz.func9 rfl (Nat.le_of_ble_eq_true rfl) (fun w γ hw hM => ?_)
  refine tri_postE ?_
  have S1 := short_c hd (by omega) (fun f hf => by have := hh.2 f hf; omega)
  rw [hs] at S1
  repeat' (first | refine a_f ?_ | refine st_nil ?_ | refine tri_seq ?_ | refine tri_region rfl ?_ | refine tri_drawW wrB 10 [0, 1, 2, 3, 4, 5, 6, 7, 8, 9] [] [] [0, 1, 2, 3, 4, 5, 6, 7, 8, 9, 10] rfl (by kernel_rfl) (by kernel_rfl) rfl ?_ | refine allB_c ?_ ?_ | exact allB_n | refine behind_s ?_ | refine a_draw ?_ | (apply st_r rfl; case hq => first | exact q_quo (by conv => lhs; whnf) rfl (by decide) (quo50 hb) | exact q_call S1 (hcf := Tryz.call32) rfl rfl | exact a_q) | (apply st_rif rfl; (case hq => first | exact a_i); all_goals (intro _; try (exfalso; first | omega | contradiction))) | (apply st_rw rfl rfl; case hq => first | exact w_box (d := 3) 103 (by conv => lhs; whnf) rfl (by conv => lhs; whnf) rfl rfl rfl | exact a_store) | refine tri_true rfl ?_ | refine tri_false rfl ?_ | refine tri_block ?_ | refine tri_skip ?_ | refine tri_ret ?_ | refine tri_exit ?_)
  all_goals exact ⟨_, weak_boxany 0 rfl, ⟨trivial, by ((conv => lhs; whnf); try rfl), rfl⟩⟩
end
end Go.Proofs.YtignjjnflcpiiaaGreatDoor
