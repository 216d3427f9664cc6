import Derived.Test.YtignjjnflcpiiabGreatDoorZGx
import Derived.Test.YtignjjnflcpiiabGreatDoorZPlain1
set_option linter.unusedVariables false
set_option linter.unusedSimpArgs false
set_option maxHeartbeats 1000000
namespace Go.Proofs.YtignjjnflcpiiabGreatDoor
open Go.RowKit
attribute [local irreducible] Tri Steps Qd Wr Weak CPure CEff
set_option maxRecDepth 100000
theorem all_bad {p : UInt8 → Bool} {s : B} {i : Nat} (hi : (i : Int) < s.length) (h : p (s.getD (i : Int).toNat 0) = false) : s.all p = false := by
  have hi' : i < s.length := by omega
  refine List.all_eq_false.2 ⟨s[i], List.getElem_mem hi', ?_⟩
  rw [List.getD_eq_getElem?_getD, Int.toNat_natCast, List.getElem?_eq_getElem hi'] at h
  simpa using h
theorem all_good {p : UInt8 → Bool} {s : B} {i : Nat} (hi : ¬ (i : Int) < s.length) (h : ∀ j, j < i → p (s.getD j 0) = true) : s.all p = true := by
  refine List.all_eq_true.2 fun x hx => ?_
  obtain ⟨j, hj, rfl⟩ := List.getElem_of_mem hx
  have := h j (by omega)
  rw [List.getD_eq_getElem?_getD, List.getElem?_eq_getElem hj] at this
  simpa using this
theorem good_step {p : UInt8 → Bool} {s : B} {i : Nat} (h : ∀ j, j < i → p (s.getD j 0) = true) (hp : p (s.getD (i : Int).toNat 0) = true) : ∀ j, j < i + 1 → p (s.getD j 0) = true := by
  intro j hj
  rcases Nat.lt_or_ge j i with h' | h'
  · exact h j h'
  · have : j = i := by omega
    subst this
    simpa using hp
theorem isE_f {s : B} (h : s ≠ []) : s.isEmpty = false := by
  cases s with
  | nil => exact absurd rfl h
  | cons a l => rfl
theorem isE_t {s : B} (h : ¬ s ≠ []) : s.isEmpty = true := by
  cases s with
  | nil => rfl
  | cons a l => exact absurd (fun h => by cases h) h
theorem isE_p {s : B} (h : (0 : Int) < s.length) : s.isEmpty = false := by
  cases s with
  | nil => exact absurd h (by simp)
  | cons a l => rfl
theorem isE_z {s : B} (h : ¬ (0 : Int) < s.length) : s.isEmpty = true := by
  cases s with
  | nil => rfl
  | cons a l => exact absurd (by simp) h
theorem wrap_u8 (c : UInt8) : IntKind.i64.wrap (c.toNat : Int) = c.toNat := IntWalk.i64_in _ (by have := c.toNat_lt; omega)
theorem in_c (n l h : Int) : CPure gx 35 [.int .i64 n, .int .i64 l, .int .i64 h] (.bool (decide (l ≤ n ∧ n ≤ h))) := by
  refine cpure_of Tryz.func35 rfl (Nat.le_of_ble_eq_true rfl) rfl (fun w hw => ?_)
  repeat' (first | refine a_f ?_ | refine st_nil ?_ | refine tri_seq ?_ | refine tri_region rfl ?_ | refine a_draw ?_ | (apply st_r rfl; case hq => first | exact a_lens | exact a_index | exact a_add | exact a_adds0 | exact a_addsc | exact a_adds | exact a_sub | exact a_slo | exact a_shi | exact a_slh | exact a_lensl | exact a_lenro | exact a_lennil | exact a_lenpts | exact a_field | exact a_fielde | exact a_fieldr | exact a_idxsl | exact a_load | exact a_loada | exact a_mki | exact a_build2 | exact a_build3 | exact a_build1 | exact a_build0 | exact a_bs1 | exact a_bs2 | exact a_bs3 | exact a_bs4 | exact a_bsa | exact a_boxr) | (apply st_rif rfl; (case hq => first | exact a_lss | exact a_gtr | exact a_eql | exact a_neq | exact a_eqls0 | exact a_neqs0 | exact a_eqls | exact a_neqs | exact a_leq | exact a_geq); all_goals (intro _; try (exfalso; first | omega | contradiction))) | (apply st_rw rfl rfl; case hq => first | exact a_store) | refine tri_true rfl ?_ | refine tri_false rfl ?_ | refine tri_block ?_ | refine tri_skip ?_ | refine tri_ret ?_ | refine tri_exit ?_)
  all_goals (refine And.intro trivial ?_; conv => lhs; whnf)
  all_goals simp [*]
theorem blank_c (c : UInt8) : CPure gx 28 [.int .u8 c.toNat] (.bool (decide (c = 32 ∨ c = 9))) := by
  refine cpure_of Tryz.func28 rfl (Nat.le_of_ble_eq_true rfl) rfl (fun w hw => ?_)
  have e1 : ∀ k : UInt8, c = k ↔ (c.toNat : Int) = (k.toNat : Int) := fun k => by rw [← UInt8.toNat_inj]; omega
  have e2 := e1 32
  have e3 := e1 9
  rw [show ((32 : UInt8).toNat : Int) = 32 from rfl] at e2
  rw [show ((9 : UInt8).toNat : Int) = 9 from rfl] at e3
  repeat' (first | refine a_f ?_ | refine st_nil ?_ | refine tri_seq ?_ | refine tri_region rfl ?_ | refine a_draw ?_ | (apply st_r rfl; case hq => first | exact a_lens | exact a_index | exact a_add | exact a_adds0 | exact a_addsc | exact a_adds | exact a_sub | exact a_slo | exact a_shi | exact a_slh | exact a_lensl | exact a_lenro | exact a_lennil | exact a_lenpts | exact a_field | exact a_fielde | exact a_fieldr | exact a_idxsl | exact a_load | exact a_loada | exact a_mki | exact a_build2 | exact a_build3 | exact a_build1 | exact a_build0 | exact a_bs1 | exact a_bs2 | exact a_bs3 | exact a_bs4 | exact a_bsa | exact a_boxr) | (apply st_rif rfl; (case hq => first | exact a_lss | exact a_gtr | exact a_eql | exact a_neq | exact a_eqls0 | exact a_neqs0 | exact a_eqls | exact a_neqs | exact a_leq | exact a_geq); all_goals (intro _; try (exfalso; first | omega | contradiction))) | (apply st_rw rfl rfl; case hq => first | exact a_store) | refine tri_true rfl ?_ | refine tri_false rfl ?_ | refine tri_block ?_ | refine tri_skip ?_ | refine tri_ret ?_ | refine tri_exit ?_)
  all_goals (refine And.intro trivial ?_; conv => lhs; whnf)
  all_goals simp [*]
def nameC (c : UInt8) : Bool := decide (33 ≤ c.toNat ∧ c.toNat ≤ 126 ∧ c.toNat ≠ 58)
def nameB (s : B) : Bool := s.all nameC && !s.isEmpty
theorem name_c (s : B) (hs : s.length ≤ 1000000) : CPure gx 41 [.str s] (.bool (nameB s)) := by
  refine cpure_of Tryz.func41 rfl (Nat.le_of_ble_eq_true rfl) rfl (fun w hw => ?_)
  repeat' (first | refine a_f ?_ | refine st_nil ?_ | refine tri_seq ?_ | refine tri_region rfl ?_ | refine a_draw ?_ | (apply st_r rfl; case hq => first | exact a_lens | exact a_index | exact a_add | exact a_adds0 | exact a_addsc | exact a_adds | exact a_sub | exact a_slo | exact a_shi | exact a_slh | exact a_lensl | exact a_lenro | exact a_lennil | exact a_lenpts | exact a_field | exact a_fielde | exact a_fieldr | exact a_idxsl | exact a_load | exact a_loada | exact a_mki | exact a_build2 | exact a_build3 | exact a_build1 | exact a_build0 | exact a_bs1 | exact a_bs2 | exact a_bs3 | exact a_bs4 | exact a_bsa | exact a_boxr) | (apply st_rif rfl; (case hq => first | exact a_lss | exact a_gtr | exact a_eql | exact a_neq | exact a_eqls0 | exact a_neqs0 | exact a_eqls | exact a_neqs | exact a_leq | exact a_geq); all_goals (intro _; try (exfalso; first | omega | contradiction))) | (apply st_rw rfl rfl; case hq => first | exact a_store) | refine tri_true rfl ?_ | refine tri_false rfl ?_ | refine tri_block ?_ | refine tri_skip ?_ | refine tri_ret ?_ | refine tri_exit ?_)
  refine tri_loop (fun (i : Nat) => i ≤ s.length ∧ ∀ j, j < i → nameC (s.getD j 0) = true) (fun i => st [(0, .str s), (2, .bool false), (5, .int .i64 s.length), (6, .int .i64 i)] []) (fun i => s.length - i) 0 ⟨Nat.zero_le _, fun j hj => absurd hj (Nat.not_lt_zero j)⟩ ?hw (fun i hi => ?_)
  case hw => exact weak_st ⟨rfl, rfl, rfl, rfl, trivial⟩ trivial
  obtain ⟨hi, hg⟩ := hi
  repeat' (first | refine a_f ?_ | refine st_nil ?_ | refine tri_seq ?_ | refine tri_region rfl ?_ | refine a_draw ?_ | (apply st_r rfl; case hq => first | exact a_lens | exact a_index | exact a_add | exact a_adds0 | exact a_addsc | exact a_adds | exact a_sub | exact a_slo | exact a_shi | exact a_slh | exact a_lensl | exact a_lenro | exact a_lennil | exact a_lenpts | exact a_field | exact a_fielde | exact a_fieldr | exact a_idxsl | exact a_load | exact a_loada | exact a_mki | exact a_build2 | exact a_build3 | exact a_build1 | exact a_build0 | exact a_bs1 | exact a_bs2 | exact a_bs3 | exact a_bs4 | exact a_bsa | exact a_boxr) | (apply st_rif rfl; (case hq => first | exact a_lss | exact a_gtr | exact a_eql | exact a_neq | exact a_eqls0 | exact a_neqs0 | exact a_eqls | exact a_neqs | exact a_leq | exact a_geq); all_goals (intro _; try (exfalso; first | omega | contradiction))) | (apply st_rw rfl rfl; case hq => first | exact a_store) | refine tri_true rfl ?_ | refine tri_false rfl ?_ | refine tri_block ?_ | refine tri_skip ?_ | refine tri_ret ?_ | refine tri_exit ?_)
  · refine And.intro trivial ?_
    conv => lhs; whnf
    rw [nameB, all_bad ‹_› (by simp only [nameC, decide_eq_false_iff_not]; omega)]
    rfl
  · refine And.intro trivial ?_
    conv => lhs; whnf
    rw [nameB, all_bad ‹_› (by simp only [nameC, decide_eq_false_iff_not]; omega)]
    rfl
  · refine And.intro trivial ?_
    conv => lhs; whnf
    rw [nameB, all_bad ‹_› (by simp only [nameC, decide_eq_false_iff_not]; omega)]
    rfl
  · refine Exists.intro (i + 1) (And.intro ⟨by omega, good_step hg (by simp only [nameC, decide_eq_true_eq]; omega)⟩ (And.intro (weak_st ⟨rfl, rfl, rfl, rfl, trivial⟩ trivial) (by show _ - (i + 1) < _; omega)))
  all_goals
    refine And.intro trivial ?_
    conv => lhs; whnf
    rw [nameB, all_good ‹_› hg]
    first | rw [isE_f ‹_›]; rfl | rw [isE_t ‹_›]; rfl
theorem rname_c (s : B) (hs : s.length ≤ 1000000) : CPure gx 29 [.str s] (.bool (nameB s)) := by
  refine cpure_of Tryz.func29 rfl (Nat.le_of_ble_eq_true rfl) rfl (fun w hw => ?_)
  repeat' (first | refine a_f ?_ | refine st_nil ?_ | refine tri_seq ?_ | refine tri_region rfl ?_ | refine a_draw ?_ | (apply st_r rfl; case hq => first | exact a_lens | exact a_index | exact a_add | exact a_adds0 | exact a_addsc | exact a_adds | exact a_sub | exact a_slo | exact a_shi | exact a_slh | exact a_lensl | exact a_lenro | exact a_lennil | exact a_lenpts | exact a_field | exact a_fielde | exact a_fieldr | exact a_idxsl | exact a_load | exact a_loada | exact a_mki | exact a_build2 | exact a_build3 | exact a_build1 | exact a_build0 | exact a_bs1 | exact a_bs2 | exact a_bs3 | exact a_bs4 | exact a_bsa | exact a_boxr) | (apply st_rif rfl; (case hq => first | exact a_lss | exact a_gtr | exact a_eql | exact a_neq | exact a_eqls0 | exact a_neqs0 | exact a_eqls | exact a_neqs | exact a_leq | exact a_geq); all_goals (intro _; try (exfalso; first | omega | contradiction))) | (apply st_rw rfl rfl; case hq => first | exact a_store) | refine tri_true rfl ?_ | refine tri_false rfl ?_ | refine tri_block ?_ | refine tri_skip ?_ | refine tri_ret ?_ | refine tri_exit ?_)
  refine tri_loop (fun (i : Nat) => i ≤ s.length ∧ ∀ j, j < i → nameC (s.getD j 0) = true) (fun i => st [(0, .str s), (2, .bool false), (5, .int .i64 s.length), (6, .int .i64 i)] []) (fun i => s.length - i) 0 ⟨Nat.zero_le _, fun j hj => absurd hj (Nat.not_lt_zero j)⟩ ?hw (fun i hi => ?_)
  case hw => exact weak_st ⟨rfl, rfl, rfl, rfl, trivial⟩ trivial
  obtain ⟨hi, hg⟩ := hi
  repeat' (first | refine a_f ?_ | refine st_nil ?_ | refine tri_seq ?_ | refine tri_region rfl ?_ | refine a_draw ?_ | (apply st_r rfl; case hq => first | exact q_convint (by conv => lhs; whnf) (by kernel_rfl) (by kernel_rfl) (wrap_u8 _) | exact a_lens | exact a_index | exact a_add | exact a_adds0 | exact a_addsc | exact a_adds | exact a_sub | exact a_slo | exact a_shi | exact a_slh | exact a_lensl | exact a_lenro | exact a_lennil | exact a_lenpts | exact a_field | exact a_fielde | exact a_fieldr | exact a_idxsl | exact a_load | exact a_loada | exact a_mki | exact a_build2 | exact a_build3 | exact a_build1 | exact a_build0 | exact a_bs1 | exact a_bs2 | exact a_bs3 | exact a_bs4 | exact a_bsa | exact a_boxr) | (apply st_rif rfl; (case hq => first | exact q_call (in_c _ _ _) (hcf := Tryz.call35) rfl rfl | exact a_lss | exact a_gtr | exact a_eql | exact a_neq | exact a_eqls0 | exact a_neqs0 | exact a_eqls | exact a_neqs | exact a_leq | exact a_geq); all_goals (intro _; try (exfalso; first | omega | contradiction))) | (apply st_rw rfl rfl; case hq => first | exact a_store) | refine tri_true rfl ?_ | refine tri_false rfl ?_ | refine tri_block ?_ | refine tri_skip ?_ | refine tri_ret ?_ | refine tri_exit ?_)
  all_goals first
    | (refine And.intro trivial ?_
       conv => lhs; whnf
       rw [nameB, all_bad ‹_› (by simp only [nameC, decide_eq_false_iff_not]; omega)]
       rfl)
    | (refine Exists.intro (i + 1) (And.intro ⟨by omega, good_step hg (by simp only [nameC, decide_eq_true_eq]; omega)⟩ (And.intro (weak_st ⟨rfl, rfl, rfl, rfl, trivial⟩ trivial) (by show _ - (i + 1) < _; omega))))
    | (refine And.intro trivial ?_
       conv => lhs; whnf
       rw [nameB, all_good ‹_› hg]
       first | rw [isE_p ‹_›]; rfl | rw [isE_z ‹_›]; rfl)
def blk (c : UInt8) : Bool := decide (c = 32 ∨ c = 9)
def trimB (s : B) : B := Lib.trimS s [32, 9]
def valC (c : UInt8) : Bool := decide (¬ ((c.toNat < 32 ∧ c.toNat ≠ 9) ∨ c.toNat = 127))
def valueB (s : B) : Bool := s.all valC && decide (trimB s = s)
theorem value_c (s : B) (hs : s.length ≤ 1000000) : CPure gx 43 [.str s] (.bool (valueB s)) := by
  refine cpure_of Tryz.func43 rfl (Nat.le_of_ble_eq_true rfl) rfl (fun w hw => ?_)
  repeat' (first | refine a_f ?_ | refine st_nil ?_ | refine tri_seq ?_ | refine tri_region rfl ?_ | refine a_draw ?_ | (apply st_r rfl; case hq => first | exact a_lens | exact a_index | exact a_add | exact a_adds0 | exact a_addsc | exact a_adds | exact a_sub | exact a_slo | exact a_shi | exact a_slh | exact a_lensl | exact a_lenro | exact a_lennil | exact a_lenpts | exact a_field | exact a_fielde | exact a_fieldr | exact a_idxsl | exact a_load | exact a_loada | exact a_mki | exact a_build2 | exact a_build3 | exact a_build1 | exact a_build0 | exact a_bs1 | exact a_bs2 | exact a_bs3 | exact a_bs4 | exact a_bsa | exact a_boxr) | (apply st_rif rfl; (case hq => first | exact a_lss | exact a_gtr | exact a_eql | exact a_neq | exact a_eqls0 | exact a_neqs0 | exact a_eqls | exact a_neqs | exact a_leq | exact a_geq); all_goals (intro _; try (exfalso; first | omega | contradiction))) | (apply st_rw rfl rfl; case hq => first | exact a_store) | refine tri_true rfl ?_ | refine tri_false rfl ?_ | refine tri_block ?_ | refine tri_skip ?_ | refine tri_ret ?_ | refine tri_exit ?_)
  refine tri_loop (fun (i : Nat) => i ≤ s.length ∧ ∀ j, j < i → valC (s.getD j 0) = true) (fun i => st [(0, .str s), (2, .bool false), (5, .int .i64 s.length), (6, .int .i64 i)] []) (fun i => s.length - i) 0 ⟨Nat.zero_le _, fun j hj => absurd hj (Nat.not_lt_zero j)⟩ ?hw (fun i hi => ?_)
  case hw => exact weak_st ⟨rfl, rfl, rfl, rfl, trivial⟩ trivial
  obtain ⟨hi, hg⟩ := hi
  repeat' (first | refine a_f ?_ | refine st_nil ?_ | refine tri_seq ?_ | refine tri_region rfl ?_ | refine a_draw ?_ | (apply st_r rfl; case hq => first | exact q_call (trim_c s [32, 9] (by omega) (by decide) rfl) (hcf := Tryz.call42) rfl rfl | exact a_lens | exact a_index | exact a_add | exact a_adds0 | exact a_addsc | exact a_adds | exact a_sub | exact a_slo | exact a_shi | exact a_slh | exact a_lensl | exact a_lenro | exact a_lennil | exact a_lenpts | exact a_field | exact a_fielde | exact a_fieldr | exact a_idxsl | exact a_load | exact a_loada | exact a_mki | exact a_build2 | exact a_build3 | exact a_build1 | exact a_build0 | exact a_bs1 | exact a_bs2 | exact a_bs3 | exact a_bs4 | exact a_bsa | exact a_boxr) | (apply st_rif rfl; (case hq => first | exact a_lss | exact a_gtr | exact a_eql | exact a_neq | exact a_eqls0 | exact a_neqs0 | exact a_eqls | exact a_neqs | exact a_leq | exact a_geq); all_goals (intro _; try (exfalso; first | omega | contradiction))) | (apply st_rw rfl rfl; case hq => first | exact a_store) | refine tri_true rfl ?_ | refine tri_false rfl ?_ | refine tri_block ?_ | refine tri_skip ?_ | refine tri_ret ?_ | refine tri_exit ?_)
  all_goals first
    | (refine And.intro trivial ?_
       conv => lhs; whnf
       rw [valueB, all_bad ‹_› (by simp only [valC, decide_eq_false_iff_not]; omega)]
       rfl)
    | (refine Exists.intro (i + 1) (And.intro ⟨by omega, good_step hg (by simp only [valC, decide_eq_true_eq]; omega)⟩ (And.intro (weak_st ⟨rfl, rfl, rfl, rfl, trivial⟩ trivial) (by show _ - (i + 1) < _; omega))))
    | (refine And.intro trivial ?_
       conv => lhs; whnf
       rw [valueB, all_good ‹_› hg]
       simp [trimB, *])
end Go.Proofs.YtignjjnflcpiiabGreatDoor
