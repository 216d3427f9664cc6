import Derived.Test.YtignjjnflcpiiaaGreatDoorKG10
import Derived.Test.YtignjjnflcpiiaaGreatDoorKHeadC
set_option linter.unusedVariables false
set_option linter.unusedSimpArgs false
set_option maxHeartbeats 1000000
namespace Go.Proofs.YtignjjnflcpiiaaGreatDoor
open Go.RowKit
attribute [local irreducible] Tri Steps Qd Wr Weak CPure CEff
set_option maxRecDepth 100000
abbrev Fs := List (B × B)
theorem fr_at {l : Fs} {i : Nat} (h : i < l.length) : ∃ f, l[i]? = some f ∧ f ∈ l ∧ l.drop i = f :: l.drop (i + 1) ∧ (fieldRows l)[(i : Int).toNat]? = some [.str f.1, .str f.2] := by
  refine ⟨l[i], List.getElem?_eq_getElem h, List.getElem_mem h, (List.drop_eq_getElem_cons h), ?_⟩
  simp [fieldRows, h]
structure Small (l : Fs) : Prop where
  len : l.length ≤ 1000000
  one : ∀ f ∈ l, f.1.length ≤ 1000000 ∧ f.2.length ≤ 1000000
theorem trimB_len (s : B) : (trimB s).length ≤ s.length := by
  unfold trimB Lib.trimS Lib.trimLeftS Lib.trimRightS
  refine Nat.le_trans (List.dropWhile_sublist _).length_le ?_
  rw [List.length_reverse]
  exact Nat.le_trans (List.dropWhile_sublist _).length_le (by simp)
def getAV (l : Fs) (s : B) : AV := match l.find? (fun f => decide (lowB f.1 = lowB s)) with
  | some f => .tup [.str f.2, .bool true]
  | none => .tup [.str [], .bool false]
set_option maxHeartbeats 2000000 in
theorem get_c (l : Fs) (s : B) (hl : Small l) (hs : s.length ≤ 1000000) : CPure gx 133 [.ro false 2 (fieldRows l), .str s] (getAV l s) := by
  refine cpure_of Tryz.func133 rfl (Nat.le_of_ble_eq_true rfl) rfl (fun w hw => ?_)
  have hfl := fr_len l
  have hll := hl.len
  repeat' (first | refine a_f ?_ | refine st_nil ?_ | refine tri_seq ?_ | refine tri_region rfl ?_ | refine a_draw ?_ | (apply st_r rfl; case hq => first | exact a_q) | (apply st_rif rfl; (case hq => first | exact a_i); all_goals (intro _; try (exfalso; first | omega | contradiction))) | (apply st_rw rfl rfl; case hq => first | exact a_store) | refine tri_true rfl ?_ | refine tri_false rfl ?_ | refine tri_block ?_ | refine tri_skip ?_ | refine tri_ret ?_ | refine tri_exit ?_)
  refine tri_loop (fun (i : Nat) => i ≤ l.length ∧ l.find? (fun f => decide (lowB f.1 = lowB s)) = (l.drop i).find? (fun f => decide (lowB f.1 = lowB s))) (fun i => st [(0, .ro false 2 (fieldRows l)), (1, .str s), (4, .str []), (5, .bool false), (8, .ro false 2 (fieldRows l)), (9, .int .i64 (fieldRows l).length), (10, .int .i64 i)] []) (fun i => l.length - i) 0 ⟨Nat.zero_le _, rfl⟩ ?hw (fun i hi => ?_)
  case hw => exact weak_st ⟨rfl, rfl, rfl, rfl, rfl, rfl, rfl, trivial⟩ trivial
  obtain ⟨hi, hf⟩ := hi
  by_cases hil : i < l.length
  · obtain ⟨f, hf1, hfm, hfd, hfr⟩ := fr_at hil
    rw [hfd, List.find?_cons] at hf
    have hfb := (hl.one f hfm).1
    have S1 := small_c f.1 (by omega)
    have S2 := small_c s (by omega)
    repeat' (first | refine a_f ?_ | refine st_nil ?_ | refine tri_seq ?_ | refine tri_region rfl ?_ | refine a_draw ?_ | (apply st_r rfl; case hq => first | exact q_idxro (by conv => lhs; whnf) (by conv => lhs; whnf) (by first | exact Tryz.underlying22 | exact Tryz.underlying23 | exact Tryz.underlying43 | exact Tryz.underlying44 | exact Tryz.underlying51 | exact Tryz.underlying86 | exact Tryz.underlying191 | exact Tryz.underlying209 | exact Tryz.underlying234 | exact Tryz.underlying270 | exact Tryz.underlying281 | exact Tryz.underlying344) (by kernel_rfl) (by omega) hfr | exact q_loadar (n := 2) (by conv => lhs; whnf) (by conv => lhs; whnf) (by first | rfl | exact Nat.le_of_ble_eq_true rfl | exact Nat.succ_pos _ | decide) (by kernel_rfl) (fun _ => rfl) | exact q_call S1 (hcf := Tryz.call53) rfl rfl | exact q_call S2 (hcf := Tryz.call53) rfl rfl | exact a_q) | (apply st_rif rfl; (case hq => first | exact a_i); all_goals (intro _; try (exfalso; first | omega | contradiction))) | (apply st_rw rfl rfl; case hq => first | exact w_alloc 102 (by first | exact zAt | exact zFault | exact zField | exact zParam | exact zLink | exact zPart | exact zReader) rfl rfl rfl | exact a_store) | refine tri_true rfl ?_ | refine tri_false rfl ?_ | refine tri_block ?_ | refine tri_skip ?_ | refine tri_ret ?_ | refine tri_exit ?_)
    · refine And.intro trivial ?_
      conv => lhs; whnf
      rw [getAV, hf, decide_eq_true ‹_›]
      rfl
    · exact loop_next (i + 1) ⟨by omega, by rw [hf, decide_eq_false ‹_›]⟩ (weak_st ⟨rfl, rfl, rfl, rfl, rfl, rfl, rfl, trivial⟩ trivial) (show l.length - (i + 1) < l.length - i by omega)
  · repeat' (first | refine a_f ?_ | refine st_nil ?_ | refine tri_seq ?_ | refine tri_region rfl ?_ | refine a_draw ?_ | (apply st_r rfl; case hq => first | exact a_q) | (apply st_rif rfl; (case hq => first | exact a_i); all_goals (intro _; try (exfalso; first | omega | contradiction))) | (apply st_rw rfl rfl; case hq => first | exact a_store) | refine tri_true rfl ?_ | refine tri_false rfl ?_ | refine tri_block ?_ | refine tri_skip ?_ | refine tri_ret ?_ | refine tri_exit ?_)
    refine And.intro trivial ?_
    conv => lhs; whnf
    rw [getAV, hf, List.drop_eq_nil_of_le (by omega)]
    rfl
theorem ne_fields {f g : B × B} : (f ≠ g) ↔ ¬ eqCells [.str f.1, .str f.2] [.str g.1, .str g.2] := by
  show ¬ (f = g) ↔ _
  rw [Prod.ext_iff]
  simp [eqCells]
end Go.Proofs.YtignjjnflcpiiaaGreatDoor
namespace Go.Proofs.YtignjjnflcpiiaaGreatDoor
open Go.RowKit
attribute [local irreducible] Tri Steps Qd Wr Weak CPure CEff
set_option maxRecDepth 100000
inductive CRes where
  | ok (l : Fs)
  | bad (n : Nat)
def cleanGo : Nat → Fs → Fs → CRes
  | _, out, [] => .ok out
  | n, out, f :: r => match valueB (trimB f.2) with
    | true => cleanGo (n + 1) (out ++ [(f.1, trimB f.2)]) r
    | false => .bad n
def cleanF (l : Fs) : CRes := cleanGo 0 [] l
def clAV : CRes → AV
  | .ok l => .tup [.ro true 2 (fieldRows l), .nili]
  | .bad n => .tup [.nils, .iface 98 (.rptr true [.int .i64 1, .int .i64 n])]
set_option maxHeartbeats 2000000 in
theorem clean_c (l : Fs) (hl : Small l) : CPure gx 84 [.ro false 2 (fieldRows l)] (clAV (cleanF l)) := by
  refine cpure_of Tryz.func84 rfl (Nat.le_of_ble_eq_true rfl) rfl (fun w hw => ?_)
  have hfl := fr_len l
  have hll := hl.len
  repeat' (first | refine a_f ?_ | refine st_nil ?_ | refine tri_seq ?_ | refine tri_region rfl ?_ | refine a_draw ?_ | (apply st_r rfl; case hq => first | exact a_q) | (apply st_rif rfl; (case hq => first | exact a_i); all_goals (intro _; try (exfalso; first | omega | contradiction))) | (apply st_rw rfl rfl; case hq => first | exact a_store) | refine tri_true rfl ?_ | refine tri_false rfl ?_ | refine tri_block ?_ | refine tri_skip ?_ | refine tri_ret ?_ | refine tri_exit ?_)
  refine tri_loop (fun (x : Nat × Fs) => x.1 ≤ l.length ∧ x.2.length = x.1 ∧ cleanGo x.1 x.2 (l.drop x.1) = cleanF l) (fun x => st [(0, .ro false 2 (fieldRows l)), (2, .nils), (3, .nili), (4, .sl 100), (8, .ro false 2 (fieldRows l)), (9, .int .i64 (fieldRows l).length), (10, .int .i64 x.1)] [(100, .rows 75 2 (fieldRows x.2))]) (fun x => l.length - x.1) (0, []) ⟨Nat.zero_le _, rfl, rfl⟩ ?hw (fun x hx => ?_)
  case hw => exact (weak_nil 4 100 75 2 rfl (by decide) rfl rfl).trans (weak_st ⟨rfl, rfl, rfl, rfl, rfl, rfl, rfl, trivial⟩ ⟨rfl, trivial⟩)
  obtain ⟨i, out⟩ := x
  change Tri _ _ (st [(0, .ro false 2 (fieldRows l)), (2, .nils), (3, .nili), (4, .sl 100), (8, .ro false 2 (fieldRows l)), (9, .int .i64 (fieldRows l).length), (10, .int .i64 i)] [(100, .rows 75 2 (fieldRows out))]) _
  obtain ⟨hi, ho, hf⟩ := hx
  simp only at hi ho hf
  have hfo := fr_len out
  by_cases hil : i < l.length
  · obtain ⟨f, hf1, hfm, hfd, hfr⟩ := fr_at hil
    rw [hfd, cleanGo] at hf
    have hfb := (hl.one f hfm).2
    have htl := trimB_len f.2
    have S1 : CPure gx 59 [.str f.2, .str [32, 9]] (.str (trimB f.2)) := trim_c f.2 [32, 9] (by omega) (by decide) rfl
    have S2 := value_c (trimB f.2) (by omega)
    cases hv : valueB (trimB f.2) <;> rw [hv] at S2 hf
    all_goals
      repeat' (first | refine a_f ?_ | refine st_nil ?_ | refine tri_seq ?_ | refine tri_region rfl ?_ | refine a_draw ?_ | (apply st_r rfl; case hq => first | exact q_idxro (by conv => lhs; whnf) (by conv => lhs; whnf) (by first | exact Tryz.underlying22 | exact Tryz.underlying23 | exact Tryz.underlying43 | exact Tryz.underlying44 | exact Tryz.underlying51 | exact Tryz.underlying86 | exact Tryz.underlying191 | exact Tryz.underlying209 | exact Tryz.underlying234 | exact Tryz.underlying270 | exact Tryz.underlying281 | exact Tryz.underlying344) (by kernel_rfl) (by omega) hfr | exact q_loadar (n := 2) (by conv => lhs; whnf) (by conv => lhs; whnf) (by first | rfl | exact Nat.le_of_ble_eq_true rfl | exact Nat.succ_pos _ | decide) (by kernel_rfl) (fun _ => rfl) | exact q_call S1 (hcf := Tryz.call59) rfl rfl | exact q_call S2 (hcf := Tryz.call132) rfl rfl | exact a_q) | (apply st_rif rfl; (case hq => first | exact a_i); all_goals (intro _; try (exfalso; first | omega | contradiction))) | (apply st_rw rfl rfl; case hq => first | exact w_alloc 102 (by first | exact zAt | exact zFault | exact zField | exact zParam | exact zLink | exact zPart | exact zReader) rfl rfl rfl | exact w_append (by conv => lhs; whnf) (by conv => lhs; whnf; arg 1; whnf) (by conv => lhs; whnf) (by first | exact Tryz.underlying22 | exact Tryz.underlying23 | exact Tryz.underlying43 | exact Tryz.underlying44 | exact Tryz.underlying51 | exact Tryz.underlying86 | exact Tryz.underlying191 | exact Tryz.underlying209 | exact Tryz.underlying234 | exact Tryz.underlying270 | exact Tryz.underlying281 | exact Tryz.underlying344) (by kernel_rfl) (by simp) rfl (by simp only [List.length_cons, List.length_nil]; omega) rfl rfl | exact a_store) | refine tri_true rfl ?_ | refine tri_false rfl ?_ | refine tri_block ?_ | refine tri_skip ?_ | refine tri_ret ?_ | refine tri_exit ?_)
    · refine And.intro trivial ?_
      conv => lhs; whnf
      rw [← hf]
      rfl
    · skip
      exact loop_next (i + 1, out ++ [(f.1, trimB f.2)]) ⟨by show i + 1 ≤ _; omega, by show (out ++ [_]).length = i + 1; simp [ho], hf⟩ (weak_st ⟨rfl, rfl, rfl, rfl, rfl, rfl, rfl, trivial⟩ ⟨congrArg (fun r => some (AObj.rows 75 2 r)) (fr_app out _ _), trivial⟩) (show l.length - (i + 1) < l.length - i by omega)
  · repeat' (first | refine a_f ?_ | refine st_nil ?_ | refine tri_seq ?_ | refine tri_region rfl ?_ | refine a_draw ?_ | (apply st_r rfl; case hq => first | exact a_q) | (apply st_rif rfl; (case hq => first | exact a_i); all_goals (intro _; try (exfalso; first | omega | contradiction))) | (apply st_rw rfl rfl; case hq => first | exact a_store) | refine tri_true rfl ?_ | refine tri_false rfl ?_ | refine tri_block ?_ | refine tri_skip ?_ | refine tri_ret ?_ | refine tri_exit ?_)
    refine And.intro trivial ?_
    conv => lhs; whnf
    rw [show l.drop i = [] from List.drop_eq_nil_of_le (by omega)] at hf
    rw [← hf]
    rfl
end Go.Proofs.YtignjjnflcpiiaaGreatDoor
namespace Go.Proofs.YtignjjnflcpiiaaGreatDoor
open Go.RowKit
attribute [local irreducible] Tri Steps Qd Wr Weak CPure CEff
set_option maxRecDepth 100000
def okF (f : B × B) : Bool := nameB f.1 && valueB f.2
def rightB (l : Fs) : Bool := l.all okF
theorem right_drop {l : Fs} {i : Nat} {f : B × B} (h : rightB l = rightB (l.drop i)) (hd : l.drop i = f :: l.drop (i + 1)) : rightB l = (okF f && rightB (l.drop (i + 1))) := by
  rw [h, hd]; rfl
set_option maxHeartbeats 2000000 in
theorem right_c (l : Fs) (hl : Small l) : CPure gx 74 [.ro false 2 (fieldRows l)] (.bool (rightB l)) := by
  refine cpure_of Tryz.func74 rfl (Nat.le_of_ble_eq_true rfl) rfl (fun w hw => ?_)
  have hfl := fr_len l
  have hll := hl.len
  repeat' (first | refine a_f ?_ | refine st_nil ?_ | refine tri_seq ?_ | refine tri_region rfl ?_ | refine a_draw ?_ | (apply st_r rfl; case hq => first | exact a_q) | (apply st_rif rfl; (case hq => first | exact a_i); all_goals (intro _; try (exfalso; first | omega | contradiction))) | (apply st_rw rfl rfl; case hq => first | exact a_store) | refine tri_true rfl ?_ | refine tri_false rfl ?_ | refine tri_block ?_ | refine tri_skip ?_ | refine tri_ret ?_ | refine tri_exit ?_)
  refine tri_loop (fun (i : Nat) => i ≤ l.length ∧ rightB l = rightB (l.drop i)) (fun i => st [(0, .ro false 2 (fieldRows l)), (2, .bool false), (5, .ro false 2 (fieldRows l)), (6, .int .i64 (fieldRows l).length), (7, .int .i64 i)] []) (fun i => l.length - i) 0 ⟨Nat.zero_le _, rfl⟩ ?hw (fun i hi => ?_)
  case hw => exact weak_st ⟨rfl, rfl, rfl, rfl, rfl, trivial⟩ trivial
  obtain ⟨hi, hf⟩ := hi
  by_cases hil : i < l.length
  · obtain ⟨f, hf1, hfm, hfd, hfr⟩ := fr_at hil
    have hf' := right_drop hf hfd
    have S1 := name_c f.1 (hl.one f hfm).1
    have S2 := value_c f.2 (hl.one f hfm).2
    unfold okF at hf'
    cases hn : nameB f.1 <;> cases hv : valueB f.2 <;> rw [hn] at S1 hf' <;> rw [hv] at S2 hf'
    all_goals
      repeat' (first | refine a_f ?_ | refine st_nil ?_ | refine tri_seq ?_ | refine tri_region rfl ?_ | refine a_draw ?_ | (apply st_r rfl; case hq => first | exact q_idxro (by conv => lhs; whnf) (by conv => lhs; whnf) (by first | exact Tryz.underlying22 | exact Tryz.underlying23 | exact Tryz.underlying43 | exact Tryz.underlying44 | exact Tryz.underlying51 | exact Tryz.underlying86 | exact Tryz.underlying191 | exact Tryz.underlying209 | exact Tryz.underlying234 | exact Tryz.underlying270 | exact Tryz.underlying281 | exact Tryz.underlying344) (by kernel_rfl) (by omega) hfr | exact q_loadar (n := 2) (by conv => lhs; whnf) (by conv => lhs; whnf) (by first | rfl | exact Nat.le_of_ble_eq_true rfl | exact Nat.succ_pos _ | decide) (by kernel_rfl) (fun _ => rfl) | exact q_call S1 (hcf := Tryz.call131) rfl rfl | exact q_call S2 (hcf := Tryz.call132) rfl rfl | exact a_q) | (apply st_rif rfl; (case hq => first | exact a_i); all_goals (intro _; try (exfalso; first | omega | contradiction))) | (apply st_rw rfl rfl; case hq => first | exact w_alloc 102 (by first | exact zAt | exact zFault | exact zField | exact zParam | exact zLink | exact zPart | exact zReader) rfl rfl rfl | exact a_store) | refine tri_true rfl ?_ | refine tri_false rfl ?_ | refine tri_block ?_ | refine tri_skip ?_ | refine tri_ret ?_ | refine tri_exit ?_)
      first
        | (refine And.intro trivial ?_
           conv => lhs; whnf
           rw [hf']
           rfl)
        | exact loop_next (i + 1) ⟨by omega, hf'⟩ (weak_st ⟨rfl, rfl, rfl, rfl, rfl, trivial⟩ trivial) (show l.length - (i + 1) < l.length - i by omega)
  · repeat' (first | refine a_f ?_ | refine st_nil ?_ | refine tri_seq ?_ | refine tri_region rfl ?_ | refine a_draw ?_ | (apply st_r rfl; case hq => first | exact a_q) | (apply st_rif rfl; (case hq => first | exact a_i); all_goals (intro _; try (exfalso; first | omega | contradiction))) | (apply st_rw rfl rfl; case hq => first | exact a_store) | refine tri_true rfl ?_ | refine tri_false rfl ?_ | refine tri_block ?_ | refine tri_skip ?_ | refine tri_ret ?_ | refine tri_exit ?_)
    refine And.intro trivial ?_
    conv => lhs; whnf
    rw [hf, List.drop_eq_nil_of_le (by omega)]
    rfl
end Go.Proofs.YtignjjnflcpiiaaGreatDoor
