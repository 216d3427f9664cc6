import Derived.Test.YtignjjnflcpiiaaGreatDoorWG10
import Derived.Test.YtignjjnflcpiiaaGreatDoorWG11
set_option linter.unusedVariables false
set_option linter.unusedSimpArgs false
set_option maxHeartbeats 1000000
namespace Go.Proofs.YtignjjnflcpiiaaGreatDoor
open Go.RowKit
attribute [local irreducible] Tri Steps Qd Wr Weak CPure CEff
set_option maxRecDepth 100000
inductive HRes where
  | ok (l : List (B × B)) (rest : B)
  | bad (n : Nat)
def lastF (out : List (B × B)) : B × B := out.getD (out.length - 1) ([], [])
def readStep (out : List (B × B)) (ln : B) : Option (List (B × B)) :=
  if blk (ln.getD 0 0) = true then (if out = [] then none else some (out.set (out.length - 1) ((lastF out).1, (lastF out).2 ++ ln)))
  else if (Lib.cut ln [58]).2.2 = true ∧ nameB (Lib.cut ln [58]).1 = true then some (out ++ [((Lib.cut ln [58]).1, (Lib.cut ln [58]).2.1)]) else none
theorem index_le : ∀ (s sub : B), Lib.index s sub ≤ s.length
  | [], sub => by unfold Lib.index; split <;> simp
  | b :: l, sub => by
    have := index_le l sub
    unfold Lib.index
    simp only [List.length_cons]
    split
    · omega
    · split <;> omega
theorem index_len : ∀ (s sub : B), 0 ≤ Lib.index s sub → Lib.index s sub + sub.length ≤ s.length
  | [], sub => by
    unfold Lib.index
    cases sub with
    | nil => simp
    | cons a l => simp
  | b :: l, sub => by
    have ih := index_len l sub
    unfold Lib.index
    split
    · intro _
      have := (List.isPrefixOf_iff_prefix.1 ‹_›).length_le
      omega
    · split
      · simp
      · intro h
        rename_i h1 h2
        have h3 : Lib.index l sub ≠ -1 := by simpa using h2
        have := ih (by omega)
        simp only [List.length_cons]
        omega
theorem index_ge : ∀ (s sub : B), -1 ≤ Lib.index s sub
  | [], sub => by unfold Lib.index; split <;> simp
  | b :: l, sub => by
    have := index_ge l sub
    unfold Lib.index
    split
    · omega
    · split <;> omega
theorem cut_sum (s sep : B) : (Lib.cut s sep).1.length + (Lib.cut s sep).2.1.length ≤ s.length := by
  unfold Lib.cut
  split
  · have := index_len s sep ‹_›
    simp; omega
  · simp
theorem cut_lt {s sep : B} (hs : s ≠ []) (hp : 0 < sep.length) : (Lib.cut s sep).2.1.length < s.length := by
  have : 0 < s.length := List.length_pos_iff.2 hs
  unfold Lib.cut
  split
  · have := index_len s sep ‹_›
    simp; omega
  · simpa using this
def readGo (out : List (B × B)) (n : Nat) (s : B) : HRes :=
  if h : s = [] then .ok out []
  else if (Lib.cut s [13, 10]).1 = [] then .ok out (Lib.cut s [13, 10]).2.1
  else match readStep out (Lib.cut s [13, 10]).1 with
    | none => .bad n
    | some o => readGo o (n + 1) (Lib.cut s [13, 10]).2.1
termination_by s.length
decreasing_by exact cut_lt h (by simp)
theorem readGo_go {out o : List (B × B)} {n : Nat} {s : B} (h : s ≠ []) (h1 : (Lib.cut s [13, 10]).1 ≠ []) (h2 : readStep out (Lib.cut s [13, 10]).1 = some o) : readGo out n s = readGo o (n + 1) (Lib.cut s [13, 10]).2.1 := by rw [readGo, dif_neg h, if_neg h1, h2]
def readH (s : B) : HRes := readGo [] 0 s
theorem fr_len (out : List (B × B)) : (fieldRows out).length = out.length := by simp [fieldRows]
theorem fr_app (out : List (B × B)) (a b : B) : fieldRows out ++ [[.str a, .str b]] = fieldRows (out ++ [(a, b)]) := by simp [fieldRows]
structure HInv (s : B) (x : List (B × B) × Nat × B) : Prop where
  go : readGo x.1 x.2.1 x.2.2 = readH s
  len : x.1.length ≤ x.2.1
  num : x.2.1 + x.2.2.length ≤ s.length
  val : ∀ f ∈ x.1, f.2.length + x.2.2.length ≤ s.length
theorem lastF_mem {out : List (B × B)} (h : out ≠ []) : lastF out ∈ out := by
  have : 0 < out.length := List.length_pos_iff.2 h
  rw [lastF, List.getD_eq_getElem?_getD, List.getElem?_eq_getElem (by omega)]
  exact List.getElem_mem _
theorem HInv.next {s : B} {out o : List (B × B)} {n : Nat} {x : B} (h : HInv s (out, n, x)) (hx : x ≠ []) (h1 : (Lib.cut x [13, 10]).1 ≠ []) (h2 : readStep out (Lib.cut x [13, 10]).1 = some o) : HInv s (o, n + 1, (Lib.cut x [13, 10]).2.1) := by
  have hs := cut_sum x [13, 10]
  have hl := cut_lt (sep := [13, 10]) hx (by simp)
  obtain ⟨hg, ha, hb, hc⟩ := h
  simp only at hg ha hb hc
  have hlen : o.length ≤ out.length + 1 ∧ ∀ f ∈ o, f.2.length + (Lib.cut x [13, 10]).2.1.length ≤ s.length := by
    unfold readStep at h2
    split at h2
    · split at h2
      · cases h2
      · cases h2
        refine ⟨by simp, fun f hf => ?_⟩
        rcases List.mem_or_eq_of_mem_set hf with h | h
        · have := hc f h; omega
        · subst h
          have := hc _ (lastF_mem ‹_›)
          simp only [List.length_append]; omega
    · split at h2
      · cases h2
        refine ⟨by simp, fun f hf => ?_⟩
        rcases List.mem_append.1 hf with h | h
        · have := hc f h; omega
        · simp only [List.mem_singleton] at h
          subst h
          have := cut_sum (Lib.cut x [13, 10]).1 [58]
          simp only
          omega
      · cases h2
  exact ⟨by rw [← hg]; exact (readGo_go hx h1 h2).symm, by simp only; omega, by simp only; omega, hlen.2⟩
end Go.Proofs.YtignjjnflcpiiaaGreatDoor
namespace Go.Proofs.YtignjjnflcpiiaaGreatDoor
open Go.RowKit
attribute [local irreducible] Tri Steps Qd Wr Weak CPure CEff
set_option maxRecDepth 100000
abbrev Fs := List (B × B)
theorem fr_at {l : Fs} {i : Nat} (h : i < l.length) : ∃ f, l[i]? = some f ∧ f ∈ l ∧ l.drop i = f :: l.drop (i + 1) ∧ (fieldRows l)[(i : Int).toNat]? = some [.str f.1, .str f.2] := by
  refine ⟨l[i], List.getElem?_eq_getElem h, List.getElem_mem h, (List.drop_eq_getElem_cons h), ?_⟩
  simp [fieldRows, h]
structure Small (l : Fs) : Prop where
  len : l.length ≤ 1000000
  one : ∀ f ∈ l, f.1.length ≤ 1000000 ∧ f.2.length ≤ 1000000
theorem trimB_len (s : B) : (trimB s).length ≤ s.length := by
  unfold trimB Lib.trimS Lib.trimLeftS Lib.trimRightS
  refine Nat.le_trans (List.dropWhile_sublist _).length_le ?_
  rw [List.length_reverse]
  exact Nat.le_trans (List.dropWhile_sublist _).length_le (by simp)
def getAV (l : Fs) (s : B) : AV := match l.find? (fun f => decide (lowB f.1 = lowB s)) with
  | some f => .tup [.str f.2, .bool true]
  | none => .tup [.str [], .bool false]
set_option maxHeartbeats 2000000 in
theorem get_c (l : Fs) (s : B) (hl : Small l) (hs : s.length ≤ 1000000) : CPure gx 133 [.ro false 2 (fieldRows l), .str s] (getAV l s) := by
  refine cpure_of Tryz.func133 rfl (Nat.le_of_ble_eq_true rfl) rfl (fun w hw => ?_)
  have hfl := fr_len l
  have hll := hl.len
  repeat' (first | refine a_f ?_ | refine st_nil ?_ | refine tri_seq ?_ | refine tri_region rfl ?_ | refine a_draw ?_ | (apply st_r rfl; case hq => first | exact a_q) | (apply st_rif rfl; (case hq => first | exact a_i); all_goals (intro _; try (exfalso; first | omega | contradiction))) | (apply st_rw rfl rfl; case hq => first | exact a_store) | refine tri_true rfl ?_ | refine tri_false rfl ?_ | refine tri_block ?_ | refine tri_skip ?_ | refine tri_ret ?_ | refine tri_exit ?_)
  refine tri_loop (fun (i : Nat) => i ≤ l.length ∧ l.find? (fun f => decide (lowB f.1 = lowB s)) = (l.drop i).find? (fun f => decide (lowB f.1 = lowB s))) (fun i => st [(0, .ro false 2 (fieldRows l)), (1, .str s), (4, .str []), (5, .bool false), (8, .ro false 2 (fieldRows l)), (9, .int .i64 (fieldRows l).length), (10, .int .i64 i)] []) (fun i => l.length - i) 0 ⟨Nat.zero_le _, rfl⟩ ?hw (fun i hi => ?_)
  case hw => exact weak_st ⟨rfl, rfl, rfl, rfl, rfl, rfl, rfl, trivial⟩ trivial
  obtain ⟨hi, hf⟩ := hi
  by_cases hil : i < l.length
  · obtain ⟨f, hf1, hfm, hfd, hfr⟩ := fr_at hil
    rw [hfd, List.find?_cons] at hf
    have hfb := (hl.one f hfm).1
    have S1 := small_c f.1 (by omega)
    have S2 := small_c s (by omega)
    repeat' (first | refine a_f ?_ | refine st_nil ?_ | refine tri_seq ?_ | refine tri_region rfl ?_ | refine a_draw ?_ | (apply st_r rfl; case hq => first | exact q_idxro (by conv => lhs; whnf) (by conv => lhs; whnf) (by first | exact Tryz.underlying22 | exact Tryz.underlying23 | exact Tryz.underlying43 | exact Tryz.underlying44 | exact Tryz.underlying51 | exact Tryz.underlying86 | exact Tryz.underlying191 | exact Tryz.underlying209 | exact Tryz.underlying234 | exact Tryz.underlying270 | exact Tryz.underlying281 | exact Tryz.underlying344) (by kernel_rfl) (by omega) hfr | exact q_loadar (n := 2) (by conv => lhs; whnf) (by conv => lhs; whnf) (by first | rfl | exact Nat.le_of_ble_eq_true rfl | exact Nat.succ_pos _ | decide) (by kernel_rfl) (fun _ => rfl) | exact q_call S1 (hcf := Tryz.call53) rfl rfl | exact q_call S2 (hcf := Tryz.call53) rfl rfl | exact a_q) | (apply st_rif rfl; (case hq => first | exact a_i); all_goals (intro _; try (exfalso; first | omega | contradiction))) | (apply st_rw rfl rfl; case hq => first | exact w_alloc 102 (by first | exact zAt | exact zFault | exact zField | exact zParam | exact zLink | exact zPart | exact zReader) rfl rfl rfl | exact a_store) | refine tri_true rfl ?_ | refine tri_false rfl ?_ | refine tri_block ?_ | refine tri_skip ?_ | refine tri_ret ?_ | refine tri_exit ?_)
    · refine And.intro trivial ?_
      conv => lhs; whnf
      rw [getAV, hf, decide_eq_true ‹_›]
      rfl
    · exact loop_next (i + 1) ⟨by omega, by rw [hf, decide_eq_false ‹_›]⟩ (weak_st ⟨rfl, rfl, rfl, rfl, rfl, rfl, rfl, trivial⟩ trivial) (show l.length - (i + 1) < l.length - i by omega)
  · repeat' (first | refine a_f ?_ | refine st_nil ?_ | refine tri_seq ?_ | refine tri_region rfl ?_ | refine a_draw ?_ | (apply st_r rfl; case hq => first | exact a_q) | (apply st_rif rfl; (case hq => first | exact a_i); all_goals (intro _; try (exfalso; first | omega | contradiction))) | (apply st_rw rfl rfl; case hq => first | exact a_store) | refine tri_true rfl ?_ | refine tri_false rfl ?_ | refine tri_block ?_ | refine tri_skip ?_ | refine tri_ret ?_ | refine tri_exit ?_)
    refine And.intro trivial ?_
    conv => lhs; whnf
    rw [getAV, hf, List.drop_eq_nil_of_le (by omega)]
    rfl
set_option maxHeartbeats 2000000 in
theorem rget_c (l : Fs) (s : B) (hl : Small l) (hs : s.length ≤ 1000000) : CPure gx 120 [.ro false 2 (fieldRows l), .str s] (getAV l s) := by
  refine cpure_of Tryz.func120 rfl (Nat.le_of_ble_eq_true rfl) rfl (fun w hw => ?_)
  have hfl := fr_len l
  have hll := hl.len
  repeat' (first | refine a_f ?_ | refine st_nil ?_ | refine tri_seq ?_ | refine tri_region rfl ?_ | refine a_draw ?_ | (apply st_r rfl; case hq => first | exact a_q) | (apply st_rif rfl; (case hq => first | exact a_i); all_goals (intro _; try (exfalso; first | omega | contradiction))) | (apply st_rw rfl rfl; case hq => first | exact a_store) | refine tri_true rfl ?_ | refine tri_false rfl ?_ | refine tri_block ?_ | refine tri_skip ?_ | refine tri_ret ?_ | refine tri_exit ?_)
  refine tri_loop (fun (i : Nat) => i ≤ l.length ∧ l.find? (fun f => decide (lowB f.1 = lowB s)) = (l.drop i).find? (fun f => decide (lowB f.1 = lowB s))) (fun i => st [(0, .ro false 2 (fieldRows l)), (1, .str s), (4, .str []), (5, .bool false), (8, .ro false 2 (fieldRows l)), (9, .int .i64 (fieldRows l).length), (10, .int .i64 i)] []) (fun i => l.length - i) 0 ⟨Nat.zero_le _, rfl⟩ ?hw (fun i hi => ?_)
  case hw => exact weak_st ⟨rfl, rfl, rfl, rfl, rfl, rfl, rfl, trivial⟩ trivial
  obtain ⟨hi, hf⟩ := hi
  by_cases hil : i < l.length
  · obtain ⟨f, hf1, hfm, hfd, hfr⟩ := fr_at hil
    rw [hfd, List.find?_cons] at hf
    have hfb := (hl.one f hfm).1
    have S1 := low_c f.1 (by omega)
    have S2 := low_c s (by omega)
    repeat' (first | refine a_f ?_ | refine st_nil ?_ | refine tri_seq ?_ | refine tri_region rfl ?_ | refine a_draw ?_ | (apply st_r rfl; case hq => first | exact q_idxro (by conv => lhs; whnf) (by conv => lhs; whnf) (by first | exact Tryz.underlying22 | exact Tryz.underlying23 | exact Tryz.underlying43 | exact Tryz.underlying44 | exact Tryz.underlying51 | exact Tryz.underlying86 | exact Tryz.underlying191 | exact Tryz.underlying209 | exact Tryz.underlying234 | exact Tryz.underlying270 | exact Tryz.underlying281 | exact Tryz.underlying344) (by kernel_rfl) (by omega) hfr | exact q_loadar (n := 2) (by conv => lhs; whnf) (by conv => lhs; whnf) (by first | rfl | exact Nat.le_of_ble_eq_true rfl | exact Nat.succ_pos _ | decide) (by kernel_rfl) (fun _ => rfl) | exact q_call S1 (hcf := Tryz.call48) rfl rfl | exact q_call S2 (hcf := Tryz.call48) rfl rfl | exact a_q) | (apply st_rif rfl; (case hq => first | exact a_i); all_goals (intro _; try (exfalso; first | omega | contradiction))) | (apply st_rw rfl rfl; case hq => first | exact w_alloc 102 (by first | exact zAt | exact zFault | exact zField | exact zParam | exact zLink | exact zPart | exact zReader) rfl rfl rfl | exact a_store) | refine tri_true rfl ?_ | refine tri_false rfl ?_ | refine tri_block ?_ | refine tri_skip ?_ | refine tri_ret ?_ | refine tri_exit ?_)
    · refine And.intro trivial ?_
      conv => lhs; whnf
      rw [getAV, hf, decide_eq_true ‹_›]
      rfl
    · exact loop_next (i + 1) ⟨by omega, by rw [hf, decide_eq_false ‹_›]⟩ (weak_st ⟨rfl, rfl, rfl, rfl, rfl, rfl, rfl, trivial⟩ trivial) (show l.length - (i + 1) < l.length - i by omega)
  · repeat' (first | refine a_f ?_ | refine st_nil ?_ | refine tri_seq ?_ | refine tri_region rfl ?_ | refine a_draw ?_ | (apply st_r rfl; case hq => first | exact a_q) | (apply st_rif rfl; (case hq => first | exact a_i); all_goals (intro _; try (exfalso; first | omega | contradiction))) | (apply st_rw rfl rfl; case hq => first | exact a_store) | refine tri_true rfl ?_ | refine tri_false rfl ?_ | refine tri_block ?_ | refine tri_skip ?_ | refine tri_ret ?_ | refine tri_exit ?_)
    refine And.intro trivial ?_
    conv => lhs; whnf
    rw [getAV, hf, List.drop_eq_nil_of_le (by omega)]
    rfl
end Go.Proofs.YtignjjnflcpiiaaGreatDoor
