import Derived.Test.YtignjjnflcpiiaaGreatDoorKG10
set_option linter.unusedVariables false
set_option linter.unusedSimpArgs false
set_option maxHeartbeats 1000000
namespace Go.Proofs.YtignjjnflcpiiaaGreatDoor
open Go.RowKit
attribute [local irreducible] Tri Steps Qd Wr Weak CPure CEff
set_option maxRecDepth 100000
inductive HRes where
  | ok (l : List (B × B)) (rest : B)
  | bad (n : Nat)
def lastF (out : List (B × B)) : B × B := out.getD (out.length - 1) ([], [])
def readStep (out : List (B × B)) (ln : B) : Option (List (B × B)) :=
  if blk (ln.getD 0 0) = true then (if out = [] then none else some (out.set (out.length - 1) ((lastF out).1, (lastF out).2 ++ ln)))
  else if (Lib.cut ln [58]).2.2 = true ∧ nameB (Lib.cut ln [58]).1 = true then some (out ++ [((Lib.cut ln [58]).1, (Lib.cut ln [58]).2.1)]) else none
theorem readStep_eq {out : List (B × B)} {ln : B} : readStep out ln = if blk (ln.getD 0 0) = true then (if out = [] then none else some (out.set (out.length - 1) ((lastF out).1, (lastF out).2 ++ ln)))
  else if (Lib.cut ln [58]).2.2 = true ∧ nameB (Lib.cut ln [58]).1 = true then some (out ++ [((Lib.cut ln [58]).1, (Lib.cut ln [58]).2.1)]) else none := rfl
theorem blk_iff (c : UInt8) : blk c = true ↔ (c.toNat : Int) = 32 ∨ (c.toNat : Int) = 9 := by
  simp only [blk, decide_eq_true_eq, ← UInt8.toNat_inj]
  have e1 : (32 : UInt8).toNat = 32 := rfl
  have e2 : (9 : UInt8).toNat = 9 := rfl
  omega
theorem index_len : ∀ (s sub : B), 0 ≤ Lib.index s sub → Lib.index s sub + sub.length ≤ s.length
  | [], sub => by
    unfold Lib.index
    cases sub with
    | nil => simp
    | cons a l => simp
  | b :: l, sub => by
    have ih := index_len l sub
    unfold Lib.index
    split
    · intro _
      have := (List.isPrefixOf_iff_prefix.1 ‹_›).length_le
      omega
    · split
      · simp
      · intro h
        rename_i h1 h2
        have h3 : Lib.index l sub ≠ -1 := by simpa using h2
        have := ih (by omega)
        simp only [List.length_cons]
        omega
theorem index_ge : ∀ (s sub : B), -1 ≤ Lib.index s sub
  | [], sub => by unfold Lib.index; split <;> simp
  | b :: l, sub => by
    have := index_ge l sub
    unfold Lib.index
    split
    · omega
    · split <;> omega
theorem cut_sum (s sep : B) : (Lib.cut s sep).1.length + (Lib.cut s sep).2.1.length ≤ s.length := by
  unfold Lib.cut
  split
  · have := index_len s sep ‹_›
    simp; omega
  · simp
theorem cut_lt {s sep : B} (hs : s ≠ []) (hp : 0 < sep.length) : (Lib.cut s sep).2.1.length < s.length := by
  have : 0 < s.length := List.length_pos_iff.2 hs
  unfold Lib.cut
  split
  · have := index_len s sep ‹_›
    simp; omega
  · simpa using this
theorem cut_found {s sep : B} (hs : s ≠ []) (h : (Lib.cut s sep).1 = []) : (Lib.cut s sep).2.2 = true := by
  unfold Lib.cut at h ⊢
  split
  · rfl
  · rename_i hn
    rw [if_neg hn] at h
    exact absurd h hs
def readGo (out : List (B × B)) (n : Nat) (s : B) : HRes :=
  if h : s = [] then .ok out []
  else if (Lib.cut s [13, 10]).1 = [] then .ok out (Lib.cut s [13, 10]).2.1
  else match readStep out (Lib.cut s [13, 10]).1 with
    | none => .bad n
    | some o => readGo o (n + 1) (Lib.cut s [13, 10]).2.1
termination_by s.length
decreasing_by exact cut_lt h (by simp)
theorem readGo_nil (out : List (B × B)) (n : Nat) : readGo out n [] = .ok out [] := by rw [readGo, dif_pos rfl]
theorem readGo_end {out : List (B × B)} {n : Nat} {s : B} (h : s ≠ []) (h1 : (Lib.cut s [13, 10]).1 = []) : readGo out n s = .ok out (Lib.cut s [13, 10]).2.1 := by rw [readGo, dif_neg h, if_pos h1]
theorem readGo_bad {out : List (B × B)} {n : Nat} {s : B} (h : s ≠ []) (h1 : (Lib.cut s [13, 10]).1 ≠ []) (h2 : readStep out (Lib.cut s [13, 10]).1 = none) : readGo out n s = .bad n := by rw [readGo, dif_neg h, if_neg h1, h2]
theorem readGo_go {out o : List (B × B)} {n : Nat} {s : B} (h : s ≠ []) (h1 : (Lib.cut s [13, 10]).1 ≠ []) (h2 : readStep out (Lib.cut s [13, 10]).1 = some o) : readGo out n s = readGo o (n + 1) (Lib.cut s [13, 10]).2.1 := by rw [readGo, dif_neg h, if_neg h1, h2]
def readH (s : B) : HRes := readGo [] 0 s
def hdAV : HRes → AV
  | .ok l rest => .tup [.ro true 2 (fieldRows l), .str rest, .nili]
  | .bad n => .tup [.nils, .str [], .iface 98 (.rptr true [.int .i64 3, .int .i64 n])]
theorem fr_len (out : List (B × B)) : (fieldRows out).length = out.length := by simp [fieldRows]
theorem fr_last {out : List (B × B)} (h : out ≠ []) : (fieldRows out)[out.length - 1]? = some [.str (lastF out).1, .str (lastF out).2] := by
  have : 0 < out.length := List.length_pos_iff.2 h
  simp [fieldRows, lastF, List.getD_eq_getElem?_getD, show out.length - 1 < out.length by omega]
theorem fr_lastI {out : List (B × B)} (h : out ≠ []) : (fieldRows out)[(((fieldRows out).length : Int) - 1).toNat]? = some [.str (lastF out).1, .str (lastF out).2] := by
  have e : (((fieldRows out).length : Int) - 1).toNat = out.length - 1 := by rw [fr_len]; omega
  rw [e]; exact fr_last h
theorem fr_set (out : List (B × B)) (i : Nat) (a b : B) : (fieldRows out).set i [.str a, .str b] = fieldRows (out.set i (a, b)) := by simp [fieldRows, List.map_set]
theorem fr_setI (out : List (B × B)) (a b : B) : (fieldRows out).set (((fieldRows out).length : Int) - 1).toNat [.str a, .str b] = fieldRows (out.set (out.length - 1) (a, b)) := by
  have e : (((fieldRows out).length : Int) - 1).toNat = out.length - 1 := by rw [fr_len]; omega
  rw [e]; exact fr_set _ _ _ _
theorem fr_app (out : List (B × B)) (a b : B) : fieldRows out ++ [[.str a, .str b]] = fieldRows (out ++ [(a, b)]) := by simp [fieldRows]
structure HInv (s : B) (x : List (B × B) × Nat × B) : Prop where
  go : readGo x.1 x.2.1 x.2.2 = readH s
  len : x.1.length ≤ x.2.1
  num : x.2.1 + x.2.2.length ≤ s.length
  val : ∀ f ∈ x.1, f.2.length + x.2.2.length ≤ s.length
theorem lastF_mem {out : List (B × B)} (h : out ≠ []) : lastF out ∈ out := by
  have : 0 < out.length := List.length_pos_iff.2 h
  rw [lastF, List.getD_eq_getElem?_getD, List.getElem?_eq_getElem (by omega)]
  exact List.getElem_mem _
theorem HInv.next {s : B} {out o : List (B × B)} {n : Nat} {x : B} (h : HInv s (out, n, x)) (hx : x ≠ []) (h1 : (Lib.cut x [13, 10]).1 ≠ []) (h2 : readStep out (Lib.cut x [13, 10]).1 = some o) : HInv s (o, n + 1, (Lib.cut x [13, 10]).2.1) := by
  have hs := cut_sum x [13, 10]
  have hl := cut_lt (sep := [13, 10]) hx (by simp)
  obtain ⟨hg, ha, hb, hc⟩ := h
  simp only at hg ha hb hc
  have hlen : o.length ≤ out.length + 1 ∧ ∀ f ∈ o, f.2.length + (Lib.cut x [13, 10]).2.1.length ≤ s.length := by
    unfold readStep at h2
    split at h2
    · split at h2
      · cases h2
      · cases h2
        refine ⟨by simp, fun f hf => ?_⟩
        rcases List.mem_or_eq_of_mem_set hf with h | h
        · have := hc f h; omega
        · subst h
          have := hc _ (lastF_mem ‹_›)
          simp only [List.length_append]; omega
    · split at h2
      · cases h2
        refine ⟨by simp, fun f hf => ?_⟩
        rcases List.mem_append.1 hf with h | h
        · have := hc f h; omega
        · simp only [List.mem_singleton] at h
          subst h
          have := cut_sum (Lib.cut x [13, 10]).1 [58]
          simp only
          omega
      · cases h2
  exact ⟨by rw [← hg]; exact (readGo_go hx h1 h2).symm, by simp only; omega, by simp only; omega, hlen.2⟩
set_option maxHeartbeats 4000000 in
theorem read_c (s : B) (hs : s.length ≤ 1000000) : CPure gx 83 [.str s] (hdAV (readH s)) := by
  refine cpure_of Tryz.func83 rfl (Nat.le_of_ble_eq_true rfl) rfl (fun w hw => ?_)
  repeat' (first | refine a_f ?_ | refine st_nil ?_ | refine tri_seq ?_ | refine tri_region rfl ?_ | refine a_draw ?_ | (apply st_r rfl; case hq => first | exact a_q) | (apply st_rif rfl; (case hq => first | exact a_i); all_goals (intro _; try (exfalso; first | omega | contradiction))) | (apply st_rw rfl rfl; case hq => first | exact a_store) | refine tri_true rfl ?_ | refine tri_false rfl ?_ | refine tri_block ?_ | refine tri_skip ?_ | refine tri_ret ?_ | refine tri_exit ?_)
  refine tri_loop (HInv s) (fun x => st [(0, .str x.2.2), (2, .nils), (3, .str []), (4, .nili), (5, .sl 100), (6, .int .i64 x.2.1)] [(100, .rows 75 2 (fieldRows x.1))]) (fun x => x.2.2.length) ([], 0, s) ⟨rfl, Nat.le_refl _, by simp, fun f hf => by cases hf⟩ ?hw (fun x hx => ?_)
  case hw => exact (weak_nil 5 100 75 2 rfl (by decide) rfl rfl).trans (weak_st ⟨rfl, rfl, rfl, rfl, rfl, rfl, trivial⟩ ⟨rfl, trivial⟩)
  obtain ⟨out, n, x⟩ := x
  change Tri _ _ (st [(0, .str x), (2, .nils), (3, .str []), (4, .nili), (5, .sl 100), (6, .int .i64 n)] [(100, .rows 75 2 (fieldRows out))]) _
  have hlen := hx.len
  have hnum := hx.num
  have hval := hx.val
  have hgo := hx.go
  have hnx := fun o => HInv.next (o := o) hx
  simp only at hlen hnum hval hgo
  have hfl := fr_len out
  have hs1 := cut_sum x [13, 10]
  have C1 := cut_c x [13, 10] (by omega)
  have hfd := cut_found (s := x) (sep := [13, 10])
  have e1 := readGo_end (out := out) (n := n) (s := x)
  have e2 := readGo_bad (out := out) (n := n) (s := x)
  rcases hc : Lib.cut x [13, 10] with ⟨ln, rest, fd⟩
  rw [hc] at C1 hs1 hnx hfd e1 e2
  simp only at hs1 C1 hnx hfd e1 e2
  have hs2 := cut_sum ln [58]
  have C2 := cut_c ln [58] (by omega)
  have hst := @readStep_eq out ln
  rcases hc2 : Lib.cut ln [58] with ⟨a, b, fd2⟩
  rw [hc2] at C2 hs2 hst
  simp only at hs2 C2 hst
  have C3 := name_c a (by omega)
  by_cases hx0 : x = []
  · subst hx0
    repeat' (first | refine a_f ?_ | refine st_nil ?_ | refine tri_seq ?_ | refine tri_region rfl ?_ | refine a_draw ?_ | (apply st_r rfl; case hq => first | exact a_q) | (apply st_rif rfl; (case hq => first | exact a_i); all_goals (intro _; try (exfalso; first | omega | contradiction))) | (apply st_rw rfl rfl; case hq => first | exact a_store) | refine tri_true rfl ?_ | refine tri_false rfl ?_ | refine tri_block ?_ | refine tri_skip ?_ | refine tri_ret ?_ | refine tri_exit ?_)
    refine And.intro trivial ?_
    conv => lhs; whnf
    rw [← hgo, readGo_nil]
    rfl
  by_cases hl0 : ln = []
  · have hf := hfd hx0 hl0
    subst hf
    repeat' (first | refine a_f ?_ | refine st_nil ?_ | refine tri_seq ?_ | refine tri_region rfl ?_ | refine a_draw ?_ | (apply st_r rfl; case hq => first | exact q_call C1 (hcf := Tryz.call51) rfl rfl | exact a_q) | (apply st_rif rfl; (case hq => first | exact a_i); all_goals (intro _; try (exfalso; first | omega | contradiction))) | (apply st_rw rfl rfl; case hq => first | exact a_store) | refine tri_true rfl ?_ | refine tri_false rfl ?_ | refine tri_block ?_ | refine tri_skip ?_ | refine tri_ret ?_ | refine tri_exit ?_)
    refine And.intro trivial ?_
    conv => lhs; whnf
    rw [← hgo, e1 hx0 hl0]
    rfl
  have hl1 := List.length_pos_iff.2 hl0
  replace e2 := e2 hx0 hl0
  replace hnx := fun o => hnx o hx0 hl0
  clear hfd e1 hc hc2
  by_cases hb : blk (ln.getD 0 0) = true
  · rw [if_pos hb] at hst
    have hb' : ((ln.getD (Int.toNat 0) 0).toNat : Int) = 32 ∨ ((ln.getD (Int.toNat 0) 0).toNat : Int) = 9 := (blk_iff _).1 hb
    by_cases ho : out = []
    · rw [if_pos ho] at hst
      subst ho
      repeat' (first | refine a_f ?_ | refine st_nil ?_ | refine tri_seq ?_ | refine tri_region rfl ?_ | refine a_draw ?_ | (apply st_r rfl; case hq => first | exact q_call C1 (hcf := Tryz.call51) rfl rfl | exact a_q) | (apply st_rif rfl; (case hq => first | exact a_i); all_goals (intro _; try (exfalso; first | omega | contradiction))) | (apply st_rw rfl rfl; case hq => first | exact a_store) | refine tri_true rfl ?_ | refine tri_false rfl ?_ | refine tri_block ?_ | refine tri_skip ?_ | refine tri_ret ?_ | refine tri_exit ?_)
      all_goals
        refine And.intro trivial ?_
        conv => lhs; whnf
        rw [← hgo, e2 hst]
        rfl
    · rw [if_neg ho] at hst
      have hol := List.length_pos_iff.2 ho
      have hlv := hval _ (lastF_mem ho)
      repeat' (first | refine a_f ?_ | refine st_nil ?_ | refine tri_seq ?_ | refine tri_region rfl ?_ | refine a_draw ?_ | (apply st_r rfl; case hq => first | exact q_call C1 (hcf := Tryz.call51) rfl rfl | exact q_loade (by conv => lhs; whnf) (by conv => lhs; whnf; arg 1; whnf) (fr_lastI ho) (by conv => lhs; whnf) (by kernel_rfl) | exact a_q) | (apply st_rif rfl; (case hq => first | exact a_i); all_goals (intro _; try (exfalso; first | omega | contradiction))) | (apply st_rw rfl rfl; case hq => first | exact w_storee (by conv => lhs; whnf) (by conv => lhs; whnf; arg 1; whnf) (fr_lastI ho) (by conv => lhs; whnf) rfl (by kernel_rfl) rfl (by first | rfl | exact Nat.le_of_ble_eq_true rfl | exact Nat.succ_pos _ | decide) (by first | rfl | exact Nat.le_of_ble_eq_true rfl | exact Nat.succ_pos _ | decide) (by conv => lhs; whnf) | exact a_store) | refine tri_true rfl ?_ | refine tri_false rfl ?_ | refine tri_block ?_ | refine tri_skip ?_ | refine tri_ret ?_ | refine tri_exit ?_)
      all_goals
        exact loop_next (out.set (out.length - 1) ((lastF out).1, (lastF out).2 ++ ln), n + 1, rest) (hnx _ hst) (weak_st ⟨rfl, rfl, rfl, rfl, rfl, rfl, trivial⟩ ⟨congrArg (fun r => some (AObj.rows 75 2 r)) (fr_setI out _ _), trivial⟩) (show rest.length < List.length x by omega)
  · rw [if_neg hb] at hst
    have hb' : ¬ (((ln.getD (Int.toNat 0) 0).toNat : Int) = 32 ∨ ((ln.getD (Int.toNat 0) 0).toNat : Int) = 9) := fun h => hb ((blk_iff _).2 h)
    cases fd2 <;> cases hnm : nameB a <;> rw [hnm] at C3 hst
    all_goals
      repeat' (first | refine a_f ?_ | refine st_nil ?_ | refine tri_seq ?_ | refine tri_region rfl ?_ | refine a_draw ?_ | (apply st_r rfl; case hq => first | exact q_call C1 (hcf := Tryz.call51) rfl rfl | exact q_call C2 (hcf := Tryz.call51) rfl rfl | exact q_call C3 (hcf := Tryz.call131) rfl rfl | exact a_q) | (apply st_rif rfl; (case hq => first | exact a_i); all_goals (intro _; try (exfalso; first | omega | contradiction))) | (apply st_rw rfl rfl; case hq => first | exact w_append (by conv => lhs; whnf) (by conv => lhs; whnf; arg 1; whnf) (by conv => lhs; whnf) (by first | exact Tryz.underlying22 | exact Tryz.underlying23 | exact Tryz.underlying43 | exact Tryz.underlying44 | exact Tryz.underlying51 | exact Tryz.underlying86 | exact Tryz.underlying191 | exact Tryz.underlying209 | exact Tryz.underlying234 | exact Tryz.underlying270 | exact Tryz.underlying281 | exact Tryz.underlying344) (by kernel_rfl) (by simp) rfl (by simp only [List.length_cons, List.length_nil]; omega) rfl rfl | exact a_store) | refine tri_true rfl ?_ | refine tri_false rfl ?_ | refine tri_block ?_ | refine tri_skip ?_ | refine tri_ret ?_ | refine tri_exit ?_)
      first
        | (refine And.intro trivial ?_
           conv => lhs; whnf
           rw [← hgo, e2 (hst.trans (by simp))]
           rfl)
        | exact loop_next (out ++ [(a, b)], n + 1, rest) (hnx _ (hst.trans (if_pos ⟨rfl, rfl⟩))) (weak_st ⟨rfl, rfl, rfl, rfl, rfl, rfl, trivial⟩ ⟨congrArg (fun r => some (AObj.rows 75 2 r)) (fr_app out _ _), trivial⟩) (show rest.length < List.length x by omega)
end Go.Proofs.YtignjjnflcpiiaaGreatDoor
