import Derived.Test.YtignjjnflcpiiaaGreatDoorWG36
set_option linter.unusedVariables false
set_option linter.unusedSimpArgs false
set_option maxHeartbeats 1000000
namespace Go.Proofs.YtignjjnflcpiiaaGreatDoor
open Go.RowKit
attribute [local irreducible] Tri Steps Qd Wr Weak CPure CEff
set_option maxRecDepth 100000
theorem zFieldE : zeroL Tryz.prog 75 = some [.str [], .str []] := by kernel_rfl
abbrev zcF : List AV := [.str [], .str []]
abbrev encP (f : B × B) : Bool := decide (lowB f.1 = ceB)
theorem given_c (f : B × B) (hf : f.1.length ≤ 1000000) : CPure gxo 78 [.agg [.str f.1, .str f.2]] (.bool (encP f)) := by
  refine cpure_of Tryz.func78 rfl (Nat.le_of_ble_eq_true rfl) rfl (fun w hw => ?_)
  have S1 := (small_c f.1 (by omega)).o
  have S2 : CPure gxo 53 [.str ceN] (.str ceB) := by
    have := (small_c ceN (by decide)).o
    rw [low_ce] at this
    exact this
  unfold encP
  generalize lowB f.1 = lf at S1 ⊢
  repeat' (first | refine a_f ?_ | refine st_nil ?_ | refine tri_seq ?_ | refine tri_region rfl ?_ | refine a_draw ?_ | (apply st_r rfl; case hq => first | exact q_loadr (by conv => lhs; whnf) (by conv => lhs; whnf) (by show scalB Tryz.prog _ = true; decide +kernel) (fun _ => rfl) | exact q_idxg (sz := 1) (by conv => lhs; whnf) (by conv => lhs; whnf) Tryz.underlying109 (by kernel_rfl) (by omega) (by omega) | exact q_loadg (by rfl) ours1 (fun _ _ _ _ => .str _ _) (by show scalB Tryz.prog _ = true; decide +kernel) | exact q_call S1 (hcf := Tryz.call53) rfl rfl | exact q_call S2 (hcf := Tryz.call53) rfl rfl | exact a_q) | (apply st_rif rfl; (case hq => first | exact a_i); all_goals (intro _; try (exfalso; first | omega | contradiction))) | (apply st_rw rfl rfl; case hq => first | exact a_store) | refine tri_true rfl ?_ | refine tri_false rfl ?_ | refine tri_block ?_ | refine tri_skip ?_ | refine tri_ret ?_ | refine tri_exit ?_)
  all_goals
    refine And.intro trivial ?_
    conv => lhs; whnf
    first
      | rfl
      | rw [decide_eq_true ‹lf = ceB›]
      | rw [decide_eq_false ‹¬ lf = ceB›]
theorem idxG_c (l : Fs) (hl : Small l) : CPure gxo 135 [.ro false 2 (fieldRows l), .clo 78 []] (.int .i64 (idxF encP l 0)) := by
  refine cpure_of Tryz.func135 rfl (Nat.le_of_ble_eq_true rfl) rfl (fun w hw => ?_)
  have hfl := fr_len l
  have hll := hl.len
  repeat' (first | refine a_f ?_ | refine st_nil ?_ | refine tri_seq ?_ | refine tri_region rfl ?_ | refine a_draw ?_ | (apply st_r rfl; case hq => first | exact a_q) | (apply st_rif rfl; (case hq => first | exact a_i); all_goals (intro _; try (exfalso; first | omega | contradiction))) | (apply st_rw rfl rfl; case hq => first | exact a_store) | refine tri_true rfl ?_ | refine tri_false rfl ?_ | refine tri_block ?_ | refine tri_skip ?_ | refine tri_ret ?_ | refine tri_exit ?_)
  refine tri_loop (fun (i : Nat) => i ≤ l.length ∧ idxF encP (l.drop i) i = idxF encP l 0) (fun i => st [(0, .ro false 2 (fieldRows l)), (1, .clo 78 []), (4, .int .i64 0), (7, .int .i64 (fieldRows l).length), (8, .int .i64 i)] []) (fun i => l.length - i) 0 ⟨Nat.zero_le _, rfl⟩ ?hw (fun i hi => ?_)
  case hw => exact weak_st ⟨rfl, rfl, rfl, rfl, rfl, trivial⟩ trivial
  obtain ⟨hi, hA⟩ := hi
  by_cases hil : i < l.length
  · obtain ⟨f, hf1, hfm, hfd, hfr⟩ := fr_at hil
    have M1 := given_c f (hl.one f hfm).1
    rw [hfd, idxF] at hA
    cases hc : encP f with
    | true =>
      rw [hc] at M1
      rw [if_pos hc] at hA
      rw [← hA]
      repeat' (first | refine a_f ?_ | refine st_nil ?_ | refine tri_seq ?_ | refine tri_region rfl ?_ | refine a_draw ?_ | (apply st_r rfl; case hq => first | exact q_idxro (by conv => lhs; whnf) (by conv => lhs; whnf) (by first | exact Tryz.underlying22 | exact Tryz.underlying23 | exact Tryz.underlying43 | exact Tryz.underlying44 | exact Tryz.underlying51 | exact Tryz.underlying86 | exact Tryz.underlying191 | exact Tryz.underlying209 | exact Tryz.underlying234 | exact Tryz.underlying270 | exact Tryz.underlying281 | exact Tryz.underlying344) (by kernel_rfl) (by omega) hfr | exact q_loadar (n := 2) (by conv => lhs; whnf) (by conv => lhs; whnf) (by first | rfl | exact Nat.le_of_ble_eq_true rfl | exact Nat.succ_pos _ | decide) (by kernel_rfl) (fun _ => rfl) | exact q_callclo (by conv => lhs; whnf) M1 Tryz.call78 rfl rfl | exact a_q) | (apply st_rif rfl; (case hq => first | exact a_i); all_goals (intro _; try (exfalso; first | omega | contradiction))) | (apply st_rw rfl rfl; case hq => first | exact a_store) | refine tri_true rfl ?_ | refine tri_false rfl ?_ | refine tri_block ?_ | refine tri_skip ?_ | refine tri_ret ?_ | refine tri_exit ?_)
      refine And.intro trivial ?_
      conv => lhs; whnf
      try rfl
    | false =>
      rw [hc] at M1
      rw [if_neg (by rw [hc]; simp)] at hA
      repeat' (first | refine a_f ?_ | refine st_nil ?_ | refine tri_seq ?_ | refine tri_region rfl ?_ | refine a_draw ?_ | (apply st_r rfl; case hq => first | exact q_idxro (by conv => lhs; whnf) (by conv => lhs; whnf) (by first | exact Tryz.underlying22 | exact Tryz.underlying23 | exact Tryz.underlying43 | exact Tryz.underlying44 | exact Tryz.underlying51 | exact Tryz.underlying86 | exact Tryz.underlying191 | exact Tryz.underlying209 | exact Tryz.underlying234 | exact Tryz.underlying270 | exact Tryz.underlying281 | exact Tryz.underlying344) (by kernel_rfl) (by omega) hfr | exact q_loadar (n := 2) (by conv => lhs; whnf) (by conv => lhs; whnf) (by first | rfl | exact Nat.le_of_ble_eq_true rfl | exact Nat.succ_pos _ | decide) (by kernel_rfl) (fun _ => rfl) | exact q_callclo (by conv => lhs; whnf) M1 Tryz.call78 rfl rfl | exact a_q) | (apply st_rif rfl; (case hq => first | exact a_i); all_goals (intro _; try (exfalso; first | omega | contradiction))) | (apply st_rw rfl rfl; case hq => first | exact a_store) | refine tri_true rfl ?_ | refine tri_false rfl ?_ | refine tri_block ?_ | refine tri_skip ?_ | refine tri_ret ?_ | refine tri_exit ?_)
      exact nextR (i + 1) ⟨by omega, hA⟩ (weak_st ⟨rfl, rfl, rfl, rfl, rfl, trivial⟩ trivial) (show l.length - (i + 1) < l.length - i by omega)
  · rw [List.drop_eq_nil_of_le (by omega), idxF] at hA
    rw [← hA]
    repeat' (first | refine a_f ?_ | refine st_nil ?_ | refine tri_seq ?_ | refine tri_region rfl ?_ | refine a_draw ?_ | (apply st_r rfl; case hq => first | exact a_q) | (apply st_rif rfl; (case hq => first | exact a_i); all_goals (intro _; try (exfalso; first | omega | contradiction))) | (apply st_rw rfl rfl; case hq => first | exact a_store) | refine tri_true rfl ?_ | refine tri_false rfl ?_ | refine tri_block ?_ | refine tri_skip ?_ | refine tri_ret ?_ | refine tri_exit ?_)
    refine And.intro trivial ?_
    conv => lhs; whnf
    try rfl
theorem idxF_spec (p : B × B → Bool) : ∀ (l : Fs) (i : Nat), (idxF p l i = -1 ∧ ∀ f ∈ l, p f = false) ∨ ∃ k f, idxF p l i = (i + k : Nat) ∧ l[k]? = some f ∧ p f = true ∧ ∀ g ∈ l.take k, p g = false
  | [], i => .inl ⟨rfl, fun f hf => by cases hf⟩
  | x :: r, i => by
    rw [idxF]
    cases hx : p x with
    | true => exact .inr ⟨0, x, by simp, rfl, hx, fun g hg => by simp at hg⟩
    | false =>
      rw [if_neg (by simp)]
      rcases idxF_spec p r (i + 1) with ⟨h1, h2⟩ | ⟨k, f, h1, h2, h3, h4⟩
      · exact .inl ⟨h1, fun f hf => by
          rcases List.mem_cons.1 hf with rfl | hf
          · exact hx
          · exact h2 f hf⟩
      · exact .inr ⟨k + 1, f, by rw [h1]; congr 1; omega, h2, h3, fun g hg => by
          rcases List.mem_cons.1 (by simpa using hg) with rfl | hg
          · exact hx
          · exact h4 g hg⟩
theorem noEnc_app (a b : Fs) : noEnc (a ++ b) = noEnc a ++ noEnc b := List.filter_append ..
theorem noEnc_take {l : Fs} {j : Nat} {f : B × B} (h : l[j]? = some f) : noEnc (l.take (j + 1)) = noEnc (l.take j) ++ (if encP f = true then [] else [f]) := by
  rw [List.take_add_one, h, noEnc_app]
  congr 1
  unfold noEnc
  cases he : encP f with
  | true => simp [show lowB f.1 = ceB from of_decide_eq_true he]
  | false => simp [show lowB f.1 ≠ ceB from of_decide_eq_false he]
theorem noEnc_len (l : Fs) : (noEnc l).length ≤ l.length := List.length_filter_le ..
theorem frw_set (l : Fs) (i : Nat) (f : B × B) : (fieldRows l).set i [.str f.1, .str f.2] = fieldRows (l.set i f) := by
  simp [fieldRows, List.map_set]
theorem frw_take (l : Fs) (i : Nat) : (fieldRows l).take i = fieldRows (l.take i) := by simp [fieldRows, List.map_take]
structure DelI (l : Fs) (x : Nat × Fs) : Prop where
  len : x.2.length = l.length
  le : x.1 ≤ l.length
  lt : (noEnc (l.take x.1)).length < x.1
  take : x.2.take (noEnc (l.take x.1)).length = noEnc (l.take x.1)
  drop : x.2.drop x.1 = l.drop x.1
set_option maxHeartbeats 8000000 in
theorem delete_m (l : Fs) (hl : Small l) : CMod gxo 76 75 2 (fieldRows l) [.sl 0, .clo 78 []] (fieldRows (noEnc l)) := by
  refine cmod_of Tryz.func76 rfl (Nat.le_of_ble_eq_true rfl) (fun w γ hw hM => ?_)
  have I1 := idxG_c l hl
  have hfl := fr_len l
  have hll := hl.len
  rcases idxF_spec encP l 0 with ⟨h1, h2⟩ | ⟨k, f0, h1, h2, h3, h4⟩
  · rw [h1] at I1
    have hno : noEnc l = l := noEnc_id fun f hf => of_decide_eq_false (h2 f hf)
    rw [hno]
    repeat' (first | refine a_f ?_ | refine st_nil ?_ | refine tri_seq ?_ | refine tri_region rfl ?_ | refine a_draw ?_ | (apply st_r rfl; case hq => first | exact q_call I1 (hcf := Tryz.call135) rfl rfl | exact a_q) | (apply st_rif rfl; (case hq => first | exact a_i); all_goals (intro _; try (exfalso; first | omega | contradiction))) | (apply st_rw rfl rfl; case hq => first | exact a_store) | refine tri_true rfl ?_ | refine tri_false rfl ?_ | refine tri_block ?_ | refine tri_skip ?_ | refine tri_ret ?_ | refine tri_exit ?_)
    exact ⟨4, rfl, rfl, rfl⟩
  · rw [Nat.zero_add] at h1
    rw [h1] at I1
    have hkl : k < l.length := (List.getElem?_eq_some_iff.1 h2).1
    have hk0 : noEnc (l.take k) = l.take k := noEnc_id fun f hf => of_decide_eq_false (h4 f hf)
    have hk1 : noEnc (l.take (k + 1)) = l.take k := by rw [noEnc_take h2, h3, if_pos rfl, List.append_nil, hk0]
    have hkn : (l.take k).length = k := by rw [List.length_take]; omega
    repeat' (first | refine a_f ?_ | refine st_nil ?_ | refine tri_seq ?_ | refine tri_region rfl ?_ | refine a_draw ?_ | (apply st_r rfl; case hq => first | exact q_call I1 (hcf := Tryz.call135) rfl rfl | exact a_q) | (apply st_rif rfl; (case hq => first | exact a_i); all_goals (intro _; try (exfalso; first | omega | contradiction))) | (apply st_rw rfl rfl; case hq => first | exact a_store) | refine tri_true rfl ?_ | refine tri_false rfl ?_ | refine tri_block ?_ | refine tri_skip ?_ | refine tri_ret ?_ | refine tri_exit ?_)
    refine tri_loop (DelI l) (fun x => st [(0, .sl 0), (1, .clo 78 []), (5, .int .i64 (noEnc (l.take x.1)).length), (6, .int .i64 x.1)] [(0, .rows 75 2 (fieldRows x.2))]) (fun x => l.length - x.1) (k + 1, l) ⟨rfl, by simp only; omega, by simp only; rw [hk1, hkn]; omega, by simp only; rw [hk1, hkn], rfl⟩ ?hw (fun x hx => ?_)
    case hw => exact weak_st ⟨rfl, rfl, congrArg (fun n : Nat => AV.int .i64 (n : Int)) (show k = _ by rw [hk1, hkn]), rfl, trivial⟩ ⟨rfl, trivial⟩
    clear I1 h1 h2 h3 h4 hk0 hk1 hkn
    obtain ⟨j, A⟩ := x
    obtain ⟨hA, hj, hlt, htk, hdr⟩ := hx
    simp only at hA hj hlt htk hdr
    have hfA := fr_len A
    by_cases hjl : j < l.length
    · obtain ⟨f, hf1, hfm, hfd, hfr⟩ := fr_at hjl
      have hAj : A[j]? = some f := by
        have := congrArg (·[0]?) hdr
        simp only [List.getElem?_drop, Nat.add_zero] at this
        rw [this, hf1]
      obtain ⟨f', hf1', _, _, hfrA⟩ := fr_at (l := A) (i := j) (by omega)
      rw [hAj] at hf1'
      cases hf1'
      have M1 := given_c f (hl.one f hfm).1
      have hnt := noEnc_take hf1
      have hdr1 : A.drop (j + 1) = l.drop (j + 1) := by
        have := congrArg (List.drop 1) hdr
        simpa [List.drop_drop] using this
      change Tri _ _ (st [(0, .sl 0), (1, .clo 78 []), (5, .int .i64 (noEnc (l.take j)).length), (6, .int .i64 j)] [(0, .rows 75 2 (fieldRows A))]) _
      cases hc : encP f with
      | true =>
        rw [hc] at M1 hnt
        rw [if_pos rfl, List.append_nil] at hnt
        repeat' (first | refine a_f ?_ | refine st_nil ?_ | refine tri_seq ?_ | refine tri_region rfl ?_ | refine a_draw ?_ | (apply st_r rfl; case hq => first | exact q_idxsl (by conv => lhs; whnf) (by conv => lhs; whnf; arg 1; whnf) (by conv => lhs; whnf) (by first | exact Tryz.underlying22 | exact Tryz.underlying23 | exact Tryz.underlying43 | exact Tryz.underlying44 | exact Tryz.underlying51 | exact Tryz.underlying86 | exact Tryz.underlying191 | exact Tryz.underlying209 | exact Tryz.underlying234 | exact Tryz.underlying270 | exact Tryz.underlying281 | exact Tryz.underlying344) (by kernel_rfl) (by omega) (by omega) | exact q_loadae (n := 2) (by conv => lhs; whnf) (by conv => lhs; whnf; arg 1; whnf) hfrA (by conv => lhs; whnf) (by first | rfl | exact Nat.le_of_ble_eq_true rfl | exact Nat.succ_pos _ | decide) (by first | rfl | exact Nat.le_of_ble_eq_true rfl | exact Nat.succ_pos _ | decide) (by kernel_rfl) | exact q_loada (n := 2) (by conv => lhs; whnf) (by conv => lhs; whnf; arg 1; whnf) (by conv => lhs; whnf) (by first | rfl | exact Nat.le_of_ble_eq_true rfl | exact Nat.succ_pos _ | decide) (by show aggB Tryz.prog _ _ = true; decide +kernel) | exact q_callclo (by conv => lhs; whnf) M1 Tryz.call78 rfl rfl | exact q_not (by conv => lhs; whnf) | exact a_q) | (apply st_rif rfl; (case hq => first | exact a_i); all_goals (intro _; try (exfalso; first | omega | contradiction))) | (apply st_rw rfl rfl; case hq => first | exact w_alloc (d := 7) 107 (by exact zFieldE) rfl rfl rfl | exact a_store) | refine tri_true rfl ?_ | refine tri_false rfl ?_ | refine tri_block ?_ | refine tri_skip ?_ | refine tri_ret ?_ | refine tri_exit ?_)
        exact nextR (j + 1, A) ⟨hA, by simp only; omega, by simp only; rw [hnt]; omega, by simp only; rw [hnt]; exact htk, hdr1⟩ (weak_st ⟨rfl, rfl, congrArg (fun m : Fs => AV.int .i64 (m.length : Int)) hnt.symm, rfl, trivial⟩ ⟨rfl, trivial⟩) (show l.length - (j + 1) < l.length - j by omega)
      | false =>
        rw [hc] at M1 hnt
        rw [if_neg (by simp)] at hnt
        obtain ⟨n, hn⟩ : ∃ n, n = (noEnc (l.take j)).length := ⟨_, rfl⟩
        obtain ⟨g, hg1, _, _, hgr⟩ := fr_at (l := A) (i := n) (by omega)
        have hst : (fieldRows A).set ((n : Int).toNat) [.str f.1, .str f.2] = fieldRows (A.set n f) := by rw [Int.toNat_natCast]; exact frw_set A n f
        have hnl : (noEnc (l.take (j + 1))).length = n + 1 := by rw [hnt, List.length_append, ← hn]; rfl
        rw [← hn]
        rw [← hn] at hlt htk
        repeat' (first | refine a_f ?_ | refine st_nil ?_ | refine tri_seq ?_ | refine tri_region rfl ?_ | refine a_draw ?_ | (apply st_r rfl; case hq => first | exact q_idxsl (by conv => lhs; whnf) (by conv => lhs; whnf; arg 1; whnf) (by conv => lhs; whnf) (by first | exact Tryz.underlying22 | exact Tryz.underlying23 | exact Tryz.underlying43 | exact Tryz.underlying44 | exact Tryz.underlying51 | exact Tryz.underlying86 | exact Tryz.underlying191 | exact Tryz.underlying209 | exact Tryz.underlying234 | exact Tryz.underlying270 | exact Tryz.underlying281 | exact Tryz.underlying344) (by kernel_rfl) (by omega) (by omega) | exact q_loadae (n := 2) (by conv => lhs; whnf) (by conv => lhs; whnf; arg 1; whnf) hfrA (by conv => lhs; whnf) (by first | rfl | exact Nat.le_of_ble_eq_true rfl | exact Nat.succ_pos _ | decide) (by first | rfl | exact Nat.le_of_ble_eq_true rfl | exact Nat.succ_pos _ | decide) (by kernel_rfl) | exact q_loada (n := 2) (by conv => lhs; whnf) (by conv => lhs; whnf; arg 1; whnf) (by conv => lhs; whnf) (by first | rfl | exact Nat.le_of_ble_eq_true rfl | exact Nat.succ_pos _ | decide) (by show aggB Tryz.prog _ _ = true; decide +kernel) | exact q_callclo (by conv => lhs; whnf) M1 Tryz.call78 rfl rfl | exact q_not (by conv => lhs; whnf) | exact a_q) | (apply st_rif rfl; (case hq => first | exact a_i); all_goals (intro _; try (exfalso; first | omega | contradiction))) | (apply st_rw rfl rfl; case hq => first | exact w_alloc (d := 7) 107 (by exact zFieldE) rfl rfl rfl | exact w_storee (by conv => lhs; whnf) (by conv => lhs; whnf; arg 1; whnf) hgr (by conv => lhs; whnf) rfl (by kernel_rfl) rfl (by first | rfl | exact Nat.le_of_ble_eq_true rfl | exact Nat.succ_pos _ | decide) (by first | rfl | exact Nat.le_of_ble_eq_true rfl | exact Nat.succ_pos _ | decide) (by conv => lhs; whnf) | exact a_store) | refine tri_true rfl ?_ | refine tri_false rfl ?_ | refine tri_block ?_ | refine tri_skip ?_ | refine tri_ret ?_ | refine tri_exit ?_)
        exact nextR (j + 1, A.set n f) ⟨by simp only [List.length_set]; exact hA, by simp only; omega, by simp only; omega, by
          simp only
          rw [hnl, hnt, ← htk, List.take_add_one, List.take_set, List.set_eq_of_length_le (by rw [List.length_take]; omega)]
          rw [List.getElem?_set_self (by omega)]
          rfl, by
          simp only
          rw [List.drop_set, if_pos (by omega)]
          exact hdr1⟩ (weak_st ⟨rfl, rfl, congrArg (fun m : Nat => AV.int .i64 (m : Int)) hnl.symm, rfl, trivial⟩ ⟨congrArg (fun r => some (AObj.rows 75 2 r)) hst, trivial⟩) (show l.length - (j + 1) < l.length - j by omega)
    · have hjj : j = l.length := by omega
      subst hjj
      rw [List.take_length] at hlt htk
      change Tri _ _ (st [(0, .sl 0), (1, .clo 78 []), (5, .int .i64 (noEnc (l.take l.length)).length), (6, .int .i64 l.length)] [(0, .rows 75 2 (fieldRows A))]) _
      rw [List.take_length]
      obtain ⟨n, hn⟩ : ∃ n, n = (noEnc l).length := ⟨_, rfl⟩
      rw [← hn] at hlt htk ⊢
      have hsh : ((fieldRows A).take n ++ List.replicate ((fieldRows A).length - n) (List.replicate 2 AV.any)).take n = fieldRows (noEnc l) := by
        rw [List.take_left' (by rw [List.length_take]; omega), frw_take, htk]
      repeat' (first | refine a_f ?_ | refine st_nil ?_ | refine tri_seq ?_ | refine tri_region rfl ?_ | refine a_draw ?_ | (apply st_r rfl; case hq => first | exact q_slsl_lo (l := n) (by conv => lhs; whnf) (by conv => lhs; whnf; arg 1; whnf) (by conv => lhs; whnf) (by rfl) (by first | exact Tryz.underlying22 | exact Tryz.underlying23 | exact Tryz.underlying43 | exact Tryz.underlying44 | exact Tryz.underlying51 | exact Tryz.underlying86 | exact Tryz.underlying191 | exact Tryz.underlying209 | exact Tryz.underlying234 | exact Tryz.underlying270 | exact Tryz.underlying281 | exact Tryz.underlying344) (by kernel_rfl) (by omega) | exact a_q) | (apply st_rif rfl; (case hq => first | exact a_i); all_goals (intro _; try (exfalso; first | omega | contradiction))) | (apply st_rw rfl rfl; case hq => first | exact w_clear (id := 0) (sz := 2) (off := n) (m' := (fieldRows A).length - n) (zc := zcF) (by conv => lhs; whnf) (by conv => lhs; whnf; arg 1; whnf) (by omega) (by omega) (by first | exact Tryz.underlying22 | exact Tryz.underlying23 | exact Tryz.underlying43 | exact Tryz.underlying44 | exact Tryz.underlying51 | exact Tryz.underlying86 | exact Tryz.underlying191 | exact Tryz.underlying209 | exact Tryz.underlying234 | exact Tryz.underlying270 | exact Tryz.underlying281 | exact Tryz.underlying344) (by exact zFieldE) rfl rfl rfl | exact w_shrink (n := n) (by conv => lhs; whnf) (by conv => lhs; whnf; arg 1; whnf) (by conv => lhs; whnf) (by rfl) (by simp only [List.length_append, List.length_take, List.length_replicate]; omega) (by first | exact Tryz.underlying22 | exact Tryz.underlying23 | exact Tryz.underlying43 | exact Tryz.underlying44 | exact Tryz.underlying51 | exact Tryz.underlying86 | exact Tryz.underlying191 | exact Tryz.underlying209 | exact Tryz.underlying234 | exact Tryz.underlying270 | exact Tryz.underlying281 | exact Tryz.underlying344) (by kernel_rfl) hsh rfl rfl | exact a_store) | refine tri_true rfl ?_ | refine tri_false rfl ?_ | refine tri_block ?_ | refine tri_skip ?_ | refine tri_ret ?_ | refine tri_exit ?_)
      exact ⟨4, rfl, rfl, rfl⟩
end Go.Proofs.YtignjjnflcpiiaaGreatDoor
