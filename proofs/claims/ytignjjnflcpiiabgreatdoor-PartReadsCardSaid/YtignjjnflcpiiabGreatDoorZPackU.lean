import Derived.Test.YtignjjnflcpiiabGreatDoorZPackR
set_option linter.unusedVariables false
set_option linter.unusedSimpArgs false
set_option maxHeartbeats 1000000
namespace Go.Proofs.YtignjjnflcpiiabGreatDoor
open Go.RowKit
attribute [local irreducible] Tri Steps Qd Wr Weak CPure CEff
set_option maxRecDepth 100000
theorem isWs_iff (c : UInt8) : isWs c = true ↔ (c.toNat : Int) = 13 ∨ (c.toNat : Int) = 10 ∨ (c.toNat : Int) = 32 ∨ (c.toNat : Int) = 9 := by
  have h : ∀ k : UInt8, c = k ↔ (c.toNat : Int) = (k.toNat : Int) := fun k => by rw [← UInt8.toNat_inj]; omega
  unfold isWs
  simp only [Bool.or_eq_true, beq_iff_eq]
  rw [h 13, h 10, h 32, h 9]
  have e1 : (13 : UInt8).toNat = 13 := rfl
  have e2 : (10 : UInt8).toNat = 10 := rfl
  have e3 : (32 : UInt8).toNat = 32 := rfl
  have e4 : (9 : UInt8).toNat = 9 := rfl
  rw [e1, e2, e3, e4]
  omega
def noWs (s : B) : B := s.filter (fun c => !isWs c)
theorem noWs_take (s : B) (i : Nat) (h : i < s.length) : noWs (s.take (i + 1)) = match isWs (s.getD (i : Int).toNat 0) with
    | true => noWs (s.take i)
    | false => noWs (s.take i) ++ [s.getD (i : Int).toNat 0] := by
  have e : s.getD (i : Int).toNat 0 = s[i] := by rw [Int.toNat_natCast, List.getD_eq_getElem?_getD, List.getElem?_eq_getElem h]; rfl
  rw [e, List.take_succ_eq_append_getElem h]
  unfold noWs
  rw [List.filter_append]
  cases hw : isWs s[i] <;> simp [hw]
theorem noWs_len (s : B) : (noWs s).length ≤ s.length := List.length_filter_le _ _
theorem eq61 (c : UInt8) : c = 61 ↔ (c.toNat : Int) = 61 := by
  have e1 : (61 : UInt8).toNat = 61 := rfl
  rw [← UInt8.toNat_inj, e1]; omega
theorem bits6_at (n : Nat) (j : Nat) (h : j < 6) : (bits6 n).take (j + 1) = (bits6 n).take j ++ [n / 2 ^ (5 - j) % 2] := by
  match j, h with
  | 0, _ => rfl
  | 1, _ => rfl
  | 2, _ => rfl
  | 3, _ => rfl
  | 4, _ => rfl
  | 5, _ => simp [bits6]
theorem bits6_len (n : Nat) : (bits6 n).length = 6 := rfl
theorem bits6_two (ks : List Nat) : ∀ x ∈ ks.flatMap bits6, x < 2 := by
  intro x hx
  obtain ⟨c, _, hx⟩ := List.mem_flatMap.1 hx
  simp only [bits6, List.mem_cons, List.not_mem_nil, or_false] at hx
  omega
theorem idx_hit {c : UInt8} {n : Nat} (hn : n < 64) (h : letter n = c) : alpha.idxOf c = n := by
  rw [← h]; exact (alpha_facts ⟨n, hn⟩).1
theorem idx_miss {c : UInt8} (h : ∀ j, j < 64 → letter j ≠ c) : alpha.idxOf c = 64 := by
  rcases alpha_idx c with h1 | ⟨h1, _, h2⟩
  · exact h1
  · exact absurd h2 (h _ h1)
theorem letter_int {n : Nat} {c : UInt8} : letter n = c ↔ ((letter n).toNat : Int) = (c.toNat : Int) := by
  rw [← UInt8.toNat_inj]; omega
theorem flat6_len (ks : List Nat) : (ks.flatMap bits6).length = 6 * ks.length := by
  induction ks with
  | nil => rfl
  | cons k ks ih => rw [List.flatMap_cons, List.length_append, ih, bits6_len, List.length_cons]; omega
theorem idxs_len : ∀ {l : B} {ks : List Nat}, idxs l = some ks → ks.length = l.length
  | [], ks, h => by cases h; rfl
  | c :: r, ks, h => by
    rw [idxs] at h
    split at h
    · cases h
    · cases hr : idxs r with
      | none => rw [hr] at h; cases h
      | some k =>
        rw [hr] at h
        cases h
        simp [idxs_len hr]
theorem idxs_take {m : B} {i : Nat} {ks : List Nat} (h : i < m.length) (hk : idxs (m.take i) = some ks) : idxs (m.take (i + 1)) = if alpha.idxOf (m.getD i 0) = 64 then none else some (ks ++ [alpha.idxOf (m.getD i 0)]) := by
  rw [List.take_succ_eq_append_getElem h, idxs_app, hk, List.getD_eq_getElem?_getD, List.getElem?_eq_getElem h]
  simp only [Option.bind_some, Option.getD_some, idxs]
  split <;> rfl
theorem idxs_cut {m : B} {i : Nat} (h : idxs (m.take i) = none) : idxs m = none := by
  rw [← List.take_append_drop i m, idxs_app, h]; rfl
theorem eights_len : ∀ (n : Nat) (l : List Nat), l.length ≤ n → (eights l).2.length ≤ l.length
  | n, l, h => by
    by_cases h8 : 8 ≤ l.length
    · rw [eights_ge h8]
      match n, h with
      | 0, h => omega
      | n + 1, h =>
        have := eights_len n (l.drop 8) (by rw [List.length_drop]; omega)
        rw [List.length_drop] at this
        simp only; omega
    · rw [eights_lt h8]; exact Nat.le_refl _
def ruAV : Option B → AV
  | some x => .tup [.str x, .int .i64 0]
  | none => .tup [.str [], .int .i64 3]
theorem all_zero {l : List Nat} (h : ∀ j, j < l.length → l.getD j 0 = 0) : l.all (· == 0) = true := by
  rw [List.all_eq_true]
  intro x hx
  obtain ⟨j, hj, rfl⟩ := List.getElem_of_mem hx
  have := h j hj
  rw [List.getD_eq_getElem?_getD, List.getElem?_eq_getElem hj] at this
  simpa using this
theorem not_zero {l : List Nat} {j : Nat} (hj : j < l.length) (h : l.getD j 0 ≠ 0) : l.all (· == 0) = false := by
  rw [List.all_eq_false]
  rw [List.getD_eq_getElem?_getD, List.getElem?_eq_getElem hj] at h
  exact ⟨_, List.getElem_mem hj, by simpa using h⟩
theorem ofN {n : Nat} (h : n < 256) : (UInt8.ofNat n).toNat = n := by rw [UInt8.toNat_ofNat']; omega
set_option maxHeartbeats 8000000 in
theorem refUnpack_c (s : B) (hs : s.length ≤ 1000000) : CPure gx 17 [.str s] (ruAV (unpack s)) := by
  refine cpure_of Tryz.func17 rfl (Nat.le_of_ble_eq_true rfl) rfl (fun w hw => ?_)
  have hru : ruAV (unpack s) = ruAV (refUn (noWs s)) := by rw [← refUn_eq]; rfl
  rw [hru]
  clear hru
  have hnl := noWs_len s
  repeat' (first | refine a_f ?_ | refine st_nil ?_ | refine tri_seq ?_ | refine tri_region rfl ?_ | refine a_draw ?_ | (apply st_r rfl; case hq => first | exact a_lens | exact a_index | exact a_add | exact a_adds0 | exact a_addsc | exact a_adds | exact a_sub | exact a_slo | exact a_shi | exact a_slh | exact a_lensl | exact a_lenro | exact a_lennil | exact a_lenpts | exact a_field | exact a_fielde | exact a_fieldr | exact a_idxsl | exact a_load | exact a_loada | exact a_mki | exact a_build2 | exact a_build3 | exact a_build1 | exact a_build0 | exact a_bs1 | exact a_bs2 | exact a_bs3 | exact a_bs4 | exact a_bsa | exact a_boxr) | (apply st_rif rfl; (case hq => first | exact a_lss | exact a_gtr | exact a_eql | exact a_neq | exact a_eqls0 | exact a_neqs0 | exact a_eqls | exact a_neqs | exact a_leq | exact a_geq); all_goals (intro _; try (exfalso; first | omega | contradiction))) | (apply st_rw rfl rfl; case hq => first | exact a_store) | refine tri_true rfl ?_ | refine tri_false rfl ?_ | refine tri_block ?_ | refine tri_skip ?_ | refine tri_ret ?_ | refine tri_exit ?_)
  refine tri_loop_to (fun (i : Nat) => i ≤ s.length) (fun i => st [(0, .str s), (2, .str []), (3, .int .i64 0), (4, .sl 100), (20, .int .i64 s.length), (21, .int .i64 i)] [(100, .rows 5 1 (byteRows (noWs (s.take i))))]) (fun i => s.length - i) (fun (_ : Unit) => True) (fun _ => st [(2, .str []), (3, .int .i64 0), (4, .ro false 1 (byteRows (noWs s)))] []) 0 (Nat.zero_le _) ?hw_1 weak_tri (fun i hi => ?_) (fun _ _ => ?_)
  case hw_1 => exact (weak_nil 4 100 5 1 rfl (by decide) rfl rfl).trans (weak_st ⟨rfl, rfl, rfl, rfl, rfl, rfl, trivial⟩ ⟨rfl, trivial⟩)
  · by_cases hil : i < s.length
    · have hnt := noWs_take s i hil
      have hnl2 := noWs_len (s.take i)
      rw [List.length_take] at hnl2
      have hbr := br_len (noWs (s.take i))
      have hiff := isWs_iff (s.getD (i : Int).toNat 0)
      cases hwc : isWs (s.getD (i : Int).toNat 0) with
      | true =>
        rw [hwc] at hnt
        have hcs := hiff.1 hwc
        clear hiff
        repeat' (first | refine a_f ?_ | refine st_nil ?_ | refine tri_seq ?_ | refine tri_region rfl ?_ | refine a_draw ?_ | (apply st_r rfl; case hq => first | exact a_lens | exact a_index | exact a_add | exact a_adds0 | exact a_addsc | exact a_adds | exact a_sub | exact a_slo | exact a_shi | exact a_slh | exact a_lensl | exact a_lenro | exact a_lennil | exact a_lenpts | exact a_field | exact a_fielde | exact a_fieldr | exact a_idxsl | exact a_load | exact a_loada | exact a_mki | exact a_build2 | exact a_build3 | exact a_build1 | exact a_build0 | exact a_bs1 | exact a_bs2 | exact a_bs3 | exact a_bs4 | exact a_bsa | exact a_boxr) | (apply st_rif rfl; (case hq => first | exact a_lss | exact a_gtr | exact a_eql | exact a_neq | exact a_eqls0 | exact a_neqs0 | exact a_eqls | exact a_neqs | exact a_leq | exact a_geq); all_goals (intro _; try (exfalso; first | omega | contradiction))) | (apply st_rw rfl rfl; case hq => first | exact a_store) | refine tri_true rfl ?_ | refine tri_false rfl ?_ | refine tri_block ?_ | refine tri_skip ?_ | refine tri_ret ?_ | refine tri_exit ?_)
        all_goals exact nextR (i + 1) (by omega) (weak_st ⟨rfl, rfl, rfl, rfl, rfl, rfl, trivial⟩ ⟨congrArg (fun r => some (AObj.rows 5 1 (byteRows r))) hnt.symm, trivial⟩) (show s.length - (i + 1) < s.length - i by omega)
      | false =>
        rw [hwc] at hnt
        have hcs : ¬ ((((s.getD (i : Int).toNat 0).toNat : Int)) = 13 ∨ (((s.getD (i : Int).toNat 0).toNat : Int)) = 10 ∨ (((s.getD (i : Int).toNat 0).toNat : Int)) = 32 ∨ (((s.getD (i : Int).toNat 0).toNat : Int)) = 9) := fun h => by
          rw [hiff.2 h] at hwc; cases hwc
        clear hiff
        repeat' (first | refine a_f ?_ | refine st_nil ?_ | refine tri_seq ?_ | refine tri_region rfl ?_ | refine a_draw ?_ | (apply st_r rfl; case hq => first | exact a_lens | exact a_index | exact a_add | exact a_adds0 | exact a_addsc | exact a_adds | exact a_sub | exact a_slo | exact a_shi | exact a_slh | exact a_lensl | exact a_lenro | exact a_lennil | exact a_lenpts | exact a_field | exact a_fielde | exact a_fieldr | exact a_idxsl | exact a_load | exact a_loada | exact a_mki | exact a_build2 | exact a_build3 | exact a_build1 | exact a_build0 | exact a_bs1 | exact a_bs2 | exact a_bs3 | exact a_bs4 | exact a_bsa | exact a_boxr) | (apply st_rif rfl; (case hq => first | exact a_lss | exact a_gtr | exact a_eql | exact a_neq | exact a_eqls0 | exact a_neqs0 | exact a_eqls | exact a_neqs | exact a_leq | exact a_geq); all_goals (intro _; try (exfalso; first | omega | contradiction))) | (apply st_rw rfl rfl; case hq => first | exact w_append (by conv => lhs; whnf) (by conv => lhs; whnf; arg 1; whnf) (by conv => lhs; whnf) (by first | exact Tryz.underlying22 | exact Tryz.underlying23 | exact Tryz.underlying56 | exact Tryz.underlying74 | exact Tryz.underlying80 | exact Tryz.underlying81 | exact Tryz.underlying157 | exact Tryz.underlying177 | exact Tryz.underlying211) (by kernel_rfl) (by simp) rfl (by simp only [List.length_cons, List.length_nil]; omega) rfl rfl | exact a_store) | refine tri_true rfl ?_ | refine tri_false rfl ?_ | refine tri_block ?_ | refine tri_skip ?_ | refine tri_ret ?_ | refine tri_exit ?_)
        all_goals exact nextR (i + 1) (by omega) (weak_st ⟨rfl, rfl, rfl, rfl, rfl, rfl, trivial⟩ ⟨congrArg (fun r => some (AObj.rows 5 1 r)) ((br_app _ _).trans (congrArg byteRows hnt.symm)), trivial⟩) (show s.length - (i + 1) < s.length - i by omega)
    · repeat' (first | refine a_f ?_ | refine st_nil ?_ | refine tri_seq ?_ | refine tri_region rfl ?_ | refine a_draw ?_ | (apply st_r rfl; case hq => first | exact a_lens | exact a_index | exact a_add | exact a_adds0 | exact a_addsc | exact a_adds | exact a_sub | exact a_slo | exact a_shi | exact a_slh | exact a_lensl | exact a_lenro | exact a_lennil | exact a_lenpts | exact a_field | exact a_fielde | exact a_fieldr | exact a_idxsl | exact a_load | exact a_loada | exact a_mki | exact a_build2 | exact a_build3 | exact a_build1 | exact a_build0 | exact a_bs1 | exact a_bs2 | exact a_bs3 | exact a_bs4 | exact a_bsa | exact a_boxr) | (apply st_rif rfl; (case hq => first | exact a_lss | exact a_gtr | exact a_eql | exact a_neq | exact a_eqls0 | exact a_neqs0 | exact a_eqls | exact a_neqs | exact a_leq | exact a_geq); all_goals (intro _; try (exfalso; first | omega | contradiction))) | (apply st_rw rfl rfl; case hq => first | exact a_store) | refine tri_true rfl ?_ | refine tri_false rfl ?_ | refine tri_block ?_ | refine tri_skip ?_ | refine tri_ret ?_ | refine tri_exit ?_)
      exact outR () trivial ((weak_freeze 4 100 rfl rfl rfl).trans (weak_st ⟨rfl, rfl, congrArg (fun r => AV.ro false 1 (byteRows (noWs r))) (List.take_of_length_le (by omega)), trivial⟩ trivial))
  generalize noWs s = l at hnl
  have hbr := br_len l
  by_cases h4 : l.length % 4 = 0
  case neg =>
    have hres : ruAV (refUn l) = .tup [.str [], .int .i64 3] := by
      unfold refUn; rw [if_pos (by omega)]; rfl
    repeat' (first | refine a_f ?_ | refine st_nil ?_ | refine tri_seq ?_ | refine tri_region rfl ?_ | refine a_draw ?_ | (apply st_r rfl; case hq => first | exact q_rem (by conv => lhs; whnf) (by conv => lhs; whnf) (by decide) (by omega) | exact a_lens | exact a_index | exact a_add | exact a_adds0 | exact a_addsc | exact a_adds | exact a_sub | exact a_slo | exact a_shi | exact a_slh | exact a_lensl | exact a_lenro | exact a_lennil | exact a_lenpts | exact a_field | exact a_fielde | exact a_fieldr | exact a_idxsl | exact a_load | exact a_loada | exact a_mki | exact a_build2 | exact a_build3 | exact a_build1 | exact a_build0 | exact a_bs1 | exact a_bs2 | exact a_bs3 | exact a_bs4 | exact a_bsa | exact a_boxr) | (apply st_rif rfl; (case hq => first | exact a_lss | exact a_gtr | exact a_eql | exact a_neq | exact a_eqls0 | exact a_neqs0 | exact a_eqls | exact a_neqs | exact a_leq | exact a_geq); all_goals (intro _; try (exfalso; first | omega | contradiction))) | (apply st_rw rfl rfl; case hq => first | exact a_store) | refine tri_true rfl ?_ | refine tri_false rfl ?_ | refine tri_block ?_ | refine tri_skip ?_ | refine tri_ret ?_ | refine tri_exit ?_)
    all_goals
      refine And.intro trivial ?_
      conv => lhs; whnf
      exact hres.symm
  have hres : ruAV (refUn l) = ruAV (match idxs (l.take (l.length - padsOf l)) with
    | none => none
    | some ks => if (eights (ks.flatMap bits6)).2.all (· == 0) then some (eights (ks.flatMap bits6)).1 else none) := by
    unfold refUn; rw [if_neg (by omega)]; rfl
  rw [hres]
  clear hres
  repeat' (first | refine a_f ?_ | refine st_nil ?_ | refine tri_seq ?_ | refine tri_region rfl ?_ | refine a_draw ?_ | (apply st_r rfl; case hq => first | exact q_rem (by conv => lhs; whnf) (by conv => lhs; whnf) (by decide) (by omega) | exact a_lens | exact a_index | exact a_add | exact a_adds0 | exact a_addsc | exact a_adds | exact a_sub | exact a_slo | exact a_shi | exact a_slh | exact a_lensl | exact a_lenro | exact a_lennil | exact a_lenpts | exact a_field | exact a_fielde | exact a_fieldr | exact a_idxsl | exact a_load | exact a_loada | exact a_mki | exact a_build2 | exact a_build3 | exact a_build1 | exact a_build0 | exact a_bs1 | exact a_bs2 | exact a_bs3 | exact a_bs4 | exact a_bsa | exact a_boxr) | (apply st_rif rfl; (case hq => first | exact a_lss | exact a_gtr | exact a_eql | exact a_neq | exact a_eqls0 | exact a_neqs0 | exact a_eqls | exact a_neqs | exact a_leq | exact a_geq); all_goals (intro _; try (exfalso; first | omega | contradiction))) | (apply st_rw rfl rfl; case hq => first | exact a_store) | refine tri_true rfl ?_ | refine tri_false rfl ?_ | refine tri_block ?_ | refine tri_skip ?_ | refine tri_ret ?_ | refine tri_exit ?_)
  refine tri_loop_to (fun (p : Nat) => p = 0 ∨ (p = 1 ∧ l.getD (l.length - 1) 0 = 61 ∧ 0 < l.length) ∨ (p = 2 ∧ (l.getD (l.length - 1) 0 = 61 ∧ 0 < l.length) ∧ l.getD (l.length - 2) 0 = 61 ∧ 1 < l.length)) (fun p => st [(2, .str []), (3, .int .i64 0), (4, .ro false 1 (byteRows l)), (7, .int .i64 p)] []) (fun p => 2 - p) (fun (_ : Unit) => True) (fun _ => st [(2, .str []), (3, .int .i64 0), (4, .ro false 1 (byteRows l)), (7, .int .i64 (padsOf l))] []) 0 (.inl rfl) ?hw_2 weak_tri (fun p hp => ?_) (fun _ _ => ?_)
  case hw_2 => exact weak_st ⟨rfl, rfl, rfl, rfl, trivial⟩ trivial
  · have i1 : ∀ k, k < l.length → (byteRows l)[(((byteRows l).length : Int) - 1 - (k : Int)).toNat]? = some [.int .u8 (l.getD (l.length - 1 - k) 0).toNat] := fun k hk => by
      rw [show (((byteRows l).length : Int) - 1 - (k : Int)).toNat = l.length - 1 - k by rw [hbr]; omega]
      exact br_at (by omega)
    rcases hp with rfl | ⟨rfl, hp1, hp2⟩ | ⟨rfl, ⟨hp1, hp2⟩, hp3, hp4⟩
    · by_cases hl0 : 0 < l.length
      · have hr := i1 0 hl0
        rw [Nat.sub_zero] at hr
        have hr' : (byteRows l)[(((byteRows l).length : Int) - 1 - ((0 : Nat) : Int)).toNat]? = some [.int .u8 (l.getD (l.length - 1) 0).toNat] := hr
        by_cases h61 : l.getD (l.length - 1) 0 = 61
        · have h61' := (eq61 _).1 h61
          repeat' (first | refine a_f ?_ | refine st_nil ?_ | refine tri_seq ?_ | refine tri_region rfl ?_ | refine a_draw ?_ | (apply st_r rfl; case hq => first | exact q_idxro (by conv => lhs; whnf) (by conv => lhs; whnf) (by first | exact Tryz.underlying22 | exact Tryz.underlying23 | exact Tryz.underlying56 | exact Tryz.underlying74 | exact Tryz.underlying80 | exact Tryz.underlying81 | exact Tryz.underlying157 | exact Tryz.underlying177 | exact Tryz.underlying211) (by kernel_rfl) (by omega) hr' | exact q_loadr (by conv => lhs; whnf) (by conv => lhs; whnf) (by show scalB Tryz.prog _ = true; decide +kernel) (fun _ => rfl) | exact a_lens | exact a_index | exact a_add | exact a_adds0 | exact a_addsc | exact a_adds | exact a_sub | exact a_slo | exact a_shi | exact a_slh | exact a_lensl | exact a_lenro | exact a_lennil | exact a_lenpts | exact a_field | exact a_fielde | exact a_fieldr | exact a_idxsl | exact a_load | exact a_loada | exact a_mki | exact a_build2 | exact a_build3 | exact a_build1 | exact a_build0 | exact a_bs1 | exact a_bs2 | exact a_bs3 | exact a_bs4 | exact a_bsa | exact a_boxr) | (apply st_rif rfl; (case hq => first | exact a_lss | exact a_gtr | exact a_eql | exact a_neq | exact a_eqls0 | exact a_neqs0 | exact a_eqls | exact a_neqs | exact a_leq | exact a_geq); all_goals (intro _; try (exfalso; first | omega | contradiction))) | (apply st_rw rfl rfl; case hq => first | exact a_store) | refine tri_true rfl ?_ | refine tri_false rfl ?_ | refine tri_block ?_ | refine tri_skip ?_ | refine tri_ret ?_ | refine tri_exit ?_)
          exact nextR 1 (.inr (.inl ⟨rfl, h61, hl0⟩)) (weak_st ⟨rfl, rfl, rfl, rfl, trivial⟩ trivial) (by decide)
        · have h61' := fun e => h61 ((eq61 _).2 e)
          have hpd : padsOf l = 0 := by unfold padsOf; rw [if_neg (fun h => h61 h.1)]
          repeat' (first | refine a_f ?_ | refine st_nil ?_ | refine tri_seq ?_ | refine tri_region rfl ?_ | refine a_draw ?_ | (apply st_r rfl; case hq => first | exact q_idxro (by conv => lhs; whnf) (by conv => lhs; whnf) (by first | exact Tryz.underlying22 | exact Tryz.underlying23 | exact Tryz.underlying56 | exact Tryz.underlying74 | exact Tryz.underlying80 | exact Tryz.underlying81 | exact Tryz.underlying157 | exact Tryz.underlying177 | exact Tryz.underlying211) (by kernel_rfl) (by omega) hr' | exact q_loadr (by conv => lhs; whnf) (by conv => lhs; whnf) (by show scalB Tryz.prog _ = true; decide +kernel) (fun _ => rfl) | exact a_lens | exact a_index | exact a_add | exact a_adds0 | exact a_addsc | exact a_adds | exact a_sub | exact a_slo | exact a_shi | exact a_slh | exact a_lensl | exact a_lenro | exact a_lennil | exact a_lenpts | exact a_field | exact a_fielde | exact a_fieldr | exact a_idxsl | exact a_load | exact a_loada | exact a_mki | exact a_build2 | exact a_build3 | exact a_build1 | exact a_build0 | exact a_bs1 | exact a_bs2 | exact a_bs3 | exact a_bs4 | exact a_bsa | exact a_boxr) | (apply st_rif rfl; (case hq => first | exact a_lss | exact a_gtr | exact a_eql | exact a_neq | exact a_eqls0 | exact a_neqs0 | exact a_eqls | exact a_neqs | exact a_leq | exact a_geq); all_goals (intro _; try (exfalso; first | omega | contradiction))) | (apply st_rw rfl rfl; case hq => first | exact a_store) | refine tri_true rfl ?_ | refine tri_false rfl ?_ | refine tri_block ?_ | refine tri_skip ?_ | refine tri_ret ?_ | refine tri_exit ?_)
          exact outR () trivial (weak_st ⟨rfl, rfl, rfl, congrArg (fun (n : Nat) => AV.int .i64 n) hpd.symm, trivial⟩ trivial)
      · have hpd : padsOf l = 0 := by unfold padsOf; rw [if_neg (fun h => hl0 h.2)]
        repeat' (first | refine a_f ?_ | refine st_nil ?_ | refine tri_seq ?_ | refine tri_region rfl ?_ | refine a_draw ?_ | (apply st_r rfl; case hq => first | exact a_lens | exact a_index | exact a_add | exact a_adds0 | exact a_addsc | exact a_adds | exact a_sub | exact a_slo | exact a_shi | exact a_slh | exact a_lensl | exact a_lenro | exact a_lennil | exact a_lenpts | exact a_field | exact a_fielde | exact a_fieldr | exact a_idxsl | exact a_load | exact a_loada | exact a_mki | exact a_build2 | exact a_build3 | exact a_build1 | exact a_build0 | exact a_bs1 | exact a_bs2 | exact a_bs3 | exact a_bs4 | exact a_bsa | exact a_boxr) | (apply st_rif rfl; (case hq => first | exact a_lss | exact a_gtr | exact a_eql | exact a_neq | exact a_eqls0 | exact a_neqs0 | exact a_eqls | exact a_neqs | exact a_leq | exact a_geq); all_goals (intro _; try (exfalso; first | omega | contradiction))) | (apply st_rw rfl rfl; case hq => first | exact a_store) | refine tri_true rfl ?_ | refine tri_false rfl ?_ | refine tri_block ?_ | refine tri_skip ?_ | refine tri_ret ?_ | refine tri_exit ?_)
        exact outR () trivial (weak_st ⟨rfl, rfl, rfl, congrArg (fun (n : Nat) => AV.int .i64 n) hpd.symm, trivial⟩ trivial)
    · have h2l : 1 < l.length := by omega
      have hr := i1 1 h2l
      have hr' : (byteRows l)[(((byteRows l).length : Int) - 1 - ((1 : Nat) : Int)).toNat]? = some [.int .u8 (l.getD (l.length - 2) 0).toNat] := by
        rw [hr, show l.length - 1 - 1 = l.length - 2 by omega]
      by_cases h61 : l.getD (l.length - 2) 0 = 61
      · have h61' := (eq61 _).1 h61
        repeat' (first | refine a_f ?_ | refine st_nil ?_ | refine tri_seq ?_ | refine tri_region rfl ?_ | refine a_draw ?_ | (apply st_r rfl; case hq => first | exact q_idxro (by conv => lhs; whnf) (by conv => lhs; whnf) (by first | exact Tryz.underlying22 | exact Tryz.underlying23 | exact Tryz.underlying56 | exact Tryz.underlying74 | exact Tryz.underlying80 | exact Tryz.underlying81 | exact Tryz.underlying157 | exact Tryz.underlying177 | exact Tryz.underlying211) (by kernel_rfl) (by omega) hr' | exact q_loadr (by conv => lhs; whnf) (by conv => lhs; whnf) (by show scalB Tryz.prog _ = true; decide +kernel) (fun _ => rfl) | exact a_lens | exact a_index | exact a_add | exact a_adds0 | exact a_addsc | exact a_adds | exact a_sub | exact a_slo | exact a_shi | exact a_slh | exact a_lensl | exact a_lenro | exact a_lennil | exact a_lenpts | exact a_field | exact a_fielde | exact a_fieldr | exact a_idxsl | exact a_load | exact a_loada | exact a_mki | exact a_build2 | exact a_build3 | exact a_build1 | exact a_build0 | exact a_bs1 | exact a_bs2 | exact a_bs3 | exact a_bs4 | exact a_bsa | exact a_boxr) | (apply st_rif rfl; (case hq => first | exact a_lss | exact a_gtr | exact a_eql | exact a_neq | exact a_eqls0 | exact a_neqs0 | exact a_eqls | exact a_neqs | exact a_leq | exact a_geq); all_goals (intro _; try (exfalso; first | omega | contradiction))) | (apply st_rw rfl rfl; case hq => first | exact a_store) | refine tri_true rfl ?_ | refine tri_false rfl ?_ | refine tri_block ?_ | refine tri_skip ?_ | refine tri_ret ?_ | refine tri_exit ?_)
        exact nextR 2 (.inr (.inr ⟨rfl, ⟨hp1, hp2⟩, h61, h2l⟩)) (weak_st ⟨rfl, rfl, rfl, rfl, trivial⟩ trivial) (by decide)
      · have h61' := fun e => h61 ((eq61 _).2 e)
        have hpd : padsOf l = 1 := by unfold padsOf; rw [if_pos ⟨hp1, hp2⟩, if_neg (fun h => h61 h.1)]
        repeat' (first | refine a_f ?_ | refine st_nil ?_ | refine tri_seq ?_ | refine tri_region rfl ?_ | refine a_draw ?_ | (apply st_r rfl; case hq => first | exact q_idxro (by conv => lhs; whnf) (by conv => lhs; whnf) (by first | exact Tryz.underlying22 | exact Tryz.underlying23 | exact Tryz.underlying56 | exact Tryz.underlying74 | exact Tryz.underlying80 | exact Tryz.underlying81 | exact Tryz.underlying157 | exact Tryz.underlying177 | exact Tryz.underlying211) (by kernel_rfl) (by omega) hr' | exact q_loadr (by conv => lhs; whnf) (by conv => lhs; whnf) (by show scalB Tryz.prog _ = true; decide +kernel) (fun _ => rfl) | exact a_lens | exact a_index | exact a_add | exact a_adds0 | exact a_addsc | exact a_adds | exact a_sub | exact a_slo | exact a_shi | exact a_slh | exact a_lensl | exact a_lenro | exact a_lennil | exact a_lenpts | exact a_field | exact a_fielde | exact a_fieldr | exact a_idxsl | exact a_load | exact a_loada | exact a_mki | exact a_build2 | exact a_build3 | exact a_build1 | exact a_build0 | exact a_bs1 | exact a_bs2 | exact a_bs3 | exact a_bs4 | exact a_bsa | exact a_boxr) | (apply st_rif rfl; (case hq => first | exact a_lss | exact a_gtr | exact a_eql | exact a_neq | exact a_eqls0 | exact a_neqs0 | exact a_eqls | exact a_neqs | exact a_leq | exact a_geq); all_goals (intro _; try (exfalso; first | omega | contradiction))) | (apply st_rw rfl rfl; case hq => first | exact a_store) | refine tri_true rfl ?_ | refine tri_false rfl ?_ | refine tri_block ?_ | refine tri_skip ?_ | refine tri_ret ?_ | refine tri_exit ?_)
        exact outR () trivial (weak_st ⟨rfl, rfl, rfl, congrArg (fun (n : Nat) => AV.int .i64 n) hpd.symm, trivial⟩ trivial)
    · have hpd : padsOf l = 2 := by unfold padsOf; rw [if_pos ⟨hp1, hp2⟩, if_pos ⟨hp3, hp4⟩]
      repeat' (first | refine a_f ?_ | refine st_nil ?_ | refine tri_seq ?_ | refine tri_region rfl ?_ | refine a_draw ?_ | (apply st_r rfl; case hq => first | exact a_lens | exact a_index | exact a_add | exact a_adds0 | exact a_addsc | exact a_adds | exact a_sub | exact a_slo | exact a_shi | exact a_slh | exact a_lensl | exact a_lenro | exact a_lennil | exact a_lenpts | exact a_field | exact a_fielde | exact a_fieldr | exact a_idxsl | exact a_load | exact a_loada | exact a_mki | exact a_build2 | exact a_build3 | exact a_build1 | exact a_build0 | exact a_bs1 | exact a_bs2 | exact a_bs3 | exact a_bs4 | exact a_bsa | exact a_boxr) | (apply st_rif rfl; (case hq => first | exact a_lss | exact a_gtr | exact a_eql | exact a_neq | exact a_eqls0 | exact a_neqs0 | exact a_eqls | exact a_neqs | exact a_leq | exact a_geq); all_goals (intro _; try (exfalso; first | omega | contradiction))) | (apply st_rw rfl rfl; case hq => first | exact a_store) | refine tri_true rfl ?_ | refine tri_false rfl ?_ | refine tri_block ?_ | refine tri_skip ?_ | refine tri_ret ?_ | refine tri_exit ?_)
      exact outR () trivial (weak_st ⟨rfl, rfl, rfl, congrArg (fun (n : Nat) => AV.int .i64 n) hpd.symm, trivial⟩ trivial)
  have hpl : padsOf l ≤ l.length := by
    unfold padsOf
    split
    · split <;> omega
    · omega
  have htk : (byteRows l).take (((byteRows l).length : Int) - (padsOf l : Int)).toNat = byteRows (l.take (l.length - padsOf l)) := by
    rw [br_take, show (((byteRows l).length : Int) - (padsOf l : Int)).toNat = l.length - padsOf l by rw [hbr]; omega]
  have hml : (l.take (l.length - padsOf l)).length ≤ l.length := by rw [List.length_take]; omega
  repeat' (first | refine a_f ?_ | refine st_nil ?_ | refine tri_seq ?_ | refine tri_region rfl ?_ | refine a_draw ?_ | (apply st_r rfl; case hq => first | exact q_slro_hi (by conv => lhs; whnf) (by conv => lhs; whnf) (by first | exact Tryz.underlying22 | exact Tryz.underlying23 | exact Tryz.underlying56 | exact Tryz.underlying74 | exact Tryz.underlying80 | exact Tryz.underlying81 | exact Tryz.underlying157 | exact Tryz.underlying177 | exact Tryz.underlying211) (by kernel_rfl) (by omega) (by omega) htk | exact a_lens | exact a_index | exact a_add | exact a_adds0 | exact a_addsc | exact a_adds | exact a_sub | exact a_slo | exact a_shi | exact a_slh | exact a_lensl | exact a_lenro | exact a_lennil | exact a_lenpts | exact a_field | exact a_fielde | exact a_fieldr | exact a_idxsl | exact a_load | exact a_loada | exact a_mki | exact a_build2 | exact a_build3 | exact a_build1 | exact a_build0 | exact a_bs1 | exact a_bs2 | exact a_bs3 | exact a_bs4 | exact a_bsa | exact a_boxr) | (apply st_rif rfl; (case hq => first | exact a_lss | exact a_gtr | exact a_eql | exact a_neq | exact a_eqls0 | exact a_neqs0 | exact a_eqls | exact a_neqs | exact a_leq | exact a_geq); all_goals (intro _; try (exfalso; first | omega | contradiction))) | (apply st_rw rfl rfl; case hq => first | exact a_store) | refine tri_true rfl ?_ | refine tri_false rfl ?_ | refine tri_block ?_ | refine tri_skip ?_ | refine tri_ret ?_ | refine tri_exit ?_)
  generalize padsOf l = pd at hpl htk hml
  generalize l.take (l.length - pd) = m at hml htk
  have hbm := br_len m
  refine tri_loop_to (fun (x : Nat × List Nat) => x.1 ≤ m.length ∧ idxs (m.take x.1) = some x.2) (fun x => st [(2, .str []), (3, .int .i64 0), (8, .sl 101), (76, .ro false 1 (byteRows m)), (77, .int .i64 (byteRows m).length), (78, .int .i64 x.1)] [(101, .rows 3 1 (intRows (x.2.flatMap bits6)))]) (fun x => m.length - x.1) (fun (ks : List Nat) => idxs m = some ks) (fun ks => st [(2, .str []), (3, .int .i64 0), (8, .ro false 1 (intRows (ks.flatMap bits6)))] []) (0, []) ⟨Nat.zero_le _, rfl⟩ ?hw_3 weak_tri (fun x hx => ?_) (fun ks hks => ?_)
  case hw_3 => exact (weak_nil 8 101 3 1 rfl (by decide) rfl rfl).trans (weak_st ⟨rfl, rfl, rfl, rfl, rfl, rfl, trivial⟩ ⟨rfl, trivial⟩)
  · obtain ⟨i, ks⟩ := x
    change Tri _ _ (st [(2, .str []), (3, .int .i64 0), (8, .sl 101), (76, .ro false 1 (byteRows m)), (77, .int .i64 (byteRows m).length), (78, .int .i64 i)] [(101, .rows 3 1 (intRows (ks.flatMap bits6)))]) _
    obtain ⟨hi, hk⟩ := hx
    simp only at hi hk
    by_cases hil : i < m.length
    · have hkl := idxs_len hk
      rw [List.length_take] at hkl
      have hfl := flat6_len ks
      have hit := idxs_take hil hk
      have hr : (byteRows m)[(i : Int).toNat]? = some [.int .u8 (m.getD i 0).toNat] := br_at hil
      generalize m.getD i 0 = c at hit hr
      repeat' (first | refine a_f ?_ | refine st_nil ?_ | refine tri_seq ?_ | refine tri_region rfl ?_ | refine a_draw ?_ | (apply st_r rfl; case hq => first | exact q_idxro (by conv => lhs; whnf) (by conv => lhs; whnf) (by first | exact Tryz.underlying22 | exact Tryz.underlying23 | exact Tryz.underlying56 | exact Tryz.underlying74 | exact Tryz.underlying80 | exact Tryz.underlying81 | exact Tryz.underlying157 | exact Tryz.underlying177 | exact Tryz.underlying211) (by kernel_rfl) (by omega) hr | exact q_loadr (by conv => lhs; whnf) (by conv => lhs; whnf) (by show scalB Tryz.prog _ = true; decide +kernel) (fun _ => rfl) | exact a_lens | exact a_index | exact a_add | exact a_adds0 | exact a_addsc | exact a_adds | exact a_sub | exact a_slo | exact a_shi | exact a_slh | exact a_lensl | exact a_lenro | exact a_lennil | exact a_lenpts | exact a_field | exact a_fielde | exact a_fieldr | exact a_idxsl | exact a_load | exact a_loada | exact a_mki | exact a_build2 | exact a_build3 | exact a_build1 | exact a_build0 | exact a_bs1 | exact a_bs2 | exact a_bs3 | exact a_bs4 | exact a_bsa | exact a_boxr) | (apply st_rif rfl; (case hq => first | exact a_lss | exact a_gtr | exact a_eql | exact a_neq | exact a_eqls0 | exact a_neqs0 | exact a_eqls | exact a_neqs | exact a_leq | exact a_geq); all_goals (intro _; try (exfalso; first | omega | contradiction))) | (apply st_rw rfl rfl; case hq => first | exact a_store) | refine tri_true rfl ?_ | refine tri_false rfl ?_ | refine tri_block ?_ | refine tri_skip ?_ | refine tri_ret ?_ | refine tri_exit ?_)
      refine tri_loop_to (fun (n : Nat) => n ≤ 64 ∧ ∀ j, j < n → letter j ≠ c) (fun n => st [(2, .str []), (3, .int .i64 0), (8, .sl 101), (10, .int .u8 c.toNat), (11, .int .i64 n), (76, .ro false 1 (byteRows m)), (77, .int .i64 (byteRows m).length), (78, .int .i64 i)] [(101, .rows 3 1 (intRows (ks.flatMap bits6)))]) (fun n => 64 - n) (fun (_ : Unit) => True) (fun _ => st [(2, .str []), (3, .int .i64 0), (8, .sl 101), (10, .int .u8 c.toNat), (11, .int .i64 (alpha.idxOf c)), (76, .ro false 1 (byteRows m)), (77, .int .i64 (byteRows m).length), (78, .int .i64 i)] [(101, .rows 3 1 (intRows (ks.flatMap bits6)))]) 0 ⟨Nat.zero_le _, fun j hj => absurd hj (Nat.not_lt_zero j)⟩ ?hw_4 weak_tri (fun n hn => ?_) (fun _ _ => ?_)
      case hw_4 => exact weak_st ⟨rfl, rfl, rfl, rfl, rfl, rfl, rfl, rfl, trivial⟩ ⟨rfl, trivial⟩
      · obtain ⟨hn, hno⟩ := hn
        by_cases h64 : n < 64
        · have L1 := letter_c n h64
          by_cases hlt : letter n = c
          · have hlt' := letter_int.1 hlt
            have hix := idx_hit h64 hlt
            repeat' (first | refine a_f ?_ | refine st_nil ?_ | refine tri_seq ?_ | refine tri_region rfl ?_ | refine a_draw ?_ | (apply st_r rfl; case hq => first | exact q_call L1 (hcf := Tryz.call36) rfl rfl | exact a_lens | exact a_index | exact a_add | exact a_adds0 | exact a_addsc | exact a_adds | exact a_sub | exact a_slo | exact a_shi | exact a_slh | exact a_lensl | exact a_lenro | exact a_lennil | exact a_lenpts | exact a_field | exact a_fielde | exact a_fieldr | exact a_idxsl | exact a_load | exact a_loada | exact a_mki | exact a_build2 | exact a_build3 | exact a_build1 | exact a_build0 | exact a_bs1 | exact a_bs2 | exact a_bs3 | exact a_bs4 | exact a_bsa | exact a_boxr) | (apply st_rif rfl; (case hq => first | exact a_lss | exact a_gtr | exact a_eql | exact a_neq | exact a_eqls0 | exact a_neqs0 | exact a_eqls | exact a_neqs | exact a_leq | exact a_geq); all_goals (intro _; try (exfalso; first | omega | contradiction))) | (apply st_rw rfl rfl; case hq => first | exact a_store) | refine tri_true rfl ?_ | refine tri_false rfl ?_ | refine tri_block ?_ | refine tri_skip ?_ | refine tri_ret ?_ | refine tri_exit ?_)
            exact outR () trivial (weak_st ⟨rfl, rfl, rfl, rfl, congrArg (fun (n : Nat) => AV.int .i64 n) hix.symm, rfl, rfl, rfl, trivial⟩ ⟨rfl, trivial⟩)
          · have hlt' := fun e => hlt (letter_int.2 e)
            repeat' (first | refine a_f ?_ | refine st_nil ?_ | refine tri_seq ?_ | refine tri_region rfl ?_ | refine a_draw ?_ | (apply st_r rfl; case hq => first | exact q_call L1 (hcf := Tryz.call36) rfl rfl | exact a_lens | exact a_index | exact a_add | exact a_adds0 | exact a_addsc | exact a_adds | exact a_sub | exact a_slo | exact a_shi | exact a_slh | exact a_lensl | exact a_lenro | exact a_lennil | exact a_lenpts | exact a_field | exact a_fielde | exact a_fieldr | exact a_idxsl | exact a_load | exact a_loada | exact a_mki | exact a_build2 | exact a_build3 | exact a_build1 | exact a_build0 | exact a_bs1 | exact a_bs2 | exact a_bs3 | exact a_bs4 | exact a_bsa | exact a_boxr) | (apply st_rif rfl; (case hq => first | exact a_lss | exact a_gtr | exact a_eql | exact a_neq | exact a_eqls0 | exact a_neqs0 | exact a_eqls | exact a_neqs | exact a_leq | exact a_geq); all_goals (intro _; try (exfalso; first | omega | contradiction))) | (apply st_rw rfl rfl; case hq => first | exact a_store) | refine tri_true rfl ?_ | refine tri_false rfl ?_ | refine tri_block ?_ | refine tri_skip ?_ | refine tri_ret ?_ | refine tri_exit ?_)
            exact nextR (n + 1) ⟨by omega, fun j hj => by
              by_cases e : j = n
              · rw [e]; exact hlt
              · exact hno j (by omega)⟩ (weak_st ⟨rfl, rfl, rfl, rfl, rfl, rfl, rfl, rfl, trivial⟩ ⟨rfl, trivial⟩) (show 64 - (n + 1) < 64 - n by omega)
        · have e64 : n = 64 := by omega
          subst e64
          have hix := idx_miss hno
          repeat' (first | refine a_f ?_ | refine st_nil ?_ | refine tri_seq ?_ | refine tri_region rfl ?_ | refine a_draw ?_ | (apply st_r rfl; case hq => first | exact a_lens | exact a_index | exact a_add | exact a_adds0 | exact a_addsc | exact a_adds | exact a_sub | exact a_slo | exact a_shi | exact a_slh | exact a_lensl | exact a_lenro | exact a_lennil | exact a_lenpts | exact a_field | exact a_fielde | exact a_fieldr | exact a_idxsl | exact a_load | exact a_loada | exact a_mki | exact a_build2 | exact a_build3 | exact a_build1 | exact a_build0 | exact a_bs1 | exact a_bs2 | exact a_bs3 | exact a_bs4 | exact a_bsa | exact a_boxr) | (apply st_rif rfl; (case hq => first | exact a_lss | exact a_gtr | exact a_eql | exact a_neq | exact a_eqls0 | exact a_neqs0 | exact a_eqls | exact a_neqs | exact a_leq | exact a_geq); all_goals (intro _; try (exfalso; first | omega | contradiction))) | (apply st_rw rfl rfl; case hq => first | exact a_store) | refine tri_true rfl ?_ | refine tri_false rfl ?_ | refine tri_block ?_ | refine tri_skip ?_ | refine tri_ret ?_ | refine tri_exit ?_)
          exact outR () trivial (weak_st ⟨rfl, rfl, rfl, rfl, congrArg (fun (n : Nat) => AV.int .i64 n) hix.symm, rfl, rfl, rfl, trivial⟩ ⟨rfl, trivial⟩)
      · have hle := idx_le c
        generalize alpha.idxOf c = n at hit hle
        by_cases h64 : n = 64
        · subst h64
          rw [if_pos rfl] at hit
          have hno := idxs_cut hit
          repeat' (first | refine a_f ?_ | refine st_nil ?_ | refine tri_seq ?_ | refine tri_region rfl ?_ | refine a_draw ?_ | (apply st_r rfl; case hq => first | exact a_lens | exact a_index | exact a_add | exact a_adds0 | exact a_addsc | exact a_adds | exact a_sub | exact a_slo | exact a_shi | exact a_slh | exact a_lensl | exact a_lenro | exact a_lennil | exact a_lenpts | exact a_field | exact a_fielde | exact a_fieldr | exact a_idxsl | exact a_load | exact a_loada | exact a_mki | exact a_build2 | exact a_build3 | exact a_build1 | exact a_build0 | exact a_bs1 | exact a_bs2 | exact a_bs3 | exact a_bs4 | exact a_bsa | exact a_boxr) | (apply st_rif rfl; (case hq => first | exact a_lss | exact a_gtr | exact a_eql | exact a_neq | exact a_eqls0 | exact a_neqs0 | exact a_eqls | exact a_neqs | exact a_leq | exact a_geq); all_goals (intro _; try (exfalso; first | omega | contradiction))) | (apply st_rw rfl rfl; case hq => first | exact a_store) | refine tri_true rfl ?_ | refine tri_false rfl ?_ | refine tri_block ?_ | refine tri_skip ?_ | refine tri_ret ?_ | refine tri_exit ?_)
          refine And.intro trivial ?_
          conv => lhs; whnf
          rw [hno]; rfl
        · rw [if_neg h64] at hit
          have hlt : n < 64 := by omega
          repeat' (first | refine a_f ?_ | refine st_nil ?_ | refine tri_seq ?_ | refine tri_region rfl ?_ | refine a_draw ?_ | (apply st_r rfl; case hq => first | exact a_lens | exact a_index | exact a_add | exact a_adds0 | exact a_addsc | exact a_adds | exact a_sub | exact a_slo | exact a_shi | exact a_slh | exact a_lensl | exact a_lenro | exact a_lennil | exact a_lenpts | exact a_field | exact a_fielde | exact a_fieldr | exact a_idxsl | exact a_load | exact a_loada | exact a_mki | exact a_build2 | exact a_build3 | exact a_build1 | exact a_build0 | exact a_bs1 | exact a_bs2 | exact a_bs3 | exact a_bs4 | exact a_bsa | exact a_boxr) | (apply st_rif rfl; (case hq => first | exact a_lss | exact a_gtr | exact a_eql | exact a_neq | exact a_eqls0 | exact a_neqs0 | exact a_eqls | exact a_neqs | exact a_leq | exact a_geq); all_goals (intro _; try (exfalso; first | omega | contradiction))) | (apply st_rw rfl rfl; case hq => first | exact a_store) | refine tri_true rfl ?_ | refine tri_false rfl ?_ | refine tri_block ?_ | refine tri_skip ?_ | refine tri_ret ?_ | refine tri_exit ?_)
          refine tri_loop (fun (j : Nat) => j ≤ 6) (fun j => st [(2, .str []), (3, .int .i64 0), (8, .sl 101), (11, .int .i64 n), (12, .int .i64 (5 - (j : Int))), (76, .ro false 1 (byteRows m)), (77, .int .i64 (byteRows m).length), (78, .int .i64 i)] [(101, .rows 3 1 (intRows (ks.flatMap bits6 ++ (bits6 n).take j)))]) (fun j => 6 - j) 0 (Nat.zero_le _) ?hw_5 (fun j hj => ?_)
          case hw_5 => exact weak_st ⟨rfl, rfl, rfl, rfl, rfl, rfl, rfl, rfl, trivial⟩ ⟨congrArg (fun r => some (AObj.rows 3 1 (intRows r))) (by rw [List.take_zero, List.append_nil]), trivial⟩
          have hil2 := ir_len (ks.flatMap bits6 ++ (bits6 n).take j)
          have h6 : ((bits6 n).take j).length = min j 6 := by rw [List.length_take, bits6_len]
          rw [List.length_append, hfl, h6] at hil2
          by_cases hj6 : j < 6
          · have hb := bit_and n (5 - j) (by omega) (5 - (j : Int)) (by omega)
            have he : intRows (ks.flatMap bits6 ++ (bits6 n).take j) ++ [[.int .i64 ((n / 2 ^ (5 - j) % 2 : Nat) : Int)]] = intRows (ks.flatMap bits6 ++ (bits6 n).take (j + 1)) := by
              rw [ir_app, List.append_assoc, bits6_at _ j hj6]
            repeat' (first | refine a_f ?_ | refine st_nil ?_ | refine tri_seq ?_ | refine tri_region rfl ?_ | refine a_draw ?_ | (apply st_r rfl; case hq => first | exact q_shr (by conv => lhs; whnf) (by conv => lhs; whnf) (by omega) (by show _ ≤ (64 : Int); omega) | exact q_and (by conv => lhs; whnf) (by conv => lhs; whnf) hb | exact a_lens | exact a_index | exact a_add | exact a_adds0 | exact a_addsc | exact a_adds | exact a_sub | exact a_slo | exact a_shi | exact a_slh | exact a_lensl | exact a_lenro | exact a_lennil | exact a_lenpts | exact a_field | exact a_fielde | exact a_fieldr | exact a_idxsl | exact a_load | exact a_loada | exact a_mki | exact a_build2 | exact a_build3 | exact a_build1 | exact a_build0 | exact a_bs1 | exact a_bs2 | exact a_bs3 | exact a_bs4 | exact a_bsa | exact a_boxr) | (apply st_rif rfl; (case hq => first | exact a_lss | exact a_gtr | exact a_eql | exact a_neq | exact a_eqls0 | exact a_neqs0 | exact a_eqls | exact a_neqs | exact a_leq | exact a_geq); all_goals (intro _; try (exfalso; first | omega | contradiction))) | (apply st_rw rfl rfl; case hq => first | exact w_append (by conv => lhs; whnf) (by conv => lhs; whnf; arg 1; whnf) (by conv => lhs; whnf) (by first | exact Tryz.underlying22 | exact Tryz.underlying23 | exact Tryz.underlying56 | exact Tryz.underlying74 | exact Tryz.underlying80 | exact Tryz.underlying81 | exact Tryz.underlying157 | exact Tryz.underlying177 | exact Tryz.underlying211) (by kernel_rfl) (by simp) rfl (by simp only [List.length_cons, List.length_nil]; omega) rfl rfl | exact a_store) | refine tri_true rfl ?_ | refine tri_false rfl ?_ | refine tri_block ?_ | refine tri_skip ?_ | refine tri_ret ?_ | refine tri_exit ?_)
            exact nextR (j + 1) (by omega) (weak_st ⟨rfl, rfl, rfl, rfl, congrArg (AV.int .i64) (by omega), rfl, rfl, rfl, trivial⟩ ⟨congrArg (fun r => some (AObj.rows 3 1 r)) he, trivial⟩) (show 6 - (j + 1) < 6 - j by omega)
          · have e6 : j = 6 := by omega
            subst e6
            repeat' (first | refine a_f ?_ | refine st_nil ?_ | refine tri_seq ?_ | refine tri_region rfl ?_ | refine a_draw ?_ | (apply st_r rfl; case hq => first | exact a_lens | exact a_index | exact a_add | exact a_adds0 | exact a_addsc | exact a_adds | exact a_sub | exact a_slo | exact a_shi | exact a_slh | exact a_lensl | exact a_lenro | exact a_lennil | exact a_lenpts | exact a_field | exact a_fielde | exact a_fieldr | exact a_idxsl | exact a_load | exact a_loada | exact a_mki | exact a_build2 | exact a_build3 | exact a_build1 | exact a_build0 | exact a_bs1 | exact a_bs2 | exact a_bs3 | exact a_bs4 | exact a_bsa | exact a_boxr) | (apply st_rif rfl; (case hq => first | exact a_lss | exact a_gtr | exact a_eql | exact a_neq | exact a_eqls0 | exact a_neqs0 | exact a_eqls | exact a_neqs | exact a_leq | exact a_geq); all_goals (intro _; try (exfalso; first | omega | contradiction))) | (apply st_rw rfl rfl; case hq => first | exact a_store) | refine tri_true rfl ?_ | refine tri_false rfl ?_ | refine tri_block ?_ | refine tri_skip ?_ | refine tri_ret ?_ | refine tri_exit ?_)
            refine nextR (i + 1, ks ++ [n]) ⟨by simp only; omega, hit⟩ (weak_st ⟨rfl, rfl, rfl, rfl, rfl, rfl, trivial⟩ ⟨congrArg (fun r => some (AObj.rows 3 1 (intRows r))) ?_, trivial⟩) (show m.length - (i + 1) < m.length - i by omega)
            rw [List.flatMap_append]; simp [bits6]
    · repeat' (first | refine a_f ?_ | refine st_nil ?_ | refine tri_seq ?_ | refine tri_region rfl ?_ | refine a_draw ?_ | (apply st_r rfl; case hq => first | exact a_lens | exact a_index | exact a_add | exact a_adds0 | exact a_addsc | exact a_adds | exact a_sub | exact a_slo | exact a_shi | exact a_slh | exact a_lensl | exact a_lenro | exact a_lennil | exact a_lenpts | exact a_field | exact a_fielde | exact a_fieldr | exact a_idxsl | exact a_load | exact a_loada | exact a_mki | exact a_build2 | exact a_build3 | exact a_build1 | exact a_build0 | exact a_bs1 | exact a_bs2 | exact a_bs3 | exact a_bs4 | exact a_bsa | exact a_boxr) | (apply st_rif rfl; (case hq => first | exact a_lss | exact a_gtr | exact a_eql | exact a_neq | exact a_eqls0 | exact a_neqs0 | exact a_eqls | exact a_neqs | exact a_leq | exact a_geq); all_goals (intro _; try (exfalso; first | omega | contradiction))) | (apply st_rw rfl rfl; case hq => first | exact a_store) | refine tri_true rfl ?_ | refine tri_false rfl ?_ | refine tri_block ?_ | refine tri_skip ?_ | refine tri_ret ?_ | refine tri_exit ?_)
      rw [List.take_of_length_le (by omega)] at hk
      exact outR ks hk ((weak_freeze 8 101 rfl rfl rfl).trans (weak_st ⟨rfl, rfl, rfl, trivial⟩ trivial))
  rw [hks]
  have hkl := idxs_len hks
  have hfl := flat6_len ks
  have hb2 := bits6_two ks
  simp only
  generalize ks.flatMap bits6 = bs at hfl hb2
  repeat' (first | refine a_f ?_ | refine st_nil ?_ | refine tri_seq ?_ | refine tri_region rfl ?_ | refine a_draw ?_ | (apply st_r rfl; case hq => first | exact a_lens | exact a_index | exact a_add | exact a_adds0 | exact a_addsc | exact a_adds | exact a_sub | exact a_slo | exact a_shi | exact a_slh | exact a_lensl | exact a_lenro | exact a_lennil | exact a_lenpts | exact a_field | exact a_fielde | exact a_fieldr | exact a_idxsl | exact a_load | exact a_loada | exact a_mki | exact a_build2 | exact a_build3 | exact a_build1 | exact a_build0 | exact a_bs1 | exact a_bs2 | exact a_bs3 | exact a_bs4 | exact a_bsa | exact a_boxr) | (apply st_rif rfl; (case hq => first | exact a_lss | exact a_gtr | exact a_eql | exact a_neq | exact a_eqls0 | exact a_neqs0 | exact a_eqls | exact a_neqs | exact a_leq | exact a_geq); all_goals (intro _; try (exfalso; first | omega | contradiction))) | (apply st_rw rfl rfl; case hq => first | exact a_store) | refine tri_true rfl ?_ | refine tri_false rfl ?_ | refine tri_block ?_ | refine tri_skip ?_ | refine tri_ret ?_ | refine tri_exit ?_)
  refine tri_loop_to (fun (x : B × List Nat) => (eights bs).1 = x.1 ++ (eights x.2).1 ∧ (eights bs).2 = (eights x.2).2 ∧ x.1.length + x.2.length ≤ bs.length ∧ ∀ y ∈ x.2, y < 2) (fun x => st [(2, .str []), (3, .int .i64 0), (8, .ro false 1 (intRows x.2)), (13, .str x.1)] []) (fun x => x.2.length) (fun (_ : Unit) => True) (fun _ => st [(2, .str []), (3, .int .i64 0), (8, .ro false 1 (intRows (eights bs).2)), (13, .str (eights bs).1)] []) ([], bs) ⟨rfl, rfl, by simp, hb2⟩ ?hw_6 weak_tri (fun x hx => ?_) (fun _ _ => ?_)
  case hw_6 => exact weak_st ⟨rfl, rfl, rfl, rfl, trivial⟩ trivial
  · obtain ⟨out, x⟩ := x
    change Tri _ _ (st [(2, .str []), (3, .int .i64 0), (8, .ro false 1 (intRows x)), (13, .str out)] []) _
    obtain ⟨hx1, hx2, hx3, hx4⟩ := hx
    simp only at hx1 hx2 hx3 hx4
    have hil := ir_len x
    by_cases h8 : 8 ≤ x.length
    · rw [eights_ge h8] at hx1 hx2
      have hvl := valK_lt hx4
      have htk : (intRows x).take (Int.toNat 8) = intRows (x.take 8) := ir_take x 8
      have hdr : (intRows x).drop (Int.toNat 8) = intRows (x.drop 8) := ir_drop x 8
      have hl8 : (intRows (x.take 8)).length = 8 := by rw [ir_len, List.length_take]; omega
      repeat' (first | refine a_f ?_ | refine st_nil ?_ | refine tri_seq ?_ | refine tri_region rfl ?_ | refine a_draw ?_ | (apply st_r rfl; case hq => first | exact q_slro_hi (by conv => lhs; whnf) (by conv => lhs; whnf) (by first | exact Tryz.underlying22 | exact Tryz.underlying23 | exact Tryz.underlying56 | exact Tryz.underlying74 | exact Tryz.underlying80 | exact Tryz.underlying81 | exact Tryz.underlying157 | exact Tryz.underlying177 | exact Tryz.underlying211) (by kernel_rfl) (by omega) (by omega) htk | exact a_lens | exact a_index | exact a_add | exact a_adds0 | exact a_addsc | exact a_adds | exact a_sub | exact a_slo | exact a_shi | exact a_slh | exact a_lensl | exact a_lenro | exact a_lennil | exact a_lenpts | exact a_field | exact a_fielde | exact a_fieldr | exact a_idxsl | exact a_load | exact a_loada | exact a_mki | exact a_build2 | exact a_build3 | exact a_build1 | exact a_build0 | exact a_bs1 | exact a_bs2 | exact a_bs3 | exact a_bs4 | exact a_bsa | exact a_boxr) | (apply st_rif rfl; (case hq => first | exact a_lss | exact a_gtr | exact a_eql | exact a_neq | exact a_eqls0 | exact a_neqs0 | exact a_eqls | exact a_neqs | exact a_leq | exact a_geq); all_goals (intro _; try (exfalso; first | omega | contradiction))) | (apply st_rw rfl rfl; case hq => first | exact a_store) | refine tri_true rfl ?_ | refine tri_false rfl ?_ | refine tri_block ?_ | refine tri_skip ?_ | refine tri_ret ?_ | refine tri_exit ?_)
      refine tri_loop_to (fun (k : Nat) => k ≤ 8) (fun k => st [(2, .str []), (3, .int .i64 0), (8, .ro false 1 (intRows x)), (13, .str out), (14, .int .i64 (valK x k)), (110, .ro false 1 (intRows (x.take 8))), (111, .int .i64 (intRows (x.take 8)).length), (112, .int .i64 k)] []) (fun k => 8 - k) (fun (_ : Unit) => True) (fun _ => st [(2, .str []), (3, .int .i64 0), (8, .ro false 1 (intRows x)), (13, .str out), (14, .int .i64 (val8 x))] []) 0 (Nat.zero_le _) ?hw_7 weak_tri (fun k hk => ?_) (fun _ _ => ?_)
      case hw_7 => exact weak_st ⟨rfl, rfl, rfl, rfl, rfl, rfl, rfl, rfl, trivial⟩ trivial
      · have hv := hvl k
        have hp : 2 ^ k ≤ 256 := Nat.le_trans (Nat.pow_le_pow_right (by decide) hk) (by decide)
        by_cases hk8 : k < 8
        · have hr : (intRows (x.take 8))[(k : Int).toNat]? = some [.int .i64 (x.getD k 0 : Nat)] := by
            have := ir_at (l := x.take 8) (i := k) (by rw [List.length_take]; omega)
            rw [Int.toNat_natCast, this, List.getD_eq_getElem?_getD, List.getElem?_take, if_pos hk8, ← List.getD_eq_getElem?_getD]
          have hg2 : x.getD k 0 < 2 := by
            rw [List.getD_eq_getElem?_getD, List.getElem?_eq_getElem (by omega)]
            exact hx4 _ (List.getElem_mem _)
          repeat' (first | refine a_f ?_ | refine st_nil ?_ | refine tri_seq ?_ | refine tri_region rfl ?_ | refine a_draw ?_ | (apply st_r rfl; case hq => first | exact q_idxro (by conv => lhs; whnf) (by conv => lhs; whnf) (by first | exact Tryz.underlying22 | exact Tryz.underlying23 | exact Tryz.underlying56 | exact Tryz.underlying74 | exact Tryz.underlying80 | exact Tryz.underlying81 | exact Tryz.underlying157 | exact Tryz.underlying177 | exact Tryz.underlying211) (by kernel_rfl) (by omega) hr | exact q_loadr (by conv => lhs; whnf) (by conv => lhs; whnf) (by show scalB Tryz.prog _ = true; decide +kernel) (fun _ => rfl) | exact q_mul (by conv => lhs; whnf) (by conv => lhs; whnf) (by exact IntWalk.i64_in _ (by omega)) | exact a_lens | exact a_index | exact a_add | exact a_adds0 | exact a_addsc | exact a_adds | exact a_sub | exact a_slo | exact a_shi | exact a_slh | exact a_lensl | exact a_lenro | exact a_lennil | exact a_lenpts | exact a_field | exact a_fielde | exact a_fieldr | exact a_idxsl | exact a_load | exact a_loada | exact a_mki | exact a_build2 | exact a_build3 | exact a_build1 | exact a_build0 | exact a_bs1 | exact a_bs2 | exact a_bs3 | exact a_bs4 | exact a_bsa | exact a_boxr) | (apply st_rif rfl; (case hq => first | exact a_lss | exact a_gtr | exact a_eql | exact a_neq | exact a_eqls0 | exact a_neqs0 | exact a_eqls | exact a_neqs | exact a_leq | exact a_geq); all_goals (intro _; try (exfalso; first | omega | contradiction))) | (apply st_rw rfl rfl; case hq => first | exact a_store) | refine tri_true rfl ?_ | refine tri_false rfl ?_ | refine tri_block ?_ | refine tri_skip ?_ | refine tri_ret ?_ | refine tri_exit ?_)
          refine nextR (k + 1) (by omega) (weak_st ⟨rfl, rfl, rfl, rfl, congrArg (AV.int .i64) ?_, rfl, rfl, rfl, trivial⟩ trivial) (show 8 - (k + 1) < 8 - k by omega)
          rw [valK]; omega
        · have e8 : k = 8 := by omega
          subst e8
          repeat' (first | refine a_f ?_ | refine st_nil ?_ | refine tri_seq ?_ | refine tri_region rfl ?_ | refine a_draw ?_ | (apply st_r rfl; case hq => first | exact a_lens | exact a_index | exact a_add | exact a_adds0 | exact a_addsc | exact a_adds | exact a_sub | exact a_slo | exact a_shi | exact a_slh | exact a_lensl | exact a_lenro | exact a_lennil | exact a_lenpts | exact a_field | exact a_fielde | exact a_fieldr | exact a_idxsl | exact a_load | exact a_loada | exact a_mki | exact a_build2 | exact a_build3 | exact a_build1 | exact a_build0 | exact a_bs1 | exact a_bs2 | exact a_bs3 | exact a_bs4 | exact a_bsa | exact a_boxr) | (apply st_rif rfl; (case hq => first | exact a_lss | exact a_gtr | exact a_eql | exact a_neq | exact a_eqls0 | exact a_neqs0 | exact a_eqls | exact a_neqs | exact a_leq | exact a_geq); all_goals (intro _; try (exfalso; first | omega | contradiction))) | (apply st_rw rfl rfl; case hq => first | exact a_store) | refine tri_true rfl ?_ | refine tri_false rfl ?_ | refine tri_block ?_ | refine tri_skip ?_ | refine tri_ret ?_ | refine tri_exit ?_)
          exact outR () trivial (weak_st ⟨rfl, rfl, rfl, rfl, congrArg (fun (n : Nat) => AV.int .i64 n) (valK8 _), trivial⟩ trivial)
      · have hv8 : val8 x < 256 := by rw [← valK8]; exact hvl 8
        have hrow : [[AV.int .u8 (val8 x : Int)]] = byteRows [UInt8.ofNat (val8 x)] := by
          show _ = [[AV.int .u8 ((UInt8.ofNat (val8 x)).toNat : Int)]]
          rw [ofN hv8]
        repeat' (first | refine a_f ?_ | refine st_nil ?_ | refine tri_seq ?_ | refine tri_region rfl ?_ | refine a_draw ?_ | (apply st_r rfl; case hq => first | exact q_convint (by conv => lhs; whnf) (by kernel_rfl) (by kernel_rfl) (by exact IntWalk.u8_in _ (by omega)) | exact q_bstr [UInt8.ofNat (val8 x)] (by conv => lhs; whnf) hrow (by first | exact Tryz.underlying22 | exact Tryz.underlying23 | exact Tryz.underlying56 | exact Tryz.underlying74 | exact Tryz.underlying80 | exact Tryz.underlying81 | exact Tryz.underlying157 | exact Tryz.underlying177 | exact Tryz.underlying211) Tryz.underlying5 (by kernel_rfl) | exact q_adds (by conv => lhs; whnf) (by conv => lhs; whnf) (by simp only [List.length_cons, List.length_nil]; omega) | exact q_slro_lo (by conv => lhs; whnf) (by conv => lhs; whnf) (by first | exact Tryz.underlying22 | exact Tryz.underlying23 | exact Tryz.underlying56 | exact Tryz.underlying74 | exact Tryz.underlying80 | exact Tryz.underlying81 | exact Tryz.underlying157 | exact Tryz.underlying177 | exact Tryz.underlying211) (by kernel_rfl) (by omega) (by omega) hdr | exact a_lens | exact a_index | exact a_add | exact a_adds0 | exact a_addsc | exact a_adds | exact a_sub | exact a_slo | exact a_shi | exact a_slh | exact a_lensl | exact a_lenro | exact a_lennil | exact a_lenpts | exact a_field | exact a_fielde | exact a_fieldr | exact a_idxsl | exact a_load | exact a_loada | exact a_mki | exact a_build2 | exact a_build3 | exact a_build1 | exact a_build0 | exact a_bs1 | exact a_bs2 | exact a_bs3 | exact a_bs4 | exact a_bsa | exact a_boxr) | (apply st_rif rfl; (case hq => first | exact a_lss | exact a_gtr | exact a_eql | exact a_neq | exact a_eqls0 | exact a_neqs0 | exact a_eqls | exact a_neqs | exact a_leq | exact a_geq); all_goals (intro _; try (exfalso; first | omega | contradiction))) | (apply st_rw rfl rfl; case hq => first | exact a_store) | refine tri_true rfl ?_ | refine tri_false rfl ?_ | refine tri_block ?_ | refine tri_skip ?_ | refine tri_ret ?_ | refine tri_exit ?_)
        exact nextR (out ++ [UInt8.ofNat (val8 x)], x.drop 8) ⟨by simp only; rw [List.append_assoc]; exact hx1, hx2, by simp only [List.length_append, List.length_cons, List.length_nil, List.length_drop]; omega, fun y hy => hx4 y (List.drop_subset _ _ hy)⟩ (weak_st ⟨rfl, rfl, rfl, rfl, trivial⟩ trivial) (by show (x.drop 8).length < x.length; rw [List.length_drop]; omega)
    · rw [eights_lt h8] at hx1 hx2
      repeat' (first | refine a_f ?_ | refine st_nil ?_ | refine tri_seq ?_ | refine tri_region rfl ?_ | refine a_draw ?_ | (apply st_r rfl; case hq => first | exact a_lens | exact a_index | exact a_add | exact a_adds0 | exact a_addsc | exact a_adds | exact a_sub | exact a_slo | exact a_shi | exact a_slh | exact a_lensl | exact a_lenro | exact a_lennil | exact a_lenpts | exact a_field | exact a_fielde | exact a_fieldr | exact a_idxsl | exact a_load | exact a_loada | exact a_mki | exact a_build2 | exact a_build3 | exact a_build1 | exact a_build0 | exact a_bs1 | exact a_bs2 | exact a_bs3 | exact a_bs4 | exact a_bsa | exact a_boxr) | (apply st_rif rfl; (case hq => first | exact a_lss | exact a_gtr | exact a_eql | exact a_neq | exact a_eqls0 | exact a_neqs0 | exact a_eqls | exact a_neqs | exact a_leq | exact a_geq); all_goals (intro _; try (exfalso; first | omega | contradiction))) | (apply st_rw rfl rfl; case hq => first | exact a_store) | refine tri_true rfl ?_ | refine tri_false rfl ?_ | refine tri_block ?_ | refine tri_skip ?_ | refine tri_ret ?_ | refine tri_exit ?_)
      exact outR () trivial (weak_st ⟨rfl, rfl, congrArg (fun r => AV.ro false 1 (intRows r)) hx2.symm, congrArg AV.str (by rw [hx1]; simp), trivial⟩ trivial)
  have hzl := eights_len _ bs (Nat.le_refl _)
  generalize (eights bs).2 = z at hzl ⊢
  generalize (eights bs).1 = o
  have hil := ir_len z
  repeat' (first | refine a_f ?_ | refine st_nil ?_ | refine tri_seq ?_ | refine tri_region rfl ?_ | refine a_draw ?_ | (apply st_r rfl; case hq => first | exact a_lens | exact a_index | exact a_add | exact a_adds0 | exact a_addsc | exact a_adds | exact a_sub | exact a_slo | exact a_shi | exact a_slh | exact a_lensl | exact a_lenro | exact a_lennil | exact a_lenpts | exact a_field | exact a_fielde | exact a_fieldr | exact a_idxsl | exact a_load | exact a_loada | exact a_mki | exact a_build2 | exact a_build3 | exact a_build1 | exact a_build0 | exact a_bs1 | exact a_bs2 | exact a_bs3 | exact a_bs4 | exact a_bsa | exact a_boxr) | (apply st_rif rfl; (case hq => first | exact a_lss | exact a_gtr | exact a_eql | exact a_neq | exact a_eqls0 | exact a_neqs0 | exact a_eqls | exact a_neqs | exact a_leq | exact a_geq); all_goals (intro _; try (exfalso; first | omega | contradiction))) | (apply st_rw rfl rfl; case hq => first | exact a_store) | refine tri_true rfl ?_ | refine tri_false rfl ?_ | refine tri_block ?_ | refine tri_skip ?_ | refine tri_ret ?_ | refine tri_exit ?_)
  refine tri_loop (fun (i : Nat) => i ≤ z.length ∧ ∀ j, j < i → z.getD j 0 = 0) (fun i => st [(2, .str []), (3, .int .i64 0), (13, .str o), (129, .ro false 1 (intRows z)), (130, .int .i64 (intRows z).length), (131, .int .i64 i)] []) (fun i => z.length - i) 0 ⟨Nat.zero_le _, fun j hj => absurd hj (Nat.not_lt_zero j)⟩ ?hw_8 (fun i hi => ?_)
  case hw_8 => exact weak_st ⟨rfl, rfl, rfl, rfl, rfl, rfl, trivial⟩ trivial
  obtain ⟨hi, hz⟩ := hi
  by_cases hil2 : i < z.length
  · have hr : (intRows z)[(i : Int).toNat]? = some [.int .i64 (z.getD i 0 : Nat)] := ir_at hil2
    by_cases h0 : z.getD i 0 = 0
    · repeat' (first | refine a_f ?_ | refine st_nil ?_ | refine tri_seq ?_ | refine tri_region rfl ?_ | refine a_draw ?_ | (apply st_r rfl; case hq => first | exact q_idxro (by conv => lhs; whnf) (by conv => lhs; whnf) (by first | exact Tryz.underlying22 | exact Tryz.underlying23 | exact Tryz.underlying56 | exact Tryz.underlying74 | exact Tryz.underlying80 | exact Tryz.underlying81 | exact Tryz.underlying157 | exact Tryz.underlying177 | exact Tryz.underlying211) (by kernel_rfl) (by omega) hr | exact q_loadr (by conv => lhs; whnf) (by conv => lhs; whnf) (by show scalB Tryz.prog _ = true; decide +kernel) (fun _ => rfl) | exact a_lens | exact a_index | exact a_add | exact a_adds0 | exact a_addsc | exact a_adds | exact a_sub | exact a_slo | exact a_shi | exact a_slh | exact a_lensl | exact a_lenro | exact a_lennil | exact a_lenpts | exact a_field | exact a_fielde | exact a_fieldr | exact a_idxsl | exact a_load | exact a_loada | exact a_mki | exact a_build2 | exact a_build3 | exact a_build1 | exact a_build0 | exact a_bs1 | exact a_bs2 | exact a_bs3 | exact a_bs4 | exact a_bsa | exact a_boxr) | (apply st_rif rfl; (case hq => first | exact a_lss | exact a_gtr | exact a_eql | exact a_neq | exact a_eqls0 | exact a_neqs0 | exact a_eqls | exact a_neqs | exact a_leq | exact a_geq); all_goals (intro _; try (exfalso; first | omega | contradiction))) | (apply st_rw rfl rfl; case hq => first | exact a_store) | refine tri_true rfl ?_ | refine tri_false rfl ?_ | refine tri_block ?_ | refine tri_skip ?_ | refine tri_ret ?_ | refine tri_exit ?_)
      exact nextR (i + 1) ⟨by omega, fun j hj => by
        by_cases e : j = i
        · rw [e]; exact h0
        · exact hz j (by omega)⟩ (weak_st ⟨rfl, rfl, rfl, rfl, rfl, rfl, trivial⟩ trivial) (show z.length - (i + 1) < z.length - i by omega)
    · have hnz := not_zero hil2 h0
      repeat' (first | refine a_f ?_ | refine st_nil ?_ | refine tri_seq ?_ | refine tri_region rfl ?_ | refine a_draw ?_ | (apply st_r rfl; case hq => first | exact q_idxro (by conv => lhs; whnf) (by conv => lhs; whnf) (by first | exact Tryz.underlying22 | exact Tryz.underlying23 | exact Tryz.underlying56 | exact Tryz.underlying74 | exact Tryz.underlying80 | exact Tryz.underlying81 | exact Tryz.underlying157 | exact Tryz.underlying177 | exact Tryz.underlying211) (by kernel_rfl) (by omega) hr | exact q_loadr (by conv => lhs; whnf) (by conv => lhs; whnf) (by show scalB Tryz.prog _ = true; decide +kernel) (fun _ => rfl) | exact a_lens | exact a_index | exact a_add | exact a_adds0 | exact a_addsc | exact a_adds | exact a_sub | exact a_slo | exact a_shi | exact a_slh | exact a_lensl | exact a_lenro | exact a_lennil | exact a_lenpts | exact a_field | exact a_fielde | exact a_fieldr | exact a_idxsl | exact a_load | exact a_loada | exact a_mki | exact a_build2 | exact a_build3 | exact a_build1 | exact a_build0 | exact a_bs1 | exact a_bs2 | exact a_bs3 | exact a_bs4 | exact a_bsa | exact a_boxr) | (apply st_rif rfl; (case hq => first | exact a_lss | exact a_gtr | exact a_eql | exact a_neq | exact a_eqls0 | exact a_neqs0 | exact a_eqls | exact a_neqs | exact a_leq | exact a_geq); all_goals (intro _; try (exfalso; first | omega | contradiction))) | (apply st_rw rfl rfl; case hq => first | exact a_store) | refine tri_true rfl ?_ | refine tri_false rfl ?_ | refine tri_block ?_ | refine tri_skip ?_ | refine tri_ret ?_ | refine tri_exit ?_)
      refine And.intro trivial ?_
      conv => lhs; whnf
      rw [hnz]; rfl
  · have haz := all_zero (l := z) (fun j hj => hz j (by omega))
    repeat' (first | refine a_f ?_ | refine st_nil ?_ | refine tri_seq ?_ | refine tri_region rfl ?_ | refine a_draw ?_ | (apply st_r rfl; case hq => first | exact a_lens | exact a_index | exact a_add | exact a_adds0 | exact a_addsc | exact a_adds | exact a_sub | exact a_slo | exact a_shi | exact a_slh | exact a_lensl | exact a_lenro | exact a_lennil | exact a_lenpts | exact a_field | exact a_fielde | exact a_fieldr | exact a_idxsl | exact a_load | exact a_loada | exact a_mki | exact a_build2 | exact a_build3 | exact a_build1 | exact a_build0 | exact a_bs1 | exact a_bs2 | exact a_bs3 | exact a_bs4 | exact a_bsa | exact a_boxr) | (apply st_rif rfl; (case hq => first | exact a_lss | exact a_gtr | exact a_eql | exact a_neq | exact a_eqls0 | exact a_neqs0 | exact a_eqls | exact a_neqs | exact a_leq | exact a_geq); all_goals (intro _; try (exfalso; first | omega | contradiction))) | (apply st_rw rfl rfl; case hq => first | exact a_store) | refine tri_true rfl ?_ | refine tri_false rfl ?_ | refine tri_block ?_ | refine tri_skip ?_ | refine tri_ret ?_ | refine tri_exit ?_)
    refine And.intro trivial ?_
    conv => lhs; whnf
    rw [haz]; rfl
end Go.Proofs.YtignjjnflcpiiabGreatDoor
