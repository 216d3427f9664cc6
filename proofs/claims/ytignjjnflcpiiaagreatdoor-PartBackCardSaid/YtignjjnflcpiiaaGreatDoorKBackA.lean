import Derived.Test.YtignjjnflcpiiaaGreatDoorKBackP
import Derived.Test.YtignjjnflcpiiaaGreatDoorKVm5
import Derived.Test.YtignjjnflcpiiaaGreatDoorKWrtE
set_option linter.unusedVariables false
set_option linter.unusedSimpArgs false
set_option maxHeartbeats 1000000
namespace Go.Proofs.YtignjjnflcpiiaaGreatDoor
open Go.RowKit
attribute [local irreducible] Tri Steps Qd Wr Weak CPure CEff
set_option maxRecDepth 100000
set_option linter.unusedSectionVars false
theorem tolow_c (s : B) (hs : s.length ≤ 1000000) (ha : ∀ c ∈ s, c.toNat < 128) : CPure gx 39 [.str s] (.str (lowB s)) :=
  cpure_val rfl rfl fun w _ => (Tryz.strings_ToLower_ascii ⟨s.toArray⟩ w (by rw [sizeMk]; omega) (fun j b hj => ha b (List.mem_of_getElem? (show s[j]? = some b by simpa using hj)))).mono fun e w' h => ⟨by rw [← toLower_low]; exact h.1, h.2⟩
abbrev OursC (h : Fs) (b : B) (m : Bool) (ps : List PT) : AV := .rptr false [.ro false 2 (fieldRows h), .str b, .bool m, .pts false ps]
section
variable (l : Fs) (hl : Small l) (hn : ∀ f ∈ l, nameB f.1 = true) (h : Fs) (b : B) (m : Bool) (ps : List PT)
include hl hn
set_option maxHeartbeats 8000000 in
theorem ours_c : CPure gx 38 [.ro false 2 (fieldRows l), OursC h b m ps] (.ro true 2 (fieldRows (oursF m true l))) := by
  refine cpure_of Tryz.func38 rfl (Nat.le_of_ble_eq_true rfl) rfl (fun w hw => ?_)
  have hfl := fr_len l
  have hll := hl.len
  repeat' (first | refine a_f ?_ | refine st_nil ?_ | refine tri_seq ?_ | refine tri_region rfl ?_ | refine a_draw ?_ | (apply st_r rfl; case hq => first | exact a_q) | (apply st_rif rfl; (case hq => first | exact a_i); all_goals (intro _; try (exfalso; first | omega | contradiction))) | (apply st_rw rfl rfl; case hq => first | exact a_store) | refine tri_true rfl ?_ | refine tri_false rfl ?_ | refine tri_block ?_ | refine tri_skip ?_ | refine tri_ret ?_ | refine tri_exit ?_)
  refine tri_loop (fun (i : Nat) => i ≤ l.length) (fun i => st [(0, .ro false 2 (fieldRows l)), (1, OursC h b m ps), (3, .nils), (4, .sl 104), (5, .bool (oursSt m (l.take i) ([], true)).2), (6, .int .i64 i)] [(104, .rows 75 2 (fieldRows (oursSt m (l.take i) ([], true)).1))]) (fun i => l.length - i) 0 (Nat.zero_le _) ?hw (fun i hi => ?_)
  case hw => exact (weak_nil 4 104 75 2 rfl (by decide) rfl rfl).trans (weak_st ⟨rfl, rfl, rfl, rfl, rfl, rfl, trivial⟩ ⟨rfl, trivial⟩)
  by_cases hil : i < l.length
  · obtain ⟨f, hf1, hfm, hfd, hfr⟩ := fr_at hil
    have T1 := tolow_c f.1 (hl.one f hfm).1 (name_ascii (hn f hfm))
    have hol := oursSt_len m (l.take i) [] true
    rw [List.length_take, List.length_nil] at hol
    have hs' := oursSt_take (m := m) (([] : Fs), true) hf1
    rcases hst : oursSt m (l.take i) ([], true) with ⟨out, fi⟩
    rw [hst] at hs' hol
    simp only at hol
    have hfo := fr_len out
    clear hfd hfm hn hl
    change Tri _ _ (st [(0, .ro false 2 (fieldRows l)), (1, OursC h b m ps), (3, .nils), (4, .sl 104), (5, .bool fi), (6, .int .i64 i)] [(104, .rows 75 2 (fieldRows out))]) _
    by_cases h1 : lowB f.1 = ceB
    · rw [show oursSt m [f] (out, fi) = (out, fi) by rw [oursSt, if_pos h1]; rfl] at hs'
      have h1 : lowB f.1 = [99, 111, 110, 116, 101, 110, 116, 45, 116, 114, 97, 110, 115, 102, 101, 114, 45, 101, 110, 99, 111, 100, 105, 110, 103] := h1
      rw [h1] at T1
      repeat' (first | refine a_f ?_ | refine st_nil ?_ | refine tri_seq ?_ | refine tri_region rfl ?_ | refine a_draw ?_ | (apply st_r rfl; case hq => first | exact q_idxro (by conv => lhs; whnf) (by conv => lhs; whnf) (by first | exact Tryz.underlying22 | exact Tryz.underlying23 | exact Tryz.underlying43 | exact Tryz.underlying44 | exact Tryz.underlying51 | exact Tryz.underlying86 | exact Tryz.underlying191 | exact Tryz.underlying209 | exact Tryz.underlying234 | exact Tryz.underlying270 | exact Tryz.underlying281 | exact Tryz.underlying344) (by kernel_rfl) (by omega) hfr | exact q_loadr (by conv => lhs; whnf) (by conv => lhs; whnf) (by show scalB Tryz.prog _ = true; decide +kernel) (fun _ => rfl) | exact q_loadar (n := 2) (by conv => lhs; whnf) (by conv => lhs; whnf) (by first | rfl | exact Nat.le_of_ble_eq_true rfl | exact Nat.succ_pos _ | decide) (by kernel_rfl) (fun _ => rfl) | exact q_loada (n := 2) (by conv => lhs; whnf) (by conv => lhs; whnf; arg 1; whnf) (by conv => lhs; whnf) (by first | rfl | exact Nat.le_of_ble_eq_true rfl | exact Nat.succ_pos _ | decide) (by show aggB Tryz.prog _ _ = true; decide +kernel) | exact q_call T1 (hcf := Tryz.call39) rfl rfl | exact a_q) | (apply st_rif rfl; (case hq => first | exact a_i); all_goals (intro _; try (exfalso; first | omega | contradiction))) | (apply st_rw rfl rfl; case hq => first | exact w_alloc (d := 8) 108 (by exact zFieldE) rfl rfl rfl | exact w_append (id := 104) (by conv => lhs; whnf) (by conv => lhs; whnf; arg 1; whnf) (by conv => lhs; whnf) (by first | exact Tryz.underlying22 | exact Tryz.underlying23 | exact Tryz.underlying43 | exact Tryz.underlying44 | exact Tryz.underlying51 | exact Tryz.underlying86 | exact Tryz.underlying191 | exact Tryz.underlying209 | exact Tryz.underlying234 | exact Tryz.underlying270 | exact Tryz.underlying281 | exact Tryz.underlying344) (by kernel_rfl) (by simp) rfl (by simp only [List.length_cons, List.length_nil]; omega) rfl rfl | exact a_store) | refine tri_true rfl ?_ | refine tri_false rfl ?_ | refine tri_block ?_ | refine tri_skip ?_ | refine tri_ret ?_ | refine tri_exit ?_)
      exact nextR (i + 1) (by omega) (weak_st ⟨rfl, rfl, rfl, rfl, congrArg (fun z : Fs × Bool => AV.bool z.2) hs'.symm, rfl, trivial⟩ ⟨congrArg (fun z : Fs × Bool => some (AObj.rows 75 2 (fieldRows z.1))) hs'.symm, trivial⟩) (show l.length - (i + 1) < l.length - i by omega)
    · by_cases h2 : lowB f.1 = ctB
      · have hs2 : oursSt m (l.take (i + 1)) ([], true) = (out ++ [(f.1, if (fi && m) = true then [] else f.2)], false) := by rw [hs', oursSt, if_neg h1, if_pos h2]; rfl
        clear hs'
        have hs' := hs2
        clear hs2
        have h1 : lowB f.1 ≠ [99, 111, 110, 116, 101, 110, 116, 45, 116, 114, 97, 110, 115, 102, 101, 114, 45, 101, 110, 99, 111, 100, 105, 110, 103] := h1
        have h2 : lowB f.1 = [99, 111, 110, 116, 101, 110, 116, 45, 116, 121, 112, 101] := h2
        generalize lowB f.1 = lf at T1 h1 h2
        have hap : fieldRows out ++ [[.str f.1, .str (if (fi && m) = true then [] else f.2)]] = fieldRows (oursSt m (l.take (i + 1)) ([], true)).1 := by rw [hs']; exact fr_app _ _ _
        clear hst
        cases fi <;> cases m
        all_goals
          repeat' (first | refine a_f ?_ | refine st_nil ?_ | refine tri_seq ?_ | refine tri_region rfl ?_ | refine a_draw ?_ | (apply st_r rfl; case hq => first | exact q_idxro (by conv => lhs; whnf) (by conv => lhs; whnf) (by first | exact Tryz.underlying22 | exact Tryz.underlying23 | exact Tryz.underlying43 | exact Tryz.underlying44 | exact Tryz.underlying51 | exact Tryz.underlying86 | exact Tryz.underlying191 | exact Tryz.underlying209 | exact Tryz.underlying234 | exact Tryz.underlying270 | exact Tryz.underlying281 | exact Tryz.underlying344) (by kernel_rfl) (by omega) hfr | exact q_loadr (by conv => lhs; whnf) (by conv => lhs; whnf) (by show scalB Tryz.prog _ = true; decide +kernel) (fun _ => rfl) | exact q_loadar (n := 2) (by conv => lhs; whnf) (by conv => lhs; whnf) (by first | rfl | exact Nat.le_of_ble_eq_true rfl | exact Nat.succ_pos _ | decide) (by kernel_rfl) (fun _ => rfl) | exact q_loada (n := 2) (by conv => lhs; whnf) (by conv => lhs; whnf; arg 1; whnf) (by conv => lhs; whnf) (by first | rfl | exact Nat.le_of_ble_eq_true rfl | exact Nat.succ_pos _ | decide) (by show aggB Tryz.prog _ _ = true; decide +kernel) | exact q_call T1 (hcf := Tryz.call39) rfl rfl | exact a_q) | (apply st_rif rfl; (case hq => first | exact a_i); all_goals (intro _; try (exfalso; first | omega | contradiction))) | (apply st_rw rfl rfl; case hq => first | exact w_alloc (d := 8) 108 (by exact zFieldE) rfl rfl rfl | exact w_append (id := 104) (by conv => lhs; whnf) (by conv => lhs; whnf; arg 1; whnf) (by conv => lhs; whnf) (by first | exact Tryz.underlying22 | exact Tryz.underlying23 | exact Tryz.underlying43 | exact Tryz.underlying44 | exact Tryz.underlying51 | exact Tryz.underlying86 | exact Tryz.underlying191 | exact Tryz.underlying209 | exact Tryz.underlying234 | exact Tryz.underlying270 | exact Tryz.underlying281 | exact Tryz.underlying344) (by kernel_rfl) (by simp) rfl (by simp only [List.length_cons, List.length_nil]; omega) rfl rfl | exact a_store) | refine tri_true rfl ?_ | refine tri_false rfl ?_ | refine tri_block ?_ | refine tri_skip ?_ | refine tri_ret ?_ | refine tri_exit ?_)
          exact nextR (i + 1) (by omega) (weak_st ⟨rfl, rfl, rfl, rfl, congrArg (fun z : Fs × Bool => AV.bool z.2) hs'.symm, rfl, trivial⟩ ⟨congrArg (fun r => some (AObj.rows 75 2 r)) hap, trivial⟩) (show l.length - (i + 1) < l.length - i by omega)
      · have hs2 : oursSt m (l.take (i + 1)) ([], true) = (out ++ [f], fi) := by rw [hs', oursSt, if_neg h1, if_neg h2]; rfl
        clear hs'
        have hs' := hs2
        clear hs2
        have h1 : lowB f.1 ≠ [99, 111, 110, 116, 101, 110, 116, 45, 116, 114, 97, 110, 115, 102, 101, 114, 45, 101, 110, 99, 111, 100, 105, 110, 103] := h1
        have h2 : lowB f.1 ≠ [99, 111, 110, 116, 101, 110, 116, 45, 116, 121, 112, 101] := h2
        generalize lowB f.1 = lf at T1 h1 h2
        have hap : fieldRows out ++ [[.str f.1, .str f.2]] = fieldRows (oursSt m (l.take (i + 1)) ([], true)).1 := by rw [hs']; exact fr_app _ _ _
        clear hst
        cases fi
        all_goals
          repeat' (first | refine a_f ?_ | refine st_nil ?_ | refine tri_seq ?_ | refine tri_region rfl ?_ | refine a_draw ?_ | (apply st_r rfl; case hq => first | exact q_idxro (by conv => lhs; whnf) (by conv => lhs; whnf) (by first | exact Tryz.underlying22 | exact Tryz.underlying23 | exact Tryz.underlying43 | exact Tryz.underlying44 | exact Tryz.underlying51 | exact Tryz.underlying86 | exact Tryz.underlying191 | exact Tryz.underlying209 | exact Tryz.underlying234 | exact Tryz.underlying270 | exact Tryz.underlying281 | exact Tryz.underlying344) (by kernel_rfl) (by omega) hfr | exact q_loadr (by conv => lhs; whnf) (by conv => lhs; whnf) (by show scalB Tryz.prog _ = true; decide +kernel) (fun _ => rfl) | exact q_loadar (n := 2) (by conv => lhs; whnf) (by conv => lhs; whnf) (by first | rfl | exact Nat.le_of_ble_eq_true rfl | exact Nat.succ_pos _ | decide) (by kernel_rfl) (fun _ => rfl) | exact q_loada (n := 2) (by conv => lhs; whnf) (by conv => lhs; whnf; arg 1; whnf) (by conv => lhs; whnf) (by first | rfl | exact Nat.le_of_ble_eq_true rfl | exact Nat.succ_pos _ | decide) (by show aggB Tryz.prog _ _ = true; decide +kernel) | exact q_call T1 (hcf := Tryz.call39) rfl rfl | exact a_q) | (apply st_rif rfl; (case hq => first | exact a_i); all_goals (intro _; try (exfalso; first | omega | contradiction))) | (apply st_rw rfl rfl; case hq => first | exact w_alloc (d := 8) 108 (by exact zFieldE) rfl rfl rfl | exact w_append (id := 104) (by conv => lhs; whnf) (by conv => lhs; whnf; arg 1; whnf) (by conv => lhs; whnf) (by first | exact Tryz.underlying22 | exact Tryz.underlying23 | exact Tryz.underlying43 | exact Tryz.underlying44 | exact Tryz.underlying51 | exact Tryz.underlying86 | exact Tryz.underlying191 | exact Tryz.underlying209 | exact Tryz.underlying234 | exact Tryz.underlying270 | exact Tryz.underlying281 | exact Tryz.underlying344) (by kernel_rfl) (by simp) rfl (by simp only [List.length_cons, List.length_nil]; omega) rfl rfl | exact a_store) | refine tri_true rfl ?_ | refine tri_false rfl ?_ | refine tri_block ?_ | refine tri_skip ?_ | refine tri_ret ?_ | refine tri_exit ?_)
          exact nextR (i + 1) (by omega) (weak_st ⟨rfl, rfl, rfl, rfl, congrArg (fun z : Fs × Bool => AV.bool z.2) hs'.symm, rfl, trivial⟩ ⟨congrArg (fun r => some (AObj.rows 75 2 r)) hap, trivial⟩) (show l.length - (i + 1) < l.length - i by omega)
  · rw [List.take_of_length_le (by omega)]
    repeat' (first | refine a_f ?_ | refine st_nil ?_ | refine tri_seq ?_ | refine tri_region rfl ?_ | refine a_draw ?_ | (apply st_r rfl; case hq => first | exact a_q) | (apply st_rif rfl; (case hq => first | exact a_i); all_goals (intro _; try (exfalso; first | omega | contradiction))) | (apply st_rw rfl rfl; case hq => first | exact a_store) | refine tri_true rfl ?_ | refine tri_false rfl ?_ | refine tri_block ?_ | refine tri_skip ?_ | refine tri_ret ?_ | refine tri_exit ?_)
    refine And.intro trivial ?_
    conv => lhs; whnf
    rw [oursSt_eq]
    rfl
end
abbrev LikeS (h h' : Fs) (b : B) (m : Bool) (ps ps' : List PT) : List (Nat × AObj) := [(102, .box [.ro false 2 (fieldRows h), .str b, .bool m, .pts false ps]), (103, .box [.ro false 2 (fieldRows h'), .str b, .bool m, .pts false ps'])]
theorem oursF_len (m : Bool) (l : Fs) : (oursF m true l).length ≤ l.length := by
  have h1 := oursSt_len m l [] true
  rw [oursSt_eq, List.nil_append, List.length_nil] at h1
  omega
set_option maxHeartbeats 16000000 in
theorem likes_mk (h h' : Fs) (b : B) (m : Bool) (ps ps' : List PT) (hl : Small h) (hn : ∀ f ∈ h, nameB f.1 = true) (hl' : Small h') (hn' : ∀ f ∈ h', nameB f.1 = true) (h2 : ps.length ≤ 1000000) (hlen : ps.length = ps'.length)
    (ho : oursF m true h = oursF m true h') (IH : ∀ (i : Nat) (hi : i < ps.length) (hi' : i < ps'.length), CPure gx 17 [.agg (ptCells false ps[i]), .agg (ptCells false ps'[i])] (.bool true)) :
    CPure gx 17 [.agg [.ro false 2 (fieldRows h), .str b, .bool m, .pts false ps], .agg [.ro false 2 (fieldRows h'), .str b, .bool m, .pts false ps']] (.bool true) := by
  refine cpure_of Tryz.func17 rfl (Nat.le_of_ble_eq_true rfl) rfl (fun w hw => ?_)
  have O1 := ours_c h hl hn h b m ps
  have O2 := ours_c h' hl' hn' h b m ps
  have hol := oursF_len m h
  have hll := hl.len
  rw [← ho] at O2
  clear ho
  generalize oursF m true h = ou at O1 O2 hol
  have hfo := fr_len ou
  repeat' (first | refine a_f ?_ | refine st_nil ?_ | refine tri_seq ?_ | refine tri_region rfl ?_ | refine a_draw ?_ | (apply st_r rfl; case hq => first | exact q_mkfunc rfl | exact q_callclo (by conv => lhs; whnf) O1 Tryz.call38 rfl rfl | exact q_callclo (by conv => lhs; whnf) O2 Tryz.call38 rfl rfl | exact q_lenpts (fr := false) (l := ps) (by rfl) Tryz.underlying23 | exact q_lenpts (fr := false) (l := ps') (by rfl) Tryz.underlying23 | exact q_ness (by conv => lhs; whnf) (by rfl) | exact q_nebs (by conv => lhs; whnf) (by rfl) (by kernel_rfl) | exact q_neis (by conv => lhs; whnf) (by rfl) | exact q_neie (by conv => lhs; whnf) (by conv => lhs; whnf) (by omega) | exact a_q) | (apply st_rif rfl; (case hq => first | exact a_i); all_goals (intro _; try (exfalso; first | omega | contradiction))) | (apply st_rw rfl rfl; case hq => first | exact w_box (d := 2) 102 (by conv => lhs; whnf) rfl (by conv => lhs; whnf) rfl rfl rfl | exact w_box (d := 3) 103 (by conv => lhs; whnf) rfl (by conv => lhs; whnf) rfl rfl rfl | exact a_store) | refine tri_true rfl ?_ | refine tri_false rfl ?_ | refine tri_block ?_ | refine tri_skip ?_ | refine tri_ret ?_ | refine tri_exit ?_)
  refine tri_loop (fun (i : Nat) => i ≤ ou.length) (fun i => st [(2, .ptr 102 0), (3, .ptr 103 0), (4, .bool false), (6, .ro true 2 (fieldRows ou)), (7, .ro true 2 (fieldRows ou)), (8, .int .i64 i)] (LikeS h h' b m ps ps')) (fun i => ou.length - i) 0 (Nat.zero_le _) ?hw (fun i hi => ?_)
  case hw => exact weak_st ⟨rfl, rfl, rfl, rfl, rfl, rfl, trivial⟩ ⟨rfl, rfl, trivial⟩
  by_cases hil : i < ou.length
  · obtain ⟨f, hf1, hfm, hfd, hfr⟩ := fr_at hil
    repeat' (first | refine a_f ?_ | refine st_nil ?_ | refine tri_seq ?_ | refine tri_region rfl ?_ | refine a_draw ?_ | (apply st_r rfl; case hq => first | exact q_idxro (by conv => lhs; whnf) (by conv => lhs; whnf) (by first | exact Tryz.underlying22 | exact Tryz.underlying23 | exact Tryz.underlying43 | exact Tryz.underlying44 | exact Tryz.underlying51 | exact Tryz.underlying86 | exact Tryz.underlying191 | exact Tryz.underlying209 | exact Tryz.underlying234 | exact Tryz.underlying270 | exact Tryz.underlying281 | exact Tryz.underlying344) (by kernel_rfl) (by omega) hfr | exact q_loadar (n := 2) (by conv => lhs; whnf) (by conv => lhs; whnf) (by first | rfl | exact Nat.le_of_ble_eq_true rfl | exact Nat.succ_pos _ | decide) (by kernel_rfl) (fun _ => rfl) | exact a_q) | (apply st_rif rfl; (case hq => first | exact q_nestr (dp := inferInstance) (bs := [true, true]) rfl rfl (by kernel_rfl) rfl rfl (ne_fields (f := f) (g := f)) | exact a_i); all_goals (intro _; try (exfalso; first | omega | contradiction))) | (apply st_rw rfl rfl; case hq => first | exact a_store) | refine tri_true rfl ?_ | refine tri_false rfl ?_ | refine tri_block ?_ | refine tri_skip ?_ | refine tri_ret ?_ | refine tri_exit ?_)
    exact nextR (i + 1) (by omega) (weak_st ⟨rfl, rfl, rfl, rfl, rfl, rfl, trivial⟩ ⟨rfl, rfl, trivial⟩) (show ou.length - (i + 1) < ou.length - i by omega)
  · repeat' (first | refine a_f ?_ | refine st_nil ?_ | refine tri_seq ?_ | refine tri_region rfl ?_ | refine a_draw ?_ | (apply st_r rfl; case hq => first | exact a_q) | (apply st_rif rfl; (case hq => first | exact a_i); all_goals (intro _; try (exfalso; first | omega | contradiction))) | (apply st_rw rfl rfl; case hq => first | exact a_store) | refine tri_true rfl ?_ | refine tri_false rfl ?_ | refine tri_block ?_ | refine tri_skip ?_ | refine tri_ret ?_ | refine tri_exit ?_)
    refine tri_loop (fun (i : Nat) => i ≤ ps.length) (fun i => st [(2, .ptr 102 0), (3, .ptr 103 0), (4, .bool false), (9, .int .i64 i)] (LikeS h h' b m ps ps')) (fun i => ps.length - i) 0 (Nat.zero_le _) ?hw2 (fun i hi => ?_)
    case hw2 => exact weak_st ⟨rfl, rfl, rfl, rfl, trivial⟩ ⟨rfl, rfl, trivial⟩
    by_cases hil : i < ps.length
    · have hil' : i < ps'.length := by omega
      have hq1 : ps[(i : Int).toNat]? = some ps[i] := by rw [Int.toNat_natCast]; exact List.getElem?_eq_getElem hil
      have hq2 : ps'[(i : Int).toNat]? = some ps'[i] := by rw [Int.toNat_natCast]; exact List.getElem?_eq_getElem hil'
      have S1 := IH i hil hil'
      generalize ps[i] = q at hq1 S1
      generalize ps'[i] = r at hq2 S1
      obtain ⟨qh, qb, qm, qp⟩ := q
      obtain ⟨rh, rb, rm, rp⟩ := r
      have S1 : CPure gx 17 [.agg [.ro false 2 (fieldRows qh), .str qb, .bool qm, .pts false qp], .agg [.ro false 2 (fieldRows rh), .str rb, .bool rm, .pts false rp]] (.bool true) := S1
      clear IH O1 O2
      repeat' (first | refine a_f ?_ | refine st_nil ?_ | refine tri_seq ?_ | refine tri_region rfl ?_ | refine a_draw ?_ | (apply st_r rfl; case hq => first | exact q_lenpts (fr := false) (l := ps) (by rfl) Tryz.underlying23 | exact q_idxpts (fr := false) (l := ps) (p := .mk qh qb qm qp) (by rfl) (by conv => lhs; whnf) Tryz.underlying23 (by kernel_rfl) (by omega) hq1 | exact q_idxpts (fr := false) (l := ps') (p := .mk rh rb rm rp) (by rfl) (by conv => lhs; whnf) Tryz.underlying23 (by kernel_rfl) (by omega) hq2 | exact q_loadar (n := 4) (by conv => lhs; whnf) (by conv => lhs; whnf) (by first | rfl | exact Nat.le_of_ble_eq_true rfl | exact Nat.succ_pos _ | decide) (by kernel_rfl) (fun _ => rfl) | exact q_call S1 (hcf := Tryz.call17) rfl rfl | exact a_q) | (apply st_rif rfl; (case hq => first | exact a_i); all_goals (intro _; try (exfalso; first | omega | contradiction))) | (apply st_rw rfl rfl; case hq => first | exact a_store) | refine tri_true rfl ?_ | refine tri_false rfl ?_ | refine tri_block ?_ | refine tri_skip ?_ | refine tri_ret ?_ | refine tri_exit ?_)
      exact nextR (i + 1) (by omega) (weak_st ⟨rfl, rfl, rfl, rfl, trivial⟩ ⟨rfl, rfl, trivial⟩) (show ps.length - (i + 1) < ps.length - i by omega)
    · repeat' (first | refine a_f ?_ | refine st_nil ?_ | refine tri_seq ?_ | refine tri_region rfl ?_ | refine a_draw ?_ | (apply st_r rfl; case hq => first | exact q_lenpts (fr := false) (l := ps) (by rfl) Tryz.underlying23 | exact a_q) | (apply st_rif rfl; (case hq => first | exact a_i); all_goals (intro _; try (exfalso; first | omega | contradiction))) | (apply st_rw rfl rfl; case hq => first | exact a_store) | refine tri_true rfl ?_ | refine tri_false rfl ?_ | refine tri_block ?_ | refine tri_skip ?_ | refine tri_ret ?_ | refine tri_exit ?_)
      refine And.intro trivial ?_
      conv => lhs; whnf
      try rfl
theorem likes_c : ∀ (d : Nat) (p r : PT), NmD d p → NmD d r → likesB p r = true → CPure gx 17 [.agg (ptCells false p), .agg (ptCells false r)] (.bool true)
  | 0, _, _, h, _, _ => h.elim
  | d + 1, .mk h b m ps, .mk h' b' m' ps', hp, hr, hk => by
    obtain ⟨rfl, rfl, h3, h4, h5⟩ := likes_inv hk
    exact likes_mk h h' b m ps ps' hp.1 hp.2.1 hr.1 hr.2.1 hp.2.2.2.1 h3 h4 (fun i hi hi' => likes_c d _ _ (hp.2.2.2.2 _ (List.getElem_mem hi)) (hr.2.2.2.2 _ (List.getElem_mem hi')) (likesL_at i hi hi' h5))
end Go.Proofs.YtignjjnflcpiiaaGreatDoor
