import Derived.Test.YtignjjnflcpiiabGreatDoorZQu
import Derived.Test.YtignjjnflcpiiabGreatDoorZPackU
import Derived.Test.YtignjjnflcpiiabGreatDoorZHeadB
import Derived.Test.YtignjjnflcpiiabGreatDoorZSm
import Derived.Test.YtignjjnflcpiiabGreatDoorZVm4
set_option linter.unusedVariables false
set_option linter.unusedSimpArgs false
set_option maxHeartbeats 1000000
namespace Go.Proofs.YtignjjnflcpiiabGreatDoor
open Go.RowKit
attribute [local irreducible] Tri Steps Qd Wr Weak CPure CEff
set_option maxRecDepth 100000
theorem hexOf_c (c : UInt8) (hc : ((c.toNat : Nat) : Int) ≤ 126) : CPure gx 38 [.int .u8 c.toNat] (.int .i64 (digit c)) :=
  cpure_val rfl rfl fun w _ => hexOf_any c w (by omega)
def unAV : Option B → AV
  | some x => .tup [.str x, .nili]
  | none => .tup [.str [], .iface 26 (.int .i64 3)]
theorem resT_rep {w : World} {N : Nat} {M : Nat → Prop} {γ : Nat → Value} (o : Option B) : Rep w N M γ (unAV o) (resT o) := by
  cases o with
  | some x => exact .tup _ _ [_, _] rfl (fun i hi hx => by
      match i, hi with
      | 0, _ => exact .str _ _
      | 1, _ => exact .nili _)
  | none => exact .tup _ _ [_, _] rfl (fun i hi hx => by
      match i, hi with
      | 0, _ => exact .str _ []
      | 1, _ => exact .iface _ _ _ _ (.int _ _ _))
theorem unpack_c (s : B) (hs : s.length ≤ 1000000) : CPure gx 50 [.str s] (unAV (unpack s)) :=
  cpure_lib rfl fun w _ _ => (unpack_any ⟨s.toArray⟩ w (by rw [sizeMk]; omega)).mono fun e w' h => ⟨_, h.1, h.2, resT_rep _⟩
theorem unquote_c (s : B) (hs : s.length ≤ 1000000) : CPure gx 51 [.str s] (unAV (unquote s)) :=
  cpure_lib rfl fun w hG _ => let ⟨m, hm⟩ := hG.maxLen; (unquote_any ⟨s.toArray⟩ m w (by rw [sizeMk]; omega) hm).mono fun e w' h => ⟨_, h.1, h.2, resT_rep _⟩
theorem trimR_rt (s : B) : trimR s = (s.reverse.dropWhile blk).reverse := by
  unfold trimR Lib.trimRightS
  congr 2
  funext c
  rw [blk, Bool.eq_iff_iff]; simp
theorem digit_le : ∀ c : UInt8, digit c ≤ 15 := fun c => by
  have h : ∀ n : Fin 256, digit (UInt8.ofNat n.val) ≤ 15 := by decide +kernel
  have := h ⟨c.toNat, c.toNat_lt⟩
  simpa using this
theorem getLast_D {y : B} (h : y ≠ []) : y.getLast? = some (y.getD (y.length - 1) 0) := by
  have hp := List.length_pos_iff.2 h
  rw [List.getLast?_eq_getElem?, List.getD_eq_getElem?_getD, List.getElem?_eq_getElem (by omega)]
  rfl
theorem soft_y {l : B} (h : trimR l ≠ []) : softOf l = decide (((trimR l).getD (((trimR l).length : Int) - 1).toNat 0).toNat = (61 : Int)) := by
  unfold softOf
  have hp := List.length_pos_iff.2 h
  rw [getLast_D h, show (((trimR l).length : Int) - 1).toNat = (trimR l).length - 1 by omega]
  generalize (trimR l).getD ((trimR l).length - 1) 0 = c
  rw [Bool.eq_iff_iff, decide_eq_true_eq, ← eq61]
  simp
theorem dropLast_take (y : B) : y.dropLast = y.take ((y.length : Int) - 1).toNat := by
  rw [List.dropLast_eq_take]
  congr 1
  omega
theorem dec_nil : dec [] = some [] := rfl
theorem dec_hex3R {x : B} (h : 3 ≤ x.length) (h0 : x.getD (Int.toNat 0) 0 = 61) (h1 : 0 ≤ digit (x.getD (Int.toNat 1) 0)) (h2 : 0 ≤ digit (x.getD (Int.toNat 2) 0)) : dec x = (dec (x.drop 3)).map (UInt8.ofNat ((digit (x.getD (Int.toNat 1) 0)).toNat * 16 + (digit (x.getD (Int.toNat 2) 0)).toNat) :: ·) := by
  match x, h with
  | c :: d :: e :: r, _ =>
    have h0 : c = 61 := h0
    have h1 : 0 ≤ digit d := h1
    have h2 : 0 ≤ digit e := h2
    rw [dec, if_pos ⟨h0, h1, h2⟩]
    rfl
theorem lit61R : isLit 61 = false := by decide
theorem dec_bad61 {x : B} (h : x ≠ []) (h0 : x.getD (Int.toNat 0) 0 = 61) (hb : x.length < 3 ∨ digit (x.getD (Int.toNat 1) 0) < 0 ∨ digit (x.getD (Int.toNat 2) 0) < 0) : dec x = none := by
  match x, h with
  | [c], _ =>
    have h0 : c = 61 := h0
    rw [dec, h0, lit61R]; rfl
  | [c, d], _ =>
    have h0 : c = 61 := h0
    rw [dec, h0, lit61R]; rfl
  | c :: d :: e :: r, _ =>
    have h0 : c = 61 := h0
    have hb : digit d < 0 ∨ digit e < 0 := hb.resolve_left (by simp)
    rw [dec, if_neg (fun h => by omega), h0, lit61R]; rfl
theorem dec_lit1 {x : B} (h : x ≠ []) (hl : isLit (x.getD (Int.toNat 0) 0) = true) : dec x = (dec (x.drop 1)).map (x.getD (Int.toNat 0) 0 :: ·) := by
  cases x with
  | nil => exact absurd rfl h
  | cons c r => exact dec_lit c r hl
theorem dec_badR {x : B} (h : x ≠ []) (h0 : x.getD (Int.toNat 0) 0 ≠ 61) (hl : isLit (x.getD (Int.toNat 0) 0) = false) : dec x = none := by
  match x, h with
  | [c], _ =>
    have hl : isLit c = false := hl
    rw [dec, hl]; rfl
  | [c, d], _ =>
    have hl : isLit c = false := hl
    rw [dec, hl]; rfl
  | c :: d :: e :: r, _ =>
    have hl : isLit c = false := hl
    rw [dec, if_neg (fun h => h0 h.1), hl]; rfl
theorem isLit_iff (c : UInt8) : isLit c = true ↔ ((33 : Int) ≤ (c.toNat : Int) ∧ (c.toNat : Int) ≤ 126) ∧ c ≠ 61 ∨ (c.toNat : Int) = 32 ∨ (c.toNat : Int) = 9 := by
  have h : ∀ n : Fin 256, isLit (UInt8.ofNat n.val) = decide (((33 : Int) ≤ (n.val : Int) ∧ (n.val : Int) ≤ 126) ∧ UInt8.ofNat n.val ≠ 61 ∨ (n.val : Int) = 32 ∨ (n.val : Int) = 9) := by decide +kernel
  have := h ⟨c.toNat, c.toNat_lt⟩
  simp only [UInt8.ofNat_toNat] at this
  rw [this, decide_eq_true_eq]
theorem dig_big {c : UInt8} (h : (126 : Int) < (c.toNat : Int)) : digit c < 0 := by
  have := digit_big ⟨c.toNat, c.toNat_lt⟩ (by show 126 < c.toNat; omega)
  simp only [UInt8.ofNat_toNat] at this
  omega
theorem unq_cons (l : B) (rest : List B) : unqLines (l :: rest) = (dec (bodyOf l)).bind fun x => (unqLines rest).map fun y => x ++ (if !softOf l && !rest.isEmpty then crlf else []) ++ y := rfl
structure UInv (s : B) (x : Nat × B) : Prop where
  le : x.1 ≤ (splitC s).length
  go : (unqLines ((splitC s).drop x.1)).map (x.2 ++ ·) = unquote s
  num : x.2.length + (((splitC s).drop x.1).map List.length).sum + 2 * ((splitC s).length - x.1) ≤ s.length + 2
set_option maxHeartbeats 8000000 in
theorem runq_c (s : B) (hs : s.length ≤ 1000000) : CPure gx 18 [.str s] (ruAV (unquote s)) := by
  refine cpure_of Tryz.func18 rfl (Nat.le_of_ble_eq_true rfl) rfl (fun w hw => ?_)
  have S1 := split_c s (by omega)
  have hsum := splitC_sum s
  have hsl := sr_len (splitC s)
  have hne := List.length_pos_iff.2 (splitC_ne s)
  have hI0 : UInv s (0, []) := ⟨Nat.zero_le _, by simp only [List.drop_zero]; cases h : unqLines (splitC s) <;> simp [unquote, h], by simp only [List.drop_zero, List.length_nil]; omega⟩
  repeat' (first | refine a_f ?_ | refine st_nil ?_ | refine tri_seq ?_ | refine tri_region rfl ?_ | refine a_draw ?_ | (apply st_r rfl; case hq => first | exact q_call S1 (hcf := Tryz.call37) rfl rfl | exact a_lens | exact a_index | exact a_add | exact a_adds0 | exact a_addsc | exact a_adds | exact a_sub | exact a_slo | exact a_shi | exact a_slh | exact a_lensl | exact a_lenro | exact a_lennil | exact a_lenpts | exact a_field | exact a_fielde | exact a_fieldr | exact a_idxsl | exact a_load | exact a_loada | exact a_mki | exact a_build2 | exact a_build3 | exact a_build1 | exact a_build0 | exact a_bs1 | exact a_bs2 | exact a_bs3 | exact a_bs4 | exact a_bsa | exact a_boxr) | (apply st_rif rfl; (case hq => first | exact a_lss | exact a_gtr | exact a_eql | exact a_neq | exact a_eqls0 | exact a_neqs0 | exact a_eqls | exact a_neqs | exact a_leq | exact a_geq); all_goals (intro _; try (exfalso; first | omega | contradiction))) | (apply st_rw rfl rfl; case hq => first | exact a_store) | refine tri_true rfl ?_ | refine tri_false rfl ?_ | refine tri_block ?_ | refine tri_skip ?_ | refine tri_ret ?_ | refine tri_exit ?_)
  refine tri_loop (UInv s) (fun x => st [(2, .str []), (3, .int .i64 0), (4, .ro true 1 (strRows (splitC s))), (5, .str x.2), (12, .ro true 1 (strRows (splitC s))), (13, .int .i64 (strRows (splitC s)).length), (14, .int .i64 x.1)] []) (fun x => (splitC s).length - x.1) (0, []) hI0 ?hw_1 (fun x hx => ?_)
  case hw_1 => exact weak_st ⟨rfl, rfl, rfl, rfl, rfl, rfl, rfl, trivial⟩ trivial
  clear hI0 S1
  obtain ⟨i, out⟩ := x
  change Tri _ _ (st [(2, .str []), (3, .int .i64 0), (4, .ro true 1 (strRows (splitC s))), (5, .str out), (12, .ro true 1 (strRows (splitC s))), (13, .int .i64 (strRows (splitC s)).length), (14, .int .i64 i)] []) _
  obtain ⟨hi, hgo, hnum⟩ := hx
  simp only at hi hgo hnum
  rw [← hgo]
  have hnext : ∀ (j : Nat) (o : B), j ≤ (splitC s).length → (unqLines ((splitC s).drop j)).map (o ++ ·) = (unqLines ((splitC s).drop i)).map (out ++ ·) → o.length + (((splitC s).drop j).map List.length).sum + 2 * ((splitC s).length - j) ≤ s.length + 2 → UInv s (j, o) := fun j o h1 h2 h3 => ⟨h1, h2.trans hgo, h3⟩
  clear hgo
  generalize splitC s = ls at *
  by_cases hil : i < ls.length
  case neg =>
    rw [List.drop_eq_nil_of_le (by omega)]
    repeat' (first | refine a_f ?_ | refine st_nil ?_ | refine tri_seq ?_ | refine tri_region rfl ?_ | refine a_draw ?_ | (apply st_r rfl; case hq => first | exact a_lens | exact a_index | exact a_add | exact a_adds0 | exact a_addsc | exact a_adds | exact a_sub | exact a_slo | exact a_shi | exact a_slh | exact a_lensl | exact a_lenro | exact a_lennil | exact a_lenpts | exact a_field | exact a_fielde | exact a_fieldr | exact a_idxsl | exact a_load | exact a_loada | exact a_mki | exact a_build2 | exact a_build3 | exact a_build1 | exact a_build0 | exact a_bs1 | exact a_bs2 | exact a_bs3 | exact a_bs4 | exact a_bsa | exact a_boxr) | (apply st_rif rfl; (case hq => first | exact a_lss | exact a_gtr | exact a_eql | exact a_neq | exact a_eqls0 | exact a_neqs0 | exact a_eqls | exact a_neqs | exact a_leq | exact a_geq); all_goals (intro _; try (exfalso; first | omega | contradiction))) | (apply st_rw rfl rfl; case hq => first | exact a_store) | refine tri_true rfl ?_ | refine tri_false rfl ?_ | refine tri_block ?_ | refine tri_skip ?_ | refine tri_ret ?_ | refine tri_exit ?_)
    refine And.intro trivial ?_
    conv => lhs; whnf
    show _ = ruAV (some (out ++ []))
    rw [List.append_nil]; rfl
  obtain ⟨x, hx1, hxm, hxd, hxr⟩ := sr_at hil
  rw [hxd, unq_cons] at hnext ⊢
  rw [hxd] at hnum
  simp only [List.map_cons, List.sum_cons] at hnum
  have htr := trimR_rt x
  have htl : (trimR x).length ≤ x.length := by
    rw [htr, List.length_reverse]
    exact Nat.le_trans (List.dropWhile_sublist _).length_le (by simp)
  repeat' (first | refine a_f ?_ | refine st_nil ?_ | refine tri_seq ?_ | refine tri_region rfl ?_ | refine a_draw ?_ | (apply st_r rfl; case hq => first | exact q_idxro (by conv => lhs; whnf) (by conv => lhs; whnf) (by first | exact Tryz.underlying22 | exact Tryz.underlying23 | exact Tryz.underlying56 | exact Tryz.underlying74 | exact Tryz.underlying80 | exact Tryz.underlying81 | exact Tryz.underlying157 | exact Tryz.underlying177 | exact Tryz.underlying211) (by kernel_rfl) (by omega) hxr | exact q_loadr (by conv => lhs; whnf) (by conv => lhs; whnf) (by show scalB Tryz.prog _ = true; decide +kernel) (fun _ => rfl) | exact a_lens | exact a_index | exact a_add | exact a_adds0 | exact a_addsc | exact a_adds | exact a_sub | exact a_slo | exact a_shi | exact a_slh | exact a_lensl | exact a_lenro | exact a_lennil | exact a_lenpts | exact a_field | exact a_fielde | exact a_fieldr | exact a_idxsl | exact a_load | exact a_loada | exact a_mki | exact a_build2 | exact a_build3 | exact a_build1 | exact a_build0 | exact a_bs1 | exact a_bs2 | exact a_bs3 | exact a_bs4 | exact a_bsa | exact a_boxr) | (apply st_rif rfl; (case hq => first | exact a_lss | exact a_gtr | exact a_eql | exact a_neq | exact a_eqls0 | exact a_neqs0 | exact a_eqls | exact a_neqs | exact a_leq | exact a_geq); all_goals (intro _; try (exfalso; first | omega | contradiction))) | (apply st_rw rfl rfl; case hq => first | exact a_store) | refine tri_true rfl ?_ | refine tri_false rfl ?_ | refine tri_block ?_ | refine tri_skip ?_ | refine tri_ret ?_ | refine tri_exit ?_)
  refine tri_loop_to (fun (y : B) => (y.reverse.dropWhile blk).reverse = trimR x ∧ y.length ≤ x.length) (fun y => st [(2, .str []), (3, .int .i64 0), (4, .ro true 1 (strRows ls)), (5, .str out), (6, .int .i64 i), (7, .str y), (12, .ro true 1 (strRows ls)), (13, .int .i64 (strRows ls).length), (14, .int .i64 i)] []) (fun y => y.length) (fun (_ : Unit) => True) (fun _ => st [(2, .str []), (3, .int .i64 0), (4, .ro true 1 (strRows ls)), (5, .str out), (6, .int .i64 i), (7, .str (trimR x)), (12, .ro true 1 (strRows ls)), (13, .int .i64 (strRows ls).length), (14, .int .i64 i)] []) x ⟨htr.symm, Nat.le_refl _⟩ ?hw_2 weak_tri (fun y hy => ?_) (fun _ _ => ?_)
  case hw_2 => exact weak_st ⟨rfl, rfl, rfl, rfl, rfl, rfl, rfl, rfl, rfl, trivial⟩ trivial
  · obtain ⟨hy, hyl⟩ := hy
    by_cases hy0 : y = []
    · subst hy0
      repeat' (first | refine a_f ?_ | refine st_nil ?_ | refine tri_seq ?_ | refine tri_region rfl ?_ | refine a_draw ?_ | (apply st_r rfl; case hq => first | exact a_lens | exact a_index | exact a_add | exact a_adds0 | exact a_addsc | exact a_adds | exact a_sub | exact a_slo | exact a_shi | exact a_slh | exact a_lensl | exact a_lenro | exact a_lennil | exact a_lenpts | exact a_field | exact a_fielde | exact a_fieldr | exact a_idxsl | exact a_load | exact a_loada | exact a_mki | exact a_build2 | exact a_build3 | exact a_build1 | exact a_build0 | exact a_bs1 | exact a_bs2 | exact a_bs3 | exact a_bs4 | exact a_bsa | exact a_boxr) | (apply st_rif rfl; (case hq => first | exact a_lss | exact a_gtr | exact a_eql | exact a_neq | exact a_eqls0 | exact a_neqs0 | exact a_eqls | exact a_neqs | exact a_leq | exact a_geq); all_goals (intro _; try (exfalso; first | omega | contradiction))) | (apply st_rw rfl rfl; case hq => first | exact a_store) | refine tri_true rfl ?_ | refine tri_false rfl ?_ | refine tri_block ?_ | refine tri_skip ?_ | refine tri_ret ?_ | refine tri_exit ?_)
      exact outR () trivial (weak_st ⟨rfl, rfl, rfl, rfl, rfl, congrArg AV.str hy, rfl, rfl, rfl, trivial⟩ trivial)
    · have hp := List.length_pos_iff.2 hy0
      have hb : ∀ k : UInt8, y.getD ((y.length : Int) - 1).toNat 0 = k ↔ ((y.getD ((y.length : Int) - 1).toNat 0).toNat : Int) = (k.toNat : Int) := fun k => by rw [← UInt8.toNat_inj]; omega
      have hb32 : y.getD ((y.length : Int) - 1).toNat 0 = 32 ↔ ((y.getD ((y.length : Int) - 1).toNat 0).toNat : Int) = 32 := hb 32
      have hb9 : y.getD ((y.length : Int) - 1).toNat 0 = 9 ↔ ((y.getD ((y.length : Int) - 1).toNat 0).toNat : Int) = 9 := hb 9
      clear hb
      by_cases hbl : y.getD ((y.length : Int) - 1).toNat 0 = 32 ∨ y.getD ((y.length : Int) - 1).toNat 0 = 9
      · have hst := rdw_head rfl hy0 hbl
        have hbl' : ((y.getD ((y.length : Int) - 1).toNat 0).toNat : Int) = 32 ∨ ((y.getD ((y.length : Int) - 1).toNat 0).toNat : Int) = 9 := hbl.imp hb32.1 hb9.1
        clear hb32 hb9
        repeat' (first | refine a_f ?_ | refine st_nil ?_ | refine tri_seq ?_ | refine tri_region rfl ?_ | refine a_draw ?_ | (apply st_r rfl; case hq => first | exact a_lens | exact a_index | exact a_add | exact a_adds0 | exact a_addsc | exact a_adds | exact a_sub | exact a_slo | exact a_shi | exact a_slh | exact a_lensl | exact a_lenro | exact a_lennil | exact a_lenpts | exact a_field | exact a_fielde | exact a_fieldr | exact a_idxsl | exact a_load | exact a_loada | exact a_mki | exact a_build2 | exact a_build3 | exact a_build1 | exact a_build0 | exact a_bs1 | exact a_bs2 | exact a_bs3 | exact a_bs4 | exact a_bsa | exact a_boxr) | (apply st_rif rfl; (case hq => first | exact a_lss | exact a_gtr | exact a_eql | exact a_neq | exact a_eqls0 | exact a_neqs0 | exact a_eqls | exact a_neqs | exact a_leq | exact a_geq); all_goals (intro _; try (exfalso; first | omega | contradiction))) | (apply st_rw rfl rfl; case hq => first | exact a_store) | refine tri_true rfl ?_ | refine tri_false rfl ?_ | refine tri_block ?_ | refine tri_skip ?_ | refine tri_ret ?_ | refine tri_exit ?_)
        all_goals exact nextR (y.take ((y.length : Int) - 1).toNat) ⟨by rw [hst]; exact hy, by rw [List.length_take]; omega⟩ (weak_st ⟨rfl, rfl, rfl, rfl, rfl, rfl, rfl, rfl, rfl, trivial⟩ trivial) (by show (y.take ((y.length : Int) - 1).toNat).length < y.length; rw [List.length_take]; omega)
      · have hst := rdw_stop rfl hbl
        have hbl' : ¬ (((y.getD ((y.length : Int) - 1).toNat 0).toNat : Int) = 32 ∨ ((y.getD ((y.length : Int) - 1).toNat 0).toNat : Int) = 9) := fun h => hbl (h.imp hb32.2 hb9.2)
        clear hb32 hb9
        repeat' (first | refine a_f ?_ | refine st_nil ?_ | refine tri_seq ?_ | refine tri_region rfl ?_ | refine a_draw ?_ | (apply st_r rfl; case hq => first | exact a_lens | exact a_index | exact a_add | exact a_adds0 | exact a_addsc | exact a_adds | exact a_sub | exact a_slo | exact a_shi | exact a_slh | exact a_lensl | exact a_lenro | exact a_lennil | exact a_lenpts | exact a_field | exact a_fielde | exact a_fieldr | exact a_idxsl | exact a_load | exact a_loada | exact a_mki | exact a_build2 | exact a_build3 | exact a_build1 | exact a_build0 | exact a_bs1 | exact a_bs2 | exact a_bs3 | exact a_bs4 | exact a_bsa | exact a_boxr) | (apply st_rif rfl; (case hq => first | exact a_lss | exact a_gtr | exact a_eql | exact a_neq | exact a_eqls0 | exact a_neqs0 | exact a_eqls | exact a_neqs | exact a_leq | exact a_geq); all_goals (intro _; try (exfalso; first | omega | contradiction))) | (apply st_rw rfl rfl; case hq => first | exact a_store) | refine tri_true rfl ?_ | refine tri_false rfl ?_ | refine tri_block ?_ | refine tri_skip ?_ | refine tri_ret ?_ | refine tri_exit ?_)
        exact outR () trivial (weak_st ⟨rfl, rfl, rfl, rfl, rfl, congrArg AV.str (hst.symm.trans hy), rfl, rfl, rfl, trivial⟩ trivial)
  have hbo : bodyOf x = if softOf x = true then (trimR x).take (((trimR x).length : Int) - 1).toNat else trimR x := by
    unfold bodyOf; rw [dropLast_take]
  have hso := @soft_y x
  have hse : trimR x = [] → softOf x = false := fun h => by unfold softOf; rw [h]; rfl
  have hbl : (bodyOf x).length ≤ x.length := by
    rw [hbo]; split
    · rw [List.length_take]; omega
    · exact htl
  generalize trimR x = y at *
  obtain ⟨so, hsd⟩ : ∃ so, so = softOf x := ⟨_, rfl⟩
  rw [← hsd] at hbo hso hse hnext ⊢
  generalize bodyOf x = b at *
  refine tri_cut2 (fun (_ : Unit) => True) (fun _ => st [(2, .str []), (3, .int .i64 0), (4, .ro true 1 (strRows ls)), (5, .str out), (6, .int .i64 i), (7, .str b), (8, .bool so), (12, .ro true 1 (strRows ls)), (13, .int .i64 (strRows ls).length), (14, .int .i64 i)] []) ?_ (fun _ _ => ?_)
  · by_cases hy0 : y = []
    · have := hse hy0
      subst this
      rw [if_neg (by simp)] at hbo
      subst hbo
      clear hso hse hsd
      repeat' (first | refine a_f ?_ | refine st_nil ?_ | refine tri_seq ?_ | refine tri_region rfl ?_ | refine a_draw ?_ | (apply st_r rfl; case hq => first | exact a_lens | exact a_index | exact a_add | exact a_adds0 | exact a_addsc | exact a_adds | exact a_sub | exact a_slo | exact a_shi | exact a_slh | exact a_lensl | exact a_lenro | exact a_lennil | exact a_lenpts | exact a_field | exact a_fielde | exact a_fieldr | exact a_idxsl | exact a_load | exact a_loada | exact a_mki | exact a_build2 | exact a_build3 | exact a_build1 | exact a_build0 | exact a_bs1 | exact a_bs2 | exact a_bs3 | exact a_bs4 | exact a_bsa | exact a_boxr) | (apply st_rif rfl; (case hq => first | exact a_lss | exact a_gtr | exact a_eql | exact a_neq | exact a_eqls0 | exact a_neqs0 | exact a_eqls | exact a_neqs | exact a_leq | exact a_geq); all_goals (intro _; try (exfalso; first | omega | contradiction))) | (apply st_rw rfl rfl; case hq => first | exact a_store) | refine tri_true rfl ?_ | refine tri_false rfl ?_ | refine tri_block ?_ | refine tri_skip ?_ | refine tri_ret ?_ | refine tri_exit ?_)
      exact outR () trivial (weak_st ⟨rfl, rfl, rfl, rfl, rfl, rfl, rfl, rfl, rfl, rfl, trivial⟩ trivial)
    · have hso := hso hy0
      have hp := List.length_pos_iff.2 hy0
      clear hse
      by_cases h61 : ((y.getD ((y.length : Int) - 1).toNat 0).toNat : Int) = 61
      · rw [decide_eq_true h61] at hso
        subst hso
        rw [if_pos rfl] at hbo
        subst hbo
        repeat' (first | refine a_f ?_ | refine st_nil ?_ | refine tri_seq ?_ | refine tri_region rfl ?_ | refine a_draw ?_ | (apply st_r rfl; case hq => first | exact a_lens | exact a_index | exact a_add | exact a_adds0 | exact a_addsc | exact a_adds | exact a_sub | exact a_slo | exact a_shi | exact a_slh | exact a_lensl | exact a_lenro | exact a_lennil | exact a_lenpts | exact a_field | exact a_fielde | exact a_fieldr | exact a_idxsl | exact a_load | exact a_loada | exact a_mki | exact a_build2 | exact a_build3 | exact a_build1 | exact a_build0 | exact a_bs1 | exact a_bs2 | exact a_bs3 | exact a_bs4 | exact a_bsa | exact a_boxr) | (apply st_rif rfl; (case hq => first | exact a_lss | exact a_gtr | exact a_eql | exact a_neq | exact a_eqls0 | exact a_neqs0 | exact a_eqls | exact a_neqs | exact a_leq | exact a_geq); all_goals (intro _; try (exfalso; first | omega | contradiction))) | (apply st_rw rfl rfl; case hq => first | exact a_store) | refine tri_true rfl ?_ | refine tri_false rfl ?_ | refine tri_block ?_ | refine tri_skip ?_ | refine tri_ret ?_ | refine tri_exit ?_)
        exact outR () trivial (weak_st ⟨rfl, rfl, rfl, rfl, rfl, rfl, rfl, rfl, rfl, rfl, trivial⟩ trivial)
      · rw [decide_eq_false h61] at hso
        subst hso
        rw [if_neg (by simp)] at hbo
        subst hbo
        repeat' (first | refine a_f ?_ | refine st_nil ?_ | refine tri_seq ?_ | refine tri_region rfl ?_ | refine a_draw ?_ | (apply st_r rfl; case hq => first | exact a_lens | exact a_index | exact a_add | exact a_adds0 | exact a_addsc | exact a_adds | exact a_sub | exact a_slo | exact a_shi | exact a_slh | exact a_lensl | exact a_lenro | exact a_lennil | exact a_lenpts | exact a_field | exact a_fielde | exact a_fieldr | exact a_idxsl | exact a_load | exact a_loada | exact a_mki | exact a_build2 | exact a_build3 | exact a_build1 | exact a_build0 | exact a_bs1 | exact a_bs2 | exact a_bs3 | exact a_bs4 | exact a_bsa | exact a_boxr) | (apply st_rif rfl; (case hq => first | exact a_lss | exact a_gtr | exact a_eql | exact a_neq | exact a_eqls0 | exact a_neqs0 | exact a_eqls | exact a_neqs | exact a_leq | exact a_geq); all_goals (intro _; try (exfalso; first | omega | contradiction))) | (apply st_rw rfl rfl; case hq => first | exact a_store) | refine tri_true rfl ?_ | refine tri_false rfl ?_ | refine tri_block ?_ | refine tri_skip ?_ | refine tri_ret ?_ | refine tri_exit ?_)
        exact outR () trivial (weak_st ⟨rfl, rfl, rfl, rfl, rfl, rfl, rfl, rfl, rfl, rfl, trivial⟩ trivial)
  clear hbo hso hse hsd htl
  refine tri_seq ?_
  refine tri_block ?_
  refine tri_loop_to (fun (z : B × B) => (dec z.2).map (z.1 ++ ·) = (dec b).map (out ++ ·) ∧ z.1.length + z.2.length ≤ out.length + b.length) (fun z => st [(2, .str []), (3, .int .i64 0), (4, .ro true 1 (strRows ls)), (5, .str z.1), (6, .int .i64 i), (7, .str z.2), (8, .bool so), (12, .ro true 1 (strRows ls)), (13, .int .i64 (strRows ls).length), (14, .int .i64 i)] []) (fun z => z.2.length) (fun (o : B) => (∃ d, dec b = some d ∧ out ++ d = o) ∧ o.length ≤ out.length + b.length) (fun o => st [(2, .str []), (3, .int .i64 0), (4, .ro true 1 (strRows ls)), (5, .str o), (6, .int .i64 i), (8, .bool so), (12, .ro true 1 (strRows ls)), (13, .int .i64 (strRows ls).length), (14, .int .i64 i)] []) (out, b) ⟨rfl, Nat.le_refl _⟩ ?hw_3 weak_tri (fun z hz => ?_) (fun o ho => ?_)
  case hw_3 => exact weak_st ⟨rfl, rfl, rfl, rfl, rfl, rfl, rfl, rfl, rfl, rfl, trivial⟩ trivial
  · obtain ⟨o, z⟩ := z
    change Tri _ _ (st [(2, .str []), (3, .int .i64 0), (4, .ro true 1 (strRows ls)), (5, .str o), (6, .int .i64 i), (7, .str z), (8, .bool so), (12, .ro true 1 (strRows ls)), (13, .int .i64 (strRows ls).length), (14, .int .i64 i)] []) _
    obtain ⟨hz, hzl⟩ := hz
    simp only at hz hzl
    by_cases hz0 : z = []
    · subst hz0
      rw [dec_nil] at hz
      have hd : ∃ d, dec b = some d ∧ out ++ d = o := by
        cases hb : dec b with
        | none => rw [hb] at hz; cases hz
        | some d =>
          rw [hb] at hz
          refine ⟨d, rfl, ?_⟩
          have h : o ++ [] = out ++ d := Option.some.inj hz
          rw [← h, List.append_nil]
      repeat' (first | refine a_f ?_ | refine st_nil ?_ | refine tri_seq ?_ | refine tri_region rfl ?_ | refine a_draw ?_ | (apply st_r rfl; case hq => first | exact a_lens | exact a_index | exact a_add | exact a_adds0 | exact a_addsc | exact a_adds | exact a_sub | exact a_slo | exact a_shi | exact a_slh | exact a_lensl | exact a_lenro | exact a_lennil | exact a_lenpts | exact a_field | exact a_fielde | exact a_fieldr | exact a_idxsl | exact a_load | exact a_loada | exact a_mki | exact a_build2 | exact a_build3 | exact a_build1 | exact a_build0 | exact a_bs1 | exact a_bs2 | exact a_bs3 | exact a_bs4 | exact a_bsa | exact a_boxr) | (apply st_rif rfl; (case hq => first | exact a_lss | exact a_gtr | exact a_eql | exact a_neq | exact a_eqls0 | exact a_neqs0 | exact a_eqls | exact a_neqs | exact a_leq | exact a_geq); all_goals (intro _; try (exfalso; first | omega | contradiction))) | (apply st_rw rfl rfl; case hq => first | exact a_store) | refine tri_true rfl ?_ | refine tri_false rfl ?_ | refine tri_block ?_ | refine tri_skip ?_ | refine tri_ret ?_ | refine tri_exit ?_)
      exact outR o ⟨hd, by simpa using hzl⟩ (weak_st ⟨rfl, rfl, rfl, rfl, rfl, rfl, rfl, rfl, rfl, trivial⟩ trivial)
    have hp := List.length_pos_iff.2 hz0
    have hfail : dec z = none → ruAV (((dec b).bind fun x => (unqLines (ls.drop (i + 1))).map fun y => x ++ (if !so && !(ls.drop (i + 1)).isEmpty then crlf else []) ++ y).map (out ++ ·)) = .tup [.str [], .int .i64 3] := fun h => by
      rw [h] at hz
      cases hb : dec b with
      | none => rfl
      | some d => rw [hb] at hz; cases hz
    have h61i := eq61 (z.getD (Int.toNat 0) 0)
    by_cases h61 : z.getD (Int.toNat 0) 0 = 61
    · have h61' := h61i.1 h61
      have hbad := dec_bad61 hz0 h61
      clear h61i
      by_cases h3 : z.length < 3
      · have hf := hfail (hbad (.inl h3))
        repeat' (first | refine a_f ?_ | refine st_nil ?_ | refine tri_seq ?_ | refine tri_region rfl ?_ | refine a_draw ?_ | (apply st_r rfl; case hq => first | exact a_lens | exact a_index | exact a_add | exact a_adds0 | exact a_addsc | exact a_adds | exact a_sub | exact a_slo | exact a_shi | exact a_slh | exact a_lensl | exact a_lenro | exact a_lennil | exact a_lenpts | exact a_field | exact a_fielde | exact a_fieldr | exact a_idxsl | exact a_load | exact a_loada | exact a_mki | exact a_build2 | exact a_build3 | exact a_build1 | exact a_build0 | exact a_bs1 | exact a_bs2 | exact a_bs3 | exact a_bs4 | exact a_bsa | exact a_boxr) | (apply st_rif rfl; (case hq => first | exact a_lss | exact a_gtr | exact a_eql | exact a_neq | exact a_eqls0 | exact a_neqs0 | exact a_eqls | exact a_neqs | exact a_leq | exact a_geq); all_goals (intro _; try (exfalso; first | omega | contradiction))) | (apply st_rw rfl rfl; case hq => first | exact a_store) | refine tri_true rfl ?_ | refine tri_false rfl ?_ | refine tri_block ?_ | refine tri_skip ?_ | refine tri_ret ?_ | refine tri_exit ?_)
        all_goals
          refine And.intro trivial ?_
          conv => lhs; whnf
          exact hf.symm
      by_cases h1 : (126 : Int) < ((z.getD (Int.toNat 1) 0).toNat : Int)
      · have hf := hfail (hbad (.inr (.inl (dig_big h1))))
        repeat' (first | refine a_f ?_ | refine st_nil ?_ | refine tri_seq ?_ | refine tri_region rfl ?_ | refine a_draw ?_ | (apply st_r rfl; case hq => first | exact a_lens | exact a_index | exact a_add | exact a_adds0 | exact a_addsc | exact a_adds | exact a_sub | exact a_slo | exact a_shi | exact a_slh | exact a_lensl | exact a_lenro | exact a_lennil | exact a_lenpts | exact a_field | exact a_fielde | exact a_fieldr | exact a_idxsl | exact a_load | exact a_loada | exact a_mki | exact a_build2 | exact a_build3 | exact a_build1 | exact a_build0 | exact a_bs1 | exact a_bs2 | exact a_bs3 | exact a_bs4 | exact a_bsa | exact a_boxr) | (apply st_rif rfl; (case hq => first | exact a_lss | exact a_gtr | exact a_eql | exact a_neq | exact a_eqls0 | exact a_neqs0 | exact a_eqls | exact a_neqs | exact a_leq | exact a_geq); all_goals (intro _; try (exfalso; first | omega | contradiction))) | (apply st_rw rfl rfl; case hq => first | exact a_store) | refine tri_true rfl ?_ | refine tri_false rfl ?_ | refine tri_block ?_ | refine tri_skip ?_ | refine tri_ret ?_ | refine tri_exit ?_)
        all_goals
          refine And.intro trivial ?_
          conv => lhs; whnf
          exact hf.symm
      by_cases h2 : (126 : Int) < ((z.getD (Int.toNat 2) 0).toNat : Int)
      · have hf := hfail (hbad (.inr (.inr (dig_big h2))))
        repeat' (first | refine a_f ?_ | refine st_nil ?_ | refine tri_seq ?_ | refine tri_region rfl ?_ | refine a_draw ?_ | (apply st_r rfl; case hq => first | exact a_lens | exact a_index | exact a_add | exact a_adds0 | exact a_addsc | exact a_adds | exact a_sub | exact a_slo | exact a_shi | exact a_slh | exact a_lensl | exact a_lenro | exact a_lennil | exact a_lenpts | exact a_field | exact a_fielde | exact a_fieldr | exact a_idxsl | exact a_load | exact a_loada | exact a_mki | exact a_build2 | exact a_build3 | exact a_build1 | exact a_build0 | exact a_bs1 | exact a_bs2 | exact a_bs3 | exact a_bs4 | exact a_bsa | exact a_boxr) | (apply st_rif rfl; (case hq => first | exact a_lss | exact a_gtr | exact a_eql | exact a_neq | exact a_eqls0 | exact a_neqs0 | exact a_eqls | exact a_neqs | exact a_leq | exact a_geq); all_goals (intro _; try (exfalso; first | omega | contradiction))) | (apply st_rw rfl rfl; case hq => first | exact a_store) | refine tri_true rfl ?_ | refine tri_false rfl ?_ | refine tri_block ?_ | refine tri_skip ?_ | refine tri_ret ?_ | refine tri_exit ?_)
        all_goals
          refine And.intro trivial ?_
          conv => lhs; whnf
          exact hf.symm
      have H1 := hexOf_c (z.getD (Int.toNat 1) 0) (by omega)
      have H2 := hexOf_c (z.getD (Int.toNat 2) 0) (by omega)
      have hd1 := digit_le (z.getD (Int.toNat 1) 0)
      have hd2 := digit_le (z.getD (Int.toNat 2) 0)
      by_cases g1 : digit (z.getD (Int.toNat 1) 0) < 0
      · have hf := hfail (hbad (.inr (.inl g1)))
        repeat' (first | refine a_f ?_ | refine st_nil ?_ | refine tri_seq ?_ | refine tri_region rfl ?_ | refine a_draw ?_ | (apply st_r rfl; case hq => first | exact q_call H1 (hcf := Tryz.call38) rfl rfl | exact a_lens | exact a_index | exact a_add | exact a_adds0 | exact a_addsc | exact a_adds | exact a_sub | exact a_slo | exact a_shi | exact a_slh | exact a_lensl | exact a_lenro | exact a_lennil | exact a_lenpts | exact a_field | exact a_fielde | exact a_fieldr | exact a_idxsl | exact a_load | exact a_loada | exact a_mki | exact a_build2 | exact a_build3 | exact a_build1 | exact a_build0 | exact a_bs1 | exact a_bs2 | exact a_bs3 | exact a_bs4 | exact a_bsa | exact a_boxr) | (apply st_rif rfl; (case hq => first | exact a_lss | exact a_gtr | exact a_eql | exact a_neq | exact a_eqls0 | exact a_neqs0 | exact a_eqls | exact a_neqs | exact a_leq | exact a_geq); all_goals (intro _; try (exfalso; first | omega | contradiction))) | (apply st_rw rfl rfl; case hq => first | exact a_store) | refine tri_true rfl ?_ | refine tri_false rfl ?_ | refine tri_block ?_ | refine tri_skip ?_ | refine tri_ret ?_ | refine tri_exit ?_)
        all_goals
          refine And.intro trivial ?_
          conv => lhs; whnf
          exact hf.symm
      by_cases g2 : digit (z.getD (Int.toNat 2) 0) < 0
      · have hf := hfail (hbad (.inr (.inr g2)))
        repeat' (first | refine a_f ?_ | refine st_nil ?_ | refine tri_seq ?_ | refine tri_region rfl ?_ | refine a_draw ?_ | (apply st_r rfl; case hq => first | exact q_call H1 (hcf := Tryz.call38) rfl rfl | exact q_call H2 (hcf := Tryz.call38) rfl rfl | exact a_lens | exact a_index | exact a_add | exact a_adds0 | exact a_addsc | exact a_adds | exact a_sub | exact a_slo | exact a_shi | exact a_slh | exact a_lensl | exact a_lenro | exact a_lennil | exact a_lenpts | exact a_field | exact a_fielde | exact a_fieldr | exact a_idxsl | exact a_load | exact a_loada | exact a_mki | exact a_build2 | exact a_build3 | exact a_build1 | exact a_build0 | exact a_bs1 | exact a_bs2 | exact a_bs3 | exact a_bs4 | exact a_bsa | exact a_boxr) | (apply st_rif rfl; (case hq => first | exact a_lss | exact a_gtr | exact a_eql | exact a_neq | exact a_eqls0 | exact a_neqs0 | exact a_eqls | exact a_neqs | exact a_leq | exact a_geq); all_goals (intro _; try (exfalso; first | omega | contradiction))) | (apply st_rw rfl rfl; case hq => first | exact a_store) | refine tri_true rfl ?_ | refine tri_false rfl ?_ | refine tri_block ?_ | refine tri_skip ?_ | refine tri_ret ?_ | refine tri_exit ?_)
        all_goals
          refine And.intro trivial ?_
          conv => lhs; whnf
          exact hf.symm
      have hst := dec_hex3R (by omega) h61 (by omega) (by omega)
      have hrow : [[AV.int .u8 (digit (z.getD (Int.toNat 1) 0) * 16 + digit (z.getD (Int.toNat 2) 0))]] = byteRows [UInt8.ofNat ((digit (z.getD (Int.toNat 1) 0)).toNat * 16 + (digit (z.getD (Int.toNat 2) 0)).toNat)] := by
        show _ = [[AV.int .u8 ((UInt8.ofNat ((digit (z.getD (Int.toNat 1) 0)).toNat * 16 + (digit (z.getD (Int.toNat 2) 0)).toNat)).toNat : Int)]]
        rw [ofN (by omega)]
        congr 3
        omega
      have hdd : ((z.drop (Int.toNat 2)).drop (Int.toNat 1)) = z.drop 3 := by rw [List.drop_drop]; rfl
      clear hbad hfail
      repeat' (first | refine a_f ?_ | refine st_nil ?_ | refine tri_seq ?_ | refine tri_region rfl ?_ | refine a_draw ?_ | (apply st_r rfl; case hq => first | exact q_call H1 (hcf := Tryz.call38) rfl rfl | exact q_call H2 (hcf := Tryz.call38) rfl rfl | exact q_mul (by conv => lhs; whnf) (by conv => lhs; whnf) (by exact IntWalk.i64_in _ (by omega)) | exact q_convint (by conv => lhs; whnf) (by kernel_rfl) (by kernel_rfl) (by exact IntWalk.u8_in _ (by omega)) | exact q_bstr [UInt8.ofNat ((digit (z.getD (Int.toNat 1) 0)).toNat * 16 + (digit (z.getD (Int.toNat 2) 0)).toNat)] (by conv => lhs; whnf) hrow (by first | exact Tryz.underlying22 | exact Tryz.underlying23 | exact Tryz.underlying56 | exact Tryz.underlying74 | exact Tryz.underlying80 | exact Tryz.underlying81 | exact Tryz.underlying157 | exact Tryz.underlying177 | exact Tryz.underlying211) Tryz.underlying5 (by kernel_rfl) | exact q_adds (by conv => lhs; whnf) (by conv => lhs; whnf) (by simp only [List.length_cons, List.length_nil]; omega) | exact q_slice_lo (by conv => lhs; whnf) (by conv => lhs; whnf) (by kernel_rfl) (by omega) (by simp only [List.length_drop]; omega) | exact a_lens | exact a_index | exact a_add | exact a_adds0 | exact a_addsc | exact a_adds | exact a_sub | exact a_slo | exact a_shi | exact a_slh | exact a_lensl | exact a_lenro | exact a_lennil | exact a_lenpts | exact a_field | exact a_fielde | exact a_fieldr | exact a_idxsl | exact a_load | exact a_loada | exact a_mki | exact a_build2 | exact a_build3 | exact a_build1 | exact a_build0 | exact a_bs1 | exact a_bs2 | exact a_bs3 | exact a_bs4 | exact a_bsa | exact a_boxr) | (apply st_rif rfl; (case hq => first | exact a_lss | exact a_gtr | exact a_eql | exact a_neq | exact a_eqls0 | exact a_neqs0 | exact a_eqls | exact a_neqs | exact a_leq | exact a_geq); all_goals (intro _; try (exfalso; first | omega | contradiction))) | (apply st_rw rfl rfl; case hq => first | exact a_store) | refine tri_true rfl ?_ | refine tri_false rfl ?_ | refine tri_block ?_ | refine tri_skip ?_ | refine tri_ret ?_ | refine tri_exit ?_)
      refine nextR (o ++ [UInt8.ofNat ((digit (z.getD (Int.toNat 1) 0)).toNat * 16 + (digit (z.getD (Int.toNat 2) 0)).toNat)], z.drop 3) ⟨?_, by simp only [List.length_append, List.length_cons, List.length_nil, List.length_drop]; omega⟩ (weak_st ⟨rfl, rfl, rfl, rfl, rfl, congrArg AV.str hdd, rfl, rfl, rfl, rfl, trivial⟩ trivial) (by show (z.drop 3).length < z.length; rw [List.length_drop]; omega)
      rw [← hz, hst]
      simp only [Option.map_map]
      congr 1
      funext q
      simp
    · have h61' := fun e => h61 (h61i.2 e)
      have I1 := in_c ((z.getD (Int.toNat 0) 0).toNat : Int) 33 126
      have hli := isLit_iff (z.getD (Int.toNat 0) 0)
      cases hlt : isLit (z.getD (Int.toNat 0) 0) with
      | true =>
        have hli := hli.1 hlt
        have hst := dec_lit1 hz0 hlt
        have hrow : [[AV.int .u8 ((z.getD (Int.toNat 0) 0).toNat : Int)]] = byteRows [z.getD (Int.toNat 0) 0] := rfl
        have hfin : (dec (z.drop 1)).map ((o ++ [z.getD (Int.toNat 0) 0]) ++ ·) = (dec b).map (out ++ ·) := by
          rw [← hz, hst]
          simp only [Option.map_map]
          congr 1
          funext q
          simp
        clear h61i hfail hz hst
        by_cases hin : (33 : Int) ≤ ((z.getD (Int.toNat 0) 0).toNat : Int) ∧ ((z.getD (Int.toNat 0) 0).toNat : Int) ≤ 126
        · rw [decide_eq_true hin] at I1
          repeat' (first | refine a_f ?_ | refine st_nil ?_ | refine tri_seq ?_ | refine tri_region rfl ?_ | refine a_draw ?_ | (apply st_r rfl; case hq => first | exact q_convint (by conv => lhs; whnf) (by kernel_rfl) (by kernel_rfl) (wrap_u8 _) | exact q_call I1 (hcf := Tryz.call35) rfl rfl | exact q_bstr [z.getD (Int.toNat 0) 0] (by conv => lhs; whnf) hrow (by first | exact Tryz.underlying22 | exact Tryz.underlying23 | exact Tryz.underlying56 | exact Tryz.underlying74 | exact Tryz.underlying80 | exact Tryz.underlying81 | exact Tryz.underlying157 | exact Tryz.underlying177 | exact Tryz.underlying211) Tryz.underlying5 (by kernel_rfl) | exact q_adds (by conv => lhs; whnf) (by conv => lhs; whnf) (by simp only [List.length_cons, List.length_nil]; omega) | exact a_lens | exact a_index | exact a_add | exact a_adds0 | exact a_addsc | exact a_adds | exact a_sub | exact a_slo | exact a_shi | exact a_slh | exact a_lensl | exact a_lenro | exact a_lennil | exact a_lenpts | exact a_field | exact a_fielde | exact a_fieldr | exact a_idxsl | exact a_load | exact a_loada | exact a_mki | exact a_build2 | exact a_build3 | exact a_build1 | exact a_build0 | exact a_bs1 | exact a_bs2 | exact a_bs3 | exact a_bs4 | exact a_bsa | exact a_boxr) | (apply st_rif rfl; (case hq => first | exact a_lss | exact a_gtr | exact a_eql | exact a_neq | exact a_eqls0 | exact a_neqs0 | exact a_eqls | exact a_neqs | exact a_leq | exact a_geq); all_goals (intro _; try (exfalso; first | omega | contradiction))) | (apply st_rw rfl rfl; case hq => first | exact a_store) | refine tri_true rfl ?_ | refine tri_false rfl ?_ | refine tri_block ?_ | refine tri_skip ?_ | refine tri_ret ?_ | refine tri_exit ?_)
          all_goals exact nextR (o ++ [z.getD (Int.toNat 0) 0], z.drop 1) ⟨hfin, by simp only [List.length_append, List.length_cons, List.length_nil, List.length_drop]; omega⟩ (weak_st ⟨rfl, rfl, rfl, rfl, rfl, rfl, rfl, rfl, rfl, rfl, trivial⟩ trivial) (by show (z.drop 1).length < z.length; rw [List.length_drop]; omega)
        · rw [decide_eq_false hin] at I1
          have hli' := hli.resolve_left (fun h => hin h.1)
          clear hli
          repeat' (first | refine a_f ?_ | refine st_nil ?_ | refine tri_seq ?_ | refine tri_region rfl ?_ | refine a_draw ?_ | (apply st_r rfl; case hq => first | exact q_convint (by conv => lhs; whnf) (by kernel_rfl) (by kernel_rfl) (wrap_u8 _) | exact q_call I1 (hcf := Tryz.call35) rfl rfl | exact q_bstr [z.getD (Int.toNat 0) 0] (by conv => lhs; whnf) hrow (by first | exact Tryz.underlying22 | exact Tryz.underlying23 | exact Tryz.underlying56 | exact Tryz.underlying74 | exact Tryz.underlying80 | exact Tryz.underlying81 | exact Tryz.underlying157 | exact Tryz.underlying177 | exact Tryz.underlying211) Tryz.underlying5 (by kernel_rfl) | exact q_adds (by conv => lhs; whnf) (by conv => lhs; whnf) (by simp only [List.length_cons, List.length_nil]; omega) | exact a_lens | exact a_index | exact a_add | exact a_adds0 | exact a_addsc | exact a_adds | exact a_sub | exact a_slo | exact a_shi | exact a_slh | exact a_lensl | exact a_lenro | exact a_lennil | exact a_lenpts | exact a_field | exact a_fielde | exact a_fieldr | exact a_idxsl | exact a_load | exact a_loada | exact a_mki | exact a_build2 | exact a_build3 | exact a_build1 | exact a_build0 | exact a_bs1 | exact a_bs2 | exact a_bs3 | exact a_bs4 | exact a_bsa | exact a_boxr) | (apply st_rif rfl; (case hq => first | exact a_lss | exact a_gtr | exact a_eql | exact a_neq | exact a_eqls0 | exact a_neqs0 | exact a_eqls | exact a_neqs | exact a_leq | exact a_geq); all_goals (intro _; try (exfalso; first | omega | contradiction))) | (apply st_rw rfl rfl; case hq => first | exact a_store) | refine tri_true rfl ?_ | refine tri_false rfl ?_ | refine tri_block ?_ | refine tri_skip ?_ | refine tri_ret ?_ | refine tri_exit ?_)
          all_goals exact nextR (o ++ [z.getD (Int.toNat 0) 0], z.drop 1) ⟨hfin, by simp only [List.length_append, List.length_cons, List.length_nil, List.length_drop]; omega⟩ (weak_st ⟨rfl, rfl, rfl, rfl, rfl, rfl, rfl, rfl, rfl, rfl, trivial⟩ trivial) (by show (z.drop 1).length < z.length; rw [List.length_drop]; omega)
      | false =>
        have hf := hfail (dec_badR hz0 h61 hlt)
        have hin : ¬ ((33 : Int) ≤ ((z.getD (Int.toNat 0) 0).toNat : Int) ∧ ((z.getD (Int.toNat 0) 0).toNat : Int) ≤ 126) := fun h => by
          have := hli.2 (.inl ⟨h, h61⟩)
          rw [hlt] at this; cases this
        have h32 : ¬ ((z.getD (Int.toNat 0) 0).toNat : Int) = 32 := fun h => by
          have := hli.2 (.inr (.inl h))
          rw [hlt] at this; cases this
        have h9 : ¬ ((z.getD (Int.toNat 0) 0).toNat : Int) = 9 := fun h => by
          have := hli.2 (.inr (.inr h))
          rw [hlt] at this; cases this
        rw [decide_eq_false hin] at I1
        clear hli hfail h61i hz
        repeat' (first | refine a_f ?_ | refine st_nil ?_ | refine tri_seq ?_ | refine tri_region rfl ?_ | refine a_draw ?_ | (apply st_r rfl; case hq => first | exact q_convint (by conv => lhs; whnf) (by kernel_rfl) (by kernel_rfl) (wrap_u8 _) | exact q_call I1 (hcf := Tryz.call35) rfl rfl | exact a_lens | exact a_index | exact a_add | exact a_adds0 | exact a_addsc | exact a_adds | exact a_sub | exact a_slo | exact a_shi | exact a_slh | exact a_lensl | exact a_lenro | exact a_lennil | exact a_lenpts | exact a_field | exact a_fielde | exact a_fieldr | exact a_idxsl | exact a_load | exact a_loada | exact a_mki | exact a_build2 | exact a_build3 | exact a_build1 | exact a_build0 | exact a_bs1 | exact a_bs2 | exact a_bs3 | exact a_bs4 | exact a_bsa | exact a_boxr) | (apply st_rif rfl; (case hq => first | exact a_lss | exact a_gtr | exact a_eql | exact a_neq | exact a_eqls0 | exact a_neqs0 | exact a_eqls | exact a_neqs | exact a_leq | exact a_geq); all_goals (intro _; try (exfalso; first | omega | contradiction))) | (apply st_rw rfl rfl; case hq => first | exact a_store) | refine tri_true rfl ?_ | refine tri_false rfl ?_ | refine tri_block ?_ | refine tri_skip ?_ | refine tri_ret ?_ | refine tri_exit ?_)
        all_goals
          refine And.intro trivial ?_
          conv => lhs; whnf
          exact hf.symm
  · obtain ⟨⟨d, hd, hod⟩, hol⟩ := ho
    rw [hd] at hnext
    simp only [Option.bind_some, Option.map_map] at hnext
    have hrl : (ls.drop (i + 1)).length = ls.length - (i + 1) := List.length_drop
    have hem : (ls.drop (i + 1)).isEmpty = decide (¬ i + 1 < ls.length) := by
      rw [Bool.eq_iff_iff, List.isEmpty_iff_length_eq_zero, decide_eq_true_eq, hrl]; omega
    rw [hem] at hnext
    clear hem
    cases so with
    | true =>
      simp only [Bool.not_true, Bool.false_and, Bool.false_eq_true, if_false, List.append_nil] at hnext
      repeat' (first | refine a_f ?_ | refine st_nil ?_ | refine tri_seq ?_ | refine tri_region rfl ?_ | refine a_draw ?_ | (apply st_r rfl; case hq => first | exact q_not (by conv => lhs; whnf) | exact a_lens | exact a_index | exact a_add | exact a_adds0 | exact a_addsc | exact a_adds | exact a_sub | exact a_slo | exact a_shi | exact a_slh | exact a_lensl | exact a_lenro | exact a_lennil | exact a_lenpts | exact a_field | exact a_fielde | exact a_fieldr | exact a_idxsl | exact a_load | exact a_loada | exact a_mki | exact a_build2 | exact a_build3 | exact a_build1 | exact a_build0 | exact a_bs1 | exact a_bs2 | exact a_bs3 | exact a_bs4 | exact a_bsa | exact a_boxr) | (apply st_rif rfl; (case hq => first | exact a_lss | exact a_gtr | exact a_eql | exact a_neq | exact a_eqls0 | exact a_neqs0 | exact a_eqls | exact a_neqs | exact a_leq | exact a_geq); all_goals (intro _; try (exfalso; first | omega | contradiction))) | (apply st_rw rfl rfl; case hq => first | exact a_store) | refine tri_true rfl ?_ | refine tri_false rfl ?_ | refine tri_block ?_ | refine tri_skip ?_ | refine tri_ret ?_ | refine tri_exit ?_)
      refine nextR (i + 1, o) (hnext _ _ (by omega) ?_ (by omega)) (weak_st ⟨rfl, rfl, rfl, rfl, rfl, rfl, rfl, trivial⟩ trivial) (show ls.length - (i + 1) < ls.length - i by omega)
      congr 1
      funext q
      simp [← hod]
    | false =>
      by_cases hlast : i + 1 < ls.length
      · simp only [hlast, not_true_eq_false, decide_false, Bool.not_false, Bool.and_self, if_true] at hnext
        repeat' (first | refine a_f ?_ | refine st_nil ?_ | refine tri_seq ?_ | refine tri_region rfl ?_ | refine a_draw ?_ | (apply st_r rfl; case hq => first | exact q_not (by conv => lhs; whnf) | exact a_lens | exact a_index | exact a_add | exact a_adds0 | exact a_addsc | exact a_adds | exact a_sub | exact a_slo | exact a_shi | exact a_slh | exact a_lensl | exact a_lenro | exact a_lennil | exact a_lenpts | exact a_field | exact a_fielde | exact a_fieldr | exact a_idxsl | exact a_load | exact a_loada | exact a_mki | exact a_build2 | exact a_build3 | exact a_build1 | exact a_build0 | exact a_bs1 | exact a_bs2 | exact a_bs3 | exact a_bs4 | exact a_bsa | exact a_boxr) | (apply st_rif rfl; (case hq => first | exact a_lss | exact a_gtr | exact a_eql | exact a_neq | exact a_eqls0 | exact a_neqs0 | exact a_eqls | exact a_neqs | exact a_leq | exact a_geq); all_goals (intro _; try (exfalso; first | omega | contradiction))) | (apply st_rw rfl rfl; case hq => first | exact a_store) | refine tri_true rfl ?_ | refine tri_false rfl ?_ | refine tri_block ?_ | refine tri_skip ?_ | refine tri_ret ?_ | refine tri_exit ?_)
        refine nextR (i + 1, o ++ [13, 10]) (hnext _ _ (by omega) ?_ (by simp only [List.length_append, List.length_cons, List.length_nil]; omega)) (weak_st ⟨rfl, rfl, rfl, rfl, rfl, rfl, rfl, trivial⟩ trivial) (show ls.length - (i + 1) < ls.length - i by omega)
        congr 1
        funext q
        simp [← hod, crlf]
      · simp only [hlast, not_false_eq_true, decide_true, Bool.not_true, Bool.and_false, Bool.false_eq_true, if_false, List.append_nil] at hnext
        repeat' (first | refine a_f ?_ | refine st_nil ?_ | refine tri_seq ?_ | refine tri_region rfl ?_ | refine a_draw ?_ | (apply st_r rfl; case hq => first | exact q_not (by conv => lhs; whnf) | exact a_lens | exact a_index | exact a_add | exact a_adds0 | exact a_addsc | exact a_adds | exact a_sub | exact a_slo | exact a_shi | exact a_slh | exact a_lensl | exact a_lenro | exact a_lennil | exact a_lenpts | exact a_field | exact a_fielde | exact a_fieldr | exact a_idxsl | exact a_load | exact a_loada | exact a_mki | exact a_build2 | exact a_build3 | exact a_build1 | exact a_build0 | exact a_bs1 | exact a_bs2 | exact a_bs3 | exact a_bs4 | exact a_bsa | exact a_boxr) | (apply st_rif rfl; (case hq => first | exact a_lss | exact a_gtr | exact a_eql | exact a_neq | exact a_eqls0 | exact a_neqs0 | exact a_eqls | exact a_neqs | exact a_leq | exact a_geq); all_goals (intro _; try (exfalso; first | omega | contradiction))) | (apply st_rw rfl rfl; case hq => first | exact a_store) | refine tri_true rfl ?_ | refine tri_false rfl ?_ | refine tri_block ?_ | refine tri_skip ?_ | refine tri_ret ?_ | refine tri_exit ?_)
        refine nextR (i + 1, o) (hnext _ _ (by omega) ?_ (by omega)) (weak_st ⟨rfl, rfl, rfl, rfl, rfl, rfl, rfl, trivial⟩ trivial) (show ls.length - (i + 1) < ls.length - i by omega)
        congr 1
        funext q
        simp [← hod]
end Go.Proofs.YtignjjnflcpiiabGreatDoor
