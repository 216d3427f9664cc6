import Derived.Test.YtignjjnflcpiiabGreatDoorZPartJ
import Derived.Test.YtignjjnflcpiiabGreatDoorZHeadD
set_option linter.unusedVariables false
set_option linter.unusedSimpArgs false
set_option maxHeartbeats 1000000
namespace Go.Proofs.YtignjjnflcpiiabGreatDoor
open Go.RowKit
attribute [local irreducible] Tri Steps Qd Wr Weak CPure CEff
set_option maxRecDepth 100000
theorem joinC_join : ∀ l : List B, Lib.join l [13, 10] = joinC l
  | [] => rfl
  | [x] => by simp [Lib.join, joinC]
  | x :: y :: r => by
    have ih := joinC_join (y :: r)
    rw [joinC, ← ih]
    simp [Lib.join, List.intercalate, List.intersperse]
theorem joinC_le : ∀ l : List B, (joinC l).length ≤ (l.map fun y => y.length + 2).sum
  | [] => Nat.zero_le _
  | [x] => by simp [joinC]
  | x :: y :: r => by
    have := joinC_le (y :: r)
    rw [joinC_cons x (by simp), List.map_cons, List.sum_cons]
    simp only [List.length_append, List.length_cons]; omega
theorem rjoin_c (l : List B) (hl : l.length ≤ 2000000) (h : (l.map fun y => y.length + 2).sum ≤ 100000000) : CPure gx 39 [.ro false 1 (strRows l), .str [13, 10]] (.str (joinC l)) := by
  unfold CPure
  intro w vs hG hn hlen hr
  obtain ⟨v0, v1, rfl⟩ : ∃ a b, vs = [a, b] := by
    match vs, hlen with
    | [a, b], _ => exact ⟨a, b, rfl⟩
  have h0 := Rep.ro_inv (hr 0 (by simp) (by simp))
  have h1 := Rep.str_inv (hr 1 (by simp) (by simp))
  simp only [List.getElem_cons_zero, List.getElem_cons_succ] at h0 h1
  subst h1
  rcases h0 with ⟨he, a, cap, rfl, _⟩ | ⟨b, o, cap, cs, rfl, hok, hpos, _, hcap, hc, hrl, hf⟩
  · have : l = [] := by cases l with
      | nil => rfl
      | cons x r => cases he
    subst this
    refine (Tryz.strings_Join_none a cap ⟨#[13, 10]⟩ w).mono fun e w' h => ⟨_, h.1, h.2 ▸ ext_refl w, .str _ _⟩
  · have hcell : ∀ (j : Nat) x, (l.map fun x => (⟨x.toArray⟩ : ByteArray))[j]? = some x → w.cell? ⟨b, o + j, none⟩ = some (.string x) := fun j x hx => by
      rw [List.getElem?_map] at hx
      obtain ⟨y, hy, rfl⟩ := Option.map_eq_some_iff.1 hx
      obtain ⟨hj, hjy⟩ := List.getElem?_eq_some_iff.1 hy
      have hjr : j < (strRows l).length := by rw [sr_len]; exact hj
      have e1 := hc j hjr 0 (by decide)
      have e2 := hf j hjr 0 (by simp [strRows])
      have e3 : (strRows l)[j][0]'(by simp [strRows]) = .str y := by simp [strRows, hjy]
      rw [e3] at e2
      generalize cs j 0 = v at e1 e2
      cases e2 with
      | str => simpa using e1
    have hsl := sr_len l
    have e4 : (l.map fun x => (⟨x.toArray⟩ : ByteArray)).length = (strRows l).length := by rw [List.length_map, sr_len]
    have e5 : ((l.map fun x => (⟨x.toArray⟩ : ByteArray)).map (·.data.toList)) = l := by
      rw [List.map_map]
      exact List.map_id' l
    have hbk : b < w.heap.size := World.block_lt_of_cell? w ⟨b, o + 0 * 1 + 0, none⟩ (hc 0 hpos 0 (by decide))
    have := Tryz.strings_Join b o cap (l.map fun x => (⟨x.toArray⟩ : ByteArray)) ⟨#[13, 10]⟩ w hcell hbk (by rw [e4]; omega) (by rw [e4]; exact hcap) (by
      rw [e5]
      show (Lib.join l [13, 10]).length ≤ _
      rw [joinC_join]
      have := joinC_le l; omega)
    rw [e4, e5] at this
    refine this.mono fun e w' h => ⟨_, h.1, h.2, ?_⟩
    show Rep w' _ _ _ _ (.string ⟨(Lib.join l [13, 10]).toArray⟩)
    rw [joinC_join]
    exact .str _ _
def bwAV : Option (List B) → AV
  | some xs => .tup [.ro true 1 (strRows xs), .bool true]
  | none => .tup [.nils, .bool false]
abbrev BwS (s b : B) (x : Nat × Bool × List B × List B) : St := st [(1, .str b), (6, .sl 101), (7, .sl 102), (8, .bool x.2.1), (13, .ro true 1 (strRows (splitC s))), (14, .int .i64 (strRows (splitC s)).length), (15, .int .i64 x.1)] [(101, .rows 9 1 (strRows x.2.2.2)), (102, .rows 9 1 (strRows x.2.2.1))]
def lsum (l : List B) : Nat := (l.map fun y => y.length + 2).sum
theorem lsum_app (a b : List B) : lsum (a ++ b) = lsum a + lsum b := by simp [lsum]
theorem lsum_split (s : B) : lsum (splitC s) = s.length + 2 ∧ (splitC s).length ≤ s.length + 1 := by
  unfold lsum
  fun_induction splitC s with
  | case1 => exact ⟨rfl, Nat.le_refl _⟩
  | case2 c => exact ⟨rfl, by simp⟩
  | case3 c d r h ih =>
    simp only [List.map_cons, List.sum_cons, List.length_cons, List.length_nil]
    omega
  | case4 c d r h ih =>
    have hne := splitC_ne (d :: r)
    cases hs : splitC (d :: r) with
    | nil => exact absurd hs hne
    | cons y l =>
      rw [hs] at ih
      simp only [List.modifyHead_cons, List.map_cons, List.sum_cons, List.length_cons] at ih ⊢
      omega
structure BwI (s b : B) (L : List B) (x : Nat × Bool × List B × List B) : Prop where
  le : x.1 ≤ L.length
  go : cutGo b x.2.1 x.2.2.1 x.2.2.2 (L.drop x.1) = cutF b s
  acc : lsum x.2.2.1 + lsum (L.drop x.1) ≤ s.length + 2 ∧ x.2.2.1.length ≤ x.1
  out : x.2.2.2.length ≤ x.1
set_option maxHeartbeats 16000000 in
theorem between_c (s b : B) (hs : s.length ≤ 1000000) (hb : b.length ≤ 1000000) : CPure gx 19 [.str s, .str b] (bwAV (cutF b s)) := by
  refine cpure_of Tryz.func19 rfl (Nat.le_of_ble_eq_true rfl) rfl (fun w hw => ?_)
  have S1 := split_c s (by omega)
  have hsl := sr_len (splitC s)
  obtain ⟨hsum, hcnt⟩ := lsum_split s
  repeat' (first | refine a_f ?_ | refine st_nil ?_ | refine tri_seq ?_ | refine tri_region rfl ?_ | refine a_draw ?_ | (apply st_r rfl; case hq => first | exact q_call S1 (hcf := Tryz.call37) rfl rfl | exact a_lens | exact a_index | exact a_add | exact a_adds0 | exact a_addsc | exact a_adds | exact a_sub | exact a_slo | exact a_shi | exact a_slh | exact a_lensl | exact a_lenro | exact a_lennil | exact a_lenpts | exact a_field | exact a_fielde | exact a_fieldr | exact a_idxsl | exact a_load | exact a_loada | exact a_mki | exact a_build2 | exact a_build3 | exact a_build1 | exact a_build0 | exact a_bs1 | exact a_bs2 | exact a_bs3 | exact a_bs4 | exact a_bsa | exact a_boxr) | (apply st_rif rfl; (case hq => first | exact a_lss | exact a_gtr | exact a_eql | exact a_neq | exact a_eqls0 | exact a_neqs0 | exact a_eqls | exact a_neqs | exact a_leq | exact a_geq); all_goals (intro _; try (exfalso; first | omega | contradiction))) | (apply st_rw rfl rfl; case hq => first | exact a_store) | refine tri_true rfl ?_ | refine tri_false rfl ?_ | refine tri_block ?_ | refine tri_skip ?_ | refine tri_ret ?_ | refine tri_exit ?_)
  refine tri_loop (BwI s b (splitC s)) (BwS s b) (fun x => (splitC s).length - x.1) (0, false, [], []) ⟨Nat.zero_le _, rfl, ⟨by simp only [List.drop_zero]; rw [hsum]; simp [lsum], Nat.le_refl _⟩, Nat.le_refl _⟩ ?hw (fun x hx => ?_)
  case hw => exact (weak_nil 6 101 9 1 rfl (by decide) rfl rfl).trans ((weak_nil 7 102 9 1 rfl (by decide) rfl rfl).trans (weak_st ⟨rfl, rfl, rfl, rfl, rfl, rfl, rfl, trivial⟩ ⟨rfl, rfl, trivial⟩))
  obtain ⟨i, op, acc, out⟩ := x
  obtain ⟨hi, hgo, ⟨hacc, hal⟩, hout⟩ := hx
  simp only at hi hgo hacc hal hout
  generalize hL : splitC s = L at *
  change Tri _ _ (st [(1, .str b), (6, .sl 101), (7, .sl 102), (8, .bool op), (13, .ro true 1 (strRows (splitC s))), (14, .int .i64 (strRows (splitC s)).length), (15, .int .i64 i)] [(101, .rows 9 1 (strRows out)), (102, .rows 9 1 (strRows acc))]) _
  rw [hL]
  by_cases hil : i < L.length
  · obtain ⟨x, hxi, hxm, hxd, hxr⟩ := sr_at hil
    rw [hxd] at hgo hacc
    have hls : lsum (x :: L.drop (i + 1)) = x.length + 2 + lsum (L.drop (i + 1)) := by simp [lsum]
    rw [hls] at hacc
    have P1 := hpre_c x ([45, 45] ++ b)
    have hmk := mark_ask b x
    rw [cutGo] at hgo
    have e1 := sr_app acc x
    have hla : lsum acc ≤ 2000000 := by omega
    have J1 := rjoin_c acc (by omega) (Nat.le_trans hla (by decide))
    have e2 := sr_app out (joinC acc)
    have hal2 := sr_len acc
    have hol2 := sr_len out
    generalize joinC acc = jc at J1 e2 hgo
    cases hp : ([45, 45] ++ b).isPrefixOf x with
    | false =>
      rw [hp] at P1
      rw [show (45 :: 45 :: b).isPrefixOf x = false from hp] at hmk
      rw [hmk] at hgo
      simp only at hgo
      have n1 : ([110, 111, 110, 101] : B) ≠ [] := by decide
      have n2 : ([110, 111, 110, 101] : B) ≠ [45, 45] := by decide
      clear hmk J1 e2
      repeat' (first | refine a_f ?_ | refine st_nil ?_ | refine tri_seq ?_ | refine tri_region rfl ?_ | refine a_draw ?_ | (apply st_r rfl; case hq => first | exact q_idxro (by conv => lhs; whnf) (by conv => lhs; whnf) (by first | exact Tryz.underlying22 | exact Tryz.underlying23 | exact Tryz.underlying56 | exact Tryz.underlying74 | exact Tryz.underlying80 | exact Tryz.underlying81 | exact Tryz.underlying157 | exact Tryz.underlying177 | exact Tryz.underlying211) (by kernel_rfl) (by omega) hxr | exact q_loadr (by conv => lhs; whnf) (by conv => lhs; whnf) (by show scalB Tryz.prog _ = true; decide +kernel) (fun _ => rfl) | exact q_adds (u := [45, 45]) rfl (by conv => lhs; whnf) (by first | omega | (simp only [List.length_append, List.length_cons, List.length_nil, List.length_take, List.length_drop]; omega)) | exact q_call P1 (hcf := Tryz.call33) rfl rfl | exact a_lens | exact a_index | exact a_add | exact a_adds0 | exact a_addsc | exact a_adds | exact a_sub | exact a_slo | exact a_shi | exact a_slh | exact a_lensl | exact a_lenro | exact a_lennil | exact a_lenpts | exact a_field | exact a_fielde | exact a_fieldr | exact a_idxsl | exact a_load | exact a_loada | exact a_mki | exact a_build2 | exact a_build3 | exact a_build1 | exact a_build0 | exact a_bs1 | exact a_bs2 | exact a_bs3 | exact a_bs4 | exact a_bsa | exact a_boxr) | (apply st_rif rfl; (case hq => first | exact a_lss | exact a_gtr | exact a_eql | exact a_neq | exact a_eqls0 | exact a_neqs0 | exact a_eqls | exact a_neqs | exact a_leq | exact a_geq); all_goals (intro _; try (exfalso; first | omega | contradiction))) | (apply st_rw rfl rfl; case hq => first | exact w_append (id := 102) (by conv => lhs; whnf) (by conv => lhs; whnf; arg 1; whnf) (by conv => lhs; whnf) (by first | exact Tryz.underlying22 | exact Tryz.underlying23 | exact Tryz.underlying56 | exact Tryz.underlying74 | exact Tryz.underlying80 | exact Tryz.underlying81 | exact Tryz.underlying157 | exact Tryz.underlying177 | exact Tryz.underlying211) (by kernel_rfl) (by simp) rfl (by simp only [List.length_cons, List.length_nil]; omega) rfl rfl | exact a_store) | refine tri_true rfl ?_ | refine tri_false rfl ?_ | refine tri_block ?_ | refine tri_skip ?_ | refine tri_ret ?_ | refine tri_exit ?_)
      all_goals exact nextR (i + 1, op, acc ++ [x], out) ⟨by simp only; omega, hgo, ⟨by simp only [lsum_app]; rw [show lsum [x] = x.length + 2 by simp [lsum]]; omega, by simp only [List.length_append, List.length_cons, List.length_nil]; omega⟩, by simp only; omega⟩ (weak_st ⟨rfl, rfl, rfl, rfl, by rw [hL]; rfl, by rw [hL]; rfl, rfl, trivial⟩ ⟨rfl, congrArg (fun l => some (AObj.rows 9 1 l)) e1, trivial⟩) (show L.length - (i + 1) < L.length - i by omega)
    | true =>
      rw [hp] at P1
      rw [show (45 :: 45 :: b).isPrefixOf x = true from hp] at hmk
      simp only at hmk
      have hpl : b.length + 2 ≤ x.length := by
        have := (List.isPrefixOf_iff_prefix.1 hp).length_le
        simp only [List.length_append, List.length_cons, List.length_nil] at this; omega
      have hxl : x.length ≤ s.length + 2 := by omega
      have T1 := rtrim_c (x.drop (b.length + 2)) (by rw [List.length_drop]; omega)
      generalize hrs : x.drop (b.length + 2) = rest at T1 hmk
      generalize trimB rest = tr at T1 hmk
      by_cases h2 : tr = [45, 45]
      · rw [if_pos h2] at hmk
        rw [hmk] at hgo
        have n1 : tr ≠ [] := by rw [h2]; simp
        have n2 : ¬ tr ≠ [45, 45] := fun h => h h2
        clear hmk
        cases op with
        | false =>
          have hgo : some out = cutF b s := hgo
          rw [← hgo]
          repeat' (first | refine a_f ?_ | refine st_nil ?_ | refine tri_seq ?_ | refine tri_region rfl ?_ | refine a_draw ?_ | (apply st_r rfl; case hq => first | exact q_idxro (by conv => lhs; whnf) (by conv => lhs; whnf) (by first | exact Tryz.underlying22 | exact Tryz.underlying23 | exact Tryz.underlying56 | exact Tryz.underlying74 | exact Tryz.underlying80 | exact Tryz.underlying81 | exact Tryz.underlying157 | exact Tryz.underlying177 | exact Tryz.underlying211) (by kernel_rfl) (by omega) hxr | exact q_loadr (by conv => lhs; whnf) (by conv => lhs; whnf) (by show scalB Tryz.prog _ = true; decide +kernel) (fun _ => rfl) | exact q_adds (u := [45, 45]) rfl (by conv => lhs; whnf) (by first | omega | (simp only [List.length_append, List.length_cons, List.length_nil, List.length_take, List.length_drop]; omega)) | exact q_call P1 (hcf := Tryz.call33) rfl rfl | exact q_slice_loE (n' := b.length + 2) (l := rest) (by conv => lhs; whnf) (by conv => lhs; whnf) (by omega) (by kernel_rfl) (by omega) hrs | exact q_call T1 (hcf := Tryz.call31) rfl rfl | exact a_lens | exact a_index | exact a_add | exact a_adds0 | exact a_addsc | exact a_adds | exact a_sub | exact a_slo | exact a_shi | exact a_slh | exact a_lensl | exact a_lenro | exact a_lennil | exact a_lenpts | exact a_field | exact a_fielde | exact a_fieldr | exact a_idxsl | exact a_load | exact a_loada | exact a_mki | exact a_build2 | exact a_build3 | exact a_build1 | exact a_build0 | exact a_bs1 | exact a_bs2 | exact a_bs3 | exact a_bs4 | exact a_bsa | exact a_boxr) | (apply st_rif rfl; (case hq => first | exact a_lss | exact a_gtr | exact a_eql | exact a_neq | exact a_eqls0 | exact a_neqs0 | exact a_eqls | exact a_neqs | exact a_leq | exact a_geq); all_goals (intro _; try (exfalso; first | omega | contradiction))) | (apply st_rw rfl rfl; case hq => first | exact a_store) | refine tri_true rfl ?_ | refine tri_false rfl ?_ | refine tri_block ?_ | refine tri_skip ?_ | refine tri_ret ?_ | refine tri_exit ?_)
          refine And.intro trivial ?_
          conv => lhs; whnf
          try rfl
        | true =>
          have hgo : some (out ++ [jc]) = cutF b s := hgo
          rw [← hgo]
          repeat' (first | refine a_f ?_ | refine st_nil ?_ | refine tri_seq ?_ | refine tri_region rfl ?_ | refine a_draw ?_ | (apply st_r rfl; case hq => first | exact q_idxro (by conv => lhs; whnf) (by conv => lhs; whnf) (by first | exact Tryz.underlying22 | exact Tryz.underlying23 | exact Tryz.underlying56 | exact Tryz.underlying74 | exact Tryz.underlying80 | exact Tryz.underlying81 | exact Tryz.underlying157 | exact Tryz.underlying177 | exact Tryz.underlying211) (by kernel_rfl) (by omega) hxr | exact q_loadr (by conv => lhs; whnf) (by conv => lhs; whnf) (by show scalB Tryz.prog _ = true; decide +kernel) (fun _ => rfl) | exact q_adds (u := [45, 45]) rfl (by conv => lhs; whnf) (by first | omega | (simp only [List.length_append, List.length_cons, List.length_nil, List.length_take, List.length_drop]; omega)) | exact q_call P1 (hcf := Tryz.call33) rfl rfl | exact q_slice_loE (n' := b.length + 2) (l := rest) (by conv => lhs; whnf) (by conv => lhs; whnf) (by omega) (by kernel_rfl) (by omega) hrs | exact q_call T1 (hcf := Tryz.call31) rfl rfl | exact q_call J1 (hcf := Tryz.call39) rfl rfl | exact a_lens | exact a_index | exact a_add | exact a_adds0 | exact a_addsc | exact a_adds | exact a_sub | exact a_slo | exact a_shi | exact a_slh | exact a_lensl | exact a_lenro | exact a_lennil | exact a_lenpts | exact a_field | exact a_fielde | exact a_fieldr | exact a_idxsl | exact a_load | exact a_loada | exact a_mki | exact a_build2 | exact a_build3 | exact a_build1 | exact a_build0 | exact a_bs1 | exact a_bs2 | exact a_bs3 | exact a_bs4 | exact a_bsa | exact a_boxr) | (apply st_rif rfl; (case hq => first | exact a_lss | exact a_gtr | exact a_eql | exact a_neq | exact a_eqls0 | exact a_neqs0 | exact a_eqls | exact a_neqs | exact a_leq | exact a_geq); all_goals (intro _; try (exfalso; first | omega | contradiction))) | (apply st_rw rfl rfl; case hq => first | exact w_append (id := 101) (by conv => lhs; whnf) (by conv => lhs; whnf; arg 1; whnf) (by conv => lhs; whnf) (by first | exact Tryz.underlying22 | exact Tryz.underlying23 | exact Tryz.underlying56 | exact Tryz.underlying74 | exact Tryz.underlying80 | exact Tryz.underlying81 | exact Tryz.underlying157 | exact Tryz.underlying177 | exact Tryz.underlying211) (by kernel_rfl) (by simp) rfl (by simp only [List.length_cons, List.length_nil]; omega) rfl rfl | exact a_store) | refine tri_true rfl ?_ | refine tri_false rfl ?_ | refine tri_block ?_ | refine tri_skip ?_ | refine tri_ret ?_ | refine tri_exit ?_)
          refine And.intro trivial ?_
          conv => lhs; whnf
          rw [e2]
          rfl
      · rw [if_neg h2] at hmk
        by_cases h3 : tr = []
        · rw [if_pos h3] at hmk
          rw [hmk] at hgo
          have n1 : ¬ tr ≠ [] := fun h => h h3
          clear hmk
          cases op with
          | false =>
            have hgo : cutGo b true [] out (L.drop (i + 1)) = cutF b s := hgo
            repeat' (first | refine a_f ?_ | refine st_nil ?_ | refine tri_seq ?_ | refine tri_region rfl ?_ | refine a_draw ?_ | (apply st_r rfl; case hq => first | exact q_idxro (by conv => lhs; whnf) (by conv => lhs; whnf) (by first | exact Tryz.underlying22 | exact Tryz.underlying23 | exact Tryz.underlying56 | exact Tryz.underlying74 | exact Tryz.underlying80 | exact Tryz.underlying81 | exact Tryz.underlying157 | exact Tryz.underlying177 | exact Tryz.underlying211) (by kernel_rfl) (by omega) hxr | exact q_loadr (by conv => lhs; whnf) (by conv => lhs; whnf) (by show scalB Tryz.prog _ = true; decide +kernel) (fun _ => rfl) | exact q_adds (u := [45, 45]) rfl (by conv => lhs; whnf) (by first | omega | (simp only [List.length_append, List.length_cons, List.length_nil, List.length_take, List.length_drop]; omega)) | exact q_call P1 (hcf := Tryz.call33) rfl rfl | exact q_slice_loE (n' := b.length + 2) (l := rest) (by conv => lhs; whnf) (by conv => lhs; whnf) (by omega) (by kernel_rfl) (by omega) hrs | exact q_call T1 (hcf := Tryz.call31) rfl rfl | exact a_lens | exact a_index | exact a_add | exact a_adds0 | exact a_addsc | exact a_adds | exact a_sub | exact a_slo | exact a_shi | exact a_slh | exact a_lensl | exact a_lenro | exact a_lennil | exact a_lenpts | exact a_field | exact a_fielde | exact a_fieldr | exact a_idxsl | exact a_load | exact a_loada | exact a_mki | exact a_build2 | exact a_build3 | exact a_build1 | exact a_build0 | exact a_bs1 | exact a_bs2 | exact a_bs3 | exact a_bs4 | exact a_bsa | exact a_boxr) | (apply st_rif rfl; (case hq => first | exact a_lss | exact a_gtr | exact a_eql | exact a_neq | exact a_eqls0 | exact a_neqs0 | exact a_eqls | exact a_neqs | exact a_leq | exact a_geq); all_goals (intro _; try (exfalso; first | omega | contradiction))) | (apply st_rw rfl rfl; case hq => first | exact a_store) | refine tri_true rfl ?_ | refine tri_false rfl ?_ | refine tri_block ?_ | refine tri_skip ?_ | refine tri_ret ?_ | refine tri_exit ?_)
            exact nextR (i + 1, true, [], out) ⟨by simp only; omega, hgo, ⟨by simp only [show lsum ([] : List B) = 0 from rfl]; omega, Nat.zero_le _⟩, by simp only; omega⟩ ((weak_nil 7 102 9 1 rfl (by decide) rfl rfl).trans (weak_st ⟨rfl, rfl, rfl, rfl, by rw [hL]; rfl, by rw [hL]; rfl, rfl, trivial⟩ ⟨rfl, rfl, trivial⟩)) (show L.length - (i + 1) < L.length - i by omega)
          | true =>
            have hgo : cutGo b true [] (out ++ [jc]) (L.drop (i + 1)) = cutF b s := hgo
            repeat' (first | refine a_f ?_ | refine st_nil ?_ | refine tri_seq ?_ | refine tri_region rfl ?_ | refine a_draw ?_ | (apply st_r rfl; case hq => first | exact q_idxro (by conv => lhs; whnf) (by conv => lhs; whnf) (by first | exact Tryz.underlying22 | exact Tryz.underlying23 | exact Tryz.underlying56 | exact Tryz.underlying74 | exact Tryz.underlying80 | exact Tryz.underlying81 | exact Tryz.underlying157 | exact Tryz.underlying177 | exact Tryz.underlying211) (by kernel_rfl) (by omega) hxr | exact q_loadr (by conv => lhs; whnf) (by conv => lhs; whnf) (by show scalB Tryz.prog _ = true; decide +kernel) (fun _ => rfl) | exact q_adds (u := [45, 45]) rfl (by conv => lhs; whnf) (by first | omega | (simp only [List.length_append, List.length_cons, List.length_nil, List.length_take, List.length_drop]; omega)) | exact q_call P1 (hcf := Tryz.call33) rfl rfl | exact q_slice_loE (n' := b.length + 2) (l := rest) (by conv => lhs; whnf) (by conv => lhs; whnf) (by omega) (by kernel_rfl) (by omega) hrs | exact q_call T1 (hcf := Tryz.call31) rfl rfl | exact q_call J1 (hcf := Tryz.call39) rfl rfl | exact a_lens | exact a_index | exact a_add | exact a_adds0 | exact a_addsc | exact a_adds | exact a_sub | exact a_slo | exact a_shi | exact a_slh | exact a_lensl | exact a_lenro | exact a_lennil | exact a_lenpts | exact a_field | exact a_fielde | exact a_fieldr | exact a_idxsl | exact a_load | exact a_loada | exact a_mki | exact a_build2 | exact a_build3 | exact a_build1 | exact a_build0 | exact a_bs1 | exact a_bs2 | exact a_bs3 | exact a_bs4 | exact a_bsa | exact a_boxr) | (apply st_rif rfl; (case hq => first | exact a_lss | exact a_gtr | exact a_eql | exact a_neq | exact a_eqls0 | exact a_neqs0 | exact a_eqls | exact a_neqs | exact a_leq | exact a_geq); all_goals (intro _; try (exfalso; first | omega | contradiction))) | (apply st_rw rfl rfl; case hq => first | exact w_append (id := 101) (by conv => lhs; whnf) (by conv => lhs; whnf; arg 1; whnf) (by conv => lhs; whnf) (by first | exact Tryz.underlying22 | exact Tryz.underlying23 | exact Tryz.underlying56 | exact Tryz.underlying74 | exact Tryz.underlying80 | exact Tryz.underlying81 | exact Tryz.underlying157 | exact Tryz.underlying177 | exact Tryz.underlying211) (by kernel_rfl) (by simp) rfl (by simp only [List.length_cons, List.length_nil]; omega) rfl rfl | exact a_store) | refine tri_true rfl ?_ | refine tri_false rfl ?_ | refine tri_block ?_ | refine tri_skip ?_ | refine tri_ret ?_ | refine tri_exit ?_)
            exact nextR (i + 1, true, [], out ++ [jc]) ⟨by simp only; omega, hgo, ⟨by simp only [show lsum ([] : List B) = 0 from rfl]; omega, Nat.zero_le _⟩, by simp only [List.length_append, List.length_cons, List.length_nil]; omega⟩ ((weak_nil 7 102 9 1 rfl (by decide) rfl rfl).trans (weak_st ⟨rfl, rfl, rfl, rfl, by rw [hL]; rfl, by rw [hL]; rfl, rfl, trivial⟩ ⟨congrArg (fun l => some (AObj.rows 9 1 l)) e2, rfl, trivial⟩)) (show L.length - (i + 1) < L.length - i by omega)
        · rw [if_neg h3] at hmk
          rw [hmk] at hgo
          simp only at hgo
          have n1 : tr ≠ [] := h3
          have n2 : tr ≠ [45, 45] := h2
          clear hmk
          repeat' (first | refine a_f ?_ | refine st_nil ?_ | refine tri_seq ?_ | refine tri_region rfl ?_ | refine a_draw ?_ | (apply st_r rfl; case hq => first | exact q_idxro (by conv => lhs; whnf) (by conv => lhs; whnf) (by first | exact Tryz.underlying22 | exact Tryz.underlying23 | exact Tryz.underlying56 | exact Tryz.underlying74 | exact Tryz.underlying80 | exact Tryz.underlying81 | exact Tryz.underlying157 | exact Tryz.underlying177 | exact Tryz.underlying211) (by kernel_rfl) (by omega) hxr | exact q_loadr (by conv => lhs; whnf) (by conv => lhs; whnf) (by show scalB Tryz.prog _ = true; decide +kernel) (fun _ => rfl) | exact q_adds (u := [45, 45]) rfl (by conv => lhs; whnf) (by first | omega | (simp only [List.length_append, List.length_cons, List.length_nil, List.length_take, List.length_drop]; omega)) | exact q_call P1 (hcf := Tryz.call33) rfl rfl | exact q_slice_loE (n' := b.length + 2) (l := rest) (by conv => lhs; whnf) (by conv => lhs; whnf) (by omega) (by kernel_rfl) (by omega) hrs | exact q_call T1 (hcf := Tryz.call31) rfl rfl | exact a_lens | exact a_index | exact a_add | exact a_adds0 | exact a_addsc | exact a_adds | exact a_sub | exact a_slo | exact a_shi | exact a_slh | exact a_lensl | exact a_lenro | exact a_lennil | exact a_lenpts | exact a_field | exact a_fielde | exact a_fieldr | exact a_idxsl | exact a_load | exact a_loada | exact a_mki | exact a_build2 | exact a_build3 | exact a_build1 | exact a_build0 | exact a_bs1 | exact a_bs2 | exact a_bs3 | exact a_bs4 | exact a_bsa | exact a_boxr) | (apply st_rif rfl; (case hq => first | exact a_lss | exact a_gtr | exact a_eql | exact a_neq | exact a_eqls0 | exact a_neqs0 | exact a_eqls | exact a_neqs | exact a_leq | exact a_geq); all_goals (intro _; try (exfalso; first | omega | contradiction))) | (apply st_rw rfl rfl; case hq => first | exact w_append (id := 102) (by conv => lhs; whnf) (by conv => lhs; whnf; arg 1; whnf) (by conv => lhs; whnf) (by first | exact Tryz.underlying22 | exact Tryz.underlying23 | exact Tryz.underlying56 | exact Tryz.underlying74 | exact Tryz.underlying80 | exact Tryz.underlying81 | exact Tryz.underlying157 | exact Tryz.underlying177 | exact Tryz.underlying211) (by kernel_rfl) (by simp) rfl (by simp only [List.length_cons, List.length_nil]; omega) rfl rfl | exact a_store) | refine tri_true rfl ?_ | refine tri_false rfl ?_ | refine tri_block ?_ | refine tri_skip ?_ | refine tri_ret ?_ | refine tri_exit ?_)
          all_goals exact nextR (i + 1, op, acc ++ [x], out) ⟨by simp only; omega, hgo, ⟨by simp only [lsum_app]; rw [show lsum [x] = x.length + 2 by simp [lsum]]; omega, by simp only [List.length_append, List.length_cons, List.length_nil]; omega⟩, by simp only; omega⟩ (weak_st ⟨rfl, rfl, rfl, rfl, by rw [hL]; rfl, by rw [hL]; rfl, rfl, trivial⟩ ⟨rfl, congrArg (fun l => some (AObj.rows 9 1 l)) e1, trivial⟩) (show L.length - (i + 1) < L.length - i by omega)
  · rw [List.drop_eq_nil_of_le (by omega), cutGo] at hgo
    rw [← hgo]
    repeat' (first | refine a_f ?_ | refine st_nil ?_ | refine tri_seq ?_ | refine tri_region rfl ?_ | refine a_draw ?_ | (apply st_r rfl; case hq => first | exact a_lens | exact a_index | exact a_add | exact a_adds0 | exact a_addsc | exact a_adds | exact a_sub | exact a_slo | exact a_shi | exact a_slh | exact a_lensl | exact a_lenro | exact a_lennil | exact a_lenpts | exact a_field | exact a_fielde | exact a_fieldr | exact a_idxsl | exact a_load | exact a_loada | exact a_mki | exact a_build2 | exact a_build3 | exact a_build1 | exact a_build0 | exact a_bs1 | exact a_bs2 | exact a_bs3 | exact a_bs4 | exact a_bsa | exact a_boxr) | (apply st_rif rfl; (case hq => first | exact a_lss | exact a_gtr | exact a_eql | exact a_neq | exact a_eqls0 | exact a_neqs0 | exact a_eqls | exact a_neqs | exact a_leq | exact a_geq); all_goals (intro _; try (exfalso; first | omega | contradiction))) | (apply st_rw rfl rfl; case hq => first | exact a_store) | refine tri_true rfl ?_ | refine tri_false rfl ?_ | refine tri_block ?_ | refine tri_skip ?_ | refine tri_ret ?_ | refine tri_exit ?_)
    refine And.intro trivial ?_
    conv => lhs; whnf
    try rfl
end Go.Proofs.YtignjjnflcpiiabGreatDoor
