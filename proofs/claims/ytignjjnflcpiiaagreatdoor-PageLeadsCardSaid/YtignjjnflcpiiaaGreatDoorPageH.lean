/- A page with other values: page.Replace. -/
import Derived.Test.YtignjjnflcpiiaaGreatDoorPageG
set_option linter.unusedVariables false
set_option linter.unusedSimpArgs false
set_option maxHeartbeats 1000000
namespace Go.Proofs.YtignjjnflcpiiaaGreatDoor
open Go.RowKit
attribute [local irreducible] Tri Steps Qd Wr Weak CPure CEff CNew CutN AllB Behind
set_option maxRecDepth 100000

theorem lk_at {l : List Lk} {i : Nat} (h : i < l.length) : ∃ x, x ∈ l ∧ l.drop i = x :: l.drop (i + 1) ∧ (lkRows l)[(i : Int).toNat]? = some [.int .i64 x.1, .int .i64 x.2.1, .str x.2.2] := by
  refine ⟨l[i], List.getElem_mem h, List.drop_eq_getElem_cons h, ?_⟩
  rw [Int.toNat_natCast, lkRows, List.getElem?_map, List.getElem?_eq_getElem h]; rfl
theorem lk_len (l : List Lk) : (lkRows l).length = l.length := by simp [lkRows]
/-- the ops that write: calls of a function -/
def wrC (f : Nat) (o : Oper) : Bool := match o.op with
  | .call c => match c.callee with
    | .value (.func g) => Nat.beq g f
    | _ => false
  | _ => false
set_option maxHeartbeats 8000000 in
theorem replace_c (s : B) (vs : List B) (hs : s.length ≤ 1000000) (hvl : vs.length ≤ 1000000) (hv : ∀ v ∈ vs, v.length ≤ 1000000) : CPure gxs 20 [.str s, .ro false 1 (nmRows vs)]
    (if vs.length = (linksF s.length s).length then .tup [.str (repGo s 0 (linksF s.length s) vs), .nili] else .tup [.str [], .iface 28 (.int .i64 1)]) := by
  refine cpure_of Tryz.func20 rfl (Nat.le_of_ble_eq_true rfl) rfl (fun w hw => ?_)
  have L1 := links_c s (by omega)
  have hnv := nm_len vs
  have hll := linksF_len s
  have hok := linksF_ok s
  generalize linksF s.length s = L at L1 hll hok
  have hlk := lk_len L
  by_cases hlen : vs.length = L.length
  · rw [if_pos hlen]
    repeat' (first | refine a_f ?_ | refine st_nil ?_ | refine tri_seq ?_ | refine tri_region rfl ?_ | refine a_draw ?_ | (apply st_r rfl; case hq => first | exact q_call L1 (hcf := Tryz.call19) rfl rfl | exact a_lens | exact a_index | exact a_add | exact a_adds0 | exact a_addsc | exact a_adds | exact a_sub | exact a_slo | exact a_shi | exact a_slh | exact a_lensl | exact a_lenro | exact a_lennil | exact a_lenpts | exact a_field | exact a_fielde | exact a_fieldr | exact a_idxsl | exact a_load | exact a_loada | exact a_mki | exact a_build2 | exact a_build3 | exact a_build1 | exact a_build0 | exact a_bs1 | exact a_bs2 | exact a_bs3 | exact a_bs4 | exact a_bsa | exact a_boxr) | (apply st_rif rfl; (case hq => first | exact a_lss | exact a_gtr | exact a_eql | exact a_neq | exact a_eqls0 | exact a_neqs0 | exact a_eqls | exact a_neqs | exact a_leq | exact a_geq); all_goals (intro _; try (exfalso; first | omega | contradiction))) | (apply st_rw rfl rfl; case hq => first | exact w_allocb 100 ByT zBld rfl rfl | exact a_store) | refine tri_true rfl ?_ | refine tri_false rfl ?_ | refine tri_block ?_ | refine tri_skip ?_ | refine tri_ret ?_ | refine tri_exit ?_)
    refine tri_loop (fun (x : Nat × Nat × B) => x.1 ≤ L.length ∧ x.2.2 ++ repGo s x.2.1 (L.drop x.1) (vs.drop x.1) = repGo s 0 L vs ∧ LkOk s.length x.2.1 (L.drop x.1) ∧ x.2.2.length ≤ x.1 * 8000000) (fun x => st [(0, .str s), (1, .ro false 1 (nmRows vs)), (4, .str []), (5, .nili), (7, .ptr 100 0), (8, .int .i64 x.2.1), (21, .ro true 3 (lkRows L)), (22, .int .i64 (lkRows L).length), (23, .int .i64 x.1)] [(100, .bld ByT BT x.2.2)]) (fun x => L.length - x.1) (0, 0, []) ⟨Nat.zero_le _, rfl, hok, Nat.zero_le _⟩ ?hw (fun x hx => ?_)
    case hw => exact weak_st ⟨rfl, rfl, rfl, rfl, rfl, rfl, rfl, rfl, rfl, trivial⟩ ⟨rfl, trivial⟩
    obtain ⟨i, a, out⟩ := x
    change Tri _ _ (st [(0, .str s), (1, .ro false 1 (nmRows vs)), (4, .str []), (5, .nili), (7, .ptr 100 0), (8, .int .i64 a), (21, .ro true 3 (lkRows L)), (22, .int .i64 (lkRows L).length), (23, .int .i64 i)] [(100, .bld ByT BT out)]) _
    obtain ⟨hi, hf, hk, ho⟩ := hx
    simp only at hi hf hk ho
    obtain ⟨K, hKe, hoK, hKb⟩ : ∃ K, (∀ m, m ≤ K + 8000000 → m ≤ (i + 1) * 8000000) ∧ out.length ≤ K ∧ K ≤ 8000000000000 := ⟨i * 8000000, fun m h => by rw [Nat.add_mul]; omega, ho, by omega⟩
    replace ho := hoK
    clear hoK
    by_cases hil : i < L.length
    · obtain ⟨x, hxm, hxd, hxr⟩ := lk_at hil
      have hvi : i < vs.length := by omega
      have hvr := nm_get hvi
      have hvd : vs.drop i = vs[i] :: vs.drop (i + 1) := List.drop_eq_getElem_cons hvi
      have hvle := hv vs[i] (List.getElem_mem hvi)
      generalize vs[i] = v at hvr hvd hvle
      obtain ⟨p, lg, val⟩ := x
      rw [hxd, hvd] at hf
      rw [hxd] at hk
      simp only [repGo] at hf
      obtain ⟨k1, k2, k3, k4⟩ := hk
      simp only at k1 k2 k3 k4 hxr
      have E1 := escape_c v hvle
      have hel := escB_len v
      have hcut : (s.take p).drop a = (s.drop a).take (p - a) := List.drop_take ..
      have hcl : ((s.drop a).take (p - a)).length ≤ s.length := by rw [List.length_take, List.length_drop]; omega
      have W1 := (writeString_e out ((s.drop a).take (p - a)) (by omega)).s
      have hg : s[p - 1]? = some (s.getD (p - 1) 0) := by
        rw [List.getD_eq_getElem?_getD, List.getElem?_eq_getElem (by omega)]; rfl
      have hwv : wrV s p v = if s.getD (p - 1) 0 = 34 ∨ s.getD (p - 1) 0 = 39 then escB v else 34 :: (escB v ++ [34]) := rfl
      generalize s.getD (p - 1) 0 = c at hg hwv
      have hc : c.toNat < 256 := c.toNat_lt
      have hol : (out ++ (s.drop a).take (p - a)).length = out.length + ((s.drop a).take (p - a)).length := List.length_append
      generalize (s.drop a).take (p - a) = sl at *
      by_cases hq : c = 34 ∨ c = 39
      · have iq : (c.toNat : Int) = 34 ∨ (c.toNat : Int) = 39 := hq.imp (fun e => by rw [e]; rfl) (fun e => by rw [e]; rfl)
        rw [if_pos hq] at hwv
        have W2 := (writeString_e (out ++ sl) (escB v) (by omega)).s
        repeat' (first | refine a_f ?_ | refine st_nil ?_ | refine tri_seq ?_ | refine tri_region rfl ?_ | refine a_draw ?_ | (apply st_r rfl; case hq => first | exact q_idxro (by conv => lhs; whnf) (by conv => lhs; whnf) (by first | exact Tryz.underlying22 | exact Tryz.underlying23 | exact Tryz.underlying43 | exact Tryz.underlying44 | exact Tryz.underlying51 | exact Tryz.underlying86 | exact Tryz.underlying191 | exact Tryz.underlying209 | exact Tryz.underlying234 | exact Tryz.underlying270 | exact Tryz.underlying281 | exact Tryz.underlying344) (by kernel_rfl) (by omega) hxr | exact q_idxro (by conv => lhs; whnf) (by conv => lhs; whnf) (by first | exact Tryz.underlying22 | exact Tryz.underlying23 | exact Tryz.underlying43 | exact Tryz.underlying44 | exact Tryz.underlying51 | exact Tryz.underlying86 | exact Tryz.underlying191 | exact Tryz.underlying209 | exact Tryz.underlying234 | exact Tryz.underlying270 | exact Tryz.underlying281 | exact Tryz.underlying344) (by kernel_rfl) (by omega) hvr | exact q_loadar (n := 3) (by conv => lhs; whnf) (by conv => lhs; whnf) (by first | rfl | exact Nat.le_of_ble_eq_true rfl | exact Nat.succ_pos _ | decide) (by kernel_rfl) (fun _ => rfl) | exact q_loadr (by conv => lhs; whnf) (by conv => lhs; whnf) (by show scalB Tryz.prog _ = true; decide +kernel) (fun _ => rfl) | exact q_slice_lhE (m' := a) (n' := p) (l := sl) (by conv => lhs; whnf) (by conv => lhs; whnf) (by conv => lhs; whnf) (by rfl) (by rfl) (by kernel_rfl) (by omega) (by omega) hcut | exact q_indexE (i' := p - 1) (c := c) (by conv => lhs; whnf) (by conv => lhs; whnf) (by omega) (by kernel_rfl) hg | exact q_call E1 (hcf := Tryz.call30) rfl rfl | exact a_lens | exact a_index | exact a_add | exact a_adds0 | exact a_addsc | exact a_adds | exact a_sub | exact a_slo | exact a_shi | exact a_slh | exact a_lensl | exact a_lenro | exact a_lennil | exact a_lenpts | exact a_field | exact a_fielde | exact a_fieldr | exact a_idxsl | exact a_load | exact a_loada | exact a_mki | exact a_build2 | exact a_build3 | exact a_build1 | exact a_build0 | exact a_bs1 | exact a_bs2 | exact a_bs3 | exact a_bs4 | exact a_bsa | exact a_boxr) | (apply st_rif rfl; (case hq => first | exact a_lss | exact a_gtr | exact a_eql | exact a_neq | exact a_eqls0 | exact a_neqs0 | exact a_eqls | exact a_neqs | exact a_leq | exact a_geq); all_goals (intro _; try (exfalso; first | omega | contradiction))) | (apply st_rw rfl rfl; case hq => first | exact w_alloc 103 (by first | exact zAt | exact zFault | exact zField | exact zParam | exact zLink | exact zPart | exact zReader) rfl rfl rfl | exact w_call (id := 100) W1 (hcf := Tryz.call44) (by rfl) rfl rfl rfl rfl rfl | exact w_call (id := 100) W2 (hcf := Tryz.call44) (by rfl) rfl rfl rfl rfl rfl | exact a_store) | refine tri_true rfl ?_ | refine tri_false rfl ?_ | refine tri_block ?_ | refine tri_skip ?_ | refine tri_ret ?_ | refine tri_exit ?_)
        all_goals exact loop_next (i + 1, p + lg, out ++ sl ++ escB v) ⟨by show i + 1 ≤ _; omega, by simp only; rw [← hf, hwv]; simp, k4, by show (out ++ sl ++ escB v).length ≤ (i + 1) * 8000000; exact hKe _ (by rw [List.length_append]; omega)⟩ (weak_st ⟨rfl, rfl, rfl, rfl, rfl, rfl, rfl, rfl, rfl, trivial⟩ ⟨rfl, trivial⟩) (show L.length - (i + 1) < L.length - i by omega)
      · have iq : (c.toNat : Int) ≠ 34 ∧ (c.toNat : Int) ≠ 39 := ⟨fun e => hq (.inl (UInt8.toNat_inj.1 (by rw [show (34 : UInt8).toNat = 34 from rfl]; omega))), fun e => hq (.inr (UInt8.toNat_inj.1 (by rw [show (39 : UInt8).toNat = 39 from rfl]; omega)))⟩
        rw [if_neg hq] at hwv
        have W2 := (writeString_e (out ++ sl) ([34] ++ escB v ++ [34]) (by simp only [List.length_append, List.length_cons, List.length_nil]; omega)).s
        repeat' (first | refine a_f ?_ | refine st_nil ?_ | refine tri_seq ?_ | refine tri_region rfl ?_ | refine a_draw ?_ | (apply st_r rfl; case hq => first | exact q_idxro (by conv => lhs; whnf) (by conv => lhs; whnf) (by first | exact Tryz.underlying22 | exact Tryz.underlying23 | exact Tryz.underlying43 | exact Tryz.underlying44 | exact Tryz.underlying51 | exact Tryz.underlying86 | exact Tryz.underlying191 | exact Tryz.underlying209 | exact Tryz.underlying234 | exact Tryz.underlying270 | exact Tryz.underlying281 | exact Tryz.underlying344) (by kernel_rfl) (by omega) hxr | exact q_idxro (by conv => lhs; whnf) (by conv => lhs; whnf) (by first | exact Tryz.underlying22 | exact Tryz.underlying23 | exact Tryz.underlying43 | exact Tryz.underlying44 | exact Tryz.underlying51 | exact Tryz.underlying86 | exact Tryz.underlying191 | exact Tryz.underlying209 | exact Tryz.underlying234 | exact Tryz.underlying270 | exact Tryz.underlying281 | exact Tryz.underlying344) (by kernel_rfl) (by omega) hvr | exact q_loadar (n := 3) (by conv => lhs; whnf) (by conv => lhs; whnf) (by first | rfl | exact Nat.le_of_ble_eq_true rfl | exact Nat.succ_pos _ | decide) (by kernel_rfl) (fun _ => rfl) | exact q_loadr (by conv => lhs; whnf) (by conv => lhs; whnf) (by show scalB Tryz.prog _ = true; decide +kernel) (fun _ => rfl) | exact q_slice_lhE (m' := a) (n' := p) (l := sl) (by conv => lhs; whnf) (by conv => lhs; whnf) (by conv => lhs; whnf) (by rfl) (by rfl) (by kernel_rfl) (by omega) (by omega) hcut | exact q_indexE (i' := p - 1) (c := c) (by conv => lhs; whnf) (by conv => lhs; whnf) (by omega) (by kernel_rfl) hg | exact q_call E1 (hcf := Tryz.call30) rfl rfl | exact q_adds (u := [34]) rfl (by conv => lhs; whnf) (by first | omega | (simp only [List.length_append, List.length_cons, List.length_nil, List.length_take, List.length_drop]; omega)) | exact q_adds (v := [34]) (by conv => lhs; whnf) rfl (by first | omega | (simp only [List.length_append, List.length_cons, List.length_nil, List.length_take, List.length_drop]; omega)) | exact a_lens | exact a_index | exact a_add | exact a_adds0 | exact a_addsc | exact a_adds | exact a_sub | exact a_slo | exact a_shi | exact a_slh | exact a_lensl | exact a_lenro | exact a_lennil | exact a_lenpts | exact a_field | exact a_fielde | exact a_fieldr | exact a_idxsl | exact a_load | exact a_loada | exact a_mki | exact a_build2 | exact a_build3 | exact a_build1 | exact a_build0 | exact a_bs1 | exact a_bs2 | exact a_bs3 | exact a_bs4 | exact a_bsa | exact a_boxr) | (apply st_rif rfl; (case hq => first | exact a_lss | exact a_gtr | exact a_eql | exact a_neq | exact a_eqls0 | exact a_neqs0 | exact a_eqls | exact a_neqs | exact a_leq | exact a_geq); all_goals (intro _; try (exfalso; first | omega | contradiction))) | (apply st_rw rfl rfl; case hq => first | exact w_alloc 103 (by first | exact zAt | exact zFault | exact zField | exact zParam | exact zLink | exact zPart | exact zReader) rfl rfl rfl | exact w_call (id := 100) W1 (hcf := Tryz.call44) (by rfl) rfl rfl rfl rfl rfl | exact w_call (id := 100) W2 (hcf := Tryz.call44) (by rfl) rfl rfl rfl rfl rfl | exact a_store) | refine tri_true rfl ?_ | refine tri_false rfl ?_ | refine tri_block ?_ | refine tri_skip ?_ | refine tri_ret ?_ | refine tri_exit ?_)
        all_goals exact loop_next (i + 1, p + lg, out ++ sl ++ ([34] ++ escB v ++ [34])) ⟨by show i + 1 ≤ _; omega, by simp only; rw [← hf, hwv]; simp, k4, by show (out ++ sl ++ ([34] ++ escB v ++ [34])).length ≤ (i + 1) * 8000000; exact hKe _ (by rw [List.length_append]; simp only [List.length_append, List.length_cons, List.length_nil] at hol ⊢; omega)⟩ (weak_st ⟨rfl, rfl, rfl, rfl, rfl, rfl, rfl, rfl, rfl, trivial⟩ ⟨rfl, trivial⟩) (show L.length - (i + 1) < L.length - i by omega)
    · have hid : L.drop i = [] := List.drop_eq_nil_of_le (by omega)
      rw [hid] at hf hk
      have hka : a ≤ s.length := hk
      simp only [repGo] at hf
      have S1 := (string_e out).s
      have hdl : (s.drop a).length ≤ s.length := by rw [List.length_drop]; omega
      repeat' (first | refine a_f ?_ | refine st_nil ?_ | refine tri_seq ?_ | refine tri_region rfl ?_ | refine tri_drawW (wrC 45) 0 [1, 2, 3] [1, 2, 3] [4, 5, 6] [0, 1, 2, 3, 4, 5, 6] rfl (by kernel_rfl) (by kernel_rfl) rfl ?_ | refine allB_c ?_ ?_ | exact allB_n | refine behind_s ?_ | refine a_draw ?_ | (apply st_r rfl; case hq => first | exact a_lens | exact a_index | exact a_add | exact a_adds0 | exact a_addsc | exact a_adds | exact a_sub | exact a_slo | exact a_shi | exact a_slh | exact a_lensl | exact a_lenro | exact a_lennil | exact a_lenpts | exact a_field | exact a_fielde | exact a_fieldr | exact a_idxsl | exact a_load | exact a_loada | exact a_mki | exact a_build2 | exact a_build3 | exact a_build1 | exact a_build0 | exact a_bs1 | exact a_bs2 | exact a_bs3 | exact a_bs4 | exact a_bsa | exact a_boxr) | (apply st_rif rfl; (case hq => first | exact a_lss | exact a_gtr | exact a_eql | exact a_neq | exact a_eqls0 | exact a_neqs0 | exact a_eqls | exact a_neqs | exact a_leq | exact a_geq); all_goals (intro _; try (exfalso; first | omega | contradiction))) | (apply st_rw rfl rfl; case hq => first | exact w_call (id := 100) S1 (hcf := Tryz.call45) (by rfl) rfl rfl rfl rfl rfl | exact a_store) | refine tri_true rfl ?_ | refine tri_false rfl ?_ | refine tri_block ?_ | refine tri_skip ?_ | refine tri_ret ?_ | refine tri_exit ?_)
      all_goals
        refine And.intro trivial ?_
        conv => lhs; whnf
        rw [← hf]
        rfl
  · rw [if_neg hlen]
    repeat' (first | refine a_f ?_ | refine st_nil ?_ | refine tri_seq ?_ | refine tri_region rfl ?_ | refine a_draw ?_ | (apply st_r rfl; case hq => first | exact q_call L1 (hcf := Tryz.call19) rfl rfl | exact a_lens | exact a_index | exact a_add | exact a_adds0 | exact a_addsc | exact a_adds | exact a_sub | exact a_slo | exact a_shi | exact a_slh | exact a_lensl | exact a_lenro | exact a_lennil | exact a_lenpts | exact a_field | exact a_fielde | exact a_fieldr | exact a_idxsl | exact a_load | exact a_loada | exact a_mki | exact a_build2 | exact a_build3 | exact a_build1 | exact a_build0 | exact a_bs1 | exact a_bs2 | exact a_bs3 | exact a_bs4 | exact a_bsa | exact a_boxr) | (apply st_rif rfl; (case hq => first | exact a_lss | exact a_gtr | exact a_eql | exact a_neq | exact a_eqls0 | exact a_neqs0 | exact a_eqls | exact a_neqs | exact a_leq | exact a_geq); all_goals (intro _; try (exfalso; first | omega | contradiction))) | (apply st_rw rfl rfl; case hq => first | exact a_store) | refine tri_true rfl ?_ | refine tri_false rfl ?_ | refine tri_block ?_ | refine tri_skip ?_ | refine tri_ret ?_ | refine tri_exit ?_)
    refine And.intro trivial ?_
    conv => lhs; whnf
    rfl
end Go.Proofs.YtignjjnflcpiiaaGreatDoor
