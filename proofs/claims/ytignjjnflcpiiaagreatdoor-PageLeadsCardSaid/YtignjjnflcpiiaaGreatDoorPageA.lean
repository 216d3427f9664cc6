/- A page's small functions: runs of letters, names among some, words. -/
import Derived.Test.YtignjjnflcpiiaaGreatDoorHeadE
import Derived.Test.YtignjjnflcpiiaaGreatDoorIdx
import Derived.Test.YtignjjnflcpiiaaGreatDoorPageP
import Derived.Test.YtignjjnflcpiiaaGreatDoorBld
import Derived.Test.YtignjjnflcpiiaaGreatDoorVm4
set_option linter.unusedVariables false
set_option linter.unusedSimpArgs false
set_option maxHeartbeats 1000000
namespace Go.Proofs.YtignjjnflcpiiaaGreatDoor
open Go.RowKit

/-! what is known of page.signs -/
def signL : List (B × B) := [([38], ampW), ([34], quotW), ([39], aposW), ([60], ltW), ([62], gtW)]
def signV (i j : Nat) : Value := .string ⟨(match j with
  | 0 => (signL.getD i ([], [])).1
  | _ => (signL.getD i ([], [])).2).toArray⟩
def SignVar (w : World) : Prop := ∀ i, i < 5 → ∀ j, j < 2 → w.cell? ⟨0, 0 + i * 2 + j, none⟩ = some (signV i j)
noncomputable def gxs : Gx := { gx with G := fun w => GOk w ∧ SignVar w, hG := fun w w' h hw => ⟨gx.hG w w' h.1 hw, fun i hi j hj => cell_low (h.2 i hi j hj) (by decide) hw⟩ }
theorem CPure.s {f : FuncId} {az : List AV} {res : AV} (h : CPure gx f az res) : CPure gxs f az res := h.sub fun _ h => h.1
theorem CEff.s {f : FuncId} {o : AObj} {az : List AV} {o' : Option AObj} {res : AV} (h : CEff gx f o az o' res) : CEff gxs f o az o' res := h.sub fun _ h => h.1
theorem CNew.sub {X : Gx} {G : World → Prop} {hG : ∀ w w' : World, G w → (∀ k, k < X.nG → w'.heap[k]? = w.heap[k]?) → G w'} {f : FuncId} {az : List AV} {cells : List AV} (h : CNew X f az cells) (hs : ∀ w, G w → X.G w) : CNew { X with G := G, hG := hG } f az cells :=
  fun w vs hg hn hl hr => h w vs (hs w hg) hn hl hr
theorem CNew.s {f : FuncId} {az cells : List AV} (h : CNew gx f az cells) : CNew gxs f az cells := h.sub fun _ h => h.1
/-- at an end the state may be told in another way -/
theorem tri_post {C : Cx} {c : Code} {σ : St} {Q : Exit → St → Prop} (h : Tri C c σ (fun e σ => ∃ σ', Weak C σ σ' ∧ Q e σ')) : Tri C c σ Q := fun γ a w s => by
  refine wp_mono (h γ a w s) ?_
  rintro e a w ⟨γ, σ, ⟨σ', hw, hq⟩, r⟩
  obtain ⟨γ', r'⟩ := hw γ a w r
  exact ⟨γ', σ', hq, r'⟩

theorem all8 {p : UInt8 → Prop} (h : ∀ n : Fin 256, p (UInt8.ofNat n.val)) : ∀ c, p c := fun c => by
  have := h ⟨c.toNat, c.toNat_lt⟩
  simpa using this
theorem trim_dw (s cs : B) (p : UInt8 → Bool) (h : ∀ c, cs.contains c = p c) : Lib.trimLeftS s cs = s.dropWhile p := by
  unfold Lib.trimLeftS
  congr 1
  funext c
  exact h c
def gapS : B := [32, 9, 13, 10]
def sepS : B := [32, 9, 13, 10, 47]
def anS : B := [65, 66, 67, 68, 69, 70, 71, 72, 73, 74, 75, 76, 77, 78, 79, 80, 81, 82, 83, 84, 85, 86, 87, 88, 89, 90, 97, 98, 99, 100, 101, 102, 103, 104, 105, 106, 107, 108, 109, 110, 111, 112, 113, 114, 115, 116, 117, 118, 119, 120, 121, 122, 48, 49, 50, 51, 52, 53, 54, 55, 56, 57]
def endS : B := [32, 9, 13, 10, 47, 61, 62]
def uvS : B := [32, 9, 13, 10, 62]
theorem gap_set : ∀ c, gapS.contains c = gapB c := all8 (by decide +kernel)
theorem sep_set : ∀ c, sepS.contains c = sepB c := all8 (by decide +kernel)
theorem an_set : ∀ c, anS.contains c = anB c := all8 (by decide +kernel)
theorem end_set : ∀ c, endS.contains c = endB c := all8 (by decide +kernel)
theorem uv_set : ∀ c, uvS.contains c = uvB c := all8 (by decide +kernel)
theorem low_lowC : ∀ c, lowC1 c = lowC c := all8 (by decide +kernel)
theorem lowP_low (s : B) : lowP s = lowB s := by
  unfold lowP lowB
  exact congrArg (fun f => s.map f) (funext low_lowC)
theorem pre_c (s p : B) : CPure gx 41 [.str s, .str p] (.bool (Lib.hasPrefix s p)) :=
  cpure_val rfl rfl fun w _ => (Tryz.strings_HasPrefix ⟨s.toArray⟩ ⟨p.toArray⟩ w).mono fun e w' h => ⟨h.1, h.2 ▸ ext_refl w⟩
section
attribute [local irreducible] Tri Steps Qd Wr Weak CPure CEff CNew CutN AllB Behind
set_option maxRecDepth 100000
theorem run_c (s cs : B) (p : UInt8 → Bool) (hp : ∀ c, cs.contains c = p c) (hs : s.length ≤ 100000000) (hc : cs.length ≤ 1000) (ha : cs.all (fun b => decide (b.toNat < 128)) = true) : CPure gx 98 [.str s, .str cs] (.int .i64 ((s.length : Int) - (s.dropWhile p).length)) := by
  refine cpure_of Tryz.func98 rfl (Nat.le_of_ble_eq_true rfl) rfl (fun w hw => ?_)
  have T1 := trimLeft_c s cs (by omega) (by omega) ha
  rw [trim_dw s cs p hp] at T1
  have hl := dwP_le p s
  repeat' (first | refine a_f ?_ | refine st_nil ?_ | refine tri_seq ?_ | refine tri_region rfl ?_ | refine a_draw ?_ | (apply st_r rfl; case hq => first | exact q_call T1 (hcf := Tryz.call61) rfl rfl | exact a_lens | exact a_index | exact a_add | exact a_adds0 | exact a_addsc | exact a_adds | exact a_sub | exact a_slo | exact a_shi | exact a_slh | exact a_lensl | exact a_lenro | exact a_lennil | exact a_lenpts | exact a_field | exact a_fielde | exact a_fieldr | exact a_idxsl | exact a_load | exact a_loada | exact a_mki | exact a_build2 | exact a_build3 | exact a_build1 | exact a_build0 | exact a_bs1 | exact a_bs2 | exact a_bs3 | exact a_bs4 | exact a_bsa | exact a_boxr) | (apply st_rif rfl; (case hq => first | exact a_lss | exact a_gtr | exact a_eql | exact a_neq | exact a_eqls0 | exact a_neqs0 | exact a_eqls | exact a_neqs | exact a_leq | exact a_geq); all_goals (intro _; try (exfalso; first | omega | contradiction))) | (apply st_rw rfl rfl; case hq => first | exact a_store) | refine tri_true rfl ?_ | refine tri_false rfl ?_ | refine tri_block ?_ | refine tri_skip ?_ | refine tri_ret ?_ | refine tri_exit ?_)
  refine And.intro trivial ?_
  rfl
theorem leads_c : CPure gx 184 [] (.agg [.str [98, 97, 99, 107, 103, 114, 111, 117, 110, 100], .str [104, 114, 101, 102], .str [115, 114, 99]]) := by
  refine cpure_of Tryz.func184 rfl (Nat.le_of_ble_eq_true rfl) rfl (fun w hw => ?_)
  have z3 : zeroL Tryz.prog 236 = some [.str [], .str [], .str []] := by kernel_rfl
  repeat' (first | refine a_f ?_ | refine st_nil ?_ | refine tri_seq ?_ | refine tri_region rfl ?_ | refine a_draw ?_ | (apply st_r rfl; case hq => first | exact q_build3 z3 rfl (by kernel_rfl) (by conv => lhs; whnf) (by conv => lhs; whnf) (by conv => lhs; whnf) rfl rfl rfl (by conv => lhs; whnf) | exact a_lens | exact a_index | exact a_add | exact a_adds0 | exact a_addsc | exact a_adds | exact a_sub | exact a_slo | exact a_shi | exact a_slh | exact a_lensl | exact a_lenro | exact a_lennil | exact a_lenpts | exact a_field | exact a_fielde | exact a_fieldr | exact a_idxsl | exact a_load | exact a_loada | exact a_mki | exact a_build2 | exact a_build3 | exact a_build1 | exact a_build0 | exact a_bs1 | exact a_bs2 | exact a_bs3 | exact a_bs4 | exact a_bsa | exact a_boxr) | (apply st_rif rfl; (case hq => first | exact a_lss | exact a_gtr | exact a_eql | exact a_neq | exact a_eqls0 | exact a_neqs0 | exact a_eqls | exact a_neqs | exact a_leq | exact a_geq); all_goals (intro _; try (exfalso; first | omega | contradiction))) | (apply st_rw rfl rfl; case hq => first | exact w_alloc 101 z3 rfl rfl rfl | exact a_store) | refine tri_true rfl ?_ | refine tri_false rfl ?_ | refine tri_block ?_ | refine tri_skip ?_ | refine tri_ret ?_ | refine tri_exit ?_)
  refine And.intro (And.intro ⟨101, _, rfl, rfl, by kernel_rfl⟩ trivial) ?_
  conv => lhs; whnf
  rfl
/-- the names, one by one -/
def nmRows (l : List B) : List (List AV) := l.map fun s => [.str s]
theorem nm_get {l : List B} {i : Nat} (h : i < l.length) : (nmRows l)[(i : Int).toNat]? = some [.str l[i]] := by
  rw [Int.toNat_natCast, nmRows, List.getElem?_map, List.getElem?_eq_getElem h]; rfl
theorem nm_len (l : List B) : (nmRows l).length = l.length := by simp [nmRows]
def nmIdx (s : B) : List B → Nat → Int
  | [], _ => -1
  | x :: r, i => if s = x then i else nmIdx s r (i + 1)
theorem nmIdx_any (s : B) : ∀ (l : List B) (i : Nat), decide (0 ≤ nmIdx s l i) = l.any (fun x => decide (s = x))
  | [], i => rfl
  | x :: r, i => by
    rw [List.any_cons, nmIdx]
    by_cases h : s = x
    · rw [if_pos h, decide_eq_true h, Bool.true_or, decide_eq_true (by omega)]
    · rw [if_neg h, decide_eq_false h, Bool.false_or]; exact nmIdx_any s r (i + 1)
set_option maxHeartbeats 2000000 in
theorem sindex_c (l : List B) (s : B) (hl : l.length ≤ 1000) : CPure gx 157 [.ro false 1 (nmRows l), .str s] (.int .i64 (nmIdx s l 0)) := by
  refine cpure_of Tryz.func157 rfl (Nat.le_of_ble_eq_true rfl) rfl (fun w hw => ?_)
  have hnl := nm_len l
  repeat' (first | refine a_f ?_ | refine st_nil ?_ | refine tri_seq ?_ | refine tri_region rfl ?_ | refine a_draw ?_ | (apply st_r rfl; case hq => first | exact a_lens | exact a_index | exact a_add | exact a_adds0 | exact a_addsc | exact a_adds | exact a_sub | exact a_slo | exact a_shi | exact a_slh | exact a_lensl | exact a_lenro | exact a_lennil | exact a_lenpts | exact a_field | exact a_fielde | exact a_fieldr | exact a_idxsl | exact a_load | exact a_loada | exact a_mki | exact a_build2 | exact a_build3 | exact a_build1 | exact a_build0 | exact a_bs1 | exact a_bs2 | exact a_bs3 | exact a_bs4 | exact a_bsa | exact a_boxr) | (apply st_rif rfl; (case hq => first | exact a_lss | exact a_gtr | exact a_eql | exact a_neq | exact a_eqls0 | exact a_neqs0 | exact a_eqls | exact a_neqs | exact a_leq | exact a_geq); all_goals (intro _; try (exfalso; first | omega | contradiction))) | (apply st_rw rfl rfl; case hq => first | exact a_store) | refine tri_true rfl ?_ | refine tri_false rfl ?_ | refine tri_block ?_ | refine tri_skip ?_ | refine tri_ret ?_ | refine tri_exit ?_)
  refine tri_loop (fun (i : Nat) => i ≤ l.length ∧ nmIdx s l 0 = nmIdx s (l.drop i) i) (fun i => st [(0, .ro false 1 (nmRows l)), (1, .str s), (4, .int .i64 0), (7, .int .i64 (nmRows l).length), (8, .int .i64 i)] []) (fun i => l.length - i) 0 ⟨Nat.zero_le _, rfl⟩ ?hw (fun i hi => ?_)
  case hw => exact weak_st ⟨rfl, rfl, rfl, rfl, rfl, trivial⟩ trivial
  obtain ⟨hi, hf⟩ := hi
  by_cases hil : i < l.length
  · have g0 := nm_get hil
    rw [List.drop_eq_getElem_cons hil, nmIdx] at hf
    generalize l[i] = x at g0 hf
    by_cases hx : s = x
    all_goals
      repeat' (first | refine a_f ?_ | refine st_nil ?_ | refine tri_seq ?_ | refine tri_region rfl ?_ | refine a_draw ?_ | (apply st_r rfl; case hq => first | exact q_idxro (by conv => lhs; whnf) (by conv => lhs; whnf) (by first | exact Tryz.underlying22 | exact Tryz.underlying23 | exact Tryz.underlying43 | exact Tryz.underlying44 | exact Tryz.underlying51 | exact Tryz.underlying86 | exact Tryz.underlying191 | exact Tryz.underlying209 | exact Tryz.underlying234 | exact Tryz.underlying270 | exact Tryz.underlying281 | exact Tryz.underlying344) (by kernel_rfl) (by omega) g0 | exact q_loadr (by conv => lhs; whnf) (by conv => lhs; whnf) (by show scalB Tryz.prog _ = true; decide +kernel) (fun _ => rfl) | exact a_lens | exact a_index | exact a_add | exact a_adds0 | exact a_addsc | exact a_adds | exact a_sub | exact a_slo | exact a_shi | exact a_slh | exact a_lensl | exact a_lenro | exact a_lennil | exact a_lenpts | exact a_field | exact a_fielde | exact a_fieldr | exact a_idxsl | exact a_load | exact a_loada | exact a_mki | exact a_build2 | exact a_build3 | exact a_build1 | exact a_build0 | exact a_bs1 | exact a_bs2 | exact a_bs3 | exact a_bs4 | exact a_bsa | exact a_boxr) | (apply st_rif rfl; (case hq => first | exact a_lss | exact a_gtr | exact a_eql | exact a_neq | exact a_eqls0 | exact a_neqs0 | exact a_eqls | exact a_neqs | exact a_leq | exact a_geq); all_goals (intro _; try (exfalso; first | omega | contradiction))) | (apply st_rw rfl rfl; case hq => first | exact a_store) | refine tri_true rfl ?_ | refine tri_false rfl ?_ | refine tri_block ?_ | refine tri_skip ?_ | refine tri_ret ?_ | refine tri_exit ?_)
    · refine And.intro trivial ?_
      conv => lhs; whnf
      rw [hf, if_pos hx]
    · exact loop_next (i + 1) ⟨by omega, by rw [hf, if_neg hx]⟩ (weak_st ⟨rfl, rfl, rfl, rfl, rfl, trivial⟩ trivial) (show l.length - (i + 1) < l.length - i by omega)
  · repeat' (first | refine a_f ?_ | refine st_nil ?_ | refine tri_seq ?_ | refine tri_region rfl ?_ | refine a_draw ?_ | (apply st_r rfl; case hq => first | exact a_lens | exact a_index | exact a_add | exact a_adds0 | exact a_addsc | exact a_adds | exact a_sub | exact a_slo | exact a_shi | exact a_slh | exact a_lensl | exact a_lenro | exact a_lennil | exact a_lenpts | exact a_field | exact a_fielde | exact a_fieldr | exact a_idxsl | exact a_load | exact a_loada | exact a_mki | exact a_build2 | exact a_build3 | exact a_build1 | exact a_build0 | exact a_bs1 | exact a_bs2 | exact a_bs3 | exact a_bs4 | exact a_bsa | exact a_boxr) | (apply st_rif rfl; (case hq => first | exact a_lss | exact a_gtr | exact a_eql | exact a_neq | exact a_eqls0 | exact a_neqs0 | exact a_eqls | exact a_neqs | exact a_leq | exact a_geq); all_goals (intro _; try (exfalso; first | omega | contradiction))) | (apply st_rw rfl rfl; case hq => first | exact a_store) | refine tri_true rfl ?_ | refine tri_false rfl ?_ | refine tri_block ?_ | refine tri_skip ?_ | refine tri_ret ?_ | refine tri_exit ?_)
    refine And.intro trivial ?_
    conv => lhs; whnf
    rw [hf, List.drop_eq_nil_of_le (by omega)]
    rfl
theorem scont_c (l : List B) (s : B) (hl : l.length ≤ 1000) : CPure gx 101 [.ro false 1 (nmRows l), .str s] (.bool (l.any (fun x => decide (s = x)))) := by
  refine cpure_of Tryz.func101 rfl (Nat.le_of_ble_eq_true rfl) rfl (fun w hw => ?_)
  have I1 := sindex_c l s hl
  have ha := nmIdx_any s l 0
  generalize nmIdx s l 0 = n at I1 ha
  by_cases h0 : 0 ≤ n
  all_goals
    repeat' (first | refine a_f ?_ | refine st_nil ?_ | refine tri_seq ?_ | refine tri_region rfl ?_ | refine a_draw ?_ | (apply st_r rfl; case hq => first | exact q_call I1 (hcf := Tryz.call157) rfl rfl | exact a_lens | exact a_index | exact a_add | exact a_adds0 | exact a_addsc | exact a_adds | exact a_sub | exact a_slo | exact a_shi | exact a_slh | exact a_lensl | exact a_lenro | exact a_lennil | exact a_lenpts | exact a_field | exact a_fielde | exact a_fieldr | exact a_idxsl | exact a_load | exact a_loada | exact a_mki | exact a_build2 | exact a_build3 | exact a_build1 | exact a_build0 | exact a_bs1 | exact a_bs2 | exact a_bs3 | exact a_bs4 | exact a_bsa | exact a_boxr) | (apply st_rif rfl; (case hq => first | exact a_lss | exact a_gtr | exact a_eql | exact a_neq | exact a_eqls0 | exact a_neqs0 | exact a_eqls | exact a_neqs | exact a_leq | exact a_geq); all_goals (intro _; try (exfalso; first | omega | contradiction))) | (apply st_rw rfl rfl; case hq => first | exact a_store) | refine tri_true rfl ?_ | refine tri_false rfl ?_ | refine tri_block ?_ | refine tri_skip ?_ | refine tri_ret ?_ | refine tri_exit ?_)
  all_goals
    refine And.intro trivial ?_
    conv => lhs; whnf
    rw [← ha]
  · rw [decide_eq_true h0]
  · rw [decide_eq_false h0]
theorem raws_c : CPure gx 100 [] (.agg [.str [115, 99, 114, 105, 112, 116], .str [115, 116, 121, 108, 101], .str [116, 101, 120, 116, 97, 114, 101, 97], .str [116, 105, 116, 108, 101]]) := by
  refine cpure_of Tryz.func100 rfl (Nat.le_of_ble_eq_true rfl) rfl (fun w hw => ?_)
  have z4 : zeroL Tryz.prog 149 = some [.str [], .str [], .str [], .str []] := by kernel_rfl
  repeat' (first | refine a_f ?_ | refine st_nil ?_ | refine tri_seq ?_ | refine tri_region rfl ?_ | refine a_draw ?_ | (apply st_r rfl; case hq => first | exact q_build z4 rfl (by kernel_rfl) (by rfl) (by rfl) (by rfl) | exact a_lens | exact a_index | exact a_add | exact a_adds0 | exact a_addsc | exact a_adds | exact a_sub | exact a_slo | exact a_shi | exact a_slh | exact a_lensl | exact a_lenro | exact a_lennil | exact a_lenpts | exact a_field | exact a_fielde | exact a_fieldr | exact a_idxsl | exact a_load | exact a_loada | exact a_mki | exact a_build2 | exact a_build3 | exact a_build1 | exact a_build0 | exact a_bs1 | exact a_bs2 | exact a_bs3 | exact a_bs4 | exact a_bsa | exact a_boxr) | (apply st_rif rfl; (case hq => first | exact a_lss | exact a_gtr | exact a_eql | exact a_neq | exact a_eqls0 | exact a_neqs0 | exact a_eqls | exact a_neqs | exact a_leq | exact a_geq); all_goals (intro _; try (exfalso; first | omega | contradiction))) | (apply st_rw rfl rfl; case hq => first | exact w_alloc 101 z4 rfl rfl rfl | exact a_store) | refine tri_true rfl ?_ | refine tri_false rfl ?_ | refine tri_block ?_ | refine tri_skip ?_ | refine tri_ret ?_ | refine tri_exit ?_)
  refine And.intro (And.intro ⟨101, _, rfl, rfl, by kernel_rfl⟩ trivial) ?_
  conv => lhs; whnf
  rfl
def leadL : List B := [[98, 97, 99, 107, 103, 114, 111, 117, 110, 100], [104, 114, 101, 102], [115, 114, 99]]
def rawL : List B := [[115, 99, 114, 105, 112, 116], [115, 116, 121, 108, 101], [116, 101, 120, 116, 97, 114, 101, 97], [116, 105, 116, 108, 101]]
theorem leadL_any (s : B) : leadL.any (fun x => decide (s = x)) = leadB s := by simp [leadL, leadB]
theorem rawL_any (s : B) : rawL.any (fun x => decide (s = x)) = rawB s := by simp [rawL, rawB]
/-! words -/
theorem sgn1_c (a b s : B) : CPure gx 207 [.agg [.str a, .str b], .rptr false [.str s]] (.bool (Lib.hasPrefix s b)) := by
  refine cpure_of Tryz.func207 rfl (Nat.le_of_ble_eq_true rfl) rfl (fun w hw => ?_)
  have P1 := pre_c s b
  repeat' (first | refine a_f ?_ | refine st_nil ?_ | refine tri_seq ?_ | refine tri_region rfl ?_ | refine a_draw ?_ | (apply st_r rfl; case hq => first | exact q_call P1 (hcf := Tryz.call41) rfl rfl | exact q_idxarrr (by conv => lhs; whnf) (by conv => lhs; whnf) Tryz.underlying109 (by kernel_rfl) (by decide) (by decide) (by first | rfl | exact Nat.le_of_ble_eq_true rfl | exact Nat.succ_pos _ | decide) | exact q_loadr (by conv => lhs; whnf) (by conv => lhs; whnf) (by show scalB Tryz.prog _ = true; decide +kernel) (fun _ => rfl) | exact a_lens | exact a_index | exact a_add | exact a_adds0 | exact a_addsc | exact a_adds | exact a_sub | exact a_slo | exact a_shi | exact a_slh | exact a_lensl | exact a_lenro | exact a_lennil | exact a_lenpts | exact a_field | exact a_fielde | exact a_fieldr | exact a_idxsl | exact a_load | exact a_loada | exact a_mki | exact a_build2 | exact a_build3 | exact a_build1 | exact a_build0 | exact a_bs1 | exact a_bs2 | exact a_bs3 | exact a_bs4 | exact a_bsa | exact a_boxr) | (apply st_rif rfl; (case hq => first | exact a_lss | exact a_gtr | exact a_eql | exact a_neq | exact a_eqls0 | exact a_neqs0 | exact a_eqls | exact a_neqs | exact a_leq | exact a_geq); all_goals (intro _; try (exfalso; first | omega | contradiction))) | (apply st_rw rfl rfl; case hq => first | exact a_store) | refine tri_true rfl ?_ | refine tri_false rfl ?_ | refine tri_block ?_ | refine tri_skip ?_ | refine tri_ret ?_ | refine tri_exit ?_)
  refine And.intro trivial ?_
  conv => lhs; whnf
def signRows : List (List AV) := signL.map fun x => [.str x.1, .str x.2]
def sgIdx (s : B) : List (B × B) → Nat → Int
  | [], _ => -1
  | x :: r, i => if Lib.hasPrefix s x.2 = true then i else sgIdx s r (i + 1)
set_option maxHeartbeats 2000000 in
theorem gindex_c (s : B) : CPure gx 206 [.ro false 2 signRows, .clo 207 [.rptr false [.str s]]] (.int .i64 (sgIdx s signL 0)) := by
  refine cpure_of Tryz.func206 rfl (Nat.le_of_ble_eq_true rfl) rfl (fun w hw => ?_)
  have hnl : signRows.length = 5 := rfl
  have hgl : signL.length = 5 := rfl
  repeat' (first | refine a_f ?_ | refine st_nil ?_ | refine tri_seq ?_ | refine tri_region rfl ?_ | refine a_draw ?_ | (apply st_r rfl; case hq => first | exact a_lens | exact a_index | exact a_add | exact a_adds0 | exact a_addsc | exact a_adds | exact a_sub | exact a_slo | exact a_shi | exact a_slh | exact a_lensl | exact a_lenro | exact a_lennil | exact a_lenpts | exact a_field | exact a_fielde | exact a_fieldr | exact a_idxsl | exact a_load | exact a_loada | exact a_mki | exact a_build2 | exact a_build3 | exact a_build1 | exact a_build0 | exact a_bs1 | exact a_bs2 | exact a_bs3 | exact a_bs4 | exact a_bsa | exact a_boxr) | (apply st_rif rfl; (case hq => first | exact a_lss | exact a_gtr | exact a_eql | exact a_neq | exact a_eqls0 | exact a_neqs0 | exact a_eqls | exact a_neqs | exact a_leq | exact a_geq); all_goals (intro _; try (exfalso; first | omega | contradiction))) | (apply st_rw rfl rfl; case hq => first | exact a_store) | refine tri_true rfl ?_ | refine tri_false rfl ?_ | refine tri_block ?_ | refine tri_skip ?_ | refine tri_ret ?_ | refine tri_exit ?_)
  refine tri_loop (fun (i : Nat) => i ≤ signL.length ∧ sgIdx s signL 0 = sgIdx s (signL.drop i) i) (fun i => st [(0, .ro false 2 signRows), (1, .clo 207 [.rptr false [.str s]]), (4, .int .i64 0), (7, .int .i64 signRows.length), (8, .int .i64 i)] []) (fun i => signL.length - i) 0 ⟨Nat.zero_le _, rfl⟩ ?hw (fun i hi => ?_)
  case hw => exact weak_st ⟨rfl, rfl, rfl, rfl, rfl, trivial⟩ trivial
  obtain ⟨hi, hf⟩ := hi
  by_cases hil : i < signL.length
  · have g0 : signRows[(i : Int).toNat]? = some [.str signL[i].1, .str signL[i].2] := by
      rw [Int.toNat_natCast, signRows, List.getElem?_map, List.getElem?_eq_getElem hil]; rfl
    rw [List.drop_eq_getElem_cons hil, sgIdx] at hf
    generalize signL[i] = x at g0 hf
    have S1 := sgn1_c x.1 x.2 s
    cases hx : Lib.hasPrefix s x.2 <;> rw [hx] at S1 hf
    all_goals
      repeat' (first | refine a_f ?_ | refine st_nil ?_ | refine tri_seq ?_ | refine tri_region rfl ?_ | refine a_draw ?_ | (apply st_r rfl; case hq => first | exact q_idxro (by conv => lhs; whnf) (by conv => lhs; whnf) (by first | exact Tryz.underlying22 | exact Tryz.underlying23 | exact Tryz.underlying43 | exact Tryz.underlying44 | exact Tryz.underlying51 | exact Tryz.underlying86 | exact Tryz.underlying191 | exact Tryz.underlying209 | exact Tryz.underlying234 | exact Tryz.underlying270 | exact Tryz.underlying281 | exact Tryz.underlying344) (by kernel_rfl) (by omega) g0 | exact q_loadar (n := 2) (by conv => lhs; whnf) (by conv => lhs; whnf) (by first | rfl | exact Nat.le_of_ble_eq_true rfl | exact Nat.succ_pos _ | decide) (by kernel_rfl) (fun _ => rfl) | exact q_callclo (by conv => lhs; whnf) S1 (hcf := Tryz.call207) rfl rfl | exact a_lens | exact a_index | exact a_add | exact a_adds0 | exact a_addsc | exact a_adds | exact a_sub | exact a_slo | exact a_shi | exact a_slh | exact a_lensl | exact a_lenro | exact a_lennil | exact a_lenpts | exact a_field | exact a_fielde | exact a_fieldr | exact a_idxsl | exact a_load | exact a_loada | exact a_mki | exact a_build2 | exact a_build3 | exact a_build1 | exact a_build0 | exact a_bs1 | exact a_bs2 | exact a_bs3 | exact a_bs4 | exact a_bsa | exact a_boxr) | (apply st_rif rfl; (case hq => first | exact a_lss | exact a_gtr | exact a_eql | exact a_neq | exact a_eqls0 | exact a_neqs0 | exact a_eqls | exact a_neqs | exact a_leq | exact a_geq); all_goals (intro _; try (exfalso; first | omega | contradiction))) | (apply st_rw rfl rfl; case hq => first | exact a_store) | refine tri_true rfl ?_ | refine tri_false rfl ?_ | refine tri_block ?_ | refine tri_skip ?_ | refine tri_ret ?_ | refine tri_exit ?_)
    · exact loop_next (i + 1) ⟨by omega, by rw [hf, if_neg Bool.false_ne_true]⟩ (weak_st ⟨rfl, rfl, rfl, rfl, rfl, trivial⟩ trivial) (show signL.length - (i + 1) < signL.length - i by omega)
    · refine And.intro trivial ?_
      conv => lhs; whnf
      rw [hf, if_pos rfl]
  · repeat' (first | refine a_f ?_ | refine st_nil ?_ | refine tri_seq ?_ | refine tri_region rfl ?_ | refine a_draw ?_ | (apply st_r rfl; case hq => first | exact a_lens | exact a_index | exact a_add | exact a_adds0 | exact a_addsc | exact a_adds | exact a_sub | exact a_slo | exact a_shi | exact a_slh | exact a_lensl | exact a_lenro | exact a_lennil | exact a_lenpts | exact a_field | exact a_fielde | exact a_fieldr | exact a_idxsl | exact a_load | exact a_loada | exact a_mki | exact a_build2 | exact a_build3 | exact a_build1 | exact a_build0 | exact a_bs1 | exact a_bs2 | exact a_bs3 | exact a_bs4 | exact a_bsa | exact a_boxr) | (apply st_rif rfl; (case hq => first | exact a_lss | exact a_gtr | exact a_eql | exact a_neq | exact a_eqls0 | exact a_neqs0 | exact a_eqls | exact a_neqs | exact a_leq | exact a_geq); all_goals (intro _; try (exfalso; first | omega | contradiction))) | (apply st_rw rfl rfl; case hq => first | exact a_store) | refine tri_true rfl ?_ | refine tri_false rfl ?_ | refine tri_block ?_ | refine tri_skip ?_ | refine tri_ret ?_ | refine tri_exit ?_)
    refine And.intro trivial ?_
    conv => lhs; whnf
    rw [hf, List.drop_eq_nil_of_le (by omega)]
    rfl
end
end Go.Proofs.YtignjjnflcpiiaaGreatDoor
