/- All links of a page: page.Links. -/
import Derived.Test.YtignjjnflcpiiaaGreatDoorPageE
set_option linter.unusedVariables false
set_option linter.unusedSimpArgs false
set_option maxHeartbeats 1000000
namespace Go.Proofs.YtignjjnflcpiiaaGreatDoor
open Go.RowKit
set_option maxRecDepth 100000

/-! the scanner's cells, read and written while it is a nest -/
theorem wr_weakL {C : Cx} {o : Oper} {σ σ1 σ2 : St} (hw : Weak C σ σ1) (h : Wr C o σ1 σ2) : Wr C o σ σ2 := fun γ a w s => let ⟨γ', s'⟩ := hw γ a w s; h γ' a w s'
theorem wr_weakR {C : Cx} {o : Oper} {σ σ1 σ2 : St} (h : Wr C o σ σ1) (hw : Weak C σ1 σ2) : Wr C o σ σ2 := fun γ a w s => wp_exits (h γ a w s) (fun a w ⟨γ', s'⟩ => hw γ' a w s')
section
variable {C : Cx} {σ : St} {ty : TypeId} {pos : String} {af : Array Edge} {g : Option (Nat × Bool)} {x y : Operand} {t : TypeId}
theorem q_loadn {d : Option Nat} {id fo k e sz : Nat} {cells : List AV} {rows : List (List AV)} {v : AV} (hx : σ.ev x = .ptr id fo) (ho : σ.heap id = some (.nest cells k e sz rows)) (hv : cells[fo]? = some v) (hno : (match v with | .any => false | _ => true) = true) (ht : scalB C.P t = true) : Qd C ⟨d, .load t x, ty, pos, af, g⟩ σ v := qd_of fun γ a w hh he => by
  have e1 := he x (by simp [Op.operands])
  rw [hx] at e1
  obtain ⟨b, h1, h2⟩ := e1.ptr_inv
  obtain ⟨b', c, te, v', cs, hg, hhp, hcs, hck, hcr, _⟩ := hh.obj id _ ho
  rw [hg] at h1
  injection h1 with h1
  injection h1 with h1
  injection h1 with h1
  subst h1
  obtain ⟨hf, hfe⟩ := List.getElem?_eq_some_iff.1 hv
  obtain ⟨u, hu, hr⟩ := hcr fo hf
  rw [hfe] at hr
  have hc : w.cell? ⟨b', fo, none⟩ = some u := by rw [Lib.cell_of_heap hhp]; exact hu
  refine ⟨u, w, by simp [execOp, h2, Instr.loadAt, Instr.sureAddr, run_load_scal ht hc], ext_refl w, ?_⟩
  cases hr with
  | any v => exact .any _ _
  | bool b => exact .bool _ _
  | int k n => exact .int _ _ _
  | str s => exact .str _ _
/-- the scanner's place is set -/
theorem w_scat {nx ny id : Nat} {s : B} {p q : Int} {l : List Lk} (hx : σ.env nx = .ptr id 1) (hy : σ.env ny = .int .i64 q) (ho : σ.heap id = some (scO s p l)) (hne : id ≠ 101) (hpin : C.pin 101 = none) (hs : sizeB C.P t 1 = true) :
    Wr C ⟨none, .store t (.tmp nx) (.tmp ny), ty, pos, af, g⟩ σ ((((((σ.kill 101).set 101 (some (.rows LkT 3 (lkRows l)))).set id (some (.box [.str s, .int .i64 p, .sl 101]))).set id (some (.box [.str s, .int .i64 q, .sl 101]))).kill 101).set id (some (scO s q l))) := by
  have hk : ∀ n, ((((σ.kill 101).set 101 (some (.rows LkT 3 (lkRows l)))).set id (some (.box [.str s, .int .i64 p, .sl 101]))).env n) = (σ.env n).kill 101 := fun n => rfl
  have hb : ∀ {H : Heap} {o : AObj}, (fun i => match Nat.beq i id with | true => some o | false => H i) id = some o := fun {H o} => by simp only [Nat.beq_refl]
  have hne2 : Nat.beq 101 id = false := beq_ne (Ne.symm hne)
  have h101 : (((((σ.kill 101).set 101 (some (.rows LkT 3 (lkRows l)))).set id (some (.box [.str s, .int .i64 p, .sl 101]))).set id (some (.box [.str s, .int .i64 q, .sl 101])))).heap 101 = some (.rows LkT 3 (lkRows l)) := by
    simp [St.set, St.kill, hne2]
  refine wr_weakR (wr_weakL (weak_unnest id 101 (k := 2) (cells := [.str s, .int .i64 p, .any]) ho hne hpin) (w_store (id := id) (fo := 1) (cells := [.str s, .int .i64 p, .sl 101]) (v := .int .i64 q) (n := 1) ?_ hb ?_ rfl hs rfl (by simp) rfl)) (weak_nest id 101 2 (cells := [.str s, .int .i64 q, .sl 101]) (rows := lkRows l) hb rfl h101 hne rfl)
  · show (σ.env nx).kill 101 = _
    rw [hx]
    show (match Nat.beq id 101 with | true => AV.any | false => _) = _
    rw [beq_ne hne]
  · show (σ.env ny).kill 101 = _
    rw [hy]; rfl
/-- what the scanner has found -/
theorem w_scout {nx d id : Nat} {s : B} {p : Int} {l : List Lk} (hx : σ.env nx = .ptr id 2) (ho : σ.heap id = some (scO s p l)) (hne : id ≠ 101) (hpin : C.pin 101 = none) (ht : scalB C.P t = true) (hd : Nat.blt d C.n = true) :
    Wr C ⟨some d, .load t (.tmp nx), ty, pos, af, g⟩ σ ((((σ.kill 101).set 101 (some (.rows LkT 3 (lkRows l)))).set id (some (.box [.str s, .int .i64 p, .sl 101]))).put d (.sl 101)) := by
  have hb : ∀ {H : Heap} {o : AObj}, (fun i => match Nat.beq i id with | true => some o | false => H i) id = some o := fun {H o} => by simp only [Nat.beq_refl]
  refine wr_weakL (weak_unnest id 101 (k := 2) (cells := [.str s, .int .i64 p, .any]) ho hne hpin) (fun γ a w s' => ?_)
  have hq : Qd C ⟨some d, .load t (.tmp nx), ty, pos, af, g⟩ (((σ.kill 101).set 101 (some (.rows LkT 3 (lkRows l)))).set id (some (.box [.str s, .int .i64 p, .sl 101]))) (.sl 101) := q_load (id := id) (fo := 2) (cells := [.str s, .int .i64 p, .sl 101]) (by
    show (σ.env nx).kill 101 = _
    rw [hx]
    show (match Nat.beq id 101 with | true => AV.any | false => _) = _
    rw [beq_ne hne]) hb rfl ht
  refine wp_exits (hq γ _ a w s' rfl (fun _ _ => rfl)) ?_
  rintro a' w' ⟨v, rfl, he, hv⟩
  exact ⟨γ, (s'.ext he).put (some d) (fun k hk => by cases hk; exact blt_lt hd) hv⟩
end
theorem zScan : zeroL Tryz.prog 82 = some [.str [], .int .i64 0, .nils] := by kernel_rfl
theorem ltrs_take : (anS.take 52) = [65, 66, 67, 68, 69, 70, 71, 72, 73, 74, 75, 76, 77, 78, 79, 80, 81, 82, 83, 84, 85, 86, 87, 88, 89, 90, 97, 98, 99, 100, 101, 102, 103, 104, 105, 106, 107, 108, 109, 110, 111, 112, 113, 114, 115, 116, 117, 118, 119, 120, 121, 122] := by decide
theorem al_ib : ∀ c : UInt8, decide (0 ≤ Lib.indexByte (anS.take 52) c) = alB c := all8 (by decide +kernel)
theorem skip_suf (o r : B) : skipW o r <:+ r := by
  unfold skipW
  split
  · exact List.nil_suffix
  · exact List.drop_suffix _ _
theorem tagF_suf (n : Nat) (r : B) : (tagF n r).2 <:+ r ∧ (tagF n r).1.length + (tagF n r).2.length ≤ r.length := by
  obtain ⟨a1, a2⟩ := attrsF_suf n _ (r.dropWhile anB) (Nat.le_refl _)
  have h0 := suf_dw anB r
  have hl := dwP_le anB r
  unfold tagF
  simp only
  split
  · have := rawSkip_suf (lowP (r.takeWhile anB)) (attrsF n (r.dropWhile anB)).2
    exact ⟨(this.trans a1).trans h0, by have := this.length_le; omega⟩
  · exact ⟨a1.trans h0, by omega⟩
section
attribute [local irreducible] Tri Steps Qd Wr Weak CPure CEff CNew CutN AllB Behind
set_option maxHeartbeats 8000000 in
theorem links_c (s : B) (hs : s.length ≤ 100000000) : CPure gxs 19 [.str s] (.ro true 3 (lkRows (linksF s.length s))) := by
  refine cpure_of Tryz.func19 rfl (Nat.le_of_ble_eq_true rfl) rfl (fun w hw => ?_)
  refine tri_cutN (fun (_ : Unit) => True) (fun _ => st [(0, .str s), (2, .nils), (3, .ptr 100 0)] [(100, scO s (posF s s) [])]) 2 ?_ (fun _ _ => ?_)
  · repeat' (first | refine a_f ?_ | refine st_nil ?_ | refine tri_seq ?_ | refine tri_region rfl ?_ | refine cut_s ?_ | refine a_draw ?_ | (apply st_r rfl; case hq => first | exact q_build1 zScan rfl (by kernel_rfl) (by conv => lhs; whnf) rfl (by conv => lhs; whnf) | exact a_lens | exact a_index | exact a_add | exact a_adds0 | exact a_addsc | exact a_adds | exact a_sub | exact a_slo | exact a_shi | exact a_slh | exact a_lensl | exact a_lenro | exact a_lennil | exact a_lenpts | exact a_field | exact a_fielde | exact a_fieldr | exact a_idxsl | exact a_load | exact a_loada | exact a_mki | exact a_build2 | exact a_build3 | exact a_build1 | exact a_build0 | exact a_bs1 | exact a_bs2 | exact a_bs3 | exact a_bs4 | exact a_bsa | exact a_boxr) | (apply st_rif rfl; (case hq => first | exact a_lss | exact a_gtr | exact a_eql | exact a_neq | exact a_eqls0 | exact a_neqs0 | exact a_eqls | exact a_neqs | exact a_leq | exact a_geq); all_goals (intro _; try (exfalso; first | omega | contradiction))) | (apply st_rw rfl rfl; case hq => first | exact w_box 100 (by conv => lhs; whnf) rfl (by conv => lhs; whnf) rfl rfl rfl | exact a_store) | refine tri_true rfl ?_ | refine tri_false rfl ?_ | refine tri_block ?_ | refine tri_skip ?_ | refine tri_ret ?_ | refine tri_exit ?_)
    refine cut_z () trivial ?_
    refine Weak.trans (weak_nilc 100 101 2 (cells := [.str s, .int .i64 0, .nils]) LkT 3 rfl rfl (by decide) (by decide) rfl) (Weak.trans (weak_nest 100 101 2 (cells := [.str s, .int .i64 0, .sl 101]) (rows := []) rfl rfl rfl (by decide) rfl) (weak_st ⟨rfl, rfl, rfl, trivial⟩ ⟨?_, trivial⟩))
    show _ = some (AObj.nest [.str s, .int .i64 (posF s s), .any] 2 LkT 3 (lkRows []))
    rw [show posF s s = 0 by simp [posF]]
    rfl
  refine tri_block ?_
  refine tri_loop (fun (x : B × List Lk) => x.1 <:+ s ∧ x.2.length + x.1.length ≤ s.length + 1 ∧ x.2 ++ linksF s.length x.1 = linksF s.length s) (fun x => st [(0, .str s), (2, .nils), (3, .ptr 100 0)] [(100, scO s (posF s x.1) x.2)]) (fun x => x.1.length) (s, []) ⟨List.suffix_rfl, by simp, rfl⟩ ?hw (fun x hx => ?_)
  case hw => exact Weak.refl _ _
  obtain ⟨r, L⟩ := x
  change Tri _ _ (st [(0, .str s), (2, .nils), (3, .ptr 100 0)] [(100, scO s (posF s r) L)]) _
  obtain ⟨hr, hL, hF⟩ := hx
  simp only at hr hL hF
  have hrl := suf_le hr
  have K1 := skips_e s r [60] L hs hr (by decide) (by decide)
  have hs1 := (skip_suf [60] r).trans hr
  cases h1 : skipW [60] r with
  | nil =>
    rw [linksF_nil h1, List.append_nil] at hF
    rw [h1] at K1
    have hp : posF s [] = (s.length : Int) := by simp [posF]
    generalize posF s [] = p1 at hp K1
    repeat' (first | refine a_f ?_ | refine st_nil ?_ | refine tri_seq ?_ | refine tri_region rfl ?_ | refine a_draw ?_ | (apply st_r rfl; case hq => first | exact q_loadn (by conv => lhs; whnf) (by conv => lhs; whnf; arg 1; whnf) (by conv => lhs; whnf) rfl (by show scalB Tryz.prog _ = true; decide +kernel) | exact q_slice_loE (n' := s.length) (l := []) (by conv => lhs; whnf) (by conv => lhs; whnf) (by omega) (by kernel_rfl) (by omega) (by simp) | exact a_lens | exact a_index | exact a_add | exact a_adds0 | exact a_addsc | exact a_adds | exact a_sub | exact a_slo | exact a_shi | exact a_slh | exact a_lensl | exact a_lenro | exact a_lennil | exact a_lenpts | exact a_field | exact a_fielde | exact a_fieldr | exact a_idxsl | exact a_load | exact a_loada | exact a_mki | exact a_build2 | exact a_build3 | exact a_build1 | exact a_build0 | exact a_bs1 | exact a_bs2 | exact a_bs3 | exact a_bs4 | exact a_bsa | exact a_boxr) | (apply st_rif rfl; (case hq => first | exact a_lss | exact a_gtr | exact a_eql | exact a_neq | exact a_eqls0 | exact a_neqs0 | exact a_eqls | exact a_neqs | exact a_leq | exact a_geq); all_goals (intro _; try (exfalso; first | omega | contradiction))) | (apply st_rw rfl rfl; case hq => first | exact w_call (id := 100) K1 (hcf := Tryz.call40) (by rfl) rfl rfl rfl rfl rfl | exact w_scout (id := 100) (by conv => lhs; whnf) (by rfl) (by decide) rfl (by show scalB Tryz.prog _ = true; decide +kernel) rfl | exact a_store) | refine tri_true rfl ?_ | refine tri_false rfl ?_ | refine tri_block ?_ | refine tri_skip ?_ | refine tri_ret ?_ | refine tri_exit ?_)
    refine And.intro trivial ?_
    conv => lhs; whnf
    rw [hF]
  | cons c t =>
    rw [h1] at K1 hs1
    have hne : r ≠ [] := fun e => by rw [e, skipW_nil] at h1; cases h1
    have h0 := skipW_lt (o := [60]) (by simp) hne
    rw [h1] at h0
    simp only [List.length_cons] at h0
    have hF1 := linksF_cons (n := s.length) h1
    rw [hF1] at hF
    clear hF1
    have hd1 := suf_drop hs1
    have hl1 := suf_le hs1
    have g0 : (c :: t)[(0 : Int).toNat]? = some c := rfl
    have hc : c.toNat < 256 := c.toNat_lt
    simp only [List.length_cons] at hl1 hd1
    have hp1 : posF s (c :: t) = (s.length : Int) - (t.length + 1) := by simp [posF]
    have P1 := (pre_c (c :: t) comB).s
    have T1 := tag_e s (c :: t) L hs hs1 (by simp only [List.length_cons]; omega)
    have K3 := skips_e s (c :: t) [62] L hs hs1 (by decide) (by decide)
    have hsb := (skip_suf [62] (c :: t)).trans hs1
    have hlb := skipW_le [62] (c :: t)
    obtain ⟨ht1, ht2⟩ := tagF_suf s.length (c :: t)
    have htl := ht1.length_le
    simp only [List.length_cons] at hlb ht2 htl
    by_cases hco : comB.isPrefixOf (c :: t) = true
    · rw [if_pos hco] at hF
      have ht2l : 2 ≤ t.length := by
        have := (List.isPrefixOf_iff_prefix.1 hco).length_le
        simp [comB] at this; omega
      have hsd : t.drop 2 <:+ s := ((List.drop_suffix 2 t).trans (List.suffix_cons c t)).trans hs1
      have K2 := skips_e s (t.drop 2) [45, 45, 62] L hs hsd (by decide) (by decide)
      have hle2 := skipW_le [45, 45, 62] (t.drop 2)
      rw [List.length_drop] at hle2
      have e3 : posF s (t.drop 2) = posF s (c :: t) + 3 := by rw [hp1]; simp only [posF, List.length_drop]; omega
      rw [e3] at K2
      rw [show Lib.hasPrefix (c :: t) comB = true from hco] at P1
      generalize posF s (c :: t) = p1 at *
      repeat' (first | refine a_f ?_ | refine st_nil ?_ | refine tri_seq ?_ | refine tri_region rfl ?_ | refine a_draw ?_ | (apply st_r rfl; case hq => first | exact q_loadn (by conv => lhs; whnf) (by conv => lhs; whnf; arg 1; whnf) (by conv => lhs; whnf) rfl (by show scalB Tryz.prog _ = true; decide +kernel) | exact q_slice_loE (n' := s.length - (t.length + 1)) (l := c :: t) (by conv => lhs; whnf) (by conv => lhs; whnf) (by omega) (by kernel_rfl) (by omega) hd1 | exact q_index (c := c) (by conv => lhs; whnf) (by conv => lhs; whnf) (by kernel_rfl) (by decide) g0 | exact q_call P1 (hcf := Tryz.call41) rfl rfl | exact a_lens | exact a_index | exact a_add | exact a_adds0 | exact a_addsc | exact a_adds | exact a_sub | exact a_slo | exact a_shi | exact a_slh | exact a_lensl | exact a_lenro | exact a_lennil | exact a_lenpts | exact a_field | exact a_fielde | exact a_fieldr | exact a_idxsl | exact a_load | exact a_loada | exact a_mki | exact a_build2 | exact a_build3 | exact a_build1 | exact a_build0 | exact a_bs1 | exact a_bs2 | exact a_bs3 | exact a_bs4 | exact a_bsa | exact a_boxr) | (apply st_rif rfl; (case hq => first | exact a_lss | exact a_gtr | exact a_eql | exact a_neq | exact a_eqls0 | exact a_neqs0 | exact a_eqls | exact a_neqs | exact a_leq | exact a_geq); all_goals (intro _; try (exfalso; first | omega | contradiction))) | (apply st_rw rfl rfl; case hq => first | exact w_call (id := 100) K1 (hcf := Tryz.call40) (by rfl) rfl rfl rfl rfl rfl | exact w_scat (id := 100) (by conv => lhs; whnf) (by conv => lhs; whnf) (by rfl) (by decide) rfl (by kernel_rfl) | exact w_call (id := 100) K2 (hcf := Tryz.call40) (by rfl) rfl rfl rfl rfl rfl | exact a_store) | refine tri_true rfl ?_ | refine tri_false rfl ?_ | refine tri_block ?_ | refine tri_skip ?_ | refine tri_ret ?_ | refine tri_exit ?_)
      exact Exists.intro (skipW [45, 45, 62] (t.drop 2), L) (And.intro ⟨(skip_suf _ _).trans hsd, by simp only; omega, hF⟩ (And.intro (weak_st ⟨rfl, rfl, rfl, trivial⟩ ⟨rfl, trivial⟩) (show (skipW [45, 45, 62] (t.drop 2)).length < r.length by omega)))
    rw [if_neg hco] at hF
    rw [show Lib.hasPrefix (c :: t) comB = false from Bool.eq_false_iff.2 hco] at P1
    have I2 := (indexByte_c (anS.take 52) (c.toNat : Int)).s
    rw [show ((c.toNat : Int).toNat.toUInt8) = c by simp] at I2
    have hal := al_ib c
    generalize Lib.indexByte (anS.take 52) c = n at I2 hal
    by_cases hb : c = 47 ∨ c = 33 ∨ c = 63
    · rw [if_pos hb] at hF
      have ib : (c.toNat : Int) = 47 ∨ (c.toNat : Int) = 33 ∨ (c.toNat : Int) = 63 := by rcases hb with e | e | e <;> rw [e] <;> decide
      generalize posF s (c :: t) = p1 at *
      repeat' (first | refine a_f ?_ | refine st_nil ?_ | refine tri_seq ?_ | refine tri_region rfl ?_ | refine a_draw ?_ | (apply st_r rfl; case hq => first | exact q_loadn (by conv => lhs; whnf) (by conv => lhs; whnf; arg 1; whnf) (by conv => lhs; whnf) rfl (by show scalB Tryz.prog _ = true; decide +kernel) | exact q_slice_loE (n' := s.length - (t.length + 1)) (l := c :: t) (by conv => lhs; whnf) (by conv => lhs; whnf) (by omega) (by kernel_rfl) (by omega) hd1 | exact q_index (c := c) (by conv => lhs; whnf) (by conv => lhs; whnf) (by kernel_rfl) (by decide) g0 | exact q_call P1 (hcf := Tryz.call41) rfl rfl | exact a_lens | exact a_index | exact a_add | exact a_adds0 | exact a_addsc | exact a_adds | exact a_sub | exact a_slo | exact a_shi | exact a_slh | exact a_lensl | exact a_lenro | exact a_lennil | exact a_lenpts | exact a_field | exact a_fielde | exact a_fieldr | exact a_idxsl | exact a_load | exact a_loada | exact a_mki | exact a_build2 | exact a_build3 | exact a_build1 | exact a_build0 | exact a_bs1 | exact a_bs2 | exact a_bs3 | exact a_bs4 | exact a_bsa | exact a_boxr) | (apply st_rif rfl; (case hq => first | exact a_lss | exact a_gtr | exact a_eql | exact a_neq | exact a_eqls0 | exact a_neqs0 | exact a_eqls | exact a_neqs | exact a_leq | exact a_geq); all_goals (intro _; try (exfalso; first | omega | contradiction))) | (apply st_rw rfl rfl; case hq => first | exact w_call (id := 100) K1 (hcf := Tryz.call40) (by rfl) rfl rfl rfl rfl rfl | exact w_call (id := 100) K3 (hcf := Tryz.call40) (by rfl) rfl rfl rfl rfl rfl | exact a_store) | refine tri_true rfl ?_ | refine tri_false rfl ?_ | refine tri_block ?_ | refine tri_skip ?_ | refine tri_ret ?_ | refine tri_exit ?_)
      all_goals exact Exists.intro (skipW [62] (c :: t), L) (And.intro ⟨hsb, by simp only; omega, hF⟩ (And.intro (weak_st ⟨rfl, rfl, rfl, trivial⟩ ⟨rfl, trivial⟩) (show (skipW [62] (c :: t)).length < r.length by omega)))
    rw [if_neg hb] at hF
    have ib : (c.toNat : Int) ≠ 47 ∧ (c.toNat : Int) ≠ 33 ∧ (c.toNat : Int) ≠ 63 := ⟨fun e => hb (.inl (UInt8.toNat_inj.1 (by rw [show (47 : UInt8).toNat = 47 from rfl]; omega))), fun e => hb (.inr (.inl (UInt8.toNat_inj.1 (by rw [show (33 : UInt8).toNat = 33 from rfl]; omega)))), fun e => hb (.inr (.inr (UInt8.toNat_inj.1 (by rw [show (63 : UInt8).toNat = 63 from rfl]; omega))))⟩
    cases ha : alB c with
    | true =>
      rw [ha, if_pos rfl] at hF
      rw [ha] at hal
      have h0n : 0 ≤ n := of_decide_eq_true hal
      generalize posF s (c :: t) = p1 at *
      repeat' (first | refine a_f ?_ | refine st_nil ?_ | refine tri_seq ?_ | refine tri_region rfl ?_ | refine a_draw ?_ | (apply st_r rfl; case hq => first | exact q_loadn (by conv => lhs; whnf) (by conv => lhs; whnf; arg 1; whnf) (by conv => lhs; whnf) rfl (by show scalB Tryz.prog _ = true; decide +kernel) | exact q_slice_loE (n' := s.length - (t.length + 1)) (l := c :: t) (by conv => lhs; whnf) (by conv => lhs; whnf) (by omega) (by kernel_rfl) (by omega) hd1 | exact q_index (c := c) (by conv => lhs; whnf) (by conv => lhs; whnf) (by kernel_rfl) (by decide) g0 | exact q_call P1 (hcf := Tryz.call41) rfl rfl | exact q_slice_hiE (n' := 52) (l := anS.take 52) (by conv => lhs; whnf) (by conv => lhs; whnf) (by rfl) (by kernel_rfl) (by decide) (by rfl) | exact q_call I2 (hcf := Tryz.call42) rfl rfl | exact a_lens | exact a_index | exact a_add | exact a_adds0 | exact a_addsc | exact a_adds | exact a_sub | exact a_slo | exact a_shi | exact a_slh | exact a_lensl | exact a_lenro | exact a_lennil | exact a_lenpts | exact a_field | exact a_fielde | exact a_fieldr | exact a_idxsl | exact a_load | exact a_loada | exact a_mki | exact a_build2 | exact a_build3 | exact a_build1 | exact a_build0 | exact a_bs1 | exact a_bs2 | exact a_bs3 | exact a_bs4 | exact a_bsa | exact a_boxr) | (apply st_rif rfl; (case hq => first | exact a_lss | exact a_gtr | exact a_eql | exact a_neq | exact a_eqls0 | exact a_neqs0 | exact a_eqls | exact a_neqs | exact a_leq | exact a_geq); all_goals (intro _; try (exfalso; first | omega | contradiction))) | (apply st_rw rfl rfl; case hq => first | exact w_call (id := 100) K1 (hcf := Tryz.call40) (by rfl) rfl rfl rfl rfl rfl | exact w_call (id := 100) T1 (hcf := Tryz.call43) (by rfl) rfl rfl rfl rfl rfl | exact a_store) | refine tri_true rfl ?_ | refine tri_false rfl ?_ | refine tri_block ?_ | refine tri_skip ?_ | refine tri_ret ?_ | refine tri_exit ?_)
      all_goals exact Exists.intro ((tagF s.length (c :: t)).2, L ++ (tagF s.length (c :: t)).1) (And.intro ⟨ht1.trans hs1, by simp only [List.length_append]; omega, by rw [← hF]; simp⟩ (And.intro (weak_st ⟨rfl, rfl, rfl, trivial⟩ ⟨rfl, trivial⟩) (show (tagF s.length (c :: t)).2.length < r.length by omega)))
    | false =>
      rw [ha, if_neg Bool.false_ne_true] at hF
      rw [ha] at hal
      have h0n : ¬ 0 ≤ n := of_decide_eq_false hal
      generalize hpg : posF s (c :: t) = p1 at *
      repeat' (first | refine a_f ?_ | refine st_nil ?_ | refine tri_seq ?_ | refine tri_region rfl ?_ | refine a_draw ?_ | (apply st_r rfl; case hq => first | exact q_loadn (by conv => lhs; whnf) (by conv => lhs; whnf; arg 1; whnf) (by conv => lhs; whnf) rfl (by show scalB Tryz.prog _ = true; decide +kernel) | exact q_slice_loE (n' := s.length - (t.length + 1)) (l := c :: t) (by conv => lhs; whnf) (by conv => lhs; whnf) (by omega) (by kernel_rfl) (by omega) hd1 | exact q_index (c := c) (by conv => lhs; whnf) (by conv => lhs; whnf) (by kernel_rfl) (by decide) g0 | exact q_call P1 (hcf := Tryz.call41) rfl rfl | exact q_slice_hiE (n' := 52) (l := anS.take 52) (by conv => lhs; whnf) (by conv => lhs; whnf) (by rfl) (by kernel_rfl) (by decide) (by rfl) | exact q_call I2 (hcf := Tryz.call42) rfl rfl | exact a_lens | exact a_index | exact a_add | exact a_adds0 | exact a_addsc | exact a_adds | exact a_sub | exact a_slo | exact a_shi | exact a_slh | exact a_lensl | exact a_lenro | exact a_lennil | exact a_lenpts | exact a_field | exact a_fielde | exact a_fieldr | exact a_idxsl | exact a_load | exact a_loada | exact a_mki | exact a_build2 | exact a_build3 | exact a_build1 | exact a_build0 | exact a_bs1 | exact a_bs2 | exact a_bs3 | exact a_bs4 | exact a_bsa | exact a_boxr) | (apply st_rif rfl; (case hq => first | exact a_lss | exact a_gtr | exact a_eql | exact a_neq | exact a_eqls0 | exact a_neqs0 | exact a_eqls | exact a_neqs | exact a_leq | exact a_geq); all_goals (intro _; try (exfalso; first | omega | contradiction))) | (apply st_rw rfl rfl; case hq => first | exact w_call (id := 100) K1 (hcf := Tryz.call40) (by rfl) rfl rfl rfl rfl rfl | exact a_store) | refine tri_true rfl ?_ | refine tri_false rfl ?_ | refine tri_block ?_ | refine tri_skip ?_ | refine tri_ret ?_ | refine tri_exit ?_)
      all_goals exact Exists.intro (c :: t, L) (And.intro ⟨hs1, by simp only [List.length_cons]; omega, hF⟩ (And.intro (weak_st ⟨rfl, rfl, rfl, trivial⟩ ⟨congrArg (fun p => some (scO s p L)) hpg.symm, trivial⟩) (show (c :: t).length < r.length by simp only [List.length_cons]; omega)))
end
end Go.Proofs.YtignjjnflcpiiaaGreatDoor
