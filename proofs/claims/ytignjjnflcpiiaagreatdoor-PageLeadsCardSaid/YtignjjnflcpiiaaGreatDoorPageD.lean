/- A page's scanner: an attribute. -/
import Derived.Test.YtignjjnflcpiiaaGreatDoorPageC
set_option linter.unusedVariables false
set_option linter.unusedSimpArgs false
set_option maxHeartbeats 1000000
namespace Go.Proofs.YtignjjnflcpiiaaGreatDoor
open Go.RowKit
attribute [local irreducible] Tri Steps Qd Wr Weak CPure CEff CNew CutN AllB Behind
set_option maxRecDepth 100000

theorem q_indexE {C : Cx} {σ : St} {ty : TypeId} {pos : String} {af : Array Edge} {g : Option (Nat × Bool)} {x y : Operand} {t : TypeId} {d : Option Nat} {k : IntKind} {i : Int} {u : List UInt8} {c : UInt8} {i' : Nat} (hx : σ.ev x = .str u) (hy : σ.ev y = .int k i) (hi : i = (i' : Int)) (ht : C.P.underlying t = some .string) (hg : u[i']? = some c) :
    Qd C ⟨d, .index t x y, ty, pos, af, g⟩ σ (.int .u8 c.toNat) := by
  subst hi
  exact q_index (c := c) hx hy ht (by omega) (by rw [Int.toNat_natCast]; exact hg)
def scN (es : List (Nat × AV)) (s : B) (p : Int) (l : List Lk) : St := ((st es (scH s p l)).kill 101).set 0 (some (scO s p l))
theorem weak_sc {C : Cx} {σ : St} {s : B} {p : Int} {l : List Lk} {es : List (Nat × AV)} (hw : Weak C σ (st es (scH s p l))) : Weak C σ (scN es s p l) :=
  hw.trans (weak_nest 0 101 2 (cells := [.str s, .int .i64 p, .sl 101]) (rows := lkRows l) rfl rfl rfl (by decide) rfl)
theorem suf_cons {c : UInt8} {t s : B} (h : c :: t <:+ s) : t <:+ s := (List.suffix_cons c t).trans h
theorem suf_get {c : UInt8} {t s : B} (h : c :: t <:+ s) : s[s.length - (c :: t).length]? = some c := by
  have := suf_drop h
  have e := congrArg (fun l => l[0]?) this
  simp only [List.getElem?_drop, Nat.add_zero, List.getElem?_cons_zero] at e
  exact e
theorem suf_cut {a b s : B} (h : a ++ b <:+ s) : (s.take (s.length - (a ++ b).length + a.length)).drop (s.length - (a ++ b).length) = a := by
  have h1 := suf_drop h
  rw [List.drop_take, h1, Nat.add_sub_cancel_left, List.take_left' rfl]
set_option maxHeartbeats 16000000 in
/-- goes on behind an attribute -/
theorem attribute_e (s r : B) (L : List Lk) (hs : s.length ≤ 100000000) (hr : r <:+ s) (hL : L.length ≤ s.length + 1) : CEff gxs 99 (scO s (posF s r) L) [.ptr 0 0] (some (scO s (posF s (attrF s.length r).rest) (L ++ (attrF s.length r).link.toList))) (.bool (attrF s.length r).more) := by
  refine ceff_of Tryz.func99 rfl (Nat.le_of_ble_eq_true rfl) (fun w γ hw hM => tri_post (sc_open rfl rfl ?_))
  have hle := suf_le hr
  have hd := suf_drop hr
  have hposr : posF s r = (s.length : Int) - r.length := rfl
  generalize posF s r = pp at hposr ⊢
  have R1 := (run_c r sepS sepB sep_set (by omega) (by decide) (by decide)).s
  have hs1 : r.dropWhile sepB <:+ s := (suf_dw _ _).trans hr
  have hl1 := dwP_le sepB r
  cases h1 : r.dropWhile sepB with
  | nil =>
    rw [h1] at R1
    simp only [List.length_nil] at R1
    have hv : attrF s.length r = ⟨none, false, []⟩ := by simp only [attrF, h1]
    rw [hv]
    repeat' (first | refine a_f ?_ | refine st_nil ?_ | refine tri_seq ?_ | refine tri_region rfl ?_ | refine a_draw ?_ | (apply st_r rfl; case hq => first | exact q_slice_loE (n' := s.length - r.length) (l := r) (by conv => lhs; whnf) (by conv => lhs; whnf) (by omega) (by kernel_rfl) (by omega) hd | exact q_call R1 (hcf := Tryz.call98) rfl rfl | exact a_lens | exact a_index | exact a_add | exact a_adds0 | exact a_addsc | exact a_adds | exact a_sub | exact a_slo | exact a_shi | exact a_slh | exact a_lensl | exact a_lenro | exact a_lennil | exact a_lenpts | exact a_field | exact a_fielde | exact a_fieldr | exact a_idxsl | exact a_load | exact a_loada | exact a_mki | exact a_build2 | exact a_build3 | exact a_build1 | exact a_build0 | exact a_bs1 | exact a_bs2 | exact a_bs3 | exact a_bs4 | exact a_bsa | exact a_boxr) | (apply st_rif rfl; (case hq => first | exact a_lss | exact a_gtr | exact a_eql | exact a_neq | exact a_eqls0 | exact a_neqs0 | exact a_eqls | exact a_neqs | exact a_leq | exact a_geq); all_goals (intro _; try (exfalso; first | omega | contradiction))) | (apply st_rw rfl rfl; case hq => first | exact a_store) | refine tri_true rfl ?_ | refine tri_false rfl ?_ | refine tri_block ?_ | refine tri_skip ?_ | refine tri_ret ?_ | refine tri_exit ?_)
    exact sc_end (es := [(2, .bool false)]) (weak_st ⟨rfl, trivial⟩ ⟨congrArg (fun p => some (AObj.box [.str s, .int .i64 p, .sl 101])) (by simp only [posF, List.length_nil, List.length_cons]; omega), congrArg (fun l => some (AObj.rows LkT 3 (lkRows l))) (by simp), trivial⟩) ⟨trivial, rfl, rfl⟩
  | cons c t =>
    rw [h1] at R1 hs1 hl1
    have g1 := suf_get hs1
    have hst := suf_cons hs1
    have hdt := suf_drop hst
    have hle1 := suf_le hs1
    simp only [List.length_cons] at R1 hl1 g1 hle1
    have hc : c.toNat < 256 := c.toNat_lt
    have I1 := (indexAny_c t endS (by omega) (by decide) (by decide) (low7_of (by decide))).s
    have hsp := ia_span endS endB end_set t
    by_cases h62 : c = 62
    · have i62 : (c.toNat : Int) = 62 := by rw [h62]; rfl
      have hv : attrF s.length r = ⟨none, false, t⟩ := by simp only [attrF, h1]; rw [if_pos h62]
      rw [hv]
      repeat' (first | refine a_f ?_ | refine st_nil ?_ | refine tri_seq ?_ | refine tri_region rfl ?_ | refine a_draw ?_ | (apply st_r rfl; case hq => first | exact q_slice_loE (n' := s.length - r.length) (l := r) (by conv => lhs; whnf) (by conv => lhs; whnf) (by omega) (by kernel_rfl) (by omega) hd | exact q_call R1 (hcf := Tryz.call98) rfl rfl | exact q_indexE (i' := s.length - (t.length + 1)) (c := c) (by conv => lhs; whnf) (by conv => lhs; whnf) (by omega) (by kernel_rfl) g1 | exact q_slice_loE (n' := s.length - t.length) (l := t) (by conv => lhs; whnf) (by conv => lhs; whnf) (by omega) (by kernel_rfl) (by omega) hdt | exact q_call I1 (hcf := Tryz.call117) rfl rfl | exact a_lens | exact a_index | exact a_add | exact a_adds0 | exact a_addsc | exact a_adds | exact a_sub | exact a_slo | exact a_shi | exact a_slh | exact a_lensl | exact a_lenro | exact a_lennil | exact a_lenpts | exact a_field | exact a_fielde | exact a_fieldr | exact a_idxsl | exact a_load | exact a_loada | exact a_mki | exact a_build2 | exact a_build3 | exact a_build1 | exact a_build0 | exact a_bs1 | exact a_bs2 | exact a_bs3 | exact a_bs4 | exact a_bsa | exact a_boxr) | (apply st_rif rfl; (case hq => first | exact a_lss | exact a_gtr | exact a_eql | exact a_neq | exact a_eqls0 | exact a_neqs0 | exact a_eqls | exact a_neqs | exact a_leq | exact a_geq); all_goals (intro _; try (exfalso; first | omega | contradiction))) | (apply st_rw rfl rfl; case hq => first | exact a_store) | refine tri_true rfl ?_ | refine tri_false rfl ?_ | refine tri_block ?_ | refine tri_skip ?_ | refine tri_ret ?_ | refine tri_exit ?_)
      exact sc_end (es := [(2, .bool false)]) (weak_st ⟨rfl, trivial⟩ ⟨congrArg (fun p => some (AObj.box [.str s, .int .i64 p, .sl 101])) (by simp only [posF]; omega), congrArg (fun l => some (AObj.rows LkT 3 (lkRows l))) (by simp), trivial⟩) ⟨trivial, rfl, rfl⟩
    have i62 : ¬ (c.toNat : Int) = 62 := fun e => h62 (UInt8.toNat_inj.1 (by rw [show (62 : UInt8).toNat = 62 from rfl]; omega))
    cases h2 : t.dropWhile (fun c => !endB c) with
    | nil =>
      rw [hsp.1 h2] at I1
      have hv : attrF s.length r = ⟨none, false, []⟩ := by
        simp only [attrF, h1]
        rw [if_neg h62, h2]
      rw [hv]
      repeat' (first | refine a_f ?_ | refine st_nil ?_ | refine tri_seq ?_ | refine tri_region rfl ?_ | refine a_draw ?_ | (apply st_r rfl; case hq => first | exact q_slice_loE (n' := s.length - r.length) (l := r) (by conv => lhs; whnf) (by conv => lhs; whnf) (by omega) (by kernel_rfl) (by omega) hd | exact q_call R1 (hcf := Tryz.call98) rfl rfl | exact q_indexE (i' := s.length - (t.length + 1)) (c := c) (by conv => lhs; whnf) (by conv => lhs; whnf) (by omega) (by kernel_rfl) g1 | exact q_slice_loE (n' := s.length - t.length) (l := t) (by conv => lhs; whnf) (by conv => lhs; whnf) (by omega) (by kernel_rfl) (by omega) hdt | exact q_call I1 (hcf := Tryz.call117) rfl rfl | exact a_lens | exact a_index | exact a_add | exact a_adds0 | exact a_addsc | exact a_adds | exact a_sub | exact a_slo | exact a_shi | exact a_slh | exact a_lensl | exact a_lenro | exact a_lennil | exact a_lenpts | exact a_field | exact a_fielde | exact a_fieldr | exact a_idxsl | exact a_load | exact a_loada | exact a_mki | exact a_build2 | exact a_build3 | exact a_build1 | exact a_build0 | exact a_bs1 | exact a_bs2 | exact a_bs3 | exact a_bs4 | exact a_bsa | exact a_boxr) | (apply st_rif rfl; (case hq => first | exact a_lss | exact a_gtr | exact a_eql | exact a_neq | exact a_eqls0 | exact a_neqs0 | exact a_eqls | exact a_neqs | exact a_leq | exact a_geq); all_goals (intro _; try (exfalso; first | omega | contradiction))) | (apply st_rw rfl rfl; case hq => first | exact a_store) | refine tri_true rfl ?_ | refine tri_false rfl ?_ | refine tri_block ?_ | refine tri_skip ?_ | refine tri_ret ?_ | refine tri_exit ?_)
      exact sc_end (es := [(2, .bool false)]) (weak_st ⟨rfl, trivial⟩ ⟨congrArg (fun p => some (AObj.box [.str s, .int .i64 p, .sl 101])) (by simp only [posF, List.length_nil, List.length_cons]; omega), congrArg (fun l => some (AObj.rows LkT 3 (lkRows l))) (by simp), trivial⟩) ⟨trivial, rfl, rfl⟩
    | cons d u =>
      rw [hsp.2 (by rw [h2]; simp)] at I1
      have hsplit := dw_some h2
      have hvn : attrF s.length r = (match (d :: u).dropWhile gapB with
        | [] => ⟨none, false, []⟩
        | e :: w => if e = 61 then valueF s.length (lowP (c :: t.takeWhile (fun c => !endB c))) (w.dropWhile gapB) else ⟨none, true, e :: w⟩) := by
        simp only [attrF, h1]
        rw [if_neg h62, h2]
        rfl
      generalize t.takeWhile (fun c => !endB c) = nm at I1 hsplit hvn
      have hlen := congrArg List.length hsplit
      simp only [List.length_append, List.length_cons] at hlen
      have M1 := (small_c (c :: nm) (by simp only [List.length_cons]; omega)).s
      rw [← lowP_low] at M1
      have hcut := suf_cut (a := c :: nm) (b := d :: u) (s := s) (by rw [List.cons_append, ← hsplit]; exact hs1)
      have hs2 : d :: u <:+ s := (by rw [hsplit] at hst; exact (List.suffix_append nm (d :: u)).trans hst)
      have hd2 := suf_drop hs2
      have R2 := (run_c (d :: u) gapS gapB gap_set (by simp only [List.length_cons]; omega) (by decide) (by decide)).s
      have hl3 := dwP_le gapB (d :: u)
      have hs3 : (d :: u).dropWhile gapB <:+ s := (suf_dw _ _).trans hs2
      rw [show s.length - ((c :: nm) ++ d :: u).length + (c :: nm).length = s.length - (t.length + 1) + (nm.length + 1) by simp only [List.length_append, List.length_cons]; omega, show s.length - ((c :: nm) ++ d :: u).length = s.length - (t.length + 1) by simp only [List.length_append, List.length_cons]; omega] at hcut
      simp only [List.length_cons] at R2 hl3 hd2
      cases h3 : (d :: u).dropWhile gapB with
      | nil =>
        rw [h3] at R2 hvn
        simp only [List.length_nil] at R2
        rw [hvn]
        repeat' (first | refine a_f ?_ | refine st_nil ?_ | refine tri_seq ?_ | refine tri_region rfl ?_ | refine a_draw ?_ | (apply st_r rfl; case hq => first | exact q_slice_loE (n' := s.length - r.length) (l := r) (by conv => lhs; whnf) (by conv => lhs; whnf) (by omega) (by kernel_rfl) (by omega) hd | exact q_call R1 (hcf := Tryz.call98) rfl rfl | exact q_indexE (i' := s.length - (t.length + 1)) (c := c) (by conv => lhs; whnf) (by conv => lhs; whnf) (by omega) (by kernel_rfl) g1 | exact q_slice_loE (n' := s.length - t.length) (l := t) (by conv => lhs; whnf) (by conv => lhs; whnf) (by omega) (by kernel_rfl) (by omega) hdt | exact q_call I1 (hcf := Tryz.call117) rfl rfl | exact q_slice_lhE (m' := s.length - (t.length + 1)) (n' := s.length - (t.length + 1) + (nm.length + 1)) (l := c :: nm) (by conv => lhs; whnf) (by conv => lhs; whnf) (by conv => lhs; whnf) (by omega) (by omega) (by kernel_rfl) (by omega) (by omega) hcut | exact q_call M1 (hcf := Tryz.call53) rfl rfl | exact q_slice_loE (n' := s.length - (u.length + 1)) (l := d :: u) (by conv => lhs; whnf) (by conv => lhs; whnf) (by omega) (by kernel_rfl) (by omega) hd2 | exact q_call R2 (hcf := Tryz.call98) rfl rfl | exact a_lens | exact a_index | exact a_add | exact a_adds0 | exact a_addsc | exact a_adds | exact a_sub | exact a_slo | exact a_shi | exact a_slh | exact a_lensl | exact a_lenro | exact a_lennil | exact a_lenpts | exact a_field | exact a_fielde | exact a_fieldr | exact a_idxsl | exact a_load | exact a_loada | exact a_mki | exact a_build2 | exact a_build3 | exact a_build1 | exact a_build0 | exact a_bs1 | exact a_bs2 | exact a_bs3 | exact a_bs4 | exact a_bsa | exact a_boxr) | (apply st_rif rfl; (case hq => first | exact a_lss | exact a_gtr | exact a_eql | exact a_neq | exact a_eqls0 | exact a_neqs0 | exact a_eqls | exact a_neqs | exact a_leq | exact a_geq); all_goals (intro _; try (exfalso; first | omega | contradiction))) | (apply st_rw rfl rfl; case hq => first | exact a_store) | refine tri_true rfl ?_ | refine tri_false rfl ?_ | refine tri_block ?_ | refine tri_skip ?_ | refine tri_ret ?_ | refine tri_exit ?_)
        exact sc_end (es := [(2, .bool false)]) (weak_st ⟨rfl, trivial⟩ ⟨congrArg (fun p => some (AObj.box [.str s, .int .i64 p, .sl 101])) (by simp only [posF, List.length_nil, List.length_cons]; omega), congrArg (fun l => some (AObj.rows LkT 3 (lkRows l))) (by simp), trivial⟩) ⟨trivial, rfl, rfl⟩
      | cons e w =>
        rw [h3] at R2 hvn hl3 hs3
        have g3 := suf_get hs3
        have hsw := suf_cons hs3
        have hdw3 := suf_drop hsw
        have hle3 := suf_le hs3
        simp only [List.length_cons] at R2 hl3 g3 hle3 hvn
        have he : e.toNat < 256 := e.toNat_lt
        by_cases h61 : e = 61
        · have i61 : (e.toNat : Int) = 61 := by rw [h61]; rfl
          rw [if_pos h61] at hvn
          have R3 := (run_c w gapS gapB gap_set (by omega) (by decide) (by decide)).s
          have hl4 := dwP_le gapB w
          have hs4 : w.dropWhile gapB <:+ s := (suf_dw _ _).trans hsw
          rw [hvn]
          generalize w.dropWhile gapB = r4 at R3 hl4 hs4
          have V1 := value_e s r4 (lowP (c :: nm)) L hs hs4 hL
          refine tri_cutN (fun (_ : Unit) => True) (fun _ => scN [(0, .ptr 0 0), (4, .str (lowP (c :: nm)))] s (posF s r4) L) 12 ?_ (fun _ _ => ?_)
          · repeat' (first | refine a_f ?_ | refine st_nil ?_ | refine tri_seq ?_ | refine tri_region rfl ?_ | refine cut_s ?_ | refine a_draw ?_ | (apply st_r rfl; case hq => first | exact q_slice_loE (n' := s.length - r.length) (l := r) (by conv => lhs; whnf) (by conv => lhs; whnf) (by omega) (by kernel_rfl) (by omega) hd | exact q_call R1 (hcf := Tryz.call98) rfl rfl | exact q_indexE (i' := s.length - (t.length + 1)) (c := c) (by conv => lhs; whnf) (by conv => lhs; whnf) (by omega) (by kernel_rfl) g1 | exact q_slice_loE (n' := s.length - t.length) (l := t) (by conv => lhs; whnf) (by conv => lhs; whnf) (by omega) (by kernel_rfl) (by omega) hdt | exact q_call I1 (hcf := Tryz.call117) rfl rfl | exact q_slice_lhE (m' := s.length - (t.length + 1)) (n' := s.length - (t.length + 1) + (nm.length + 1)) (l := c :: nm) (by conv => lhs; whnf) (by conv => lhs; whnf) (by conv => lhs; whnf) (by omega) (by omega) (by kernel_rfl) (by omega) (by omega) hcut | exact q_call M1 (hcf := Tryz.call53) rfl rfl | exact q_slice_loE (n' := s.length - (u.length + 1)) (l := d :: u) (by conv => lhs; whnf) (by conv => lhs; whnf) (by omega) (by kernel_rfl) (by omega) hd2 | exact q_call R2 (hcf := Tryz.call98) rfl rfl | exact q_indexE (i' := s.length - (w.length + 1)) (c := e) (by conv => lhs; whnf) (by conv => lhs; whnf) (by omega) (by kernel_rfl) g3 | exact q_slice_loE (n' := s.length - w.length) (l := w) (by conv => lhs; whnf) (by conv => lhs; whnf) (by omega) (by kernel_rfl) (by omega) hdw3 | exact q_call R3 (hcf := Tryz.call98) rfl rfl | exact a_lens | exact a_index | exact a_add | exact a_adds0 | exact a_addsc | exact a_adds | exact a_sub | exact a_slo | exact a_shi | exact a_slh | exact a_lensl | exact a_lenro | exact a_lennil | exact a_lenpts | exact a_field | exact a_fielde | exact a_fieldr | exact a_idxsl | exact a_load | exact a_loada | exact a_mki | exact a_build2 | exact a_build3 | exact a_build1 | exact a_build0 | exact a_bs1 | exact a_bs2 | exact a_bs3 | exact a_bs4 | exact a_bsa | exact a_boxr) | (apply st_rif rfl; (case hq => first | exact a_lss | exact a_gtr | exact a_eql | exact a_neq | exact a_eqls0 | exact a_neqs0 | exact a_eqls | exact a_neqs | exact a_leq | exact a_geq); all_goals (intro _; try (exfalso; first | omega | contradiction))) | (apply st_rw rfl rfl; case hq => first | exact a_store) | refine tri_true rfl ?_ | refine tri_false rfl ?_ | refine tri_block ?_ | refine tri_skip ?_ | refine tri_ret ?_ | refine tri_exit ?_)
            exact cut_z () trivial (weak_sc (weak_st ⟨rfl, rfl, trivial⟩ ⟨congrArg (fun p => some (AObj.box [.str s, .int .i64 p, .sl 101])) (by simp only [posF]; omega), rfl, trivial⟩))
          · repeat' (first | refine a_f ?_ | refine st_nil ?_ | refine tri_seq ?_ | refine tri_region rfl ?_ | refine a_draw ?_ | (apply st_r rfl; case hq => first | exact a_lens | exact a_index | exact a_add | exact a_adds0 | exact a_addsc | exact a_adds | exact a_sub | exact a_slo | exact a_shi | exact a_slh | exact a_lensl | exact a_lenro | exact a_lennil | exact a_lenpts | exact a_field | exact a_fielde | exact a_fieldr | exact a_idxsl | exact a_load | exact a_loada | exact a_mki | exact a_build2 | exact a_build3 | exact a_build1 | exact a_build0 | exact a_bs1 | exact a_bs2 | exact a_bs3 | exact a_bs4 | exact a_bsa | exact a_boxr) | (apply st_rif rfl; (case hq => first | exact a_lss | exact a_gtr | exact a_eql | exact a_neq | exact a_eqls0 | exact a_neqs0 | exact a_eqls | exact a_neqs | exact a_leq | exact a_geq); all_goals (intro _; try (exfalso; first | omega | contradiction))) | (apply st_rw rfl rfl; case hq => first | exact w_call (id := 0) V1 (hcf := Tryz.call156) (by rfl) rfl rfl rfl rfl rfl | exact a_store) | refine tri_true rfl ?_ | refine tri_false rfl ?_ | refine tri_block ?_ | refine tri_skip ?_ | refine tri_ret ?_ | refine tri_exit ?_)
            exact ⟨_, Weak.refl _ _, trivial, rfl, rfl⟩
        · have i61 : ¬ (e.toNat : Int) = 61 := fun q => h61 (UInt8.toNat_inj.1 (by rw [show (61 : UInt8).toNat = 61 from rfl]; omega))
          rw [if_neg h61] at hvn
          rw [hvn]
          repeat' (first | refine a_f ?_ | refine st_nil ?_ | refine tri_seq ?_ | refine tri_region rfl ?_ | refine a_draw ?_ | (apply st_r rfl; case hq => first | exact q_slice_loE (n' := s.length - r.length) (l := r) (by conv => lhs; whnf) (by conv => lhs; whnf) (by omega) (by kernel_rfl) (by omega) hd | exact q_call R1 (hcf := Tryz.call98) rfl rfl | exact q_indexE (i' := s.length - (t.length + 1)) (c := c) (by conv => lhs; whnf) (by conv => lhs; whnf) (by omega) (by kernel_rfl) g1 | exact q_slice_loE (n' := s.length - t.length) (l := t) (by conv => lhs; whnf) (by conv => lhs; whnf) (by omega) (by kernel_rfl) (by omega) hdt | exact q_call I1 (hcf := Tryz.call117) rfl rfl | exact q_slice_lhE (m' := s.length - (t.length + 1)) (n' := s.length - (t.length + 1) + (nm.length + 1)) (l := c :: nm) (by conv => lhs; whnf) (by conv => lhs; whnf) (by conv => lhs; whnf) (by omega) (by omega) (by kernel_rfl) (by omega) (by omega) hcut | exact q_call M1 (hcf := Tryz.call53) rfl rfl | exact q_slice_loE (n' := s.length - (u.length + 1)) (l := d :: u) (by conv => lhs; whnf) (by conv => lhs; whnf) (by omega) (by kernel_rfl) (by omega) hd2 | exact q_call R2 (hcf := Tryz.call98) rfl rfl | exact q_indexE (i' := s.length - (w.length + 1)) (c := e) (by conv => lhs; whnf) (by conv => lhs; whnf) (by omega) (by kernel_rfl) g3 | exact a_lens | exact a_index | exact a_add | exact a_adds0 | exact a_addsc | exact a_adds | exact a_sub | exact a_slo | exact a_shi | exact a_slh | exact a_lensl | exact a_lenro | exact a_lennil | exact a_lenpts | exact a_field | exact a_fielde | exact a_fieldr | exact a_idxsl | exact a_load | exact a_loada | exact a_mki | exact a_build2 | exact a_build3 | exact a_build1 | exact a_build0 | exact a_bs1 | exact a_bs2 | exact a_bs3 | exact a_bs4 | exact a_bsa | exact a_boxr) | (apply st_rif rfl; (case hq => first | exact a_lss | exact a_gtr | exact a_eql | exact a_neq | exact a_eqls0 | exact a_neqs0 | exact a_eqls | exact a_neqs | exact a_leq | exact a_geq); all_goals (intro _; try (exfalso; first | omega | contradiction))) | (apply st_rw rfl rfl; case hq => first | exact a_store) | refine tri_true rfl ?_ | refine tri_false rfl ?_ | refine tri_block ?_ | refine tri_skip ?_ | refine tri_ret ?_ | refine tri_exit ?_)
          exact sc_end (es := [(2, .bool true)]) (weak_st ⟨rfl, trivial⟩ ⟨congrArg (fun p => some (AObj.box [.str s, .int .i64 p, .sl 101])) (by simp only [posF, List.length_nil, List.length_cons]; omega), congrArg (fun l => some (AObj.rows LkT 3 (lkRows l))) (by simp), trivial⟩) ⟨trivial, rfl, rfl⟩
end Go.Proofs.YtignjjnflcpiiaaGreatDoor
