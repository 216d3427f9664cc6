/- A page's scanner: a tag, all links. -/
import Derived.Test.YtignjjnflcpiiaaGreatDoorPageD
set_option linter.unusedVariables false
set_option linter.unusedSimpArgs false
set_option maxHeartbeats 1000000
namespace Go.Proofs.YtignjjnflcpiiaaGreatDoor
open Go.RowKit
set_option maxRecDepth 100000

/-- a nil slice in a cell is an empty one of the frame's own -/
theorem weak_nilc {C : Cx} {σ : St} (id id' k : Nat) {cells : List AV} (e sz : Nat) (ho : σ.heap id = some (.box cells)) (hk : (cells.map (AV.kill id'))[k]? = some .nils) (hne : id ≠ id') (hs : 0 < sz) (hpin : C.pin id' = none) :
    Weak C σ (((σ.kill id').set id' (some (.rows e sz []))).set id (some (.box ((cells.map (AV.kill id')).set k (.sl id'))))) := fun γ a w s => by
  have s' := s.renew none id' (.slice none 0 0, undef) (.rows e sz []) hpin (fun i h => by cases h) rfl rfl rfl (Nat.le_refl _) (fun _ _ _ => rfl) (fun b hb => by
    unfold Blk at hb
    rw [upd_same] at hb
    rcases hb with hb | hb <;> cases hb) (fun b h => by cases h) (fun M' _ => ⟨.slice none 0 0, [], by rw [upd_same], World.ownsRow_nil _ _ _ _, hs, fun i hi => absurd hi (Nat.not_lt_zero _), fun i hi => absurd hi (Nat.not_lt_zero _)⟩)
  refine ⟨upd γ id' (.slice none 0 0, undef), ?_⟩
  have hold : ((σ.kill id').set id' (some (.rows e sz []))).heap id = some (.box (cells.map (AV.kill id'))) := by
    show (match Nat.beq id id' with
      | true => some (AObj.rows e sz [])
      | false => (σ.kill id').heap id) = _
    rw [beq_ne hne]
    show (match Nat.beq id id' with
      | true => none
      | false => (σ.heap id).map (AObj.kill id')) = _
    rw [beq_ne hne, ho]; rfl
  change SR C (upd γ id' (.slice none 0 0, undef)) ((σ.kill id').set id' (some (.rows e sz []))) a w at s'
  generalize hσ : (σ.kill id').set id' (some (.rows e sz [])) = σ1 at s' hold ⊢
  generalize hγ : upd γ id' (.slice none 0 0, undef) = γ1 at s' ⊢
  have hMut : Mut γ1 (σ1.set id (some (.box ((cells.map (AV.kill id')).set k (.sl id'))))).heap = Mut γ1 σ1.heap := by
    funext b
    refine propext ⟨?_, ?_⟩
    · rintro ⟨i, o, h1, h2⟩
      rcases set_heap h1 with ⟨rfl, _⟩ | ⟨hi, h1⟩
      · exact ⟨_, _, hold, h2⟩
      · exact ⟨i, o, h1, h2⟩
    · rintro ⟨i, o, h1, h2⟩
      by_cases hi : i = id
      · subst hi
        exact ⟨i, .box ((cells.map (AV.kill id')).set k (.sl id')), by show (match Nat.beq i i with | true => _ | false => _) = _; rw [Nat.beq_refl], h2⟩
      · exact ⟨i, o, by show (match Nat.beq i id with | true => _ | false => σ1.heap i) = _; rw [beq_ne hi]; exact h1, h2⟩
  have hγ1 : (γ1 id').1 = .slice none 0 0 := by rw [← hγ, upd_same]
  refine { obj := fun i p h => ?_, disj := fun i i' p p' x h h' hb hb' => ?_, two := fun i p x h hx => ?_, lt := fun i p x h hb => ?_, chg := s'.chg, glob := s'.glob, pins := fun i p u hp h => ?_, env := fun j => ?_, size := s'.size, defers := s'.defers }
  · rw [hMut]
    rcases set_heap h with ⟨hi, hp⟩ | ⟨hi, h⟩
    · subst hi
      cases hp
      obtain ⟨b, c, t, h1, h2, h3, h4⟩ := s'.obj _ _ hold
      refine ⟨b, c, t, h1, h2, by rw [List.length_set]; exact h3, fun j hj => ?_⟩
      rw [List.length_set] at hj
      obtain ⟨v, hv, hrv⟩ := h4 j hj
      by_cases hjk : k = j
      · subst hjk
        rw [List.getElem_set_self]
        have he : (cells.map (AV.kill id'))[k] = .nils := (List.getElem?_eq_some_iff.1 hk).2
        rw [he] at hrv
        have hvn := hrv.nils_inv
        have := Rep.sl (w := w) (N := C.N) (M := Mut γ1 σ1.heap) (fun i => (γ1 i).1) id'
        simp only [hγ1] at this
        exact ⟨v, hv, by rw [hvn]; exact this⟩
      · rw [List.getElem_set_ne hjk]
        exact ⟨v, hv, hrv⟩
    · exact s'.obj i p h
  · have key : ∀ {i : Nat} {p : AObj}, (σ1.set id (some (.box ((cells.map (AV.kill id')).set k (.sl id'))))).heap i = some p → ∃ q, σ1.heap i = some q := fun {i p} h => by
      rcases set_heap h with ⟨rfl, _⟩ | ⟨_, h⟩
      · exact ⟨_, hold⟩
      · exact ⟨_, h⟩
    obtain ⟨q, hq⟩ := key h
    obtain ⟨q', hq'⟩ := key h'
    exact s'.disj i i' q q' x hq hq' hb hb'
  · rcases set_heap h with ⟨rfl, _⟩ | ⟨_, h⟩
    · exact s'.two _ _ x hold hx
    · exact s'.two i p x h hx
  · rcases set_heap h with ⟨rfl, _⟩ | ⟨_, h⟩
    · exact s'.lt _ _ x hold hb
    · exact s'.lt i p x h hb
  · rcases set_heap h with ⟨rfl, _⟩ | ⟨_, h⟩
    · exact s'.pins _ _ u hp hold
    · exact s'.pins i p u hp h
  · rw [hMut]; exact s'.env j
theorem valueF_none {n : Nat} {name r : B} (h : (valueF n name r).more = false) : (valueF n name r).link = none := by
  cases r with
  | nil => rfl
  | cons c t =>
    simp only [valueF] at h ⊢
    by_cases hq : c = 34 ∨ c = 39
    · rw [if_pos hq] at h ⊢
      cases hd : t.dropWhile (· != c) with
      | nil => rfl
      | cons d u => rw [hd] at h; cases h
    · rw [if_neg hq] at h ⊢
      cases hd : (c :: t).dropWhile (fun c => !uvB c) with
      | nil => rfl
      | cons d u => rw [hd] at h; cases h
theorem attrF_none {n : Nat} {r : B} (h : (attrF n r).more = false) : (attrF n r).link = none := by
  unfold attrF at h ⊢
  split at h
  · rfl
  · rename_i c t hc
    split at h
    · rename_i h62; simp only [h62, if_true]
    · rename_i h62
      split at h
      · rename_i hd; simp only [h62, if_false, hd]
      · rename_i d u hd
        split at h
        · rename_i he; simp only [h62, if_false, hd, he]
        · rename_i e w he
          split at h
          · rename_i h61
            simp only [h62, if_false, hd, he, h61, if_true]
            exact valueF_none h
          · cases h
theorem valueF_suf (n : Nat) (name r : B) : (valueF n name r).rest <:+ r := by
  unfold valueF
  split
  · exact List.nil_suffix
  · rename_i c t
    split
    · split
      · exact List.nil_suffix
      · rename_i d u hd
        have h1 : d :: u <:+ t := by rw [← hd]; exact suf_dw _ _
        exact ((List.suffix_cons d u).trans h1).trans (List.suffix_cons c t)
    · split
      · exact List.nil_suffix
      · rename_i d u hd
        show d :: u <:+ c :: t
        rw [← hd]; exact suf_dw _ _
theorem attrF_suf (n : Nat) (r : B) : (attrF n r).rest <:+ r := by
  unfold attrF
  have h0 := suf_dw sepB r
  split
  · exact List.nil_suffix
  · rename_i c t hc
    rw [hc] at h0
    have ht : t <:+ r := (List.suffix_cons c t).trans h0
    split
    · exact ht
    · have h1 := suf_dw (fun c => !endB c) t
      split
      · exact List.nil_suffix
      · rename_i d u hd
        have h1 : d :: u <:+ t := by rw [← hd]; exact h1
        have h2 := suf_dw gapB (d :: u)
        split
        · exact List.nil_suffix
        · rename_i e w he
          rw [he] at h2
          have h3 : e :: w <:+ r := (h2.trans h1).trans ht
          split
          · exact (valueF_suf _ _ _).trans ((suf_dw _ _).trans ((List.suffix_cons e w).trans h3))
          · exact h3
theorem attrsF_suf (n : Nat) : ∀ (k : Nat) (r : B), r.length ≤ k → (attrsF n r).2 <:+ r ∧ (attrsF n r).1.length + (attrsF n r).2.length ≤ r.length := by
  intro k
  induction k with
  | zero =>
    intro r hr
    cases h : (attrF n r).more with
    | true => have := attrF_lt h; omega
    | false => rw [attrsF_end h]; simp only [attrF_none h]; exact ⟨attrF_suf n r, by have := attrF_le n r; simp; omega⟩
  | succ k ih =>
    intro r hr
    cases h : (attrF n r).more with
    | true =>
      have h1 := attrF_lt h
      obtain ⟨i1, i2⟩ := ih (attrF n r).rest (by omega)
      rw [attrsF_more h]
      refine ⟨i1.trans (attrF_suf n r), ?_⟩
      simp only [List.length_append]
      have : (attrF n r).link.toList.length ≤ 1 := by cases (attrF n r).link <;> simp
      omega
    | false => rw [attrsF_end h]; simp only [attrF_none h]; exact ⟨attrF_suf n r, by have := attrF_le n r; simp; omega⟩
section
attribute [local irreducible] Tri Steps Qd Wr Weak CPure CEff CNew CutN AllB Behind
theorem z4 : zeroL Tryz.prog 149 = some [.str [], .str [], .str [], .str []] := by kernel_rfl
theorem rawSkip_suf (m r : B) : rawSkip m r <:+ r := by
  unfold rawSkip
  split
  · exact List.nil_suffix
  · exact List.drop_suffix _ _
set_option maxHeartbeats 8000000 in
/-- goes on behind a tag whose name begins here -/
theorem tag_e (s r : B) (L : List Lk) (hs : s.length ≤ 100000000) (hr : r <:+ s) (hL : L.length + r.length ≤ s.length + 1) : CEff gxs 43 (scO s (posF s r) L) [.ptr 0 0] (some (scO s (posF s (tagF s.length r).2) (L ++ (tagF s.length r).1))) (.tup []) := by
  refine ceff_of Tryz.func43 rfl (Nat.le_of_ble_eq_true rfl) (fun w γ hw hM => tri_post (sc_open rfl rfl ?_))
  have hle := suf_le hr
  have hd := suf_drop hr
  have R1 := (run_c r anS anB an_set (by omega) (by decide) (by decide)).s
  have hs1 : r.dropWhile anB <:+ s := (suf_dw _ _).trans hr
  have hl1 := dwP_le anB r
  have hsplit : r = r.takeWhile anB ++ r.dropWhile anB := (List.takeWhile_append_dropWhile).symm
  have hlen := congrArg List.length hsplit
  rw [List.length_append] at hlen
  have M1 := (small_c (r.takeWhile anB) (by omega)).s
  rw [← lowP_low] at M1
  have hcut := suf_cut (a := r.takeWhile anB) (b := r.dropWhile anB) (s := s) (by rw [← hsplit]; exact hr)
  rw [← hsplit] at hcut
  have htag : tagF s.length r = ((attrsF s.length (r.dropWhile anB)).1, match rawB (lowP (r.takeWhile anB)) with
    | true => rawSkip (lowP (r.takeWhile anB)) (attrsF s.length (r.dropWhile anB)).2
    | false => (attrsF s.length (r.dropWhile anB)).2) := rfl
  rw [htag]
  clear htag hsplit
  have hnl : (lowP (r.takeWhile anB)).length = (r.takeWhile anB).length := by simp [lowP]
  generalize r.takeWhile anB = nm at *
  generalize r.dropWhile anB = r1 at *
  obtain ⟨a1, a2⟩ := attrsF_suf s.length _ r1 (Nat.le_refl _)
  have hsA : (attrsF s.length r1).2 <:+ s := a1.trans hs1
  refine tri_cutN (fun (_ : Unit) => True) (fun _ => st [(0, .ptr 0 0), (3, .str (lowP nm))] [(0, scO s (posF s r1) L)]) 3 ?_ (fun _ _ => ?_)
  · have hposr : posF s r = (s.length : Int) - r.length := rfl
    generalize posF s r = pp at hposr ⊢
    repeat' (first | refine a_f ?_ | refine st_nil ?_ | refine tri_seq ?_ | refine tri_region rfl ?_ | refine cut_s ?_ | refine a_draw ?_ | (apply st_r rfl; case hq => first | exact q_slice_loE (n' := s.length - r.length) (l := r) (by conv => lhs; whnf) (by conv => lhs; whnf) (by omega) (by kernel_rfl) (by omega) hd | exact q_call R1 (hcf := Tryz.call98) rfl rfl | exact q_slice_lhE (m' := s.length - r.length) (n' := s.length - r.length + nm.length) (l := nm) (by conv => lhs; whnf) (by conv => lhs; whnf) (by conv => lhs; whnf) (by omega) (by omega) (by kernel_rfl) (by omega) (by omega) hcut | exact q_call M1 (hcf := Tryz.call53) rfl rfl | exact a_lens | exact a_index | exact a_add | exact a_adds0 | exact a_addsc | exact a_adds | exact a_sub | exact a_slo | exact a_shi | exact a_slh | exact a_lensl | exact a_lenro | exact a_lennil | exact a_lenpts | exact a_field | exact a_fielde | exact a_fieldr | exact a_idxsl | exact a_load | exact a_loada | exact a_mki | exact a_build2 | exact a_build3 | exact a_build1 | exact a_build0 | exact a_bs1 | exact a_bs2 | exact a_bs3 | exact a_bs4 | exact a_bsa | exact a_boxr) | (apply st_rif rfl; (case hq => first | exact a_lss | exact a_gtr | exact a_eql | exact a_neq | exact a_eqls0 | exact a_neqs0 | exact a_eqls | exact a_neqs | exact a_leq | exact a_geq); all_goals (intro _; try (exfalso; first | omega | contradiction))) | (apply st_rw rfl rfl; case hq => first | exact a_store) | refine tri_true rfl ?_ | refine tri_false rfl ?_ | refine tri_block ?_ | refine tri_skip ?_ | refine tri_ret ?_ | refine tri_exit ?_)
    exact cut_z () trivial ((weak_sc (es := [(0, .ptr 0 0), (3, .str (lowP nm))]) (weak_st ⟨rfl, rfl, trivial⟩ ⟨congrArg (fun p => some (AObj.box [.str s, .int .i64 p, .sl 101])) (by simp only [posF]; omega), rfl, trivial⟩)).trans (weak_st ⟨rfl, rfl, trivial⟩ ⟨rfl, trivial⟩))
  refine tri_seq ?_
  refine tri_block ?_
  refine tri_loop_to (fun (x : B × List Lk) => x.1 <:+ s ∧ x.2.length + x.1.length ≤ s.length + 1 ∧ x.2 ++ (attrsF s.length x.1).1 = L ++ (attrsF s.length r1).1 ∧ (attrsF s.length x.1).2 = (attrsF s.length r1).2) (fun x => st [(0, .ptr 0 0), (3, .str (lowP nm))] [(0, scO s (posF s x.1) x.2)]) (fun x => x.1.length)
    (fun (_ : Unit) => True) (fun _ => st [(0, .ptr 0 0), (3, .str (lowP nm))] [(0, scO s (posF s (attrsF s.length r1).2) (L ++ (attrsF s.length r1).1))]) (r1, L) ⟨hs1, by simp only; omega, rfl, rfl⟩ ?hw weak_tri (fun x hx => ?_) (fun _ _ => ?_)
  case hw => exact Weak.refl _ _
  · obtain ⟨y, M⟩ := x
    change Tri _ _ (st [(0, .ptr 0 0), (3, .str (lowP nm))] [(0, scO s (posF s y) M)]) _
    obtain ⟨hy, hM2, hA1, hA2⟩ := hx
    simp only at hy hM2 hA1 hA2
    have hyl := suf_le hy
    have A1 := attribute_e s y M hs hy (by omega)
    cases hm : (attrF s.length y).more with
    | true =>
      have h1 := attrF_lt hm
      rw [attrsF_more hm] at hA1 hA2
      rw [hm] at A1
      have hl1' : (attrF s.length y).link.toList.length ≤ 1 := by cases (attrF s.length y).link <;> simp
      repeat' (first | refine a_f ?_ | refine st_nil ?_ | refine tri_seq ?_ | refine tri_region rfl ?_ | refine a_draw ?_ | (apply st_r rfl; case hq => first | exact a_lens | exact a_index | exact a_add | exact a_adds0 | exact a_addsc | exact a_adds | exact a_sub | exact a_slo | exact a_shi | exact a_slh | exact a_lensl | exact a_lenro | exact a_lennil | exact a_lenpts | exact a_field | exact a_fielde | exact a_fieldr | exact a_idxsl | exact a_load | exact a_loada | exact a_mki | exact a_build2 | exact a_build3 | exact a_build1 | exact a_build0 | exact a_bs1 | exact a_bs2 | exact a_bs3 | exact a_bs4 | exact a_bsa | exact a_boxr) | (apply st_rif rfl; (case hq => first | exact a_lss | exact a_gtr | exact a_eql | exact a_neq | exact a_eqls0 | exact a_neqs0 | exact a_eqls | exact a_neqs | exact a_leq | exact a_geq); all_goals (intro _; try (exfalso; first | omega | contradiction))) | (apply st_rw rfl rfl; case hq => first | exact w_call (id := 0) A1 (hcf := Tryz.call99) (by rfl) rfl rfl rfl rfl rfl | exact a_store) | refine tri_true rfl ?_ | refine tri_false rfl ?_ | refine tri_block ?_ | refine tri_skip ?_ | refine tri_ret ?_ | refine tri_exit ?_)
      exact nextR ((attrF s.length y).rest, M ++ (attrF s.length y).link.toList) ⟨(attrF_suf _ _).trans hy, by simp only [List.length_append]; omega, by rw [← hA1]; simp, hA2⟩ (weak_st ⟨rfl, rfl, trivial⟩ ⟨rfl, trivial⟩) h1
    | false =>
      rw [attrsF_end hm] at hA1 hA2
      simp only at hA1 hA2
      rw [hm, hA2, hA1] at A1
      repeat' (first | refine a_f ?_ | refine st_nil ?_ | refine tri_seq ?_ | refine tri_region rfl ?_ | refine a_draw ?_ | (apply st_r rfl; case hq => first | exact a_lens | exact a_index | exact a_add | exact a_adds0 | exact a_addsc | exact a_adds | exact a_sub | exact a_slo | exact a_shi | exact a_slh | exact a_lensl | exact a_lenro | exact a_lennil | exact a_lenpts | exact a_field | exact a_fielde | exact a_fieldr | exact a_idxsl | exact a_load | exact a_loada | exact a_mki | exact a_build2 | exact a_build3 | exact a_build1 | exact a_build0 | exact a_bs1 | exact a_bs2 | exact a_bs3 | exact a_bs4 | exact a_bsa | exact a_boxr) | (apply st_rif rfl; (case hq => first | exact a_lss | exact a_gtr | exact a_eql | exact a_neq | exact a_eqls0 | exact a_neqs0 | exact a_eqls | exact a_neqs | exact a_leq | exact a_geq); all_goals (intro _; try (exfalso; first | omega | contradiction))) | (apply st_rw rfl rfl; case hq => first | exact w_call (id := 0) A1 (hcf := Tryz.call99) (by rfl) rfl rfl rfl rfl rfl | exact a_store) | refine tri_true rfl ?_ | refine tri_false rfl ?_ | refine tri_block ?_ | refine tri_skip ?_ | refine tri_ret ?_ | refine tri_exit ?_)
      exact outR () trivial (weak_st ⟨rfl, rfl, trivial⟩ ⟨rfl, trivial⟩)
  · refine sc_open rfl rfl ?_
    have hd2 := suf_drop hsA
    have hlA := suf_le hsA
    have hML : ((L ++ (attrsF s.length r1).1)).length + (attrsF s.length r1).2.length ≤ s.length + 1 := by rw [List.length_append]; omega
    generalize (attrsF s.length r1).2 = r2 at *
    generalize L ++ (attrsF s.length r1).1 = M2 at *
    have hposr : posF s r2 = (s.length : Int) - r2.length := rfl
    have Rw := raws_c.s
    have Ct := (scont_c rawL (lowP nm) (by decide)).s
    rw [rawL_any] at Ct
    cases hraw : rawB (lowP nm) <;> rw [hraw] at Ct
    · generalize posF s r2 = pp at hposr ⊢
      repeat' (first | refine a_f ?_ | refine st_nil ?_ | refine tri_seq ?_ | refine tri_region rfl ?_ | refine a_draw ?_ | (apply st_r rfl; case hq => first | exact q_call Rw (hcf := Tryz.call100) rfl rfl | exact q_call Ct (hcf := Tryz.call101) rfl rfl | exact a_lens | exact a_index | exact a_add | exact a_adds0 | exact a_addsc | exact a_adds | exact a_sub | exact a_slo | exact a_shi | exact a_slh | exact a_lensl | exact a_lenro | exact a_lennil | exact a_lenpts | exact a_field | exact a_fielde | exact a_fieldr | exact a_idxsl | exact a_load | exact a_loada | exact a_mki | exact a_build2 | exact a_build3 | exact a_build1 | exact a_build0 | exact a_bs1 | exact a_bs2 | exact a_bs3 | exact a_bs4 | exact a_bsa | exact a_boxr) | (apply st_rif rfl; (case hq => first | exact a_lss | exact a_gtr | exact a_eql | exact a_neq | exact a_eqls0 | exact a_neqs0 | exact a_eqls | exact a_neqs | exact a_leq | exact a_geq); all_goals (intro _; try (exfalso; first | omega | contradiction))) | (apply st_rw rfl rfl; case hq => first | exact w_alloc 102 z4 rfl rfl rfl | exact w_slbox 102 (by conv => lhs; whnf) (by conv => lhs; whnf; arg 1; whnf) rfl Tryz.underlying149 (by kernel_rfl) rfl (by decide) rfl | exact a_store) | refine tri_true rfl ?_ | refine tri_false rfl ?_ | refine tri_block ?_ | refine tri_skip ?_ | refine tri_ret ?_ | refine tri_exit ?_)
      exact sc_end (es := []) (weak_st trivial ⟨rfl, rfl, trivial⟩) ⟨trivial, rfl, rfl⟩
    · have S1 := (small_c r2 (by omega)).s
      rw [← lowP_low] at S1
      have hll : (lowP r2).length = r2.length := by simp [lowP]
      have I1 := (index_c (lowP r2) ([60, 47] ++ lowP nm) (by omega)).s
      have hsk : rawSkip (lowP nm) r2 = if Lib.index (lowP r2) ([60, 47] ++ lowP nm) < 0 then [] else r2.drop (Lib.index (lowP r2) ([60, 47] ++ lowP nm)).toNat := rfl
      have hge := Lib.index_ge (lowP r2) ([60, 47] ++ lowP nm)
      have hsp : 0 ≤ Lib.index (lowP r2) ([60, 47] ++ lowP nm) → (Lib.index (lowP r2) ([60, 47] ++ lowP nm)).toNat ≤ r2.length := fun h => by
        have := (index_spec h).length_le
        rw [List.length_drop, hll] at this
        simp only [List.length_append, List.length_cons] at this
        omega
      have hposk : posF s (rawSkip (lowP nm) r2) = (s.length : Int) - (rawSkip (lowP nm) r2).length := rfl
      simp only
      generalize posF s r2 = pp at hposr ⊢
      generalize posF s (rawSkip (lowP nm) r2) = pk at hposk ⊢
      generalize Lib.index (lowP r2) ([60, 47] ++ lowP nm) = k at I1 hge hsp hsk
      by_cases h0 : k < 0
      · rw [if_pos h0] at hsk
        rw [hsk] at hposk
        simp only [List.length_nil] at hposk
        repeat' (first | refine a_f ?_ | refine st_nil ?_ | refine tri_seq ?_ | refine tri_region rfl ?_ | refine a_draw ?_ | (apply st_r rfl; case hq => first | exact q_call Rw (hcf := Tryz.call100) rfl rfl | exact q_call Ct (hcf := Tryz.call101) rfl rfl | exact q_slice_loE (n' := s.length - r2.length) (l := r2) (by conv => lhs; whnf) (by conv => lhs; whnf) (by omega) (by kernel_rfl) (by omega) hd2 | exact q_call S1 (hcf := Tryz.call53) rfl rfl | exact q_adds (u := [60, 47]) rfl (by conv => lhs; whnf) (by first | omega | (simp only [List.length_append, List.length_cons, List.length_nil, List.length_take, List.length_drop]; omega)) | exact q_call I1 (hcf := Tryz.call95) rfl rfl | exact a_lens | exact a_index | exact a_add | exact a_adds0 | exact a_addsc | exact a_adds | exact a_sub | exact a_slo | exact a_shi | exact a_slh | exact a_lensl | exact a_lenro | exact a_lennil | exact a_lenpts | exact a_field | exact a_fielde | exact a_fieldr | exact a_idxsl | exact a_load | exact a_loada | exact a_mki | exact a_build2 | exact a_build3 | exact a_build1 | exact a_build0 | exact a_bs1 | exact a_bs2 | exact a_bs3 | exact a_bs4 | exact a_bsa | exact a_boxr) | (apply st_rif rfl; (case hq => first | exact a_lss | exact a_gtr | exact a_eql | exact a_neq | exact a_eqls0 | exact a_neqs0 | exact a_eqls | exact a_neqs | exact a_leq | exact a_geq); all_goals (intro _; try (exfalso; first | omega | contradiction))) | (apply st_rw rfl rfl; case hq => first | exact w_alloc 102 z4 rfl rfl rfl | exact w_slbox 102 (by conv => lhs; whnf) (by conv => lhs; whnf; arg 1; whnf) rfl Tryz.underlying149 (by kernel_rfl) rfl (by decide) rfl | exact a_store) | refine tri_true rfl ?_ | refine tri_false rfl ?_ | refine tri_block ?_ | refine tri_skip ?_ | refine tri_ret ?_ | refine tri_exit ?_)
        exact sc_end (es := []) (weak_st trivial ⟨congrArg (fun p => some (AObj.box [.str s, .int .i64 p, .sl 101])) (by omega), rfl, trivial⟩) ⟨trivial, rfl, rfl⟩
      · rw [if_neg h0] at hsk
        have := hsp (by omega)
        have hlk : (rawSkip (lowP nm) r2).length = r2.length - k.toNat := by rw [hsk, List.length_drop]
        rw [hlk] at hposk
        repeat' (first | refine a_f ?_ | refine st_nil ?_ | refine tri_seq ?_ | refine tri_region rfl ?_ | refine a_draw ?_ | (apply st_r rfl; case hq => first | exact q_call Rw (hcf := Tryz.call100) rfl rfl | exact q_call Ct (hcf := Tryz.call101) rfl rfl | exact q_slice_loE (n' := s.length - r2.length) (l := r2) (by conv => lhs; whnf) (by conv => lhs; whnf) (by omega) (by kernel_rfl) (by omega) hd2 | exact q_call S1 (hcf := Tryz.call53) rfl rfl | exact q_adds (u := [60, 47]) rfl (by conv => lhs; whnf) (by first | omega | (simp only [List.length_append, List.length_cons, List.length_nil, List.length_take, List.length_drop]; omega)) | exact q_call I1 (hcf := Tryz.call95) rfl rfl | exact a_lens | exact a_index | exact a_add | exact a_adds0 | exact a_addsc | exact a_adds | exact a_sub | exact a_slo | exact a_shi | exact a_slh | exact a_lensl | exact a_lenro | exact a_lennil | exact a_lenpts | exact a_field | exact a_fielde | exact a_fieldr | exact a_idxsl | exact a_load | exact a_loada | exact a_mki | exact a_build2 | exact a_build3 | exact a_build1 | exact a_build0 | exact a_bs1 | exact a_bs2 | exact a_bs3 | exact a_bs4 | exact a_bsa | exact a_boxr) | (apply st_rif rfl; (case hq => first | exact a_lss | exact a_gtr | exact a_eql | exact a_neq | exact a_eqls0 | exact a_neqs0 | exact a_eqls | exact a_neqs | exact a_leq | exact a_geq); all_goals (intro _; try (exfalso; first | omega | contradiction))) | (apply st_rw rfl rfl; case hq => first | exact w_alloc 102 z4 rfl rfl rfl | exact w_slbox 102 (by conv => lhs; whnf) (by conv => lhs; whnf; arg 1; whnf) rfl Tryz.underlying149 (by kernel_rfl) rfl (by decide) rfl | exact a_store) | refine tri_true rfl ?_ | refine tri_false rfl ?_ | refine tri_block ?_ | refine tri_skip ?_ | refine tri_ret ?_ | refine tri_exit ?_)
        exact sc_end (es := []) (weak_st trivial ⟨congrArg (fun p => some (AObj.box [.str s, .int .i64 p, .sl 101])) (by omega), rfl, trivial⟩) ⟨trivial, rfl, rfl⟩
end
end Go.Proofs.YtignjjnflcpiiaaGreatDoor
