import Derived.Test.YtignjjnflcpiiabGreatDoorZPartNE
import Derived.Test.YtignjjnflcpiiabGreatDoorZPartNF
set_option linter.unusedVariables false
set_option linter.unusedSimpArgs false
set_option maxHeartbeats 1000000
namespace Go.Proofs.YtignjjnflcpiiabGreatDoor
open Go.RowKit
attribute [local irreducible] Tri Steps Qd Wr Weak CPure CEff AllB Behind
set_option maxRecDepth 100000
set_option linter.unusedSectionVars false
def kidsPre (f : Nat → B → Res (PT × Nat)) : Nat → List B → List PT
  | _, [] => []
  | left, x :: r => match f left x with
    | .err _ => []
    | .ok (p, n) => p :: kidsPre f n r
theorem decodeF_err {l : Fs} {s : B} {e : Nat} (h : decodeF l s = .err e) : 1 ≤ e := by
  unfold decodeF at h
  split at h
  · cases h
  · split at h
    · cases h
    · split at h
      · split at h
        · cases h
        · cases h; decide
      · split at h
        · split at h
          · cases h
          · cases h; decide
        · cases h; decide
theorem readKids_err {f : Nat → B → Res (PT × Nat)} (hf : ∀ left s e, f left s = .err e → 1 ≤ e) : ∀ (xs : List B) (left e : Nat), readKids f left xs = .err e → 1 ≤ e
  | [], left, e, h => by rw [readKids] at h; cases h
  | x :: xs, left, e, h => by
    rw [readKids] at h
    split at h
    · rename_i e' hp
      cases h
      exact hf _ _ _ hp
    · rename_i p k hp
      split at h
      · rename_i e' hq
        cases h
        exact readKids_err hf xs k _ hq
      · cases h
theorem readPt_err : ∀ (d left : Nat) (s : B) (e : Nat), readPt d left s = .err e → 1 ≤ e
  | 0, left, s, e, h => by rw [readPt] at h; cases h; decide
  | d + 1, 0, s, e, h => by rw [readPt] at h; cases h; decide
  | d + 1, left + 1, s, e, h => by
    rw [readPt] at h
    split at h
    · cases h; decide
    · split at h
      · cases h; decide
      · split at h
        · cases h; decide
        · split at h
          · rename_i e' hd
            cases h
            exact decodeF_err hd
          · cases h
        · split at h
          · cases h; decide
          · rename_i xs hxs
            split at h
            · rename_i e' hk
              cases h
              exact readKids_err (readPt_err d) xs left _ hk
            · cases h
abbrev RKidS (ab : Int) (l : Fs) (xs : List B) (x : Nat × Nat × List PT) : St := st [(1, .int .i64 ab), (2, .ptr 0 0), (6, .ptr 106 0), (117, .ro true 1 (strRows xs)), (118, .int .i64 (strRows xs).length), (119, .int .i64 x.1)] [(0, .box [.int .i64 (40 - (x.2.1 : Int))]), (105, .pts true PtT x.2.2), (106, .box [.ro true 2 (fieldRows l), .str [], .bool true, .sl 105])]
noncomputable abbrev RRdC (w : World) (γ : Gh) (hw : gx.nG ≤ w.heap.size) (hM : ∀ b, Blk γ 0 b → gx.nG ≤ b) : Cx := cxe gx Tryz.f8.ntmps w γ hw hM
section
variable {w : World} {γ : Gh} (hw : gx.nG ≤ w.heap.size) (hM : ∀ b, Blk γ 0 b → gx.nG ≤ b) (I : Nat × Nat × List PT → Prop) (Q : Exit → St → Prop) (ab : Int) (l : Fs) (xs : List B) (i lf : Nat) (ps : List PT) (x : B)
  (hab : 0 ≤ ab ∧ ab ≤ 4) (hi : i < xs.length) (hxl : xs.length ≤ 2000000) (hps : ps.length ≤ i) (hxr : (strRows xs)[(i : Int).toNat]? = some [.str x])
include hab hi hxl hps hxr
set_option maxHeartbeats 8000000 in
theorem rkid_ok (q : PT) (n : Nat) (E : CEff gx 8 (.box [.int .i64 (40 - (lf : Int))]) [.str x, .int .i64 (ab + 1), .ptr 0 0] (some (.box [.int .i64 (40 - (n : Int))])) (.tup [.agg (ptCells true q), .int .i64 0])) (hI : I (i + 1, n, ps ++ [q])) :
    Tri (RRdC w γ hw hM) (loopN Tryz.f8 0) (RKidS ab l xs (i, lf, ps)) (loopQ (RRdC w γ hw hM) I (RKidS ab l xs) (fun x => xs.length - x.1) (xs.length - i) Q) := by
  have hsl := sr_len xs
  obtain ⟨qh, qb, qm, qp⟩ := q
  have E : CEff gx 8 (.box [.int .i64 (40 - (lf : Int))]) [.str x, .int .i64 (ab + 1), .ptr 0 0] (some (.box [.int .i64 (40 - (n : Int))])) (.tup [.agg [.ro true 2 (fieldRows qh), .str qb, .bool qm, .pts true qp], .int .i64 0]) := E
  change Tri _ _ (st [(1, .int .i64 ab), (2, .ptr 0 0), (6, .ptr 106 0), (117, .ro true 1 (strRows xs)), (118, .int .i64 (strRows xs).length), (119, .int .i64 i)] [(0, .box [.int .i64 (40 - (lf : Int))]), (105, .pts true PtT ps), (106, .box [.ro true 2 (fieldRows l), .str [], .bool true, .sl 105])]) _
  repeat' (first | refine a_f ?_ | refine st_nil ?_ | refine tri_seq ?_ | refine tri_region rfl ?_ | refine a_draw ?_ | (apply st_r rfl; case hq => first | exact q_idxro (by conv => lhs; whnf) (by conv => lhs; whnf) (by first | exact Tryz.underlying22 | exact Tryz.underlying23 | exact Tryz.underlying56 | exact Tryz.underlying74 | exact Tryz.underlying80 | exact Tryz.underlying81 | exact Tryz.underlying157 | exact Tryz.underlying177 | exact Tryz.underlying211) (by kernel_rfl) (by omega) hxr | exact q_loadr (by conv => lhs; whnf) (by conv => lhs; whnf) (by show scalB Tryz.prog _ = true; decide +kernel) (fun _ => rfl) | exact q_loada (n := 4) (by conv => lhs; whnf) (by conv => lhs; whnf; arg 1; whnf) (by conv => lhs; whnf) (by first | rfl | exact Nat.le_of_ble_eq_true rfl | exact Nat.succ_pos _ | decide) (by show aggB Tryz.prog _ _ = true; decide +kernel) | exact q_bspt (fr := true) (p := .mk qh qb qm qp) Tryz.underlying23 (by kernel_rfl) (by kernel_rfl) (by rfl) | exact a_lens | exact a_index | exact a_add | exact a_adds0 | exact a_addsc | exact a_adds | exact a_sub | exact a_slo | exact a_shi | exact a_slh | exact a_lensl | exact a_lenro | exact a_lennil | exact a_lenpts | exact a_field | exact a_fielde | exact a_fieldr | exact a_idxsl | exact a_load | exact a_loada | exact a_mki | exact a_build2 | exact a_build3 | exact a_build1 | exact a_build0 | exact a_bs1 | exact a_bs2 | exact a_bs3 | exact a_bs4 | exact a_bsa | exact a_boxr) | (apply st_rif rfl; (case hq => first | exact a_lss | exact a_gtr | exact a_eql | exact a_neq | exact a_eqls0 | exact a_neqs0 | exact a_eqls | exact a_neqs | exact a_leq | exact a_geq); all_goals (intro _; try (exfalso; first | omega | contradiction))) | (apply st_rw rfl rfl; case hq => first | exact w_alloc (d := 19) 119 (by exact zPartK) rfl rfl rfl | exact w_call (id := 0) E (hcf := Tryz.call8) (by rfl) rfl rfl rfl rfl rfl | exact w_appendp (id := 105) (by conv => lhs; whnf) (by rfl) (by rfl) Tryz.underlying23 (by kernel_rfl) (by simp) rfl (by simp only [List.length_cons, List.length_nil]; omega) rfl rfl | exact a_store) | refine tri_true rfl ?_ | refine tri_false rfl ?_ | refine tri_block ?_ | refine tri_skip ?_ | refine tri_ret ?_ | refine tri_exit ?_)
  exact nextR (i + 1, n, ps ++ [.mk qh qb qm qp]) hI (weak_st ⟨rfl, rfl, rfl, rfl, rfl, rfl, trivial⟩ ⟨rfl, rfl, rfl, trivial⟩) (show xs.length - (i + 1) < xs.length - i by omega)
set_option maxHeartbeats 8000000 in
theorem rkid_err (e : Nat) (he : 1 ≤ e) (p1 : PT) (E : CEff gx 8 (.box [.int .i64 (40 - (lf : Int))]) [.str x, .int .i64 (ab + 1), .ptr 0 0] (some (.box [.any])) (rprAV p1 (.err e)))
    (hQ : ∀ σ, (∃ σ', Weak (RRdC w γ hw hM) σ σ' ∧ RetQB gx.P Tryz.f8.results.toList (.tup [.agg (ptCells true (.mk l [] true ps)), .int .i64 (e : Int)]) (some (.box [.any])) .ret σ') → Q .ret σ) :
    Tri (RRdC w γ hw hM) (loopN Tryz.f8 0) (RKidS ab l xs (i, lf, ps)) (loopQ (RRdC w γ hw hM) I (RKidS ab l xs) (fun x => xs.length - x.1) (xs.length - i) Q) := by
  have hsl := sr_len xs
  obtain ⟨qh, qb, qm, qp⟩ := p1
  have E : CEff gx 8 (.box [.int .i64 (40 - (lf : Int))]) [.str x, .int .i64 (ab + 1), .ptr 0 0] (some (.box [.any])) (.tup [.agg [.ro true 2 (fieldRows qh), .str qb, .bool qm, .pts true qp], .int .i64 (e : Int)]) := E
  change Tri _ _ (st [(1, .int .i64 ab), (2, .ptr 0 0), (6, .ptr 106 0), (117, .ro true 1 (strRows xs)), (118, .int .i64 (strRows xs).length), (119, .int .i64 i)] [(0, .box [.int .i64 (40 - (lf : Int))]), (105, .pts true PtT ps), (106, .box [.ro true 2 (fieldRows l), .str [], .bool true, .sl 105])]) _
  repeat' (first | refine a_f ?_ | refine st_nil ?_ | refine tri_seq ?_ | refine tri_region rfl ?_ | refine a_draw ?_ | (apply st_r rfl; case hq => first | exact q_idxro (by conv => lhs; whnf) (by conv => lhs; whnf) (by first | exact Tryz.underlying22 | exact Tryz.underlying23 | exact Tryz.underlying56 | exact Tryz.underlying74 | exact Tryz.underlying80 | exact Tryz.underlying81 | exact Tryz.underlying157 | exact Tryz.underlying177 | exact Tryz.underlying211) (by kernel_rfl) (by omega) hxr | exact q_loadr (by conv => lhs; whnf) (by conv => lhs; whnf) (by show scalB Tryz.prog _ = true; decide +kernel) (fun _ => rfl) | exact q_loada (n := 4) (by conv => lhs; whnf) (by conv => lhs; whnf; arg 1; whnf) (by conv => lhs; whnf) (by first | rfl | exact Nat.le_of_ble_eq_true rfl | exact Nat.succ_pos _ | decide) (by show aggB Tryz.prog _ _ = true; decide +kernel) | exact a_lens | exact a_index | exact a_add | exact a_adds0 | exact a_addsc | exact a_adds | exact a_sub | exact a_slo | exact a_shi | exact a_slh | exact a_lensl | exact a_lenro | exact a_lennil | exact a_lenpts | exact a_field | exact a_fielde | exact a_fieldr | exact a_idxsl | exact a_load | exact a_loada | exact a_mki | exact a_build2 | exact a_build3 | exact a_build1 | exact a_build0 | exact a_bs1 | exact a_bs2 | exact a_bs3 | exact a_bs4 | exact a_bsa | exact a_boxr) | (apply st_rif rfl; (case hq => first | exact a_lss | exact a_gtr | exact a_eql | exact a_neq | exact a_eqls0 | exact a_neqs0 | exact a_eqls | exact a_neqs | exact a_leq | exact a_geq); all_goals (intro _; try (exfalso; first | omega | contradiction))) | (apply st_rw rfl rfl; case hq => first | exact w_alloc (d := 19) 119 (by exact zPartK) rfl rfl rfl | exact w_call (id := 0) E (hcf := Tryz.call8) (by rfl) rfl rfl rfl rfl rfl | exact a_store) | refine tri_true rfl ?_ | refine tri_false rfl ?_ | refine tri_block ?_ | refine tri_skip ?_ | refine tri_ret ?_ | refine tri_exit ?_)
  exact hQ _ ⟨_, Weak.refl _ _, ⟨⟨106, _, rfl, rfl, by kernel_rfl⟩, trivial⟩, by (conv => lhs; whnf); rfl, rfl⟩
end
section
variable {d left : Nat} {s : B} (hd4 : d + 1 ≤ 4) (hl : left + 1 ≤ 40) (hs : s.length ≤ 1000000) {l0 : Fs} {body : B} (h1 : readH s = .ok l0 body) {l : Fs} (h2 : cleanF l0 = .ok l) {b : B} (h3 : bndF l = some (some b)) {xs : List B} (h4 : cutF b body = some xs)
  (IH : ∀ left s, left ≤ 40 → s.length ≤ 1000000 → RRdOk d left s)
include hd4 hl hs h1 h2 h3 h4 IH
set_option maxHeartbeats 8000000 in
theorem rpr_kidsE {e : Nat} (h : readKids (readPt d) left xs = .err e) : ∀ ab : Int, ab = 4 - ((d + 1 : Nat) : Int) → CEff gx 8 (.box [.int .i64 (40 - ((left + 1 : Nat) : Int))]) [.str s, .int .i64 ab, .ptr 0 0] (some (.box [.any])) (rprAV (.mk l [] true (kidsPre (readPt d) left xs)) (.err e)) := by
  intro ab hab
  refine ceff_ofb Tryz.func8 rfl (Nat.le_of_ble_eq_true rfl) (fun w γ hw hM => ?_)
  refine tri_postE ?_
  have R1 : CPure gx 12 [.str s] (.tup [.ro true 2 (fieldRows l0), .str body, .agg [.int .i64 0, .int .i64 (-1)]]) := by
    have := rread_c s hs
    rw [h1] at this
    exact this
  obtain ⟨hl0, hbl⟩ := readH_small h1 hs
  have hlS := cleanF_small h2 hl0
  have C1 : CPure gx 13 [.ro false 2 (fieldRows l0)] (.tup [.ro true 2 (fieldRows l), .agg [.int .i64 0, .int .i64 (-1)]]) := by
    have := rclean_c l0 hl0
    rw [h2] at this
    exact this
  have B1 : CPure gx 14 [.ro false 2 (fieldRows l)] (.tup [.str b, .bool true, .int .i64 0]) := by
    have := manies_c l hlS
    rw [h3] at this
    exact this
  have K1 : CPure gx 19 [.str body, .str b] (.tup [.ro true 1 (strRows xs), .bool true]) := by
    have := between_c body b (by omega) (bndF_le hlS h3)
    rw [h4] at this
    exact this
  obtain ⟨hx1, hx2⟩ := cutF_len h4
  repeat' (first | refine a_f ?_ | refine st_nil ?_ | refine tri_seq ?_ | refine tri_region rfl ?_ | refine a_draw ?_ | (apply st_r rfl; case hq => first | exact q_loada (n := 4) (by conv => lhs; whnf) (by conv => lhs; whnf; arg 1; whnf) (by conv => lhs; whnf) (by first | rfl | exact Nat.le_of_ble_eq_true rfl | exact Nat.succ_pos _ | decide) (by show aggB Tryz.prog _ _ = true; decide +kernel) | exact q_build2 zPartK rfl (by kernel_rfl) (by conv => lhs; whnf) (by conv => lhs; whnf) rfl rfl (by conv => lhs; whnf) | exact q_call R1 (hcf := Tryz.call12) rfl rfl | exact q_call C1 (hcf := Tryz.call13) rfl rfl | exact q_call B1 (hcf := Tryz.call14) rfl rfl | exact q_call K1 (hcf := Tryz.call19) rfl rfl | exact a_lens | exact a_index | exact a_add | exact a_adds0 | exact a_addsc | exact a_adds | exact a_sub | exact a_slo | exact a_shi | exact a_slh | exact a_lensl | exact a_lenro | exact a_lennil | exact a_lenpts | exact a_field | exact a_fielde | exact a_fieldr | exact a_idxsl | exact a_load | exact a_loada | exact a_mki | exact a_build2 | exact a_build3 | exact a_build1 | exact a_build0 | exact a_bs1 | exact a_bs2 | exact a_bs3 | exact a_bs4 | exact a_bsa | exact a_boxr) | (apply st_rif rfl; (case hq => first | exact a_lss | exact a_gtr | exact a_eql | exact a_neq | exact a_eqls0 | exact a_neqs0 | exact a_eqls | exact a_neqs | exact a_leq | exact a_geq); all_goals (intro _; try (exfalso; first | omega | contradiction))) | (apply st_rw rfl rfl; case hq => first | exact w_alloc (d := 6) 106 (by exact zPartK) rfl rfl rfl | exact w_alloc (d := 10) 110 (by first | exact zAt | exact zFault | exact zField | exact zParam | exact zLink | exact zPart | exact zReader) rfl rfl rfl | exact a_store) | refine tri_true rfl ?_ | refine tri_false rfl ?_ | refine tri_block ?_ | refine tri_skip ?_ | refine tri_ret ?_ | refine tri_exit ?_)
  refine tri_loop (fun (x : Nat × Nat × List PT) => x.1 ≤ xs.length ∧ x.2.1 ≤ 40 ∧ x.2.2.length ≤ x.1 ∧ kcat x.2.2 (readKids (readPt d) x.2.1 (xs.drop x.1)) = .err e ∧ x.2.2 ++ kidsPre (readPt d) x.2.1 (xs.drop x.1) = kidsPre (readPt d) left xs) (RKidS ab l xs) (fun x => xs.length - x.1) (0, left, []) ⟨Nat.zero_le _, by simp only; omega, Nat.zero_le _, by simp only [List.drop_zero]; rw [h]; rfl, by simp only [List.drop_zero, List.nil_append]⟩ ?hw (fun x hx => ?_)
  case hw => exact (weak_cellnil 106 3 105 true PtT rfl rfl rfl rfl).trans (weak_st ⟨rfl, rfl, rfl, rfl, rfl, rfl, trivial⟩ ⟨congrArg (fun z => some (AObj.box [AV.int .i64 z])) (by show _ = 40 - (left : Int); omega), rfl, rfl, trivial⟩)
  obtain ⟨i, lf, qs⟩ := x
  obtain ⟨hi, hlf, hpl, hk, hkp⟩ := hx
  simp only at hi hlf hpl hk hkp
  by_cases hil : i < xs.length
  · obtain ⟨x, hxi, hxm, hxd, hxr⟩ := sr_at hil
    rw [hxd] at hk hkp
    obtain ⟨p1, E⟩ := IH lf x hlf (by have := hx2 x hxm; omega)
    have E := E (ab + 1) (by omega)
    cases hq : readPt d lf x with
    | ok q =>
      obtain ⟨q, m⟩ := q
      rw [hq] at E
      rw [kcat_step hq] at hk
      rw [kidsPre, hq] at hkp
      simp only at hkp
      exact rkid_ok hw hM _ _ ab l xs i lf qs x (by omega) hil (by omega) hpl hxr q m E ⟨by simp only; omega, by have := readPt_le d lf x q m hq; simp only; omega, by simp only [List.length_append, List.length_cons, List.length_nil]; omega, hk, by simp only; rw [← hkp]; simp⟩
    | err e' =>
      rw [hq] at E
      rw [kcat_err hq] at hk
      cases hk
      rw [kidsPre, hq] at hkp
      simp only [List.append_nil] at hkp
      subst hkp
      exact rkid_err hw hM _ _ ab l xs i lf _ x (by omega) hil (by omega) hpl hxr e (readPt_err _ _ _ _ hq) p1 E (fun σ h => h)
  · rw [List.drop_eq_nil_of_le (by omega), readKids] at hk
    cases hk
set_option maxHeartbeats 8000000 in
theorem rpr_kids {ps : List PT} {n : Nat} (h : readKids (readPt d) left xs = .ok (ps, n)) : ∀ ab : Int, ab = 4 - ((d + 1 : Nat) : Int) → CEff gx 8 (.box [.int .i64 (40 - ((left + 1 : Nat) : Int))]) [.str s, .int .i64 ab, .ptr 0 0] (some (.box [.int .i64 (40 - (n : Int))])) (rprAV pt0 (.ok (.mk l [] true ps, n))) := by
  intro ab hab
  refine ceff_ofb Tryz.func8 rfl (Nat.le_of_ble_eq_true rfl) (fun w γ hw hM => ?_)
  have R1 : CPure gx 12 [.str s] (.tup [.ro true 2 (fieldRows l0), .str body, .agg [.int .i64 0, .int .i64 (-1)]]) := by
    have := rread_c s hs
    rw [h1] at this
    exact this
  obtain ⟨hl0, hbl⟩ := readH_small h1 hs
  have hlS := cleanF_small h2 hl0
  have C1 : CPure gx 13 [.ro false 2 (fieldRows l0)] (.tup [.ro true 2 (fieldRows l), .agg [.int .i64 0, .int .i64 (-1)]]) := by
    have := rclean_c l0 hl0
    rw [h2] at this
    exact this
  have B1 : CPure gx 14 [.ro false 2 (fieldRows l)] (.tup [.str b, .bool true, .int .i64 0]) := by
    have := manies_c l hlS
    rw [h3] at this
    exact this
  have K1 : CPure gx 19 [.str body, .str b] (.tup [.ro true 1 (strRows xs), .bool true]) := by
    have := between_c body b (by omega) (bndF_le hlS h3)
    rw [h4] at this
    exact this
  obtain ⟨hx1, hx2⟩ := cutF_len h4
  repeat' (first | refine a_f ?_ | refine st_nil ?_ | refine tri_seq ?_ | refine tri_region rfl ?_ | refine a_draw ?_ | (apply st_r rfl; case hq => first | exact q_loada (n := 4) (by conv => lhs; whnf) (by conv => lhs; whnf; arg 1; whnf) (by conv => lhs; whnf) (by first | rfl | exact Nat.le_of_ble_eq_true rfl | exact Nat.succ_pos _ | decide) (by show aggB Tryz.prog _ _ = true; decide +kernel) | exact q_build2 zPartK rfl (by kernel_rfl) (by conv => lhs; whnf) (by conv => lhs; whnf) rfl rfl (by conv => lhs; whnf) | exact q_call R1 (hcf := Tryz.call12) rfl rfl | exact q_call C1 (hcf := Tryz.call13) rfl rfl | exact q_call B1 (hcf := Tryz.call14) rfl rfl | exact q_call K1 (hcf := Tryz.call19) rfl rfl | exact a_lens | exact a_index | exact a_add | exact a_adds0 | exact a_addsc | exact a_adds | exact a_sub | exact a_slo | exact a_shi | exact a_slh | exact a_lensl | exact a_lenro | exact a_lennil | exact a_lenpts | exact a_field | exact a_fielde | exact a_fieldr | exact a_idxsl | exact a_load | exact a_loada | exact a_mki | exact a_build2 | exact a_build3 | exact a_build1 | exact a_build0 | exact a_bs1 | exact a_bs2 | exact a_bs3 | exact a_bs4 | exact a_bsa | exact a_boxr) | (apply st_rif rfl; (case hq => first | exact a_lss | exact a_gtr | exact a_eql | exact a_neq | exact a_eqls0 | exact a_neqs0 | exact a_eqls | exact a_neqs | exact a_leq | exact a_geq); all_goals (intro _; try (exfalso; first | omega | contradiction))) | (apply st_rw rfl rfl; case hq => first | exact w_alloc (d := 6) 106 (by exact zPartK) rfl rfl rfl | exact w_alloc (d := 10) 110 (by first | exact zAt | exact zFault | exact zField | exact zParam | exact zLink | exact zPart | exact zReader) rfl rfl rfl | exact a_store) | refine tri_true rfl ?_ | refine tri_false rfl ?_ | refine tri_block ?_ | refine tri_skip ?_ | refine tri_ret ?_ | refine tri_exit ?_)
  refine tri_loop (fun (x : Nat × Nat × List PT) => x.1 ≤ xs.length ∧ x.2.1 ≤ 40 ∧ x.2.2.length ≤ x.1 ∧ kcat x.2.2 (readKids (readPt d) x.2.1 (xs.drop x.1)) = .ok (ps, n)) (RKidS ab l xs) (fun x => xs.length - x.1) (0, left, []) ⟨Nat.zero_le _, by simp only; omega, Nat.zero_le _, by simp only [List.drop_zero]; rw [h]; rfl⟩ ?hw (fun x hx => ?_)
  case hw => exact (weak_cellnil 106 3 105 true PtT rfl rfl rfl rfl).trans (weak_st ⟨rfl, rfl, rfl, rfl, rfl, rfl, trivial⟩ ⟨congrArg (fun z => some (AObj.box [AV.int .i64 z])) (by show _ = 40 - (left : Int); omega), rfl, rfl, trivial⟩)
  obtain ⟨i, lf, qs⟩ := x
  obtain ⟨hi, hlf, hpl, hk⟩ := hx
  simp only at hi hlf hpl hk
  by_cases hil : i < xs.length
  · obtain ⟨x, hxi, hxm, hxd, hxr⟩ := sr_at hil
    rw [hxd] at hk
    obtain ⟨p1, E⟩ := IH lf x hlf (by have := hx2 x hxm; omega)
    have E := E (ab + 1) (by omega)
    cases hq : readPt d lf x with
    | ok q =>
      obtain ⟨q, m⟩ := q
      rw [hq] at E
      rw [kcat_step hq] at hk
      exact rkid_ok hw hM _ _ ab l xs i lf qs x (by omega) hil (by omega) hpl hxr q m E ⟨by simp only; omega, by have := readPt_le d lf x q m hq; simp only; omega, by simp only [List.length_append, List.length_cons, List.length_nil]; omega, hk⟩
    | err e' =>
      rw [kcat_err hq] at hk
      cases hk
  · rw [List.drop_eq_nil_of_le (by omega), readKids] at hk
    have hk : Res.ok (qs ++ [], lf) = Res.ok (ps, n) := hk
    rw [List.append_nil] at hk
    cases hk
    have hsl := sr_len xs
    change Tri _ _ (st [(1, .int .i64 ab), (2, .ptr 0 0), (6, .ptr 106 0), (117, .ro true 1 (strRows xs)), (118, .int .i64 (strRows xs).length), (119, .int .i64 i)] [(0, .box [.int .i64 (40 - (n : Int))]), (105, .pts true PtT ps), (106, .box [.ro true 2 (fieldRows l), .str [], .bool true, .sl 105])]) _
    repeat' (first | refine a_f ?_ | refine st_nil ?_ | refine tri_seq ?_ | refine tri_region rfl ?_ | refine a_draw ?_ | (apply st_r rfl; case hq => first | exact q_loada (n := 4) (by conv => lhs; whnf) (by conv => lhs; whnf; arg 1; whnf) (by conv => lhs; whnf) (by first | rfl | exact Nat.le_of_ble_eq_true rfl | exact Nat.succ_pos _ | decide) (by show aggB Tryz.prog _ _ = true; decide +kernel) | exact a_lens | exact a_index | exact a_add | exact a_adds0 | exact a_addsc | exact a_adds | exact a_sub | exact a_slo | exact a_shi | exact a_slh | exact a_lensl | exact a_lenro | exact a_lennil | exact a_lenpts | exact a_field | exact a_fielde | exact a_fieldr | exact a_idxsl | exact a_load | exact a_loada | exact a_mki | exact a_build2 | exact a_build3 | exact a_build1 | exact a_build0 | exact a_bs1 | exact a_bs2 | exact a_bs3 | exact a_bs4 | exact a_bsa | exact a_boxr) | (apply st_rif rfl; (case hq => first | exact a_lss | exact a_gtr | exact a_eql | exact a_neq | exact a_eqls0 | exact a_neqs0 | exact a_eqls | exact a_neqs | exact a_leq | exact a_geq); all_goals (intro _; try (exfalso; first | omega | contradiction))) | (apply st_rw rfl rfl; case hq => first | exact a_store) | refine tri_true rfl ?_ | refine tri_false rfl ?_ | refine tri_block ?_ | refine tri_skip ?_ | refine tri_ret ?_ | refine tri_exit ?_)
    exact ⟨⟨⟨106, _, rfl, rfl, by kernel_rfl⟩, trivial⟩, by (conv => lhs; whnf); rfl, rfl⟩
end
theorem rpr_e : ∀ (d left : Nat) (s : B), d ≤ 4 → left ≤ 40 → s.length ≤ 1000000 → RRdOk d left s
  | 0, left, s, hd, hl, hs => ⟨pt0, rpr_lim (.inl rfl) hd hl⟩
  | d + 1, 0, s, hd, hl, hs => ⟨pt0, rpr_lim (.inr rfl) hd hl⟩
  | d + 1, left + 1, s, hd, hl, hs => by
    have IH : ∀ left s, left ≤ 40 → s.length ≤ 1000000 → RRdOk d left s := fun left s => rpr_e d left s (by omega)
    unfold RRdOk
    cases h1 : readH s with
    | bad n =>
      rw [show readPt (d + 1) (left + 1) s = .err 3 by rw [readPt, h1]]
      exact ⟨pt0, rpr_head hd hl hs h1⟩
    | ok l0 body =>
      cases h2 : cleanF l0 with
      | bad n =>
        rw [show readPt (d + 1) (left + 1) s = .err 1 by rw [readPt, h1]; simp only; rw [h2]]
        exact ⟨pt0, rpr_clean hd hl hs h1 h2⟩
      | ok l =>
        rcases h3 : bndF l with _ | _ | b
        · rw [show readPt (d + 1) (left + 1) s = .err 3 by rw [readPt, h1]; simp only; rw [h2]; simp only; rw [h3]]
          exact ⟨pt0, rpr_bnd hd hl hs h1 h2 h3⟩
        · cases h4 : decodeF l body with
          | err e =>
            rw [show readPt (d + 1) (left + 1) s = .err e by rw [readPt, h1]; simp only; rw [h2]; simp only; rw [h3]; simp only; rw [h4]]
            exact ⟨_, rpr_leafE hd hl hs h1 h2 h3 h4⟩
          | ok x =>
            rw [show readPt (d + 1) (left + 1) s = .ok (.mk l x false [], left) by rw [readPt, h1]; simp only; rw [h2]; simp only; rw [h3]; simp only; rw [h4]]
            exact ⟨pt0, rpr_leaf hd hl hs h1 h2 h3 h4⟩
        · cases h4 : cutF b body with
          | none =>
            rw [show readPt (d + 1) (left + 1) s = .err 3 by rw [readPt, h1]; simp only; rw [h2]; simp only; rw [h3]; simp only; rw [h4]]
            exact ⟨_, rpr_cut hd hl hs h1 h2 h3 h4⟩
          | some xs =>
            cases h5 : readKids (readPt d) left xs with
            | err e =>
              rw [show readPt (d + 1) (left + 1) s = .err e by rw [readPt, h1]; simp only; rw [h2]; simp only; rw [h3]; simp only; rw [h4]; simp only; rw [h5]]
              exact ⟨_, rpr_kidsE hd hl hs h1 h2 h3 h4 IH h5⟩
            | ok q =>
              obtain ⟨ps, n⟩ := q
              rw [show readPt (d + 1) (left + 1) s = .ok (.mk l [] true ps, n) by rw [readPt, h1]; simp only; rw [h2]; simp only; rw [h3]; simp only; rw [h4]; simp only; rw [h5]]
              exact ⟨pt0, rpr_kids hd hl hs h1 h2 h3 h4 IH h5⟩
def rrtAV : Res PT → AV
  | .ok p => .tup [.agg (ptCells true p), .int .i64 0]
  | .err e => .tup [.agg (ptCells true pt0), .int .i64 (e : Int)]
set_option maxHeartbeats 8000000 in
theorem rreadPart_c (s : B) (hs : s.length ≤ 1000000) : CPure gx 4 [.str s] (rrtAV (readTop s)) := by
  unfold readTop
  by_cases h0 : 20000 < s.length
  · rw [if_pos h0]
    refine CPure.up ?_ (show Up (.tup [.agg [.nils, .str [], .bool false, .nils], .int .i64 ((4 : Nat) : Int)]) _ from rup_zero _)
    refine cpure_of Tryz.func4 rfl (Nat.le_of_ble_eq_true rfl) rfl (fun w hw => ?_)
    repeat' (first | refine a_f ?_ | refine st_nil ?_ | refine tri_seq ?_ | refine tri_region rfl ?_ | refine a_draw ?_ | (apply st_r rfl; case hq => first | exact q_build0 zPartK rfl (by kernel_rfl) | exact a_lens | exact a_index | exact a_add | exact a_adds0 | exact a_addsc | exact a_adds | exact a_sub | exact a_slo | exact a_shi | exact a_slh | exact a_lensl | exact a_lenro | exact a_lennil | exact a_lenpts | exact a_field | exact a_fielde | exact a_fieldr | exact a_idxsl | exact a_load | exact a_loada | exact a_mki | exact a_build2 | exact a_build3 | exact a_build1 | exact a_build0 | exact a_bs1 | exact a_bs2 | exact a_bs3 | exact a_bs4 | exact a_bsa | exact a_boxr) | (apply st_rif rfl; (case hq => first | exact a_lss | exact a_gtr | exact a_eql | exact a_neq | exact a_eqls0 | exact a_neqs0 | exact a_eqls | exact a_neqs | exact a_leq | exact a_geq); all_goals (intro _; try (exfalso; first | omega | contradiction))) | (apply st_rw rfl rfl; case hq => first | exact w_alloc (d := 2) 106 (by exact zPartK) rfl rfl rfl | exact a_store) | refine tri_true rfl ?_ | refine tri_false rfl ?_ | refine tri_block ?_ | refine tri_skip ?_ | refine tri_ret ?_ | refine tri_exit ?_)
    exact ⟨⟨⟨106, _, rfl, rfl, by kernel_rfl⟩, trivial⟩, by (conv => lhs; whnf); rfl⟩
  · rw [if_neg h0]
    obtain ⟨p0, E⟩ := rpr_e 4 40 s (Nat.le_refl _) (Nat.le_refl _) hs
    have E := E 0 (by decide)
    cases hr : readPt 4 40 s with
    | err e =>
      have he := readPt_err _ _ _ _ hr
      rw [hr] at E
      obtain ⟨qh, qb, qm, qp⟩ := p0
      have E : CEff gx 8 (.box [.int .i64 0]) [.str s, .int .i64 0, .ptr 0 0] (some (.box [.any])) (.tup [.agg [.ro true 2 (fieldRows qh), .str qb, .bool qm, .pts true qp], .int .i64 (e : Int)]) := E
      refine CPure.up ?_ (show Up (.tup [.agg [.nils, .str [], .bool false, .nils], .int .i64 (e : Int)]) _ from rup_zero _)
      refine cpure_of Tryz.func4 rfl (Nat.le_of_ble_eq_true rfl) rfl (fun w hw => ?_)
      repeat' (first | refine a_f ?_ | refine st_nil ?_ | refine tri_seq ?_ | refine tri_region rfl ?_ | refine a_draw ?_ | (apply st_r rfl; case hq => first | exact q_build0 zPartK rfl (by kernel_rfl) | exact a_lens | exact a_index | exact a_add | exact a_adds0 | exact a_addsc | exact a_adds | exact a_sub | exact a_slo | exact a_shi | exact a_slh | exact a_lensl | exact a_lenro | exact a_lennil | exact a_lenpts | exact a_field | exact a_fielde | exact a_fieldr | exact a_idxsl | exact a_load | exact a_loada | exact a_mki | exact a_build2 | exact a_build3 | exact a_build1 | exact a_build0 | exact a_bs1 | exact a_bs2 | exact a_bs3 | exact a_bs4 | exact a_bsa | exact a_boxr) | (apply st_rif rfl; (case hq => first | exact a_lss | exact a_gtr | exact a_eql | exact a_neq | exact a_eqls0 | exact a_neqs0 | exact a_eqls | exact a_neqs | exact a_leq | exact a_geq); all_goals (intro _; try (exfalso; first | omega | contradiction))) | (apply st_rw rfl rfl; case hq => first | exact w_alloc (d := 2) 106 (by exact zPartK) rfl rfl rfl | exact w_alloc (d := 4) 104 (by exact zInt) rfl rfl rfl | exact w_alloc (d := 5) 105 (by exact zPartK) rfl rfl rfl | exact w_call (id := 104) E (hcf := Tryz.call8) (by rfl) rfl rfl rfl rfl rfl | exact a_store) | refine tri_true rfl ?_ | refine tri_false rfl ?_ | refine tri_block ?_ | refine tri_skip ?_ | refine tri_ret ?_ | refine tri_exit ?_)
      exact ⟨⟨⟨106, _, rfl, rfl, by kernel_rfl⟩, trivial⟩, by (conv => lhs; whnf); rfl⟩
    | ok q =>
      obtain ⟨⟨qh, qb, qm, qp⟩, n⟩ := q
      rw [hr] at E
      have E : CEff gx 8 (.box [.int .i64 0]) [.str s, .int .i64 0, .ptr 0 0] (some (.box [.int .i64 (40 - (n : Int))])) (.tup [.agg [.ro true 2 (fieldRows qh), .str qb, .bool qm, .pts true qp], .int .i64 0]) := E
      refine cpure_of Tryz.func4 rfl (Nat.le_of_ble_eq_true rfl) rfl (fun w hw => ?_)
      repeat' (first | refine a_f ?_ | refine st_nil ?_ | refine tri_seq ?_ | refine tri_region rfl ?_ | refine a_draw ?_ | (apply st_r rfl; case hq => first | exact q_loada (n := 4) (by conv => lhs; whnf) (by conv => lhs; whnf; arg 1; whnf) (by conv => lhs; whnf) (by first | rfl | exact Nat.le_of_ble_eq_true rfl | exact Nat.succ_pos _ | decide) (by show aggB Tryz.prog _ _ = true; decide +kernel) | exact a_lens | exact a_index | exact a_add | exact a_adds0 | exact a_addsc | exact a_adds | exact a_sub | exact a_slo | exact a_shi | exact a_slh | exact a_lensl | exact a_lenro | exact a_lennil | exact a_lenpts | exact a_field | exact a_fielde | exact a_fieldr | exact a_idxsl | exact a_load | exact a_loada | exact a_mki | exact a_build2 | exact a_build3 | exact a_build1 | exact a_build0 | exact a_bs1 | exact a_bs2 | exact a_bs3 | exact a_bs4 | exact a_bsa | exact a_boxr) | (apply st_rif rfl; (case hq => first | exact a_lss | exact a_gtr | exact a_eql | exact a_neq | exact a_eqls0 | exact a_neqs0 | exact a_eqls | exact a_neqs | exact a_leq | exact a_geq); all_goals (intro _; try (exfalso; first | omega | contradiction))) | (apply st_rw rfl rfl; case hq => first | exact w_alloc (d := 2) 106 (by exact zPartK) rfl rfl rfl | exact w_alloc (d := 4) 104 (by exact zInt) rfl rfl rfl | exact w_alloc (d := 5) 105 (by exact zPartK) rfl rfl rfl | exact w_call (id := 104) E (hcf := Tryz.call8) (by rfl) rfl rfl rfl rfl rfl | exact a_store) | refine tri_true rfl ?_ | refine tri_false rfl ?_ | refine tri_block ?_ | refine tri_skip ?_ | refine tri_ret ?_ | refine tri_exit ?_)
      exact ⟨⟨⟨106, _, rfl, rfl, by kernel_rfl⟩, trivial⟩, by (conv => lhs; whnf); rfl⟩
end Go.Proofs.YtignjjnflcpiiabGreatDoor
