import Derived.Test.YtignjjnflcpiiabGreatDoorZPartJ
set_option linter.unusedVariables false
set_option linter.unusedSimpArgs false
set_option maxHeartbeats 1000000
namespace Go.Proofs.YtignjjnflcpiiabGreatDoor
open Go.RowKit
attribute [local irreducible] Tri Steps Qd Wr Weak CPure CEff
set_option maxRecDepth 100000
def SmD : Nat → PT → Prop
  | 0, _ => False
  | d + 1, .mk h _ _ ps => h.length ≤ 2000000 ∧ ps.length ≤ 2000000 ∧ ∀ q ∈ ps, SmD d q
section
variable {C : Cx} {σ : St} {ty t t' : TypeId} {pos : String} {af : Array Edge} {g : Option (Nat × Bool)} {x y : Operand} {d : Option Nat}
theorem q_ness {u : B} (hx : σ.ev x = .str u) (hy : σ.ev y = .str u) : Qd C ⟨d, .binOp .neq t x y t', ty, pos, af, g⟩ σ (.bool false) := by
  have := q_neqs (C := C) (d := d) (t := t) (t' := t') (ty := ty) (pos := pos) (af := af) (g := g) hx hy
  simpa using this
theorem q_nebs {u : Bool} (hx : σ.ev x = .bool u) (hy : σ.ev y = .bool u) (ht : C.P.underlying t = some .bool) : Qd C ⟨d, .binOp .neq t x y t', ty, pos, af, g⟩ σ (.bool false) := by
  have := q_neqb (C := C) (d := d) (t := t) (t' := t') (ty := ty) (pos := pos) (af := af) (g := g) hx hy ht
  simpa using this
theorem q_neis {k : IntKind} {n : Int} (hx : σ.ev x = .int k n) (hy : σ.ev y = .int k n) : Qd C ⟨d, .binOp .neq t x y t', ty, pos, af, g⟩ σ (.bool false) := by
  have := q_neq (C := C) (d := d) (t := t) (t' := t') (ty := ty) (pos := pos) (af := af) (g := g) hx hy
  simpa using this
end
abbrev SameS (h : Fs) (b : B) (m : Bool) (ps : List PT) : List (Nat × AObj) := [(102, .box [.ro false 2 (fieldRows h), .str b, .bool m, .pts false ps]), (103, .box [.ro false 2 (fieldRows h), .str b, .bool m, .pts false ps])]
set_option maxHeartbeats 16000000 in
theorem same_mk (h : Fs) (b : B) (m : Bool) (ps : List PT) (h1 : h.length ≤ 2000000) (h2 : ps.length ≤ 2000000) (IH : ∀ q ∈ ps, CPure gx 7 [.agg (ptCells false q), .agg (ptCells false q)] (.bool true)) :
    CPure gx 7 [.agg [.ro false 2 (fieldRows h), .str b, .bool m, .pts false ps], .agg [.ro false 2 (fieldRows h), .str b, .bool m, .pts false ps]] (.bool true) := by
  refine cpure_of Tryz.func7 rfl (Nat.le_of_ble_eq_true rfl) rfl (fun w hw => ?_)
  have hfl := fr_len h
  repeat' (first | refine a_f ?_ | refine st_nil ?_ | refine tri_seq ?_ | refine tri_region rfl ?_ | refine a_draw ?_ | (apply st_r rfl; case hq => first | exact q_lenpts (fr := false) (l := ps) (by rfl) Tryz.underlying23 | exact q_ness (by conv => lhs; whnf) (by rfl) | exact q_nebs (by conv => lhs; whnf) (by rfl) (by kernel_rfl) | exact q_neis (by conv => lhs; whnf) (by rfl) | exact a_lens | exact a_index | exact a_add | exact a_adds0 | exact a_addsc | exact a_adds | exact a_sub | exact a_slo | exact a_shi | exact a_slh | exact a_lensl | exact a_lenro | exact a_lennil | exact a_lenpts | exact a_field | exact a_fielde | exact a_fieldr | exact a_idxsl | exact a_load | exact a_loada | exact a_mki | exact a_build2 | exact a_build3 | exact a_build1 | exact a_build0 | exact a_bs1 | exact a_bs2 | exact a_bs3 | exact a_bs4 | exact a_bsa | exact a_boxr) | (apply st_rif rfl; (case hq => first | exact a_lss | exact a_gtr | exact a_eql | exact a_neq | exact a_eqls0 | exact a_neqs0 | exact a_eqls | exact a_neqs | exact a_leq | exact a_geq); all_goals (intro _; try (exfalso; first | omega | contradiction))) | (apply st_rw rfl rfl; case hq => first | exact w_box (d := 2) 102 (by conv => lhs; whnf) rfl (by conv => lhs; whnf) rfl rfl rfl | exact w_box (d := 3) 103 (by conv => lhs; whnf) rfl (by conv => lhs; whnf) rfl rfl rfl | exact a_store) | refine tri_true rfl ?_ | refine tri_false rfl ?_ | refine tri_block ?_ | refine tri_skip ?_ | refine tri_ret ?_ | refine tri_exit ?_)
  refine tri_loop (fun (i : Nat) => i ≤ h.length) (fun i => st [(2, .ptr 102 0), (3, .ptr 103 0), (4, .bool false), (39, .int .i64 h.length), (40, .int .i64 i)] (SameS h b m ps)) (fun i => h.length - i) 0 (Nat.zero_le _) ?hw (fun i hi => ?_)
  case hw => exact weak_st ⟨rfl, rfl, rfl, by rw [← hfl]; rfl, rfl, trivial⟩ ⟨rfl, rfl, trivial⟩
  by_cases hil : i < h.length
  · obtain ⟨f, hf1, hfm, hfd, hfr⟩ := fr_at hil
    repeat' (first | refine a_f ?_ | refine st_nil ?_ | refine tri_seq ?_ | refine tri_region rfl ?_ | refine a_draw ?_ | (apply st_r rfl; case hq => first | exact q_idxro (by conv => lhs; whnf) (by conv => lhs; whnf) (by first | exact Tryz.underlying22 | exact Tryz.underlying23 | exact Tryz.underlying56 | exact Tryz.underlying74 | exact Tryz.underlying80 | exact Tryz.underlying81 | exact Tryz.underlying157 | exact Tryz.underlying177 | exact Tryz.underlying211) (by kernel_rfl) (by omega) hfr | exact q_loadar (n := 2) (by conv => lhs; whnf) (by conv => lhs; whnf) (by first | rfl | exact Nat.le_of_ble_eq_true rfl | exact Nat.succ_pos _ | decide) (by kernel_rfl) (fun _ => rfl) | exact a_lens | exact a_index | exact a_add | exact a_adds0 | exact a_addsc | exact a_adds | exact a_sub | exact a_slo | exact a_shi | exact a_slh | exact a_lensl | exact a_lenro | exact a_lennil | exact a_lenpts | exact a_field | exact a_fielde | exact a_fieldr | exact a_idxsl | exact a_load | exact a_loada | exact a_mki | exact a_build2 | exact a_build3 | exact a_build1 | exact a_build0 | exact a_bs1 | exact a_bs2 | exact a_bs3 | exact a_bs4 | exact a_bsa | exact a_boxr) | (apply st_rif rfl; (case hq => first | exact q_nestr (dp := inferInstance) (bs := [true, true]) rfl rfl (by kernel_rfl) rfl rfl (ne_fields (f := f) (g := f)) | exact a_lss | exact a_gtr | exact a_eql | exact a_neq | exact a_eqls0 | exact a_neqs0 | exact a_eqls | exact a_neqs | exact a_leq | exact a_geq); all_goals (intro _; try (exfalso; first | omega | contradiction))) | (apply st_rw rfl rfl; case hq => first | exact a_store) | refine tri_true rfl ?_ | refine tri_false rfl ?_ | refine tri_block ?_ | refine tri_skip ?_ | refine tri_ret ?_ | refine tri_exit ?_)
    exact nextR (i + 1) (by omega) (weak_st ⟨rfl, rfl, rfl, rfl, rfl, trivial⟩ ⟨rfl, rfl, trivial⟩) (show h.length - (i + 1) < h.length - i by omega)
  · repeat' (first | refine a_f ?_ | refine st_nil ?_ | refine tri_seq ?_ | refine tri_region rfl ?_ | refine a_draw ?_ | (apply st_r rfl; case hq => first | exact q_lenpts (fr := false) (l := ps) (by rfl) Tryz.underlying23 | exact a_lens | exact a_index | exact a_add | exact a_adds0 | exact a_addsc | exact a_adds | exact a_sub | exact a_slo | exact a_shi | exact a_slh | exact a_lensl | exact a_lenro | exact a_lennil | exact a_lenpts | exact a_field | exact a_fielde | exact a_fieldr | exact a_idxsl | exact a_load | exact a_loada | exact a_mki | exact a_build2 | exact a_build3 | exact a_build1 | exact a_build0 | exact a_bs1 | exact a_bs2 | exact a_bs3 | exact a_bs4 | exact a_bsa | exact a_boxr) | (apply st_rif rfl; (case hq => first | exact a_lss | exact a_gtr | exact a_eql | exact a_neq | exact a_eqls0 | exact a_neqs0 | exact a_eqls | exact a_neqs | exact a_leq | exact a_geq); all_goals (intro _; try (exfalso; first | omega | contradiction))) | (apply st_rw rfl rfl; case hq => first | exact a_store) | refine tri_true rfl ?_ | refine tri_false rfl ?_ | refine tri_block ?_ | refine tri_skip ?_ | refine tri_ret ?_ | refine tri_exit ?_)
    refine tri_loop (fun (i : Nat) => i ≤ ps.length) (fun i => st [(2, .ptr 102 0), (3, .ptr 103 0), (4, .bool false), (57, .int .i64 ps.length), (58, .int .i64 i)] (SameS h b m ps)) (fun i => ps.length - i) 0 (Nat.zero_le _) ?hw2 (fun i hi => ?_)
    case hw2 => exact weak_st ⟨rfl, rfl, rfl, rfl, rfl, trivial⟩ ⟨rfl, rfl, trivial⟩
    by_cases hil : i < ps.length
    · have hq1 : ps[(i : Int).toNat]? = some ps[i] := by rw [Int.toNat_natCast]; exact List.getElem?_eq_getElem hil
      have S1 := IH ps[i] (List.getElem_mem hil)
      generalize ps[i] = q at hq1 S1
      obtain ⟨qh, qb, qm, qp⟩ := q
      have S1 : CPure gx 7 [.agg [.ro false 2 (fieldRows qh), .str qb, .bool qm, .pts false qp], .agg [.ro false 2 (fieldRows qh), .str qb, .bool qm, .pts false qp]] (.bool true) := S1
      repeat' (first | refine a_f ?_ | refine st_nil ?_ | refine tri_seq ?_ | refine tri_region rfl ?_ | refine a_draw ?_ | (apply st_r rfl; case hq => first | exact q_idxpts (p := .mk qh qb qm qp) (by conv => lhs; whnf) (by conv => lhs; whnf) Tryz.underlying23 (by kernel_rfl) (by omega) hq1 | exact q_loadar (n := 4) (by conv => lhs; whnf) (by conv => lhs; whnf) (by first | rfl | exact Nat.le_of_ble_eq_true rfl | exact Nat.succ_pos _ | decide) (by kernel_rfl) (fun _ => rfl) | exact q_call S1 (hcf := Tryz.call7) rfl rfl | exact a_lens | exact a_index | exact a_add | exact a_adds0 | exact a_addsc | exact a_adds | exact a_sub | exact a_slo | exact a_shi | exact a_slh | exact a_lensl | exact a_lenro | exact a_lennil | exact a_lenpts | exact a_field | exact a_fielde | exact a_fieldr | exact a_idxsl | exact a_load | exact a_loada | exact a_mki | exact a_build2 | exact a_build3 | exact a_build1 | exact a_build0 | exact a_bs1 | exact a_bs2 | exact a_bs3 | exact a_bs4 | exact a_bsa | exact a_boxr) | (apply st_rif rfl; (case hq => first | exact a_lss | exact a_gtr | exact a_eql | exact a_neq | exact a_eqls0 | exact a_neqs0 | exact a_eqls | exact a_neqs | exact a_leq | exact a_geq); all_goals (intro _; try (exfalso; first | omega | contradiction))) | (apply st_rw rfl rfl; case hq => first | exact a_store) | refine tri_true rfl ?_ | refine tri_false rfl ?_ | refine tri_block ?_ | refine tri_skip ?_ | refine tri_ret ?_ | refine tri_exit ?_)
      exact nextR (i + 1) (by omega) (weak_st ⟨rfl, rfl, rfl, rfl, rfl, trivial⟩ ⟨rfl, rfl, trivial⟩) (show ps.length - (i + 1) < ps.length - i by omega)
    · repeat' (first | refine a_f ?_ | refine st_nil ?_ | refine tri_seq ?_ | refine tri_region rfl ?_ | refine a_draw ?_ | (apply st_r rfl; case hq => first | exact a_lens | exact a_index | exact a_add | exact a_adds0 | exact a_addsc | exact a_adds | exact a_sub | exact a_slo | exact a_shi | exact a_slh | exact a_lensl | exact a_lenro | exact a_lennil | exact a_lenpts | exact a_field | exact a_fielde | exact a_fieldr | exact a_idxsl | exact a_load | exact a_loada | exact a_mki | exact a_build2 | exact a_build3 | exact a_build1 | exact a_build0 | exact a_bs1 | exact a_bs2 | exact a_bs3 | exact a_bs4 | exact a_bsa | exact a_boxr) | (apply st_rif rfl; (case hq => first | exact a_lss | exact a_gtr | exact a_eql | exact a_neq | exact a_eqls0 | exact a_neqs0 | exact a_eqls | exact a_neqs | exact a_leq | exact a_geq); all_goals (intro _; try (exfalso; first | omega | contradiction))) | (apply st_rw rfl rfl; case hq => first | exact a_store) | refine tri_true rfl ?_ | refine tri_false rfl ?_ | refine tri_block ?_ | refine tri_skip ?_ | refine tri_ret ?_ | refine tri_exit ?_)
      refine And.intro trivial ?_
      conv => lhs; whnf
      try rfl
theorem same_c : ∀ (d : Nat) (p : PT), SmD d p → CPure gx 7 [.agg (ptCells false p), .agg (ptCells false p)] (.bool true)
  | 0, _, h => h.elim
  | d + 1, .mk h b m ps, hp => same_mk h b m ps hp.1 hp.2.1 (fun q hq => same_c d q (hp.2.2 q hq))
theorem readKids_sm {f : Nat → B → Res (PT × Nat)} {R : PT → Prop} {P : B → Prop} (hf : ∀ left s p n, P s → f left s = .ok (p, n) → R p) : ∀ (xs : List B) (left : Nat) (ps : List PT) (n : Nat), (∀ x ∈ xs, P x) → readKids f left xs = .ok (ps, n) → ps.length = xs.length ∧ ∀ q ∈ ps, R q
  | [], left, ps, n, hx, h => by rw [readKids] at h; cases h; exact ⟨rfl, fun q hq => by cases hq⟩
  | x :: xs, left, ps, n, hx, h => by
    rw [readKids] at h
    split at h
    · cases h
    · rename_i p k hp
      split at h
      · cases h
      · rename_i qs n' hq
        cases h
        obtain ⟨g1, g2⟩ := readKids_sm hf xs k qs _ (fun y hy => hx y (List.mem_cons_of_mem _ hy)) hq
        refine ⟨by simp [g1], fun q hq => ?_⟩
        rcases List.mem_cons.1 hq with rfl | hq
        · exact hf _ _ _ _ (hx x List.mem_cons_self) hp
        · exact g2 q hq
theorem readPt_sm : ∀ (d left : Nat) (s : B) (p : PT) (n : Nat), s.length ≤ 1000000 → readPt d left s = .ok (p, n) → SmD d p
  | 0, left, s, p, n, hs, h => by rw [readPt] at h; cases h
  | d + 1, 0, s, p, n, hs, h => by rw [readPt] at h; cases h
  | d + 1, left + 1, s, p, n, hs, h => by
    rw [readPt] at h
    split at h
    · cases h
    · rename_i l0 body h1
      obtain ⟨hl0, hbl⟩ := readH_small h1 hs
      split at h
      · cases h
      · rename_i l h2
        have hl := (cleanF_small h2 hl0).len
        split at h
        · cases h
        · split at h
          · cases h
          · cases h; exact ⟨by omega, Nat.zero_le _, fun q hq => by cases hq⟩
        · split at h
          · cases h
          · rename_i xs hxs
            obtain ⟨c1, c2⟩ := cutF_len hxs
            split at h
            · cases h
            · rename_i ps k hk
              cases h
              obtain ⟨g1, g2⟩ := readKids_sm (P := fun x => x.length ≤ 1000000) (fun left s p n hs h => readPt_sm d left s p n hs h) xs left _ _ (fun x hx => Nat.le_trans (c2 x hx) (by omega)) hk
              exact ⟨by omega, by omega, g2⟩
theorem readTop_sm {s : B} {p : PT} (hs : s.length ≤ 1000000) (h : readTop s = .ok p) : SmD 4 p := by
  unfold readTop at h
  split at h
  · cases h
  · split at h
    · rename_i q n hr
      cases h
      exact readPt_sm _ _ _ _ _ hs hr
    · cases h
end Go.Proofs.YtignjjnflcpiiabGreatDoor
