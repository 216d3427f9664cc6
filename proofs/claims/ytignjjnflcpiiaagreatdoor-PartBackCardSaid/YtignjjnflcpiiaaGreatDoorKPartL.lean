import Derived.Test.YtignjjnflcpiiaaGreatDoorKPartK
set_option linter.unusedVariables false
set_option linter.unusedSimpArgs false
set_option maxHeartbeats 1000000
namespace Go.Proofs.YtignjjnflcpiiaaGreatDoor
open Go.RowKit
attribute [local irreducible] Tri Steps Qd Wr Weak CPure CEff
set_option maxRecDepth 100000
set_option linter.unusedSectionVars false
abbrev KidS (dep : Int) (l : Fs) (xs : List B) (x : Nat × Nat × List PT) : St := st [(1, .int .i64 dep), (2, .ptr 0 0), (6, .ptr 106 0), (13, .ptr 103 0), (89, .ro true 1 (strRows xs)), (90, .int .i64 (strRows xs).length), (91, .int .i64 x.1)] [(0, .box [.int .i64 (x.2.1 : Int)]), (103, .box [.ro true 2 (fieldRows l), .str [], .bool true, .sl 105]), (105, .pts true PtT x.2.2), (106, .box [.nils, .str [], .bool false, .nils])]
noncomputable abbrev RdC (w : World) (γ : Gh) (hw : gxo.nG ≤ w.heap.size) (hM : ∀ b, Blk γ 0 b → gxo.nG ≤ b) : Cx := cxe gxo Tryz.f36.ntmps w γ hw hM
section
variable {w : World} {γ : Gh} (hw : gxo.nG ≤ w.heap.size) (hM : ∀ b, Blk γ 0 b → gxo.nG ≤ b) (I : Nat × Nat × List PT → Prop) (Q : Exit → St → Prop) (dep : Int) (l : Fs) (xs : List B) (i lf : Nat) (ps : List PT) (x : B)
  (hdep : 0 ≤ dep ∧ dep ≤ 5) (hi : i < xs.length) (hxl : xs.length ≤ 2000000) (hps : ps.length ≤ i) (hxr : (strRows xs)[(i : Int).toNat]? = some [.str x])
include hdep hi hxl hps hxr
set_option maxHeartbeats 8000000 in
theorem kid_ok (q : PT) (n : Nat) (E : CEff gxo 36 (.box [.int .i64 (lf : Int)]) [.str x, .int .i64 (dep + 1), .ptr 0 0] (some (.box [.int .i64 (n : Int)])) (.tup [.agg (ptCells true q), .nili])) (hI : I (i + 1, n, ps ++ [q])) :
    Tri (RdC w γ hw hM) (loopN Tryz.f36 0) (KidS dep l xs (i, lf, ps)) (loopQ (RdC w γ hw hM) I (KidS dep l xs) (fun x => xs.length - x.1) (xs.length - i) Q) := by
  have hsl := sr_len xs
  obtain ⟨qh, qb, qm, qp⟩ := q
  have E : CEff gxo 36 (.box [.int .i64 (lf : Int)]) [.str x, .int .i64 (dep + 1), .ptr 0 0] (some (.box [.int .i64 (n : Int)])) (.tup [.agg [.ro true 2 (fieldRows qh), .str qb, .bool qm, .pts true qp], .nili]) := E
  change Tri _ _ (st [(1, .int .i64 dep), (2, .ptr 0 0), (6, .ptr 106 0), (13, .ptr 103 0), (89, .ro true 1 (strRows xs)), (90, .int .i64 (strRows xs).length), (91, .int .i64 i)] [(0, .box [.int .i64 (lf : Int)]), (103, .box [.ro true 2 (fieldRows l), .str [], .bool true, .sl 105]), (105, .pts true PtT ps), (106, .box [.nils, .str [], .bool false, .nils])]) _
  repeat' (first | refine a_f ?_ | refine st_nil ?_ | refine tri_seq ?_ | refine tri_region rfl ?_ | refine a_draw ?_ | (apply st_r rfl; case hq => first | exact q_idxro (by conv => lhs; whnf) (by conv => lhs; whnf) (by first | exact Tryz.underlying22 | exact Tryz.underlying23 | exact Tryz.underlying43 | exact Tryz.underlying44 | exact Tryz.underlying51 | exact Tryz.underlying86 | exact Tryz.underlying191 | exact Tryz.underlying209 | exact Tryz.underlying234 | exact Tryz.underlying270 | exact Tryz.underlying281 | exact Tryz.underlying344) (by kernel_rfl) (by omega) hxr | exact q_loadr (by conv => lhs; whnf) (by conv => lhs; whnf) (by show scalB Tryz.prog _ = true; decide +kernel) (fun _ => rfl) | exact q_loada (n := 4) (by conv => lhs; whnf) (by conv => lhs; whnf; arg 1; whnf) (by conv => lhs; whnf) (by first | rfl | exact Nat.le_of_ble_eq_true rfl | exact Nat.succ_pos _ | decide) (by show aggB Tryz.prog _ _ = true; decide +kernel) | exact q_nenil (by rfl) Tryz.underlying32 | exact q_bspt (fr := true) (p := .mk qh qb qm qp) Tryz.underlying23 (by kernel_rfl) (by kernel_rfl) (by rfl) | exact a_q) | (apply st_rif rfl; (case hq => first | exact a_i); all_goals (intro _; try (exfalso; first | omega | contradiction))) | (apply st_rw rfl rfl; case hq => first | exact w_alloc (d := 17) 104 (by exact zPartK) rfl rfl rfl | exact w_call (id := 0) E (hcf := Tryz.call36) (by rfl) rfl rfl rfl rfl rfl | exact w_appendp (id := 105) (by conv => lhs; whnf) (by rfl) (by rfl) Tryz.underlying23 (by kernel_rfl) (by simp) rfl (by simp only [List.length_cons, List.length_nil]; omega) rfl rfl | exact a_store) | refine tri_true rfl ?_ | refine tri_false rfl ?_ | refine tri_block ?_ | refine tri_skip ?_ | refine tri_ret ?_ | refine tri_exit ?_)
  exact nextR (i + 1, n, ps ++ [.mk qh qb qm qp]) hI (weak_st ⟨rfl, rfl, rfl, rfl, rfl, rfl, rfl, trivial⟩ ⟨rfl, rfl, rfl, rfl, trivial⟩) (show xs.length - (i + 1) < xs.length - i by omega)
set_option maxHeartbeats 8000000 in
theorem kid_err (e : Nat) (p1 : PT) (E : CEff gxo 36 (.box [.int .i64 (lf : Int)]) [.str x, .int .i64 (dep + 1), .ptr 0 0] (some (.box [.any])) (prAV p1 (.err e)))
    (hQ : ∀ σ, (∃ σ', Weak (RdC w γ hw hM) σ σ' ∧ RetQB gxo.P Tryz.f36.results.toList (.tup [.agg [.nils, .str [], .bool false, .nils], .iface 28 (.int .i64 (e : Int))]) (some (.box [.any])) .ret σ') → Q .ret σ) :
    Tri (RdC w γ hw hM) (loopN Tryz.f36 0) (KidS dep l xs (i, lf, ps)) (loopQ (RdC w γ hw hM) I (KidS dep l xs) (fun x => xs.length - x.1) (xs.length - i) Q) := by
  have hsl := sr_len xs
  obtain ⟨qh, qb, qm, qp⟩ := p1
  have E : CEff gxo 36 (.box [.int .i64 (lf : Int)]) [.str x, .int .i64 (dep + 1), .ptr 0 0] (some (.box [.any])) (.tup [.agg [.ro true 2 (fieldRows qh), .str qb, .bool qm, .pts true qp], .iface 28 (.int .i64 (e : Int))]) := E
  change Tri _ _ (st [(1, .int .i64 dep), (2, .ptr 0 0), (6, .ptr 106 0), (13, .ptr 103 0), (89, .ro true 1 (strRows xs)), (90, .int .i64 (strRows xs).length), (91, .int .i64 i)] [(0, .box [.int .i64 (lf : Int)]), (103, .box [.ro true 2 (fieldRows l), .str [], .bool true, .sl 105]), (105, .pts true PtT ps), (106, .box [.nils, .str [], .bool false, .nils])]) _
  repeat' (first | refine a_f ?_ | refine st_nil ?_ | refine tri_seq ?_ | refine tri_region rfl ?_ | refine a_draw ?_ | (apply st_r rfl; case hq => first | exact q_build0 zPartK rfl (by kernel_rfl) | exact q_idxro (by conv => lhs; whnf) (by conv => lhs; whnf) (by first | exact Tryz.underlying22 | exact Tryz.underlying23 | exact Tryz.underlying43 | exact Tryz.underlying44 | exact Tryz.underlying51 | exact Tryz.underlying86 | exact Tryz.underlying191 | exact Tryz.underlying209 | exact Tryz.underlying234 | exact Tryz.underlying270 | exact Tryz.underlying281 | exact Tryz.underlying344) (by kernel_rfl) (by omega) hxr | exact q_loadr (by conv => lhs; whnf) (by conv => lhs; whnf) (by show scalB Tryz.prog _ = true; decide +kernel) (fun _ => rfl) | exact q_loada (n := 4) (by conv => lhs; whnf) (by conv => lhs; whnf; arg 1; whnf) (by conv => lhs; whnf) (by first | rfl | exact Nat.le_of_ble_eq_true rfl | exact Nat.succ_pos _ | decide) (by show aggB Tryz.prog _ _ = true; decide +kernel) | exact q_neif (by conv => lhs; whnf) Tryz.underlying32 | exact a_q) | (apply st_rif rfl; (case hq => first | exact a_i); all_goals (intro _; try (exfalso; first | omega | contradiction))) | (apply st_rw rfl rfl; case hq => first | exact w_alloc (d := 17) 104 (by exact zPartK) rfl rfl rfl | exact w_call (id := 0) E (hcf := Tryz.call36) (by rfl) rfl rfl rfl rfl rfl | exact a_store) | refine tri_true rfl ?_ | refine tri_false rfl ?_ | refine tri_block ?_ | refine tri_skip ?_ | refine tri_ret ?_ | refine tri_exit ?_)
  exact hQ _ ⟨_, Weak.refl _ _, ⟨⟨106, _, rfl, rfl, by kernel_rfl⟩, trivial⟩, by (conv => lhs; whnf); rfl, rfl⟩
end
section
variable {d left : Nat} {s : B} (hd4 : d + 1 ≤ 4) (hl : left + 1 ≤ 40) (hs : s.length ≤ 1000000) {l0 : Fs} {body : B} (h1 : readH s = .ok l0 body) {l : Fs} (h2 : cleanF l0 = .ok l) {b : B} (h3 : bndF l = some (some b)) {xs : List B} (h4 : cutF b body = some xs)
  (IH : ∀ left s, left ≤ 40 → s.length ≤ 1000000 → RdOk d left s)
include hd4 hl hs h1 h2 h3 h4 IH
set_option maxHeartbeats 8000000 in
theorem pread_kidsE {e : Nat} (h : readKids (readPt d) left xs = .err e) : ∀ dep : Int, dep = 5 - ((d + 1 : Nat) : Int) → CEff gxo 36 (.box [.int .i64 ((left + 1 : Nat) : Int)]) [.str s, .int .i64 dep, .ptr 0 0] (some (.box [.any])) (prAV pt0 (.err e)) := by
  intro dep hdep
  refine CEff.up ?_ (up_zero e)
  refine ceff_ofb Tryz.func36 rfl (Nat.le_of_ble_eq_true rfl) (fun w γ hw hM => ?_)
  refine tri_postE ?_
  have R1 : CPure gxo 83 [.str s] (.tup [.ro true 2 (fieldRows l0), .str body, .nili]) := by
    have := (read_c s hs).o
    rw [h1] at this
    exact this
  obtain ⟨hl0, hbl⟩ := readH_small h1 hs
  have hlS := cleanF_small h2 hl0
  have C1 : CPure gxo 84 [.ro false 2 (fieldRows l0)] (.tup [.ro true 2 (fieldRows l), .nili]) := by
    have := (clean_c l0 hl0).o
    rw [h2] at this
    exact this
  have B1 : CPure gxo 75 [.ro false 2 (fieldRows l)] (.tup [.str b, .bool true, .nili]) := by
    have := boundary_c l hlS
    rw [h3] at this
    exact this
  have K1 : CPure gxo 86 [.str body, .str b] (.tup [.ro true 1 (strRows xs), .nili]) := by
    have := (pcut_c body b (by omega) (bndF_le hlS h3)).o
    rw [h4] at this
    exact this
  obtain ⟨hx1, hx2⟩ := cutF_len h4
  repeat' (first | refine a_f ?_ | refine st_nil ?_ | refine tri_seq ?_ | refine tri_region rfl ?_ | refine a_draw ?_ | (apply st_r rfl; case hq => first | exact q_build0 zPartK rfl (by kernel_rfl) | exact q_build2 zPartK rfl (by kernel_rfl) (by conv => lhs; whnf) (by conv => lhs; whnf) rfl rfl (by conv => lhs; whnf) | exact q_call R1 (hcf := Tryz.call83) rfl rfl | exact q_call C1 (hcf := Tryz.call84) rfl rfl | exact q_call B1 (hcf := Tryz.call75) rfl rfl | exact q_call K1 (hcf := Tryz.call86) rfl rfl | exact q_eqnil (by rfl) Tryz.underlying32 | exact q_nenil (by rfl) Tryz.underlying32 | exact a_q) | (apply st_rif rfl; (case hq => first | exact a_i); all_goals (intro _; try (exfalso; first | omega | contradiction))) | (apply st_rw rfl rfl; case hq => first | exact w_alloc (d := 6) 106 (by exact zPartK) rfl rfl rfl | exact w_alloc (d := 13) 103 (by exact zPartK) rfl rfl rfl | exact a_store) | refine tri_true rfl ?_ | refine tri_false rfl ?_ | refine tri_block ?_ | refine tri_skip ?_ | refine tri_ret ?_ | refine tri_exit ?_)
  refine tri_loop (fun (x : Nat × Nat × List PT) => x.1 ≤ xs.length ∧ x.2.1 ≤ 40 ∧ x.2.2.length ≤ x.1 ∧ kcat x.2.2 (readKids (readPt d) x.2.1 (xs.drop x.1)) = .err e) (KidS dep l xs) (fun x => xs.length - x.1) (0, left, []) ⟨Nat.zero_le _, by simp only; omega, Nat.zero_le _, by simp only [List.drop_zero]; rw [h]; rfl⟩ ?hw (fun x hx => ?_)
  case hw => exact (weak_cellnil 103 3 105 true PtT rfl rfl rfl rfl).trans (weak_st ⟨rfl, rfl, rfl, rfl, rfl, rfl, rfl, trivial⟩ ⟨congrArg (fun z => some (AObj.box [AV.int .i64 z])) (by show _ = (left : Int); omega), rfl, rfl, rfl, trivial⟩)
  obtain ⟨i, lf, ps⟩ := x
  obtain ⟨hi, hlf, hpl, hk⟩ := hx
  simp only at hi hlf hpl hk
  by_cases hil : i < xs.length
  · obtain ⟨x, hxi, hxm, hxd, hxr⟩ := sr_at hil
    rw [hxd] at hk
    obtain ⟨p1, E⟩ := IH lf x hlf (by have := hx2 x hxm; omega)
    have E := E (dep + 1) (by omega)
    cases hq : readPt d lf x with
    | ok q =>
      obtain ⟨q, n⟩ := q
      rw [hq] at E
      rw [kcat_step hq] at hk
      exact kid_ok hw hM _ _ dep l xs i lf ps x (by omega) hil (by omega) hpl hxr q n E ⟨by simp only; omega, by have := readPt_le d lf x q n hq; simp only; omega, by simp only [List.length_append, List.length_cons, List.length_nil]; omega, hk⟩
    | err e' =>
      rw [hq] at E
      rw [kcat_err hq] at hk
      cases hk
      exact kid_err hw hM _ _ dep l xs i lf ps x (by omega) hil (by omega) hpl hxr e p1 E (fun σ h => h)
  · rw [List.drop_eq_nil_of_le (by omega), readKids] at hk
    cases hk
set_option maxHeartbeats 8000000 in
theorem pread_kids {ps : List PT} {n : Nat} (h : readKids (readPt d) left xs = .ok (ps, n)) : ∀ dep : Int, dep = 5 - ((d + 1 : Nat) : Int) → CEff gxo 36 (.box [.int .i64 ((left + 1 : Nat) : Int)]) [.str s, .int .i64 dep, .ptr 0 0] (some (.box [.int .i64 (n : Int)])) (prAV pt0 (.ok (.mk l [] true ps, n))) := by
  intro dep hdep
  refine ceff_ofb Tryz.func36 rfl (Nat.le_of_ble_eq_true rfl) (fun w γ hw hM => ?_)
  have R1 : CPure gxo 83 [.str s] (.tup [.ro true 2 (fieldRows l0), .str body, .nili]) := by
    have := (read_c s hs).o
    rw [h1] at this
    exact this
  obtain ⟨hl0, hbl⟩ := readH_small h1 hs
  have hlS := cleanF_small h2 hl0
  have C1 : CPure gxo 84 [.ro false 2 (fieldRows l0)] (.tup [.ro true 2 (fieldRows l), .nili]) := by
    have := (clean_c l0 hl0).o
    rw [h2] at this
    exact this
  have B1 : CPure gxo 75 [.ro false 2 (fieldRows l)] (.tup [.str b, .bool true, .nili]) := by
    have := boundary_c l hlS
    rw [h3] at this
    exact this
  have K1 : CPure gxo 86 [.str body, .str b] (.tup [.ro true 1 (strRows xs), .nili]) := by
    have := (pcut_c body b (by omega) (bndF_le hlS h3)).o
    rw [h4] at this
    exact this
  obtain ⟨hx1, hx2⟩ := cutF_len h4
  repeat' (first | refine a_f ?_ | refine st_nil ?_ | refine tri_seq ?_ | refine tri_region rfl ?_ | refine a_draw ?_ | (apply st_r rfl; case hq => first | exact q_build0 zPartK rfl (by kernel_rfl) | exact q_build2 zPartK rfl (by kernel_rfl) (by conv => lhs; whnf) (by conv => lhs; whnf) rfl rfl (by conv => lhs; whnf) | exact q_call R1 (hcf := Tryz.call83) rfl rfl | exact q_call C1 (hcf := Tryz.call84) rfl rfl | exact q_call B1 (hcf := Tryz.call75) rfl rfl | exact q_call K1 (hcf := Tryz.call86) rfl rfl | exact q_eqnil (by rfl) Tryz.underlying32 | exact q_nenil (by rfl) Tryz.underlying32 | exact a_q) | (apply st_rif rfl; (case hq => first | exact a_i); all_goals (intro _; try (exfalso; first | omega | contradiction))) | (apply st_rw rfl rfl; case hq => first | exact w_alloc (d := 6) 106 (by exact zPartK) rfl rfl rfl | exact w_alloc (d := 13) 103 (by exact zPartK) rfl rfl rfl | exact a_store) | refine tri_true rfl ?_ | refine tri_false rfl ?_ | refine tri_block ?_ | refine tri_skip ?_ | refine tri_ret ?_ | refine tri_exit ?_)
  refine tri_loop (fun (x : Nat × Nat × List PT) => x.1 ≤ xs.length ∧ x.2.1 ≤ 40 ∧ x.2.2.length ≤ x.1 ∧ kcat x.2.2 (readKids (readPt d) x.2.1 (xs.drop x.1)) = .ok (ps, n)) (KidS dep l xs) (fun x => xs.length - x.1) (0, left, []) ⟨Nat.zero_le _, by simp only; omega, Nat.zero_le _, by simp only [List.drop_zero]; rw [h]; rfl⟩ ?hw (fun x hx => ?_)
  case hw => exact (weak_cellnil 103 3 105 true PtT rfl rfl rfl rfl).trans (weak_st ⟨rfl, rfl, rfl, rfl, rfl, rfl, rfl, trivial⟩ ⟨congrArg (fun z => some (AObj.box [AV.int .i64 z])) (by show _ = (left : Int); omega), rfl, rfl, rfl, trivial⟩)
  obtain ⟨i, lf, qs⟩ := x
  obtain ⟨hi, hlf, hpl, hk⟩ := hx
  simp only at hi hlf hpl hk
  by_cases hil : i < xs.length
  · obtain ⟨x, hxi, hxm, hxd, hxr⟩ := sr_at hil
    rw [hxd] at hk
    obtain ⟨p1, E⟩ := IH lf x hlf (by have := hx2 x hxm; omega)
    have E := E (dep + 1) (by omega)
    cases hq : readPt d lf x with
    | ok q =>
      obtain ⟨q, m⟩ := q
      rw [hq] at E
      rw [kcat_step hq] at hk
      exact kid_ok hw hM _ _ dep l xs i lf qs x (by omega) hil (by omega) hpl hxr q m E ⟨by simp only; omega, by have := readPt_le d lf x q m hq; simp only; omega, by simp only [List.length_append, List.length_cons, List.length_nil]; omega, hk⟩
    | err e' =>
      rw [kcat_err hq] at hk
      cases hk
  · rw [List.drop_eq_nil_of_le (by omega), readKids] at hk
    have hk : Res.ok (qs ++ [], lf) = Res.ok (ps, n) := hk
    rw [List.append_nil] at hk
    cases hk
    have hsl := sr_len xs
    change Tri _ _ (st [(1, .int .i64 dep), (2, .ptr 0 0), (6, .ptr 106 0), (13, .ptr 103 0), (89, .ro true 1 (strRows xs)), (90, .int .i64 (strRows xs).length), (91, .int .i64 i)] [(0, .box [.int .i64 (n : Int)]), (103, .box [.ro true 2 (fieldRows l), .str [], .bool true, .sl 105]), (105, .pts true PtT ps), (106, .box [.nils, .str [], .bool false, .nils])]) _
    repeat' (first | refine a_f ?_ | refine st_nil ?_ | refine tri_seq ?_ | refine tri_region rfl ?_ | refine a_draw ?_ | (apply st_r rfl; case hq => first | exact q_loada (n := 4) (by conv => lhs; whnf) (by conv => lhs; whnf; arg 1; whnf) (by conv => lhs; whnf) (by first | rfl | exact Nat.le_of_ble_eq_true rfl | exact Nat.succ_pos _ | decide) (by show aggB Tryz.prog _ _ = true; decide +kernel) | exact a_q) | (apply st_rif rfl; (case hq => first | exact a_i); all_goals (intro _; try (exfalso; first | omega | contradiction))) | (apply st_rw rfl rfl; case hq => first | exact a_store) | refine tri_true rfl ?_ | refine tri_false rfl ?_ | refine tri_block ?_ | refine tri_skip ?_ | refine tri_ret ?_ | refine tri_exit ?_)
    exact ⟨⟨⟨106, _, rfl, rfl, by kernel_rfl⟩, trivial⟩, by (conv => lhs; whnf); rfl, rfl⟩
end
theorem pread_e : ∀ (d left : Nat) (s : B), d ≤ 4 → left ≤ 40 → s.length ≤ 1000000 → RdOk d left s
  | 0, left, s, hd, hl, hs => ⟨pt0, pread_lim (.inl rfl) hd hl⟩
  | d + 1, 0, s, hd, hl, hs => ⟨pt0, pread_lim (.inr rfl) hd hl⟩
  | d + 1, left + 1, s, hd, hl, hs => by
    have IH : ∀ left s, left ≤ 40 → s.length ≤ 1000000 → RdOk d left s := fun left s => pread_e d left s (by omega)
    unfold RdOk
    cases h1 : readH s with
    | bad n =>
      rw [show readPt (d + 1) (left + 1) s = .err 3 by rw [readPt, h1]]
      exact ⟨pt0, pread_head hd hl hs h1⟩
    | ok l0 body =>
      cases h2 : cleanF l0 with
      | bad n =>
        rw [show readPt (d + 1) (left + 1) s = .err 1 by rw [readPt, h1]; simp only; rw [h2]]
        exact ⟨pt0, pread_clean hd hl hs h1 h2⟩
      | ok l =>
        rcases h3 : bndF l with _ | _ | b
        · rw [show readPt (d + 1) (left + 1) s = .err 3 by rw [readPt, h1]; simp only; rw [h2]; simp only; rw [h3]]
          exact ⟨pt0, pread_bnd hd hl hs h1 h2 h3⟩
        · cases h4 : decodeF l body with
          | err e =>
            rw [show readPt (d + 1) (left + 1) s = .err e by rw [readPt, h1]; simp only; rw [h2]; simp only; rw [h3]; simp only; rw [h4]]
            exact ⟨_, pread_leafE hd hl hs h1 h2 h3 h4⟩
          | ok x =>
            rw [show readPt (d + 1) (left + 1) s = .ok (.mk l x false [], left) by rw [readPt, h1]; simp only; rw [h2]; simp only; rw [h3]; simp only; rw [h4]]
            exact ⟨pt0, pread_leaf hd hl hs h1 h2 h3 h4⟩
        · cases h4 : cutF b body with
          | none =>
            rw [show readPt (d + 1) (left + 1) s = .err 3 by rw [readPt, h1]; simp only; rw [h2]; simp only; rw [h3]; simp only; rw [h4]]
            exact ⟨pt0, pread_cut hd hl hs h1 h2 h3 h4⟩
          | some xs =>
            cases h5 : readKids (readPt d) left xs with
            | err e =>
              rw [show readPt (d + 1) (left + 1) s = .err e by rw [readPt, h1]; simp only; rw [h2]; simp only; rw [h3]; simp only; rw [h4]; simp only; rw [h5]]
              exact ⟨pt0, pread_kidsE hd hl hs h1 h2 h3 h4 IH h5⟩
            | ok q =>
              obtain ⟨ps, n⟩ := q
              rw [show readPt (d + 1) (left + 1) s = .ok (.mk l [] true ps, n) by rw [readPt, h1]; simp only; rw [h2]; simp only; rw [h3]; simp only; rw [h4]; simp only; rw [h5]]
              exact ⟨pt0, pread_kids hd hl hs h1 h2 h3 h4 IH h5⟩
def rtAV : Res PT → AV
  | .ok p => .tup [.agg (ptCells true p), .nili]
  | .err e => .tup [.agg (ptCells true pt0), .iface 28 (.int .i64 (e : Int))]
set_option maxHeartbeats 8000000 in
theorem partRead_c (s : B) (hs : s.length ≤ 1000000) : CPure gxo 15 [.str s] (rtAV (readTop s)) := by
  unfold readTop
  by_cases h0 : 20000 < s.length
  · rw [if_pos h0]
    refine CPure.up ?_ (show Up (.tup [.agg [.nils, .str [], .bool false, .nils], .iface 28 (.int .i64 ((4 : Nat) : Int))]) _ from up_zero 4)
    refine cpure_of Tryz.func15 rfl (Nat.le_of_ble_eq_true rfl) rfl (fun w hw => ?_)
    repeat' (first | refine a_f ?_ | refine st_nil ?_ | refine tri_seq ?_ | refine tri_region rfl ?_ | refine a_draw ?_ | (apply st_r rfl; case hq => first | exact q_build0 zPartK rfl (by kernel_rfl) | exact a_q) | (apply st_rif rfl; (case hq => first | exact a_i); all_goals (intro _; try (exfalso; first | omega | contradiction))) | (apply st_rw rfl rfl; case hq => first | exact w_alloc (d := 2) 106 (by exact zPartK) rfl rfl rfl | exact a_store) | refine tri_true rfl ?_ | refine tri_false rfl ?_ | refine tri_block ?_ | refine tri_skip ?_ | refine tri_ret ?_ | refine tri_exit ?_)
    exact ⟨⟨⟨106, _, rfl, rfl, by kernel_rfl⟩, trivial⟩, by (conv => lhs; whnf); rfl⟩
  · rw [if_neg h0]
    obtain ⟨p0, E⟩ := pread_e 4 40 s (Nat.le_refl _) (Nat.le_refl _) hs
    have E := E 1 (by decide)
    cases hr : readPt 4 40 s with
    | err e =>
      rw [hr] at E
      obtain ⟨qh, qb, qm, qp⟩ := p0
      have E : CEff gxo 36 (.box [.int .i64 40]) [.str s, .int .i64 1, .ptr 0 0] (some (.box [.any])) (.tup [.agg [.ro true 2 (fieldRows qh), .str qb, .bool qm, .pts true qp], .iface 28 (.int .i64 (e : Int))]) := E
      refine CPure.up ?_ (show Up (.tup [.agg [.nils, .str [], .bool false, .nils], .iface 28 (.int .i64 (e : Int))]) _ from up_zero e)
      refine cpure_of Tryz.func15 rfl (Nat.le_of_ble_eq_true rfl) rfl (fun w hw => ?_)
      repeat' (first | refine a_f ?_ | refine st_nil ?_ | refine tri_seq ?_ | refine tri_region rfl ?_ | refine a_draw ?_ | (apply st_r rfl; case hq => first | exact q_build0 zPartK rfl (by kernel_rfl) | exact q_neif (by conv => lhs; whnf) Tryz.underlying32 | exact a_q) | (apply st_rif rfl; (case hq => first | exact a_i); all_goals (intro _; try (exfalso; first | omega | contradiction))) | (apply st_rw rfl rfl; case hq => first | exact w_alloc (d := 2) 106 (by exact zPartK) rfl rfl rfl | exact w_alloc (d := 4) 104 (by exact zInt) rfl rfl rfl | exact w_alloc (d := 5) 105 (by exact zPartK) rfl rfl rfl | exact w_call (id := 104) E (hcf := Tryz.call36) (by rfl) rfl rfl rfl rfl rfl | exact a_store) | refine tri_true rfl ?_ | refine tri_false rfl ?_ | refine tri_block ?_ | refine tri_skip ?_ | refine tri_ret ?_ | refine tri_exit ?_)
      exact ⟨⟨⟨106, _, rfl, rfl, by kernel_rfl⟩, trivial⟩, by (conv => lhs; whnf); rfl⟩
    | ok q =>
      obtain ⟨⟨qh, qb, qm, qp⟩, n⟩ := q
      rw [hr] at E
      have E : CEff gxo 36 (.box [.int .i64 40]) [.str s, .int .i64 1, .ptr 0 0] (some (.box [.int .i64 (n : Int)])) (.tup [.agg [.ro true 2 (fieldRows qh), .str qb, .bool qm, .pts true qp], .nili]) := E
      refine cpure_of Tryz.func15 rfl (Nat.le_of_ble_eq_true rfl) rfl (fun w hw => ?_)
      repeat' (first | refine a_f ?_ | refine st_nil ?_ | refine tri_seq ?_ | refine tri_region rfl ?_ | refine a_draw ?_ | (apply st_r rfl; case hq => first | exact q_loada (n := 4) (by conv => lhs; whnf) (by conv => lhs; whnf; arg 1; whnf) (by conv => lhs; whnf) (by first | rfl | exact Nat.le_of_ble_eq_true rfl | exact Nat.succ_pos _ | decide) (by show aggB Tryz.prog _ _ = true; decide +kernel) | exact q_nenil (by rfl) Tryz.underlying32 | exact a_q) | (apply st_rif rfl; (case hq => first | exact a_i); all_goals (intro _; try (exfalso; first | omega | contradiction))) | (apply st_rw rfl rfl; case hq => first | exact w_alloc (d := 2) 106 (by exact zPartK) rfl rfl rfl | exact w_alloc (d := 4) 104 (by exact zInt) rfl rfl rfl | exact w_alloc (d := 5) 105 (by exact zPartK) rfl rfl rfl | exact w_call (id := 104) E (hcf := Tryz.call36) (by rfl) rfl rfl rfl rfl rfl | exact a_store) | refine tri_true rfl ?_ | refine tri_false rfl ?_ | refine tri_block ?_ | refine tri_skip ?_ | refine tri_ret ?_ | refine tri_exit ?_)
      exact ⟨⟨⟨106, _, rfl, rfl, by kernel_rfl⟩, trivial⟩, by (conv => lhs; whnf); rfl⟩
end Go.Proofs.YtignjjnflcpiiaaGreatDoor
