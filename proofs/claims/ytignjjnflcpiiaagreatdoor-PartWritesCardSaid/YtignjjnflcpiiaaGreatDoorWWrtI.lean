import Derived.Test.YtignjjnflcpiiaaGreatDoorWG42
set_option linter.unusedVariables false
set_option linter.unusedSimpArgs false
set_option maxHeartbeats 1000000
namespace Go.Proofs.YtignjjnflcpiiaaGreatDoor
open Go.RowKit
attribute [local irreducible] Tri Steps Qd Wr Weak CPure CEff
set_option maxRecDepth 100000
set_option linter.unusedSectionVars false
theorem bnd_parts {l : Fs} {b : B} (h : bndF l = some (some b)) : ∃ v m qs, getF l ctB = some v ∧ readK tokC blk lowC v = some (m, qs) := by
  unfold bndF at h
  split at h
  · cases h
  · rename_i v hv
    split at h
    · cases h
    · rename_i m ps hk
      exact ⟨v, m, ps, hv, hk⟩
theorem renHead_at (b : B) : ∀ (l : Fs) (i : Nat) (f : B × B), l[i]? = some f → lowB f.1 = ctB → (∀ j g, j < i → l[j]? = some g → lowB g.1 ≠ ctB) → fieldRows (renHead b l) = (fieldRows l).set i [.str f.1, .str (renameF f.2 b)]
  | p :: r, 0, f, h, hf, _ => by
    simp only [List.getElem?_cons_zero, Option.some.injEq] at h
    subst h
    rw [renHead, if_pos hf]
    rfl
  | p :: r, i + 1, f, h, hf, ha => by
    rw [renHead, if_neg (ha 0 p (by omega) rfl)]
    show _ :: fieldRows (renHead b r) = _ :: (fieldRows r).set i _
    rw [renHead_at b r i f h hf (fun j g hj hg => ha (j + 1) g (by omega) hg)]
theorem getF_first : ∀ (l : Fs) (i : Nat) (f : B × B), l[i]? = some f → lowB f.1 = ctB → (∀ j g, j < i → l[j]? = some g → lowB g.1 ≠ ctB) → getF l ctB = some f.2
  | p :: r, 0, f, h, hf, _ => by
    simp only [List.getElem?_cons_zero, Option.some.injEq] at h
    subst h
    rw [getF_cons, if_pos hf]
  | p :: r, i + 1, f, h, hf, ha => by
    rw [getF_cons, if_neg (ha 0 p (by omega) rfl)]
    exact getF_first r i f h hf (fun j g hj hg => ha (j + 1) g (by omega) hg)
theorem kidsW_take {b : B} {xs : List B} {i : Nat} {x : B} (h : xs[i]? = some x) : kidsW b (xs.take (i + 1)) = kidsW b (xs.take i) ++ (45 :: 45 :: (b ++ 13 :: 10 :: (x ++ [13, 10]))) := by
  rw [List.take_add_one, h]
  simp [kidsW, List.flatMap_append]
theorem kidsW_take_le (b : B) (xs : List B) (i : Nat) : (kidsW b (xs.take i)).length ≤ (kidsW b xs).length := by
  have : kidsW b (xs.take i ++ xs.drop i) = kidsW b (xs.take i) ++ kidsW b (xs.drop i) := by
    unfold kidsW
    exact List.flatMap_append
  rw [List.take_append_drop] at this
  rw [this, List.length_append]; omega
section
variable {hd : Fs} {bd : B} {m : Bool} {ps : List PT}
variable {d left : Nat} (hd4 : d + 1 ≤ 4) (hl : left + 1 ≤ 40) (hf : Fit (.mk hd bd m ps))
  (hr : rightB hd = true) {b0 : B} (h : bndF hd = some (some b0)) (hm : m = true) (hb : bd = [])
  (IH : ∀ left q, left ≤ 40 → Fit q → WOk d left q)
include hd4 hl hf hr h hm hb IH
set_option maxHeartbeats 16000000 in
theorem pw_kidsE {e : Nat} (hk : writeKids (writePt d) left ps = .err e) : ∀ dep : Int, dep = 5 - ((d + 1 : Nat) : Int) → CEff gxp 34 (.box [.int .i64 ((left + 1 : Nat) : Int)]) [.ptr 0 0, .agg [.ro false 2 (fieldRows hd), .str bd, .bool m, .pts false ps], .int .i64 dep] (some (.box [.any])) (wAV (.err e)) := by
  intro dep hdep
  refine ceff_ofb Tryz.func34 rfl (Nat.le_of_ble_eq_true rfl) (fun w γ hw hM => ?_)
  refine tri_postE ?_
  subst hm hb
  obtain ⟨hht, hsm, _, hpl⟩ := hf.head
  have R1 : CPure gxp 74 [.ro false 2 (fieldRows hd)] (.bool true) := by
    have := (right_c hd hsm).q
    rw [hr] at this
    exact this
  have B1 : CPure gxp 75 [.ro false 2 (fieldRows hd)] (.tup [.str b0, .bool true, .nili]) := by
    have := (boundary_c hd hsm).p
    rw [h] at this
    exact this
  have N1 := (clone_c hd hsm.len).q
  have M1 := (delete_m hd hsm).p
  have hnl0 := noEnc_len hd
  have hhl := hsm.len
  generalize noEnc hd = nl at M1 hnl0
  repeat' (first | refine a_f ?_ | refine st_nil ?_ | refine tri_seq ?_ | refine tri_region rfl ?_ | refine a_draw ?_ | (apply st_r rfl; case hq => first | exact q_call R1 (hcf := Tryz.call74) rfl rfl | exact q_call B1 (hcf := Tryz.call75) rfl rfl | exact q_nenil (by rfl) Tryz.underlying32 | exact q_nebL (by conv => lhs; whnf) (by conv => lhs; whnf) (by rfl) (by kernel_rfl) | exact q_lenpts (fr := false) (l := ps) (by rfl) Tryz.underlying23 | exact a_q) | (apply st_rif rfl; (case hq => first | exact a_i); all_goals (intro _; try (exfalso; first | omega | contradiction))) | (apply st_rw rfl rfl; case hq => first | exact w_box (d := 4) 104 (by conv => lhs; whnf) rfl (by conv => lhs; whnf) rfl rfl rfl | exact w_newr 111 N1 Tryz.call77 rfl rfl rfl | exact w_mod (id := 111) M1 Tryz.call76 (by rfl) (by rfl) rfl rfl | exact a_store) | refine tri_true rfl ?_ | refine tri_false rfl ?_ | refine tri_block ?_ | refine tri_skip ?_ | refine tri_ret ?_ | refine tri_exit ?_)
  refine tri_loop (fun (x : Nat × Nat × List B) => x.1 ≤ ps.length ∧ x.2.1 ≤ 40 ∧ x.2.2.length ≤ x.1 ∧ wcat x.2.2 (writeKids (writePt d) x.2.1 (ps.drop x.1)) = .err e) (WKidS dep nl ps) (fun x => ps.length - x.1) (0, left, []) ⟨Nat.zero_le _, by simp only; omega, Nat.zero_le _, by simp only [List.drop_zero]; rw [hk]; rfl⟩ ?hw (fun x hx => ?_)
  case hw => exact (weak_nil 14 114 9 1 rfl (by decide) rfl rfl).trans (weak_st ⟨rfl, rfl, rfl, rfl, rfl, rfl, rfl, rfl, trivial⟩ ⟨congrArg (fun z => some (AObj.box [AV.int .i64 z])) (by show _ = (left : Int); omega), rfl, rfl, trivial⟩)
  obtain ⟨i, lf, out⟩ := x
  obtain ⟨hi, hlf, hol, hkk⟩ := hx
  simp only at hi hlf hol hkk
  by_cases hil : i < ps.length
  · obtain ⟨q, hq1, hqm, hqd, hqr⟩ := pt_at hil
    rw [hqd] at hkk
    have E := IH lf q hlf (hf.kid hqm) (dep + 1) (by omega)
    cases hw1 : writePt d lf q with
    | ok r =>
      obtain ⟨s, n⟩ := r
      rw [hw1] at E
      rw [wcat_step hw1] at hkk
      obtain ⟨qh, qb, qm, qp⟩ := q
      exact wkid_ok hw hM _ _ dep nl ps i lf out qh qb qm qp (by omega) hil (by omega) hol hqr s n E ⟨by simp only; omega, by have := writePt_le d lf _ s n hw1; simp only; omega, by simp only [List.length_append, List.length_cons, List.length_nil]; omega, hkk⟩
    | err e' =>
      rw [hw1] at E
      rw [wcat_err hw1] at hkk
      cases hkk
      obtain ⟨qh, qb, qm, qp⟩ := q
      exact wkid_err hw hM _ _ dep nl ps i lf out qh qb qm qp (by omega) hil (by omega) hol hqr e E (fun σ h => h)
  · rw [List.drop_eq_nil_of_le (by omega), writeKids] at hkk
    cases hkk
set_option maxHeartbeats 32000000 in
theorem pw_kids {xs : List B} {n : Nat} (hk : writeKids (writePt d) left ps = .ok (xs, n)) : ∀ dep : Int, dep = 5 - ((d + 1 : Nat) : Int) → CEff gxp 34 (.box [.int .i64 ((left + 1 : Nat) : Int)]) [.ptr 0 0, .agg [.ro false 2 (fieldRows hd), .str bd, .bool m, .pts false ps], .int .i64 dep] (some (.box [.int .i64 (n : Int)])) (wAV (.ok (headW (renHead (numB (chooseN xs)) (noEnc hd)) ++ bodyW (numB (chooseN xs)) xs, n))) := by
  intro dep hdep
  refine ceff_ofb Tryz.func34 rfl (Nat.le_of_ble_eq_true rfl) (fun w γ hw hM => ?_)
  subst hm hb
  obtain ⟨hht, hsm, _, hpl⟩ := hf.head
  have R1 : CPure gxp 74 [.ro false 2 (fieldRows hd)] (.bool true) := by
    have := (right_c hd hsm).q
    rw [hr] at this
    exact this
  have B1 : CPure gxp 75 [.ro false 2 (fieldRows hd)] (.tup [.str b0, .bool true, .nili]) := by
    have := (boundary_c hd hsm).p
    rw [h] at this
    exact this
  have N1 := (clone_c hd hsm.len).q
  have M1 := (delete_m hd hsm).p
  have hnl0 := noEnc_len hd
  have hhl := hsm.len
  obtain ⟨v, mm, qs, hv, hrk⟩ := bnd_parts h
  have hnv : getF (noEnc hd) ctB = some v := by rw [getF_noEnc]; exact hv
  obtain ⟨fv, hfm, _, hfv⟩ := getF_mem hv
  have hvl := htot_mem hfm
  rw [hfv] at hvl
  have hmsl : msL ps ≤ 900000 := by
    have := hf.1
    rw [ms] at this; omega
  obtain ⟨hsum, hxl⟩ := writeKids_len hmsl hk
  have hxm : ∀ x ∈ xs, x.length ≤ 540000000 := fun x hx => by have := mem_sum (k := 27) hx; omega
  obtain ⟨_, hN, _⟩ := choose_spec xs
  have hsp := spots_sum xs 540000000 hsum
  have C1 := choose_c xs (by omega) (fun x hx => Nat.le_trans (hxm x hx) (by decide)) (by omega)
  have hbl := numB_len (chooseN xs) (by omega)
  have hbo := numB_okV (chooseN xs)
  clear hN hsp
  generalize numB (chooseN xs) = b at C1 hbl hbo ⊢
  have RN1 := (rename_c v b mm qs (by omega) (by omega) hbo hrk).q
  obtain ⟨t, ht, _, hvt, _⟩ := rename_facts hbo hrk
  have hright : rightB (renHead b (noEnc hd)) = true := renHead_right (right_noEnc hr) hnv (by rw [ht]; exact hvt)
  have hrt := renHead_tot b (noEnc hd)
  have hnt := noEnc_tot hd
  have hwl := writeAll_len (renHead b (noEnc hd))
  have hhw : (headW (renHead b (noEnc hd))).length ≤ 5000000 := by
    unfold headW
    rw [List.length_append]
    simp only [List.length_cons, List.length_nil]
    omega
  have H1 : CPure gxp 82 [.ro false 2 (fieldRows (renHead b (noEnc hd)))] (.tup [.str (headW (renHead b (noEnc hd))), .nili]) := by
    have := (write_c (renHead b (noEnc hd)) (htot_small (by omega))).q
    rw [writeH_ok hright] at this
    exact this
  have hkw : (kidsW b xs).length ≤ 540000000 := by
    rw [kidsW_len]
    refine Nat.le_trans ?_ hsum
    have := sum_mono (xs := xs) (show b.length + 6 ≤ 27 by omega)
    simpa [Nat.add_assoc] using this
  have hat := renHead_at b (noEnc hd)
  have hfirst := getF_first (noEnc hd)
  have hnn : ∀ l : Fs, (∀ f ∈ l, lowB f.1 ≠ ctB) → getF l ctB = none := fun l h => getF_none h
  have hnn := hnn (noEnc hd)
  have hnsm : Small (noEnc hd) := htot_small (by omega)
  clear hright hrt hnt hwl ht hvt hrk hv hfm hfv hr h
  generalize headW (renHead b (noEnc hd)) = hw1 at H1 hhw ⊢
  generalize renHead b (noEnc hd) = rh at H1 hat
  generalize noEnc hd = nl at M1 hnl0 hnv hat hfirst hnn hnsm
  repeat' (first | refine a_f ?_ | refine st_nil ?_ | refine tri_seq ?_ | refine tri_region rfl ?_ | refine a_draw ?_ | (apply st_r rfl; case hq => first | exact q_call R1 (hcf := Tryz.call74) rfl rfl | exact q_call B1 (hcf := Tryz.call75) rfl rfl | exact q_nenil (by rfl) Tryz.underlying32 | exact q_nebL (by conv => lhs; whnf) (by conv => lhs; whnf) (by rfl) (by kernel_rfl) | exact q_lenpts (fr := false) (l := ps) (by rfl) Tryz.underlying23 | exact a_q) | (apply st_rif rfl; (case hq => first | exact a_i); all_goals (intro _; try (exfalso; first | omega | contradiction))) | (apply st_rw rfl rfl; case hq => first | exact w_box (d := 4) 104 (by conv => lhs; whnf) rfl (by conv => lhs; whnf) rfl rfl rfl | exact w_newr 111 N1 Tryz.call77 rfl rfl rfl | exact w_mod (id := 111) M1 Tryz.call76 (by rfl) (by rfl) rfl rfl | exact a_store) | refine tri_true rfl ?_ | refine tri_false rfl ?_ | refine tri_block ?_ | refine tri_skip ?_ | refine tri_ret ?_ | refine tri_exit ?_)
  refine tri_loop (fun (x : Nat × Nat × List B) => x.1 ≤ ps.length ∧ x.2.1 ≤ 40 ∧ x.2.2.length ≤ x.1 ∧ wcat x.2.2 (writeKids (writePt d) x.2.1 (ps.drop x.1)) = .ok (xs, n)) (WKidS dep nl ps) (fun x => ps.length - x.1) (0, left, []) ⟨Nat.zero_le _, by simp only; omega, Nat.zero_le _, by simp only [List.drop_zero]; rw [hk]; rfl⟩ ?hw (fun x hx => ?_)
  case hw => exact (weak_nil 14 114 9 1 rfl (by decide) rfl rfl).trans (weak_st ⟨rfl, rfl, rfl, rfl, rfl, rfl, rfl, rfl, trivial⟩ ⟨congrArg (fun z => some (AObj.box [AV.int .i64 z])) (by show _ = (left : Int); omega), rfl, rfl, trivial⟩)
  obtain ⟨i, lf, out⟩ := x
  obtain ⟨hi, hlf, hol, hkk⟩ := hx
  simp only at hi hlf hol hkk
  by_cases hil : i < ps.length
  · obtain ⟨q, hq1, hqm, hqd, hqr⟩ := pt_at hil
    rw [hqd] at hkk
    have E := IH lf q hlf (hf.kid hqm) (dep + 1) (by omega)
    cases hwq : writePt d lf q with
    | ok r =>
      obtain ⟨s, k⟩ := r
      rw [hwq] at E
      rw [wcat_step hwq] at hkk
      obtain ⟨qh, qb, qm, qp⟩ := q
      exact wkid_ok hw hM _ _ dep nl ps i lf out qh qb qm qp (by omega) hil (by omega) hol hqr s k E ⟨by simp only; omega, by have := writePt_le d lf _ s k hwq; simp only; omega, by simp only [List.length_append, List.length_cons, List.length_nil]; omega, hkk⟩
    | err e' =>
      rw [wcat_err hwq] at hkk
      cases hkk
  · rw [List.drop_eq_nil_of_le (by omega), writeKids] at hkk
    have hkk : Res.ok (out ++ [], lf) = Res.ok (xs, n) := hkk
    rw [List.append_nil] at hkk
    cases hkk
    have hsl := sr_len xs
    have hfl := fr_len nl
    have hnlen := hnsm.len
    clear IH hk M1 N1 B1 R1 hf hmsl
    change Tri _ _ (st [(0, .ptr 0 0), (2, .int .i64 dep), (11, .sl 111), (12, .str []), (14, .sl 114), (103, .pts false ps), (104, .int .i64 ps.length), (105, .int .i64 i)] [(0, .box [.int .i64 (n : Int)]), (111, .rows 75 2 (fieldRows nl)), (114, .rows 9 1 (strRows xs))]) _
    repeat' (first | refine a_f ?_ | refine st_nil ?_ | refine tri_seq ?_ | refine tri_region rfl ?_ | refine a_draw ?_ | (apply st_r rfl; case hq => first | exact q_call C1 (hcf := Tryz.call80) rfl rfl | exact a_q) | (apply st_rif rfl; (case hq => first | exact a_i); all_goals (intro _; try (exfalso; first | omega | contradiction))) | (apply st_rw rfl rfl; case hq => first | exact a_store) | refine tri_true rfl ?_ | refine tri_false rfl ?_ | refine tri_block ?_ | refine tri_skip ?_ | refine tri_ret ?_ | refine tri_exit ?_)
    refine tri_loop (fun (k : Nat) => k ≤ nl.length ∧ ∀ j g, j < k → nl[j]? = some g → lowB g.1 ≠ ctB) (fun k => st [(11, .sl 111), (12, .str []), (14, .sl 114), (19, .str b), (128, .int .i64 (fieldRows nl).length), (129, .int .i64 k)] [(0, .box [.int .i64 (n : Int)]), (111, .rows 75 2 (fieldRows nl)), (114, .rows 9 1 (strRows xs))]) (fun k => nl.length - k) 0 ⟨Nat.zero_le _, fun j g h => absurd h (Nat.not_lt_zero _)⟩ ?hw2 (fun k hx => ?_)
    case hw2 => exact weak_st ⟨rfl, rfl, rfl, rfl, rfl, rfl, trivial⟩ ⟨rfl, rfl, rfl, trivial⟩
    obtain ⟨hkl, hno⟩ := hx
    by_cases hkn : k < nl.length
    · obtain ⟨f, hf1, hfm, hfd, hfr⟩ := fr_at hkn
      have SA := (small_c f.1 (by have := (hnsm.one f hfm).1; omega)).q
      have SB : CPure gxp 53 [.str ctN] (.str ctB) := by
        have := (small_c ctN (by decide)).q
        rw [show lowB ctN = ctB by decide] at this
        exact this
      by_cases hfc : lowB f.1 = ctB
      · have hv2 := hfirst k f hf1 hfc hno
        rw [hnv] at hv2
        cases hv2
        have hset := hat k f hf1 hfc hno
        have hrs : ((fieldRows nl).set (k : Int).toNat [.str f.1, .str (renameF f.2 b)]) = fieldRows rh := by rw [Int.toNat_natCast]; exact hset.symm
        rw [hfc] at SA
        rw [← hrs] at H1
        generalize renameF f.2 b = rv at RN1 H1
        have hfrl : (fieldRows rh).length = (fieldRows nl).length := by rw [← hrs, List.length_set]
        clear hrs hset hat hfirst hnn hfrl
        repeat' (first | refine a_f ?_ | refine st_nil ?_ | refine tri_seq ?_ | refine tri_region rfl ?_ | refine a_draw ?_ | (apply st_r rfl; case hq => first | exact q_loadr (by conv => lhs; whnf) (by conv => lhs; whnf) (by show scalB Tryz.prog _ = true; decide +kernel) (fun _ => rfl) | exact q_idxg (sz := 1) (by conv => lhs; whnf) (by conv => lhs; whnf) Tryz.underlying109 (by kernel_rfl) (by omega) (by omega) | exact q_loadg (by rfl) ours0p (fun _ _ _ _ => .str _ _) (by show scalB Tryz.prog _ = true; decide +kernel) | exact q_idxsl (by conv => lhs; whnf) (by conv => lhs; whnf; arg 1; whnf) (by conv => lhs; whnf) (by first | exact Tryz.underlying22 | exact Tryz.underlying23 | exact Tryz.underlying43 | exact Tryz.underlying44 | exact Tryz.underlying51 | exact Tryz.underlying86 | exact Tryz.underlying191 | exact Tryz.underlying209 | exact Tryz.underlying234 | exact Tryz.underlying270 | exact Tryz.underlying281 | exact Tryz.underlying344) (by kernel_rfl) (by omega) (by omega) | exact q_loade (by conv => lhs; whnf) (by conv => lhs; whnf; arg 1; whnf) hfr rfl (by show scalB Tryz.prog _ = true; decide +kernel) | exact q_call SA (hcf := Tryz.call53) rfl rfl | exact q_call SB (hcf := Tryz.call53) rfl rfl | exact q_call RN1 (hcf := Tryz.call81) rfl rfl | exact a_q) | (apply st_rif rfl; (case hq => first | exact a_i); all_goals (intro _; try (exfalso; first | omega | contradiction))) | (apply st_rw rfl rfl; case hq => first | exact w_storee (by conv => lhs; whnf) (by conv => lhs; whnf; arg 1; whnf) hfr (by conv => lhs; whnf) rfl (by kernel_rfl) rfl (by first | rfl | exact Nat.le_of_ble_eq_true rfl | exact Nat.succ_pos _ | decide) (by first | rfl | exact Nat.le_of_ble_eq_true rfl | exact Nat.succ_pos _ | decide) (by conv => lhs; whnf) | exact a_store) | refine tri_true rfl ?_ | refine tri_false rfl ?_ | refine tri_block ?_ | refine tri_skip ?_ | refine tri_ret ?_ | refine tri_exit ?_)
        refine tri_loop (fun (j : Nat) => j ≤ xs.length) (fun j => st [(11, .sl 111), (12, .str (kidsW b (xs.take j))), (19, .str b), (154, .sl 114), (155, .int .i64 (strRows xs).length), (156, .int .i64 j)] [(0, .box [.int .i64 (n : Int)]), (111, .rows 75 2 ((fieldRows nl).set (k : Int).toNat [.str f.1, .str rv])), (114, .rows 9 1 (strRows xs))]) (fun j => xs.length - j) 0 (Nat.zero_le _) ?hw3 (fun j hj => ?_)
        case hw3 => exact weak_st ⟨rfl, rfl, rfl, rfl, rfl, rfl, trivial⟩ ⟨rfl, rfl, rfl, trivial⟩
        by_cases hjl : j < xs.length
        · obtain ⟨x, hx1, hxm', hxd, hxr⟩ := sr_at hjl
          have hx5 := hxm x hxm'
          have hkt := kidsW_take (b := b) hx1
          have hle := kidsW_take_le b xs j
          generalize kidsW b (xs.take j) = bt at hkt hle
          repeat' (first | refine a_f ?_ | refine st_nil ?_ | refine tri_seq ?_ | refine tri_region rfl ?_ | refine a_draw ?_ | (apply st_r rfl; case hq => first | exact q_idxsl (by conv => lhs; whnf) (by conv => lhs; whnf; arg 1; whnf) (by conv => lhs; whnf) (by first | exact Tryz.underlying22 | exact Tryz.underlying23 | exact Tryz.underlying43 | exact Tryz.underlying44 | exact Tryz.underlying51 | exact Tryz.underlying86 | exact Tryz.underlying191 | exact Tryz.underlying209 | exact Tryz.underlying234 | exact Tryz.underlying270 | exact Tryz.underlying281 | exact Tryz.underlying344) (by kernel_rfl) (by omega) (by omega) | exact q_loade (by conv => lhs; whnf) (by conv => lhs; whnf; arg 1; whnf) hxr rfl (by show scalB Tryz.prog _ = true; decide +kernel) | exact q_adds (u := [45, 45]) rfl (by conv => lhs; whnf) (by first | omega | (simp only [List.length_append, List.length_cons, List.length_nil, List.length_take, List.length_drop]; omega)) | exact q_adds (v := [13, 10]) (by conv => lhs; whnf) rfl (by first | omega | (simp only [List.length_append, List.length_cons, List.length_nil, List.length_take, List.length_drop]; omega)) | exact q_adds (by conv => lhs; whnf) (by conv => lhs; whnf) (by first | omega | (simp only [List.length_append, List.length_cons, List.length_nil, List.length_take, List.length_drop]; omega)) | exact a_q) | (apply st_rif rfl; (case hq => first | exact a_i); all_goals (intro _; try (exfalso; first | omega | contradiction))) | (apply st_rw rfl rfl; case hq => first | exact a_store) | refine tri_true rfl ?_ | refine tri_false rfl ?_ | refine tri_block ?_ | refine tri_skip ?_ | refine tri_ret ?_ | refine tri_exit ?_)
          exact nextR (j + 1) (by omega) (weak_st ⟨rfl, congrArg AV.str (by rw [hkt]; simp), rfl, rfl, rfl, rfl, trivial⟩ ⟨rfl, rfl, rfl, trivial⟩) (show xs.length - (j + 1) < xs.length - j by omega)
        · have hjj : xs.take j = xs := List.take_of_length_le (by omega)
          rw [hjj]
          have hbw : bodyW b xs = kidsW b xs ++ (([45, 45] ++ b) ++ [45, 45, 13, 10]) := by simp [bodyW]
          rw [hbw]
          generalize kidsW b xs = bt at hkw ⊢
          repeat' (first | refine a_f ?_ | refine st_nil ?_ | refine tri_seq ?_ | refine tri_region rfl ?_ | refine a_draw ?_ | (apply st_r rfl; case hq => first | exact q_adds (u := [45, 45]) rfl (by conv => lhs; whnf) (by first | omega | (simp only [List.length_append, List.length_cons, List.length_nil, List.length_take, List.length_drop]; omega)) | exact q_adds (v := [45, 45, 13, 10]) (by conv => lhs; whnf) rfl (by first | omega | (simp only [List.length_append, List.length_cons, List.length_nil, List.length_take, List.length_drop]; omega)) | exact q_adds (by conv => lhs; whnf) (by conv => lhs; whnf) (by first | omega | (simp only [List.length_append, List.length_cons, List.length_nil, List.length_take, List.length_drop]; omega)) | exact q_call H1 (hcf := Tryz.call82) rfl rfl | exact a_q) | (apply st_rif rfl; (case hq => first | exact a_i); all_goals (intro _; try (exfalso; first | omega | contradiction))) | (apply st_rw rfl rfl; case hq => first | exact a_store) | refine tri_true rfl ?_ | refine tri_false rfl ?_ | refine tri_block ?_ | refine tri_skip ?_ | refine tri_ret ?_ | refine tri_exit ?_)
          exact ⟨trivial, by (conv => lhs; whnf); rfl, rfl⟩
      · repeat' (first | refine a_f ?_ | refine st_nil ?_ | refine tri_seq ?_ | refine tri_region rfl ?_ | refine a_draw ?_ | (apply st_r rfl; case hq => first | exact q_loadr (by conv => lhs; whnf) (by conv => lhs; whnf) (by show scalB Tryz.prog _ = true; decide +kernel) (fun _ => rfl) | exact q_idxg (sz := 1) (by conv => lhs; whnf) (by conv => lhs; whnf) Tryz.underlying109 (by kernel_rfl) (by omega) (by omega) | exact q_loadg (by rfl) ours0p (fun _ _ _ _ => .str _ _) (by show scalB Tryz.prog _ = true; decide +kernel) | exact q_idxsl (by conv => lhs; whnf) (by conv => lhs; whnf; arg 1; whnf) (by conv => lhs; whnf) (by first | exact Tryz.underlying22 | exact Tryz.underlying23 | exact Tryz.underlying43 | exact Tryz.underlying44 | exact Tryz.underlying51 | exact Tryz.underlying86 | exact Tryz.underlying191 | exact Tryz.underlying209 | exact Tryz.underlying234 | exact Tryz.underlying270 | exact Tryz.underlying281 | exact Tryz.underlying344) (by kernel_rfl) (by omega) (by omega) | exact q_loade (by conv => lhs; whnf) (by conv => lhs; whnf; arg 1; whnf) hfr rfl (by show scalB Tryz.prog _ = true; decide +kernel) | exact q_call SA (hcf := Tryz.call53) rfl rfl | exact q_call SB (hcf := Tryz.call53) rfl rfl | exact a_q) | (apply st_rif rfl; (case hq => first | exact a_i); all_goals (intro _; try (exfalso; first | omega | contradiction))) | (apply st_rw rfl rfl; case hq => first | exact a_store) | refine tri_true rfl ?_ | refine tri_false rfl ?_ | refine tri_block ?_ | refine tri_skip ?_ | refine tri_ret ?_ | refine tri_exit ?_)
        exact nextR (k + 1) ⟨by omega, fun j g hj hg => by
          by_cases hji : j = k
          · subst hji
            rw [hf1] at hg
            cases hg
            exact hfc
          · exact hno j g (by omega) hg⟩ (weak_st ⟨rfl, rfl, rfl, rfl, rfl, rfl, trivial⟩ ⟨rfl, rfl, rfl, trivial⟩) (show nl.length - (k + 1) < nl.length - k by omega)
    · have := hnn (fun f hf => by
        obtain ⟨j, hj, rfl⟩ := List.getElem_of_mem hf
        exact hno j _ (by omega) (List.getElem?_eq_getElem hj))
      rw [hnv] at this
      cases this
end
end Go.Proofs.YtignjjnflcpiiaaGreatDoor
