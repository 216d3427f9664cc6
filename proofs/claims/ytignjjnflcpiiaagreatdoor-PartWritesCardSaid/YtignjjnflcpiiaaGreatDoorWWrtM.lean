import Derived.Test.YtignjjnflcpiiaaGreatDoorWWrtK
import Derived.Test.YtignjjnflcpiiaaGreatDoorWWrtI
import Derived.Test.YtignjjnflcpiiaaGreatDoorWKindFm
import Derived.Test.YtignjjnflcpiiaaGreatDoorWKindX
set_option linter.unusedVariables false
set_option linter.unusedSimpArgs false
set_option maxHeartbeats 1000000
namespace Go.Proofs.YtignjjnflcpiiaaGreatDoor
open Go.RowKit
attribute [local irreducible] Tri Steps Qd Wr Weak CPure CEff
set_option maxRecDepth 100000
set_option linter.unusedSectionVars false
def rowsQ (b : B) (qs : Fs) : Bool → Fs
  | true => setBnd b qs
  | false => qs
theorem renHead_app (b : B) (f : B × B) : ∀ l : Fs, renHead b (l ++ [f]) = if (getF l ctB).isSome = true then renHead b l ++ [f] else renHead b l ++ [if lowB f.1 = ctB then (f.1, renameF f.2 b) else f]
  | [] => by
    rw [if_neg (by simp [getF])]
    show renHead b [f] = [] ++ [_]
    rw [renHead]
    split <;> rfl
  | g :: r => by
    rw [List.cons_append, renHead, renHead, getF_cons]
    by_cases hg : lowB g.1 = ctB
    · simp only [if_pos hg]
      rw [if_pos (show (some g.2).isSome = true from rfl)]; rfl
    · simp only [if_neg hg]
      rw [renHead_app b f r]
      split <;> rfl
theorem getF_take {l : Fs} {i : Nat} {f : B × B} (h : l[i]? = some f) : getF (l.take (i + 1)) ctB = match getF (l.take i) ctB with
    | some v => some v
    | none => if lowB f.1 = ctB then some f.2 else none := by
  rw [List.take_add_one, h]
  exact getF_app _ f ctB
theorem named_no {l : Fs} {i : Nat} (h : getF (l.take i) ctB = none) : ∀ j g, j < i → l[j]? = some g → lowB g.1 ≠ ctB := fun j g hj hg hc => by
  unfold getF at h
  have h := Option.map_eq_none_iff.1 h
  have := List.find?_eq_none.1 h g (List.mem_iff_getElem?.2 ⟨j, by rw [List.getElem?_take, if_pos hj]; exact hg⟩)
  simp [hc] at this
section
variable {hd : Fs} {bd : B} {m : Bool} {ps : List PT}
variable {d left : Nat} (hd4 : d + 1 ≤ 4) (hl : left + 1 ≤ 40) (hf : Fit (.mk hd bd m ps))
  (hr : rightB hd = true) {b0 : B} (h : bndF hd = some (some b0)) (hm : m = true) (hb : bd = [])
  (IH : ∀ left q, left ≤ 40 → Fit q → RWOk d left q)
include hd4 hl hf hr h hm hb IH
set_option maxHeartbeats 16000000 in
theorem rw_kidsE {e : Nat} (hk : writeKids (writePt d) left ps = .err e) : ∀ ab : Int, ab = 4 - ((d + 1 : Nat) : Int) → CEff gxp 33 (.box [.int .i64 (40 - ((left + 1 : Nat) : Int))]) [.agg [.ro false 2 (fieldRows hd), .str bd, .bool m, .pts false ps], .int .i64 ab, .ptr 0 0] (some (.box [.any])) (rwAV (.err e)) := by
  intro ab hab
  refine ceff_ofb Tryz.func33 rfl (Nat.le_of_ble_eq_true rfl) (fun w γ hw hM => ?_)
  refine tri_postE ?_
  subst hm hb
  obtain ⟨hht, hsm, _, hpl⟩ := hf.head
  have R1 : CPure gxp 67 [.ro false 2 (fieldRows hd)] (.bool true) := by
    have := (rhead_c hd hsm).q
    rw [hr] at this
    exact this
  have B1 : CPure gxp 66 [.ro false 2 (fieldRows hd)] (.tup [.str b0, .bool true, .int .i64 0]) := by
    have := (manies_c hd hsm).q
    rw [h] at this
    exact this
  repeat' (first | refine a_f ?_ | refine st_nil ?_ | refine tri_seq ?_ | refine tri_region rfl ?_ | refine a_draw ?_ | (apply st_r rfl; case hq => first | exact q_call R1 (hcf := Tryz.call67) rfl rfl | exact q_call B1 (hcf := Tryz.call66) rfl rfl | exact q_nebL (by conv => lhs; whnf) (by conv => lhs; whnf) (by rfl) (by kernel_rfl) | exact q_lenpts (fr := false) (l := ps) (by rfl) Tryz.underlying23 | exact a_q) | (apply st_rif rfl; (case hq => first | exact a_i); all_goals (intro _; try (exfalso; first | omega | contradiction))) | (apply st_rw rfl rfl; case hq => first | exact w_box (d := 3) 103 (by conv => lhs; whnf) rfl (by conv => lhs; whnf) rfl rfl rfl | exact a_store) | refine tri_true rfl ?_ | refine tri_false rfl ?_ | refine tri_block ?_ | refine tri_skip ?_ | refine tri_ret ?_ | refine tri_exit ?_)
  refine tri_loop (fun (x : Nat × Nat × List B) => x.1 ≤ ps.length ∧ x.2.1 ≤ 40 ∧ x.2.2.length ≤ x.1 ∧ wcat x.2.2 (writeKids (writePt d) x.2.1 (ps.drop x.1)) = .err e) (RwKidS ab hd [] true ps) (fun x => ps.length - x.1) (0, left, []) ⟨Nat.zero_le _, by simp only; omega, Nat.zero_le _, by simp only [List.drop_zero]; rw [hk]; rfl⟩ ?hw (fun x hx => ?_)
  case hw => exact (weak_nil 11 111 9 1 rfl (by decide) rfl rfl).trans (weak_st ⟨rfl, rfl, rfl, rfl, rfl, rfl, rfl, rfl, trivial⟩ ⟨congrArg (fun z => some (AObj.box [AV.int .i64 z])) (by show _ = 40 - (left : Int); omega), rfl, rfl, trivial⟩)
  obtain ⟨i, lf, out⟩ := x
  obtain ⟨hi, hlf, hol, hkk⟩ := hx
  simp only at hi hlf hol hkk
  by_cases hil : i < ps.length
  · obtain ⟨q, hq1, hqm, hqd, hqr⟩ := pt_at hil
    rw [hqd] at hkk
    have E := IH lf q hlf (hf.kid hqm) (ab + 1) (by omega)
    cases hwq : writePt d lf q with
    | ok r =>
      obtain ⟨s, n⟩ := r
      rw [hwq] at E
      rw [wcat_step hwq] at hkk
      obtain ⟨qh, qb, qm, qp⟩ := q
      exact rwkid_ok hw hM _ _ ab hd [] true ps i lf out qh qb qm qp (by omega) hil (by omega) hol hqr s n E ⟨by simp only; omega, by have := writePt_le d lf _ s n hwq; simp only; omega, by simp only [List.length_append, List.length_cons, List.length_nil]; omega, hkk⟩
    | err e' =>
      have he := writePt_err _ _ _ _ hwq
      rw [hwq] at E
      rw [wcat_err hwq] at hkk
      cases hkk
      obtain ⟨qh, qb, qm, qp⟩ := q
      exact rwkid_err hw hM _ _ ab hd [] true ps i lf out qh qb qm qp (by omega) hil (by omega) hol hqr e he E (fun σ h => h)
  · rw [List.drop_eq_nil_of_le (by omega), writeKids] at hkk
    cases hkk
set_option maxHeartbeats 64000000 in
theorem rw_kids {xs : List B} {n : Nat} (hk : writeKids (writePt d) left ps = .ok (xs, n)) : ∀ ab : Int, ab = 4 - ((d + 1 : Nat) : Int) → CEff gxp 33 (.box [.int .i64 (40 - ((left + 1 : Nat) : Int))]) [.agg [.ro false 2 (fieldRows hd), .str bd, .bool m, .pts false ps], .int .i64 ab, .ptr 0 0] (some (.box [.int .i64 (40 - (n : Int))])) (rwAV (.ok (headW (renHead (numB (chooseN xs)) (noEnc hd)) ++ bodyW (numB (chooseN xs)) xs, n))) := by
  intro ab hab
  refine ceff_ofb Tryz.func33 rfl (Nat.le_of_ble_eq_true rfl) (fun w γ hw hM => ?_)
  subst hm hb
  obtain ⟨hht, hsm, _, hpl⟩ := hf.head
  have R1 : CPure gxp 67 [.ro false 2 (fieldRows hd)] (.bool true) := by
    have := (rhead_c hd hsm).q
    rw [hr] at this
    exact this
  have B1 : CPure gxp 66 [.ro false 2 (fieldRows hd)] (.tup [.str b0, .bool true, .int .i64 0]) := by
    have := (manies_c hd hsm).q
    rw [h] at this
    exact this
  obtain ⟨v, mm, qs, hv, hrk⟩ := bnd_parts h
  have hnv : getF (noEnc hd) ctB = some v := by rw [getF_noEnc]; exact hv
  obtain ⟨fv, hfm, _, hfv⟩ := getF_mem hv
  have hvl := htot_mem hfm
  rw [hfv] at hvl
  have hmsl : msL ps ≤ 900000 := by
    have := hf.1
    rw [ms] at this; omega
  obtain ⟨hsum, hxl⟩ := writeKids_len hmsl hk
  have hxm : ∀ x ∈ xs, x.length ≤ 540000000 := fun x hx => by have := mem_sum (k := 27) hx; omega
  obtain ⟨hN1, hN, hN2⟩ := choose_spec xs
  have hsp := spots_sum xs 540000000 hsum
  have hNle : chooseN xs ≤ 100000000000 := by omega
  have hbl := numB_len (chooseN xs) (by omega)
  have hbo := numB_okV (chooseN xs)
  clear hN hsp
  obtain ⟨b, hbd⟩ : ∃ b, b = numB (chooseN xs) := ⟨_, rfl⟩
  rw [← hbd] at hbl hbo ⊢
  obtain ⟨hqs, hmm⟩ := readK_small hrk (by omega)
  obtain ⟨t, ht, hwk, hvt, _⟩ := rename_facts hbo hrk
  have MK := rkread_m v (by omega) hrk
  have MK : CMake gxp 69 [.str v] 53 2 (fieldRows qs) [.str mm] [.int .i64 0] := fun w vs hG hn hl hr => MK w vs hG.1.1.1 hn hl hr
  have K1 : CPure gxp 22 [.str mm, .ro false 2 (fieldRows (setBnd b qs))] (.tup [.str t, .agg [.int .i64 0, .int .i64 (-1)]]) := by
    have := (rkwrite_c mm (setBnd b qs) (by omega) (setBnd_small (by omega) hqs)).q
    rw [hwk] at this
    exact this
  have htl : t.length ≤ 1000000 := by
    have := rename_len v b
    rw [ht] at this; omega
  have hright : rightB (renHead b (noEnc hd)) = true := renHead_right (right_noEnc hr) hnv (by rw [ht]; exact hvt)
  have hrt := renHead_tot b (noEnc hd)
  have hnt := noEnc_tot hd
  have hwl := writeAll_len (renHead b (noEnc hd))
  have hhw : (headW (renHead b (noEnc hd))).length ≤ 5000000 := by
    unfold headW
    rw [List.length_append]
    simp only [List.length_cons, List.length_nil]
    omega
  have H1 : CPure gxp 70 [.ro false 2 (fieldRows (renHead b (noEnc hd)))] (.tup [.str (headW (renHead b (noEnc hd))), .agg [.int .i64 0, .int .i64 (-1)]]) := by
    have := (rwrite_c (renHead b (noEnc hd)) (htot_small (by omega))).q
    rw [writeH_ok hright] at this
    exact this
  have hkw : (kidsW b xs).length ≤ 540000000 := by
    rw [kidsW_len]
    refine Nat.le_trans ?_ hsum
    have := sum_mono (xs := xs) (show b.length + 6 ≤ 27 by omega)
    simpa [Nat.add_assoc] using this
  have hrl : ∀ i, (renHead b (noEnc (hd.take i))).length ≤ 1000000 := fun i => by
    have h1 : ∀ l : Fs, (renHead b l).length = l.length := fun l => by
      induction l with
      | nil => rfl
      | cons g l ih => rw [renHead]; split <;> simp [ih]
    rw [h1]
    have h2 := noEnc_len (hd.take i)
    rw [List.length_take] at h2
    have := hsm.len; omega
  clear hright hrt hnt hwl hvt hwk hfm hfv hr h hnv
  repeat' (first | refine a_f ?_ | refine st_nil ?_ | refine tri_seq ?_ | refine tri_region rfl ?_ | refine a_draw ?_ | (apply st_r rfl; case hq => first | exact q_call R1 (hcf := Tryz.call67) rfl rfl | exact q_call B1 (hcf := Tryz.call66) rfl rfl | exact q_nebL (by conv => lhs; whnf) (by conv => lhs; whnf) (by rfl) (by kernel_rfl) | exact q_lenpts (fr := false) (l := ps) (by rfl) Tryz.underlying23 | exact a_q) | (apply st_rif rfl; (case hq => first | exact a_i); all_goals (intro _; try (exfalso; first | omega | contradiction))) | (apply st_rw rfl rfl; case hq => first | exact w_box (d := 3) 103 (by conv => lhs; whnf) rfl (by conv => lhs; whnf) rfl rfl rfl | exact a_store) | refine tri_true rfl ?_ | refine tri_false rfl ?_ | refine tri_block ?_ | refine tri_skip ?_ | refine tri_ret ?_ | refine tri_exit ?_)
  refine tri_loop (fun (x : Nat × Nat × List B) => x.1 ≤ ps.length ∧ x.2.1 ≤ 40 ∧ x.2.2.length ≤ x.1 ∧ wcat x.2.2 (writeKids (writePt d) x.2.1 (ps.drop x.1)) = .ok (xs, n)) (RwKidS ab hd [] true ps) (fun x => ps.length - x.1) (0, left, []) ⟨Nat.zero_le _, by simp only; omega, Nat.zero_le _, by simp only [List.drop_zero]; rw [hk]; rfl⟩ ?hw (fun x hx => ?_)
  case hw => exact (weak_nil 11 111 9 1 rfl (by decide) rfl rfl).trans (weak_st ⟨rfl, rfl, rfl, rfl, rfl, rfl, rfl, rfl, trivial⟩ ⟨congrArg (fun z => some (AObj.box [AV.int .i64 z])) (by show _ = 40 - (left : Int); omega), rfl, rfl, trivial⟩)
  obtain ⟨i, lf, out⟩ := x
  obtain ⟨hi, hlf, hol, hkk⟩ := hx
  simp only at hi hlf hol hkk
  by_cases hil : i < ps.length
  · obtain ⟨q, hq1, hqm, hqd, hqr⟩ := pt_at hil
    rw [hqd] at hkk
    have E := IH lf q hlf (hf.kid hqm) (ab + 1) (by omega)
    cases hwq : writePt d lf q with
    | ok r =>
      obtain ⟨s, k⟩ := r
      rw [hwq] at E
      rw [wcat_step hwq] at hkk
      obtain ⟨qh, qb, qm, qp⟩ := q
      exact rwkid_ok hw hM _ _ ab hd [] true ps i lf out qh qb qm qp (by omega) hil (by omega) hol hqr s k E ⟨by simp only; omega, by have := writePt_le d lf _ s k hwq; simp only; omega, by simp only [List.length_append, List.length_cons, List.length_nil]; omega, hkk⟩
    | err e' =>
      rw [wcat_err hwq] at hkk
      cases hkk
  · rw [List.drop_eq_nil_of_le (by omega), writeKids] at hkk
    have hkk : Res.ok (out ++ [], lf) = Res.ok (xs, n) := hkk
    rw [List.append_nil] at hkk
    cases hkk
    have hsl := sr_len xs
    have hfl := fr_len hd
    have hhl := hsm.len
    clear IH hk B1 R1 hf hmsl
    change Tri _ _ (st [(1, .int .i64 ab), (2, .ptr 0 0), (3, .ptr 103 0), (9, .bool true), (11, .sl 111), (90, .pts false ps), (91, .int .i64 ps.length), (92, .int .i64 i)] [(0, .box [.int .i64 (40 - (n : Int))]), (103, .box [.ro false 2 (fieldRows hd), .str [], .bool true, .pts false ps]), (111, .rows 9 1 (strRows xs))]) _
    repeat' (first | refine a_f ?_ | refine st_nil ?_ | refine tri_seq ?_ | refine tri_region rfl ?_ | refine a_draw ?_ | (apply st_r rfl; case hq => first | exact a_q) | (apply st_rif rfl; (case hq => first | exact a_i); all_goals (intro _; try (exfalso; first | omega | contradiction))) | (apply st_rw rfl rfl; case hq => first | exact a_store) | refine tri_true rfl ?_ | refine tri_false rfl ?_ | refine tri_block ?_ | refine tri_skip ?_ | refine tri_ret ?_ | refine tri_exit ?_)
    refine tri_loop (fun (x : Nat × Nat) => x.1 ≤ chooseN xs ∧ x.2 ≤ xs.length ∧ ∀ y ∈ xs.take x.2, Lib.contains y (45 :: 45 :: numB x.1) = false) (fun x => st [(3, .ptr 103 0), (9, .bool true), (11, .sl 111), (16, .int .i64 x.1), (17, .int .i64 x.2)] [(0, .box [.int .i64 (40 - (n : Int))]), (103, .box [.ro false 2 (fieldRows hd), .str [], .bool true, .pts false ps]), (111, .rows 9 1 (strRows xs))]) (fun x => (chooseN xs - x.1) * (xs.length + 1) + (xs.length - x.2)) (0, 0) ⟨Nat.zero_le _, Nat.zero_le _, fun y hy => by simp at hy⟩ ?hw2 (fun x hx => ?_)
    case hw2 => exact weak_st ⟨rfl, rfl, rfl, rfl, rfl, trivial⟩ ⟨rfl, rfl, rfl, trivial⟩
    obtain ⟨c, k⟩ := x
    obtain ⟨hc, hkl, hno⟩ := hx
    simp only at hc hkl hno
    have I0 := itoa_c c (by omega)
    have hdl := dec_lenP c (by omega)
    change Tri _ _ (st [(3, .ptr 103 0), (9, .bool true), (11, .sl 111), (16, .int .i64 c), (17, .int .i64 k)] [(0, .box [.int .i64 (40 - (n : Int))]), (103, .box [.ro false 2 (fieldRows hd), .str [], .bool true, .pts false ps]), (111, .rows 9 1 (strRows xs))]) _
    by_cases hkn : k < xs.length
    · obtain ⟨x, hx1, hxm', hxd, hxr⟩ := sr_at hkn
      have hx5 := hxm x hxm'
      have CC := (contains_c x (45 :: 45 :: numB c) (by omega)).q
      have hfree : Lib.contains x (45 :: 45 :: numB c) = true → c < chooseN xs := fun ht => by
        rcases Nat.lt_or_ge c (chooseN xs) with h | h
        · exact h
        · have : c = chooseN xs := by omega
          rw [← this, free_any] at hN1
          have : (xs.any fun s => Lib.contains s (45 :: 45 :: numB c)) = true := List.any_eq_true.2 ⟨x, hxm', ht⟩
          rw [this] at hN1
          cases hN1
      have CC : CPure gxp 60 [.str x, .str (45 :: 45 :: 98 :: Lib.decDigits c)] (.bool (Lib.contains x (45 :: 45 :: numB c))) := CC
      have hc2 : c ≤ 100000000000 := by omega
      clear hNle hbl hbo htl hhw hkw hvl H1 K1 MK
      cases hct : Lib.contains x (45 :: 45 :: numB c) with
      | true =>
        rw [hct] at CC
        have hlt := hfree hct
        generalize Lib.decDigits c = D at I0 hdl CC
        repeat' (first | refine a_f ?_ | refine st_nil ?_ | refine tri_seq ?_ | refine tri_region rfl ?_ | refine a_draw ?_ | (apply st_r rfl; case hq => first | exact q_idxsl (by conv => lhs; whnf) (by conv => lhs; whnf; arg 1; whnf) (by conv => lhs; whnf) (by first | exact Tryz.underlying22 | exact Tryz.underlying23 | exact Tryz.underlying43 | exact Tryz.underlying44 | exact Tryz.underlying51 | exact Tryz.underlying86 | exact Tryz.underlying191 | exact Tryz.underlying209 | exact Tryz.underlying234 | exact Tryz.underlying270 | exact Tryz.underlying281 | exact Tryz.underlying344) (by kernel_rfl) (by omega) (by omega) | exact q_loade (by conv => lhs; whnf) (by conv => lhs; whnf; arg 1; whnf) hxr rfl (by show scalB Tryz.prog _ = true; decide +kernel) | exact q_call I0 (hcf := Tryz.call68) rfl rfl | exact q_adds (u := [45, 45, 98]) rfl (by conv => lhs; whnf) (by first | omega | (simp only [List.length_append, List.length_cons, List.length_nil, List.length_take, List.length_drop]; omega)) | exact q_call CC (hcf := Tryz.call60) rfl rfl | exact a_q) | (apply st_rif rfl; (case hq => first | exact a_i); all_goals (intro _; try (exfalso; first | omega | contradiction))) | (apply st_rw rfl rfl; case hq => first | exact a_store) | refine tri_true rfl ?_ | refine tri_false rfl ?_ | refine tri_block ?_ | refine tri_skip ?_ | refine tri_ret ?_ | refine tri_exit ?_)
        exact nextR (c + 1, 0) ⟨by simp only; omega, Nat.zero_le _, fun y hy => by simp at hy⟩ (weak_st ⟨rfl, rfl, rfl, rfl, rfl, trivial⟩ ⟨rfl, rfl, rfl, trivial⟩) (by
          show (chooseN xs - (c + 1)) * (xs.length + 1) + (xs.length - 0) < (chooseN xs - c) * (xs.length + 1) + (xs.length - k)
          obtain ⟨t, ht⟩ : ∃ t, chooseN xs - c = t + 1 := ⟨chooseN xs - c - 1, by omega⟩
          rw [show chooseN xs - (c + 1) = t by omega, ht, Nat.succ_mul]
          omega)
      | false =>
        rw [hct] at CC
        generalize Lib.decDigits c = D at I0 hdl CC
        repeat' (first | refine a_f ?_ | refine st_nil ?_ | refine tri_seq ?_ | refine tri_region rfl ?_ | refine a_draw ?_ | (apply st_r rfl; case hq => first | exact q_idxsl (by conv => lhs; whnf) (by conv => lhs; whnf; arg 1; whnf) (by conv => lhs; whnf) (by first | exact Tryz.underlying22 | exact Tryz.underlying23 | exact Tryz.underlying43 | exact Tryz.underlying44 | exact Tryz.underlying51 | exact Tryz.underlying86 | exact Tryz.underlying191 | exact Tryz.underlying209 | exact Tryz.underlying234 | exact Tryz.underlying270 | exact Tryz.underlying281 | exact Tryz.underlying344) (by kernel_rfl) (by omega) (by omega) | exact q_loade (by conv => lhs; whnf) (by conv => lhs; whnf; arg 1; whnf) hxr rfl (by show scalB Tryz.prog _ = true; decide +kernel) | exact q_call I0 (hcf := Tryz.call68) rfl rfl | exact q_adds (u := [45, 45, 98]) rfl (by conv => lhs; whnf) (by first | omega | (simp only [List.length_append, List.length_cons, List.length_nil, List.length_take, List.length_drop]; omega)) | exact q_call CC (hcf := Tryz.call60) rfl rfl | exact a_q) | (apply st_rif rfl; (case hq => first | exact a_i); all_goals (intro _; try (exfalso; first | omega | contradiction))) | (apply st_rw rfl rfl; case hq => first | exact a_store) | refine tri_true rfl ?_ | refine tri_false rfl ?_ | refine tri_block ?_ | refine tri_skip ?_ | refine tri_ret ?_ | refine tri_exit ?_)
        exact nextR (c, k + 1) ⟨hc, by simp only; omega, fun y hy => by
          simp only at hy
          rw [List.take_add_one, hx1] at hy
          rcases List.mem_append.1 hy with hy | hy
          · exact hno y hy
          · rw [List.mem_singleton.1 hy]; exact hct⟩ (weak_st ⟨rfl, rfl, rfl, rfl, rfl, trivial⟩ ⟨rfl, rfl, rfl, trivial⟩) (by
          show (chooseN xs - c) * (xs.length + 1) + (xs.length - (k + 1)) < (chooseN xs - c) * (xs.length + 1) + (xs.length - k)
          omega)
    · have hcN : c = chooseN xs := by
        rcases Nat.lt_or_ge c (chooseN xs) with h | h
        · have := hN2 c h
          rw [free_any] at this
          rw [List.take_of_length_le (by omega)] at hno
          have : (xs.any fun s => Lib.contains s (45 :: 45 :: numB c)) = false := List.any_eq_false.2 fun y hy => by rw [hno y hy]; simp
          simp_all
        · omega
      have hbD : b = 98 :: Lib.decDigits c := by rw [hbd, hcN]; rfl
      have I0 : CPure gxp 68 [.int .i64 c] (.str (Lib.decDigits c)) := I0
      clear hno hN1 hN2 hNle hbd
      generalize Lib.decDigits c = D at I0 hdl hbD
      subst hbD
      repeat' (first | refine a_f ?_ | refine st_nil ?_ | refine tri_seq ?_ | refine tri_region rfl ?_ | refine a_draw ?_ | (apply st_r rfl; case hq => first | exact q_call I0 (hcf := Tryz.call68) rfl rfl | exact q_adds (u := [98]) rfl (by conv => lhs; whnf) (by first | omega | (simp only [List.length_append, List.length_cons, List.length_nil, List.length_take, List.length_drop]; omega)) | exact a_q) | (apply st_rif rfl; (case hq => first | exact a_i); all_goals (intro _; try (exfalso; first | omega | contradiction))) | (apply st_rw rfl rfl; case hq => first | exact a_store) | refine tri_true rfl ?_ | refine tri_false rfl ?_ | refine tri_block ?_ | refine tri_skip ?_ | refine tri_ret ?_ | refine tri_exit ?_)
      generalize hbb : 98 :: D = b at *
      refine tri_loop (fun (i : Nat) => i ≤ hd.length) (fun i => st [(3, .ptr 103 0), (9, .bool true), (11, .sl 111), (18, .str b), (19, .sl 119), (20, .bool (getF (hd.take i) ctB).isSome), (132, .ro false 2 (fieldRows hd)), (133, .int .i64 (fieldRows hd).length), (134, .int .i64 i)] [(0, .box [.int .i64 (40 - (n : Int))]), (103, .box [.ro false 2 (fieldRows hd), .str [], .bool true, .pts false ps]), (111, .rows 9 1 (strRows xs)), (119, .rows 75 2 (fieldRows (renHead b (noEnc (hd.take i)))))]) (fun i => hd.length - i) 0 (Nat.zero_le _) ?hw4 (fun i hi => ?_)
      case hw4 => exact (weak_nil 19 119 75 2 rfl (by decide) rfl rfl).trans (weak_st ⟨rfl, rfl, rfl, congrArg AV.str hbb, rfl, rfl, rfl, rfl, rfl, trivial⟩ ⟨rfl, rfl, rfl, rfl, trivial⟩)
      have hfn := fr_len (renHead b (noEnc (hd.take i)))
      have hfb := hrl i
      by_cases hil : i < hd.length
      · obtain ⟨f, hf1, hfm, hfd, hfr⟩ := fr_at hil
        have L1 := (low_c f.1 (by have := (hsm.one f hfm).1; omega)).q
        have hnk := noEnc_take hf1
        have hgt := getF_take hf1
        by_cases hce : lowB f.1 = ceB
        · rw [if_pos (decide_eq_true hce), List.append_nil] at hnk
          have hnn : (getF (hd.take (i + 1)) ctB).isSome = (getF (hd.take i) ctB).isSome := by
            rw [hgt, if_neg (show ¬ lowB f.1 = ctB by rw [hce]; decide)]
            cases getF (hd.take i) ctB <;> rfl
          have hce' : lowB f.1 = [99, 111, 110, 116, 101, 110, 116, 45, 116, 114, 97, 110, 115, 102, 101, 114, 45, 101, 110, 99, 111, 100, 105, 110, 103] := hce
          rw [hce'] at L1
          repeat' (first | refine a_f ?_ | refine st_nil ?_ | refine tri_seq ?_ | refine tri_region rfl ?_ | refine a_draw ?_ | (apply st_r rfl; case hq => first | exact q_idxro (by conv => lhs; whnf) (by conv => lhs; whnf) (by first | exact Tryz.underlying22 | exact Tryz.underlying23 | exact Tryz.underlying43 | exact Tryz.underlying44 | exact Tryz.underlying51 | exact Tryz.underlying86 | exact Tryz.underlying191 | exact Tryz.underlying209 | exact Tryz.underlying234 | exact Tryz.underlying270 | exact Tryz.underlying281 | exact Tryz.underlying344) (by kernel_rfl) (by omega) hfr | exact q_loadar (n := 2) (by conv => lhs; whnf) (by conv => lhs; whnf) (by first | rfl | exact Nat.le_of_ble_eq_true rfl | exact Nat.succ_pos _ | decide) (by kernel_rfl) (fun _ => rfl) | exact q_call L1 (hcf := Tryz.call48) rfl rfl | exact a_q) | (apply st_rif rfl; (case hq => first | exact a_i); all_goals (intro _; try (exfalso; first | omega | contradiction))) | (apply st_rw rfl rfl; case hq => first | exact w_alloc (d := 22) 122 (by exact zFieldE) rfl rfl rfl | exact a_store) | refine tri_true rfl ?_ | refine tri_false rfl ?_ | refine tri_block ?_ | refine tri_skip ?_ | refine tri_ret ?_ | refine tri_exit ?_)
          exact nextR (i + 1) (by omega) (weak_st ⟨rfl, rfl, rfl, rfl, rfl, congrArg AV.bool hnn.symm, rfl, rfl, rfl, trivial⟩ ⟨rfl, rfl, rfl, congrArg (fun r => some (AObj.rows 75 2 (fieldRows (renHead b r)))) hnk.symm, trivial⟩) (show hd.length - (i + 1) < hd.length - i by omega)
        · rw [if_neg (by rw [encP, decide_eq_false hce]; simp)] at hnk
          have hra := renHead_app b f (noEnc (hd.take i))
          rw [← hnk, getF_noEnc] at hra
          have hce' : lowB f.1 ≠ [99, 111, 110, 116, 101, 110, 116, 45, 116, 114, 97, 110, 115, 102, 101, 114, 45, 101, 110, 99, 111, 100, 105, 110, 103] := hce
          cases hg : getF (hd.take i) ctB with
          | some u =>
            rw [hg] at hra hgt
            rw [if_pos (show (some u).isSome = true from rfl)] at hra
            have hap : fieldRows (renHead b (noEnc (hd.take i))) ++ [[.str f.1, .str f.2]] = fieldRows (renHead b (noEnc (hd.take (i + 1)))) := by rw [hra]; exact fr_app _ f.1 f.2
            have hnn : (true : Bool) = (getF (hd.take (i + 1)) ctB).isSome := by rw [hgt]; rfl
            generalize lowB f.1 = lf at L1 hce'
            change Tri _ _ (st [(3, .ptr 103 0), (9, .bool true), (11, .sl 111), (18, .str b), (19, .sl 119), (20, .bool true), (132, .ro false 2 (fieldRows hd)), (133, .int .i64 (fieldRows hd).length), (134, .int .i64 i)] [(0, .box [.int .i64 (40 - (n : Int))]), (103, .box [.ro false 2 (fieldRows hd), .str [], .bool true, .pts false ps]), (111, .rows 9 1 (strRows xs)), (119, .rows 75 2 (fieldRows (renHead b (noEnc (hd.take i)))))]) _
            repeat' (first | refine a_f ?_ | refine st_nil ?_ | refine tri_seq ?_ | refine tri_region rfl ?_ | refine a_draw ?_ | (apply st_r rfl; case hq => first | exact q_idxro (by conv => lhs; whnf) (by conv => lhs; whnf) (by first | exact Tryz.underlying22 | exact Tryz.underlying23 | exact Tryz.underlying43 | exact Tryz.underlying44 | exact Tryz.underlying51 | exact Tryz.underlying86 | exact Tryz.underlying191 | exact Tryz.underlying209 | exact Tryz.underlying234 | exact Tryz.underlying270 | exact Tryz.underlying281 | exact Tryz.underlying344) (by kernel_rfl) (by omega) hfr | exact q_loadar (n := 2) (by conv => lhs; whnf) (by conv => lhs; whnf) (by first | rfl | exact Nat.le_of_ble_eq_true rfl | exact Nat.succ_pos _ | decide) (by kernel_rfl) (fun _ => rfl) | exact q_loada (n := 2) (by conv => lhs; whnf) (by conv => lhs; whnf; arg 1; whnf) (by conv => lhs; whnf) (by first | rfl | exact Nat.le_of_ble_eq_true rfl | exact Nat.succ_pos _ | decide) (by show aggB Tryz.prog _ _ = true; decide +kernel) | exact q_call L1 (hcf := Tryz.call48) rfl rfl | exact a_q) | (apply st_rif rfl; (case hq => first | exact a_i); all_goals (intro _; try (exfalso; first | omega | contradiction))) | (apply st_rw rfl rfl; case hq => first | exact w_alloc (d := 22) 122 (by exact zFieldE) rfl rfl rfl | exact w_append (id := 119) (by conv => lhs; whnf) (by conv => lhs; whnf; arg 1; whnf) (by conv => lhs; whnf) (by first | exact Tryz.underlying22 | exact Tryz.underlying23 | exact Tryz.underlying43 | exact Tryz.underlying44 | exact Tryz.underlying51 | exact Tryz.underlying86 | exact Tryz.underlying191 | exact Tryz.underlying209 | exact Tryz.underlying234 | exact Tryz.underlying270 | exact Tryz.underlying281 | exact Tryz.underlying344) (by kernel_rfl) (by simp) rfl (by simp only [List.length_cons, List.length_nil]; omega) rfl rfl | exact a_store) | refine tri_true rfl ?_ | refine tri_false rfl ?_ | refine tri_block ?_ | refine tri_skip ?_ | refine tri_ret ?_ | refine tri_exit ?_)
            exact nextR (i + 1) (by omega) (weak_st ⟨rfl, rfl, rfl, rfl, rfl, congrArg AV.bool hnn, rfl, rfl, rfl, trivial⟩ ⟨rfl, rfl, rfl, congrArg (fun r => some (AObj.rows 75 2 r)) hap, trivial⟩) (show hd.length - (i + 1) < hd.length - i by omega)
          | none =>
            rw [hg] at hra hgt
            rw [if_neg (by simp)] at hra
            simp only at hgt
            by_cases hct : lowB f.1 = ctB
            · rw [if_pos hct] at hra hgt
              have hv2 := getF_first hd i f hf1 hct (named_no hg)
              rw [hv] at hv2
              have hv2 : v = f.2 := Option.some.inj hv2
              rw [← hv2, ht] at hra
              have hap : fieldRows (renHead b (noEnc (hd.take i))) ++ [[.str f.1, .str t]] = fieldRows (renHead b (noEnc (hd.take (i + 1)))) := by rw [hra]; exact fr_app _ f.1 t
              have hnn : (true : Bool) = (getF (hd.take (i + 1)) ctB).isSome := by rw [hgt]; rfl
              have hct' : lowB f.1 = [99, 111, 110, 116, 101, 110, 116, 45, 116, 121, 112, 101] := hct
              rw [hv2] at MK
              rw [hct'] at L1
              have hql := fr_len qs
              have hqn := hqs.len
              change Tri _ _ (st [(3, .ptr 103 0), (9, .bool true), (11, .sl 111), (18, .str b), (19, .sl 119), (20, .bool false), (132, .ro false 2 (fieldRows hd)), (133, .int .i64 (fieldRows hd).length), (134, .int .i64 i)] [(0, .box [.int .i64 (40 - (n : Int))]), (103, .box [.ro false 2 (fieldRows hd), .str [], .bool true, .pts false ps]), (111, .rows 9 1 (strRows xs)), (119, .rows 75 2 (fieldRows (renHead b (noEnc (hd.take i)))))]) _
              repeat' (first | refine a_f ?_ | refine st_nil ?_ | refine tri_seq ?_ | refine tri_region rfl ?_ | refine a_draw ?_ | (apply st_r rfl; case hq => first | exact q_idxro (by conv => lhs; whnf) (by conv => lhs; whnf) (by first | exact Tryz.underlying22 | exact Tryz.underlying23 | exact Tryz.underlying43 | exact Tryz.underlying44 | exact Tryz.underlying51 | exact Tryz.underlying86 | exact Tryz.underlying191 | exact Tryz.underlying209 | exact Tryz.underlying234 | exact Tryz.underlying270 | exact Tryz.underlying281 | exact Tryz.underlying344) (by kernel_rfl) (by omega) hfr | exact q_loadar (n := 2) (by conv => lhs; whnf) (by conv => lhs; whnf) (by first | rfl | exact Nat.le_of_ble_eq_true rfl | exact Nat.succ_pos _ | decide) (by kernel_rfl) (fun _ => rfl) | exact q_loada (n := 2) (by conv => lhs; whnf) (by conv => lhs; whnf; arg 1; whnf) (by conv => lhs; whnf) (by first | rfl | exact Nat.le_of_ble_eq_true rfl | exact Nat.succ_pos _ | decide) (by show aggB Tryz.prog _ _ = true; decide +kernel) | exact q_call L1 (hcf := Tryz.call48) rfl rfl | exact a_q) | (apply st_rif rfl; (case hq => first | exact a_i); all_goals (intro _; try (exfalso; first | omega | contradiction))) | (apply st_rw rfl rfl; case hq => first | exact w_alloc (d := 22) 122 (by exact zFieldE) rfl rfl rfl | exact w_make 150 MK Tryz.call69 rfl rfl rfl | exact a_store) | refine tri_true rfl ?_ | refine tri_false rfl ?_ | refine tri_block ?_ | refine tri_skip ?_ | refine tri_ret ?_ | refine tri_exit ?_)
              refine tri_loop (fun (y : Nat × Bool) => y.1 ≤ qs.length ∧ (y.2 = false → ∀ j g, j < y.1 → qs[j]? = some g → g.1 ≠ bndN)) (fun y => st [(3, .ptr 103 0), (9, .bool true), (11, .sl 111), (18, .str b), (19, .sl 119), (20, .bool true), (22, .ptr 122 0), (23, .str mm), (24, .sl 150), (26, .bool y.2), (132, .ro false 2 (fieldRows hd)), (133, .int .i64 (fieldRows hd).length), (134, .int .i64 i), (161, .int .i64 (fieldRows qs).length), (162, .int .i64 y.1)] [(0, .box [.int .i64 (40 - (n : Int))]), (103, .box [.ro false 2 (fieldRows hd), .str [], .bool true, .pts false ps]), (111, .rows 9 1 (strRows xs)), (119, .rows 75 2 (fieldRows (renHead b (noEnc (hd.take i))))), (122, .box [.str f.1, .str f.2]), (150, .rows 53 2 (fieldRows (rowsQ b qs y.2)))]) (fun y => qs.length - y.1) (0, false) ⟨Nat.zero_le _, fun _ j g h => absurd h (Nat.not_lt_zero _)⟩ ?hw6 (fun y hy => ?_)
              case hw6 => exact weak_st ⟨rfl, rfl, rfl, rfl, rfl, rfl, rfl, rfl, rfl, rfl, rfl, rfl, rfl, rfl, rfl, trivial⟩ ⟨rfl, rfl, rfl, rfl, rfl, rfl, trivial⟩
              obtain ⟨j, dn⟩ := y
              obtain ⟨hj, hdn⟩ := hy
              simp only at hj hdn
              have hSl : (setBnd b qs).length = qs.length := by
                have key : ∀ qs : Fs, (setBnd b qs).length = qs.length := fun qs => by
                  induction qs with
                  | nil => rfl
                  | cons p r ih => rw [setBnd]; split <;> simp [ih]
                exact key qs
              by_cases hjl : j < qs.length
              · cases dn with
                | true =>
                  obtain ⟨g, hg1, hgm, hgd, hgr⟩ := fr_at (l := setBnd b qs) (i := j) (by omega)
                  have hSf := fr_len (setBnd b qs)
                  change Tri _ _ (st [(3, .ptr 103 0), (9, .bool true), (11, .sl 111), (18, .str b), (19, .sl 119), (20, .bool true), (22, .ptr 122 0), (23, .str mm), (24, .sl 150), (26, .bool true), (132, .ro false 2 (fieldRows hd)), (133, .int .i64 (fieldRows hd).length), (134, .int .i64 i), (161, .int .i64 (fieldRows qs).length), (162, .int .i64 j)] [(0, .box [.int .i64 (40 - (n : Int))]), (103, .box [.ro false 2 (fieldRows hd), .str [], .bool true, .pts false ps]), (111, .rows 9 1 (strRows xs)), (119, .rows 75 2 (fieldRows (renHead b (noEnc (hd.take i))))), (122, .box [.str f.1, .str f.2]), (150, .rows 53 2 (fieldRows (setBnd b qs)))]) _
                  generalize g.1 = gn at hgr
                  repeat' (first | refine a_f ?_ | refine st_nil ?_ | refine tri_seq ?_ | refine tri_region rfl ?_ | refine a_draw ?_ | (apply st_r rfl; case hq => first | exact q_idxsl (by conv => lhs; whnf) (by conv => lhs; whnf; arg 1; whnf) (by conv => lhs; whnf) (by first | exact Tryz.underlying22 | exact Tryz.underlying23 | exact Tryz.underlying43 | exact Tryz.underlying44 | exact Tryz.underlying51 | exact Tryz.underlying86 | exact Tryz.underlying191 | exact Tryz.underlying209 | exact Tryz.underlying234 | exact Tryz.underlying270 | exact Tryz.underlying281 | exact Tryz.underlying344) (by kernel_rfl) (by omega) (by omega) | exact q_loade (by conv => lhs; whnf) (by conv => lhs; whnf; arg 1; whnf) hgr rfl (by show scalB Tryz.prog _ = true; decide +kernel) | exact a_q) | (apply st_rif rfl; (case hq => first | exact a_i); all_goals (intro _; try (exfalso; first | omega | contradiction))) | (apply st_rw rfl rfl; case hq => first | exact a_store) | refine tri_true rfl ?_ | refine tri_false rfl ?_ | refine tri_block ?_ | refine tri_skip ?_ | refine tri_ret ?_ | refine tri_exit ?_)
                  all_goals exact nextR (j + 1, true) ⟨by simp only; omega, fun h => by cases h⟩ (weak_st ⟨rfl, rfl, rfl, rfl, rfl, rfl, rfl, rfl, rfl, rfl, rfl, rfl, rfl, rfl, rfl, trivial⟩ ⟨rfl, rfl, rfl, rfl, rfl, rfl, trivial⟩) (show qs.length - (j + 1) < qs.length - j by omega)
                | false =>
                  obtain ⟨g, hg1, hgm, hgd, hgr⟩ := fr_at hjl
                  have hno := hdn rfl
                  change Tri _ _ (st [(3, .ptr 103 0), (9, .bool true), (11, .sl 111), (18, .str b), (19, .sl 119), (20, .bool true), (22, .ptr 122 0), (23, .str mm), (24, .sl 150), (26, .bool false), (132, .ro false 2 (fieldRows hd)), (133, .int .i64 (fieldRows hd).length), (134, .int .i64 i), (161, .int .i64 (fieldRows qs).length), (162, .int .i64 j)] [(0, .box [.int .i64 (40 - (n : Int))]), (103, .box [.ro false 2 (fieldRows hd), .str [], .bool true, .pts false ps]), (111, .rows 9 1 (strRows xs)), (119, .rows 75 2 (fieldRows (renHead b (noEnc (hd.take i))))), (122, .box [.str f.1, .str f.2]), (150, .rows 53 2 (fieldRows qs))]) _
                  by_cases hgb : g.1 = bndN
                  · have hset := setBnd_at b qs j g hg1 hgb hno
                    have hset : (fieldRows qs).set (j : Int).toNat [.str g.1, .str b] = fieldRows (setBnd b qs) := by rw [Int.toNat_natCast]; exact hset.symm
                    have hgb' : g.1 = [98, 111, 117, 110, 100, 97, 114, 121] := hgb
                    generalize g.1 = gn at hgr hset hgb'
                    repeat' (first | refine a_f ?_ | refine st_nil ?_ | refine tri_seq ?_ | refine tri_region rfl ?_ | refine a_draw ?_ | (apply st_r rfl; case hq => first | exact q_idxsl (by conv => lhs; whnf) (by conv => lhs; whnf; arg 1; whnf) (by conv => lhs; whnf) (by first | exact Tryz.underlying22 | exact Tryz.underlying23 | exact Tryz.underlying43 | exact Tryz.underlying44 | exact Tryz.underlying51 | exact Tryz.underlying86 | exact Tryz.underlying191 | exact Tryz.underlying209 | exact Tryz.underlying234 | exact Tryz.underlying270 | exact Tryz.underlying281 | exact Tryz.underlying344) (by kernel_rfl) (by omega) (by omega) | exact q_loade (by conv => lhs; whnf) (by conv => lhs; whnf; arg 1; whnf) hgr rfl (by show scalB Tryz.prog _ = true; decide +kernel) | exact a_q) | (apply st_rif rfl; (case hq => first | exact a_i); all_goals (intro _; try (exfalso; first | omega | contradiction))) | (apply st_rw rfl rfl; case hq => first | exact w_storee (by conv => lhs; whnf) (by conv => lhs; whnf; arg 1; whnf) hgr (by conv => lhs; whnf) rfl (by kernel_rfl) rfl (by first | rfl | exact Nat.le_of_ble_eq_true rfl | exact Nat.succ_pos _ | decide) (by first | rfl | exact Nat.le_of_ble_eq_true rfl | exact Nat.succ_pos _ | decide) (by conv => lhs; whnf) | exact a_store) | refine tri_true rfl ?_ | refine tri_false rfl ?_ | refine tri_block ?_ | refine tri_skip ?_ | refine tri_ret ?_ | refine tri_exit ?_)
                    exact nextR (j + 1, true) ⟨by simp only; omega, fun h => by cases h⟩ (weak_st ⟨rfl, rfl, rfl, rfl, rfl, rfl, rfl, rfl, rfl, rfl, rfl, rfl, rfl, rfl, rfl, trivial⟩ ⟨rfl, rfl, rfl, rfl, rfl, congrArg (fun r => some (AObj.rows 53 2 r)) hset, trivial⟩) (show qs.length - (j + 1) < qs.length - j by omega)
                  · have hgb' : g.1 ≠ [98, 111, 117, 110, 100, 97, 114, 121] := hgb
                    have hno' : ∀ j' g', j' < j + 1 → qs[j']? = some g' → g'.1 ≠ bndN := fun j' g' hj' hg' => by
                      by_cases hji : j' = j
                      · subst hji
                        rw [hg1] at hg'
                        cases hg'
                        exact hgb
                      · exact hno j' g' (by omega) hg'
                    generalize g.1 = gn at hgr hgb'
                    repeat' (first | refine a_f ?_ | refine st_nil ?_ | refine tri_seq ?_ | refine tri_region rfl ?_ | refine a_draw ?_ | (apply st_r rfl; case hq => first | exact q_idxsl (by conv => lhs; whnf) (by conv => lhs; whnf; arg 1; whnf) (by conv => lhs; whnf) (by first | exact Tryz.underlying22 | exact Tryz.underlying23 | exact Tryz.underlying43 | exact Tryz.underlying44 | exact Tryz.underlying51 | exact Tryz.underlying86 | exact Tryz.underlying191 | exact Tryz.underlying209 | exact Tryz.underlying234 | exact Tryz.underlying270 | exact Tryz.underlying281 | exact Tryz.underlying344) (by kernel_rfl) (by omega) (by omega) | exact q_loade (by conv => lhs; whnf) (by conv => lhs; whnf; arg 1; whnf) hgr rfl (by show scalB Tryz.prog _ = true; decide +kernel) | exact a_q) | (apply st_rif rfl; (case hq => first | exact a_i); all_goals (intro _; try (exfalso; first | omega | contradiction))) | (apply st_rw rfl rfl; case hq => first | exact a_store) | refine tri_true rfl ?_ | refine tri_false rfl ?_ | refine tri_block ?_ | refine tri_skip ?_ | refine tri_ret ?_ | refine tri_exit ?_)
                    exact nextR (j + 1, false) ⟨by simp only; omega, fun _ => hno'⟩ (weak_st ⟨rfl, rfl, rfl, rfl, rfl, rfl, rfl, rfl, rfl, rfl, rfl, rfl, rfl, rfl, rfl, trivial⟩ ⟨rfl, rfl, rfl, rfl, rfl, rfl, trivial⟩) (show qs.length - (j + 1) < qs.length - j by omega)
              · have hSS : fieldRows (rowsQ b qs dn) = fieldRows (setBnd b qs) := by
                  cases dn with
                  | true => rfl
                  | false =>
                    show fieldRows qs = _
                    rw [setBnd_no b qs (fun j' g' hj' hg' => hdn rfl j' g' (by omega) hg')]
                change Tri _ _ (st [(3, .ptr 103 0), (9, .bool true), (11, .sl 111), (18, .str b), (19, .sl 119), (20, .bool true), (22, .ptr 122 0), (23, .str mm), (24, .sl 150), (26, .bool dn), (132, .ro false 2 (fieldRows hd)), (133, .int .i64 (fieldRows hd).length), (134, .int .i64 i), (161, .int .i64 (fieldRows qs).length), (162, .int .i64 j)] [(0, .box [.int .i64 (40 - (n : Int))]), (103, .box [.ro false 2 (fieldRows hd), .str [], .bool true, .pts false ps]), (111, .rows 9 1 (strRows xs)), (119, .rows 75 2 (fieldRows (renHead b (noEnc (hd.take i))))), (122, .box [.str f.1, .str f.2]), (150, .rows 53 2 (fieldRows (rowsQ b qs dn)))]) _
                rw [hSS]
                repeat' (first | refine a_f ?_ | refine st_nil ?_ | refine tri_seq ?_ | refine tri_region rfl ?_ | refine a_draw ?_ | (apply st_r rfl; case hq => first | exact q_call K1 (hcf := Tryz.call22) rfl rfl | exact q_loada (n := 2) (by conv => lhs; whnf) (by conv => lhs; whnf; arg 1; whnf) (by conv => lhs; whnf) (by first | rfl | exact Nat.le_of_ble_eq_true rfl | exact Nat.succ_pos _ | decide) (by show aggB Tryz.prog _ _ = true; decide +kernel) | exact a_q) | (apply st_rif rfl; (case hq => first | exact a_i); all_goals (intro _; try (exfalso; first | omega | contradiction))) | (apply st_rw rfl rfl; case hq => first | exact w_append (id := 119) (by conv => lhs; whnf) (by conv => lhs; whnf; arg 1; whnf) (by conv => lhs; whnf) (by first | exact Tryz.underlying22 | exact Tryz.underlying23 | exact Tryz.underlying43 | exact Tryz.underlying44 | exact Tryz.underlying51 | exact Tryz.underlying86 | exact Tryz.underlying191 | exact Tryz.underlying209 | exact Tryz.underlying234 | exact Tryz.underlying270 | exact Tryz.underlying281 | exact Tryz.underlying344) (by kernel_rfl) (by simp) rfl (by simp only [List.length_cons, List.length_nil]; omega) rfl rfl | exact a_store) | refine tri_true rfl ?_ | refine tri_false rfl ?_ | refine tri_block ?_ | refine tri_skip ?_ | refine tri_ret ?_ | refine tri_exit ?_)
                exact nextR (i + 1) (by omega) (weak_st ⟨rfl, rfl, rfl, rfl, rfl, congrArg AV.bool hnn, rfl, rfl, rfl, trivial⟩ ⟨rfl, rfl, rfl, congrArg (fun r => some (AObj.rows 75 2 r)) hap, trivial⟩) (show hd.length - (i + 1) < hd.length - i by omega)
            · rw [if_neg hct] at hra hgt
              have hap : fieldRows (renHead b (noEnc (hd.take i))) ++ [[.str f.1, .str f.2]] = fieldRows (renHead b (noEnc (hd.take (i + 1)))) := by rw [hra]; exact fr_app _ f.1 f.2
              have hnn : (false : Bool) = (getF (hd.take (i + 1)) ctB).isSome := by rw [hgt]; rfl
              have hct' : lowB f.1 ≠ [99, 111, 110, 116, 101, 110, 116, 45, 116, 121, 112, 101] := hct
              generalize lowB f.1 = lf at L1 hce' hct'
              change Tri _ _ (st [(3, .ptr 103 0), (9, .bool true), (11, .sl 111), (18, .str b), (19, .sl 119), (20, .bool false), (132, .ro false 2 (fieldRows hd)), (133, .int .i64 (fieldRows hd).length), (134, .int .i64 i)] [(0, .box [.int .i64 (40 - (n : Int))]), (103, .box [.ro false 2 (fieldRows hd), .str [], .bool true, .pts false ps]), (111, .rows 9 1 (strRows xs)), (119, .rows 75 2 (fieldRows (renHead b (noEnc (hd.take i)))))]) _
              repeat' (first | refine a_f ?_ | refine st_nil ?_ | refine tri_seq ?_ | refine tri_region rfl ?_ | refine a_draw ?_ | (apply st_r rfl; case hq => first | exact q_idxro (by conv => lhs; whnf) (by conv => lhs; whnf) (by first | exact Tryz.underlying22 | exact Tryz.underlying23 | exact Tryz.underlying43 | exact Tryz.underlying44 | exact Tryz.underlying51 | exact Tryz.underlying86 | exact Tryz.underlying191 | exact Tryz.underlying209 | exact Tryz.underlying234 | exact Tryz.underlying270 | exact Tryz.underlying281 | exact Tryz.underlying344) (by kernel_rfl) (by omega) hfr | exact q_loadar (n := 2) (by conv => lhs; whnf) (by conv => lhs; whnf) (by first | rfl | exact Nat.le_of_ble_eq_true rfl | exact Nat.succ_pos _ | decide) (by kernel_rfl) (fun _ => rfl) | exact q_loada (n := 2) (by conv => lhs; whnf) (by conv => lhs; whnf; arg 1; whnf) (by conv => lhs; whnf) (by first | rfl | exact Nat.le_of_ble_eq_true rfl | exact Nat.succ_pos _ | decide) (by show aggB Tryz.prog _ _ = true; decide +kernel) | exact q_call L1 (hcf := Tryz.call48) rfl rfl | exact a_q) | (apply st_rif rfl; (case hq => first | exact a_i); all_goals (intro _; try (exfalso; first | omega | contradiction))) | (apply st_rw rfl rfl; case hq => first | exact w_alloc (d := 22) 122 (by exact zFieldE) rfl rfl rfl | exact w_append (id := 119) (by conv => lhs; whnf) (by conv => lhs; whnf; arg 1; whnf) (by conv => lhs; whnf) (by first | exact Tryz.underlying22 | exact Tryz.underlying23 | exact Tryz.underlying43 | exact Tryz.underlying44 | exact Tryz.underlying51 | exact Tryz.underlying86 | exact Tryz.underlying191 | exact Tryz.underlying209 | exact Tryz.underlying234 | exact Tryz.underlying270 | exact Tryz.underlying281 | exact Tryz.underlying344) (by kernel_rfl) (by simp) rfl (by simp only [List.length_cons, List.length_nil]; omega) rfl rfl | exact a_store) | refine tri_true rfl ?_ | refine tri_false rfl ?_ | refine tri_block ?_ | refine tri_skip ?_ | refine tri_ret ?_ | refine tri_exit ?_)
              exact nextR (i + 1) (by omega) (weak_st ⟨rfl, rfl, rfl, rfl, rfl, congrArg AV.bool hnn, rfl, rfl, rfl, trivial⟩ ⟨rfl, rfl, rfl, congrArg (fun r => some (AObj.rows 75 2 r)) hap, trivial⟩) (show hd.length - (i + 1) < hd.length - i by omega)
      · have hii : hd.take i = hd := List.take_of_length_le (by omega)
        rw [hii]
        generalize headW (renHead b (noEnc hd)) = hw1 at H1 hhw ⊢
        repeat' (first | refine a_f ?_ | refine st_nil ?_ | refine tri_seq ?_ | refine tri_region rfl ?_ | refine a_draw ?_ | (apply st_r rfl; case hq => first | exact q_call H1 (hcf := Tryz.call70) rfl rfl | exact a_q) | (apply st_rif rfl; (case hq => first | exact a_i); all_goals (intro _; try (exfalso; first | omega | contradiction))) | (apply st_rw rfl rfl; case hq => first | exact w_alloc (d := 29) 129 (by first | exact zAt | exact zFault | exact zField | exact zParam | exact zLink | exact zPart | exact zReader) rfl rfl rfl | exact a_store) | refine tri_true rfl ?_ | refine tri_false rfl ?_ | refine tri_block ?_ | refine tri_skip ?_ | refine tri_ret ?_ | refine tri_exit ?_)
        refine tri_loop (fun (j : Nat) => j ≤ xs.length) (fun j => st [(18, .str b), (28, .str (hw1 ++ kidsW b (xs.take j))), (199, .sl 111), (200, .int .i64 (strRows xs).length), (201, .int .i64 j)] [(0, .box [.int .i64 (40 - (n : Int))]), (111, .rows 9 1 (strRows xs))]) (fun j => xs.length - j) 0 (Nat.zero_le _) ?hw8 (fun j hj => ?_)
        case hw8 => exact weak_st ⟨rfl, congrArg AV.str (by simp [kidsW]), rfl, rfl, rfl, trivial⟩ ⟨rfl, rfl, trivial⟩
        by_cases hjl : j < xs.length
        · obtain ⟨x, hx1, hxm', hxd, hxr⟩ := sr_at hjl
          have hx5 := hxm x hxm'
          have hkt := kidsW_take (b := b) hx1
          have hle := kidsW_take_le b xs j
          generalize kidsW b (xs.take j) = bt at hkt hle
          have hle2 : (hw1 ++ bt).length ≤ 600000000 := by rw [List.length_append]; omega
          obtain ⟨sb, hsb⟩ : ∃ sb, sb = hw1 ++ bt := ⟨_, rfl⟩
          rw [← hsb] at hle2
          change Tri _ _ (st [(18, .str b), (28, .str (hw1 ++ bt)), (199, .sl 111), (200, .int .i64 (strRows xs).length), (201, .int .i64 j)] [(0, .box [.int .i64 (40 - (n : Int))]), (111, .rows 9 1 (strRows xs))]) _
          rw [← hsb]
          repeat' (first | refine a_f ?_ | refine st_nil ?_ | refine tri_seq ?_ | refine tri_region rfl ?_ | refine a_draw ?_ | (apply st_r rfl; case hq => first | exact q_idxsl (by conv => lhs; whnf) (by conv => lhs; whnf; arg 1; whnf) (by conv => lhs; whnf) (by first | exact Tryz.underlying22 | exact Tryz.underlying23 | exact Tryz.underlying43 | exact Tryz.underlying44 | exact Tryz.underlying51 | exact Tryz.underlying86 | exact Tryz.underlying191 | exact Tryz.underlying209 | exact Tryz.underlying234 | exact Tryz.underlying270 | exact Tryz.underlying281 | exact Tryz.underlying344) (by kernel_rfl) (by omega) (by omega) | exact q_loade (by conv => lhs; whnf) (by conv => lhs; whnf; arg 1; whnf) hxr rfl (by show scalB Tryz.prog _ = true; decide +kernel) | exact q_adds (u := [45, 45]) rfl (by conv => lhs; whnf) (by first | omega | (simp only [List.length_append, List.length_cons, List.length_nil, List.length_take, List.length_drop]; omega)) | exact q_adds (v := [13, 10]) (by conv => lhs; whnf) rfl (by first | omega | (simp only [List.length_append, List.length_cons, List.length_nil, List.length_take, List.length_drop]; omega)) | exact q_adds (by conv => lhs; whnf) (by conv => lhs; whnf) (by first | omega | (simp only [List.length_append, List.length_cons, List.length_nil, List.length_take, List.length_drop]; omega)) | exact a_q) | (apply st_rif rfl; (case hq => first | exact a_i); all_goals (intro _; try (exfalso; first | omega | contradiction))) | (apply st_rw rfl rfl; case hq => first | exact a_store) | refine tri_true rfl ?_ | refine tri_false rfl ?_ | refine tri_block ?_ | refine tri_skip ?_ | refine tri_ret ?_ | refine tri_exit ?_)
          exact nextR (j + 1) (by omega) (weak_st ⟨rfl, congrArg AV.str (by rw [hkt, hsb]; simp), rfl, rfl, rfl, trivial⟩ ⟨rfl, rfl, trivial⟩) (show xs.length - (j + 1) < xs.length - j by omega)
        · have hjj : xs.take j = xs := List.take_of_length_le (by omega)
          rw [hjj]
          have hle2 : (hw1 ++ kidsW b xs).length ≤ 600000000 := by rw [List.length_append]; omega
          have hbw : hw1 ++ bodyW b xs = ((((hw1 ++ kidsW b xs) ++ [45, 45]) ++ b) ++ [45, 45]) ++ [13, 10] := by simp [bodyW]
          rw [hbw]
          generalize hw1 ++ kidsW b xs = sb at hle2 ⊢
          repeat' (first | refine a_f ?_ | refine st_nil ?_ | refine tri_seq ?_ | refine tri_region rfl ?_ | refine a_draw ?_ | (apply st_r rfl; case hq => first | exact q_adds (v := [45, 45]) (by conv => lhs; whnf) rfl (by first | omega | (simp only [List.length_append, List.length_cons, List.length_nil, List.length_take, List.length_drop]; omega)) | exact q_adds (v := [13, 10]) (by conv => lhs; whnf) rfl (by first | omega | (simp only [List.length_append, List.length_cons, List.length_nil, List.length_take, List.length_drop]; omega)) | exact q_adds (by conv => lhs; whnf) (by conv => lhs; whnf) (by first | omega | (simp only [List.length_append, List.length_cons, List.length_nil, List.length_take, List.length_drop]; omega)) | exact a_q) | (apply st_rif rfl; (case hq => first | exact a_i); all_goals (intro _; try (exfalso; first | omega | contradiction))) | (apply st_rw rfl rfl; case hq => first | exact a_store) | refine tri_true rfl ?_ | refine tri_false rfl ?_ | refine tri_block ?_ | refine tri_skip ?_ | refine tri_ret ?_ | refine tri_exit ?_)
          exact ⟨trivial, by (conv => lhs; whnf); rfl, rfl⟩
end
end Go.Proofs.YtignjjnflcpiiaaGreatDoor
