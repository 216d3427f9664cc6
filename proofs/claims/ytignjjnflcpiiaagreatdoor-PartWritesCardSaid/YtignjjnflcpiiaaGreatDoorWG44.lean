import Derived.Test.YtignjjnflcpiiaaGreatDoorWG42
import Derived.Test.YtignjjnflcpiiaaGreatDoorWWrtK
set_option linter.unusedVariables false
set_option linter.unusedSimpArgs false
set_option maxHeartbeats 1000000
namespace Go.Proofs.YtignjjnflcpiiaaGreatDoor
open Go.RowKit
attribute [local irreducible] Tri Steps Qd Wr Weak CPure CEff
set_option maxRecDepth 100000
set_option linter.unusedSectionVars false
section
variable {hd : Fs} {bd : B} {m : Bool} {ps : List PT}
variable {d left : Nat} (hd4 : d + 1 ≤ 4) (hl : left + 1 ≤ 40) (hf : Fit (.mk hd bd m ps))
include hd4 hl hf
variable (hr : rightB hd = true)
include hr
set_option maxHeartbeats 16000000 in
theorem pw_leaf (h : bndF hd = some none) (hm : m = false) (hp : ps = []) : ∀ dep : Int, dep = 5 - ((d + 1 : Nat) : Int) → CEff gxp 34 (.box [.int .i64 ((left + 1 : Nat) : Int)]) [.ptr 0 0, .agg [.ro false 2 (fieldRows hd), .str bd, .bool m, .pts false ps], .int .i64 dep] (some (.box [.int .i64 (left : Int)])) (wAV (.ok (headW (noEnc hd ++ [(ceN, (shortF bd).1)]) ++ (shortF bd).2, left))) := by
  intro dep hdep
  refine ceff_ofb Tryz.func34 rfl (Nat.le_of_ble_eq_true rfl) (fun w γ hw hM => ?_)
  subst hm hp
  obtain ⟨hht, hsm, hbl, _⟩ := hf.head
  have R1 : CPure gxp 74 [.ro false 2 (fieldRows hd)] (.bool true) := by
    have := (right_c hd hsm).q
    rw [hr] at this
    exact this
  have B1 : CPure gxp 75 [.ro false 2 (fieldRows hd)] (.tup [.str [], .bool false, .nili]) := by
    have := (boundary_c hd hsm).p
    rw [h] at this
    exact this
  have N1 := (clone_c hd hsm.len).q
  have M1 := (delete_m hd hsm).p
  have S1 := (shortest_c bd (by omega)).q
  obtain ⟨hs2, hs1⟩ := short_len bd
  have hsv := short_value bd
  have hnt := noEnc_tot hd
  have hrn := right_noEnc hr
  have hnl := htot_len (noEnc hd)
  have hnf := fr_len (noEnc hd)
  clear hr h
  generalize noEnc hd = nl at M1 hnt hrn hnl hnf ⊢
  generalize (shortF bd).1 = how at S1 hs1 hsv ⊢
  generalize (shortF bd).2 = body at S1 hs2 ⊢
  have htl : htot (nl ++ [(ceN, how)]) ≤ 100100 := by
    rw [htot_app, htot_cons, show htot [] = 0 from rfl, show (ceN, how).1.length = 25 from rfl]
    simp only
    omega
  have hwl := writeAll_len (nl ++ [(ceN, how)])
  have hhw : (headW (nl ++ [(ceN, how)])).length ≤ 500000 := by
    unfold headW
    rw [List.length_append]
    simp only [List.length_cons, List.length_nil]
    omega
  have hright : rightB (nl ++ [(ceN, how)]) = true := by
    unfold rightB at hrn ⊢
    rw [List.all_append, hrn]
    simp only [List.all_cons, List.all_nil, Bool.and_true, Bool.true_and]
    show (nameB ceN && valueB how) = true
    rw [nameB_ce, hsv]; rfl
  have H1 : CPure gxp 82 [.ro false 2 (fieldRows (nl ++ [(ceN, how)]))] (.tup [.str (headW (nl ++ [(ceN, how)])), .nili]) := by
    have := (write_c (nl ++ [(ceN, how)]) (htot_small (by omega))).q
    rw [writeH_ok hright] at this
    exact this
  rw [← fr_app nl ceN how] at H1
  clear hright hrn hsv htl hwl
  generalize headW (nl ++ [(ceN, how)]) = hw1 at H1 hhw ⊢
  repeat' (first | refine a_f ?_ | refine st_nil ?_ | refine tri_seq ?_ | refine tri_region rfl ?_ | refine a_draw ?_ | (apply st_r rfl; case hq => first | exact q_call R1 (hcf := Tryz.call74) rfl rfl | exact q_call B1 (hcf := Tryz.call75) rfl rfl | exact q_nenil (by rfl) Tryz.underlying32 | exact q_nebL (by conv => lhs; whnf) (by conv => lhs; whnf) (by rfl) (by kernel_rfl) | exact q_lenpts (fr := false) (l := []) (by rfl) Tryz.underlying23 | exact q_call S1 (hcf := Tryz.call79) rfl rfl | exact q_call H1 (hcf := Tryz.call82) rfl rfl | exact q_idxg (sz := 1) (by conv => lhs; whnf) (by conv => lhs; whnf) Tryz.underlying109 (by kernel_rfl) (by omega) (by omega) | exact q_loadg (by rfl) ours1p (fun _ _ _ _ => .str _ _) (by show scalB Tryz.prog _ = true; decide +kernel) | exact a_q) | (apply st_rif rfl; (case hq => first | exact a_i); all_goals (intro _; try (exfalso; first | omega | contradiction))) | (apply st_rw rfl rfl; case hq => first | exact w_box (d := 4) 104 (by conv => lhs; whnf) rfl (by conv => lhs; whnf) rfl rfl rfl | exact w_newr 111 N1 Tryz.call77 rfl rfl rfl | exact w_mod (id := 111) M1 Tryz.call76 (by rfl) (by rfl) rfl rfl | exact w_append (id := 111) (by conv => lhs; whnf) (by conv => lhs; whnf; arg 1; whnf) (by conv => lhs; whnf) (by first | exact Tryz.underlying22 | exact Tryz.underlying23 | exact Tryz.underlying43 | exact Tryz.underlying44 | exact Tryz.underlying51 | exact Tryz.underlying86 | exact Tryz.underlying191 | exact Tryz.underlying209 | exact Tryz.underlying234 | exact Tryz.underlying270 | exact Tryz.underlying281 | exact Tryz.underlying344) (by kernel_rfl) (by simp) rfl (by simp only [List.length_cons, List.length_nil]; omega) rfl rfl | exact a_store) | refine tri_true rfl ?_ | refine tri_false rfl ?_ | refine tri_block ?_ | refine tri_skip ?_ | refine tri_ret ?_ | refine tri_exit ?_)
  exact ⟨trivial, by (conv => lhs; whnf); rfl, congrArg (fun z => some (AObj.box [AV.int .i64 z])) (by omega)⟩
end
end Go.Proofs.YtignjjnflcpiiaaGreatDoor
namespace Go.Proofs.YtignjjnflcpiiaaGreatDoor
open Go.RowKit
attribute [local irreducible] Tri Steps Qd Wr Weak CPure CEff
set_option maxRecDepth 100000
set_option linter.unusedSectionVars false
section
variable {hd : Fs} {bd : B} {m : Bool} {ps : List PT}
variable {d left : Nat} (hd4 : d + 1 ≤ 4) (hl : left + 1 ≤ 40) (hf : Fit (.mk hd bd m ps)) (hr : rightB hd = true)
include hd4 hl hf hr
set_option maxHeartbeats 32000000 in
theorem rw_leaf (h : bndF hd = some none) (hm : m = false) (hp : ps = []) : ∀ ab : Int, ab = 4 - ((d + 1 : Nat) : Int) → CEff gxp 33 (.box [.int .i64 (40 - ((left + 1 : Nat) : Int))]) [.agg [.ro false 2 (fieldRows hd), .str bd, .bool m, .pts false ps], .int .i64 ab, .ptr 0 0] (some (.box [.int .i64 (40 - (left : Int))])) (rwAV (.ok (headW (noEnc hd ++ [(ceN, (shortF bd).1)]) ++ (shortF bd).2, left))) := by
  intro ab hab
  refine ceff_ofb Tryz.func33 rfl (Nat.le_of_ble_eq_true rfl) (fun w γ hw hM => ?_)
  subst hm hp
  obtain ⟨hht, hsm, hbl, _⟩ := hf.head
  have R1 : CPure gxp 67 [.ro false 2 (fieldRows hd)] (.bool true) := by
    have := (rhead_c hd hsm).q
    rw [hr] at this
    exact this
  have B1 : CPure gxp 66 [.ro false 2 (fieldRows hd)] (.tup [.str [], .bool false, .int .i64 0]) := by
    have := (manies_c hd hsm).q
    rw [h] at this
    exact this
  have I0 := itoa_c 0 (by decide)
  have hd0 := dec_lenP 0 (by decide)
  have AS := (asIs_c bd (by omega)).q
  have Q1 := (rquote_c bd (by omega)).q
  have K1 := (refPack_c bd (by omega)).q
  obtain ⟨hq1, hk1⟩ := short_big bd (by omega)
  have hsv := short_value bd
  obtain ⟨hs2, hs1⟩ := short_len bd
  have hnt := noEnc_tot hd
  have hrn := right_noEnc hr
  have hhl := hsm.len
  have hfl := fr_len hd
  have hwr : ∀ how, how.length ≤ 16 → valueB how = true → CPure gxp 70 [.ro false 2 (fieldRows (noEnc hd) ++ [[.str ceN, .str how]])] (.tup [.str (headW (noEnc hd ++ [(ceN, how)])), .agg [.int .i64 0, .int .i64 (-1)]]) ∧ (headW (noEnc hd ++ [(ceN, how)])).length ≤ 500000 := fun how hh hv => by
    have htl : htot (noEnc hd ++ [(ceN, how)]) ≤ 100100 := by
      rw [htot_app, htot_cons, show htot [] = 0 from rfl, show (ceN, how).1.length = 25 from rfl]
      simp only
      omega
    have hwl := writeAll_len (noEnc hd ++ [(ceN, how)])
    have hright : rightB (noEnc hd ++ [(ceN, how)]) = true := by
      unfold rightB at hrn ⊢
      rw [List.all_append, hrn]
      simp only [List.all_cons, List.all_nil, Bool.and_true, Bool.true_and]
      show (nameB ceN && valueB how) = true
      rw [nameB_ce, hv]; rfl
    refine ⟨?_, ?_⟩
    · have := (rwrite_c (noEnc hd ++ [(ceN, how)]) (htot_small (by omega))).q
      rw [writeH_ok hright] at this
      rw [fr_app (noEnc hd) ceN how]
      exact this
    · unfold headW
      rw [List.length_append]
      simp only [List.length_cons, List.length_nil]
      omega
  clear hr h hf
  repeat' (first | refine a_f ?_ | refine st_nil ?_ | refine tri_seq ?_ | refine tri_region rfl ?_ | refine a_draw ?_ | (apply st_r rfl; case hq => first | exact q_call R1 (hcf := Tryz.call67) rfl rfl | exact q_call B1 (hcf := Tryz.call66) rfl rfl | exact q_nebL (by conv => lhs; whnf) (by conv => lhs; whnf) (by rfl) (by kernel_rfl) | exact q_lenpts (fr := false) (l := []) (by rfl) Tryz.underlying23 | exact a_q) | (apply st_rif rfl; (case hq => first | exact a_i); all_goals (intro _; try (exfalso; first | omega | contradiction))) | (apply st_rw rfl rfl; case hq => first | exact w_box (d := 3) 103 (by conv => lhs; whnf) rfl (by conv => lhs; whnf) rfl rfl rfl | exact a_store) | refine tri_true rfl ?_ | refine tri_false rfl ?_ | refine tri_block ?_ | refine tri_skip ?_ | refine tri_ret ?_ | refine tri_exit ?_)
  refine tri_loop (fun (_ : Unit) => True) (fun _ => st [(2, .ptr 0 0), (3, .ptr 103 0), (9, .bool false), (11, .nils), (91, .int .i64 0), (92, .int .i64 0)] [(0, .box [.int .i64 (40 - (left : Int))]), (103, .box [.ro false 2 (fieldRows hd), .str bd, .bool false, .pts false []])]) (fun _ => 0) () trivial ?hw (fun _ _ => ?_)
  case hw => exact weak_st ⟨rfl, rfl, rfl, rfl, rfl, rfl, trivial⟩ ⟨congrArg (fun z => some (AObj.box [AV.int .i64 z])) (by show _ = 40 - (left : Int); omega), rfl, trivial⟩
  repeat' (first | refine a_f ?_ | refine st_nil ?_ | refine tri_seq ?_ | refine tri_region rfl ?_ | refine a_draw ?_ | (apply st_r rfl; case hq => first | exact a_q) | (apply st_rif rfl; (case hq => first | exact a_i); all_goals (intro _; try (exfalso; first | omega | contradiction))) | (apply st_rw rfl rfl; case hq => first | exact a_store) | refine tri_true rfl ?_ | refine tri_false rfl ?_ | refine tri_block ?_ | refine tri_skip ?_ | refine tri_ret ?_ | refine tri_exit ?_)
  refine tri_loop (fun (_ : Unit) => True) (fun _ => st [(3, .ptr 103 0), (9, .bool false), (11, .nils), (16, .int .i64 0), (17, .int .i64 0)] [(0, .box [.int .i64 (40 - (left : Int))]), (103, .box [.ro false 2 (fieldRows hd), .str bd, .bool false, .pts false []])]) (fun _ => 0) () trivial ?hw2 (fun _ _ => ?_)
  case hw2 => exact weak_st ⟨rfl, rfl, rfl, rfl, rfl, trivial⟩ ⟨rfl, rfl, trivial⟩
  repeat' (first | refine a_f ?_ | refine st_nil ?_ | refine tri_seq ?_ | refine tri_region rfl ?_ | refine a_draw ?_ | (apply st_r rfl; case hq => first | exact q_lennil (by rfl) (by first | exact Tryz.underlying22 | exact Tryz.underlying23 | exact Tryz.underlying43 | exact Tryz.underlying44 | exact Tryz.underlying51 | exact Tryz.underlying86 | exact Tryz.underlying191 | exact Tryz.underlying209 | exact Tryz.underlying234 | exact Tryz.underlying270 | exact Tryz.underlying281 | exact Tryz.underlying344) | exact q_call I0 (hcf := Tryz.call68) rfl rfl | exact q_adds (u := [98]) rfl (by conv => lhs; whnf) (by first | omega | (simp only [List.length_append, List.length_cons, List.length_nil, List.length_take, List.length_drop]; omega)) | exact a_q) | (apply st_rif rfl; (case hq => first | exact a_i); all_goals (intro _; try (exfalso; first | omega | contradiction))) | (apply st_rw rfl rfl; case hq => first | exact a_store) | refine tri_true rfl ?_ | refine tri_false rfl ?_ | refine tri_block ?_ | refine tri_skip ?_ | refine tri_ret ?_ | refine tri_exit ?_)
  refine tri_loop (fun (i : Nat) => i ≤ hd.length) (fun i => st [(3, .ptr 103 0), (9, .bool false), (19, .sl 119), (20, .bool false), (132, .ro false 2 (fieldRows hd)), (133, .int .i64 (fieldRows hd).length), (134, .int .i64 i)] [(0, .box [.int .i64 (40 - (left : Int))]), (103, .box [.ro false 2 (fieldRows hd), .str bd, .bool false, .pts false []]), (119, .rows 75 2 (fieldRows (noEnc (hd.take i))))]) (fun i => hd.length - i) 0 (Nat.zero_le _) ?hw3 (fun i hi => ?_)
  case hw3 => exact (weak_nil 19 119 75 2 rfl (by decide) rfl rfl).trans (weak_st ⟨rfl, rfl, rfl, rfl, rfl, rfl, rfl, trivial⟩ ⟨rfl, rfl, rfl, trivial⟩)
  have hnl := noEnc_len (hd.take i)
  have hfn := fr_len (noEnc (hd.take i))
  rw [List.length_take] at hnl
  by_cases hil : i < hd.length
  · obtain ⟨f, hf1, hfm, hfd, hfr⟩ := fr_at hil
    have L1 := (low_c f.1 (by have := (hsm.one f hfm).1; omega)).q
    have hnk := noEnc_take hf1
    by_cases hc : lowB f.1 = ceB
    · rw [if_pos (decide_eq_true hc), List.append_nil] at hnk
      have hc' : lowB f.1 = [99, 111, 110, 116, 101, 110, 116, 45, 116, 114, 97, 110, 115, 102, 101, 114, 45, 101, 110, 99, 111, 100, 105, 110, 103] := hc
      rw [hc'] at L1
      repeat' (first | refine a_f ?_ | refine st_nil ?_ | refine tri_seq ?_ | refine tri_region rfl ?_ | refine a_draw ?_ | (apply st_r rfl; case hq => first | exact q_idxro (by conv => lhs; whnf) (by conv => lhs; whnf) (by first | exact Tryz.underlying22 | exact Tryz.underlying23 | exact Tryz.underlying43 | exact Tryz.underlying44 | exact Tryz.underlying51 | exact Tryz.underlying86 | exact Tryz.underlying191 | exact Tryz.underlying209 | exact Tryz.underlying234 | exact Tryz.underlying270 | exact Tryz.underlying281 | exact Tryz.underlying344) (by kernel_rfl) (by omega) hfr | exact q_loadar (n := 2) (by conv => lhs; whnf) (by conv => lhs; whnf) (by first | rfl | exact Nat.le_of_ble_eq_true rfl | exact Nat.succ_pos _ | decide) (by kernel_rfl) (fun _ => rfl) | exact q_call L1 (hcf := Tryz.call48) rfl rfl | exact a_q) | (apply st_rif rfl; (case hq => first | exact a_i); all_goals (intro _; try (exfalso; first | omega | contradiction))) | (apply st_rw rfl rfl; case hq => first | exact w_alloc (d := 22) 122 (by exact zFieldE) rfl rfl rfl | exact a_store) | refine tri_true rfl ?_ | refine tri_false rfl ?_ | refine tri_block ?_ | refine tri_skip ?_ | refine tri_ret ?_ | refine tri_exit ?_)
      exact nextR (i + 1) (by omega) (weak_st ⟨rfl, rfl, rfl, rfl, rfl, rfl, rfl, trivial⟩ ⟨rfl, rfl, congrArg (fun r => some (AObj.rows 75 2 (fieldRows r))) hnk.symm, trivial⟩) (show hd.length - (i + 1) < hd.length - i by omega)
    · rw [if_neg (by rw [encP, decide_eq_false hc]; simp)] at hnk
      have hc' : lowB f.1 ≠ [99, 111, 110, 116, 101, 110, 116, 45, 116, 114, 97, 110, 115, 102, 101, 114, 45, 101, 110, 99, 111, 100, 105, 110, 103] := hc
      generalize lowB f.1 = lf at L1 hc'
      have hap : fieldRows (noEnc (hd.take i)) ++ [[.str f.1, .str f.2]] = fieldRows (noEnc (hd.take (i + 1))) := by rw [hnk]; exact fr_app _ f.1 f.2
      repeat' (first | refine a_f ?_ | refine st_nil ?_ | refine tri_seq ?_ | refine tri_region rfl ?_ | refine a_draw ?_ | (apply st_r rfl; case hq => first | exact q_idxro (by conv => lhs; whnf) (by conv => lhs; whnf) (by first | exact Tryz.underlying22 | exact Tryz.underlying23 | exact Tryz.underlying43 | exact Tryz.underlying44 | exact Tryz.underlying51 | exact Tryz.underlying86 | exact Tryz.underlying191 | exact Tryz.underlying209 | exact Tryz.underlying234 | exact Tryz.underlying270 | exact Tryz.underlying281 | exact Tryz.underlying344) (by kernel_rfl) (by omega) hfr | exact q_loadar (n := 2) (by conv => lhs; whnf) (by conv => lhs; whnf) (by first | rfl | exact Nat.le_of_ble_eq_true rfl | exact Nat.succ_pos _ | decide) (by kernel_rfl) (fun _ => rfl) | exact q_loada (n := 2) (by conv => lhs; whnf) (by conv => lhs; whnf; arg 1; whnf) (by conv => lhs; whnf) (by first | rfl | exact Nat.le_of_ble_eq_true rfl | exact Nat.succ_pos _ | decide) (by show aggB Tryz.prog _ _ = true; decide +kernel) | exact q_call L1 (hcf := Tryz.call48) rfl rfl | exact a_q) | (apply st_rif rfl; (case hq => first | exact a_i); all_goals (intro _; try (exfalso; first | omega | contradiction))) | (apply st_rw rfl rfl; case hq => first | exact w_alloc (d := 22) 122 (by exact zFieldE) rfl rfl rfl | exact w_append (id := 119) (by conv => lhs; whnf) (by conv => lhs; whnf; arg 1; whnf) (by conv => lhs; whnf) (by first | exact Tryz.underlying22 | exact Tryz.underlying23 | exact Tryz.underlying43 | exact Tryz.underlying44 | exact Tryz.underlying51 | exact Tryz.underlying86 | exact Tryz.underlying191 | exact Tryz.underlying209 | exact Tryz.underlying234 | exact Tryz.underlying270 | exact Tryz.underlying281 | exact Tryz.underlying344) (by kernel_rfl) (by simp) rfl (by simp only [List.length_cons, List.length_nil]; omega) rfl rfl | exact a_store) | refine tri_true rfl ?_ | refine tri_false rfl ?_ | refine tri_block ?_ | refine tri_skip ?_ | refine tri_ret ?_ | refine tri_exit ?_)
      exact nextR (i + 1) (by omega) (weak_st ⟨rfl, rfl, rfl, rfl, rfl, rfl, rfl, trivial⟩ ⟨rfl, rfl, congrArg (fun r => some (AObj.rows 75 2 r)) hap, trivial⟩) (show hd.length - (i + 1) < hd.length - i by omega)
  · have hii : hd.take i = hd := List.take_of_length_le (by omega)
    rw [hii]
    rw [hii] at hfn
    have hn2 := noEnc_len hd
    clear hnl
    obtain ⟨W7, hw7⟩ := hwr b7 (by decide) (by decide)
    obtain ⟨W6, hw6⟩ := hwr b64 (by decide) (by decide)
    obtain ⟨WQ, hwQ⟩ := hwr bQP (by decide) (by decide)
    clear hwr hsv hs1 hs2 hrn
    unfold shortF
    generalize quote bd = q at Q1 hq1 ⊢
    generalize pack bd = pk at K1 hk1 ⊢
    cases ha : asIs bd with
    | true =>
      rw [ha] at AS
      simp only
      generalize headW (noEnc hd ++ [(ceN, b7)]) = hw1 at W7 hw7 ⊢
      have H1 := W7
      clear W6 WQ hw6 hwQ
      repeat' (first | refine a_f ?_ | refine st_nil ?_ | refine tri_seq ?_ | refine tri_region rfl ?_ | refine a_draw ?_ | (apply st_r rfl; case hq => first | exact q_call L1 (hcf := Tryz.call48) rfl rfl | exact q_call AS (hcf := Tryz.call71) rfl rfl | exact q_call Q1 (hcf := Tryz.call72) rfl rfl | exact q_call K1 (hcf := Tryz.call73) rfl rfl | exact q_call H1 (hcf := Tryz.call70) rfl rfl | exact q_build2 zFieldE rfl (by kernel_rfl) rfl (by conv => lhs; whnf) rfl rfl (by conv => lhs; whnf) | exact a_q) | (apply st_rif rfl; (case hq => first | exact a_i); all_goals (intro _; try (exfalso; first | omega | contradiction))) | (apply st_rw rfl rfl; case hq => first | exact w_append (id := 119) (by conv => lhs; whnf) (by conv => lhs; whnf; arg 1; whnf) (by conv => lhs; whnf) (by first | exact Tryz.underlying22 | exact Tryz.underlying23 | exact Tryz.underlying43 | exact Tryz.underlying44 | exact Tryz.underlying51 | exact Tryz.underlying86 | exact Tryz.underlying191 | exact Tryz.underlying209 | exact Tryz.underlying234 | exact Tryz.underlying270 | exact Tryz.underlying281 | exact Tryz.underlying344) (by kernel_rfl) (by simp) rfl (by simp only [List.length_cons, List.length_nil]; omega) rfl rfl | exact w_alloc (d := 36) 136 (by first | exact zAt | exact zFault | exact zField | exact zParam | exact zLink | exact zPart | exact zReader) rfl rfl rfl | exact a_store) | refine tri_true rfl ?_ | refine tri_false rfl ?_ | refine tri_block ?_ | refine tri_skip ?_ | refine tri_ret ?_ | refine tri_exit ?_)
      exact ⟨trivial, by (conv => lhs; whnf); rfl, rfl⟩
    | false =>
      rw [ha] at AS
      simp only
      by_cases hqp : q.length ≤ pk.length
      · simp only [if_pos hqp]
        generalize headW (noEnc hd ++ [(ceN, bQP)]) = hw1 at WQ hwQ ⊢
        have H1 := WQ
        clear W6 W7 hw6 hw7
        repeat' (first | refine a_f ?_ | refine st_nil ?_ | refine tri_seq ?_ | refine tri_region rfl ?_ | refine a_draw ?_ | (apply st_r rfl; case hq => first | exact q_call L1 (hcf := Tryz.call48) rfl rfl | exact q_call AS (hcf := Tryz.call71) rfl rfl | exact q_call Q1 (hcf := Tryz.call72) rfl rfl | exact q_call K1 (hcf := Tryz.call73) rfl rfl | exact q_call H1 (hcf := Tryz.call70) rfl rfl | exact q_build2 zFieldE rfl (by kernel_rfl) rfl (by conv => lhs; whnf) rfl rfl (by conv => lhs; whnf) | exact a_q) | (apply st_rif rfl; (case hq => first | exact a_i); all_goals (intro _; try (exfalso; first | omega | contradiction))) | (apply st_rw rfl rfl; case hq => first | exact w_append (id := 119) (by conv => lhs; whnf) (by conv => lhs; whnf; arg 1; whnf) (by conv => lhs; whnf) (by first | exact Tryz.underlying22 | exact Tryz.underlying23 | exact Tryz.underlying43 | exact Tryz.underlying44 | exact Tryz.underlying51 | exact Tryz.underlying86 | exact Tryz.underlying191 | exact Tryz.underlying209 | exact Tryz.underlying234 | exact Tryz.underlying270 | exact Tryz.underlying281 | exact Tryz.underlying344) (by kernel_rfl) (by simp) rfl (by simp only [List.length_cons, List.length_nil]; omega) rfl rfl | exact w_alloc (d := 36) 136 (by first | exact zAt | exact zFault | exact zField | exact zParam | exact zLink | exact zPart | exact zReader) rfl rfl rfl | exact a_store) | refine tri_true rfl ?_ | refine tri_false rfl ?_ | refine tri_block ?_ | refine tri_skip ?_ | refine tri_ret ?_ | refine tri_exit ?_)
        exact ⟨trivial, by (conv => lhs; whnf); rfl, rfl⟩
      · simp only [if_neg hqp]
        generalize headW (noEnc hd ++ [(ceN, b64)]) = hw1 at W6 hw6 ⊢
        have H1 := W6
        clear WQ W7 hwQ hw7
        repeat' (first | refine a_f ?_ | refine st_nil ?_ | refine tri_seq ?_ | refine tri_region rfl ?_ | refine a_draw ?_ | (apply st_r rfl; case hq => first | exact q_call L1 (hcf := Tryz.call48) rfl rfl | exact q_call AS (hcf := Tryz.call71) rfl rfl | exact q_call Q1 (hcf := Tryz.call72) rfl rfl | exact q_call K1 (hcf := Tryz.call73) rfl rfl | exact q_call H1 (hcf := Tryz.call70) rfl rfl | exact q_build2 zFieldE rfl (by kernel_rfl) rfl (by conv => lhs; whnf) rfl rfl (by conv => lhs; whnf) | exact a_q) | (apply st_rif rfl; (case hq => first | exact a_i); all_goals (intro _; try (exfalso; first | omega | contradiction))) | (apply st_rw rfl rfl; case hq => first | exact w_append (id := 119) (by conv => lhs; whnf) (by conv => lhs; whnf; arg 1; whnf) (by conv => lhs; whnf) (by first | exact Tryz.underlying22 | exact Tryz.underlying23 | exact Tryz.underlying43 | exact Tryz.underlying44 | exact Tryz.underlying51 | exact Tryz.underlying86 | exact Tryz.underlying191 | exact Tryz.underlying209 | exact Tryz.underlying234 | exact Tryz.underlying270 | exact Tryz.underlying281 | exact Tryz.underlying344) (by kernel_rfl) (by simp) rfl (by simp only [List.length_cons, List.length_nil]; omega) rfl rfl | exact w_alloc (d := 36) 136 (by first | exact zAt | exact zFault | exact zField | exact zParam | exact zLink | exact zPart | exact zReader) rfl rfl rfl | exact a_store) | refine tri_true rfl ?_ | refine tri_false rfl ?_ | refine tri_block ?_ | refine tri_skip ?_ | refine tri_ret ?_ | refine tri_exit ?_)
        exact ⟨trivial, by (conv => lhs; whnf); rfl, rfl⟩
end
end Go.Proofs.YtignjjnflcpiiaaGreatDoor
