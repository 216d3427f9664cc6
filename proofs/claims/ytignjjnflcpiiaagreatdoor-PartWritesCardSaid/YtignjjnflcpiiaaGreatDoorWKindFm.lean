import Derived.Test.YtignjjnflcpiiaaGreatDoorWKindF
import Derived.Test.YtignjjnflcpiiaaGreatDoorWVm5
set_option linter.unusedVariables false
set_option linter.unusedSimpArgs false
set_option maxHeartbeats 1000000
namespace Go.Proofs.YtignjjnflcpiiaaGreatDoor
open Go.RowKit
attribute [local irreducible] Tri Steps Qd Wr Weak CPure CEff CutN
set_option maxRecDepth 100000
set_option maxHeartbeats 8000000 in
theorem rkread_m (s : B) (hs : s.length ≤ 1000000) {m' : B} {l' : Fs} (hkk : readK tokC blk lowC s = some (m', l')) : CMake gx 69 [.str s] 53 2 (fieldRows l') [.str m'] [.int .i64 0] := by
  refine cmake_of Tryz.func69 rfl (Nat.le_of_ble_eq_true rfl) rfl (Nat.le_of_ble_eq_true rfl) rfl rfl (fun w hw => ?_)
  have I1 := index_c s [59] (by omega)
  rw [index59] at I1
  have htl : (s.takeWhile (· != 59)).length ≤ s.length := (List.takeWhile_sublist _).length_le
  have hts := take_span (· != 59) s
  have M1 : CPure gx 125 [.str (s.takeWhile (· != 59))] (.str (trimB (s.takeWhile (· != 59)))) := rtrim_c _ (by omega)
  have hml : (trimB (s.takeWhile (· != 59))).length ≤ s.length := Nat.le_trans (trimB_len _) htl
  have M2 : CPure gx 48 [.str (trimB (s.takeWhile (· != 59)))] (.str (mainOf lowC s)) := low_c _ (by omega)
  have hm2 : (mainOf lowC s).length ≤ s.length := by unfold mainOf; rw [List.length_map]; exact hml
  have K1 := isMain_c (mainOf lowC s) (by omega)
  have hrl := restOf_len s
  have hrd : s.drop (s.takeWhile (· != 59)).length = restOf s := hts.2
  have hrt := hts.1
  have hrk : readK tokC blk lowC s = if mainOk tokC (mainOf lowC s) = true then (match parsGo tokC blk lowC [] (restOf s) with | none => none | some l => some (mainOf lowC s, l)) else none := rfl
  have hI0 : RInv s ([], restOf s, true) := ⟨rfl, by simpa using hrl, fun _ => restOf_ends s⟩
  have h59 := @tw_all59 s
  clear hts
  generalize trimB (s.takeWhile (· != 59)) = m0 at M1 M2
  generalize s.takeWhile (· != 59) = m1 at I1 M1 htl hrd hrt h59
  obtain ⟨r0, hr0⟩ : ∃ r0, r0 = restOf s := ⟨_, rfl⟩
  rw [← hr0] at hrd hI0 h59 hrl hrk
  generalize mainOf lowC s = m at *
  have e0 : s.drop s.length = [] := by simp
  have e1 : s.take ((s.length : Int)).toNat = s := by simp
  have e2 : s.take ((m1.length : Int)).toNat = m1 := by rw [Int.toNat_natCast]; exact hrt
  refine tri_cutN (fun (k : Nat) => mainOk tokC m = true ∧ k ≤ s.length ∧ s.drop k = r0) (fun k => st [(0, .str s), (2, .str []), (3, .nils), (4, .int .i64 0), (5, .int .i64 k), (6, .str m)] []) 5 ?_ (fun k hk => ?_)
  · have hbad : mainOk tokC m = false → False := fun h => by rw [hrk, h] at hkk; cases hkk
    clear hrk hI0
    cases ha : s.any (· == 59) <;> rw [ha] at I1 <;> cases hmo : mainOk tokC m <;> rw [hmo] at K1
    case true.false | true.true =>
      rw [if_pos rfl] at I1
      have M1' : CPure gx 125 [.str (s.take ((m1.length : Int)).toNat)] (.str m0) := by rw [e2]; exact M1
      repeat' (first | refine a_f ?_ | refine st_nil ?_ | refine tri_seq ?_ | refine tri_region rfl ?_ | refine cut_s ?_ | refine a_draw ?_ | (apply st_r rfl; case hq => first | exact q_call I1 (hcf := Tryz.call95) rfl rfl | exact q_call M1' (hcf := Tryz.call125) rfl rfl | exact q_call M2 (hcf := Tryz.call48) rfl rfl | exact q_call K1 (hcf := Tryz.call47) rfl rfl | exact a_q) | (apply st_rif rfl; (case hq => first | exact a_i); all_goals (intro _; try (exfalso; first | omega | contradiction))) | (apply st_rw rfl rfl; case hq => first | exact a_store) | refine tri_true rfl ?_ | refine tri_false rfl ?_ | refine tri_block ?_ | refine tri_skip ?_ | refine tri_ret ?_ | refine tri_exit ?_)
      all_goals first
        | exact cut_z m1.length ⟨rfl, htl, hrd⟩ (weak_st ⟨rfl, rfl, rfl, rfl, rfl, rfl, trivial⟩ trivial)
        | exact (hbad hmo).elim
    case false.false | false.true =>
      have I1' : CPure gx 95 [.str s, .str [59]] (.int .i64 (-1)) := I1
      have M1' : CPure gx 125 [.str (s.take ((s.length : Int)).toNat)] (.str m0) := by rw [e1, ← (h59 ha).1]; exact M1
      repeat' (first | refine a_f ?_ | refine st_nil ?_ | refine tri_seq ?_ | refine tri_region rfl ?_ | refine cut_s ?_ | refine a_draw ?_ | (apply st_r rfl; case hq => first | exact q_call I1' (hcf := Tryz.call95) rfl rfl | exact q_call M1' (hcf := Tryz.call125) rfl rfl | exact q_call M2 (hcf := Tryz.call48) rfl rfl | exact q_call K1 (hcf := Tryz.call47) rfl rfl | exact a_q) | (apply st_rif rfl; (case hq => first | exact a_i); all_goals (intro _; try (exfalso; first | omega | contradiction))) | (apply st_rw rfl rfl; case hq => first | exact a_store) | refine tri_true rfl ?_ | refine tri_false rfl ?_ | refine tri_block ?_ | refine tri_skip ?_ | refine tri_ret ?_ | refine tri_exit ?_)
      all_goals first
        | exact cut_z s.length ⟨rfl, Nat.le_refl _, by rw [e0, (h59 ha).2]⟩ (weak_st ⟨rfl, rfl, rfl, rfl, rfl, rfl, trivial⟩ trivial)
        | exact (hbad hmo).elim
  obtain ⟨hmo, hkl, hkd⟩ := hk
  rw [hmo, if_pos rfl] at hrk
  rw [hrk] at hkk
  clear hrk hmo K1 I1 M1 M2 h59 hrd hrt e0 e1 e2
  have hkd' : s.drop ((k : Int)).toNat = r0 := by rw [Int.toNat_natCast]; exact hkd
  repeat' (first | refine a_f ?_ | refine st_nil ?_ | refine tri_seq ?_ | refine tri_region rfl ?_ | (apply st_rw rfl rfl; case hq => exact w_box 101 (by conv => lhs; whnf) rfl rfl rfl rfl rfl) | refine a_draw ?_ | (apply st_r rfl; case hq => first | exact q_build2 zReader rfl (by kernel_rfl) (by conv => lhs; whnf) (by conv => lhs; whnf) rfl rfl (by conv => lhs; whnf) | exact a_q) | (apply st_rif rfl; (case hq => first | exact a_i); all_goals (intro _; try (exfalso; first | omega | contradiction))) | (apply st_rw rfl rfl; case hq => first | exact a_store) | refine tri_true rfl ?_ | refine tri_false rfl ?_ | refine tri_block ?_ | refine tri_skip ?_ | refine tri_ret ?_ | refine tri_exit ?_)
  refine tri_loop (RInv s) (fun x => st [(2, .str []), (3, .nils), (4, .int .i64 0), (6, .str m), (7, .ptr 101 0), (8, .sl 100)] [(100, .rows 53 2 (fieldRows x.1)), (101, rdO x.2.1 x.2.2)]) (fun x => x.2.1.length + (match x.2.2 with | true => 1 | false => 0)) ([], r0, true) hI0 ?hw_1 (fun x hx => ?_)
  case hw_1 => exact (weak_nil 8 100 53 2 rfl (by decide) rfl rfl).trans (weak_st ⟨rfl, rfl, rfl, rfl, rfl, rfl, trivial⟩ ⟨rfl, congrArg (fun r => some (rdO r true)) hkd', trivial⟩)
  clear hI0 hkd hkd'
  obtain ⟨out, x, ok⟩ := x
  change Tri _ _ (st [(2, .str []), (3, .nils), (4, .int .i64 0), (6, .str m), (7, .ptr 101 0), (8, .sl 100)] [(100, .rows 53 2 (fieldRows out)), (101, rdO x ok)]) _
  have hgo := hx.go
  rw [← hr0] at hgo
  have hnum := hx.num
  have hhd := hx.hd
  simp only at hgo hnum hhd
  have hfl := fr_len out
  cases ok with
  | false =>
    simp only at hgo
    rw [← hgo] at hkk
    cases hkk
  | true =>
    simp only at hgo
    by_cases hx0 : x = []
    · subst hx0
      rw [← hgo, parsGo_nil] at hkk
      simp only [Option.some.injEq, Prod.mk.injEq] at hkk
      obtain ⟨rfl, rfl⟩ := hkk
      repeat' (first | refine a_f ?_ | refine st_nil ?_ | refine tri_seq ?_ | refine tri_region rfl ?_ | refine a_draw ?_ | (apply st_r rfl; case hq => first | exact q_not (by conv => lhs; whnf) | exact a_q) | (apply st_rif rfl; (case hq => first | exact a_i); all_goals (intro _; try (exfalso; first | omega | contradiction))) | (apply st_rw rfl rfl; case hq => first | exact a_store) | refine tri_true rfl ?_ | refine tri_false rfl ?_ | refine tri_block ?_ | refine tri_skip ?_ | refine tri_ret ?_ | refine tri_exit ?_)
      exact ⟨100, [2, 3, 4], rfl, rfl, rfl⟩
    obtain ⟨r, rfl⟩ : ∃ r, x = 59 :: r := by
      have h := hhd rfl
      cases x with
      | nil => exact absurd rfl hx0
      | cons c r =>
        have : c = 59 := by simpa [ends] using h
        exact ⟨r, by rw [this]⟩
    have hnx := RInv.next hx
    have hl3 := vlF_len r
    have hl4 := aft_len (eqF r) 61
    simp only [List.length_cons] at hnum
    have hl5 := dw_le blk r
    have hl6 := dw_le tokC (r.dropWhile blk)
    have T1 : CEff gx 126 (rdO (59 :: r) true) [.ptr 0 0, .int .u8 59] (some (rdO r true)) (.bool true) := take_e (59 :: r) true 59 (by simp only [List.length_cons]; omega)
    have B1 : CEff gx 127 (rdO r true) [.ptr 0 0] (some (rdO (r.dropWhile blk) true)) (.tup []) := blanks_e r true (by omega)
    have N1 : CEff gx 128 (rdO (r.dropWhile blk) true) [.ptr 0 0] (some (rdO ((r.dropWhile blk).dropWhile tokC) (true && !(nmF r).isEmpty))) (.str (nmF r)) := token_e _ _ (by omega)
    have L1 := low_c (nmF r) (by omega)
    have B2 : CEff gx 127 (rdO ((r.dropWhile blk).dropWhile tokC) (true && !(nmF r).isEmpty)) [.ptr 0 0] (some (rdO (eqF r) (true && !(nmF r).isEmpty))) (.tup []) := blanks_e _ _ (by omega)
    have E1 := take_e (eqF r) (true && !(nmF r).isEmpty) 61 (by omega)
    have B3 : CEff gx 127 (rdO (aft (eqF r) 61) (okN r)) [.ptr 0 0] (some (rdO (vlF r) (okN r))) (.tup []) := blanks_e _ _ (by omega)
    have Q1 := take_e (vlF r) (okN r) 34 (by omega)
    have V1 := quoted_e ((vlF r).drop 1) (okN r) (by rw [List.length_drop]; omega)
    have V2 := token_e (vlF r) (okN r) (by omega)
    have hok : okN r = (hd (eqF r) 61 && (true && !(nmF r).isEmpty)) := rfl
    have hsa : saF (okN r) (vlF r) = match hd (vlF r) 34 with
      | true => ((quoF [] ((vlF r).drop 1)).2.1, okN r && (quoF [] ((vlF r).drop 1)).1, (quoF [] ((vlF r).drop 1)).2.2)
      | false => ((vlF r).takeWhile tokC, okN r && !((vlF r).takeWhile tokC).isEmpty, (vlF r).dropWhile tokC) := rfl
    have ha1 : aft (vlF r) 34 = match hd (vlF r) 34 with
      | true => (vlF r).drop 1
      | false => vlF r := rfl
    have hsl := saF_len (okN r) (vlF r)
    have hp : RInv s (out ++ [((nmF r).map lowC, (saF (okN r) (vlF r)).1)], (saF (okN r) (vlF r)).2.2.dropWhile blk, (saF (okN r) (vlF r)).2.1 && ends ((saF (okN r) (vlF r)).2.2.dropWhile blk)) := hnx
    clear hnx
    generalize (true && !(nmF r).isEmpty) = ok1 at N1 B2 E1 hok
    generalize nmF r = n at N1 L1 hp hl3
    generalize (r.dropWhile blk).dropWhile tokC = y2 at N1 B2 hl6
    generalize r.dropWhile blk = y1 at B1 N1 hl5 hl6
    generalize okN r = ok2 at B3 Q1 V1 V2 hok hsa hsl hp
    generalize vlF r = u at B3 Q1 V1 V2 hsa ha1 hsl hp hl3
    generalize eqF r = z at B2 E1 B3 hok hl3 hl4
    have hop : ∃ v ok3 w0, saF ok2 u = (v, ok3, w0) := ⟨_, _, _, rfl⟩
    obtain ⟨v, ok3, w0, hvo⟩ := hop
    rw [hvo] at hsa hsl hp
    simp only at hsl hp
    refine tri_cutN (fun (_ : Unit) => True) (fun _ => st [(2, .str []), (3, .nils), (4, .int .i64 0), (6, .str m), (7, .ptr 101 0), (8, .sl 100)] [(100, .rows 53 2 (fieldRows out)), (101, rdO (59 :: r) true)]) 1 ?_ (fun _ _ => ?_)
    · repeat' (first | refine a_f ?_ | refine st_nil ?_ | refine tri_seq ?_ | refine tri_region rfl ?_ | refine cut_s ?_ | refine a_draw ?_ | (apply st_r rfl; case hq => first | exact a_q) | (apply st_rif rfl; (case hq => first | exact a_i); all_goals (intro _; try (exfalso; first | omega | contradiction))) | (apply st_rw rfl rfl; case hq => first | exact a_store) | refine tri_true rfl ?_ | refine tri_false rfl ?_ | refine tri_block ?_ | refine tri_skip ?_ | refine tri_ret ?_ | refine tri_exit ?_)
      exact cut_z () trivial (weak_st ⟨rfl, rfl, rfl, rfl, rfl, rfl, trivial⟩ ⟨rfl, rfl, trivial⟩)
    refine tri_block ?_
    refine tri_cutN (fun (_ : Unit) => True) (fun _ => st [(2, .str []), (3, .nils), (4, .int .i64 0), (6, .str m), (7, .ptr 101 0), (8, .sl 100), (9, .ptr 102 0)] [(100, .rows 53 2 (fieldRows out)), (101, rdO w0 ok3), (102, .box [.str (n.map lowC), .str v])]) 7 ?_ (fun _ _ => ?_)
    · clear hp hfl hnum
      cases he : hd z 61 <;> rw [he] at E1 hok
      case' false => have hok : ok2 = false := hok
      case' true => have hok : ok2 = ok1 := by rw [hok, Bool.true_and]
      all_goals
        subst hok
        cases hq : hd u 34 <;> rw [hq] at Q1 hsa ha1 <;> simp only at hsa ha1 <;> rw [ha1] at Q1
      case' false.true | true.true =>
        clear V2 ha1
        obtain ⟨k1, k2⟩ := Prod.mk.inj hsa
        obtain ⟨k2, k3⟩ := Prod.mk.inj k2
        subst k1 k2 k3
      case' false.false | true.false =>
        clear V1 ha1
        obtain ⟨k1, k2⟩ := Prod.mk.inj hsa
        obtain ⟨k2, k3⟩ := Prod.mk.inj k2
        subst k1 k2 k3
      all_goals
        repeat' (first | refine a_f ?_ | refine st_nil ?_ | refine tri_seq ?_ | refine tri_region rfl ?_ | refine cut_s ?_ | refine a_draw ?_ | (apply st_r rfl; case hq => first | exact q_call L1 (hcf := Tryz.call48) rfl rfl | exact a_q) | (apply st_rif rfl; (case hq => first | exact a_i); all_goals (intro _; try (exfalso; first | omega | contradiction))) | (apply st_rw rfl rfl; case hq => first | exact w_call (id := 101) T1 (hcf := Tryz.call126) rfl rfl rfl rfl rfl rfl | exact w_call (id := 101) B1 (hcf := Tryz.call127) rfl rfl rfl rfl rfl rfl | exact w_call (id := 101) N1 (hcf := Tryz.call128) rfl rfl rfl rfl rfl rfl | exact w_call (id := 101) B2 (hcf := Tryz.call127) rfl rfl rfl rfl rfl rfl | exact w_call (id := 101) E1 (hcf := Tryz.call126) rfl rfl rfl rfl rfl rfl | exact w_call (id := 101) B3 (hcf := Tryz.call127) rfl rfl rfl rfl rfl rfl | exact w_call (id := 101) Q1 (hcf := Tryz.call126) rfl rfl rfl rfl rfl rfl | exact w_call (id := 101) V1 (hcf := Tryz.call129) rfl rfl rfl rfl rfl rfl | exact w_call (id := 101) V2 (hcf := Tryz.call128) rfl rfl rfl rfl rfl rfl | exact w_alloc 102 zParam rfl rfl rfl | exact a_store) | refine tri_true rfl ?_ | refine tri_false rfl ?_ | refine tri_block ?_ | refine tri_skip ?_ | refine tri_ret ?_ | refine tri_exit ?_)
        exact cut_z () trivial (weak_st ⟨rfl, rfl, rfl, rfl, rfl, rfl, rfl, trivial⟩ ⟨rfl, rfl, rfl, trivial⟩)
    clear T1 B1 N1 L1 B2 E1 B3 Q1 V1 V2 hok hsa ha1
    have B4 := blanks_e w0 ok3 (by omega)
    have hdl := dw_le blk w0
    generalize w0.dropWhile blk = w at B4 hp hdl
    have hap := fr_app out (n.map lowC) v
    have hmu : w.length ≤ r.length := by omega
    cases ok3 with
    | false =>
      have hp' : RInv s (out ++ [(n.map lowC, v)], w, false) := hp
      repeat' (first | refine a_f ?_ | refine st_nil ?_ | refine tri_seq ?_ | refine tri_region rfl ?_ | refine a_draw ?_ | (apply st_r rfl; case hq => first | exact a_q) | (apply st_rif rfl; (case hq => first | exact a_i); all_goals (intro _; try (exfalso; first | omega | contradiction))) | (apply st_rw rfl rfl; case hq => first | exact w_call (id := 101) B4 (hcf := Tryz.call127) rfl rfl rfl rfl rfl rfl | exact w_append (by conv => lhs; whnf) (by conv => lhs; whnf; arg 1; whnf) (by conv => lhs; whnf) (by first | exact Tryz.underlying22 | exact Tryz.underlying23 | exact Tryz.underlying43 | exact Tryz.underlying44 | exact Tryz.underlying51 | exact Tryz.underlying86 | exact Tryz.underlying191 | exact Tryz.underlying209 | exact Tryz.underlying234 | exact Tryz.underlying270 | exact Tryz.underlying281 | exact Tryz.underlying344) (by kernel_rfl) (by simp) rfl (by simp only [List.length_cons, List.length_nil]; omega) rfl rfl | exact a_store) | refine tri_true rfl ?_ | refine tri_false rfl ?_ | refine tri_block ?_ | refine tri_skip ?_ | refine tri_ret ?_ | refine tri_exit ?_)
      exact nextR (out ++ [(n.map lowC, v)], w, false) hp' (weak_st ⟨rfl, rfl, rfl, rfl, rfl, rfl, trivial⟩ ⟨congrArg (fun r => some (AObj.rows 53 2 r)) hap, rfl, trivial⟩) (show w.length + 0 < List.length (59 :: r) + 1 by rw [List.length_cons]; omega)
    | true =>
      by_cases hw0 : w = []
      · subst hw0
        have hp' : RInv s (out ++ [(n.map lowC, v)], [], true) := hp
        repeat' (first | refine a_f ?_ | refine st_nil ?_ | refine tri_seq ?_ | refine tri_region rfl ?_ | refine a_draw ?_ | (apply st_r rfl; case hq => first | exact a_q) | (apply st_rif rfl; (case hq => first | exact a_i); all_goals (intro _; try (exfalso; first | omega | contradiction))) | (apply st_rw rfl rfl; case hq => first | exact w_call (id := 101) B4 (hcf := Tryz.call127) rfl rfl rfl rfl rfl rfl | exact w_append (by conv => lhs; whnf) (by conv => lhs; whnf; arg 1; whnf) (by conv => lhs; whnf) (by first | exact Tryz.underlying22 | exact Tryz.underlying23 | exact Tryz.underlying43 | exact Tryz.underlying44 | exact Tryz.underlying51 | exact Tryz.underlying86 | exact Tryz.underlying191 | exact Tryz.underlying209 | exact Tryz.underlying234 | exact Tryz.underlying270 | exact Tryz.underlying281 | exact Tryz.underlying344) (by kernel_rfl) (by simp) rfl (by simp only [List.length_cons, List.length_nil]; omega) rfl rfl | exact a_store) | refine tri_true rfl ?_ | refine tri_false rfl ?_ | refine tri_block ?_ | refine tri_skip ?_ | refine tri_ret ?_ | refine tri_exit ?_)
        exact nextR (out ++ [(n.map lowC, v)], [], true) hp' (weak_st ⟨rfl, rfl, rfl, rfl, rfl, rfl, trivial⟩ ⟨congrArg (fun r => some (AObj.rows 53 2 r)) hap, rfl, trivial⟩) (show 0 + 1 < List.length (59 :: r) + 1 by rw [List.length_cons]; omega)
      · have hwl := pos_len hw0
        have hen := ends_hd w hw0
        have h59 : w.getD (Int.toNat 0) 0 = 59 ↔ ((w.getD (Int.toNat 0) 0).toNat : Int) = 59 := eq59 _
        by_cases hh : w.getD (Int.toNat 0) 0 = 59
        · rw [decide_eq_true hh] at hen
          rw [hen] at hp
          have hp' : RInv s (out ++ [(n.map lowC, v)], w, true) := hp
          have h59 := h59.1 hh
          repeat' (first | refine a_f ?_ | refine st_nil ?_ | refine tri_seq ?_ | refine tri_region rfl ?_ | refine a_draw ?_ | (apply st_r rfl; case hq => first | exact a_q) | (apply st_rif rfl; (case hq => first | exact a_i); all_goals (intro _; try (exfalso; first | omega | contradiction))) | (apply st_rw rfl rfl; case hq => first | exact w_call (id := 101) B4 (hcf := Tryz.call127) rfl rfl rfl rfl rfl rfl | exact w_append (by conv => lhs; whnf) (by conv => lhs; whnf; arg 1; whnf) (by conv => lhs; whnf) (by first | exact Tryz.underlying22 | exact Tryz.underlying23 | exact Tryz.underlying43 | exact Tryz.underlying44 | exact Tryz.underlying51 | exact Tryz.underlying86 | exact Tryz.underlying191 | exact Tryz.underlying209 | exact Tryz.underlying234 | exact Tryz.underlying270 | exact Tryz.underlying281 | exact Tryz.underlying344) (by kernel_rfl) (by simp) rfl (by simp only [List.length_cons, List.length_nil]; omega) rfl rfl | exact a_store) | refine tri_true rfl ?_ | refine tri_false rfl ?_ | refine tri_block ?_ | refine tri_skip ?_ | refine tri_ret ?_ | refine tri_exit ?_)
          exact nextR (out ++ [(n.map lowC, v)], w, true) hp' (weak_st ⟨rfl, rfl, rfl, rfl, rfl, rfl, trivial⟩ ⟨congrArg (fun r => some (AObj.rows 53 2 r)) hap, rfl, trivial⟩) (show w.length + 1 < List.length (59 :: r) + 1 by rw [List.length_cons]; omega)
        · rw [decide_eq_false hh] at hen
          rw [hen] at hp
          have hp' : RInv s (out ++ [(n.map lowC, v)], w, false) := hp
          have h59 := fun e => hh (h59.2 e)
          repeat' (first | refine a_f ?_ | refine st_nil ?_ | refine tri_seq ?_ | refine tri_region rfl ?_ | refine a_draw ?_ | (apply st_r rfl; case hq => first | exact a_q) | (apply st_rif rfl; (case hq => first | exact a_i); all_goals (intro _; try (exfalso; first | omega | contradiction))) | (apply st_rw rfl rfl; case hq => first | exact w_call (id := 101) B4 (hcf := Tryz.call127) rfl rfl rfl rfl rfl rfl | exact w_append (by conv => lhs; whnf) (by conv => lhs; whnf; arg 1; whnf) (by conv => lhs; whnf) (by first | exact Tryz.underlying22 | exact Tryz.underlying23 | exact Tryz.underlying43 | exact Tryz.underlying44 | exact Tryz.underlying51 | exact Tryz.underlying86 | exact Tryz.underlying191 | exact Tryz.underlying209 | exact Tryz.underlying234 | exact Tryz.underlying270 | exact Tryz.underlying281 | exact Tryz.underlying344) (by kernel_rfl) (by simp) rfl (by simp only [List.length_cons, List.length_nil]; omega) rfl rfl | exact a_store) | refine tri_true rfl ?_ | refine tri_false rfl ?_ | refine tri_block ?_ | refine tri_skip ?_ | refine tri_ret ?_ | refine tri_exit ?_)
          exact nextR (out ++ [(n.map lowC, v)], w, false) hp' (weak_st ⟨rfl, rfl, rfl, rfl, rfl, rfl, trivial⟩ ⟨congrArg (fun r => some (AObj.rows 53 2 r)) hap, rfl, trivial⟩) (show w.length + 0 < List.length (59 :: r) + 1 by rw [List.length_cons]; omega)
end Go.Proofs.YtignjjnflcpiiaaGreatDoor
