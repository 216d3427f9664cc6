import Derived.Test.YtignjjnflcpiiaaGreatDoorWG17
set_option linter.unusedVariables false
set_option linter.unusedSimpArgs false
set_option maxHeartbeats 1000000
namespace Go.Proofs.YtignjjnflcpiiaaGreatDoor
open Go.RowKit
attribute [local irreducible] Tri Steps Qd Wr Weak CPure CEff
set_option maxRecDepth 100000
theorem trimL_dw (s : B) : Lib.trimLeftS s [32, 9] = s.dropWhile blk := by
  unfold Lib.trimLeftS
  congr 1
  funext c
  rw [blk, Bool.eq_iff_iff]; simp
theorem trimR_dw (s : B) : Lib.trimRightS s [32, 9] = rtrim blk s := by
  unfold Lib.trimRightS rtrim
  congr 2
  funext c
  rw [blk, Bool.eq_iff_iff]; simp
theorem contains_cut (s sub : B) : Lib.contains s sub = (Lib.cut s sub).2.2 := by
  unfold Lib.contains Lib.cut
  by_cases h : 0 ≤ Lib.index s sub
  · rw [decide_eq_true h, if_pos h]
  · rw [decide_eq_false h, if_neg h]
theorem dw_nil {p : UInt8 → Bool} : ∀ {s : B}, s.dropWhile p = [] ↔ ∀ c ∈ s, p c = true
  | [] => ⟨fun _ c hc => (by cases hc), fun _ => rfl⟩
  | x :: s => by
    rw [List.dropWhile_cons]
    cases hx : p x with
    | true =>
      simp only [if_true]
      rw [dw_nil]
      exact ⟨fun h c hc => (List.mem_cons.1 hc).elim (fun e => e ▸ hx) (fun hc => h c hc), fun h c hc => h c (List.mem_cons_of_mem _ hc)⟩
    | false =>
      simp only [Bool.false_eq_true, if_false]
      exact ⟨fun h => (by cases h), fun h => (by have := h x List.mem_cons_self; rw [hx] at this; cases this)⟩
theorem eq59 (c : UInt8) : c = 59 ↔ (c.toNat : Int) = 59 := by
  have e1 : (59 : UInt8).toNat = 59 := rfl
  rw [← UInt8.toNat_inj, e1]; omega
def hdS (b : Bool) (r : B) : B := match b with
  | true => 59 :: r
  | false => []
theorem restOf_hd (s : B) : restOf s = hdS (s.any (· == 59)) ((s.dropWhile (· != 59)).drop 1) := by
  unfold restOf
  cases hd : s.dropWhile (· != 59) with
  | nil =>
    have : s.any (· == 59) = false := by
      rw [List.any_eq_false]
      intro c hc
      have := dw_nil.1 hd c hc
      simpa using this
    rw [this]; rfl
  | cons x r =>
    have hx : x = 59 := by simpa using dw_head_not _ _ _ _ hd
    have : s.any (· == 59) = true := by
      rw [List.any_eq_true]
      refine ⟨x, ?_, by simp [hx]⟩
      rw [← List.takeWhile_append_dropWhile (p := (· != (59 : UInt8))) (l := s), hd]
      simp
    rw [this, hx]; rfl
def kAV : Option (B × Fs) → AV
  | some (m, l) => .tup [.str m, .ro true 2 (fieldRows l), .nili]
  | none => .tup [.str [], .nils, .iface 28 (.int .i64 3)]
theorem parP_no {r a b : B} (hc : Lib.cut (r.dropWhile blk) [61] = (a, b, false)) : parP tokC blk r = none := by
  unfold parP nameP
  rw [hc]
  simp
theorem parP_bad {r a b : B} {is : Bool} (hc : Lib.cut (r.dropWhile blk) [61] = (a, b, is)) (ht : tokQ tokC (rtrim blk a) = false) : parP tokC blk r = none := by
  unfold parP nameP
  rw [hc]
  simp [ht]
theorem parP_on {r a b : B} (hc : Lib.cut (r.dropWhile blk) [61] = (a, b, true)) (ht : tokQ tokC (rtrim blk a) = true) : parP tokC blk r = match thenEnd blk (saidP tokC (b.dropWhile blk)) with
    | none => none
    | some (v, r) => some ((rtrim blk a, v), r) := by
  unfold parP nameP
  rw [hc]
  simp only [ht, and_self, if_true]
  rfl
theorem ends_hd (x : B) (h : x ≠ []) : ends x = decide (x.getD (Int.toNat 0) 0 = 59) := by
  cases x with
  | nil => exact absurd rfl h
  | cons c r =>
    show (c == 59) = decide (c = 59)
    rw [Bool.eq_iff_iff, beq_iff_eq, decide_eq_true_eq]
theorem saidF_len (y : B) : (saidF y).2.1.length + (saidF y).2.2.length ≤ y.length := by
  unfold saidF
  split
  · split
    · have := (quoF_len _ (y.drop 1) (Nat.le_refl _) []).1
      simp only [List.length_nil, List.length_drop] at this
      omega
    · simp
  · simp only [List.length_take, List.length_drop]; omega
structure KInv (s : B) (x : Fs × Bool × B) : Prop where
  go : parsGo tokC blk lowC x.1 (hdS x.2.1 x.2.2) = parsGo tokC blk lowC [] (restOf s)
  num : x.1.length + (hdS x.2.1 x.2.2).length ≤ s.length
theorem restOf_len (s : B) : (restOf s).length ≤ s.length := dw_le _ s
theorem KInv.next {s : B} {out : Fs} {r n v r' : B} (h : KInv s (out, true, r)) (hp : parR tokC blk r = some ((n, v), r')) (b : Bool) (q : B) (hq : hdS b q = r') : KInv s (out ++ [(n.map lowC, v)], b, q) := by
  obtain ⟨h1, h2⟩ := h
  have hl := (parR_len hp).1
  refine ⟨?_, ?_⟩
  · rw [← h1]
    simp only
    rw [hq]
    exact (parsGo_some tokC blk lowC hp).symm
  · simp only [List.length_append, List.length_cons, List.length_nil] at h2 ⊢
    rw [hq]
    simp only [hdS, List.length_cons] at h2
    omega
set_option maxHeartbeats 8000000 in
theorem kread_c (s : B) (hs : s.length ≤ 1000000) : CPure gx 26 [.str s] (kAV (readK tokC blk lowC s)) := by
  refine cpure_of Tryz.func26 rfl (Nat.le_of_ble_eq_true rfl) rfl (fun w hw => ?_)
  have C1 := cut_c s [59] (by omega)
  rw [cut1] at C1
  have htl : (s.takeWhile (· != 59)).length ≤ s.length := (List.takeWhile_sublist _).length_le
  have M1 := trim_c (s.takeWhile (· != 59)) [32, 9] (by omega) (by decide) rfl
  have hml : (Lib.trimS (s.takeWhile (· != 59)) [32, 9]).length ≤ s.length := Nat.le_trans (trimB_len _) htl
  have M2 : CPure gx 53 [.str (Lib.trimS (s.takeWhile (· != 59)) [32, 9])] (.str (mainOf lowC s)) := small_c _ (by omega)
  have hm2 : (mainOf lowC s).length ≤ s.length := by unfold mainOf; rw [List.length_map]; exact hml
  have hrs := restOf_hd s
  have hrl := restOf_len s
  have hrk : readK tokC blk lowC s = if mainOk tokC (mainOf lowC s) = true then (match parsGo tokC blk lowC [] (restOf s) with | none => none | some l => some (mainOf lowC s, l)) else none := rfl
  have hmo : mainOk tokC (mainOf lowC s) = (tokQ tokC (Lib.cut (mainOf lowC s) [47]).1 && (!(Lib.cut (mainOf lowC s) [47]).2.2 || tokQ tokC (Lib.cut (mainOf lowC s) [47]).2.1)) := rfl
  generalize Lib.trimS (s.takeWhile (· != 59)) [32, 9] = m0 at M1 M2
  generalize s.takeWhile (· != 59) = m1 at C1 M1
  have C2 := cut_c (mainOf lowC s) [47] (by omega)
  have K1 := contains_c (mainOf lowC s) [47] (by omega)
  rw [contains_cut] at K1
  have hI0 : KInv s ([], s.any (· == 59), (s.dropWhile (· != 59)).drop 1) := ⟨by simp only; rw [hrs], by simp only; rw [← hrs]; simpa using hrl⟩
  generalize s.any (· == 59) = ok0 at C1 hrs hI0
  generalize (s.dropWhile (· != 59)).drop 1 = r0 at C1 hrs hI0
  generalize hmm : mainOf lowC s = m at *
  have T1 := token_c (Lib.cut m [47]).1
  have T2 := token_c (Lib.cut m [47]).2.1
  rw [tokQ_eq] at T1 T2
  rcases hc2 : Lib.cut m [47] with ⟨a, b, is⟩
  rw [hc2] at C2 K1 T1 T2 hmo
  simp only at C2 K1 T1 T2 hmo
  have hbad : (tokQ tokC a && (!is || tokQ tokC b)) = false → kAV (readK tokC blk lowC s) = .tup [.str [], .nils, .iface 28 (.int .i64 3)] := fun h => by
    rw [hrk, hmo, h]; rfl
  have hgood : (tokQ tokC a && (!is || tokQ tokC b)) = true → kAV (readK tokC blk lowC s) = kAV (match parsGo tokC blk lowC [] (restOf s) with | none => none | some l => some (m, l)) := fun h => by
    rw [hrk, hmo, h, if_pos rfl]
  clear hrk hmo hc2 hrs
  cases ha : tokQ tokC a <;> rw [ha] at T1 hbad hgood
  case' true => cases is
  case' true.true => cases hb : tokQ tokC b <;> rw [hb] at T2 hbad hgood
  case' true.false => have hb := ha
  case true.false | true.true.true =>
    repeat' (first | refine a_f ?_ | refine st_nil ?_ | refine tri_seq ?_ | refine tri_region rfl ?_ | refine a_draw ?_ | (apply st_r rfl; case hq => first | exact q_call C1 (hcf := Tryz.call51) rfl rfl | exact q_call M1 (hcf := Tryz.call59) rfl rfl | exact q_call M2 (hcf := Tryz.call53) rfl rfl | exact q_call C2 (hcf := Tryz.call51) rfl rfl | exact q_call K1 (hcf := Tryz.call60) rfl rfl | exact q_call T1 (hcf := Tryz.call52) rfl rfl | exact q_call T2 (hcf := Tryz.call52) rfl rfl | exact a_q) | (apply st_rif rfl; (case hq => first | exact a_i); all_goals (intro _; try (exfalso; first | omega | contradiction))) | (apply st_rw rfl rfl; case hq => first | exact a_store) | refine tri_true rfl ?_ | refine tri_false rfl ?_ | refine tri_block ?_ | refine tri_skip ?_ | refine tri_ret ?_ | refine tri_exit ?_)
    rw [hgood rfl]
    clear hbad hgood C1 M1 M2 C2 K1 T1 T2 ha hb
    refine tri_loop (KInv s) (fun x => st [(2, .str []), (3, .nils), (4, .nili), (5, .str m), (6, .str x.2.2), (7, .bool x.2.1), (11, .sl 100)] [(100, .rows 53 2 (fieldRows x.1))]) (fun x => (hdS x.2.1 x.2.2).length) ([], ok0, r0) hI0 ?hw (fun x hx => ?_)
    case hw => exact (weak_nil 11 100 53 2 rfl (by decide) rfl rfl).trans (weak_st ⟨rfl, rfl, rfl, rfl, rfl, rfl, rfl, trivial⟩ ⟨rfl, trivial⟩)
    clear hI0
    obtain ⟨out, ok, r⟩ := x
    change Tri _ _ (st [(2, .str []), (3, .nils), (4, .nili), (5, .str m), (6, .str r), (7, .bool ok), (11, .sl 100)] [(100, .rows 53 2 (fieldRows out))]) _
    have hgo := hx.go
    have hnum := hx.num
    simp only at hgo hnum
    have hfl := fr_len out
    cases ok with
    | false =>
      repeat' (first | refine a_f ?_ | refine st_nil ?_ | refine tri_seq ?_ | refine tri_region rfl ?_ | refine a_draw ?_ | (apply st_r rfl; case hq => first | exact a_q) | (apply st_rif rfl; (case hq => first | exact a_i); all_goals (intro _; try (exfalso; first | omega | contradiction))) | (apply st_rw rfl rfl; case hq => first | exact a_store) | refine tri_true rfl ?_ | refine tri_false rfl ?_ | refine tri_block ?_ | refine tri_skip ?_ | refine tri_ret ?_ | refine tri_exit ?_)
      refine And.intro trivial ?_
      conv => lhs; whnf
      rw [← hgo, show hdS false r = [] from rfl, parsGo_nil]
      rfl
    | true =>
      have hnx := fun n v r' => KInv.next (n := n) (v := v) (r' := r') hx
      rw [← par_eq tkT] at hnx
      rw [show hdS true r = 59 :: r from rfl] at hgo hnum
      simp only [List.length_cons] at hnum
      have hno : parP tokC blk r = none → kAV (match parsGo tokC blk lowC [] (restOf s) with | none => none | some l => some (m, l)) = .tup [.str [], .nils, .iface 28 (.int .i64 3)] := fun h => by
        rw [← hgo, parsGo_none tokC blk lowC (by rw [← par_eq tkT]; exact h)]; rfl
      have D1 := trimLeft_c r [32, 9] (by omega) (by decide) rfl
      rw [trimL_dw] at D1
      have hdl := dw_le blk r
      have hpn := @parP_no r
      have hpb := @parP_bad r
      have hpo := @parP_on r
      generalize r.dropWhile blk = x at D1 hdl hpn hpb hpo
      have C3 := cut_c x [61] (by omega)
      have hs3 := cut_sum x [61]
      rcases hc : Lib.cut x [61] with ⟨a, left, is⟩
      rw [hc] at C3 hs3 hpn hpb hpo
      simp only at C3 hs3
      have R1 := trimRight_c a [32, 9] (by omega) (by decide) rfl
      rw [trimR_dw] at R1
      have hrl2 : (rtrim blk a).length ≤ a.length := by rw [← trimR_dw]; unfold Lib.trimRightS; simp only [List.length_reverse]; exact Nat.le_trans (dw_le _ _) (by simp)
      have T3 := token_c (rtrim blk a)
      rw [tokQ_eq] at T3
      cases is with
      | false =>
        have hf := hno (hpn rfl)
        repeat' (first | refine a_f ?_ | refine st_nil ?_ | refine tri_seq ?_ | refine tri_region rfl ?_ | refine a_draw ?_ | (apply st_r rfl; case hq => first | exact q_call D1 (hcf := Tryz.call61) rfl rfl | exact q_call C3 (hcf := Tryz.call51) rfl rfl | exact q_call R1 (hcf := Tryz.call62) rfl rfl | exact a_q) | (apply st_rif rfl; (case hq => first | exact a_i); all_goals (intro _; try (exfalso; first | omega | contradiction))) | (apply st_rw rfl rfl; case hq => first | exact a_store) | refine tri_true rfl ?_ | refine tri_false rfl ?_ | refine tri_block ?_ | refine tri_skip ?_ | refine tri_ret ?_ | refine tri_exit ?_)
        refine And.intro trivial ?_
        conv => lhs; whnf
        exact hf.symm
      | true =>
        cases htk : tokQ tokC (rtrim blk a) with
        | false =>
          rw [htk] at T3
          have hf := hno (hpb rfl htk)
          repeat' (first | refine a_f ?_ | refine st_nil ?_ | refine tri_seq ?_ | refine tri_region rfl ?_ | refine a_draw ?_ | (apply st_r rfl; case hq => first | exact q_call D1 (hcf := Tryz.call61) rfl rfl | exact q_call C3 (hcf := Tryz.call51) rfl rfl | exact q_call R1 (hcf := Tryz.call62) rfl rfl | exact q_call T3 (hcf := Tryz.call52) rfl rfl | exact a_q) | (apply st_rif rfl; (case hq => first | exact a_i); all_goals (intro _; try (exfalso; first | omega | contradiction))) | (apply st_rw rfl rfl; case hq => first | exact a_store) | refine tri_true rfl ?_ | refine tri_false rfl ?_ | refine tri_block ?_ | refine tri_skip ?_ | refine tri_ret ?_ | refine tri_exit ?_)
          refine And.intro trivial ?_
          conv => lhs; whnf
          exact hf.symm
        | true =>
          rw [htk] at T3
          have hpo := hpo rfl htk
          have S1 := small_c (rtrim blk a) (by omega)
          have D2 := trimLeft_c left [32, 9] (by omega) (by decide) rfl
          rw [trimL_dw] at D2
          have hdl2 := dw_le blk left
          have A1 := said_c (left.dropWhile blk) (by omega)
          rw [saidF_eq] at hpo
          have hsl := saidF_len (left.dropWhile blk)
          generalize left.dropWhile blk = y at D2 hdl2 A1 hpo hsl
          rcases hsd : saidF y with ⟨ok2, v, r2⟩
          rw [hsd] at A1 hpo hsl
          simp only at hpo hsl
          have A1' : CPure gx 63 [.str y] (.tup [.str v, .str r2, .bool ok2]) := A1
          clear A1 hpn hpb hc hsd htk
          cases ok2 with
          | false =>
            have hf := hno hpo
            repeat' (first | refine a_f ?_ | refine st_nil ?_ | refine tri_seq ?_ | refine tri_region rfl ?_ | refine a_draw ?_ | (apply st_r rfl; case hq => first | exact q_call D1 (hcf := Tryz.call61) rfl rfl | exact q_call C3 (hcf := Tryz.call51) rfl rfl | exact q_call R1 (hcf := Tryz.call62) rfl rfl | exact q_call T3 (hcf := Tryz.call52) rfl rfl | exact q_call S1 (hcf := Tryz.call53) rfl rfl | exact q_call D2 (hcf := Tryz.call61) rfl rfl | exact q_call A1' (hcf := Tryz.call63) rfl rfl | exact a_q) | (apply st_rif rfl; (case hq => first | exact a_i); all_goals (intro _; try (exfalso; first | omega | contradiction))) | (apply st_rw rfl rfl; case hq => first | exact w_alloc 102 zParam rfl rfl rfl | exact a_store) | refine tri_true rfl ?_ | refine tri_false rfl ?_ | refine tri_block ?_ | refine tri_skip ?_ | refine tri_ret ?_ | refine tri_exit ?_)
            refine And.intro trivial ?_
            conv => lhs; whnf
            exact hf.symm
          | true =>
            have D3 := trimLeft_c r2 [32, 9] (by omega) (by decide) rfl
            rw [trimL_dw] at D3
            have hdl3 := dw_le blk r2
            simp only [thenEnd] at hpo
            have hen := ends_hd (r2.dropWhile blk)
            generalize r2.dropWhile blk = z at D3 hdl3 hpo hen
            have hz59 : z.getD (Int.toNat 0) 0 = 59 ↔ ((z.getD (Int.toNat 0) 0).toNat : Int) = 59 := eq59 _
            by_cases hz : z = []
            · subst hz
              simp only [ends, if_true] at hpo
              clear hen hz59
              repeat' (first | refine a_f ?_ | refine st_nil ?_ | refine tri_seq ?_ | refine tri_region rfl ?_ | refine a_draw ?_ | (apply st_r rfl; case hq => first | exact q_call D1 (hcf := Tryz.call61) rfl rfl | exact q_call C3 (hcf := Tryz.call51) rfl rfl | exact q_call R1 (hcf := Tryz.call62) rfl rfl | exact q_call T3 (hcf := Tryz.call52) rfl rfl | exact q_call S1 (hcf := Tryz.call53) rfl rfl | exact q_call D2 (hcf := Tryz.call61) rfl rfl | exact q_call A1' (hcf := Tryz.call63) rfl rfl | exact q_call D3 (hcf := Tryz.call61) rfl rfl | exact a_q) | (apply st_rif rfl; (case hq => first | exact a_i); all_goals (intro _; try (exfalso; first | omega | contradiction))) | (apply st_rw rfl rfl; case hq => first | exact w_alloc 102 zParam rfl rfl rfl | exact w_append (by conv => lhs; whnf) (by conv => lhs; whnf; arg 1; whnf) (by conv => lhs; whnf) (by first | exact Tryz.underlying22 | exact Tryz.underlying23 | exact Tryz.underlying43 | exact Tryz.underlying44 | exact Tryz.underlying51 | exact Tryz.underlying86 | exact Tryz.underlying191 | exact Tryz.underlying209 | exact Tryz.underlying234 | exact Tryz.underlying270 | exact Tryz.underlying281 | exact Tryz.underlying344) (by kernel_rfl) (by simp) rfl (by simp only [List.length_cons, List.length_nil]; omega) rfl rfl | exact a_store) | refine tri_true rfl ?_ | refine tri_false rfl ?_ | refine tri_block ?_ | refine tri_skip ?_ | refine tri_ret ?_ | refine tri_exit ?_)
              exact nextR (out ++ [((rtrim blk a).map lowC, v)], false, []) (hnx _ _ _ hpo false [] rfl) (weak_st ⟨rfl, rfl, rfl, rfl, rfl, rfl, rfl, trivial⟩ ⟨congrArg (fun r => some (AObj.rows 53 2 r)) (fr_app out _ _), trivial⟩) (show 0 < List.length (59 :: r) by simp)
            · have hzl := pos_len hz
              have hen := hen hz
              by_cases h59 : z.getD (Int.toNat 0) 0 = 59
              · rw [decide_eq_true h59] at hen
                rw [hen] at hpo
                simp only [if_true] at hpo
                have h59' := hz59.1 h59
                have hz2 : hdS true (z.drop (Int.toNat 1)) = z := by
                  have := cons_of hz
                  rw [h59] at this
                  rw [this]; rfl
                clear hz59
                repeat' (first | refine a_f ?_ | refine st_nil ?_ | refine tri_seq ?_ | refine tri_region rfl ?_ | refine a_draw ?_ | (apply st_r rfl; case hq => first | exact q_call D1 (hcf := Tryz.call61) rfl rfl | exact q_call C3 (hcf := Tryz.call51) rfl rfl | exact q_call R1 (hcf := Tryz.call62) rfl rfl | exact q_call T3 (hcf := Tryz.call52) rfl rfl | exact q_call S1 (hcf := Tryz.call53) rfl rfl | exact q_call D2 (hcf := Tryz.call61) rfl rfl | exact q_call A1' (hcf := Tryz.call63) rfl rfl | exact q_call D3 (hcf := Tryz.call61) rfl rfl | exact a_q) | (apply st_rif rfl; (case hq => first | exact a_i); all_goals (intro _; try (exfalso; first | omega | contradiction))) | (apply st_rw rfl rfl; case hq => first | exact w_alloc 102 zParam rfl rfl rfl | exact w_append (by conv => lhs; whnf) (by conv => lhs; whnf; arg 1; whnf) (by conv => lhs; whnf) (by first | exact Tryz.underlying22 | exact Tryz.underlying23 | exact Tryz.underlying43 | exact Tryz.underlying44 | exact Tryz.underlying51 | exact Tryz.underlying86 | exact Tryz.underlying191 | exact Tryz.underlying209 | exact Tryz.underlying234 | exact Tryz.underlying270 | exact Tryz.underlying281 | exact Tryz.underlying344) (by kernel_rfl) (by simp) rfl (by simp only [List.length_cons, List.length_nil]; omega) rfl rfl | exact a_store) | refine tri_true rfl ?_ | refine tri_false rfl ?_ | refine tri_block ?_ | refine tri_skip ?_ | refine tri_ret ?_ | refine tri_exit ?_)
                exact nextR (out ++ [((rtrim blk a).map lowC, v)], true, z.drop (Int.toNat 1)) (hnx _ _ _ hpo true _ hz2) (weak_st ⟨rfl, rfl, rfl, rfl, rfl, rfl, rfl, trivial⟩ ⟨congrArg (fun r => some (AObj.rows 53 2 r)) (fr_app out _ _), trivial⟩) (by
                  show (hdS true (z.drop (Int.toNat 1))).length < List.length (59 :: r)
                  rw [hz2, List.length_cons]; omega)
              · rw [decide_eq_false h59] at hen
                rw [hen] at hpo
                have hf := hno hpo
                have h59' := fun e => h59 (hz59.2 e)
                clear hz59
                repeat' (first | refine a_f ?_ | refine st_nil ?_ | refine tri_seq ?_ | refine tri_region rfl ?_ | refine a_draw ?_ | (apply st_r rfl; case hq => first | exact q_call D1 (hcf := Tryz.call61) rfl rfl | exact q_call C3 (hcf := Tryz.call51) rfl rfl | exact q_call R1 (hcf := Tryz.call62) rfl rfl | exact q_call T3 (hcf := Tryz.call52) rfl rfl | exact q_call S1 (hcf := Tryz.call53) rfl rfl | exact q_call D2 (hcf := Tryz.call61) rfl rfl | exact q_call A1' (hcf := Tryz.call63) rfl rfl | exact q_call D3 (hcf := Tryz.call61) rfl rfl | exact a_q) | (apply st_rif rfl; (case hq => first | exact a_i); all_goals (intro _; try (exfalso; first | omega | contradiction))) | (apply st_rw rfl rfl; case hq => first | exact w_alloc 102 zParam rfl rfl rfl | exact w_append (by conv => lhs; whnf) (by conv => lhs; whnf; arg 1; whnf) (by conv => lhs; whnf) (by first | exact Tryz.underlying22 | exact Tryz.underlying23 | exact Tryz.underlying43 | exact Tryz.underlying44 | exact Tryz.underlying51 | exact Tryz.underlying86 | exact Tryz.underlying191 | exact Tryz.underlying209 | exact Tryz.underlying234 | exact Tryz.underlying270 | exact Tryz.underlying281 | exact Tryz.underlying344) (by kernel_rfl) (by simp) rfl (by simp only [List.length_cons, List.length_nil]; omega) rfl rfl | exact a_store) | refine tri_true rfl ?_ | refine tri_false rfl ?_ | refine tri_block ?_ | refine tri_skip ?_ | refine tri_ret ?_ | refine tri_exit ?_)
                refine And.intro trivial ?_
                conv => lhs; whnf
                exact hf.symm
  all_goals
    repeat' (first | refine a_f ?_ | refine st_nil ?_ | refine tri_seq ?_ | refine tri_region rfl ?_ | refine a_draw ?_ | (apply st_r rfl; case hq => first | exact q_call C1 (hcf := Tryz.call51) rfl rfl | exact q_call M1 (hcf := Tryz.call59) rfl rfl | exact q_call M2 (hcf := Tryz.call53) rfl rfl | exact q_call C2 (hcf := Tryz.call51) rfl rfl | exact q_call K1 (hcf := Tryz.call60) rfl rfl | exact q_call T1 (hcf := Tryz.call52) rfl rfl | exact q_call T2 (hcf := Tryz.call52) rfl rfl | exact a_q) | (apply st_rif rfl; (case hq => first | exact a_i); all_goals (intro _; try (exfalso; first | omega | contradiction))) | (apply st_rw rfl rfl; case hq => first | exact a_store) | refine tri_true rfl ?_ | refine tri_false rfl ?_ | refine tri_block ?_ | refine tri_skip ?_ | refine tri_ret ?_ | refine tri_exit ?_)
    refine And.intro trivial ?_
    conv => lhs; whnf
    exact (hbad rfl).symm
end Go.Proofs.YtignjjnflcpiiaaGreatDoor
