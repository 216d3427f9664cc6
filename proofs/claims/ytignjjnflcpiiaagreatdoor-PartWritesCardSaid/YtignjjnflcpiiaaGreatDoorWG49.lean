import Derived.Test.YtignjjnflcpiiaaGreatDoorWG44
import Derived.Test.YtignjjnflcpiiaaGreatDoorWWrtI
import Derived.Test.YtignjjnflcpiiaaGreatDoorWWrtM
import Derived.Test.YtignjjnflcpiiaaGreatDoorWG42
set_option linter.unusedVariables false
set_option linter.unusedSimpArgs false
set_option maxHeartbeats 1000000
namespace Go.Proofs.YtignjjnflcpiiaaGreatDoor
open Go.RowKit
attribute [local irreducible] Tri Steps Qd Wr Weak CPure CEff
set_option maxRecDepth 100000
theorem wp_bad {d left : Nat} {p : PT} (h : okPt p = false) : writePt (d + 1) (left + 1) p = .err 1 := by rw [writePt, h]
theorem pw_e : ∀ (d left : Nat) (p : PT), d ≤ 4 → left ≤ 40 → Fit p → WOk d left p
  | 0, left, .mk hd bd m ps, hd4, hl, hf => by
    unfold WOk
    rw [show writePt 0 left (.mk hd bd m ps) = .err 4 by rw [writePt]]
    exact pw_lim (.inl rfl) hd4 hl
  | d + 1, 0, .mk hd bd m ps, hd4, hl, hf => by
    unfold WOk
    rw [show writePt (d + 1) 0 (.mk hd bd m ps) = .err 4 by rw [writePt]]
    exact pw_lim (.inr rfl) hd4 hl
  | d + 1, left + 1, .mk hd bd m ps, hd4, hl, hf => by
    have IH : ∀ left q, left ≤ 40 → Fit q → WOk d left q := fun left q hl hq => pw_e d left q (by omega) hl hq
    unfold WOk
    cases hr : rightB hd with
    | false =>
      rw [wp_bad (by simp [okPt, PT.head, hr])]
      exact pw_right hd4 hl hf hr
    | true =>
      rcases hb : bndF hd with _ | _ | b0
      · rw [wp_bad (by simp [okPt, PT.head, hr, hb])]
        exact pw_bnd hd4 hl hf hr hb
      · cases m with
        | true =>
          rw [wp_bad (by simp [okPt, PT.head, PT.many, hr, hb])]
          exact pw_bad1 hd4 hl hf hr hb rfl
        | false =>
          by_cases hp : ps = []
          · have hok : okPt (.mk hd bd false ps) = true := by simp [okPt, PT.head, PT.many, PT.parts, hr, hb, hp]
            rw [show writePt (d + 1) (left + 1) (.mk hd bd false ps) = .ok (headW (noEnc hd ++ [(ceN, (shortF bd).1)]) ++ (shortF bd).2, left) by rw [writePt, hok]; rfl]
            exact pw_leaf hd4 hl hf hr hb rfl hp
          · have hpl : 0 < ps.length := List.length_pos_iff.2 hp
            rw [wp_bad (by simp [okPt, PT.head, PT.many, PT.parts, hr, hb, hp])]
            exact pw_bad2 hd4 hl hf hr hb rfl hpl
      · cases m with
        | false =>
          rw [wp_bad (by simp [okPt, PT.head, PT.many, hr, hb])]
          exact pw_bad3 hd4 hl hf hr hb rfl
        | true =>
          by_cases hbd : bd = []
          · have hok : okPt (.mk hd bd true ps) = true := by simp [okPt, PT.head, PT.many, PT.body, hr, hb, hbd]
            have hw : writePt (d + 1) (left + 1) (.mk hd bd true ps) = match writeKids (writePt d) left ps with
                | .err e => .err e
                | .ok (xs, n) => .ok (headW (renHead (numB (chooseN xs)) (noEnc hd)) ++ bodyW (numB (chooseN xs)) xs, n) := by rw [writePt, hok]; rfl
            rw [hw]
            cases hk : writeKids (writePt d) left ps with
            | err e => exact pw_kidsE hd4 hl hf hr hb rfl hbd IH hk
            | ok r =>
              obtain ⟨xs, n⟩ := r
              exact pw_kids hd4 hl hf hr hb rfl hbd IH hk
          · rw [wp_bad (by simp [okPt, PT.head, PT.many, PT.body, hr, hb, hbd])]
            exact pw_bad4 hd4 hl hf hr hb rfl hbd
def wtAV : Res B → AV
  | .ok s => .tup [.str s, .nili]
  | .err e => .tup [.str [], .iface 28 (.int .i64 (e : Int))]
theorem zWriter : zeroL Tryz.prog 72 = some [.int .i64 0] := by kernel_rfl
set_option maxHeartbeats 8000000 in
theorem partWrite_c (hd : Fs) (bd : B) (m : Bool) (ps : List PT) (hf : Fit (.mk hd bd m ps)) : CPure gxp 11 [.agg [.ro false 2 (fieldRows hd), .str bd, .bool m, .pts false ps]] (wtAV (writeTop (.mk hd bd m ps))) := by
  unfold writeTop
  have E := pw_e 4 40 (.mk hd bd m ps) (Nat.le_refl _) (Nat.le_refl _) hf 1 (by decide)
  refine cpure_of Tryz.func11 rfl (Nat.le_of_ble_eq_true rfl) rfl (fun w hw => ?_)
  cases hk : writePt 4 40 (.mk hd bd m ps) with
  | err e =>
    rw [hk] at E
    have E : CEff gxp 34 (.box [.int .i64 40]) [.ptr 0 0, .agg [.ro false 2 (fieldRows hd), .str bd, .bool m, .pts false ps], .int .i64 1] (some (.box [.any])) (.tup [.str [], .iface 28 (.int .i64 (e : Int))]) := E
    have T1 := (tell_no_c (e : Int)).eo.p
    repeat' (first | refine a_f ?_ | refine st_nil ?_ | refine tri_seq ?_ | refine tri_region rfl ?_ | (apply st_rw rfl rfl; case hq => exact w_box (d := 8) 108 (by conv => lhs; whnf) rfl (by conv => lhs; whnf) rfl rfl rfl) | refine a_draw ?_ | (apply st_r rfl; case hq => first | exact q_build1 zWriter rfl (by kernel_rfl) rfl rfl rfl | exact q_loada (n := 4) (by conv => lhs; whnf) (by conv => lhs; whnf; arg 1; whnf) (by conv => lhs; whnf) (by first | rfl | exact Nat.le_of_ble_eq_true rfl | exact Nat.succ_pos _ | decide) (by show aggB Tryz.prog _ _ = true; decide +kernel) | exact q_call T1 (hcf := Tryz.call16) rfl rfl | exact q_neif (by conv => lhs; whnf) Tryz.underlying32 | exact a_q) | (apply st_rif rfl; (case hq => first | exact a_i); all_goals (intro _; try (exfalso; first | omega | contradiction))) | (apply st_rw rfl rfl; case hq => first | exact w_box (d := 1) 101 (by conv => lhs; whnf) rfl (by conv => lhs; whnf) rfl rfl rfl | exact w_call (id := 108) E (hcf := Tryz.call34) (by rfl) rfl rfl rfl rfl rfl | exact a_store) | refine tri_true rfl ?_ | refine tri_false rfl ?_ | refine tri_block ?_ | refine tri_skip ?_ | refine tri_ret ?_ | refine tri_exit ?_)
    refine And.intro trivial ?_
    conv => lhs; whnf
    try rfl
  | ok r =>
    obtain ⟨s, n⟩ := r
    rw [hk] at E
    have hsl := writePt_len 4 40 _ s n hf.1 hk
    have hms := hf.1
    have E : CEff gxp 34 (.box [.int .i64 40]) [.ptr 0 0, .agg [.ro false 2 (fieldRows hd), .str bd, .bool m, .pts false ps], .int .i64 1] (some (.box [.int .i64 (n : Int)])) (.tup [.str s, .nili]) := E
    clear hk
    by_cases hb : 20000 < s.length
    · simp only [if_pos hb]
      repeat' (first | refine a_f ?_ | refine st_nil ?_ | refine tri_seq ?_ | refine tri_region rfl ?_ | (apply st_rw rfl rfl; case hq => exact w_box (d := 8) 108 (by conv => lhs; whnf) rfl (by conv => lhs; whnf) rfl rfl rfl) | refine a_draw ?_ | (apply st_r rfl; case hq => first | exact q_build1 zWriter rfl (by kernel_rfl) rfl rfl rfl | exact q_loada (n := 4) (by conv => lhs; whnf) (by conv => lhs; whnf; arg 1; whnf) (by conv => lhs; whnf) (by first | rfl | exact Nat.le_of_ble_eq_true rfl | exact Nat.succ_pos _ | decide) (by show aggB Tryz.prog _ _ = true; decide +kernel) | exact q_nenil (by rfl) Tryz.underlying32 | exact a_q) | (apply st_rif rfl; (case hq => first | exact a_i); all_goals (intro _; try (exfalso; first | omega | contradiction))) | (apply st_rw rfl rfl; case hq => first | exact w_box (d := 1) 101 (by conv => lhs; whnf) rfl (by conv => lhs; whnf) rfl rfl rfl | exact w_call (id := 108) E (hcf := Tryz.call34) (by rfl) rfl rfl rfl rfl rfl | exact a_store) | refine tri_true rfl ?_ | refine tri_false rfl ?_ | refine tri_block ?_ | refine tri_skip ?_ | refine tri_ret ?_ | refine tri_exit ?_)
      refine And.intro trivial ?_
      conv => lhs; whnf
      try rfl
    · simp only [if_neg hb]
      repeat' (first | refine a_f ?_ | refine st_nil ?_ | refine tri_seq ?_ | refine tri_region rfl ?_ | (apply st_rw rfl rfl; case hq => exact w_box (d := 8) 108 (by conv => lhs; whnf) rfl (by conv => lhs; whnf) rfl rfl rfl) | refine a_draw ?_ | (apply st_r rfl; case hq => first | exact q_build1 zWriter rfl (by kernel_rfl) rfl rfl rfl | exact q_loada (n := 4) (by conv => lhs; whnf) (by conv => lhs; whnf; arg 1; whnf) (by conv => lhs; whnf) (by first | rfl | exact Nat.le_of_ble_eq_true rfl | exact Nat.succ_pos _ | decide) (by show aggB Tryz.prog _ _ = true; decide +kernel) | exact q_nenil (by rfl) Tryz.underlying32 | exact a_q) | (apply st_rif rfl; (case hq => first | exact a_i); all_goals (intro _; try (exfalso; first | omega | contradiction))) | (apply st_rw rfl rfl; case hq => first | exact w_box (d := 1) 101 (by conv => lhs; whnf) rfl (by conv => lhs; whnf) rfl rfl rfl | exact w_call (id := 108) E (hcf := Tryz.call34) (by rfl) rfl rfl rfl rfl rfl | exact a_store) | refine tri_true rfl ?_ | refine tri_false rfl ?_ | refine tri_block ?_ | refine tri_skip ?_ | refine tri_ret ?_ | refine tri_exit ?_)
      refine And.intro trivial ?_
      conv => lhs; whnf
      try rfl
end Go.Proofs.YtignjjnflcpiiaaGreatDoor
namespace Go.Proofs.YtignjjnflcpiiaaGreatDoor
open Go.RowKit
attribute [local irreducible] Tri Steps Qd Wr Weak CPure CEff
set_option maxRecDepth 100000
theorem rw_e : ∀ (d left : Nat) (p : PT), d ≤ 4 → left ≤ 40 → Fit p → RWOk d left p
  | 0, left, .mk hd bd m ps, hd4, hl, hf => by
    unfold RWOk
    rw [show writePt 0 left (.mk hd bd m ps) = .err 4 by rw [writePt]]
    exact rw_lim (.inl rfl) hd4 hl
  | d + 1, 0, .mk hd bd m ps, hd4, hl, hf => by
    unfold RWOk
    rw [show writePt (d + 1) 0 (.mk hd bd m ps) = .err 4 by rw [writePt]]
    exact rw_lim (.inr rfl) hd4 hl
  | d + 1, left + 1, .mk hd bd m ps, hd4, hl, hf => by
    have IH : ∀ left q, left ≤ 40 → Fit q → RWOk d left q := fun left q hl hq => rw_e d left q (by omega) hl hq
    unfold RWOk
    cases hr : rightB hd with
    | false =>
      rw [wp_bad (by simp [okPt, PT.head, hr])]
      exact rw_right hd4 hl hf hr
    | true =>
      rcases hb : bndF hd with _ | _ | b0
      · rw [wp_bad (by simp [okPt, PT.head, hr, hb])]
        exact rw_bnd hd4 hl hf hr hb
      · cases m with
        | true =>
          rw [wp_bad (by simp [okPt, PT.head, PT.many, hr, hb])]
          exact rw_bad1 hd4 hl hf hr hb rfl
        | false =>
          by_cases hp : ps = []
          · have hok : okPt (.mk hd bd false ps) = true := by simp [okPt, PT.head, PT.many, PT.parts, hr, hb, hp]
            rw [show writePt (d + 1) (left + 1) (.mk hd bd false ps) = .ok (headW (noEnc hd ++ [(ceN, (shortF bd).1)]) ++ (shortF bd).2, left) by rw [writePt, hok]; rfl]
            exact rw_leaf hd4 hl hf hr hb rfl hp
          · have hpl : 0 < ps.length := List.length_pos_iff.2 hp
            rw [wp_bad (by simp [okPt, PT.head, PT.many, PT.parts, hr, hb, hp])]
            exact rw_bad2 hd4 hl hf hr hb rfl hpl
      · cases m with
        | false =>
          rw [wp_bad (by simp [okPt, PT.head, PT.many, hr, hb])]
          exact rw_bad3 hd4 hl hf hr hb rfl
        | true =>
          by_cases hbd : bd = []
          · have hok : okPt (.mk hd bd true ps) = true := by simp [okPt, PT.head, PT.many, PT.body, hr, hb, hbd]
            have hw : writePt (d + 1) (left + 1) (.mk hd bd true ps) = match writeKids (writePt d) left ps with
                | .err e => .err e
                | .ok (xs, n) => .ok (headW (renHead (numB (chooseN xs)) (noEnc hd)) ++ bodyW (numB (chooseN xs)) xs, n) := by rw [writePt, hok]; rfl
            rw [hw]
            cases hk : writeKids (writePt d) left ps with
            | err e => exact rw_kidsE hd4 hl hf hr hb rfl hbd IH hk
            | ok r =>
              obtain ⟨xs, n⟩ := r
              exact rw_kids hd4 hl hf hr hb rfl hbd IH hk
          · rw [wp_bad (by simp [okPt, PT.head, PT.many, PT.body, hr, hb, hbd])]
            exact rw_bad4 hd4 hl hf hr hb rfl hbd
def rwtAV : Res B → AV
  | .ok s => .tup [.str s, .int .i64 0]
  | .err e => .tup [.str [], .int .i64 (e : Int)]
set_option maxHeartbeats 8000000 in
theorem rwritePart_c (hd : Fs) (bd : B) (m : Bool) (ps : List PT) (hf : Fit (.mk hd bd m ps)) : CPure gxp 10 [.agg [.ro false 2 (fieldRows hd), .str bd, .bool m, .pts false ps]] (rwtAV (writeTop (.mk hd bd m ps))) := by
  unfold writeTop
  have E := rw_e 4 40 (.mk hd bd m ps) (Nat.le_refl _) (Nat.le_refl _) hf 0 (by decide)
  refine cpure_of Tryz.func10 rfl (Nat.le_of_ble_eq_true rfl) rfl (fun w hw => ?_)
  cases hk : writePt 4 40 (.mk hd bd m ps) with
  | err e =>
    have he := writePt_err _ _ _ _ hk
    rw [hk] at E
    have E : CEff gxp 33 (.box [.int .i64 0]) [.agg [.ro false 2 (fieldRows hd), .str bd, .bool m, .pts false ps], .int .i64 0, .ptr 0 0] (some (.box [.any])) (.tup [.str [], .int .i64 (e : Int)]) := E
    repeat' (first | refine a_f ?_ | refine st_nil ?_ | refine tri_seq ?_ | refine tri_region rfl ?_ | refine a_draw ?_ | (apply st_r rfl; case hq => first | exact q_loada (n := 4) (by conv => lhs; whnf) (by conv => lhs; whnf; arg 1; whnf) (by conv => lhs; whnf) (by first | rfl | exact Nat.le_of_ble_eq_true rfl | exact Nat.succ_pos _ | decide) (by show aggB Tryz.prog _ _ = true; decide +kernel) | exact a_q) | (apply st_rif rfl; (case hq => first | exact a_i); all_goals (intro _; try (exfalso; first | omega | contradiction))) | (apply st_rw rfl rfl; case hq => first | exact w_box (d := 1) 101 (by conv => lhs; whnf) rfl (by conv => lhs; whnf) rfl rfl rfl | exact w_alloc (d := 4) 104 (by exact zInt) rfl rfl rfl | exact w_call (id := 104) E (hcf := Tryz.call33) (by rfl) rfl rfl rfl rfl rfl | exact a_store) | refine tri_true rfl ?_ | refine tri_false rfl ?_ | refine tri_block ?_ | refine tri_skip ?_ | refine tri_ret ?_ | refine tri_exit ?_)
    refine And.intro trivial ?_
    conv => lhs; whnf
    try rfl
  | ok r =>
    obtain ⟨s, n⟩ := r
    rw [hk] at E
    have hsl := writePt_len 4 40 _ s n hf.1 hk
    have hms := hf.1
    have E : CEff gxp 33 (.box [.int .i64 0]) [.agg [.ro false 2 (fieldRows hd), .str bd, .bool m, .pts false ps], .int .i64 0, .ptr 0 0] (some (.box [.int .i64 (40 - (n : Int))])) (.tup [.str s, .int .i64 0]) := E
    clear hk
    by_cases hb : 20000 < s.length
    · simp only [if_pos hb]
      repeat' (first | refine a_f ?_ | refine st_nil ?_ | refine tri_seq ?_ | refine tri_region rfl ?_ | refine a_draw ?_ | (apply st_r rfl; case hq => first | exact q_loada (n := 4) (by conv => lhs; whnf) (by conv => lhs; whnf; arg 1; whnf) (by conv => lhs; whnf) (by first | rfl | exact Nat.le_of_ble_eq_true rfl | exact Nat.succ_pos _ | decide) (by show aggB Tryz.prog _ _ = true; decide +kernel) | exact a_q) | (apply st_rif rfl; (case hq => first | exact a_i); all_goals (intro _; try (exfalso; first | omega | contradiction))) | (apply st_rw rfl rfl; case hq => first | exact w_box (d := 1) 101 (by conv => lhs; whnf) rfl (by conv => lhs; whnf) rfl rfl rfl | exact w_alloc (d := 4) 104 (by exact zInt) rfl rfl rfl | exact w_call (id := 104) E (hcf := Tryz.call33) (by rfl) rfl rfl rfl rfl rfl | exact a_store) | refine tri_true rfl ?_ | refine tri_false rfl ?_ | refine tri_block ?_ | refine tri_skip ?_ | refine tri_ret ?_ | refine tri_exit ?_)
      refine And.intro trivial ?_
      conv => lhs; whnf
      try rfl
    · simp only [if_neg hb]
      repeat' (first | refine a_f ?_ | refine st_nil ?_ | refine tri_seq ?_ | refine tri_region rfl ?_ | refine a_draw ?_ | (apply st_r rfl; case hq => first | exact q_loada (n := 4) (by conv => lhs; whnf) (by conv => lhs; whnf; arg 1; whnf) (by conv => lhs; whnf) (by first | rfl | exact Nat.le_of_ble_eq_true rfl | exact Nat.succ_pos _ | decide) (by show aggB Tryz.prog _ _ = true; decide +kernel) | exact a_q) | (apply st_rif rfl; (case hq => first | exact a_i); all_goals (intro _; try (exfalso; first | omega | contradiction))) | (apply st_rw rfl rfl; case hq => first | exact w_box (d := 1) 101 (by conv => lhs; whnf) rfl (by conv => lhs; whnf) rfl rfl rfl | exact w_alloc (d := 4) 104 (by exact zInt) rfl rfl rfl | exact w_call (id := 104) E (hcf := Tryz.call33) (by rfl) rfl rfl rfl rfl rfl | exact a_store) | refine tri_true rfl ?_ | refine tri_false rfl ?_ | refine tri_block ?_ | refine tri_skip ?_ | refine tri_ret ?_ | refine tri_exit ?_)
      refine And.intro trivial ?_
      conv => lhs; whnf
      try rfl
end Go.Proofs.YtignjjnflcpiiaaGreatDoor
