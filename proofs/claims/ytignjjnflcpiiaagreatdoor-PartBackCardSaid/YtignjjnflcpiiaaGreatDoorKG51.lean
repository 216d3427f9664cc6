import Derived.Test.YtignjjnflcpiiaaGreatDoorKBackA
import Derived.Test.YtignjjnflcpiiaaGreatDoorKBackB
import Derived.Test.YtignjjnflcpiiaaGreatDoorKG48
import Derived.Test.YtignjjnflcpiiaaGreatDoorKWrtJ
import Derived.Test.YtignjjnflcpiiaaGreatDoorCards
import Derived.Test.YtignjjnflcpiiaaGreatDoorKG29
import Derived.OpenShut
import Derived.MakeChecks
import Derived.LaidSub
set_option linter.unusedVariables false
set_option linter.unusedSimpArgs false
set_option maxHeartbeats 1000000
namespace Go.Proofs.YtignjjnflcpiiaaGreatDoor
open Go.RowKit
attribute [local irreducible] Tri Steps Qd Wr Weak CPure CEff CutN
set_option maxRecDepth 100000
theorem wtop_ok {hd : Fs} {bd : B} {m : Bool} {ps : List PT} (hf : Fit (.mk hd bd m ps)) {t : B} (h : writeTop (.mk hd bd m ps) = .ok t) : CPure gxp 11 [.agg [.ro false 2 (fieldRows hd), .str bd, .bool m, .pts false ps]] (.tup [.str t, .nili]) := by
  have := partWrite_c hd bd m ps hf
  rw [h] at this
  exact this
theorem wtop_err {hd : Fs} {bd : B} {m : Bool} {ps : List PT} (hf : Fit (.mk hd bd m ps)) {e : Nat} (h : writeTop (.mk hd bd m ps) = .err e) : CPure gxp 11 [.agg [.ro false 2 (fieldRows hd), .str bd, .bool m, .pts false ps]] (.tup [.str [], .iface 28 (.int .i64 (e : Int))]) := by
  have := partWrite_c hd bd m ps hf
  rw [h] at this
  exact this
set_option maxHeartbeats 32000000 in
theorem partBack_c (p : PT) (s : B) (hp : ∀ k, BigD k p) (hs : s.length ≤ 140737488351232) : CPure gxp 4 [.agg [.ro false 2 (fieldRows p.head), .str p.body, .bool p.many, .pts false p.parts], .str s] (.bool true) := by
  have E := (ksmall_e 7 60 p (Nat.le_refl _) (Nat.le_refl _) (hp 7)) 0 (by decide)
  have hft := @small_fit p
  obtain ⟨hd, bd, m, ps⟩ := p
  change CPure gxp 4 [.agg [.ro false 2 (fieldRows hd), .str bd, .bool m, .pts false ps], .str s] (.bool true)
  refine cpure_of Tryz.func4 rfl (Nat.le_of_ble_eq_true rfl) rfl (fun w hw => ?_)
  cases hsm : smallF 7 60 (.mk hd bd m ps) with
  | none =>
    rw [hsm] at E
    have E : CEff gxp 13 (.box [.int .i64 60]) [.agg [.ro false 2 (fieldRows hd), .str bd, .bool m, .pts false ps], .int .i64 0, .ptr 0 0] (some (.box [.any])) (.bool false) := CEff.q E
    repeat' (first | refine a_f ?_ | refine st_nil ?_ | refine tri_seq ?_ | refine tri_region rfl ?_ | refine a_draw ?_ | (apply st_r rfl; case hq => first | exact q_loada (n := 4) (by conv => lhs; whnf) (by conv => lhs; whnf; arg 1; whnf) (by conv => lhs; whnf) (by first | rfl | exact Nat.le_of_ble_eq_true rfl | exact Nat.succ_pos _ | decide) (by show aggB Tryz.prog _ _ = true; decide +kernel) | exact a_q) | (apply st_rif rfl; (case hq => first | exact a_i); all_goals (intro _; try (exfalso; first | omega | contradiction))) | (apply st_rw rfl rfl; case hq => first | exact w_box (d := 2) 102 (by conv => lhs; whnf) rfl (by conv => lhs; whnf) rfl rfl rfl | exact w_alloc (d := 5) 105 (by exact zInt) rfl rfl rfl | exact w_alloc (d := 7) 107 (by exact zPartK) rfl rfl rfl | exact w_call (id := 105) E (hcf := Tryz.call13) (by rfl) rfl rfl rfl rfl rfl | exact w_bspt (d := 27) (f := false) (p := .mk hd bd m ps) 127 (by rfl) Tryz.underlying23 (by kernel_rfl) (by kernel_rfl) rfl rfl | exact w_appendp (id := 127) (by conv => lhs; whnf) (by rfl) (by rfl) Tryz.underlying23 (by kernel_rfl) (by simp) rfl (by simp only [List.length_cons, List.length_nil]; omega) rfl rfl | exact a_store) | refine tri_true rfl ?_ | refine tri_false rfl ?_ | refine tri_block ?_ | refine tri_skip ?_ | refine tri_ret ?_ | refine tri_exit ?_)
    refine And.intro trivial ?_
    conv => lhs; whnf
    try rfl
  | some n =>
    have hf := hft hsm
    rw [hsm] at E
    have E : CEff gxp 13 (.box [.int .i64 60]) [.agg [.ro false 2 (fieldRows hd), .str bd, .bool m, .pts false ps], .int .i64 0, .ptr 0 0] (some (.box [.int .i64 (n : Int)])) (.bool true) := CEff.q E
    clear hft hsm
    by_cases h25 : 2500 < s.length
    · clear hf
      repeat' (first | refine a_f ?_ | refine st_nil ?_ | refine tri_seq ?_ | refine tri_region rfl ?_ | refine a_draw ?_ | (apply st_r rfl; case hq => first | exact q_loada (n := 4) (by conv => lhs; whnf) (by conv => lhs; whnf; arg 1; whnf) (by conv => lhs; whnf) (by first | rfl | exact Nat.le_of_ble_eq_true rfl | exact Nat.succ_pos _ | decide) (by show aggB Tryz.prog _ _ = true; decide +kernel) | exact a_q) | (apply st_rif rfl; (case hq => first | exact a_i); all_goals (intro _; try (exfalso; first | omega | contradiction))) | (apply st_rw rfl rfl; case hq => first | exact w_box (d := 2) 102 (by conv => lhs; whnf) rfl (by conv => lhs; whnf) rfl rfl rfl | exact w_alloc (d := 5) 105 (by exact zInt) rfl rfl rfl | exact w_alloc (d := 7) 107 (by exact zPartK) rfl rfl rfl | exact w_call (id := 105) E (hcf := Tryz.call13) (by rfl) rfl rfl rfl rfl rfl | exact w_bspt (d := 27) (f := false) (p := .mk hd bd m ps) 127 (by rfl) Tryz.underlying23 (by kernel_rfl) (by kernel_rfl) rfl rfl | exact w_appendp (id := 127) (by conv => lhs; whnf) (by rfl) (by rfl) Tryz.underlying23 (by kernel_rfl) (by simp) rfl (by simp only [List.length_cons, List.length_nil]; omega) rfl rfl | exact a_store) | refine tri_true rfl ?_ | refine tri_false rfl ?_ | refine tri_block ?_ | refine tri_skip ?_ | refine tri_ret ?_ | refine tri_exit ?_)
      refine And.intro trivial ?_
      conv => lhs; whnf
      try rfl
    have K1 := parted_c.p
    have R1 := (partRead_c s (by omega)).p
    refine tri_cutN (fun (l : List PT) => (∀ x ∈ l, Fit x) ∧ l.length ≤ 2) (fun l => st [(4, .bool false), (6, .pts false l)] []) 6 ?_ (fun l hl => ?_)
    · cases hr : readTop s with
      | err e =>
        rw [hr] at R1
        have R1 : CPure gxp 15 [.str s] (.tup [.agg [.ro true 2 (fieldRows []), .str [], .bool false, .pts true []], .iface 28 (.int .i64 (e : Int))]) := R1
        generalize fieldRows [] = fr0 at R1
        generalize ([] : List PT) = pt0 at R1
        clear hr
        repeat' (first | refine a_f ?_ | refine st_nil ?_ | refine tri_seq ?_ | refine tri_region rfl ?_ | refine cut_s ?_ | refine a_draw ?_ | (apply st_r rfl; case hq => first | exact q_loada (n := 4) (by conv => lhs; whnf) (by conv => lhs; whnf; arg 1; whnf) (by conv => lhs; whnf) (by first | rfl | exact Nat.le_of_ble_eq_true rfl | exact Nat.succ_pos _ | decide) (by show aggB Tryz.prog _ _ = true; decide +kernel) | exact q_call K1 (hcf := Tryz.call14) rfl rfl | exact q_call R1 (hcf := Tryz.call15) rfl rfl | exact q_eqif (by conv => lhs; whnf) Tryz.underlying32 | exact a_q) | (apply st_rif rfl; (case hq => first | exact a_i); all_goals (intro _; try (exfalso; first | omega | contradiction))) | (apply st_rw rfl rfl; case hq => first | exact w_box (d := 2) 102 (by conv => lhs; whnf) rfl (by conv => lhs; whnf) rfl rfl rfl | exact w_alloc (d := 5) 105 (by exact zInt) rfl rfl rfl | exact w_alloc (d := 7) 107 (by exact zPartK) rfl rfl rfl | exact w_call (id := 105) E (hcf := Tryz.call13) (by rfl) rfl rfl rfl rfl rfl | exact w_bspt (d := 27) (f := false) (p := .mk hd bd m ps) 127 (by rfl) Tryz.underlying23 (by kernel_rfl) (by kernel_rfl) rfl rfl | exact w_appendp (id := 127) (by conv => lhs; whnf) (by rfl) (by rfl) Tryz.underlying23 (by kernel_rfl) (by simp) rfl (by simp only [List.length_cons, List.length_nil]; omega) rfl rfl | exact a_store) | refine tri_true rfl ?_ | refine tri_false rfl ?_ | refine tri_block ?_ | refine tri_skip ?_ | refine tri_ret ?_ | refine tri_exit ?_)
        exact cut_z [.mk hd bd m ps] ⟨fun x hx => by rw [List.mem_singleton.1 hx]; exact hf, by simp⟩ ((weak_freezep 6 127 rfl rfl rfl).trans (weak_st ⟨rfl, rfl, trivial⟩ trivial))
      | ok q =>
        rw [hr] at R1
        obtain ⟨hfq, hwq⟩ := read_tell hr
        obtain ⟨qh, qb, qm, qp⟩ := q
        have R1 : CPure gxp 15 [.str s] (.tup [.agg [.ro true 2 (fieldRows qh), .str qb, .bool qm, .pts true qp], .nili]) := R1
        have hJ : (∀ x ∈ [PT.mk hd bd m ps, PT.mk qh qb qm qp], Fit x) ∧ [PT.mk hd bd m ps, PT.mk qh qb qm qp].length ≤ 2 := ⟨fun x hx => by
          rcases List.mem_cons.1 hx with rfl | hx
          · exact hf
          · rw [List.mem_singleton.1 hx]; exact hfq, by simp⟩
        rcases hwq with ⟨t, ht⟩ | ht
        · have P1 := wtop_ok hfq ht
          clear ht hr hfq hf
          repeat' (first | refine a_f ?_ | refine st_nil ?_ | refine tri_seq ?_ | refine tri_region rfl ?_ | refine cut_s ?_ | refine a_draw ?_ | (apply st_r rfl; case hq => first | exact q_bspt (fr := true) (p := .mk qh qb qm qp) Tryz.underlying23 (by kernel_rfl) (by kernel_rfl) (by rfl) | exact q_loada (n := 4) (by conv => lhs; whnf) (by conv => lhs; whnf; arg 1; whnf) (by conv => lhs; whnf) (by first | rfl | exact Nat.le_of_ble_eq_true rfl | exact Nat.succ_pos _ | decide) (by show aggB Tryz.prog _ _ = true; decide +kernel) | exact q_call K1 (hcf := Tryz.call14) rfl rfl | exact q_call R1 (hcf := Tryz.call15) rfl rfl | exact q_call P1 (hcf := Tryz.call11) rfl rfl | exact q_eqnil (by rfl) Tryz.underlying32 | exact q_nenil (by rfl) Tryz.underlying32 | exact a_q) | (apply st_rif rfl; (case hq => first | exact a_i); all_goals (intro _; try (exfalso; first | omega | contradiction))) | (apply st_rw rfl rfl; case hq => first | exact w_box (d := 2) 102 (by conv => lhs; whnf) rfl (by conv => lhs; whnf) rfl rfl rfl | exact w_alloc (d := 5) 105 (by exact zInt) rfl rfl rfl | exact w_alloc (d := 7) 107 (by exact zPartK) rfl rfl rfl | exact w_call (id := 105) E (hcf := Tryz.call13) (by rfl) rfl rfl rfl rfl rfl | exact w_bspt (d := 27) (f := false) (p := .mk hd bd m ps) 127 (by rfl) Tryz.underlying23 (by kernel_rfl) (by kernel_rfl) rfl rfl | exact w_appendp (id := 127) (by conv => lhs; whnf) (by rfl) (by rfl) Tryz.underlying23 (by kernel_rfl) (by simp) rfl (by simp only [List.length_cons, List.length_nil]; omega) rfl rfl | exact a_store) | refine tri_true rfl ?_ | refine tri_false rfl ?_ | refine tri_block ?_ | refine tri_skip ?_ | refine tri_ret ?_ | refine tri_exit ?_)
          exact cut_z [.mk hd bd m ps, .mk qh qb qm qp] hJ ((weak_freezep 6 127 rfl rfl rfl).trans (weak_st ⟨rfl, rfl, trivial⟩ trivial))
        · have P1 : CPure gxp 11 [.agg [.ro false 2 (fieldRows qh), .str qb, .bool qm, .pts false qp]] (.tup [.str [], .iface 28 (.int .i64 4)]) := wtop_err hfq ht
          have T1 := (tell_no_c 4).eo.p
          clear ht hr hfq hf
          repeat' (first | refine a_f ?_ | refine st_nil ?_ | refine tri_seq ?_ | refine tri_region rfl ?_ | refine cut_s ?_ | refine a_draw ?_ | (apply st_r rfl; case hq => first | exact q_bspt (fr := true) (p := .mk qh qb qm qp) Tryz.underlying23 (by kernel_rfl) (by kernel_rfl) (by rfl) | exact q_loada (n := 4) (by conv => lhs; whnf) (by conv => lhs; whnf; arg 1; whnf) (by conv => lhs; whnf) (by first | rfl | exact Nat.le_of_ble_eq_true rfl | exact Nat.succ_pos _ | decide) (by show aggB Tryz.prog _ _ = true; decide +kernel) | exact q_call K1 (hcf := Tryz.call14) rfl rfl | exact q_call R1 (hcf := Tryz.call15) rfl rfl | exact q_call P1 (hcf := Tryz.call11) rfl rfl | exact q_call T1 (hcf := Tryz.call16) rfl rfl | exact q_eqnil (by rfl) Tryz.underlying32 | exact q_neif (by conv => lhs; whnf) Tryz.underlying32 | exact q_neis (by conv => lhs; whnf) (by rfl) | exact a_q) | (apply st_rif rfl; (case hq => first | exact a_i); all_goals (intro _; try (exfalso; first | omega | contradiction))) | (apply st_rw rfl rfl; case hq => first | exact w_box (d := 2) 102 (by conv => lhs; whnf) rfl (by conv => lhs; whnf) rfl rfl rfl | exact w_alloc (d := 5) 105 (by exact zInt) rfl rfl rfl | exact w_alloc (d := 7) 107 (by exact zPartK) rfl rfl rfl | exact w_call (id := 105) E (hcf := Tryz.call13) (by rfl) rfl rfl rfl rfl rfl | exact w_bspt (d := 27) (f := false) (p := .mk hd bd m ps) 127 (by rfl) Tryz.underlying23 (by kernel_rfl) (by kernel_rfl) rfl rfl | exact w_appendp (id := 127) (by conv => lhs; whnf) (by rfl) (by rfl) Tryz.underlying23 (by kernel_rfl) (by simp) rfl (by simp only [List.length_cons, List.length_nil]; omega) rfl rfl | exact a_store) | refine tri_true rfl ?_ | refine tri_false rfl ?_ | refine tri_block ?_ | refine tri_skip ?_ | refine tri_ret ?_ | refine tri_exit ?_)
          exact cut_z [.mk hd bd m ps, .mk qh qb qm qp] hJ ((weak_freezep 6 127 rfl rfl rfl).trans (weak_st ⟨rfl, rfl, trivial⟩ trivial))
    obtain ⟨hl, hl2⟩ := hl
    clear E R1 K1 hf
    repeat' (first | refine a_f ?_ | refine st_nil ?_ | refine tri_seq ?_ | refine tri_region rfl ?_ | refine a_draw ?_ | (apply st_r rfl; case hq => first | exact a_q) | (apply st_rif rfl; (case hq => first | exact a_i); all_goals (intro _; try (exfalso; first | omega | contradiction))) | (apply st_rw rfl rfl; case hq => first | exact a_store) | refine tri_true rfl ?_ | refine tri_false rfl ?_ | refine tri_block ?_ | refine tri_skip ?_ | refine tri_ret ?_ | refine tri_exit ?_)
    refine tri_loop (fun (i : Nat) => i ≤ l.length) (fun i => st [(4, .bool false), (6, .pts false l), (11, .int .i64 i)] []) (fun i => l.length - i) 0 (Nat.zero_le _) ?hw (fun i hi => ?_)
    case hw => exact weak_st ⟨rfl, rfl, rfl, trivial⟩ trivial
    by_cases hil : i < l.length
    · have hq1 : l[(i : Int).toNat]? = some l[i] := by rw [Int.toNat_natCast]; exact List.getElem?_eq_getElem hil
      have hfx := hl _ (List.getElem_mem hil)
      generalize l[i] = x at hq1 hfx
      have hbk := @back_one x
      obtain ⟨xh, xb, xm, xp⟩ := x
      cases hw : writeTop (.mk xh xb xm xp) with
      | err e =>
        have P1 := wtop_err hfx hw
        clear hw hbk hfx hl
        repeat' (first | refine a_f ?_ | refine st_nil ?_ | refine tri_seq ?_ | refine tri_region rfl ?_ | refine a_draw ?_ | (apply st_r rfl; case hq => first | exact q_lenpts (fr := false) (l := l) (by rfl) Tryz.underlying23 | exact q_idxpts (fr := false) (l := l) (p := .mk xh xb xm xp) (by rfl) (by conv => lhs; whnf) Tryz.underlying23 (by kernel_rfl) (by omega) hq1 | exact q_loadar (n := 4) (by conv => lhs; whnf) (by conv => lhs; whnf) (by first | rfl | exact Nat.le_of_ble_eq_true rfl | exact Nat.succ_pos _ | decide) (by kernel_rfl) (fun _ => rfl) | exact q_loada (n := 4) (by conv => lhs; whnf) (by conv => lhs; whnf; arg 1; whnf) (by conv => lhs; whnf) (by first | rfl | exact Nat.le_of_ble_eq_true rfl | exact Nat.succ_pos _ | decide) (by show aggB Tryz.prog _ _ = true; decide +kernel) | exact q_call P1 (hcf := Tryz.call11) rfl rfl | exact q_neif (by conv => lhs; whnf) Tryz.underlying32 | exact a_q) | (apply st_rif rfl; (case hq => first | exact a_i); all_goals (intro _; try (exfalso; first | omega | contradiction))) | (apply st_rw rfl rfl; case hq => first | exact a_store) | refine tri_true rfl ?_ | refine tri_false rfl ?_ | refine tri_block ?_ | refine tri_skip ?_ | refine tri_ret ?_ | refine tri_exit ?_)
        exact nextR (i + 1) (by omega) (weak_st ⟨rfl, rfl, rfl, trivial⟩ trivial) (show l.length - (i + 1) < l.length - i by omega)
      | ok t =>
        have P1 := wtop_ok hfx hw
        obtain ⟨htl, r, hr1, hr2, hr3, hn1, hn2, hfr⟩ := hbk hfx hw
        have L1 := (likes_c 4 _ _ hn1 hn2 hr3).q
        have R1 := (partRead_c t (by omega)).p
        rw [hr1] at R1
        obtain ⟨rh, rb, rm, rp⟩ := r
        have P2 := wtop_ok hfr hr2
        have R1 : CPure gxp 15 [.str t] (.tup [.agg [.ro true 2 (fieldRows rh), .str rb, .bool rm, .pts true rp], .nili]) := R1
        have L1 : CPure gxp 17 [.agg [.ro false 2 (fieldRows xh), .str xb, .bool xm, .pts false xp], .agg [.ro false 2 (fieldRows rh), .str rb, .bool rm, .pts false rp]] (.bool true) := L1
        clear hw hbk hfx hl hr1 hr2 hr3 hn1 hn2 hfr
        repeat' (first | refine a_f ?_ | refine st_nil ?_ | refine tri_seq ?_ | refine tri_region rfl ?_ | refine a_draw ?_ | (apply st_r rfl; case hq => first | exact q_lenpts (fr := false) (l := l) (by rfl) Tryz.underlying23 | exact q_idxpts (fr := false) (l := l) (p := .mk xh xb xm xp) (by rfl) (by conv => lhs; whnf) Tryz.underlying23 (by kernel_rfl) (by omega) hq1 | exact q_loadar (n := 4) (by conv => lhs; whnf) (by conv => lhs; whnf) (by first | rfl | exact Nat.le_of_ble_eq_true rfl | exact Nat.succ_pos _ | decide) (by kernel_rfl) (fun _ => rfl) | exact q_loada (n := 4) (by conv => lhs; whnf) (by conv => lhs; whnf; arg 1; whnf) (by conv => lhs; whnf) (by first | rfl | exact Nat.le_of_ble_eq_true rfl | exact Nat.succ_pos _ | decide) (by show aggB Tryz.prog _ _ = true; decide +kernel) | exact q_call P1 (hcf := Tryz.call11) rfl rfl | exact q_call P2 (hcf := Tryz.call11) rfl rfl | exact q_call R1 (hcf := Tryz.call15) rfl rfl | exact q_call L1 (hcf := Tryz.call17) rfl rfl | exact q_nenil (by rfl) Tryz.underlying32 | exact q_ness (by conv => lhs; whnf) (by rfl) | exact a_q) | (apply st_rif rfl; (case hq => first | exact a_i); all_goals (intro _; try (exfalso; first | omega | contradiction))) | (apply st_rw rfl rfl; case hq => first | exact w_alloc (d := 14) 114 (by exact zPartK) rfl rfl rfl | exact a_store) | refine tri_true rfl ?_ | refine tri_false rfl ?_ | refine tri_block ?_ | refine tri_skip ?_ | refine tri_ret ?_ | refine tri_exit ?_)
        exact nextR (i + 1) (by omega) (weak_st ⟨rfl, rfl, rfl, trivial⟩ trivial) (show l.length - (i + 1) < l.length - i by omega)
    · repeat' (first | refine a_f ?_ | refine st_nil ?_ | refine tri_seq ?_ | refine tri_region rfl ?_ | refine a_draw ?_ | (apply st_r rfl; case hq => first | exact q_lenpts (fr := false) (l := l) (by rfl) Tryz.underlying23 | exact a_q) | (apply st_rif rfl; (case hq => first | exact a_i); all_goals (intro _; try (exfalso; first | omega | contradiction))) | (apply st_rw rfl rfl; case hq => first | exact a_store) | refine tri_true rfl ?_ | refine tri_false rfl ?_ | refine tri_block ?_ | refine tri_skip ?_ | refine tri_ret ?_ | refine tri_exit ?_)
      refine And.intro trivial ?_
      conv => lhs; whnf
      try rfl
end Go.Proofs.YtignjjnflcpiiaaGreatDoor
namespace Go.Proofs.YtignjjnflcpiiaaGreatDoor
open Go.ChangeShapes Go.WideShapes Go.ChangeAt Go.RowKit
set_option maxRecDepth 100000
def oursD : List (DataW Unit) := [.lit (.string ctN), .lit (.string ceN)]
theorem byte_eqO {z : ByteArray} {l : List UInt8} (h : z.data.toList = l) : z = ⟨l.toArray⟩ := by
  subst h
  cases z
  simp
theorem ours_of {W : World} (h : laidMet Tryz.prog [("bindery/part.ours", Rows.laid_bindery_part_ours)] W) : OursVar W := by
  obtain ⟨ps, ⟨g, t, cs, fuel, p, q, hg, ht, hv, hd, _, _⟩, _⟩ := h
  obtain rfl := Option.some.inj ((show Tryz.prog.globalNamed "bindery/part.ours" = some 1 by kernel_rfl).symm.trans hg)
  obtain rfl := Option.some.inj ((show (Tryz.prog.globals[1]?).map (·.type) = some 109 by kernel_rfl).symm.trans ht)
  have c1 : Tryz.prog.cellsOf 9 = 1 := by kernel_rfl
  obtain ⟨ys, m', _, ey, hleny, hyl, hely⟩ := DataW.trod_array Tryz.underlying109 hd
  have e3 : (ys.map (·.1)) = oursD := (DataW.agg.inj (Prod.mk.inj ey).1).symm
  have key : ∀ j, j < 2 → ∃ z : ByteArray, W.cell? ⟨1, j, none⟩ = some (.string z) ∧ oursD[j]? = some (.lit (.string z.data.toList)) := by
    intro j hj
    have hF := hely j hj
    rw [c1, Nat.mul_one, List.getElem?_eq_getElem (by omega)] at hF
    obtain ⟨z, f1, f2, _⟩ := DataW.trod_string Tryz.underlying9 hF
    have h0 : (cs.toList.drop j)[0]? = some (.string z) := by
      have : ((cs.toList.drop j).take 1)[0]? = some (.string z) := by rw [f1]; rfl
      simpa using this
    have h1 : cs[j]? = some (.string z) := by
      rw [List.getElem?_drop] at h0
      simpa using h0
    refine ⟨z, ?_, ?_⟩
    · rw [World.var?_cell hg hv, h1]
    · rw [← e3, List.getElem?_map, List.getElem?_eq_getElem (by omega : j < ys.length), f2]; rfl
  obtain ⟨z0, a0, b0⟩ := key 0 (by decide)
  obtain ⟨z1, a1, b1⟩ := key 1 (by decide)
  refine ⟨?_, ?_⟩
  · rw [a0, byte_eqO (Lit.string.inj (DataW.lit.inj (Option.some.inj b0))).symm]
  · rw [a1, byte_eqO (Lit.string.inj (DataW.lit.inj (Option.some.inj b1))).symm]
theorem ours_row {W : World} {l : List (String × DataW Unit)} (h : laidMetH Tryz.prog l W) (e : (l.filter fun x => x.1 == "bindery/part.ours") = [("bindery/part.ours", Rows.laid_bindery_part_ours)]) : OursVar W := by
  have h1 := h.filter (fun x => x.1 == "bindery/part.ours")
  rw [e, MakeChecks.laidMetH_plain _ _ _ (by kernel_rfl)] at h1
  exact ours_of h1
end Go.Proofs.YtignjjnflcpiiaaGreatDoor
