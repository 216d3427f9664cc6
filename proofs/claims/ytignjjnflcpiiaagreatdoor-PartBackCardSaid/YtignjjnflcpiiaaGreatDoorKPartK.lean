import Derived.Test.YtignjjnflcpiiaaGreatDoorKG42
set_option linter.unusedVariables false
set_option linter.unusedSimpArgs false
set_option maxHeartbeats 1000000
namespace Go.Proofs.YtignjjnflcpiiaaGreatDoor
open Go.RowKit
attribute [local irreducible] Tri Steps Qd Wr Weak CPure CEff
set_option maxRecDepth 100000
abbrev PtT : Nat := 25
theorem zInt : zeroL Tryz.prog 3 = some [.int .i64 0] := by kernel_rfl
theorem zPartK : zeroL Tryz.prog 25 = some [.nils, .str [], .bool false, .nils] := by kernel_rfl
def RdOk (d left : Nat) (s : B) : Prop := ∃ p0, ∀ dep : Int, dep = 5 - (d : Int) → CEff gxo 36 (.box [.int .i64 (left : Int)]) [.str s, .int .i64 dep, .ptr 0 0] (some (.box [prCell (readPt d left s)])) (prAV p0 (readPt d left s))
set_option maxHeartbeats 8000000 in
theorem pread_lim {d left : Nat} {s : B} (hd : d = 0 ∨ left = 0) (hd4 : d ≤ 4) (hl : left ≤ 40) : ∀ dep : Int, dep = 5 - (d : Int) → CEff gxo 36 (.box [.int .i64 (left : Int)]) [.str s, .int .i64 dep, .ptr 0 0] (some (.box [.any])) (prAV pt0 (.err 4)) := by
  intro dep hdep
  refine CEff.up ?_ (up_zero 4)
  refine ceff_ofb Tryz.func36 rfl (Nat.le_of_ble_eq_true rfl) (fun w γ hw hM => ?_)
  refine tri_postE ?_
  rcases hd with hd | hd
  · by_cases h0 : left = 0
    all_goals
      repeat' (first | refine a_f ?_ | refine st_nil ?_ | refine tri_seq ?_ | refine tri_region rfl ?_ | refine a_draw ?_ | (apply st_r rfl; case hq => first | exact q_build0 zPartK rfl (by kernel_rfl) | exact a_q) | (apply st_rif rfl; (case hq => first | exact a_i); all_goals (intro _; try (exfalso; first | omega | contradiction))) | (apply st_rw rfl rfl; case hq => first | exact w_alloc (d := 6) 106 (by exact zPartK) rfl rfl rfl | exact a_store) | refine tri_true rfl ?_ | refine tri_false rfl ?_ | refine tri_block ?_ | refine tri_skip ?_ | refine tri_ret ?_ | refine tri_exit ?_)
      exact ⟨_, weak_boxany 0 rfl, ⟨⟨106, _, rfl, rfl, by kernel_rfl⟩, trivial⟩, by (conv => lhs; whnf); rfl, rfl⟩
  · repeat' (first | refine a_f ?_ | refine st_nil ?_ | refine tri_seq ?_ | refine tri_region rfl ?_ | refine a_draw ?_ | (apply st_r rfl; case hq => first | exact q_build0 zPartK rfl (by kernel_rfl) | exact a_q) | (apply st_rif rfl; (case hq => first | exact a_i); all_goals (intro _; try (exfalso; first | omega | contradiction))) | (apply st_rw rfl rfl; case hq => first | exact w_alloc (d := 6) 106 (by exact zPartK) rfl rfl rfl | exact a_store) | refine tri_true rfl ?_ | refine tri_false rfl ?_ | refine tri_block ?_ | refine tri_skip ?_ | refine tri_ret ?_ | refine tri_exit ?_)
    exact ⟨_, weak_boxany 0 rfl, ⟨⟨106, _, rfl, rfl, by kernel_rfl⟩, trivial⟩, by (conv => lhs; whnf); rfl, rfl⟩
section
variable {d left : Nat} {s : B} (hd4 : d + 1 ≤ 4) (hl : left + 1 ≤ 40) (hs : s.length ≤ 1000000)
include hd4 hl hs
set_option maxHeartbeats 8000000 in
/-- a head that cannot be read, or may not be -/
theorem pread_head {n : Nat} (h : readH s = .bad n) : ∀ dep : Int, dep = 5 - ((d + 1 : Nat) : Int) → CEff gxo 36 (.box [.int .i64 ((left + 1 : Nat) : Int)]) [.str s, .int .i64 dep, .ptr 0 0] (some (.box [.any])) (prAV pt0 (.err 3)) := by
  intro dep hdep
  refine CEff.up ?_ (up_zero 3)
  refine ceff_ofb Tryz.func36 rfl (Nat.le_of_ble_eq_true rfl) (fun w γ hw hM => ?_)
  refine tri_postE ?_
  have R1 : CPure gxo 83 [.str s] (.tup [.nils, .str [], .iface 98 (.rptr true [.int .i64 3, .int .i64 n])]) := by
    have := (read_c s hs).o
    rw [h] at this
    exact this
  have T1 := (tell_at_c false 3 n).eo
  repeat' (first | refine a_f ?_ | refine st_nil ?_ | refine tri_seq ?_ | refine tri_region rfl ?_ | refine a_draw ?_ | (apply st_r rfl; case hq => first | exact q_build0 zPartK rfl (by kernel_rfl) | exact q_call R1 (hcf := Tryz.call83) rfl rfl | exact q_call T1 (hcf := Tryz.call16) rfl rfl | exact q_eqif (by conv => lhs; whnf) Tryz.underlying32 | exact q_neif (by conv => lhs; whnf) Tryz.underlying32 | exact a_q) | (apply st_rif rfl; (case hq => first | exact a_i); all_goals (intro _; try (exfalso; first | omega | contradiction))) | (apply st_rw rfl rfl; case hq => first | exact w_alloc (d := 6) 106 (by exact zPartK) rfl rfl rfl | exact a_store) | refine tri_true rfl ?_ | refine tri_false rfl ?_ | refine tri_block ?_ | refine tri_skip ?_ | refine tri_ret ?_ | refine tri_exit ?_)
  exact ⟨_, weak_boxany 0 rfl, ⟨⟨106, _, rfl, rfl, by kernel_rfl⟩, trivial⟩, by (conv => lhs; whnf); rfl, rfl⟩
variable {l0 : Fs} {body : B} (h1 : readH s = .ok l0 body)
include h1
set_option maxHeartbeats 8000000 in
theorem pread_clean {n : Nat} (h : cleanF l0 = .bad n) : ∀ dep : Int, dep = 5 - ((d + 1 : Nat) : Int) → CEff gxo 36 (.box [.int .i64 ((left + 1 : Nat) : Int)]) [.str s, .int .i64 dep, .ptr 0 0] (some (.box [.any])) (prAV pt0 (.err 1)) := by
  intro dep hdep
  refine CEff.up ?_ (up_zero 1)
  refine ceff_ofb Tryz.func36 rfl (Nat.le_of_ble_eq_true rfl) (fun w γ hw hM => ?_)
  refine tri_postE ?_
  have R1 : CPure gxo 83 [.str s] (.tup [.ro true 2 (fieldRows l0), .str body, .nili]) := by
    have := (read_c s hs).o
    rw [h1] at this
    exact this
  have C1 : CPure gxo 84 [.ro false 2 (fieldRows l0)] (.tup [.nils, .iface 98 (.rptr true [.int .i64 1, .int .i64 n])]) := by
    have := (clean_c l0 (readH_small h1 hs).1).o
    rw [h] at this
    exact this
  have T1 := (tell_at_c false 1 n).eo
  repeat' (first | refine a_f ?_ | refine st_nil ?_ | refine tri_seq ?_ | refine tri_region rfl ?_ | refine a_draw ?_ | (apply st_r rfl; case hq => first | exact q_build0 zPartK rfl (by kernel_rfl) | exact q_call R1 (hcf := Tryz.call83) rfl rfl | exact q_call C1 (hcf := Tryz.call84) rfl rfl | exact q_call T1 (hcf := Tryz.call16) rfl rfl | exact q_eqnil (by rfl) Tryz.underlying32 | exact q_neif (by conv => lhs; whnf) Tryz.underlying32 | exact a_q) | (apply st_rif rfl; (case hq => first | exact a_i); all_goals (intro _; try (exfalso; first | omega | contradiction))) | (apply st_rw rfl rfl; case hq => first | exact w_alloc (d := 6) 106 (by exact zPartK) rfl rfl rfl | exact a_store) | refine tri_true rfl ?_ | refine tri_false rfl ?_ | refine tri_block ?_ | refine tri_skip ?_ | refine tri_ret ?_ | refine tri_exit ?_)
  exact ⟨_, weak_boxany 0 rfl, ⟨⟨106, _, rfl, rfl, by kernel_rfl⟩, trivial⟩, by (conv => lhs; whnf); rfl, rfl⟩
variable {l : Fs} (h2 : cleanF l0 = .ok l)
include h2
set_option maxHeartbeats 8000000 in
theorem pread_bnd (h : bndF l = none) : ∀ dep : Int, dep = 5 - ((d + 1 : Nat) : Int) → CEff gxo 36 (.box [.int .i64 ((left + 1 : Nat) : Int)]) [.str s, .int .i64 dep, .ptr 0 0] (some (.box [.any])) (prAV pt0 (.err 3)) := by
  intro dep hdep
  refine CEff.up ?_ (up_zero 3)
  refine ceff_ofb Tryz.func36 rfl (Nat.le_of_ble_eq_true rfl) (fun w γ hw hM => ?_)
  refine tri_postE ?_
  have R1 : CPure gxo 83 [.str s] (.tup [.ro true 2 (fieldRows l0), .str body, .nili]) := by
    have := (read_c s hs).o
    rw [h1] at this
    exact this
  have hl0 := (readH_small h1 hs).1
  have C1 : CPure gxo 84 [.ro false 2 (fieldRows l0)] (.tup [.ro true 2 (fieldRows l), .nili]) := by
    have := (clean_c l0 hl0).o
    rw [h2] at this
    exact this
  have B1 : CPure gxo 75 [.ro false 2 (fieldRows l)] (.tup [.str [], .bool false, .iface 28 (.int .i64 3)]) := by
    have := boundary_c l (cleanF_small h2 hl0)
    rw [h] at this
    exact this
  have T1 := (tell_no_c 3).eo
  repeat' (first | refine a_f ?_ | refine st_nil ?_ | refine tri_seq ?_ | refine tri_region rfl ?_ | refine a_draw ?_ | (apply st_r rfl; case hq => first | exact q_build0 zPartK rfl (by kernel_rfl) | exact q_call R1 (hcf := Tryz.call83) rfl rfl | exact q_call C1 (hcf := Tryz.call84) rfl rfl | exact q_call B1 (hcf := Tryz.call75) rfl rfl | exact q_call T1 (hcf := Tryz.call16) rfl rfl | exact q_eqnil (by rfl) Tryz.underlying32 | exact q_nenil (by rfl) Tryz.underlying32 | exact q_neif (by conv => lhs; whnf) Tryz.underlying32 | exact a_q) | (apply st_rif rfl; (case hq => first | exact a_i); all_goals (intro _; try (exfalso; first | omega | contradiction))) | (apply st_rw rfl rfl; case hq => first | exact w_alloc (d := 6) 106 (by exact zPartK) rfl rfl rfl | exact a_store) | refine tri_true rfl ?_ | refine tri_false rfl ?_ | refine tri_block ?_ | refine tri_skip ?_ | refine tri_ret ?_ | refine tri_exit ?_)
  exact ⟨_, weak_boxany 0 rfl, ⟨⟨106, _, rfl, rfl, by kernel_rfl⟩, trivial⟩, by (conv => lhs; whnf); rfl, rfl⟩
set_option maxHeartbeats 8000000 in
theorem pread_leafE {e : Nat} (h3 : bndF l = some none) (h : decodeF l body = .err e) : ∀ dep : Int, dep = 5 - ((d + 1 : Nat) : Int) → CEff gxo 36 (.box [.int .i64 ((left + 1 : Nat) : Int)]) [.str s, .int .i64 dep, .ptr 0 0] (some (.box [.any])) (prAV (.mk l [] false []) (.err e)) := by
  intro dep hdep
  refine CEff.up ?_ (up_leaf l [] (.iface 28 (.int .i64 (e : Int))))
  refine ceff_ofb Tryz.func36 rfl (Nat.le_of_ble_eq_true rfl) (fun w γ hw hM => ?_)
  refine tri_postE ?_
  have R1 : CPure gxo 83 [.str s] (.tup [.ro true 2 (fieldRows l0), .str body, .nili]) := by
    have := (read_c s hs).o
    rw [h1] at this
    exact this
  obtain ⟨hl0, hbl⟩ := readH_small h1 hs
  have hlS := cleanF_small h2 hl0
  have C1 : CPure gxo 84 [.ro false 2 (fieldRows l0)] (.tup [.ro true 2 (fieldRows l), .nili]) := by
    have := (clean_c l0 hl0).o
    rw [h2] at this
    exact this
  have B1 : CPure gxo 75 [.ro false 2 (fieldRows l)] (.tup [.str [], .bool false, .nili]) := by
    have := boundary_c l hlS
    rw [h3] at this
    exact this
  have D1 : CPure gxo 85 [.ro false 2 (fieldRows l), .str body] (.tup [.str [], .iface 28 (.int .i64 (e : Int))]) := by
    have := decode_c l body hlS (by omega)
    rw [h] at this
    exact this
  repeat' (first | refine a_f ?_ | refine st_nil ?_ | refine tri_seq ?_ | refine tri_region rfl ?_ | refine a_draw ?_ | (apply st_r rfl; case hq => first | exact q_build0 zPartK rfl (by kernel_rfl) | exact q_build2 zPartK rfl (by kernel_rfl) (by conv => lhs; whnf) (by conv => lhs; whnf) rfl rfl (by conv => lhs; whnf) | exact q_loada (n := 4) (by conv => lhs; whnf) (by conv => lhs; whnf; arg 1; whnf) (by conv => lhs; whnf) (by first | rfl | exact Nat.le_of_ble_eq_true rfl | exact Nat.succ_pos _ | decide) (by show aggB Tryz.prog _ _ = true; decide +kernel) | exact q_call R1 (hcf := Tryz.call83) rfl rfl | exact q_call C1 (hcf := Tryz.call84) rfl rfl | exact q_call B1 (hcf := Tryz.call75) rfl rfl | exact q_call D1 (hcf := Tryz.call85) rfl rfl | exact q_eqnil (by rfl) Tryz.underlying32 | exact q_nenil (by rfl) Tryz.underlying32 | exact q_neif (by conv => lhs; whnf) Tryz.underlying32 | exact a_q) | (apply st_rif rfl; (case hq => first | exact a_i); all_goals (intro _; try (exfalso; first | omega | contradiction))) | (apply st_rw rfl rfl; case hq => first | exact w_alloc (d := 6) 106 (by exact zPartK) rfl rfl rfl | exact w_alloc (d := 13) 103 (by exact zPartK) rfl rfl rfl | exact a_store) | refine tri_true rfl ?_ | refine tri_false rfl ?_ | refine tri_block ?_ | refine tri_skip ?_ | refine tri_ret ?_ | refine tri_exit ?_)
  exact ⟨_, weak_boxany 0 rfl, ⟨⟨106, _, rfl, rfl, by kernel_rfl⟩, trivial⟩, by (conv => lhs; whnf); rfl, rfl⟩
set_option maxHeartbeats 8000000 in
theorem pread_leaf {x : B} (h3 : bndF l = some none) (h : decodeF l body = .ok x) : ∀ dep : Int, dep = 5 - ((d + 1 : Nat) : Int) → CEff gxo 36 (.box [.int .i64 ((left + 1 : Nat) : Int)]) [.str s, .int .i64 dep, .ptr 0 0] (some (.box [.int .i64 (left : Int)])) (prAV pt0 (.ok (.mk l x false [], left))) := by
  intro dep hdep
  refine CEff.up ?_ (up_leaf l x .nili)
  refine ceff_ofb Tryz.func36 rfl (Nat.le_of_ble_eq_true rfl) (fun w γ hw hM => ?_)
  have R1 : CPure gxo 83 [.str s] (.tup [.ro true 2 (fieldRows l0), .str body, .nili]) := by
    have := (read_c s hs).o
    rw [h1] at this
    exact this
  obtain ⟨hl0, hbl⟩ := readH_small h1 hs
  have hlS := cleanF_small h2 hl0
  have C1 : CPure gxo 84 [.ro false 2 (fieldRows l0)] (.tup [.ro true 2 (fieldRows l), .nili]) := by
    have := (clean_c l0 hl0).o
    rw [h2] at this
    exact this
  have B1 : CPure gxo 75 [.ro false 2 (fieldRows l)] (.tup [.str [], .bool false, .nili]) := by
    have := boundary_c l hlS
    rw [h3] at this
    exact this
  have D1 : CPure gxo 85 [.ro false 2 (fieldRows l), .str body] (.tup [.str x, .nili]) := by
    have := decode_c l body hlS (by omega)
    rw [h] at this
    exact this
  repeat' (first | refine a_f ?_ | refine st_nil ?_ | refine tri_seq ?_ | refine tri_region rfl ?_ | refine a_draw ?_ | (apply st_r rfl; case hq => first | exact q_build0 zPartK rfl (by kernel_rfl) | exact q_build2 zPartK rfl (by kernel_rfl) (by conv => lhs; whnf) (by conv => lhs; whnf) rfl rfl (by conv => lhs; whnf) | exact q_loada (n := 4) (by conv => lhs; whnf) (by conv => lhs; whnf; arg 1; whnf) (by conv => lhs; whnf) (by first | rfl | exact Nat.le_of_ble_eq_true rfl | exact Nat.succ_pos _ | decide) (by show aggB Tryz.prog _ _ = true; decide +kernel) | exact q_call R1 (hcf := Tryz.call83) rfl rfl | exact q_call C1 (hcf := Tryz.call84) rfl rfl | exact q_call B1 (hcf := Tryz.call75) rfl rfl | exact q_call D1 (hcf := Tryz.call85) rfl rfl | exact q_eqnil (by rfl) Tryz.underlying32 | exact q_nenil (by rfl) Tryz.underlying32 | exact a_q) | (apply st_rif rfl; (case hq => first | exact a_i); all_goals (intro _; try (exfalso; first | omega | contradiction))) | (apply st_rw rfl rfl; case hq => first | exact w_alloc (d := 6) 106 (by exact zPartK) rfl rfl rfl | exact w_alloc (d := 13) 103 (by exact zPartK) rfl rfl rfl | exact a_store) | refine tri_true rfl ?_ | refine tri_false rfl ?_ | refine tri_block ?_ | refine tri_skip ?_ | refine tri_ret ?_ | refine tri_exit ?_)
  exact ⟨⟨⟨106, _, rfl, rfl, by kernel_rfl⟩, trivial⟩, by (conv => lhs; whnf); rfl, congrArg (fun z => some (AObj.box [AV.int .i64 z])) (by omega)⟩
set_option maxHeartbeats 8000000 in
theorem pread_cut {b : B} (h3 : bndF l = some (some b)) (h : cutF b body = none) : ∀ dep : Int, dep = 5 - ((d + 1 : Nat) : Int) → CEff gxo 36 (.box [.int .i64 ((left + 1 : Nat) : Int)]) [.str s, .int .i64 dep, .ptr 0 0] (some (.box [.any])) (prAV pt0 (.err 3)) := by
  intro dep hdep
  refine CEff.up ?_ (up_zero 3)
  refine ceff_ofb Tryz.func36 rfl (Nat.le_of_ble_eq_true rfl) (fun w γ hw hM => ?_)
  refine tri_postE ?_
  have R1 : CPure gxo 83 [.str s] (.tup [.ro true 2 (fieldRows l0), .str body, .nili]) := by
    have := (read_c s hs).o
    rw [h1] at this
    exact this
  obtain ⟨hl0, hbl⟩ := readH_small h1 hs
  have hlS := cleanF_small h2 hl0
  have C1 : CPure gxo 84 [.ro false 2 (fieldRows l0)] (.tup [.ro true 2 (fieldRows l), .nili]) := by
    have := (clean_c l0 hl0).o
    rw [h2] at this
    exact this
  have B1 : CPure gxo 75 [.ro false 2 (fieldRows l)] (.tup [.str b, .bool true, .nili]) := by
    have := boundary_c l hlS
    rw [h3] at this
    exact this
  have K1 : CPure gxo 86 [.str body, .str b] (.tup [.nils, .iface 28 (.int .i64 3)]) := by
    have := (pcut_c body b (by omega) (bndF_le hlS h3)).o
    rw [h] at this
    exact this
  repeat' (first | refine a_f ?_ | refine st_nil ?_ | refine tri_seq ?_ | refine tri_region rfl ?_ | refine a_draw ?_ | (apply st_r rfl; case hq => first | exact q_build0 zPartK rfl (by kernel_rfl) | exact q_build2 zPartK rfl (by kernel_rfl) (by conv => lhs; whnf) (by conv => lhs; whnf) rfl rfl (by conv => lhs; whnf) | exact q_call R1 (hcf := Tryz.call83) rfl rfl | exact q_call C1 (hcf := Tryz.call84) rfl rfl | exact q_call B1 (hcf := Tryz.call75) rfl rfl | exact q_call K1 (hcf := Tryz.call86) rfl rfl | exact q_eqnil (by rfl) Tryz.underlying32 | exact q_nenil (by rfl) Tryz.underlying32 | exact q_neif (by conv => lhs; whnf) Tryz.underlying32 | exact a_q) | (apply st_rif rfl; (case hq => first | exact a_i); all_goals (intro _; try (exfalso; first | omega | contradiction))) | (apply st_rw rfl rfl; case hq => first | exact w_alloc (d := 6) 106 (by exact zPartK) rfl rfl rfl | exact w_alloc (d := 13) 103 (by exact zPartK) rfl rfl rfl | exact a_store) | refine tri_true rfl ?_ | refine tri_false rfl ?_ | refine tri_block ?_ | refine tri_skip ?_ | refine tri_ret ?_ | refine tri_exit ?_)
  exact ⟨_, weak_boxany 0 rfl, ⟨⟨106, _, rfl, rfl, by kernel_rfl⟩, trivial⟩, by (conv => lhs; whnf); rfl, rfl⟩
end
end Go.Proofs.YtignjjnflcpiiaaGreatDoor
