import Derived.Test.YtignjjnflcpiiabGreatDoorZHeadA
import Derived.Test.YtignjjnflcpiiabGreatDoorZVm4
import Derived.Test.YtignjjnflcpiiabGreatDoorZPackP
set_option linter.unusedVariables false
set_option linter.unusedSimpArgs false
set_option maxHeartbeats 1000000
namespace Go.Proofs.YtignjjnflcpiiabGreatDoor
open Go.RowKit
attribute [local irreducible] Tri Steps Qd Wr Weak CPure CEff
set_option maxRecDepth 100000
theorem letter_val : ∀ n : Fin 64, (n.val < 26 → (letter n.val).toNat = 65 + n.val) ∧ (26 ≤ n.val → n.val < 52 → (letter n.val).toNat = 97 + n.val - 26) ∧ (52 ≤ n.val → n.val < 62 → (letter n.val).toNat = 48 + n.val - 52) ∧ (n.val = 62 → (letter n.val).toNat = 43) ∧ (n.val = 63 → (letter n.val).toNat = 47) := by decide +kernel
theorem letter_c (n : Nat) (hn : n < 64) : CPure gx 36 [.int .i64 n] (.int .u8 (letter n).toNat) := by
  refine cpure_of Tryz.func36 rfl (Nat.le_of_ble_eq_true rfl) rfl (fun w hw => ?_)
  obtain ⟨h1, h2, h3, h4, h5⟩ := letter_val ⟨n, hn⟩
  simp only at h1 h2 h3 h4 h5
  repeat' (first | refine a_f ?_ | refine st_nil ?_ | refine tri_seq ?_ | refine tri_region rfl ?_ | refine a_draw ?_ | (apply st_r rfl; case hq => first | exact q_convint (by conv => lhs; whnf) (by kernel_rfl) (by kernel_rfl) (by exact IntWalk.u8_in _ (by omega)) | exact a_lens | exact a_index | exact a_add | exact a_adds0 | exact a_addsc | exact a_adds | exact a_sub | exact a_slo | exact a_shi | exact a_slh | exact a_lensl | exact a_lenro | exact a_lennil | exact a_lenpts | exact a_field | exact a_fielde | exact a_fieldr | exact a_idxsl | exact a_load | exact a_loada | exact a_mki | exact a_build2 | exact a_build3 | exact a_build1 | exact a_build0 | exact a_bs1 | exact a_bs2 | exact a_bs3 | exact a_bs4 | exact a_bsa | exact a_boxr) | (apply st_rif rfl; (case hq => first | exact a_lss | exact a_gtr | exact a_eql | exact a_neq | exact a_eqls0 | exact a_neqs0 | exact a_eqls | exact a_neqs | exact a_leq | exact a_geq); all_goals (intro _; try (exfalso; first | omega | contradiction))) | (apply st_rw rfl rfl; case hq => first | exact a_store) | refine tri_true rfl ?_ | refine tri_false rfl ?_ | refine tri_block ?_ | refine tri_skip ?_ | refine tri_ret ?_ | refine tri_exit ?_)
  all_goals (refine And.intro trivial ?_; conv => lhs; whnf)
  all_goals (congr 1; omega)
def intRows (l : List Nat) : List (List AV) := l.map fun (n : Nat) => [.int .i64 n]
theorem ir_len (l : List Nat) : (intRows l).length = l.length := by simp [intRows]
theorem ir_app (l : List Nat) (n : Nat) : intRows l ++ [[.int .i64 n]] = intRows (l ++ [n]) := by simp [intRows]
theorem br_len (l : B) : (byteRows l).length = l.length := by simp [byteRows]
theorem br_app (l : B) (c : UInt8) : byteRows l ++ [[.int .u8 c.toNat]] = byteRows (l ++ [c]) := by simp [byteRows]
theorem ir_at {l : List Nat} {i : Nat} (h : i < l.length) : (intRows l)[i]? = some [.int .i64 (l.getD i 0 : Nat)] := by simp [intRows, List.getD_eq_getElem?_getD, h]
theorem br_at {l : B} {i : Nat} (h : i < l.length) : (byteRows l)[i]? = some [.int .u8 (l.getD i 0).toNat] := by simp [byteRows, List.getD_eq_getElem?_getD, h]
theorem and_one (m : Nat) (h : m < 2 ^ 40) : bits .and .i64 (m : Int) 1 = ((m % 2 : Nat) : Int) := by
  have := i64_mask 1 (by omega) (m : Int) (by omega) (by omega)
  rw [show ((2 : Int) ^ 1 - 1) = 1 by decide] at this
  rw [this]; omega
theorem bit_and (m k : Nat) (hm : m < 2 ^ 40) (v : Int) (hv : v.toNat = k) : bits .and .i64 ((m : Int) / 2 ^ v.toNat) 1 = ((m / 2 ^ k % 2 : Nat) : Int) := by
  rw [hv, show ((2 : Int) ^ k) = ((2 ^ k : Nat) : Int) by simp, ← Int.natCast_ediv]
  exact and_one _ (Nat.lt_of_le_of_lt (Nat.div_le_self _ _) hm)
def valK (l : List Nat) : Nat → Nat
  | 0 => 0
  | k + 1 => valK l k * 2 + l.getD k 0
theorem valK_lt {l : List Nat} (h : ∀ x ∈ l, x < 2) : ∀ k, valK l k < 2 ^ k
  | 0 => by simp [valK]
  | k + 1 => by
    have := valK_lt h k
    have h2 : l.getD k 0 < 2 := by
      rw [List.getD_eq_getElem?_getD]
      cases hx : l[k]? with
      | none => simp
      | some x => exact h x (List.mem_of_getElem? hx)
    rw [valK, Nat.pow_succ]; omega
theorem valK8 (l : List Nat) : valK l 8 = val8 l := by simp [valK, val8]
theorem br_take (l : B) (k : Nat) : (byteRows l).take k = byteRows (l.take k) := by simp [byteRows, List.map_take]
theorem ir_take (l : List Nat) (k : Nat) : (intRows l).take k = intRows (l.take k) := by simp [intRows, List.map_take]
theorem ir_drop (l : List Nat) (k : Nat) : (intRows l).drop k = intRows (l.drop k) := by simp [intRows, List.map_drop]
end Go.Proofs.YtignjjnflcpiiabGreatDoor
