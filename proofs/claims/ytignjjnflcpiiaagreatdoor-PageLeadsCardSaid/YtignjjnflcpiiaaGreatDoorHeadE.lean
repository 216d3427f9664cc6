/- Texts in small letters, fields that are alike, the first field of a name, values cleaned: the program's and the document's. -/
import Derived.Test.YtignjjnflcpiiaaGreatDoorHeadB
import Derived.Test.YtignjjnflcpiiaaGreatDoorSmallW
set_option linter.unusedVariables false
set_option linter.unusedSimpArgs false
set_option maxHeartbeats 1000000
namespace Go.Proofs.YtignjjnflcpiiaaGreatDoor
open Go.RowKit
attribute [local irreducible] Tri Steps Qd Wr Weak CPure CEff
set_option maxRecDepth 100000

theorem small_c (s : B) (hs : s.length ≤ 100000000) : CPure gx 53 [.str s] (.str (lowB s)) :=
  cpure_val rfl rfl fun w _ => small_any ⟨s.toArray⟩ w (by rw [sizeMk]; omega)

theorem low_pos {c : UInt8} (h1 : (65 : Int) ≤ (c.toNat : Int)) (h2 : (c.toNat : Int) ≤ 90) : [[AV.int .u8 ((c.toNat : Int) + 32)]] = byteRows [lowC c] := by
  rw [← lowC_in ⟨by omega, by omega⟩]; rfl
theorem low_neg {c : UInt8} (h : ¬ ((65 : Int) ≤ (c.toNat : Int)) ∨ ¬ ((c.toNat : Int) ≤ 90)) : [[AV.int .u8 (c.toNat : Int)]] = byteRows [lowC c] := by
  rw [lowC_out (by omega)]; rfl
theorem low_step {s : B} {i : Nat} (hi : (i : Int) < s.length) : (s.take i).map lowC ++ [lowC (s.getD (i : Int).toNat 0)] = (s.take (i + 1)).map lowC := by
  have hi' : i < s.length := by omega
  rw [List.take_add_one, List.map_append, List.getElem?_eq_getElem hi', Int.toNat_natCast, List.getD_eq_getElem?_getD, List.getElem?_eq_getElem hi']
  rfl
set_option maxHeartbeats 2000000 in
theorem low_c (s : B) (hs : s.length ≤ 100000000) : CPure gx 48 [.str s] (.str (lowB s)) := by
  refine cpure_of Tryz.func48 rfl (Nat.le_of_ble_eq_true rfl) rfl (fun w hw => ?_)
  repeat' (first | refine a_f ?_ | refine st_nil ?_ | refine tri_seq ?_ | refine tri_region rfl ?_ | refine a_draw ?_ | (apply st_r rfl; case hq => first | exact a_lens | exact a_index | exact a_add | exact a_adds0 | exact a_addsc | exact a_adds | exact a_sub | exact a_slo | exact a_shi | exact a_slh | exact a_lensl | exact a_lenro | exact a_lennil | exact a_lenpts | exact a_field | exact a_fielde | exact a_fieldr | exact a_idxsl | exact a_load | exact a_loada | exact a_mki | exact a_build2 | exact a_build3 | exact a_build1 | exact a_build0 | exact a_bs1 | exact a_bs2 | exact a_bs3 | exact a_bs4 | exact a_bsa | exact a_boxr) | (apply st_rif rfl; (case hq => first | exact a_lss | exact a_gtr | exact a_eql | exact a_neq | exact a_eqls0 | exact a_neqs0 | exact a_eqls | exact a_neqs | exact a_leq | exact a_geq); all_goals (intro _; try (exfalso; first | omega | contradiction))) | (apply st_rw rfl rfl; case hq => first | exact a_store) | refine tri_true rfl ?_ | refine tri_false rfl ?_ | refine tri_block ?_ | refine tri_skip ?_ | refine tri_ret ?_ | refine tri_exit ?_)
  refine tri_loop (fun (i : Nat) => i ≤ s.length) (fun i => st [(0, .str s), (2, .str []), (3, .str ((s.take i).map lowC)), (7, .int .i64 s.length), (8, .int .i64 i)] []) (fun i => s.length - i) 0 (Nat.zero_le _) ?hw (fun i hi => ?_)
  case hw => exact weak_st ⟨rfl, rfl, rfl, rfl, rfl, trivial⟩ trivial
  repeat' (first | refine a_f ?_ | refine st_nil ?_ | refine tri_seq ?_ | refine tri_region rfl ?_ | refine a_draw ?_ | (apply st_r rfl; case hq => first | exact q_add (by conv => lhs; whnf) (by conv => lhs; whnf) (by exact IntWalk.u8_in _ (by omega)) | exact q_bstr [lowC (s.getD (i : Int).toNat 0)] (by conv => lhs; whnf) (by first | exact low_pos ‹_› ‹_› | exact low_neg (.inl ‹_›) | exact low_neg (.inr ‹_›)) (by first | exact Tryz.underlying22 | exact Tryz.underlying23 | exact Tryz.underlying43 | exact Tryz.underlying44 | exact Tryz.underlying51 | exact Tryz.underlying86 | exact Tryz.underlying191 | exact Tryz.underlying209 | exact Tryz.underlying234 | exact Tryz.underlying270 | exact Tryz.underlying281 | exact Tryz.underlying344) Tryz.underlying5 (by kernel_rfl) | exact q_adds (by conv => lhs; whnf) (by conv => lhs; whnf) (by simp only [List.length_map, List.length_take, List.length_cons, List.length_nil]; omega) | exact a_lens | exact a_index | exact a_add | exact a_adds0 | exact a_addsc | exact a_adds | exact a_sub | exact a_slo | exact a_shi | exact a_slh | exact a_lensl | exact a_lenro | exact a_lennil | exact a_lenpts | exact a_field | exact a_fielde | exact a_fieldr | exact a_idxsl | exact a_load | exact a_loada | exact a_mki | exact a_build2 | exact a_build3 | exact a_build1 | exact a_build0 | exact a_bs1 | exact a_bs2 | exact a_bs3 | exact a_bs4 | exact a_bsa | exact a_boxr) | (apply st_rif rfl; (case hq => first | exact a_lss | exact a_gtr | exact a_eql | exact a_neq | exact a_eqls0 | exact a_neqs0 | exact a_eqls | exact a_neqs | exact a_leq | exact a_geq); all_goals (intro _; try (exfalso; first | omega | contradiction))) | (apply st_rw rfl rfl; case hq => first | exact a_store) | refine tri_true rfl ?_ | refine tri_false rfl ?_ | refine tri_block ?_ | refine tri_skip ?_ | refine tri_ret ?_ | refine tri_exit ?_)
  all_goals first
    | exact loop_next (i + 1) (by omega) (weak_st ⟨rfl, rfl, congrArg AV.str (low_step ‹_›), rfl, rfl, trivial⟩ trivial) (show s.length - (i + 1) < s.length - i by omega)
    | (refine And.intro trivial ?_
       conv => lhs; whnf
       rw [List.take_of_length_le (by omega)]
       rfl)
end Go.Proofs.YtignjjnflcpiiaaGreatDoor
