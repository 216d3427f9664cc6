/- strings.Count of a text of one byte. -/
import Derived.Test.YtignjjnflcpiiaaGreatDoorGx
import Derived.Lib.Bytealg
set_option linter.unusedVariables false
set_option linter.unusedSimpArgs false
set_option maxHeartbeats 1000000
namespace Go.Proofs.YtignjjnflcpiiaaGreatDoor
open Go.RowKit
set_option maxRecDepth 100000

def countB (s : List UInt8) (c : UInt8) : Nat := Lib.countByte s c
set_option maxHeartbeats 1000000 in
theorem count1_any (s : ByteArray) (c : UInt8) (w : World) : Calls Tryz.prog 187 #[.string s, .string ⟨#[c]⟩] w fun e w' => e = .returned (.int .i64 (Lib.countByte s.data.toList c)) ∧ w' = w := by
  have hc : (callFunc 209 #[.string s, .int .u8 (c.toNat : Int)]).run Tryz.prog w = .ok (.value (.int .i64 (Lib.countByte s.data.toList c))) w := by
    rw [run_callFunc_extern Tryz.func209 (by kernel_rfl) (by kernel_rfl) (by kernel_rfl) (e := Extern.BytealgCount.count) (by kernel_rfl)]
    rw [Lib.run_countString]
    simp
  have hl : (ByteArray.mk #[c]).size = 1 := rfl
  have hg : (ByteArray.mk #[c]).data.toList = [c] := rfl
  go_enter Tryz.func187, Tryz.ntmps187
  go_wp2
  first
    | (rw [hc])
    | (simp only [hg, List.getElem_cons_zero]; rw [hc])
    | (erw [hc])
    | trace_state
  try simp only [Result.andThen]
  try rw [Oper.upon_value]
  go_wp2
  first | go_ret | go_end0 | trace_state
  all_goals first | exact ⟨rfl, rfl⟩ | trace_state
theorem count_c (s : List UInt8) (c : UInt8) : CPure gx 187 [.str s, .str [c]] (.int .i64 (Lib.countByte s c)) :=
  cpure_val rfl rfl fun w _ => (count1_any ⟨s.toArray⟩ c w).mono fun e w' h => ⟨h.1, by rw [h.2]; exact Below.refl _ _⟩
end Go.Proofs.YtignjjnflcpiiaaGreatDoor
