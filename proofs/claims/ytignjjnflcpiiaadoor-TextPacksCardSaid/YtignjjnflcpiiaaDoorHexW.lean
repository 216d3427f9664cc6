/- What the reference's hexOf computes, walked. -/
import Derived.Test.YtignjjnflcpiiaaDoorUnquoteW
import Derived.Test.YtignjjnflcpiiaaDoorRefQuoteW
set_option linter.unusedVariables false
set_option linter.unusedSimpArgs false
namespace Go.Proofs.YtignjjnflcpiiaaDoor
open Go.RowKit

theorem hexOf_law : ∀ c : Fin 128, Lib.indexByte [48, 49, 50, 51, 52, 53, 54, 55, 56, 57, 65, 66, 67, 68, 69, 70] (Lib.upperB (UInt8.ofNat c.val)) = digit (UInt8.ofNat c.val) := by decide +kernel
theorem digit_big : ∀ c : Fin 256, 126 < c.val → digit (UInt8.ofNat c.val) = -1 := by decide +kernel
theorem toUInt8_nat (c : UInt8) : ((c.toNat : Int)).toNat.toUInt8 = c := by
  rw [Int.toNat_natCast]; exact UInt8.ofNat_toNat

set_option maxHeartbeats 1000000 in
set_option maxRecDepth 100000 in
theorem hexOf_any (c : UInt8) (w : World) (hc : c.toNat < 128) : Calls Tryd.prog 80 #[.int .u8 (c.toNat : Int)] w fun e w' => e = .returned (.int .i64 (digit c)) ∧ Below w.heap.size w w' := by
  have hcv1 : (convert 70 9 (.slice (some ⟨w.heap.size, 0, none⟩) 1 1)).run Tryd.prog (w.alloc (.cells #[.int .u8 (c.toNat : Int)] ByT)) = .ok (.string ⟨#[c]⟩) (w.alloc (.cells #[.int .u8 (c.toNat : Int)] ByT)) := conv_new w [c] 1 rfl
  have hu : ∀ W, Calls Tryd.prog 104 #[.string ⟨#[c]⟩] W fun e w' => e = .returned (.string ⟨#[Lib.upperB c]⟩) ∧ Below W.heap.size W w' := by
    intro W
    refine Tryd.strings_ToUpper_ascii ⟨#[c]⟩ W (by show 1 ≤ _; omega) ?_
    intro j b hb
    rcases j with _ | j
    · have : c = b := by simpa using hb
      rw [← this]; exact hc
    · simp at hb
  have hi : ∀ W, Calls Tryd.prog 48 #[.string ⟨#[48, 49, 50, 51, 52, 53, 54, 55, 56, 57, 65, 66, 67, 68, 69, 70]⟩, .int .u8 ((Lib.upperB c).toNat : Int)] W fun e w' => e = .returned (.int .i64 (digit c)) ∧ w' = W := by
    intro W
    have h := Tryd.strings_IndexByte ⟨#[48, 49, 50, 51, 52, 53, 54, 55, 56, 57, 65, 66, 67, 68, 69, 70]⟩ ((Lib.upperB c).toNat : Int) W
    have hl := hexOf_law ⟨c.toNat, hc⟩
    simp only [UInt8.ofNat_toNat] at hl
    rw [toUInt8_nat, show (⟨#[48, 49, 50, 51, 52, 53, 54, 55, 56, 57, 65, 66, 67, 68, 69, 70]⟩ : ByteArray).data.toList = [48, 49, 50, 51, 52, 53, 54, 55, 56, 57, 65, 66, 67, 68, 69, 70] from rfl, hl] at h
    exact h
  have Hu := hid hu
  have Hi := hid hi
  clear hu hi
  have hb1 : Below w.heap.size w (w.alloc (.cells #[.int .u8 (c.toNat : Int)] ByT)) := (Below.refl _ w).alloc (Nat.le_refl _) _
  go_enter Tryd.func80, Tryd.ntmps80
  go_wp2_with fail
  refine (Hu.out _).mono ?_
  rintro e w1 ⟨rfl, b1⟩
  go_wp2_with fail
  refine (Hi.out _).mono ?_
  rintro e w2 ⟨rfl, rfl⟩
  go_wp2_with fail
  go_ret
  exact ⟨rfl, hb1.trans (b1.mono hb1.size)⟩
end Go.Proofs.YtignjjnflcpiiaaDoor
