/- What all walks of this program use: bits of int, bytes that the call owns, a fact kept from the walk. -/
import Derived.Test.YtignjjnflcpiiaaGreatDoorProg
import Derived.WalkKit
import Derived.WalkLawsBesides
import Derived.WalkSpells
import Derived.Lib.Strings
import Derived.Lib.UnsafeStr
import Derived.Lib.BufferRead
import Derived.Lib.TrimByte
import Derived.Lib.IndexBytes
set_option linter.unusedVariables false
set_option linter.unusedSimpArgs false
set_option maxHeartbeats 1000000
namespace Go.Proofs.YtignjjnflcpiiaaGreatDoor
open Go.RowKit

theorem hid {p : Prop} (h : p) : Hid p := h

abbrev ByT : TypeId := 5
theorem infoByte : (Tryz.prog.info? 5).map (fun i => (i.zero, i.size, i.bytes)) = some (some (.int .u8 0), 1, 1) := by kernel_rfl

theorem i64_join (i : Nat) (x y : Int) (h1 : 0 ≤ x) (h2 : x % 2 ^ i = 0) (h3 : x < 2 ^ 62) (h4 : 0 ≤ y) (h5 : y < 2 ^ i) (h6 : y < 2 ^ 62) : bits .or .i64 x y = x + y :=
  bits_join .i64 62 (by decide) (fun n h0 h1 => IntWalk.i64_in n (by omega)) i x y h1 h2 h3 h4 h5 h6
theorem i64_mask (i : Nat) (hi : i ≤ 62) (x : Int) (h1 : 0 ≤ x) (h3 : x < 2 ^ 62) : bits .and .i64 x (2 ^ i - 1) = x % 2 ^ i :=
  bits_mask .i64 62 (by decide) (fun n h0 h1 => IntWalk.i64_in n (by omega)) i hi x h1 h3

/-- a []byte that the call owns (or nil), as a string -/
theorem conv_own {B : Nat} {v : Value} {l : List UInt8} {w : World} (h : w.ownsRow B ByT 1 v l.length (Lib.byteCells l)) :
    (convert 86 9 v).run Tryz.prog w = .ok (.string ⟨l.toArray⟩) w := by
  rcases h.2 with ⟨rfl, h0⟩ | ⟨g, cap, cur, rfl, _, hg, _, _, _, htk⟩
  · obtain rfl : l = [] := List.eq_nil_of_length_eq_zero h0
    exact Lib.run_convert_nil_bytes w _ _ ByT 0 Tryz.underlying86 Tryz.underlying5 Tryz.underlying9
  · exact run_convert_bytes_back w _ _ ByT _ cap l Tryz.underlying86 Tryz.underlying5 Tryz.underlying9 (Lib.bytes_of_row hg (by simpa using htk))

theorem ownsRow_drew' {w : World} {B e n size : Nat} {v : Value} {xs : List Value} (h : w.ownsRow B e size v n xs) : w.drew.ownsRow B e size v n xs := h.drew

end Go.Proofs.YtignjjnflcpiiaaGreatDoor
