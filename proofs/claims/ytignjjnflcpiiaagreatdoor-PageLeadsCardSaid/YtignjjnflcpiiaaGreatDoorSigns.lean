/- What the row's condition gives of page.signs. -/
import Derived.Test.YtignjjnflcpiiaaGreatDoorCards
import Derived.Test.YtignjjnflcpiiaaGreatDoorPageA
import Derived.OpenShut
import Derived.MakeChecks
import Derived.LaidSub
set_option linter.unusedVariables false
set_option linter.unusedSimpArgs false
set_option maxHeartbeats 1000000
namespace Go.Proofs.YtignjjnflcpiiaaGreatDoor
open Go.ChangeShapes Go.WideShapes Go.ChangeAt Go.RowKit
set_option maxRecDepth 100000

def signD : List (DataW Unit) := [.agg [.lit (.string [38]), .lit (.string [38, 97, 109, 112, 59])], .agg [.lit (.string [34]), .lit (.string [38, 113, 117, 111, 116, 59])], .agg [.lit (.string [39]), .lit (.string [38, 35, 51, 57, 59])], .agg [.lit (.string [60]), .lit (.string [38, 108, 116, 59])], .agg [.lit (.string [62]), .lit (.string [38, 103, 116, 59])]]
theorem byte_eq {z : ByteArray} {l : List UInt8} (h : z.data.toList = l) : z = ⟨l.toArray⟩ := by
  subst h
  cases z
  simp
theorem signs_of {W : World} (h : laidMet Tryz.prog [("bindery/page.signs", Rows.laid_bindery_page_signs)] W) : SignVar W := by
  obtain ⟨ps, ⟨g, t, cs, fuel, p, q, hg, ht, hv, hd, _, _⟩, _⟩ := h
  obtain rfl := Option.some.inj ((show Tryz.prog.globalNamed "bindery/page.signs" = some 0 by kernel_rfl).symm.trans hg)
  obtain rfl := Option.some.inj ((show (Tryz.prog.globals[0]?).map (·.type) = some 110 by kernel_rfl).symm.trans ht)
  have c2 : Tryz.prog.cellsOf 109 = 2 := by kernel_rfl
  have c1 : Tryz.prog.cellsOf 9 = 1 := by kernel_rfl
  obtain ⟨xs, m, _, ex, hlen, hl, hel⟩ := DataW.trod_array Tryz.underlying110 hd
  intro i hi j hj
  have hE := hel i hi
  rw [c2, List.getElem?_eq_getElem (by omega)] at hE
  obtain ⟨ys, m', _, ey, hleny, hyl, hely⟩ := DataW.trod_array Tryz.underlying109 hE
  have hF := hely j hj
  rw [c1, Nat.mul_one, List.getElem?_eq_getElem (by omega)] at hF
  obtain ⟨z, f1, f2, _⟩ := DataW.trod_string Tryz.underlying9 hF
  have h0 : (((cs.toList.drop (i * 2)).take 2).drop j)[0]? = some (.string z) := by
    have : ((((cs.toList.drop (i * 2)).take 2).drop j).take 1)[0]? = some (.string z) := by rw [f1]; rfl
    simpa using this
  have h1 : cs[i * 2 + j]? = some (.string z) := by
    rw [List.getElem?_drop, List.getElem?_take, List.getElem?_drop] at h0
    rw [if_pos (by omega)] at h0
    simpa using h0
  have e3 : (xs.map (·.1)) = signD := (DataW.agg.inj (Prod.mk.inj ex).1).symm
  have e4 : (xs.map (·.1))[i]? = signD[i]? := by rw [e3]
  rw [List.getElem?_map, List.getElem?_eq_getElem (by omega : i < xs.length), ey] at e4
  simp only [Option.map_some] at e4
  have e5 : (ys.map (·.1))[j]? = some (.lit (.string z.data.toList)) := by
    rw [List.getElem?_map, List.getElem?_eq_getElem (by omega : j < ys.length), f2]; rfl
  rw [World.var?_cell hg hv, Nat.zero_add, h1]
  congr 1
  have fin : ∀ (a b : List UInt8), (DataW.agg (ys.map (·.1)) : DataW Unit) = .agg [.lit (.string a), .lit (.string b)] → z = ⟨(match j with
      | 0 => a
      | _ => b).toArray⟩ := fun a b hab => by
    rw [DataW.agg.inj hab] at e5
    match j, hj with
    | 0, _ => exact byte_eq (Lit.string.inj (DataW.lit.inj (Option.some.inj e5))).symm
    | 1, _ => exact byte_eq (Lit.string.inj (DataW.lit.inj (Option.some.inj e5))).symm
  have hz : Value.string z = signV i j := by
    unfold signV
    match i, hi with
    | 0, _ => rw [fin _ _ (Option.some.inj e4)]; rfl
    | 1, _ => rw [fin _ _ (Option.some.inj e4)]; rfl
    | 2, _ => rw [fin _ _ (Option.some.inj e4)]; rfl
    | 3, _ => rw [fin _ _ (Option.some.inj e4)]; rfl
    | 4, _ => rw [fin _ _ (Option.some.inj e4)]; rfl
  exact hz
theorem signs_row {W : World} {l : List (String × DataW Unit)} (h : laidMetH Tryz.prog l W) (e : (l.filter fun x => x.1 == "bindery/page.signs") = [("bindery/page.signs", Rows.laid_bindery_page_signs)]) : SignVar W := by
  have h1 := h.filter (fun x => x.1 == "bindery/page.signs")
  rw [e, MakeChecks.laidMetH_plain _ _ _ (by kernel_rfl)] at h1
  exact signs_of h1
end Go.Proofs.YtignjjnflcpiiaaGreatDoor
