/- strings.Split as a contract. -/
import Derived.Test.YtignjjnflcpiiaaGreatDoorGx
import Derived.Test.YtignjjnflcpiiaaGreatDoorPlain1
set_option linter.unusedVariables false
set_option linter.unusedSimpArgs false
set_option maxHeartbeats 1000000
namespace Go.Proofs.YtignjjnflcpiiaaGreatDoor
open Go.RowKit

def strRows (l : List (List UInt8)) : List (List AV) := l.map fun x => [.str x]
theorem sr_len (l : List (List UInt8)) : (strRows l).length = l.length := by simp [strRows]
theorem sr_at {l : List (List UInt8)} {i : Nat} (h : i < l.length) : ∃ x, l[i]? = some x ∧ x ∈ l ∧ l.drop i = x :: l.drop (i + 1) ∧ (strRows l)[(i : Int).toNat]? = some [.str x] := by
  refine ⟨l[i], List.getElem?_eq_getElem h, List.getElem_mem h, (List.drop_eq_getElem_cons h), ?_⟩
  simp [strRows, h]
theorem split_g (s sep : List UInt8) (hs : s.length < 4294967281) (h1 : 1 ≤ sep.length) : CPure gx 103 [.str s, .str sep] (.ro true 1 (strRows (Lib.split s sep))) :=
  cpure_lib rfl fun w hG hn => by
    obtain ⟨m, hm⟩ := hG.maxLen
    have hlen : (Lib.splitB ⟨sep.toArray⟩ 0 (Lib.countB ⟨s.toArray⟩ ⟨sep.toArray⟩) ⟨s.toArray⟩).length = Lib.countB ⟨s.toArray⟩ ⟨sep.toArray⟩ + 1 := Lib.splitB_all ⟨sep.toArray⟩ (by rw [sizeMk]; exact h1) 0 _ _ rfl
    have hd := Lib.splitB_data ⟨sep.toArray⟩ 0 (Lib.countB ⟨s.toArray⟩ ⟨sep.toArray⟩) ⟨s.toArray⟩
    refine (Tryz.strings_Split ⟨s.toArray⟩ ⟨sep.toArray⟩ m w (by rw [sizeMk]; exact hs) hm (by rw [sizeMk]; exact h1)).mono ?_
    rintro e w' ⟨rfl, rfl⟩
    generalize hls : Lib.splitB ⟨sep.toArray⟩ 0 (Lib.countB ⟨s.toArray⟩ ⟨sep.toArray⟩) ⟨s.toArray⟩ = ls at hlen hd
    have he : Lib.split s sep = ls.map (·.data.toList) := hd.symm
    rw [← hlen, he]
    refine ⟨_, rfl, (Below.refl _ w).alloc (Nat.le_refl _) _, .ro _ _ _ _ _ (.inr ⟨w.heap.size, 0, ls.length, fun i _ => (ls.map Value.string).getD i undef, ?_, ⟨fun h => h, fun _ => Nat.le_refl _⟩, ?_, by omega, ?_, fun i hi j hj => ?_, fun i hi => ?_, fun i hi j hj => ?_⟩)⟩
    · simp [strRows]
    · simp [strRows]; omega
    · simp [strRows]
    · have hi' : i < ls.length := by simpa [strRows] using hi
      have : 0 + i * 1 + j = i := by omega
      rw [this, World.cell?_alloc_new]
      simp [hi']
    · simp [strRows]
    · have hi' : i < ls.length := by simpa [strRows] using hi
      simp only [strRows, List.getElem_map, List.length_cons, List.length_nil] at hj ⊢
      have : j = 0 := by omega
      subst this
      simp only [List.getElem_cons_zero]
      rw [List.getD_eq_getElem?_getD, List.getElem?_map, List.getElem?_eq_getElem hi']
      simp only [Option.map_some, Option.getD_some]
      have := FRep.str ls[i].data.toList
      simpa using this
theorem split_C (s : List UInt8) : Lib.split s [13, 10] = splitC s := splitK_C _ _ (Nat.lt_succ_self _) _ (Nat.le_refl _)
theorem split_c (s : List UInt8) (hs : s.length < 4294967281) : CPure gx 103 [.str s, .str [13, 10]] (.ro true 1 (strRows (splitC s))) := by
  have h := split_g s [13, 10] hs (by decide)
  rw [split_C] at h
  exact h
end Go.Proofs.YtignjjnflcpiiaaGreatDoor
