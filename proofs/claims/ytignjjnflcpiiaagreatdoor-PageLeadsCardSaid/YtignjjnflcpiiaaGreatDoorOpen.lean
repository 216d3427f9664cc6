/- Arguments opened: what a slice of pairs of texts, or of texts, reads as, its value stands for; how long they are at most. -/
import Derived.Test.YtignjjnflcpiiaaGreatDoorVm3
import Derived.Deep.SlicePairs
import Derived.SliceStrings
import Derived.SizedLaws
import Derived.Carry
set_option linter.unusedVariables false
set_option linter.unusedSimpArgs false
set_option maxHeartbeats 1000000
namespace Go.Proofs.YtignjjnflcpiiaaGreatDoor
open Go.RowKit Go.ChangeShapes Go.WideShapes Go.Deep

theorem weightsAll_mem {H : Type} {P : Program} {e : TypeId} {d : DataW H} {x : Nat} : ∀ {l : List (DataW H)}, d ∈ l → x ∈ d.weights P e → x ∈ DataW.weightsAll P e l
  | y :: r, h, hx => by
    rw [DataW.weightsAll]
    rcases List.mem_cons.1 h with rfl | h
    · exact List.mem_append_left _ hx
    · exact List.mem_append_right _ (weightsAll_mem h hx)
/-- a slice of structs of two texts -/
theorem open_fields {H : Type} {enc : TypeId × Value → H} {P : Program} {W : World} {t e : TypeId} {f0 f1 : Field} {v : Value} {d : DataW H} {ps : List MemPlace} {r : Reach} {b0 : Nat} (ht : P.underlying t = some (.slice e)) (he : P.underlying e = some (.struct #[f0, f1]))
    (ce : P.cellsOf e = 2) (o0 : f0.offset = 0) (o1 : f1.offset = 1) (c0 : P.cellsOf f0.type = 1) (c1 : P.cellsOf f1.type = 1) (u0 : P.underlying f0.type = some .string) (u1 : P.underlying f1.type = some .string) (hby : 0 < P.bytesOf e)
    (hval : Value.okWide P W r b0 t v) (h : DataW.Trod enc P W 0 (fun _ => true) true t v d ps) :
    ∃ l : List (List UInt8 × List UInt8), Rep W 0 (fun _ => False) g0 (.ro false 2 (fieldRows l)) v ∧ ((∀ x ∈ d.weights P t, x ≤ reachBytes) → l.length ≤ reachBytes ∧ ∀ f ∈ l, f.1.length ≤ reachBytes ∧ f.2.length ≤ reachBytes) := by
  obtain ⟨a0, len0, cap0, rfl⟩ := okWide_slice ht hval
  obtain ⟨n, h⟩ := h
  rcases open_slice_pairs ht he ce o0 o1 c0 c1 h with ⟨hc, hx⟩ | ⟨a, len, cap, m, k, V0, V1, D0, D1, P0, P1, hc, _, hl, hm, hmm, hx, hall⟩
  · refine ⟨[], .ro _ _ _ _ _ (.inl ⟨rfl, a0, cap0, ?_, fun h0 => ?_⟩), fun _ => ⟨Nat.zero_le _, fun f hf => by cases hf⟩⟩
    · have : Value.slice a0 len0 cap0 = .slice none 0 0 := by simpa [Value.cells] using hc
      cases this; rfl
    · have : Value.slice a0 len0 cap0 = .slice none 0 0 := by simpa [Value.cells] using hc
      cases this; rfl
  · have hv : Value.slice a0 len0 cap0 = .slice (some a) len cap := by simpa [Value.cells] using hc
    cases hv
    simp only [if_true] at hmm
    subst hmm
    have hs0 : ∀ i, i < m → ∃ s : ByteArray, V0 i = .string s ∧ D0 i = .lit (.string s.data.toList) := fun i hi => by
      obtain ⟨s, h1, h2, _⟩ := DataW.trod_string u0 (hall i hi).2.2.1
      simp only [List.cons.injEq, and_true] at h1
      simp only [Prod.mk.injEq] at h2
      exact ⟨s, h1, h2.1⟩
    have hs1 : ∀ i, i < m → ∃ s : ByteArray, V1 i = .string s ∧ D1 i = .lit (.string s.data.toList) := fun i hi => by
      obtain ⟨s, h1, h2, _⟩ := DataW.trod_string u1 (hall i hi).2.2.2
      simp only [List.cons.injEq, and_true] at h1
      simp only [Prod.mk.injEq] at h2
      exact ⟨s, h1, h2.1⟩
    have pick : ∀ i : Nat, ∃ q : List UInt8 × List UInt8, i < m → V0 i = .string ⟨q.1.toArray⟩ ∧ V1 i = .string ⟨q.2.toArray⟩ ∧ D0 i = .lit (.string q.1) ∧ D1 i = .lit (.string q.2) := fun i => by
      by_cases hi : i < m
      · obtain ⟨s, a1, a2⟩ := hs0 i hi
        obtain ⟨s', a3, a4⟩ := hs1 i hi
        exact ⟨(s.data.toList, s'.data.toList), fun _ => ⟨by simpa using a1, by simpa using a3, a2, a4⟩⟩
      · exact ⟨([], []), fun h => absurd h hi⟩
    let q : Nat → List UInt8 × List UInt8 := fun i => (pick i).choose
    have hq : ∀ i, i < m → V0 i = .string ⟨(q i).1.toArray⟩ ∧ V1 i = .string ⟨(q i).2.toArray⟩ ∧ D0 i = .lit (.string (q i).1) ∧ D1 i = .lit (.string (q i).2) := fun i => (pick i).choose_spec
    refine ⟨(List.range len0).map q, ?_, fun hw => ?_⟩
    · refine .ro _ _ _ _ _ ?_
      by_cases h0 : len0 = 0
      · subst h0
        exact .inl ⟨by simp [fieldRows], some a, m, rfl, fun h => by cases h⟩
      · obtain ⟨b, o, spot⟩ := a
        have hspot : spot = none := by simpa [Addr.add] using World.cell?_spot (hall 0 (by omega)).1
        subst hspot
        refine .inr ⟨b, o, m, fun i j => match j with | 0 => V0 i | _ => V1 i, by simp [fieldRows], ⟨fun h => h, fun _ => Nat.zero_le _⟩, by simp [fieldRows]; omega, by omega, by simp [fieldRows]; omega, fun i hi j hj => ?_, fun i hi => by simp [fieldRows], fun i hi j hj => ?_⟩
        · have hi' : i < len0 := by simpa [fieldRows] using hi
          obtain ⟨h1, h2, _⟩ := hall i (by omega)
          simp only [Addr.add_lit] at h1 h2
          match j, hj with
          | 0, _ => simpa using h1
          | 1, _ =>
            rw [show o + i * 2 + 1 = o + (i * 2 + 1) by omega]
            exact h2
        · have hi' : i < len0 := by simpa [fieldRows] using hi
          obtain ⟨e1, e2, _⟩ := hq i (by omega)
          simp only [fieldRows, List.getElem_map, List.getElem_range, List.length_cons, List.length_nil] at hj ⊢
          match j, hj with
          | 0, _ => simp only [List.getElem_cons_zero, e1]; exact .str _
          | 1, _ => simp only [List.getElem_cons_succ, List.getElem_cons_zero, e2]; exact .str _
    · simp only [Prod.mk.injEq] at hx
      obtain ⟨rfl, _⟩ := hx
      rw [DataW.weights, ht] at hw
      simp only at hw
      have hlen := hw _ List.mem_cons_self
      have hl1 : len0 ≤ len0 * P.bytesOf e := Nat.le_mul_of_pos_right _ hby
      have hl2 : len0 * P.bytesOf e ≤ (len0 + (m - len0)) * P.bytesOf e := Nat.mul_le_mul_right _ (by omega)
      simp only [List.length_map, List.length_range] at hlen
      refine ⟨by simp; omega, fun f hf => ?_⟩
      obtain ⟨i, hi, rfl⟩ := List.mem_map.1 hf
      have hi := List.mem_range.1 hi
      obtain ⟨_, _, e3, e4⟩ := hq i (by omega)
      have each : ∀ x, x = (q i).1.length ∨ x = (q i).2.length → x ≤ reachBytes := fun x hx => by
        refine hw x (List.mem_cons_of_mem _ (List.mem_append_left _ (weightsAll_mem (d := .agg [D0 i, D1 i]) (List.mem_map.2 ⟨i, List.mem_range.2 hi, rfl⟩) ?_)))
        rw [DataW.weights, he]
        simp only [List.map_cons, List.map_nil, DataW.weightsEach, e3, e4, DataW.weights]
        rcases hx with rfl | rfl <;> simp
      exact ⟨each _ (.inl rfl), each _ (.inr rfl)⟩
/-- a slice of texts -/
theorem open_texts {H : Type} {enc : TypeId × Value → H} {P : Program} {W : World} {t e : TypeId} {v : Value} {d : DataW H} {ps : List MemPlace} {r : Reach} {b0 : Nat} (ht : P.underlying t = some (.slice e)) (he : P.underlying e = some .string) (ce : P.cellsOf e = 1) (hby : 0 < P.bytesOf e)
    (hval : Value.okWide P W r b0 t v) (h : DataW.Trod enc P W 0 (fun _ => true) true t v d ps) :
    ∃ l : List (List UInt8), Rep W 0 (fun _ => False) g0 (.ro false 1 (l.map fun x => [.str x])) v ∧ ((∀ x ∈ d.weights P t, x ≤ reachBytes) → l.length ≤ reachBytes ∧ ∀ f ∈ l, f.length ≤ reachBytes) := by
  obtain ⟨a0, len0, cap0, rfl⟩ := okWide_slice ht hval
  obtain ⟨n, h⟩ := h
  rcases open_strings ht he ce h with ⟨hc, hx⟩ | ⟨a, len, cap, ss, hc, _, hl, hm, hmm, hx, hall, _⟩
  · refine ⟨[], .ro _ _ _ _ _ (.inl ⟨rfl, a0, cap0, ?_, fun h0 => ?_⟩), fun _ => ⟨Nat.zero_le _, fun f hf => by cases hf⟩⟩
    · have : Value.slice a0 len0 cap0 = .slice none 0 0 := by simpa [Value.cells] using hc
      cases this; rfl
    · have : Value.slice a0 len0 cap0 = .slice none 0 0 := by simpa [Value.cells] using hc
      cases this; rfl
  · have hv : Value.slice a0 len0 cap0 = .slice (some a) len cap := by simpa [Value.cells] using hc
    cases hv
    simp only [if_true] at hmm
    refine ⟨(ss.take len0).map (·.data.toList), ?_, fun hw => ?_⟩
    · refine .ro _ _ _ _ _ ?_
      have hlt : (ss.take len0).length = len0 := by rw [List.length_take]; omega
      by_cases h0 : len0 = 0
      · subst h0
        exact .inl ⟨by simp, some a, cap0, rfl, fun h => by cases h⟩
      · obtain ⟨b, o, spot⟩ := a
        have hspot : spot = none := by simpa [Addr.add] using World.cell?_spot (hall 0 (by omega))
        subst hspot
        refine .inr ⟨b, o, cap0, fun i _ => .string (ss.getD i ByteArray.empty), by simp only [List.length_map, hlt], ⟨fun h => h, fun _ => Nat.zero_le _⟩, by simp only [List.length_map, hlt]; omega, by omega, by simp only [List.length_map, hlt]; omega, fun i hi j hj => ?_, fun i hi => by simp, fun i hi j hj => ?_⟩
        · have hi' : i < len0 := by simp only [List.length_map, hlt] at hi; exact hi
          have := hall i (by omega)
          rw [Addr.add_lit] at this
          have hj' : j = 0 := by omega
          subst hj'
          rw [show o + i * 1 + 0 = o + i by omega]
          exact this
        · have hi' : i < len0 := by simp only [List.length_map, hlt] at hi; exact hi
          simp only [List.getElem_map, List.length_cons, List.length_nil] at hj ⊢
          have hj' : j = 0 := by omega
          subst hj'
          simp only [List.getElem_cons_zero, List.getElem_take]
          rw [List.getD_eq_getElem?_getD, List.getElem?_eq_getElem (by omega)]
          have := FRep.str (ss[i]'(by omega)).data.toList
          simpa using this
    · simp only [Prod.mk.injEq] at hx
      obtain ⟨rfl, _⟩ := hx
      rw [DataW.weights, ht] at hw
      simp only at hw
      have hlen := hw _ List.mem_cons_self
      have hlt : (ss.take len0).length = len0 := by rw [List.length_take]; omega
      have hl1 : len0 ≤ len0 * P.bytesOf e := Nat.le_mul_of_pos_right _ hby
      have hl2 : len0 * P.bytesOf e ≤ ((strs (H := H) (ss.take len0)).length + (strs (H := H) (ss.drop len0)).length) * P.bytesOf e := Nat.mul_le_mul_right _ (by simp only [strs, List.length_map, hlt]; omega)
      refine ⟨by rw [List.length_map, hlt]; omega, fun f hf => ?_⟩
      obtain ⟨s, hs, rfl⟩ := List.mem_map.1 hf
      refine hw _ (List.mem_cons_of_mem _ (List.mem_append_left _ (weightsAll_mem (d := .lit (.string s.data.toList)) (List.mem_map.2 ⟨s, hs, rfl⟩) ?_)))
      rw [DataW.weights]
      simp
end Go.Proofs.YtignjjnflcpiiaaGreatDoor
