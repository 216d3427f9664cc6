import Derived.Test.YtignjjnflcpiiabGreatDoorZPn
set_option linter.unusedVariables false
set_option linter.unusedSimpArgs false
set_option maxHeartbeats 1000000
namespace Go.Proofs.YtignjjnflcpiiabGreatDoor
def lineAt (s : B) (a : Nat) : B := (Lib.cut (s.drop a) [13, 10]).1
def linesAt (s : B) (a : Nat) : List B := if a ≤ s.length then splitC (s.drop a) else []
theorem line_step {s : B} {a : Nat} (h : a ≤ s.length) : linesAt s a = lineAt s a :: linesAt s (a + (lineAt s a).length + 2) ∧ (a + (lineAt s a).length + 2 ≤ s.length → s.drop a = lineAt s a ++ 13 :: 10 :: s.drop (a + (lineAt s a).length + 2)) ∧ a + (lineAt s a).length ≤ s.length ∧ (s.drop a).take (lineAt s a).length = lineAt s a := by
  have hs := splitC_index (s.drop a)
  have hl : (s.drop a).length = s.length - a := List.length_drop
  unfold linesAt lineAt Lib.cut
  rcases Lib.index_spec (s.drop a) [13, 10] with ⟨h1, _⟩ | ⟨i, h1, h2, h3, _⟩
  · rw [if_pos h]
    rw [h1]
    rw [if_neg (by decide)]
    simp only
    rw [hs.1 h1, if_neg (by omega)]
    exact ⟨rfl, fun h3 => absurd h3 (by omega), by omega, List.take_of_length_le (Nat.le_refl _)⟩
  · rw [if_pos h]
    rw [h1]
    rw [if_pos (by omega)]
    simp only [Int.toNat_natCast]
    have h2' : ([13, 10] : B).isPrefixOf ((s.drop a).drop i) = true := h3
    obtain ⟨r, hr⟩ := (isPrefix_two 13 10 _).1 h2'
    have hrl := congrArg List.length hr
    rw [List.length_drop, hl] at hrl
    simp only [List.length_cons] at hrl
    have hti : ((s.drop a).take i).length = i := by rw [List.length_take, hl]; omega
    rw [hs.2 i h1, hti, if_pos (by omega), List.drop_drop, show a + (i + 2) = a + i + 2 by omega]
    refine ⟨rfl, fun _ => ?_, by omega, rfl⟩
    have h4 : (s.drop a).drop i = 13 :: 10 :: s.drop (a + i + 2) := by
      rw [hr]
      have := congrArg (List.drop 2) hr
      rw [List.drop_drop, List.drop_drop, show a + (i + 2) = a + i + 2 by omega] at this
      rw [this]; rfl
    rw [← h4, List.take_append_drop]
theorem lines_past {s : B} {a : Nat} (h : s.length < a) : linesAt s a = [] := by rw [linesAt, if_neg (by omega)]
theorem joinC_snoc : ∀ {l : List B} (x : B), l ≠ [] → joinC (l ++ [x]) = joinC l ++ 13 :: 10 :: x
  | [y], x, _ => rfl
  | y :: z :: r, x, _ => by
    rw [List.cons_append, joinC_cons _ (by simp), joinC_cons _ (by simp), joinC_snoc x (by simp), List.append_assoc]; rfl
def addP (op : Option Nat) (acc out : List B) : List B := match op with
  | some _ => out ++ [joinC acc]
  | none => out
structure CutI (b s : B) (a : Nat) (op : Option Nat) (acc out : List B) : Prop where
  go : cutGo b op.isSome acc out (linesAt s a) = cutF b s
  pos : ∀ o, op = some o → o ≤ s.length ∧ (a ≤ s.length → (acc = [] → a = o) ∧ (acc ≠ [] → a = o + (joinC acc).length + 2 ∧ s.drop o = joinC acc ++ 13 :: 10 :: s.drop a))
  cnt : out.length ≤ a
theorem CutI.start (b s : B) : CutI b s 0 none [] [] := ⟨by rw [linesAt, if_pos (Nat.zero_le _)]; rfl, fun o h => (by cases h), Nat.le_refl _⟩
section
variable {b s : B} {a : Nat} {op : Option Nat} {acc out : List B}
theorem CutI.past (h : CutI b s a op acc out) (ha : s.length < a) : cutF b s = none := by
  rw [← h.go, lines_past ha]; rfl
theorem CutI.piece {o : Nat} (h : CutI b s a (some o) acc out) (ha : a ≤ s.length) : o ≤ s.length ∧ o ≤ a ∧ max (a - 2) o ≤ s.length ∧ (s.take (max (a - 2) o)).drop o = joinC acc := by
  obtain ⟨h1, h2⟩ := h.pos o rfl
  obtain ⟨h3, h4⟩ := h2 ha
  by_cases hacc : acc = []
  · have := h3 hacc
    subst this
    subst hacc
    refine ⟨h1, Nat.le_refl _, by omega, ?_⟩
    rw [Nat.max_eq_right (by omega), List.drop_eq_nil_of_le (by rw [List.length_take]; omega)]; rfl
  · obtain ⟨h5, h6⟩ := h4 hacc
    refine ⟨h1, by omega, by omega, ?_⟩
    rw [Nat.max_eq_left (by omega), List.drop_take, h6, show a - 2 - o = (joinC acc).length by omega, List.take_left' rfl]
theorem CutI.non (h : CutI b s a op acc out) (ha : a ≤ s.length) (hm : markF b (lineAt s a) = none) : CutI b s (a + (lineAt s a).length + 2) op (acc ++ [lineAt s a]) out := by
  obtain ⟨h1, h2, h3, h4⟩ := line_step ha
  refine ⟨?_, fun o ho => ?_, by have := h.cnt; omega⟩
  · rw [← h.go, h1, cutGo, hm]
  · obtain ⟨h5, h6⟩ := h.pos o ho
    obtain ⟨h7, h8⟩ := h6 ha
    refine ⟨h5, fun ha' => ⟨fun e => absurd e (by simp), fun _ => ?_⟩⟩
    have h9 := h2 ha'
    by_cases hacc : acc = []
    · have := h7 hacc
      subst this
      subst hacc
      exact ⟨by simp [joinC], by simpa [joinC] using h9⟩
    · obtain ⟨h10, h11⟩ := h8 hacc
      rw [joinC_snoc _ hacc, List.length_append]
      refine ⟨by simp only [List.length_cons]; omega, ?_⟩
      rw [h11, h9]
      simp
theorem CutI.fin (h : CutI b s a op acc out) (ha : a ≤ s.length) (hm : markF b (lineAt s a) = some true) : cutF b s = some (addP op acc out) := by
  rw [← h.go, (line_step ha).1, cutGo, hm]
  cases op <;> rfl
theorem CutI.open (h : CutI b s a op acc out) (ha : a ≤ s.length) (hm : markF b (lineAt s a) = some false) : CutI b s (a + (lineAt s a).length + 2) (some (min (a + (lineAt s a).length + 2) s.length)) [] (addP op acc out) := by
  obtain ⟨h1, h2, h3, h4⟩ := line_step ha
  refine ⟨?_, fun o ho => ?_, ?_⟩
  · rw [← h.go, h1, cutGo, hm]
    cases op <;> rfl
  · cases ho
    exact ⟨Nat.min_le_right _ _, fun ha' => ⟨fun _ => by omega, fun e => absurd rfl e⟩⟩
  · have := h.cnt
    cases op with
    | none => simp only [addP]; omega
    | some o => simp only [addP, List.length_append, List.length_cons, List.length_nil]; omega
end
theorem mark_ask (b l : B) : markF b l = match (45 :: 45 :: b).isPrefixOf l with
    | false => none
    | true => if trimB (l.drop (b.length + 2)) = [45, 45] then some true else if trimB (l.drop (b.length + 2)) = [] then some false else none := by
  unfold markF
  cases (45 :: 45 :: b).isPrefixOf l with
  | false => rfl
  | true =>
    simp only
    generalize trimB (l.drop (b.length + 2)) = t
    split
    · simp
    · simp
    · rename_i h1 h2
      rw [if_neg (fun e => h2 e), if_neg (fun e => h1 e)]
end Go.Proofs.YtignjjnflcpiiabGreatDoor
