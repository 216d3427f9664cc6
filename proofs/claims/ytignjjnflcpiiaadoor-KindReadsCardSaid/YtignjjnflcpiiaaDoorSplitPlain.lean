/- strings.Split at CR LF is the plain 'splitC'. -/
import Derived.Test.YtignjjnflcpiiaaDoorTextPlain
import Derived.Lib.SplitLaws
set_option linter.unusedVariables false
set_option linter.unusedSimpArgs false
namespace Go.Proofs.YtignjjnflcpiiaaDoor

theorem isPrefix_two (a b : UInt8) (s : B) : ([a, b] : B).isPrefixOf s = true ↔ ∃ r, s = a :: b :: r := by
  match s with
  | [] => simp
  | [c] => simp [List.isPrefixOf]
  | c :: d :: r =>
    simp only [List.isPrefixOf, Bool.and_true, Bool.and_eq_true, beq_iff_eq, List.cons.injEq]
    constructor
    · rintro ⟨rfl, rfl⟩; exact ⟨r, rfl, rfl, rfl⟩
    · rintro ⟨_, rfl, rfl, _⟩; exact ⟨rfl, rfl⟩

theorem splitC_index (s : B) : (Lib.index s [13, 10] = -1 → splitC s = [s]) ∧ ∀ i : Nat, Lib.index s [13, 10] = i → splitC s = s.take i :: splitC (s.drop (i + 2)) := by
  fun_induction splitC s with
  | case1 => exact ⟨fun _ => rfl, fun i h => by simp [Lib.index] at h⟩
  | case2 c =>
    have h0 : Lib.index [c] [13, 10] = -1 := by simp [Lib.index, List.isPrefixOf]
    exact ⟨fun _ => rfl, fun i h => by rw [h0] at h; omega⟩
  | case3 c d r h ih =>
    obtain ⟨rfl, rfl⟩ := h
    have h0 : Lib.index (13 :: 10 :: r) [13, 10] = 0 := by simp [Lib.index, List.isPrefixOf]
    refine ⟨fun h => by rw [h0] at h; omega, fun i h => ?_⟩
    rw [h0] at h
    obtain rfl : i = 0 := by omega
    rfl
  | case4 c d r h ih =>
    have hp : ([13, 10] : B).isPrefixOf (c :: d :: r) = false := by
      cases hb : ([13, 10] : B).isPrefixOf (c :: d :: r) with
      | false => rfl
      | true =>
        obtain ⟨_, hr⟩ := (isPrefix_two _ _ _).1 hb
        simp only [List.cons.injEq] at hr
        exact absurd ⟨hr.1, hr.2.1⟩ h
    have hge := Lib.index_ge (d :: r) [13, 10]
    have hi : Lib.index (c :: d :: r) [13, 10] = if Lib.index (d :: r) [13, 10] == -1 then -1 else Lib.index (d :: r) [13, 10] + 1 := by
      rw [Lib.index, hp]; rfl
    constructor
    · intro h1
      rw [hi] at h1
      split at h1
      · rename_i h2
        rw [ih.1 (by simpa using h2)]
        rfl
      · omega
    · intro i h1
      rw [hi] at h1
      split at h1
      · omega
      · rename_i h2
        have h2' : Lib.index (d :: r) [13, 10] ≠ -1 := by simpa using h2
        obtain ⟨j, rfl⟩ : ∃ j, i = j + 1 := ⟨i - 1, by omega⟩
        rw [ih.2 j (by omega)]
        simp

theorem splitK_C : ∀ (fuel : Nat) (s : B), s.length < fuel → ∀ k, Lib.countFrom [13, 10] fuel s ≤ k → Lib.splitK [13, 10] 0 k s = splitC s
  | 0, s, h, _, _ => by omega
  | fuel + 1, s, h, k, hk => by
    have hge := Lib.index_ge s [13, 10]
    by_cases hi : Lib.index s [13, 10] = -1
    · rw [(splitC_index s).1 hi]
      cases k with
      | zero => rfl
      | succ k => rw [Lib.splitK, if_pos (by simp [hi])]
    · obtain ⟨i, hi'⟩ : ∃ i : Nat, Lib.index s [13, 10] = i := ⟨(Lib.index s [13, 10]).toNat, by omega⟩
      rw [Lib.countFrom, if_neg (by simp [hi])] at hk
      obtain ⟨k, rfl⟩ : ∃ j, k = j + 1 := ⟨k - 1, by omega⟩
      rw [(splitC_index s).2 i hi', Lib.splitK, if_neg (by simp [hi]), hi']
      simp only [Int.toNat_natCast, Nat.add_zero, List.length_cons, List.length_nil, Nat.zero_add, Nat.reduceAdd]
      rw [hi'] at hk
      simp only [Int.toNat_natCast, List.length_cons, List.length_nil, Nat.zero_add, Nat.reduceAdd] at hk
      rw [splitK_C fuel (s.drop (i + 2)) ?_ k (by omega)]
      rw [List.length_drop]
      cases s with
      | nil => simp [Lib.index] at hi
      | cons a l => simp only [List.length_cons] at h ⊢; omega

theorem split_crlf (s : ByteArray) : (Lib.splitB ⟨#[13, 10]⟩ 0 (Lib.countB s ⟨#[13, 10]⟩) s).map (·.data.toList) = splitC s.data.toList := by
  rw [Lib.splitB_data]
  exact splitK_C _ _ (Nat.lt_succ_self _) _ (Nat.le_refl _)

theorem splitC_sum : ∀ s : B, ((splitC s).map List.length).sum + 2 * ((splitC s).length - 1) = s.length := by
  intro s
  fun_induction splitC s with
  | case1 => rfl
  | case2 => rfl
  | case3 c d r h ih =>
    have hne := splitC_ne r
    cases hs : splitC r with
    | nil => exact absurd hs hne
    | cons l ls => rw [hs] at ih; simp at ih ⊢; omega
  | case4 c d r h ih =>
    cases hs : splitC (d :: r) with
    | nil => exact absurd hs (splitC_ne _)
    | cons l ls => rw [hs] at ih; simp at ih ⊢; omega

end Go.Proofs.YtignjjnflcpiiaaDoor
