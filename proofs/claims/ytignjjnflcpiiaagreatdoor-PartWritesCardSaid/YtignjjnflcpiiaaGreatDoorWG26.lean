import Derived.Test.YtignjjnflcpiiaaGreatDoorWRepl
import Derived.Test.YtignjjnflcpiiaaGreatDoorWG8
import Derived.Lib.Bytealg
set_option linter.unusedVariables false
set_option linter.unusedSimpArgs false
set_option maxHeartbeats 1000000
namespace Go.Proofs.YtignjjnflcpiiaaGreatDoor
open Go.RowKit
def subst (l : List (UInt8 × List UInt8)) (s : List UInt8) : List UInt8 := s.flatMap fun c => (look l c).getD [c]
def gain (l : List (UInt8 × List UInt8)) (c : UInt8) : Nat := ((look l c).getD [c]).length - 1
def hit (l : List (UInt8 × List UInt8)) (c : UInt8) : Bool := (look l c).isSome
def gains (l : List (UInt8 × List UInt8)) (s : List UInt8) : Nat := (s.map (gain l)).sum
def counts (l : List (UInt8 × List UInt8)) (xs s : List UInt8) : Nat := (xs.map fun x => s.count x * gain l x).sum
theorem look_ne {l : List (UInt8 × List UInt8)} (hn : ∀ p ∈ l, 2 ≤ p.2.length) {c : UInt8} {n : List UInt8} (h : look l c = some n) : 2 ≤ n.length := by
  obtain ⟨p, hp, rfl⟩ := look_mem h
  exact hn p hp
theorem repl_mem : ∀ (l : List (UInt8 × List UInt8)) (c : UInt8), c ∈ repl l ↔ hit l c = true
  | [], c => by simp [repl, hit, look]
  | p :: r, c => by
    have ih := repl_mem r c
    have ihp := repl_mem r p.1
    unfold hit at *
    simp only [repl, look]
    by_cases h : p.1 = c
    · subst h
      rw [if_pos rfl]
      cases hl : look r p.1 with
      | none => simp
      | some n =>
        rw [hl] at ihp
        simp only [Option.isSome_some, iff_true] at ihp ⊢
        exact ihp
    · rw [if_neg h]
      cases hl : look r p.1 with
      | none => simp only [List.mem_append, List.mem_singleton, ih, Ne.symm h, or_false]
      | some n => exact ih
theorem repl_nodup : ∀ l : List (UInt8 × List UInt8), (repl l).Nodup
  | [] => List.nodup_nil
  | p :: r => by
    have ih := repl_nodup r
    have ihp := repl_mem r p.1
    simp only [repl]
    cases hl : look r p.1 with
    | some n => exact ih
    | none =>
      refine List.nodup_append.2 ⟨ih, by simp, fun a ha b hb => ?_⟩
      rw [List.mem_singleton] at hb
      subst hb
      rintro rfl
      have := ihp.1 ha
      unfold hit at this
      rw [hl] at this
      cases this
theorem gain_miss {l : List (UInt8 × List UInt8)} {c : UInt8} (h : hit l c = false) : gain l c = 0 := by
  unfold hit at h
  unfold gain
  cases hl : look l c with
  | none => rfl
  | some n => rw [hl] at h; cases h
theorem counts_cons (l : List (UInt8 × List UInt8)) (c : UInt8) (s : List UInt8) : ∀ xs : List UInt8, xs.Nodup → counts l xs (c :: s) = counts l xs s + if c ∈ xs then gain l c else 0
  | [], _ => rfl
  | x :: xs, h => by
    obtain ⟨h1, h2⟩ := List.nodup_cons.1 h
    have ih := counts_cons l c s xs h2
    simp only [counts, List.map_cons, List.sum_cons, List.count_cons] at ih ⊢
    rw [ih]
    by_cases hc : c = x
    · subst hc
      simp only [beq_self_eq_true, if_true, List.mem_cons, true_or, h1, if_false, Nat.add_mul, Nat.one_mul]
      omega
    · have : (c == x) = false := by simpa using hc
      simp only [this, Bool.false_eq_true, if_false, Nat.add_zero, List.mem_cons, hc, false_or]
      omega
theorem counts_all (l : List (UInt8 × List UInt8)) : ∀ s : List UInt8, counts l (repl l) s = gains l s
  | [] => by
    have : ∀ xs : List UInt8, counts l xs [] = 0 := fun xs => by
      induction xs with
      | nil => rfl
      | cons x xs ih => simp only [counts, List.map_cons, List.sum_cons, List.count_nil, Nat.zero_mul, Nat.zero_add] at ih ⊢; exact ih
    exact this _
  | c :: s => by
    rw [counts_cons l c s _ (repl_nodup l), counts_all l s]
    simp only [gains, List.map_cons, List.sum_cons]
    by_cases h : c ∈ repl l
    · rw [if_pos h]; omega
    · rw [if_neg h, gain_miss (by
        cases hh : hit l c with
        | false => rfl
        | true => exact absurd ((repl_mem l c).2 hh) h)]
      omega
theorem subst_length {l : List (UInt8 × List UInt8)} (hn : ∀ p ∈ l, 2 ≤ p.2.length) : ∀ s, (subst l s).length = s.length + gains l s
  | [] => rfl
  | c :: s => by
    have ih := subst_length hn s
    have h1 : 1 ≤ ((look l c).getD [c]).length := by
      cases hl : look l c with
      | none => exact Nat.le_refl _
      | some n => have := look_ne hn hl; simp only [Option.getD_some]; omega
    simp only [subst, List.flatMap_cons, List.length_append, gains, List.map_cons, List.sum_cons, List.length_cons, gain] at ih ⊢
    omega
theorem hits_all (l : List (UInt8 × List UInt8)) (s : List UInt8) : (repl l).any (fun x => decide (s.count x ≠ 0)) = s.any (hit l) := by
  rw [Bool.eq_iff_iff, List.any_eq_true, List.any_eq_true]
  constructor
  · rintro ⟨x, hx, h⟩
    exact ⟨x, List.count_pos_iff.1 (Nat.pos_of_ne_zero (by simpa using h)), (repl_mem l x).1 hx⟩
  · rintro ⟨x, hx, h⟩
    exact ⟨x, (repl_mem l x).2 h, by have := List.count_pos_iff.2 hx; simp; omega⟩
theorem subst_miss {l : List (UInt8 × List UInt8)} : ∀ {s : List UInt8}, s.any (hit l) = false → subst l s = s
  | [], _ => rfl
  | c :: s, h => by
    rw [List.any_cons, Bool.or_eq_false_iff] at h
    have ih := subst_miss h.2
    have hl : look l c = none := by
      have := h.1
      unfold hit at this
      cases hl : look l c with
      | none => rfl
      | some n => rw [hl] at this; cases this
    simp only [subst, List.flatMap_cons, hl, Option.getD_none] at ih ⊢
    rw [ih]; rfl
theorem take_next {α : Type} {s : List α} {i : Nat} (hi : i < s.length) : s.take (i + 1) = s.take i ++ [s[i]] := by
  rw [List.take_add_one, List.getElem?_eq_getElem hi]; rfl
theorem subst_take {l : List (UInt8 × List UInt8)} {s : List UInt8} {i : Nat} (hi : i < s.length) : subst l (s.take (i + 1)) = subst l (s.take i) ++ (look l s[i]).getD [s[i]] := by
  rw [take_next hi]
  simp only [subst, List.flatMap_append, List.flatMap_cons, List.flatMap_nil, List.append_nil]
theorem gains_take {l : List (UInt8 × List UInt8)} {s : List UInt8} {i : Nat} (hi : i < s.length) : gains l (s.take (i + 1)) = gains l (s.take i) + gain l s[i] := by
  rw [take_next hi]
  simp only [gains, List.map_append, List.sum_append, List.map_cons, List.map_nil, List.sum_cons, List.sum_nil, Nat.add_zero]
theorem counts_take {l : List (UInt8 × List UInt8)} {xs s : List UInt8} {i : Nat} (hi : i < xs.length) : counts l (xs.take (i + 1)) s = counts l (xs.take i) s + s.count xs[i] * gain l xs[i] := by
  rw [take_next hi]
  simp only [counts, List.map_append, List.sum_append, List.map_cons, List.map_nil, List.sum_cons, List.sum_nil, Nat.add_zero]
theorem gains_le {l : List (UInt8 × List UInt8)} (hn : ∀ p ∈ l, p.2.length ≤ 1000) : ∀ s, gains l s ≤ s.length * 1000
  | [] => Nat.le_refl _
  | c :: s => by
    have ih := gains_le hn s
    have h1 : gain l c ≤ 1000 := by
      unfold gain
      cases hl : look l c with
      | none => simp
      | some n =>
        obtain ⟨p, hp, rfl⟩ := look_mem hl
        have := hn p hp
        simp only [Option.getD_some]; omega
    simp only [gains, List.map_cons, List.sum_cons, List.length_cons] at ih ⊢
    omega
end Go.Proofs.YtignjjnflcpiiaaGreatDoor
namespace Go.Proofs.YtignjjnflcpiiaaGreatDoor
open Go.RowKit
set_option maxRecDepth 100000
def countB (s : List UInt8) (c : UInt8) : Nat := Lib.countByte s c
set_option maxHeartbeats 1000000 in
theorem count1_any (s : ByteArray) (c : UInt8) (w : World) : Calls Tryz.prog 187 #[.string s, .string ⟨#[c]⟩] w fun e w' => e = .returned (.int .i64 (Lib.countByte s.data.toList c)) ∧ w' = w := by
  have hc : (callFunc 209 #[.string s, .int .u8 (c.toNat : Int)]).run Tryz.prog w = .ok (.value (.int .i64 (Lib.countByte s.data.toList c))) w := by
    rw [run_callFunc_extern Tryz.func209 (by kernel_rfl) (by kernel_rfl) (by kernel_rfl) (e := Extern.BytealgCount.count) (by kernel_rfl)]
    rw [Lib.run_countString]
    simp
  have hl : (ByteArray.mk #[c]).size = 1 := rfl
  have hg : (ByteArray.mk #[c]).data.toList = [c] := rfl
  go_enter Tryz.func187, Tryz.ntmps187
  go_wp2
  first
    | (rw [hc])
    | (simp only [hg, List.getElem_cons_zero]; rw [hc])
    | (erw [hc])
    | trace_state
  try simp only [Result.andThen]
  try rw [Oper.upon_value]
  go_wp2
  first | go_ret | go_end0 | trace_state
  all_goals first | exact ⟨rfl, rfl⟩ | trace_state
theorem count_c (s : List UInt8) (c : UInt8) : CPure gx 187 [.str s, .str [c]] (.int .i64 (Lib.countByte s c)) :=
  cpure_val rfl rfl fun w _ => (count1_any ⟨s.toArray⟩ c w).mono fun e w' h => ⟨h.1, by rw [h.2]; exact Below.refl _ _⟩
end Go.Proofs.YtignjjnflcpiiaaGreatDoor
