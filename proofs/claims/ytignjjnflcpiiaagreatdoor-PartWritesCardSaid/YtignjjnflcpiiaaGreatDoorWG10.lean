import Derived.Test.YtignjjnflcpiiaaGreatDoorWG8
import Derived.Test.YtignjjnflcpiiaaGreatDoorWPlain1
set_option linter.unusedVariables false
set_option linter.unusedSimpArgs false
set_option maxHeartbeats 1000000
namespace Go.Proofs.YtignjjnflcpiiaaGreatDoor
open Go.RowKit
attribute [local irreducible] Tri Steps Qd Wr Weak CPure CEff
set_option maxRecDepth 100000
theorem all_bad {p : UInt8 → Bool} {s : B} {i : Nat} (hi : (i : Int) < s.length) (h : p (s.getD (i : Int).toNat 0) = false) : s.all p = false := by
  have hi' : i < s.length := by omega
  refine List.all_eq_false.2 ⟨s[i], List.getElem_mem hi', ?_⟩
  rw [List.getD_eq_getElem?_getD, Int.toNat_natCast, List.getElem?_eq_getElem hi'] at h
  simpa using h
theorem all_good {p : UInt8 → Bool} {s : B} {i : Nat} (hi : ¬ (i : Int) < s.length) (h : ∀ j, j < i → p (s.getD j 0) = true) : s.all p = true := by
  refine List.all_eq_true.2 fun x hx => ?_
  obtain ⟨j, hj, rfl⟩ := List.getElem_of_mem hx
  have := h j (by omega)
  rw [List.getD_eq_getElem?_getD, List.getElem?_eq_getElem hj] at this
  simpa using this
theorem good_step {p : UInt8 → Bool} {s : B} {i : Nat} (h : ∀ j, j < i → p (s.getD j 0) = true) (hp : p (s.getD (i : Int).toNat 0) = true) : ∀ j, j < i + 1 → p (s.getD j 0) = true := by
  intro j hj
  rcases Nat.lt_or_ge j i with h' | h'
  · exact h j h'
  · have : j = i := by omega
    subst this
    simpa using hp
theorem isE_f {s : B} (h : s ≠ []) : s.isEmpty = false := by
  cases s with
  | nil => exact absurd rfl h
  | cons a l => rfl
theorem isE_t {s : B} (h : ¬ s ≠ []) : s.isEmpty = true := by
  cases s with
  | nil => rfl
  | cons a l => exact absurd (fun h => by cases h) h
theorem isE_p {s : B} (h : (0 : Int) < s.length) : s.isEmpty = false := by
  cases s with
  | nil => exact absurd h (by simp)
  | cons a l => rfl
theorem isE_z {s : B} (h : ¬ (0 : Int) < s.length) : s.isEmpty = true := by
  cases s with
  | nil => rfl
  | cons a l => exact absurd (by simp) h
theorem wrap_u8 (c : UInt8) : IntKind.i64.wrap (c.toNat : Int) = c.toNat := IntWalk.i64_in _ (by have := c.toNat_lt; omega)
theorem in_c (n l h : Int) : CPure gx 50 [.int .i64 n, .int .i64 l, .int .i64 h] (.bool (decide (l ≤ n ∧ n ≤ h))) := by
  refine cpure_of Tryz.func50 rfl (Nat.le_of_ble_eq_true rfl) rfl (fun w hw => ?_)
  repeat' (first | refine a_f ?_ | refine st_nil ?_ | refine tri_seq ?_ | refine tri_region rfl ?_ | refine a_draw ?_ | (apply st_r rfl; case hq => first | exact a_q) | (apply st_rif rfl; (case hq => first | exact a_i); all_goals (intro _; try (exfalso; first | omega | contradiction))) | (apply st_rw rfl rfl; case hq => first | exact a_store) | refine tri_true rfl ?_ | refine tri_false rfl ?_ | refine tri_block ?_ | refine tri_skip ?_ | refine tri_ret ?_ | refine tri_exit ?_)
  all_goals (refine And.intro trivial ?_; conv => lhs; whnf)
  all_goals simp [*]
theorem blank_c (c : UInt8) : CPure gx 169 [.int .u8 c.toNat] (.bool (decide (c = 32 ∨ c = 9))) := by
  refine cpure_of Tryz.func169 rfl (Nat.le_of_ble_eq_true rfl) rfl (fun w hw => ?_)
  have e1 : ∀ k : UInt8, c = k ↔ (c.toNat : Int) = (k.toNat : Int) := fun k => by rw [← UInt8.toNat_inj]; omega
  have e2 := e1 32
  have e3 := e1 9
  rw [show ((32 : UInt8).toNat : Int) = 32 from rfl] at e2
  rw [show ((9 : UInt8).toNat : Int) = 9 from rfl] at e3
  repeat' (first | refine a_f ?_ | refine st_nil ?_ | refine tri_seq ?_ | refine tri_region rfl ?_ | refine a_draw ?_ | (apply st_r rfl; case hq => first | exact a_q) | (apply st_rif rfl; (case hq => first | exact a_i); all_goals (intro _; try (exfalso; first | omega | contradiction))) | (apply st_rw rfl rfl; case hq => first | exact a_store) | refine tri_true rfl ?_ | refine tri_false rfl ?_ | refine tri_block ?_ | refine tri_skip ?_ | refine tri_ret ?_ | refine tri_exit ?_)
  all_goals (refine And.intro trivial ?_; conv => lhs; whnf)
  all_goals simp [*]
def nameC (c : UInt8) : Bool := decide (33 ≤ c.toNat ∧ c.toNat ≤ 126 ∧ c.toNat ≠ 58)
def nameB (s : B) : Bool := s.all nameC && !s.isEmpty
theorem name_c (s : B) (hs : s.length ≤ 1000000) : CPure gx 131 [.str s] (.bool (nameB s)) := by
  refine cpure_of Tryz.func131 rfl (Nat.le_of_ble_eq_true rfl) rfl (fun w hw => ?_)
  repeat' (first | refine a_f ?_ | refine st_nil ?_ | refine tri_seq ?_ | refine tri_region rfl ?_ | refine a_draw ?_ | (apply st_r rfl; case hq => first | exact a_q) | (apply st_rif rfl; (case hq => first | exact a_i); all_goals (intro _; try (exfalso; first | omega | contradiction))) | (apply st_rw rfl rfl; case hq => first | exact a_store) | refine tri_true rfl ?_ | refine tri_false rfl ?_ | refine tri_block ?_ | refine tri_skip ?_ | refine tri_ret ?_ | refine tri_exit ?_)
  refine tri_loop (fun (i : Nat) => i ≤ s.length ∧ ∀ j, j < i → nameC (s.getD j 0) = true) (fun i => st [(0, .str s), (2, .bool false), (5, .int .i64 s.length), (6, .int .i64 i)] []) (fun i => s.length - i) 0 ⟨Nat.zero_le _, fun j hj => absurd hj (Nat.not_lt_zero j)⟩ ?hw (fun i hi => ?_)
  case hw => exact weak_st ⟨rfl, rfl, rfl, rfl, trivial⟩ trivial
  obtain ⟨hi, hg⟩ := hi
  repeat' (first | refine a_f ?_ | refine st_nil ?_ | refine tri_seq ?_ | refine tri_region rfl ?_ | refine a_draw ?_ | (apply st_r rfl; case hq => first | exact a_q) | (apply st_rif rfl; (case hq => first | exact a_i); all_goals (intro _; try (exfalso; first | omega | contradiction))) | (apply st_rw rfl rfl; case hq => first | exact a_store) | refine tri_true rfl ?_ | refine tri_false rfl ?_ | refine tri_block ?_ | refine tri_skip ?_ | refine tri_ret ?_ | refine tri_exit ?_)
  · refine And.intro trivial ?_
    conv => lhs; whnf
    rw [nameB, all_bad ‹_› (by simp only [nameC, decide_eq_false_iff_not]; omega)]
    rfl
  · refine And.intro trivial ?_
    conv => lhs; whnf
    rw [nameB, all_bad ‹_› (by simp only [nameC, decide_eq_false_iff_not]; omega)]
    rfl
  · refine And.intro trivial ?_
    conv => lhs; whnf
    rw [nameB, all_bad ‹_› (by simp only [nameC, decide_eq_false_iff_not]; omega)]
    rfl
  · refine Exists.intro (i + 1) (And.intro ⟨by omega, good_step hg (by simp only [nameC, decide_eq_true_eq]; omega)⟩ (And.intro (weak_st ⟨rfl, rfl, rfl, rfl, trivial⟩ trivial) (by show _ - (i + 1) < _; omega)))
  all_goals
    refine And.intro trivial ?_
    conv => lhs; whnf
    rw [nameB, all_good ‹_› hg]
    first | rw [isE_f ‹_›]; rfl | rw [isE_t ‹_›]; rfl
theorem rname_c (s : B) (hs : s.length ≤ 1000000) : CPure gx 122 [.str s] (.bool (nameB s)) := by
  refine cpure_of Tryz.func122 rfl (Nat.le_of_ble_eq_true rfl) rfl (fun w hw => ?_)
  repeat' (first | refine a_f ?_ | refine st_nil ?_ | refine tri_seq ?_ | refine tri_region rfl ?_ | refine a_draw ?_ | (apply st_r rfl; case hq => first | exact a_q) | (apply st_rif rfl; (case hq => first | exact a_i); all_goals (intro _; try (exfalso; first | omega | contradiction))) | (apply st_rw rfl rfl; case hq => first | exact a_store) | refine tri_true rfl ?_ | refine tri_false rfl ?_ | refine tri_block ?_ | refine tri_skip ?_ | refine tri_ret ?_ | refine tri_exit ?_)
  refine tri_loop (fun (i : Nat) => i ≤ s.length ∧ ∀ j, j < i → nameC (s.getD j 0) = true) (fun i => st [(0, .str s), (2, .bool false), (5, .int .i64 s.length), (6, .int .i64 i)] []) (fun i => s.length - i) 0 ⟨Nat.zero_le _, fun j hj => absurd hj (Nat.not_lt_zero j)⟩ ?hw (fun i hi => ?_)
  case hw => exact weak_st ⟨rfl, rfl, rfl, rfl, trivial⟩ trivial
  obtain ⟨hi, hg⟩ := hi
  repeat' (first | refine a_f ?_ | refine st_nil ?_ | refine tri_seq ?_ | refine tri_region rfl ?_ | refine a_draw ?_ | (apply st_r rfl; case hq => first | exact q_convint (by conv => lhs; whnf) (by kernel_rfl) (by kernel_rfl) (wrap_u8 _) | exact a_q) | (apply st_rif rfl; (case hq => first | exact q_call (in_c _ _ _) (hcf := Tryz.call50) rfl rfl | exact a_i); all_goals (intro _; try (exfalso; first | omega | contradiction))) | (apply st_rw rfl rfl; case hq => first | exact a_store) | refine tri_true rfl ?_ | refine tri_false rfl ?_ | refine tri_block ?_ | refine tri_skip ?_ | refine tri_ret ?_ | refine tri_exit ?_)
  all_goals first
    | (refine And.intro trivial ?_
       conv => lhs; whnf
       rw [nameB, all_bad ‹_› (by simp only [nameC, decide_eq_false_iff_not]; omega)]
       rfl)
    | (refine Exists.intro (i + 1) (And.intro ⟨by omega, good_step hg (by simp only [nameC, decide_eq_true_eq]; omega)⟩ (And.intro (weak_st ⟨rfl, rfl, rfl, rfl, trivial⟩ trivial) (by show _ - (i + 1) < _; omega))))
    | (refine And.intro trivial ?_
       conv => lhs; whnf
       rw [nameB, all_good ‹_› hg]
       first | rw [isE_p ‹_›]; rfl | rw [isE_z ‹_›]; rfl)
def blk (c : UInt8) : Bool := decide (c = 32 ∨ c = 9)
def trimB (s : B) : B := Lib.trimS s [32, 9]
def valC (c : UInt8) : Bool := decide (¬ ((c.toNat < 32 ∧ c.toNat ≠ 9) ∨ c.toNat = 127))
def valueB (s : B) : Bool := s.all valC && decide (trimB s = s)
theorem value_c (s : B) (hs : s.length ≤ 1000000) : CPure gx 132 [.str s] (.bool (valueB s)) := by
  refine cpure_of Tryz.func132 rfl (Nat.le_of_ble_eq_true rfl) rfl (fun w hw => ?_)
  repeat' (first | refine a_f ?_ | refine st_nil ?_ | refine tri_seq ?_ | refine tri_region rfl ?_ | refine a_draw ?_ | (apply st_r rfl; case hq => first | exact a_q) | (apply st_rif rfl; (case hq => first | exact a_i); all_goals (intro _; try (exfalso; first | omega | contradiction))) | (apply st_rw rfl rfl; case hq => first | exact a_store) | refine tri_true rfl ?_ | refine tri_false rfl ?_ | refine tri_block ?_ | refine tri_skip ?_ | refine tri_ret ?_ | refine tri_exit ?_)
  refine tri_loop (fun (i : Nat) => i ≤ s.length ∧ ∀ j, j < i → valC (s.getD j 0) = true) (fun i => st [(0, .str s), (2, .bool false), (5, .int .i64 s.length), (6, .int .i64 i)] []) (fun i => s.length - i) 0 ⟨Nat.zero_le _, fun j hj => absurd hj (Nat.not_lt_zero j)⟩ ?hw (fun i hi => ?_)
  case hw => exact weak_st ⟨rfl, rfl, rfl, rfl, trivial⟩ trivial
  obtain ⟨hi, hg⟩ := hi
  repeat' (first | refine a_f ?_ | refine st_nil ?_ | refine tri_seq ?_ | refine tri_region rfl ?_ | refine a_draw ?_ | (apply st_r rfl; case hq => first | exact q_call (trim_c s [32, 9] (by omega) (by decide) rfl) (hcf := Tryz.call59) rfl rfl | exact a_q) | (apply st_rif rfl; (case hq => first | exact a_i); all_goals (intro _; try (exfalso; first | omega | contradiction))) | (apply st_rw rfl rfl; case hq => first | exact a_store) | refine tri_true rfl ?_ | refine tri_false rfl ?_ | refine tri_block ?_ | refine tri_skip ?_ | refine tri_ret ?_ | refine tri_exit ?_)
  all_goals first
    | (refine And.intro trivial ?_
       conv => lhs; whnf
       rw [valueB, all_bad ‹_› (by simp only [valC, decide_eq_false_iff_not]; omega)]
       rfl)
    | (refine Exists.intro (i + 1) (And.intro ⟨by omega, good_step hg (by simp only [valC, decide_eq_true_eq]; omega)⟩ (And.intro (weak_st ⟨rfl, rfl, rfl, rfl, trivial⟩ trivial) (by show _ - (i + 1) < _; omega))))
    | (refine And.intro trivial ?_
       conv => lhs; whnf
       rw [valueB, all_good ‹_› hg]
       simp [trimB, *])
end Go.Proofs.YtignjjnflcpiiaaGreatDoor
namespace Go.Proofs.YtignjjnflcpiiaaGreatDoor
open Go.RowKit
attribute [local irreducible] Tri Steps Qd Wr Weak CPure CEff
set_option maxRecDepth 100000
theorem dw_all (p : UInt8 → Bool) : ∀ l : B, l.dropWhile p = [] ↔ ∀ x ∈ l, p x = true
  | [] => by simp
  | c :: l => by
    rw [List.dropWhile_cons]
    cases hc : p c <;> simp [hc, dw_all p l]
theorem rdw_cons (p : UInt8 → Bool) (c : UInt8) (l : B) : ((c :: l).reverse.dropWhile p).reverse = if l.all p then (if p c then [] else [c]) else c :: (l.reverse.dropWhile p).reverse := by
  rw [List.reverse_cons, List.dropWhile_append]
  by_cases h : l.all p = true
  · have : (l.reverse.dropWhile p) = [] := by rw [dw_all]; intro x hx; exact List.all_eq_true.1 h x (List.mem_reverse.1 hx)
    rw [if_pos (by rw [this]; rfl), if_pos h]
    cases hc : p c <;> simp [hc]
  · rw [if_neg h, if_neg]
    · simp
    · intro h'
      apply h
      rw [List.isEmpty_iff, dw_all] at h'
      exact List.all_eq_true.2 fun x hx => h' x (List.mem_reverse.2 hx)
theorem strip_comm (p : UInt8 → Bool) : ∀ s : B, ((s.dropWhile p).reverse.dropWhile p).reverse = ((s.reverse.dropWhile p).reverse).dropWhile p
  | [] => rfl
  | c :: l => by
    rw [rdw_cons p c l]
    cases hc : p c with
    | true =>
      rw [List.dropWhile_cons, if_pos hc, strip_comm p l]
      by_cases h : l.all p = true
      · have : (l.reverse.dropWhile p) = [] := by rw [dw_all]; intro x hx; exact List.all_eq_true.1 h x (List.mem_reverse.1 hx)
        rw [if_pos h, this]; rfl
      · rw [if_neg h, List.dropWhile_cons, if_pos hc]
    | false =>
      have h1 : (c :: l).dropWhile p = c :: l := by rw [List.dropWhile_cons, hc]; rfl
      rw [h1, rdw_cons p c l]
      by_cases h : l.all p = true
      · simp only [if_pos h, hc, Bool.false_eq_true, if_false, List.dropWhile_cons, List.dropWhile_nil]
      · simp only [if_neg h, hc, Bool.false_eq_true, if_false, List.dropWhile_cons]
theorem contains_blk : (fun c => ([32, 9] : B).contains c) = blk := by
  funext c
  rw [Bool.eq_iff_iff]; simp [blk]
theorem trimB_eq (s : B) : ((s.dropWhile blk).reverse.dropWhile blk).reverse = trimB s := by
  rw [strip_comm]
  show _ = Lib.trimLeftS (Lib.trimRightS s [32, 9]) [32, 9]
  unfold Lib.trimLeftS Lib.trimRightS
  rw [contains_blk]
theorem dw_head {x : B} (hx : x ≠ []) (hb : x.getD (0 : Int).toNat 0 = 32 ∨ x.getD (0 : Int).toNat 0 = 9) : (x.drop (1 : Int).toNat).dropWhile blk = x.dropWhile blk := by
  cases x with
  | nil => exact absurd rfl hx
  | cons a l =>
    have : blk a = true := by simpa [blk] using hb
    rw [List.dropWhile_cons, if_pos this]; rfl
theorem dw_stop {x : B} (hb : ¬ (x.getD (0 : Int).toNat 0 = 32 ∨ x.getD (0 : Int).toNat 0 = 9)) : x.dropWhile blk = x := by
  cases x with
  | nil => rfl
  | cons a l =>
    have : blk a = false := by simpa [blk] using hb
    rw [List.dropWhile_cons, this]; rfl
theorem rdw_head {x : B} {k : Int} (hk : k = (x.length : Int) - 1) (hx : x ≠ []) (hb : x.getD k.toNat 0 = 32 ∨ x.getD k.toNat 0 = 9) : ((x.take k.toNat).reverse.dropWhile blk).reverse = (x.reverse.dropWhile blk).reverse := by
  rcases List.eq_nil_or_concat x with h | ⟨l, a, h⟩
  · exact absurd h hx
  · subst h
    have e : k.toNat = l.length := by simp at hk; omega
    have : blk a = true := by rw [e] at hb; simpa [blk, List.getD_eq_getElem?_getD] using hb
    rw [e]
    simp [this]
theorem rdw_stop {x : B} {k : Int} (hk : k = (x.length : Int) - 1) (hb : ¬ (x.getD k.toNat 0 = 32 ∨ x.getD k.toNat 0 = 9)) : (x.reverse.dropWhile blk).reverse = x := by
  rcases List.eq_nil_or_concat x with h | ⟨l, a, h⟩
  · subst h; rfl
  · subst h
    have e : k.toNat = l.length := by simp at hk; omega
    have : blk a = false := by rw [e] at hb; simpa [blk, List.getD_eq_getElem?_getD] using hb
    simp [this]
theorem pos_len {x : B} (hx : x ≠ []) : 0 < x.length := List.length_pos_iff.2 hx
theorem rtrim_c (s : B) (hs : s.length ≤ 1000000) : CPure gx 125 [.str s] (.str (trimB s)) := by
  refine cpure_of Tryz.func125 rfl (Nat.le_of_ble_eq_true rfl) rfl (fun w hw => ?_)
  repeat' (first | refine a_f ?_ | refine st_nil ?_ | refine tri_seq ?_ | refine tri_region rfl ?_ | refine a_draw ?_ | (apply st_r rfl; case hq => first | exact a_q) | (apply st_rif rfl; (case hq => first | exact a_i); all_goals (intro _; try (exfalso; first | omega | contradiction))) | (apply st_rw rfl rfl; case hq => first | exact a_store) | refine tri_true rfl ?_ | refine tri_false rfl ?_ | refine tri_block ?_ | refine tri_skip ?_ | refine tri_ret ?_ | refine tri_exit ?_)
  refine tri_loop (fun (x : B) => x.dropWhile blk = s.dropWhile blk ∧ x.length ≤ s.length) (fun x => st [(0, .str x), (2, .str [])] []) (fun x => x.length) s ⟨rfl, Nat.le_refl _⟩ ?hw (fun x hx => ?_)
  case hw => exact weak_st ⟨rfl, rfl, trivial⟩ trivial
  obtain ⟨hx, hl⟩ := hx
  repeat' (first | refine a_f ?_ | refine st_nil ?_ | refine tri_seq ?_ | refine tri_region rfl ?_ | refine a_draw ?_ | (apply st_r rfl; case hq => first | exact q_index' (by conv => lhs; whnf) (by conv => lhs; whnf) (by kernel_rfl) (by omega) (by have := pos_len ‹_›; omega) | exact q_slice_lo (by conv => lhs; whnf) (by conv => lhs; whnf) (by kernel_rfl) (by omega) (by have := pos_len ‹_›; omega) | exact a_q) | (apply st_rif rfl; (case hq => first | exact q_call (blank_c _) (hcf := Tryz.call169) rfl rfl | exact a_i); all_goals (intro _; try (exfalso; first | omega | contradiction))) | (apply st_rw rfl rfl; case hq => first | exact a_store) | refine tri_true rfl ?_ | refine tri_false rfl ?_ | refine tri_block ?_ | refine tri_skip ?_ | refine tri_ret ?_ | refine tri_exit ?_)
  case' h1.hk.h1.hk => exact Exists.intro (x.drop (1 : Int).toNat) (And.intro ⟨by rw [dw_head ‹_› ‹_›]; exact hx, by simp; omega⟩ (And.intro (weak_st ⟨rfl, rfl, trivial⟩ trivial) (by have := pos_len ‹_›; simp; omega)))
  all_goals
    have hxs : x = s.dropWhile blk := by
      first
        | exact (dw_stop ‹_›).symm.trans hx
        | (have e : x = [] := Classical.not_not.1 ‹_›
           rw [← hx, e]; rfl)
    clear hx
    refine tri_loop (fun (y : B) => (y.reverse.dropWhile blk).reverse = trimB s ∧ y.length ≤ s.length) (fun y => st [(0, .str y), (2, .str [])] []) (fun y => y.length) x ⟨by rw [hxs]; exact trimB_eq s, hl⟩ ?hw (fun y hy => ?_)
    case hw => exact weak_st ⟨rfl, rfl, trivial⟩ trivial
    obtain ⟨hy, hly⟩ := hy
    repeat' (first | refine a_f ?_ | refine st_nil ?_ | refine tri_seq ?_ | refine tri_region rfl ?_ | refine a_draw ?_ | (apply st_r rfl; case hq => first | exact q_index' (by conv => lhs; whnf) (by conv => lhs; whnf) (by kernel_rfl) (by have := pos_len ‹y ≠ _›; omega) (by have := pos_len ‹y ≠ _›; omega) | exact q_slice_hi (by conv => lhs; whnf) (by conv => lhs; whnf) (by kernel_rfl) (by have := pos_len ‹y ≠ _›; omega) (by have := pos_len ‹y ≠ _›; omega) | exact a_q) | (apply st_rif rfl; (case hq => first | exact q_call (blank_c _) (hcf := Tryz.call169) rfl rfl | exact a_i); all_goals (intro _; try (exfalso; first | omega | contradiction))) | (apply st_rw rfl rfl; case hq => first | exact a_store) | refine tri_true rfl ?_ | refine tri_false rfl ?_ | refine tri_block ?_ | refine tri_skip ?_ | refine tri_ret ?_ | refine tri_exit ?_)
    all_goals first
      | exact Exists.intro (y.take ((y.length : Int) - 1).toNat) (And.intro ⟨by rw [rdw_head rfl ‹y ≠ _› ‹y.getD _ _ = _ ∨ _›]; exact hy, by simp; omega⟩ (And.intro (weak_st ⟨rfl, rfl, trivial⟩ trivial) (by have := pos_len ‹y ≠ _›; simp; omega)))
      | (refine And.intro trivial ?_
         conv => lhs; whnf
         rw [← hy]
         first
           | rw [rdw_stop rfl ‹¬ (y.getD _ _ = _ ∨ _)›]
           | (have e : y = [] := Classical.not_not.1 ‹¬ y ≠ _›
              rw [e]; rfl))
theorem says_c (s : B) (hs : s.length ≤ 1000000) : CPure gx 123 [.str s] (.bool (valueB s)) := by
  refine cpure_of Tryz.func123 rfl (Nat.le_of_ble_eq_true rfl) rfl (fun w hw => ?_)
  repeat' (first | refine a_f ?_ | refine st_nil ?_ | refine tri_seq ?_ | refine tri_region rfl ?_ | refine a_draw ?_ | (apply st_r rfl; case hq => first | exact a_q) | (apply st_rif rfl; (case hq => first | exact a_i); all_goals (intro _; try (exfalso; first | omega | contradiction))) | (apply st_rw rfl rfl; case hq => first | exact a_store) | refine tri_true rfl ?_ | refine tri_false rfl ?_ | refine tri_block ?_ | refine tri_skip ?_ | refine tri_ret ?_ | refine tri_exit ?_)
  refine tri_loop (fun (i : Nat) => i ≤ s.length ∧ ∀ j, j < i → valC (s.getD j 0) = true) (fun i => st [(0, .str s), (2, .bool false), (5, .int .i64 s.length), (6, .int .i64 i)] []) (fun i => s.length - i) 0 ⟨Nat.zero_le _, fun j hj => absurd hj (Nat.not_lt_zero j)⟩ ?hw (fun i hi => ?_)
  case hw => exact weak_st ⟨rfl, rfl, rfl, rfl, trivial⟩ trivial
  obtain ⟨hi, hg⟩ := hi
  repeat' (first | refine a_f ?_ | refine st_nil ?_ | refine tri_seq ?_ | refine tri_region rfl ?_ | refine a_draw ?_ | (apply st_r rfl; case hq => first | exact q_call (rtrim_c s hs) (hcf := Tryz.call125) rfl rfl | exact a_q) | (apply st_rif rfl; (case hq => first | exact a_i); all_goals (intro _; try (exfalso; first | omega | contradiction))) | (apply st_rw rfl rfl; case hq => first | exact a_store) | refine tri_true rfl ?_ | refine tri_false rfl ?_ | refine tri_block ?_ | refine tri_skip ?_ | refine tri_ret ?_ | refine tri_exit ?_)
  all_goals first
    | (refine And.intro trivial ?_
       conv => lhs; whnf
       rw [valueB, all_bad ‹_› (by simp only [valC, decide_eq_false_iff_not]; omega)]
       rfl)
    | (refine Exists.intro (i + 1) (And.intro ⟨by omega, good_step hg (by simp only [valC, decide_eq_true_eq]; omega)⟩ (And.intro (weak_st ⟨rfl, rfl, rfl, rfl, trivial⟩ trivial) (by show _ - (i + 1) < _; omega))))
    | (refine And.intro trivial ?_
       conv => lhs; whnf
       rw [valueB, all_good ‹_› hg]
       simp [*])
end Go.Proofs.YtignjjnflcpiiaaGreatDoor
