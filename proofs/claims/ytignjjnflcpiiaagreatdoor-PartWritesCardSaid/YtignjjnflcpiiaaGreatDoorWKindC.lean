import Derived.Test.YtignjjnflcpiiaaGreatDoorWKindB
set_option linter.unusedVariables false
set_option linter.unusedSimpArgs false
set_option maxHeartbeats 1000000
namespace Go.Proofs.YtignjjnflcpiiaaGreatDoor
open Go.RowKit
attribute [local irreducible] Tri Steps Qd Wr Weak CPure CEff
set_option maxRecDepth 100000
abbrev rdO (s : B) (ok : Bool) : AObj := .box [.str s, .bool ok]
set_option maxHeartbeats 4000000 in
theorem blanks_e (s : B) (ok : Bool) (hs : s.length ≤ 1000000) : CEff gx 127 (rdO s ok) [.ptr 0 0] (some (rdO (s.dropWhile blk) ok)) (.tup []) := by
  refine ceff_of Tryz.func127 rfl (Nat.le_of_ble_eq_true rfl) (fun w γ hw hM => ?_)
  repeat' (first | refine a_f ?_ | refine st_nil ?_ | refine tri_seq ?_ | refine tri_region rfl ?_ | refine a_draw ?_ | (apply st_r rfl; case hq => first | exact a_q) | (apply st_rif rfl; (case hq => first | exact a_i); all_goals (intro _; try (exfalso; first | omega | contradiction))) | (apply st_rw rfl rfl; case hq => first | exact a_store) | refine tri_true rfl ?_ | refine tri_false rfl ?_ | refine tri_block ?_ | refine tri_skip ?_ | refine tri_ret ?_ | refine tri_exit ?_)
  refine tri_loop (fun (x : B) => x.dropWhile blk = s.dropWhile blk ∧ x.length ≤ s.length) (fun x => st [(0, .ptr 0 0)] [(0, rdO x ok)]) (fun x => x.length) s ⟨rfl, Nat.le_refl _⟩ ?hw (fun x hx => ?_)
  case hw => exact weak_st ⟨rfl, trivial⟩ ⟨rfl, trivial⟩
  obtain ⟨hx, hl⟩ := hx
  have B1 := blank_c (x.getD (Int.toNat 0) 0)
  by_cases h0 : x = []
  · subst h0
    repeat' (first | refine a_f ?_ | refine st_nil ?_ | refine tri_seq ?_ | refine tri_region rfl ?_ | refine a_draw ?_ | (apply st_r rfl; case hq => first | exact a_q) | (apply st_rif rfl; (case hq => first | exact a_i); all_goals (intro _; try (exfalso; first | omega | contradiction))) | (apply st_rw rfl rfl; case hq => first | exact a_store) | refine tri_true rfl ?_ | refine tri_false rfl ?_ | refine tri_block ?_ | refine tri_skip ?_ | refine tri_ret ?_ | refine tri_exit ?_)
    refine And.intro trivial (And.intro rfl ?_)
    rw [← hx]; rfl
  · have hp := pos_len h0
    by_cases hb : x.getD (Int.toNat 0) 0 = 32 ∨ x.getD (Int.toNat 0) 0 = 9
    · rw [decide_eq_true hb] at B1
      repeat' (first | refine a_f ?_ | refine st_nil ?_ | refine tri_seq ?_ | refine tri_region rfl ?_ | refine a_draw ?_ | (apply st_r rfl; case hq => first | exact q_call B1 (hcf := Tryz.call169) rfl rfl | exact a_q) | (apply st_rif rfl; (case hq => first | exact a_i); all_goals (intro _; try (exfalso; first | omega | contradiction))) | (apply st_rw rfl rfl; case hq => first | exact a_store) | refine tri_true rfl ?_ | refine tri_false rfl ?_ | refine tri_block ?_ | refine tri_skip ?_ | refine tri_ret ?_ | refine tri_exit ?_)
      exact nextR (x.drop (Int.toNat 1)) ⟨by rw [dw_head h0 hb]; exact hx, by simp; omega⟩ (weak_st ⟨rfl, trivial⟩ ⟨rfl, trivial⟩) (by show (x.drop (Int.toNat 1)).length < x.length; simp; omega)
    · rw [decide_eq_false hb] at B1
      repeat' (first | refine a_f ?_ | refine st_nil ?_ | refine tri_seq ?_ | refine tri_region rfl ?_ | refine a_draw ?_ | (apply st_r rfl; case hq => first | exact q_call B1 (hcf := Tryz.call169) rfl rfl | exact a_q) | (apply st_rif rfl; (case hq => first | exact a_i); all_goals (intro _; try (exfalso; first | omega | contradiction))) | (apply st_rw rfl rfl; case hq => first | exact a_store) | refine tri_true rfl ?_ | refine tri_false rfl ?_ | refine tri_block ?_ | refine tri_skip ?_ | refine tri_ret ?_ | refine tri_exit ?_)
      refine And.intro trivial (And.intro rfl ?_)
      rw [← hx, dw_stop hb]; rfl
def hd (s : B) (c : UInt8) : Bool := match s with
  | [] => false
  | x :: _ => x == c
theorem hd_ne {s : B} {c : UInt8} (h : s ≠ []) : hd s c = decide (((s.getD (Int.toNat 0) 0).toNat : Int) = (c.toNat : Int)) := by
  cases s with
  | nil => exact absurd rfl h
  | cons x r =>
    show (x == c) = decide ((x.toNat : Int) = (c.toNat : Int))
    rw [Bool.eq_iff_iff, beq_iff_eq, decide_eq_true_eq, ← UInt8.toNat_inj]
    omega
def aft (s : B) (c : UInt8) : B := match hd s c with
  | true => s.drop 1
  | false => s
set_option maxHeartbeats 4000000 in
theorem take_e (s : B) (ok : Bool) (c : UInt8) (hs : s.length ≤ 1000000) : CEff gx 126 (rdO s ok) [.ptr 0 0, .int .u8 c.toNat] (some (rdO (aft s c) ok)) (.bool (hd s c)) := by
  refine ceff_of Tryz.func126 rfl (Nat.le_of_ble_eq_true rfl) (fun w γ hw hM => ?_)
  by_cases h0 : s = []
  · subst h0
    repeat' (first | refine a_f ?_ | refine st_nil ?_ | refine tri_seq ?_ | refine tri_region rfl ?_ | refine a_draw ?_ | (apply st_r rfl; case hq => first | exact a_q) | (apply st_rif rfl; (case hq => first | exact a_i); all_goals (intro _; try (exfalso; first | omega | contradiction))) | (apply st_rw rfl rfl; case hq => first | exact a_store) | refine tri_true rfl ?_ | refine tri_false rfl ?_ | refine tri_block ?_ | refine tri_skip ?_ | refine tri_ret ?_ | refine tri_exit ?_)
    exact And.intro trivial (And.intro rfl rfl)
  · have hp := pos_len h0
    have he := hd_ne (c := c) h0
    by_cases hb : ((s.getD (Int.toNat 0) 0).toNat : Int) = (c.toNat : Int)
    · rw [decide_eq_true hb] at he
      repeat' (first | refine a_f ?_ | refine st_nil ?_ | refine tri_seq ?_ | refine tri_region rfl ?_ | refine a_draw ?_ | (apply st_r rfl; case hq => first | exact a_q) | (apply st_rif rfl; (case hq => first | exact a_i); all_goals (intro _; try (exfalso; first | omega | contradiction))) | (apply st_rw rfl rfl; case hq => first | exact a_store) | refine tri_true rfl ?_ | refine tri_false rfl ?_ | refine tri_block ?_ | refine tri_skip ?_ | refine tri_ret ?_ | refine tri_exit ?_)
      refine And.intro trivial (And.intro ?_ ?_)
      · rw [he]; rfl
      · unfold aft; rw [he]; rfl
    · rw [decide_eq_false hb] at he
      repeat' (first | refine a_f ?_ | refine st_nil ?_ | refine tri_seq ?_ | refine tri_region rfl ?_ | refine a_draw ?_ | (apply st_r rfl; case hq => first | exact a_q) | (apply st_rif rfl; (case hq => first | exact a_i); all_goals (intro _; try (exfalso; first | omega | contradiction))) | (apply st_rw rfl rfl; case hq => first | exact a_store) | refine tri_true rfl ?_ | refine tri_false rfl ?_ | refine tri_block ?_ | refine tri_skip ?_ | refine tri_ret ?_ | refine tri_exit ?_)
      refine And.intro trivial (And.intro ?_ ?_)
      · rw [he]; rfl
      · unfold aft; rw [he]; rfl
theorem tok_one (s : B) (i : Nat) (h : i < s.length) : tokB ((s.take ((i : Int) + 1).toNat).drop (i : Int).toNat) = tokC (s.getD (i : Int).toNat 0) := by
  have e : (s.take ((i : Int) + 1).toNat).drop (i : Int).toNat = [s.getD (i : Int).toNat 0] := by
    rw [show ((i : Int) + 1).toNat = i + 1 by omega, Int.toNat_natCast, List.take_succ_eq_append_getElem h, List.drop_left' (by simp; omega), List.getD_eq_getElem?_getD, List.getElem?_eq_getElem h]
    rfl
  rw [e]
  simp [tokB]
theorem tw_len {p : UInt8 → Bool} {s : B} {i : Nat} (hi : i ≤ s.length) (h : ∀ j, j < i → p (s.getD j 0) = true) (hst : i < s.length → p (s.getD i 0) = false) : s.takeWhile p = s.take i ∧ s.dropWhile p = s.drop i := by
  have := span_of p (s.take i) (fun c hc => by
    obtain ⟨j, hj, rfl⟩ := List.getElem_of_mem hc
    rw [List.length_take] at hj
    have := h j (by omega)
    rw [List.getD_eq_getElem?_getD, List.getElem?_eq_getElem (by omega)] at this
    simpa using this) (s.drop i) (fun c r he => by
    have hl : i < s.length := by
      have := congrArg List.length he
      simp at this; omega
    have := hst hl
    rw [List.drop_eq_getElem_cons hl] at he
    simp only [List.cons.injEq] at he
    rw [List.getD_eq_getElem?_getD, List.getElem?_eq_getElem hl] at this
    rw [← he.1]; exact this)
  rw [List.take_append_drop] at this
  exact this
set_option maxHeartbeats 2000000 in
theorem token_e (s : B) (ok : Bool) (hs : s.length ≤ 1000000) : CEff gx 128 (rdO s ok) [.ptr 0 0] (some (rdO (s.dropWhile tokC) (ok && !(s.takeWhile tokC).isEmpty))) (.str (s.takeWhile tokC)) := by
  refine ceff_of Tryz.func128 rfl (Nat.le_of_ble_eq_true rfl) (fun w γ hw hM => ?_)
  repeat' (first | refine a_f ?_ | refine st_nil ?_ | refine tri_seq ?_ | refine tri_region rfl ?_ | refine a_draw ?_ | (apply st_r rfl; case hq => first | exact a_q) | (apply st_rif rfl; (case hq => first | exact a_i); all_goals (intro _; try (exfalso; first | omega | contradiction))) | (apply st_rw rfl rfl; case hq => first | exact a_store) | refine tri_true rfl ?_ | refine tri_false rfl ?_ | refine tri_block ?_ | refine tri_skip ?_ | refine tri_ret ?_ | refine tri_exit ?_)
  refine tri_loop_to (fun (i : Nat) => i ≤ s.length ∧ ∀ j, j < i → tokC (s.getD j 0) = true) (fun i => st [(0, .ptr 0 0), (3, .int .i64 i)] [(0, rdO s ok)]) (fun i => s.length - i) (fun (i : Nat) => i ≤ s.length ∧ s.takeWhile tokC = s.take i ∧ s.dropWhile tokC = s.drop i) (fun i => st [(0, .ptr 0 0), (3, .int .i64 i)] [(0, rdO s ok)]) 0 ⟨Nat.zero_le _, fun j hj => absurd hj (Nat.not_lt_zero j)⟩ ?hw weak_tri (fun i hi => ?_) (fun i hi => ?_)
  case hw => exact weak_st ⟨rfl, rfl, trivial⟩ ⟨rfl, trivial⟩
  · obtain ⟨hi, hg⟩ := hi
    by_cases hil : i < s.length
    · have T1 := rtoken_c ((s.take ((i : Int) + 1).toNat).drop (i : Int).toNat) (by simp only [List.length_drop, List.length_take]; omega)
      rw [tok_one s i hil] at T1
      cases ht : tokC (s.getD (i : Int).toNat 0) <;> rw [ht] at T1
      all_goals
        repeat' (first | refine a_f ?_ | refine st_nil ?_ | refine tri_seq ?_ | refine tri_region rfl ?_ | refine a_draw ?_ | (apply st_r rfl; case hq => first | exact q_call T1 (hcf := Tryz.call49) rfl rfl | exact a_q) | (apply st_rif rfl; (case hq => first | exact a_i); all_goals (intro _; try (exfalso; first | omega | contradiction))) | (apply st_rw rfl rfl; case hq => first | exact a_store) | refine tri_true rfl ?_ | refine tri_false rfl ?_ | refine tri_block ?_ | refine tri_skip ?_ | refine tri_ret ?_ | refine tri_exit ?_)
      · exact outR i ⟨hi, tw_len hi hg (fun _ => ht)⟩ (weak_st ⟨rfl, rfl, trivial⟩ ⟨rfl, trivial⟩)
      · exact nextR (i + 1) ⟨by omega, good_step hg ht⟩ (weak_st ⟨rfl, rfl, trivial⟩ ⟨rfl, trivial⟩) (show s.length - (i + 1) < s.length - i by omega)
    · repeat' (first | refine a_f ?_ | refine st_nil ?_ | refine tri_seq ?_ | refine tri_region rfl ?_ | refine a_draw ?_ | (apply st_r rfl; case hq => first | exact a_q) | (apply st_rif rfl; (case hq => first | exact a_i); all_goals (intro _; try (exfalso; first | omega | contradiction))) | (apply st_rw rfl rfl; case hq => first | exact a_store) | refine tri_true rfl ?_ | refine tri_false rfl ?_ | refine tri_block ?_ | refine tri_skip ?_ | refine tri_ret ?_ | refine tri_exit ?_)
      exact outR i ⟨hi, tw_len hi hg (fun h => absurd h hil)⟩ (weak_st ⟨rfl, rfl, trivial⟩ ⟨rfl, trivial⟩)
  · obtain ⟨hi, h1, h2⟩ := hi
    rw [h1, h2]
    have e : (s.take i).isEmpty = decide (i = 0) := by
      rw [Bool.eq_iff_iff, List.isEmpty_iff, decide_eq_true_eq, List.take_eq_nil_iff]
      constructor
      · rintro (h | h)
        · exact h
        · subst h; simpa using hi
      · exact .inl
    rw [e]
    by_cases h0 : i = 0
    · rw [decide_eq_true h0]
      cases ok
      all_goals
        repeat' (first | refine a_f ?_ | refine st_nil ?_ | refine tri_seq ?_ | refine tri_region rfl ?_ | refine a_draw ?_ | (apply st_r rfl; case hq => first | exact a_q) | (apply st_rif rfl; (case hq => first | exact a_i); all_goals (intro _; try (exfalso; first | omega | contradiction))) | (apply st_rw rfl rfl; case hq => first | exact a_store) | refine tri_true rfl ?_ | refine tri_false rfl ?_ | refine tri_block ?_ | refine tri_skip ?_ | refine tri_ret ?_ | refine tri_exit ?_)
        exact And.intro trivial (And.intro rfl rfl)
    · rw [decide_eq_false h0]
      cases ok
      all_goals
        repeat' (first | refine a_f ?_ | refine st_nil ?_ | refine tri_seq ?_ | refine tri_region rfl ?_ | refine a_draw ?_ | (apply st_r rfl; case hq => first | exact a_q) | (apply st_rif rfl; (case hq => first | exact a_i); all_goals (intro _; try (exfalso; first | omega | contradiction))) | (apply st_rw rfl rfl; case hq => first | exact a_store) | refine tri_true rfl ?_ | refine tri_false rfl ?_ | refine tri_block ?_ | refine tri_skip ?_ | refine tri_ret ?_ | refine tri_exit ?_)
        exact And.intro trivial (And.intro rfl rfl)
def vis (c : UInt8) : Bool := decide ((32 : Int) ≤ (c.toNat : Int) ∧ (c.toNat : Int) ≤ 126)
def quoF (out : B) : B → Bool × B × B
  | [] => (false, [], [])
  | c :: r => if c = 34 then (true, out, r) else
    match c, r with
    | 92, d :: r' => if vis d = true then quoF (out ++ [d]) r' else (false, [], d :: r')
    | c, r => if vis c = true then quoF (out ++ [c]) r else (false, [], c :: r)
theorem quoF_q (out r : B) : quoF out (34 :: r) = (true, out, r) := by rw [quoF.eq_def]; simp
theorem quoF_e (out : B) (d : UInt8) (r : B) : quoF out (92 :: d :: r) = if vis d = true then quoF (out ++ [d]) r else (false, [], d :: r) := by rw [quoF.eq_def]; simp
theorem quoF_c (out : B) (c : UInt8) (r : B) (h : c ≠ 34) (h2 : c = 92 → r = []) : quoF out (c :: r) = if vis c = true then quoF (out ++ [c]) r else (false, [], c :: r) := by
  rw [quoF.eq_def]
  simp only [h, if_false]
  split
  · exact absurd (h2 rfl) (by simp)
  · rfl
theorem vis_iff (c : UInt8) : vis c = decide (32 ≤ c.toNat ∧ c.toNat ≤ 126) := by
  unfold vis
  rw [Bool.eq_iff_iff, decide_eq_true_eq, decide_eq_true_eq]; omega
theorem quoF_eq : ∀ (n : Nat) (s : B), s.length ≤ n → ∀ out : B, quo out s = match (quoF out s).1 with
    | true => some (quoF out s).2
    | false => none
  | n, [], _, out => rfl
  | 0, c :: r, h, _ => absurd h (by simp)
  | n + 1, c :: r, h, out => by
    simp only [List.length_cons] at h
    by_cases h34 : c = 34
    · subst h34; rw [quo_q, quoF_q]
    by_cases h92 : c = 92 ∧ r ≠ []
    · obtain ⟨rfl, h0⟩ := h92
      cases r with
      | nil => exact absurd rfl h0
      | cons d r =>
        rw [quo_e, quoF_e, vis_iff]
        by_cases hv : 32 ≤ d.toNat ∧ d.toNat ≤ 126
        · rw [if_pos hv, if_pos (decide_eq_true hv)]
          exact quoF_eq n r (by simp only [List.length_cons] at h; omega) _
        · rw [if_neg hv, decide_eq_false hv]; rfl
    · have h9 : c = 92 → r = [] := fun e => Classical.not_not.1 (fun h => h92 ⟨e, h⟩)
      rw [quo_c _ _ _ h34 h9, quoF_c _ _ _ h34 h9, vis_iff]
      by_cases hv : 32 ≤ c.toNat ∧ c.toNat ≤ 126
      · rw [if_pos hv, if_pos (decide_eq_true hv)]
        exact quoF_eq n r (by omega) _
      · rw [if_neg hv, decide_eq_false hv]; rfl
theorem quoF_len : ∀ (n : Nat) (s : B), s.length ≤ n → ∀ out : B, (quoF out s).2.1.length + (quoF out s).2.2.length ≤ out.length + s.length ∧ (quoF out s).2.2.length ≤ s.length
  | n, [], _, out => by rw [quoF.eq_def]; simp
  | 0, c :: r, h, _ => absurd h (by simp)
  | n + 1, c :: r, h, out => by
    simp only [List.length_cons] at h ⊢
    by_cases h34 : c = 34
    · subst h34; rw [quoF_q]; simp only; omega
    by_cases h92 : c = 92 ∧ r ≠ []
    · obtain ⟨rfl, h0⟩ := h92
      cases r with
      | nil => exact absurd rfl h0
      | cons d r =>
        simp only [List.length_cons] at h ⊢
        rw [quoF_e]
        split
        · have := quoF_len n r (by omega) (out ++ [d])
          simp only [List.length_append, List.length_cons, List.length_nil] at this
          omega
        · simp only [List.length_cons, List.length_nil]; omega
    · rw [quoF_c _ _ _ h34 (fun e => Classical.not_not.1 (fun h => h92 ⟨e, h⟩))]
      split
      · have := quoF_len n r (by omega) (out ++ [c])
        simp only [List.length_append, List.length_cons, List.length_nil] at this
        omega
      · simp only [List.length_cons, List.length_nil]; omega
theorem cons_of {x : B} (h : x ≠ []) : x = x.getD (Int.toNat 0) 0 :: x.drop 1 := by
  cases x with
  | nil => exact absurd rfl h
  | cons c r => rfl
theorem quoF_q' {out x : B} (h : x ≠ []) (hc : x.getD (Int.toNat 0) 0 = 34) : quoF out x = (true, out, x.drop 1) := by
  have e := cons_of h
  rw [hc] at e
  rw [e, quoF_q]; rfl
theorem quoF_e' {out x : B} (h : 1 < x.length) (hc : x.getD (Int.toNat 0) 0 = 92) : quoF out x = if vis ((x.drop 1).getD (Int.toNat 0) 0) = true then quoF (out ++ [(x.drop 1).getD (Int.toNat 0) 0]) ((x.drop 1).drop 1) else (false, [], x.drop 1) := by
  match x, h with
  | a :: d :: r, _ =>
    have : a = 92 := hc
    subst this
    exact quoF_e out d r
theorem quoF_c' {out x : B} (h : x ≠ []) (hc : x.getD (Int.toNat 0) 0 ≠ 34) (h9 : x.getD (Int.toNat 0) 0 = 92 → ¬ 1 < x.length) : quoF out x = if vis (x.getD (Int.toNat 0) 0) = true then quoF (out ++ [x.getD (Int.toNat 0) 0]) (x.drop 1) else (false, [], x) := by
  cases x with
  | nil => exact absurd rfl h
  | cons c r =>
    exact quoF_c out c r hc (fun e => by
      have := h9 e
      cases r with
      | nil => rfl
      | cons d r => simp at this)
theorem take1 {x : B} (h : x ≠ []) : x.take (Int.toNat 1) = [x.getD (Int.toNat 0) 0] := by
  cases x with
  | nil => exact absurd rfl h
  | cons c r => rfl
set_option maxHeartbeats 4000000 in
theorem quoted_e (s : B) (ok : Bool) (hs : s.length ≤ 1000000) : CEff gx 129 (rdO s ok) [.ptr 0 0] (some (rdO (quoF [] s).2.2 (ok && (quoF [] s).1))) (.str (quoF [] s).2.1) := by
  refine ceff_of Tryz.func129 rfl (Nat.le_of_ble_eq_true rfl) (fun w γ hw hM => ?_)
  repeat' (first | refine a_f ?_ | refine st_nil ?_ | refine tri_seq ?_ | refine tri_region rfl ?_ | refine a_draw ?_ | (apply st_r rfl; case hq => first | exact a_q) | (apply st_rif rfl; (case hq => first | exact a_i); all_goals (intro _; try (exfalso; first | omega | contradiction))) | (apply st_rw rfl rfl; case hq => first | exact a_store) | refine tri_true rfl ?_ | refine tri_false rfl ?_ | refine tri_block ?_ | refine tri_skip ?_ | refine tri_ret ?_ | refine tri_exit ?_)
  refine tri_loop_to (fun (x : B × B) => quoF x.1 x.2 = quoF [] s ∧ x.1.length + x.2.length ≤ s.length) (fun x => st [(0, .ptr 0 0), (2, .str []), (3, .str x.1)] [(0, rdO x.2 ok)]) (fun x => x.2.length) (fun (r : B) => quoF [] s = (false, [], r)) (fun r => st [(0, .ptr 0 0), (2, .str [])] [(0, rdO r ok)]) ([], s) ⟨rfl, by simp⟩ ?hw weak_tri (fun x hx => ?_) (fun r hr => ?_)
  case hw => exact weak_st ⟨rfl, rfl, rfl, trivial⟩ ⟨rfl, trivial⟩
  · obtain ⟨out, x⟩ := x
    change Tri _ _ (st [(0, .ptr 0 0), (2, .str []), (3, .str out)] [(0, rdO x ok)]) _
    obtain ⟨hx, hl⟩ := hx
    simp only at hx hl
    have T1 := take_e x ok 34 (by omega)
    by_cases hx0 : x = []
    · subst hx0
      repeat' (first | refine a_f ?_ | refine st_nil ?_ | refine tri_seq ?_ | refine tri_region rfl ?_ | refine a_draw ?_ | (apply st_r rfl; case hq => first | exact a_q) | (apply st_rif rfl; (case hq => first | exact a_i); all_goals (intro _; try (exfalso; first | omega | contradiction))) | (apply st_rw rfl rfl; case hq => first | exact a_store) | refine tri_true rfl ?_ | refine tri_false rfl ?_ | refine tri_block ?_ | refine tri_skip ?_ | refine tri_ret ?_ | refine tri_exit ?_)
      exact outR [] hx.symm (weak_st ⟨rfl, rfl, trivial⟩ ⟨rfl, trivial⟩)
    have hp := pos_len hx0
    have hdl : (x.drop 1).length = x.length - 1 := by simp
    have e34 := hd_ne (c := 34) hx0
    have e92 := hd_ne (c := 92) hx0
    have ht1 := take1 hx0
    have i34 : ∀ k : UInt8, x.getD (Int.toNat 0) 0 = k ↔ ((x.getD (Int.toNat 0) 0).toNat : Int) = (k.toNat : Int) := fun k => by rw [← UInt8.toNat_inj]; omega
    by_cases h34 : x.getD (Int.toNat 0) 0 = 34
    · rw [quoF_q' hx0 h34] at hx
      rw [decide_eq_true ((i34 34).1 h34)] at e34
      have a34 : aft x 34 = x.drop 1 := by unfold aft; rw [e34]
      rw [e34, a34] at T1
      clear e92 i34
      repeat' (first | refine a_f ?_ | refine st_nil ?_ | refine tri_seq ?_ | refine tri_region rfl ?_ | refine a_draw ?_ | (apply st_r rfl; case hq => first | exact a_q) | (apply st_rif rfl; (case hq => first | exact a_i); all_goals (intro _; try (exfalso; first | omega | contradiction))) | (apply st_rw rfl rfl; case hq => first | exact w_call (id := 0) T1 (hcf := Tryz.call126) (by conv => lhs; whnf; arg 1; whnf) rfl rfl rfl rfl rfl | exact a_store) | refine tri_true rfl ?_ | refine tri_false rfl ?_ | refine tri_block ?_ | refine tri_skip ?_ | refine tri_ret ?_ | refine tri_exit ?_)
      refine And.intro trivial (And.intro ?_ ?_)
      · rw [← hx]; rfl
      · rw [← hx, Bool.and_true]; rfl
    rw [decide_eq_false (fun e => h34 ((i34 34).2 e))] at e34
    have a34 : aft x 34 = x := by unfold aft; rw [e34]
    rw [e34, a34] at T1
    have T2 := take_e x ok 92 (by omega)
    by_cases h1 : 1 < x.length
    · by_cases h92 : x.getD (Int.toNat 0) 0 = 92
      · rw [decide_eq_true ((i34 92).1 h92)] at e92
        have a92 : aft x 92 = x.drop 1 := by unfold aft; rw [e92]
        rw [e92, a92] at T2
        rw [quoF_e' h1 h92] at hx
        have hd0 : x.drop 1 ≠ [] := List.length_pos_iff.1 (by omega)
        have ht2 := take1 hd0
        have hdd : ((x.drop 1).drop 1).length = x.length - 2 := by rw [List.length_drop, List.length_drop]; omega
        have I1 : CPure gx 50 [.int .i64 (((x.drop 1).getD (Int.toNat 0) 0).toNat : Int), .int .i64 32, .int .i64 126] (.bool (vis ((x.drop 1).getD (Int.toNat 0) 0))) := in_c _ _ _
        clear i34 e34
        cases hv : vis ((x.drop 1).getD (Int.toNat 0) 0) <;> rw [hv] at I1 hx
        all_goals
          repeat' (first | refine a_f ?_ | refine st_nil ?_ | refine tri_seq ?_ | refine tri_region rfl ?_ | refine a_draw ?_ | (apply st_r rfl; case hq => first | exact q_convint (by conv => lhs; whnf) (by kernel_rfl) (by kernel_rfl) (wrap_u8 _) | exact q_call I1 (hcf := Tryz.call50) rfl rfl | exact a_q) | (apply st_rif rfl; (case hq => first | exact a_i); all_goals (intro _; try (exfalso; first | omega | contradiction))) | (apply st_rw rfl rfl; case hq => first | exact w_call (id := 0) T1 (hcf := Tryz.call126) (by conv => lhs; whnf; arg 1; whnf) rfl rfl rfl rfl rfl | exact w_call (id := 0) T2 (hcf := Tryz.call126) (by conv => lhs; whnf; arg 1; whnf) rfl rfl rfl rfl rfl | exact a_store) | refine tri_true rfl ?_ | refine tri_false rfl ?_ | refine tri_block ?_ | refine tri_skip ?_ | refine tri_ret ?_ | refine tri_exit ?_)
        · exact outR (x.drop 1) hx.symm (weak_st ⟨rfl, rfl, trivial⟩ ⟨rfl, trivial⟩)
        · exact nextR (out ++ [(x.drop 1).getD (Int.toNat 0) 0], (x.drop 1).drop 1) ⟨hx, by simp only [List.length_append, List.length_cons, List.length_nil]; omega⟩ (weak_st ⟨rfl, rfl, congrArg AV.str (congrArg (out ++ ·) ht2), trivial⟩ ⟨rfl, trivial⟩) (show ((x.drop 1).drop 1).length < x.length by omega)
      · rw [decide_eq_false (fun e => h92 ((i34 92).2 e))] at e92
        have a92 : aft x 92 = x := by unfold aft; rw [e92]
        rw [e92, a92] at T2
        rw [quoF_c' hx0 h34 (fun e => absurd e h92)] at hx
        have I1 : CPure gx 50 [.int .i64 ((x.getD (Int.toNat 0) 0).toNat : Int), .int .i64 32, .int .i64 126] (.bool (vis (x.getD (Int.toNat 0) 0))) := in_c _ _ _
        clear i34 e34
        cases hv : vis (x.getD (Int.toNat 0) 0) <;> rw [hv] at I1 hx
        all_goals
          repeat' (first | refine a_f ?_ | refine st_nil ?_ | refine tri_seq ?_ | refine tri_region rfl ?_ | refine a_draw ?_ | (apply st_r rfl; case hq => first | exact q_convint (by conv => lhs; whnf) (by kernel_rfl) (by kernel_rfl) (wrap_u8 _) | exact q_call I1 (hcf := Tryz.call50) rfl rfl | exact a_q) | (apply st_rif rfl; (case hq => first | exact a_i); all_goals (intro _; try (exfalso; first | omega | contradiction))) | (apply st_rw rfl rfl; case hq => first | exact w_call (id := 0) T1 (hcf := Tryz.call126) (by conv => lhs; whnf; arg 1; whnf) rfl rfl rfl rfl rfl | exact w_call (id := 0) T2 (hcf := Tryz.call126) (by conv => lhs; whnf; arg 1; whnf) rfl rfl rfl rfl rfl | exact a_store) | refine tri_true rfl ?_ | refine tri_false rfl ?_ | refine tri_block ?_ | refine tri_skip ?_ | refine tri_ret ?_ | refine tri_exit ?_)
        · exact outR x hx.symm (weak_st ⟨rfl, rfl, trivial⟩ ⟨rfl, trivial⟩)
        · exact nextR (out ++ [x.getD (Int.toNat 0) 0], x.drop 1) ⟨hx, by simp only [List.length_append, List.length_cons, List.length_nil]; omega⟩ (weak_st ⟨rfl, rfl, congrArg AV.str (congrArg (out ++ ·) ht1), trivial⟩ ⟨rfl, trivial⟩) (show (x.drop 1).length < x.length by omega)
    · rw [quoF_c' hx0 h34 (fun _ => h1)] at hx
      have I1 : CPure gx 50 [.int .i64 ((x.getD (Int.toNat 0) 0).toNat : Int), .int .i64 32, .int .i64 126] (.bool (vis (x.getD (Int.toNat 0) 0))) := in_c _ _ _
      clear i34 e34 e92 T2
      cases hv : vis (x.getD (Int.toNat 0) 0) <;> rw [hv] at I1 hx
      all_goals
        repeat' (first | refine a_f ?_ | refine st_nil ?_ | refine tri_seq ?_ | refine tri_region rfl ?_ | refine a_draw ?_ | (apply st_r rfl; case hq => first | exact q_convint (by conv => lhs; whnf) (by kernel_rfl) (by kernel_rfl) (wrap_u8 _) | exact q_call I1 (hcf := Tryz.call50) rfl rfl | exact a_q) | (apply st_rif rfl; (case hq => first | exact a_i); all_goals (intro _; try (exfalso; first | omega | contradiction))) | (apply st_rw rfl rfl; case hq => first | exact w_call (id := 0) T1 (hcf := Tryz.call126) (by conv => lhs; whnf; arg 1; whnf) rfl rfl rfl rfl rfl | exact a_store) | refine tri_true rfl ?_ | refine tri_false rfl ?_ | refine tri_block ?_ | refine tri_skip ?_ | refine tri_ret ?_ | refine tri_exit ?_)
      · exact outR x hx.symm (weak_st ⟨rfl, rfl, trivial⟩ ⟨rfl, trivial⟩)
      · exact nextR (out ++ [x.getD (Int.toNat 0) 0], x.drop 1) ⟨hx, by simp only [List.length_append, List.length_cons, List.length_nil]; omega⟩ (weak_st ⟨rfl, rfl, congrArg AV.str (congrArg (out ++ ·) ht1), trivial⟩ ⟨rfl, trivial⟩) (show (x.drop 1).length < x.length by omega)
  · rw [hr]
    repeat' (first | refine a_f ?_ | refine st_nil ?_ | refine tri_seq ?_ | refine tri_region rfl ?_ | refine a_draw ?_ | (apply st_r rfl; case hq => first | exact a_q) | (apply st_rif rfl; (case hq => first | exact a_i); all_goals (intro _; try (exfalso; first | omega | contradiction))) | (apply st_rw rfl rfl; case hq => first | exact a_store) | refine tri_true rfl ?_ | refine tri_false rfl ?_ | refine tri_block ?_ | refine tri_skip ?_ | refine tri_ret ?_ | refine tri_exit ?_)
    refine And.intro trivial (And.intro ?_ ?_)
    · rfl
    · rw [Bool.and_false]; rfl
end Go.Proofs.YtignjjnflcpiiaaGreatDoor
