import Derived.Test.YtignjjnflcpiiaaGreatDoorWG11
import Derived.Test.YtignjjnflcpiiaaGreatDoorWPlain1
import Derived.Test.YtignjjnflcpiiaaGreatDoorWG12
set_option linter.unusedVariables false
set_option linter.unusedSimpArgs false
set_option maxHeartbeats 1000000
namespace Go.Proofs.YtignjjnflcpiiaaGreatDoor
open Go.RowKit
attribute [local irreducible] Tri Steps Qd Wr Weak CPure CEff
set_option maxRecDepth 100000
theorem tkT : TK tokC blk where
  t59 := by decide
  t61 := by decide
  t34 := by decide
  t47 := by decide
  k := fun c => rfl
  t32 := by decide
  t9 := by decide
theorem u8_all {p : UInt8 → Prop} (h : ∀ n : Fin 256, p (UInt8.ofNat n.val)) : ∀ c, p c := fun c => by
  have := h ⟨c.toNat, c.toNat_lt⟩
  simpa using this
theorem tfT : TF tokC lowC where
  tok := u8_all (by decide +kernel)
  idem := u8_all (by decide +kernel)
  vis := u8_all (by decide +kernel)
  f47 := u8_all (by decide +kernel)
theorem tokQ_eq (s : B) : tokB s = tokQ tokC s := rfl
def getP (l : Fs) (s : B) : AV := match l.find? (fun f => decide (f.1 = s)) with
  | some f => .tup [.str f.2, .bool true]
  | none => .tup [.str [], .bool false]
set_option maxHeartbeats 2000000 in
theorem pget_c (l : Fs) (s : B) (hl : Small l) : CPure gx 134 [.ro false 2 (fieldRows l), .str s] (getP l s) := by
  refine cpure_of Tryz.func134 rfl (Nat.le_of_ble_eq_true rfl) rfl (fun w hw => ?_)
  have hfl := fr_len l
  have hll := hl.len
  repeat' (first | refine a_f ?_ | refine st_nil ?_ | refine tri_seq ?_ | refine tri_region rfl ?_ | refine a_draw ?_ | (apply st_r rfl; case hq => first | exact a_q) | (apply st_rif rfl; (case hq => first | exact a_i); all_goals (intro _; try (exfalso; first | omega | contradiction))) | (apply st_rw rfl rfl; case hq => first | exact a_store) | refine tri_true rfl ?_ | refine tri_false rfl ?_ | refine tri_block ?_ | refine tri_skip ?_ | refine tri_ret ?_ | refine tri_exit ?_)
  refine tri_loop (fun (i : Nat) => i ≤ l.length ∧ l.find? (fun f => decide (f.1 = s)) = (l.drop i).find? (fun f => decide (f.1 = s))) (fun i => st [(0, .ro false 2 (fieldRows l)), (1, .str s), (4, .str []), (5, .bool false), (8, .ro false 2 (fieldRows l)), (9, .int .i64 (fieldRows l).length), (10, .int .i64 i)] []) (fun i => l.length - i) 0 ⟨Nat.zero_le _, rfl⟩ ?hw (fun i hi => ?_)
  case hw => exact weak_st ⟨rfl, rfl, rfl, rfl, rfl, rfl, rfl, trivial⟩ trivial
  obtain ⟨hi, hf⟩ := hi
  by_cases hil : i < l.length
  · obtain ⟨f, hf1, hfm, hfd, hfr⟩ := fr_at hil
    rw [hfd, List.find?_cons] at hf
    repeat' (first | refine a_f ?_ | refine st_nil ?_ | refine tri_seq ?_ | refine tri_region rfl ?_ | refine a_draw ?_ | (apply st_r rfl; case hq => first | exact q_idxro (by conv => lhs; whnf) (by conv => lhs; whnf) (by first | exact Tryz.underlying22 | exact Tryz.underlying23 | exact Tryz.underlying43 | exact Tryz.underlying44 | exact Tryz.underlying51 | exact Tryz.underlying86 | exact Tryz.underlying191 | exact Tryz.underlying209 | exact Tryz.underlying234 | exact Tryz.underlying270 | exact Tryz.underlying281 | exact Tryz.underlying344) (by kernel_rfl) (by omega) hfr | exact q_loadar (n := 2) (by conv => lhs; whnf) (by conv => lhs; whnf) (by first | rfl | exact Nat.le_of_ble_eq_true rfl | exact Nat.succ_pos _ | decide) (by kernel_rfl) (fun _ => rfl) | exact a_q) | (apply st_rif rfl; (case hq => first | exact a_i); all_goals (intro _; try (exfalso; first | omega | contradiction))) | (apply st_rw rfl rfl; case hq => first | exact w_alloc 102 (by first | exact zAt | exact zFault | exact zField | exact zParam | exact zLink | exact zPart | exact zReader) rfl rfl rfl | exact a_store) | refine tri_true rfl ?_ | refine tri_false rfl ?_ | refine tri_block ?_ | refine tri_skip ?_ | refine tri_ret ?_ | refine tri_exit ?_)
    · refine And.intro trivial ?_
      conv => lhs; whnf
      rw [getP, hf, decide_eq_true ‹_›]
      rfl
    · exact loop_next (i + 1) ⟨by omega, by rw [hf, decide_eq_false ‹_›]⟩ (weak_st ⟨rfl, rfl, rfl, rfl, rfl, rfl, rfl, trivial⟩ trivial) (show l.length - (i + 1) < l.length - i by omega)
  · repeat' (first | refine a_f ?_ | refine st_nil ?_ | refine tri_seq ?_ | refine tri_region rfl ?_ | refine a_draw ?_ | (apply st_r rfl; case hq => first | exact a_q) | (apply st_rif rfl; (case hq => first | exact a_i); all_goals (intro _; try (exfalso; first | omega | contradiction))) | (apply st_rw rfl rfl; case hq => first | exact a_store) | refine tri_true rfl ?_ | refine tri_false rfl ?_ | refine tri_block ?_ | refine tri_skip ?_ | refine tri_ret ?_ | refine tri_exit ?_)
    refine And.intro trivial ?_
    conv => lhs; whnf
    rw [getP, hf, List.drop_eq_nil_of_le (by omega)]
    rfl
set_option maxHeartbeats 2000000 in
theorem rpget_c (l : Fs) (s : B) (hl : Small l) : CPure gx 121 [.ro false 2 (fieldRows l), .str s] (getP l s) := by
  refine cpure_of Tryz.func121 rfl (Nat.le_of_ble_eq_true rfl) rfl (fun w hw => ?_)
  have hfl := fr_len l
  have hll := hl.len
  repeat' (first | refine a_f ?_ | refine st_nil ?_ | refine tri_seq ?_ | refine tri_region rfl ?_ | refine a_draw ?_ | (apply st_r rfl; case hq => first | exact a_q) | (apply st_rif rfl; (case hq => first | exact a_i); all_goals (intro _; try (exfalso; first | omega | contradiction))) | (apply st_rw rfl rfl; case hq => first | exact a_store) | refine tri_true rfl ?_ | refine tri_false rfl ?_ | refine tri_block ?_ | refine tri_skip ?_ | refine tri_ret ?_ | refine tri_exit ?_)
  refine tri_loop (fun (i : Nat) => i ≤ l.length ∧ l.find? (fun f => decide (f.1 = s)) = (l.drop i).find? (fun f => decide (f.1 = s))) (fun i => st [(0, .ro false 2 (fieldRows l)), (1, .str s), (4, .str []), (5, .bool false), (8, .ro false 2 (fieldRows l)), (9, .int .i64 (fieldRows l).length), (10, .int .i64 i)] []) (fun i => l.length - i) 0 ⟨Nat.zero_le _, rfl⟩ ?hw (fun i hi => ?_)
  case hw => exact weak_st ⟨rfl, rfl, rfl, rfl, rfl, rfl, rfl, trivial⟩ trivial
  obtain ⟨hi, hf⟩ := hi
  by_cases hil : i < l.length
  · obtain ⟨f, hf1, hfm, hfd, hfr⟩ := fr_at hil
    rw [hfd, List.find?_cons] at hf
    repeat' (first | refine a_f ?_ | refine st_nil ?_ | refine tri_seq ?_ | refine tri_region rfl ?_ | refine a_draw ?_ | (apply st_r rfl; case hq => first | exact q_idxro (by conv => lhs; whnf) (by conv => lhs; whnf) (by first | exact Tryz.underlying22 | exact Tryz.underlying23 | exact Tryz.underlying43 | exact Tryz.underlying44 | exact Tryz.underlying51 | exact Tryz.underlying86 | exact Tryz.underlying191 | exact Tryz.underlying209 | exact Tryz.underlying234 | exact Tryz.underlying270 | exact Tryz.underlying281 | exact Tryz.underlying344) (by kernel_rfl) (by omega) hfr | exact q_loadar (n := 2) (by conv => lhs; whnf) (by conv => lhs; whnf) (by first | rfl | exact Nat.le_of_ble_eq_true rfl | exact Nat.succ_pos _ | decide) (by kernel_rfl) (fun _ => rfl) | exact a_q) | (apply st_rif rfl; (case hq => first | exact a_i); all_goals (intro _; try (exfalso; first | omega | contradiction))) | (apply st_rw rfl rfl; case hq => first | exact w_alloc 102 (by first | exact zAt | exact zFault | exact zField | exact zParam | exact zLink | exact zPart | exact zReader) rfl rfl rfl | exact a_store) | refine tri_true rfl ?_ | refine tri_false rfl ?_ | refine tri_block ?_ | refine tri_skip ?_ | refine tri_ret ?_ | refine tri_exit ?_)
    · refine And.intro trivial ?_
      conv => lhs; whnf
      rw [getP, hf, decide_eq_true ‹_›]
      rfl
    · exact loop_next (i + 1) ⟨by omega, by rw [hf, decide_eq_false ‹_›]⟩ (weak_st ⟨rfl, rfl, rfl, rfl, rfl, rfl, rfl, trivial⟩ trivial) (show l.length - (i + 1) < l.length - i by omega)
  · repeat' (first | refine a_f ?_ | refine st_nil ?_ | refine tri_seq ?_ | refine tri_region rfl ?_ | refine a_draw ?_ | (apply st_r rfl; case hq => first | exact a_q) | (apply st_rif rfl; (case hq => first | exact a_i); all_goals (intro _; try (exfalso; first | omega | contradiction))) | (apply st_rw rfl rfl; case hq => first | exact a_store) | refine tri_true rfl ?_ | refine tri_false rfl ?_ | refine tri_block ?_ | refine tri_skip ?_ | refine tri_ret ?_ | refine tri_exit ?_)
    refine And.intro trivial ?_
    conv => lhs; whnf
    rw [getP, hf, List.drop_eq_nil_of_le (by omega)]
    rfl
theorem bare_nil_c (e' : Int) : CPure gxe 12 [.nili, .int .i64 e'] (.bool ((0 : Int) == e' && (-1 : Int) == -1)) := by
  unfold CPure
  intro w vs hG hn hl hr
  obtain ⟨v0, v1, rfl⟩ : ∃ a b, vs = [a, b] := by
    match vs, hl with
    | [a, b], _ => exact ⟨a, b, rfl⟩
  have h0 := Rep.nili_inv (hr 0 (by simp) (by simp))
  have h1 := Rep.int_inv (hr 1 (by simp) (by simp))
  simp only [List.getElem_cons_zero, List.getElem_cons_succ] at h0 h1
  subst h0 h1
  exact (bare_any .nilIface 0 (-1) e' w (.inl ⟨rfl, rfl, rfl⟩) hG.2).mono fun x w' h => ⟨_, h.1, h.2, .bool _ _⟩
theorem bare_no_c (e e' : Int) : CPure gxe 12 [.iface 28 (.int .i64 e), .int .i64 e'] (.bool (e == e' && (-1 : Int) == -1)) := by
  unfold CPure
  intro w vs hG hn hl hr
  obtain ⟨v0, v1, rfl⟩ : ∃ a b, vs = [a, b] := by
    match vs, hl with
    | [a, b], _ => exact ⟨a, b, rfl⟩
  obtain ⟨y, h0, h9⟩ := Rep.iface_inv (hr 0 (by simp) (by simp))
  have h9 := Rep.int_inv h9
  have h1 := Rep.int_inv (hr 1 (by simp) (by simp))
  simp only [List.getElem_cons_zero, List.getElem_cons_succ] at h0 h1
  subst h9
  subst h0 h1
  exact (bare_any _ e (-1) e' w (.inr (.inl ⟨rfl, rfl⟩)) hG.2).mono fun x w' h => ⟨_, h.1, h.2, .bool _ _⟩
theorem split_1 (c : UInt8) (s : B) (hs : s.length ≤ 1000000) : CPure gx 103 [.str s, .str [c]] (.ro true 1 (strRows (Lib.split s [c]))) := split_g s [c] (by omega) (by simp)
theorem split_mem (c : UInt8) : ∀ (n : Nat) (s : B), s.length ≤ n → ∀ x ∈ Lib.split s [c], x.length ≤ s.length
  | n, s, hn, x, hx => by
    rw [split_one] at hx
    split at hx
    · rename_i ha
      have h1 : (s.takeWhile (· != c)).length ≤ s.length := (List.takeWhile_sublist _).length_le
      rcases List.mem_cons.1 hx with rfl | hx
      · exact h1
      · have h0 : 0 < s.length := by
          obtain ⟨x, hx, _⟩ := List.any_eq_true.1 ha
          exact List.length_pos_iff.2 (List.ne_nil_of_mem hx)
        have hd : ((s.dropWhile (· != c)).drop 1).length < s.length := by
          have := (List.dropWhile_sublist (· != c) (l := s)).length_le
          rw [List.length_drop]; omega
        match n, hn with
        | 0, hn => omega
        | n + 1, hn =>
          have := split_mem c n ((s.dropWhile (· != c)).drop 1) (by omega) x hx
          omega
    · rw [List.mem_singleton.1 hx]; exact Nat.le_refl _
theorem split_len (c : UInt8) : ∀ (n : Nat) (s : B), s.length ≤ n → (Lib.split s [c]).length ≤ s.length + 1
  | n, s, hn => by
    rw [split_one]
    split
    · rename_i ha
      have h0 : 0 < s.length := by
        obtain ⟨x, hx, _⟩ := List.any_eq_true.1 ha
        exact List.length_pos_iff.2 (List.ne_nil_of_mem hx)
      have hd : ((s.dropWhile (· != c)).drop 1).length < s.length := by
        have := (List.dropWhile_sublist (· != c) (l := s)).length_le
        rw [List.length_drop]; omega
      match n, hn with
      | 0, hn => omega
      | n + 1, hn =>
        have := split_len c n ((s.dropWhile (· != c)).drop 1) (by omega)
        simp only [List.length_cons]; omega
    · simp
theorem sr_get {l : List B} {i : Nat} (h : i < l.length) : (strRows l)[(i : Int).toNat]? = some [.str (l.getD i [])] := by
  simp [strRows, h, List.getD_eq_getElem?_getD]
theorem isMain_c (s : B) (hs : s.length ≤ 1000000) : CPure gx 47 [.str s] (.bool (mainOk tokC s)) := by
  refine cpure_of Tryz.func47 rfl (Nat.le_of_ble_eq_true rfl) rfl (fun w hw => ?_)
  have S1 := split_1 47 s hs
  have hne := List.length_pos_iff.2 (split_ne 47 s)
  have hsl := split_len 47 _ s (Nat.le_refl _)
  have hm := main_split tkT s
  have hmem := split_mem 47 _ s (Nat.le_refl _)
  generalize Lib.split s [47] = l at S1 hne hsl hm hmem
  have hle : ∀ i, i < l.length → (l.getD i []).length ≤ 1000000 := fun i hi => by
    rw [List.getD_eq_getElem?_getD, List.getElem?_eq_getElem hi]
    exact Nat.le_trans (hmem _ (List.getElem_mem hi)) hs
  have T1 := rtoken_c (l.getD 0 []) (hle 0 hne)
  have T2 := rtoken_c (l.getD (l.length - 1) []) (hle _ (by omega))
  have hrl := sr_len l
  have g0 : (strRows l)[(0 : Int).toNat]? = some [.str (l.getD 0 [])] := sr_get (l := l) (i := 0) hne
  have g1 := sr_get (l := l) (i := l.length - 1) (by omega)
  have e1 : (((strRows l).length : Int) - 1).toNat = ((l.length - 1 : Nat) : Int).toNat := by rw [hrl]; omega
  rw [← e1] at g1
  rw [tokQ_eq] at T1 T2
  by_cases h2 : l.length ≤ 2
  · rw [decide_eq_true h2] at hm
    cases ha : tokQ tokC (l.getD 0 []) <;> rw [ha] at T1 hm
    all_goals
      cases hb : tokQ tokC (l.getD (l.length - 1) []) <;> rw [hb] at T2 hm
    all_goals
      repeat' (first | refine a_f ?_ | refine st_nil ?_ | refine tri_seq ?_ | refine tri_region rfl ?_ | refine a_draw ?_ | (apply st_r rfl; case hq => first | exact q_call S1 (hcf := Tryz.call103) rfl rfl | exact q_idxro (by conv => lhs; whnf) (by conv => lhs; whnf) (by first | exact Tryz.underlying22 | exact Tryz.underlying23 | exact Tryz.underlying43 | exact Tryz.underlying44 | exact Tryz.underlying51 | exact Tryz.underlying86 | exact Tryz.underlying191 | exact Tryz.underlying209 | exact Tryz.underlying234 | exact Tryz.underlying270 | exact Tryz.underlying281 | exact Tryz.underlying344) (by kernel_rfl) (by omega) g0 | exact q_idxro (by conv => lhs; whnf) (by conv => lhs; whnf) (by first | exact Tryz.underlying22 | exact Tryz.underlying23 | exact Tryz.underlying43 | exact Tryz.underlying44 | exact Tryz.underlying51 | exact Tryz.underlying86 | exact Tryz.underlying191 | exact Tryz.underlying209 | exact Tryz.underlying234 | exact Tryz.underlying270 | exact Tryz.underlying281 | exact Tryz.underlying344) (by kernel_rfl) (by omega) g1 | exact q_loadr (by conv => lhs; whnf) (by conv => lhs; whnf) (by show scalB Tryz.prog _ = true; decide +kernel) (fun _ => rfl) | exact q_call T1 (hcf := Tryz.call49) rfl rfl | exact q_call T2 (hcf := Tryz.call49) rfl rfl | exact a_q) | (apply st_rif rfl; (case hq => first | exact a_i); all_goals (intro _; try (exfalso; first | omega | contradiction))) | (apply st_rw rfl rfl; case hq => first | exact a_store) | refine tri_true rfl ?_ | refine tri_false rfl ?_ | refine tri_block ?_ | refine tri_skip ?_ | refine tri_ret ?_ | refine tri_exit ?_)
    all_goals
      refine And.intro trivial ?_
      conv => lhs; whnf
      rw [hm]
      rfl
  · rw [decide_eq_false h2] at hm
    repeat' (first | refine a_f ?_ | refine st_nil ?_ | refine tri_seq ?_ | refine tri_region rfl ?_ | refine a_draw ?_ | (apply st_r rfl; case hq => first | exact q_call S1 (hcf := Tryz.call103) rfl rfl | exact a_q) | (apply st_rif rfl; (case hq => first | exact a_i); all_goals (intro _; try (exfalso; first | omega | contradiction))) | (apply st_rw rfl rfl; case hq => first | exact a_store) | refine tri_true rfl ?_ | refine tri_false rfl ?_ | refine tri_block ?_ | refine tri_skip ?_ | refine tri_ret ?_ | refine tri_exit ?_)
    all_goals
      refine And.intro trivial ?_
      conv => lhs; whnf
      rw [hm]
      rfl
end Go.Proofs.YtignjjnflcpiiaaGreatDoor
