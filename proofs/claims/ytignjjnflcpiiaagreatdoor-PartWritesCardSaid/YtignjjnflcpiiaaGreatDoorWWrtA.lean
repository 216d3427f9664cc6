import Derived.Test.YtignjjnflcpiiaaGreatDoorWPartG
import Derived.Test.YtignjjnflcpiiaaGreatDoorWG30
import Derived.Test.YtignjjnflcpiiaaGreatDoorWG34
import Derived.Test.YtignjjnflcpiiaaGreatDoorWPackR
import Derived.Test.YtignjjnflcpiiaaGreatDoorWG11
import Derived.Lib.Replace
set_option linter.unusedVariables false
set_option linter.unusedSimpArgs false
set_option maxHeartbeats 1000000
namespace Go.Proofs.YtignjjnflcpiiaaGreatDoor
open Go.RowKit
attribute [local irreducible] Tri Steps Qd Wr Weak CPure CEff
set_option maxRecDepth 100000
theorem replaceK_C : ∀ (k : Nat) (s : B), (splitC s).length ≤ k + 1 → Lib.replaceK [13, 10] [] k s = (splitC s).flatten
  | 0, s, h => by
    rw [Lib.replaceK]
    by_cases hi : Lib.index s [13, 10] = -1
    · rw [(splitC_index s).1 hi]; simp
    · have hge := Lib.index_ge s [13, 10]
      have hi' : Lib.index s [13, 10] = ((Lib.index s [13, 10]).toNat : Nat) := by omega
      rw [(splitC_index s).2 _ hi'] at h
      have := splitC_ne (s.drop ((Lib.index s [13, 10]).toNat + 2))
      cases hs : splitC (s.drop ((Lib.index s [13, 10]).toNat + 2)) with
      | nil => exact absurd hs this
      | cons a b => rw [hs] at h; simp at h
  | k + 1, s, h => by
    by_cases hi : Lib.index s [13, 10] = -1
    · rw [Lib.replaceK, if_pos (by simp [hi]), (splitC_index s).1 hi]; simp
    · have hge := Lib.index_ge s [13, 10]
      have hi' : Lib.index s [13, 10] = ((Lib.index s [13, 10]).toNat : Nat) := by omega
      rw [Lib.replaceK_hit _ _ _ _ _ hi']
      rw [(splitC_index s).2 _ hi'] at h ⊢
      simp only [List.length_cons] at h
      rw [show (Lib.index s [13, 10]).toNat + ([13, 10] : B).length = (Lib.index s [13, 10]).toNat + 2 from rfl, replaceK_C k _ (by omega)]
      simp
theorem splitC_count (s : B) : (splitC s).length = Lib.count s [13, 10] + 1 := by
  have hlen : (Lib.splitB ⟨#[13, 10]⟩ 0 (Lib.countB ⟨s.toArray⟩ ⟨#[13, 10]⟩) ⟨s.toArray⟩).length = Lib.countB ⟨s.toArray⟩ ⟨#[13, 10]⟩ + 1 := Lib.splitB_all ⟨#[13, 10]⟩ (by decide) 0 _ _ rfl
  have hd := Lib.splitB_data ⟨#[13, 10]⟩ 0 (Lib.countB ⟨s.toArray⟩ ⟨#[13, 10]⟩) ⟨s.toArray⟩
  have he : Lib.split s [13, 10] = (Lib.splitB ⟨#[13, 10]⟩ 0 (Lib.countB ⟨s.toArray⟩ ⟨#[13, 10]⟩) ⟨s.toArray⟩).map (·.data.toList) := hd.symm
  rw [← split_C, he, List.length_map, hlen]
theorem replaceAll_C (s : B) : Lib.replaceAll s [13, 10] [] = (splitC s).flatten := by
  unfold Lib.replaceAll Lib.replace Lib.replaceNum
  rw [if_neg (by decide), if_pos (.inl (by decide))]
  exact replaceK_C _ s (by rw [splitC_count]; exact Nat.le_refl _)
theorem rall_c (s : B) (hs : s.length ≤ 1000000) : CPure gx 170 [.str s, .str [13, 10], .str []] (.str (splitC s).flatten) := cpure_lib rfl fun w hG hn => by
  obtain ⟨m, hm⟩ := hG.maxLen
  refine (Tryz.strings_ReplaceAll ⟨s.toArray⟩ ⟨#[13, 10]⟩ ⟨#[]⟩ m w (by rw [sizeMk]; omega) hm (by decide) (by rw [sizeMk, show (⟨#[]⟩ : ByteArray).size = 0 from rfl, Nat.mul_zero]; omega)).mono ?_
  rintro e w' ⟨rfl, hb⟩
  refine ⟨_, rfl, hb, ?_⟩
  show Rep w' _ _ _ _ (.string ⟨(Lib.replaceAll s [13, 10] []).toArray⟩)
  rw [replaceAll_C]
  exact .str _ _
def badP (x : Nat) : Bool := !decide (x = 9) && (decide (x < 32) || decide (126 < x))
theorem bad1_c (x : Nat) (hx : x ≤ 1114111) : CPure gx 171 [.int .i32 x] (.bool (badP x)) := by
  refine cpure_of Tryz.func171 rfl (Nat.le_of_ble_eq_true rfl) rfl (fun w hw => ?_)
  by_cases h9 : x = 9
  · subst h9
    repeat' (first | refine a_f ?_ | refine st_nil ?_ | refine tri_seq ?_ | refine tri_region rfl ?_ | refine a_draw ?_ | (apply st_r rfl; case hq => first | exact a_q) | (apply st_rif rfl; (case hq => first | exact a_i); all_goals (intro _; try (exfalso; first | omega | contradiction))) | (apply st_rw rfl rfl; case hq => first | exact a_store) | refine tri_true rfl ?_ | refine tri_false rfl ?_ | refine tri_block ?_ | refine tri_skip ?_ | refine tri_ret ?_ | refine tri_exit ?_)
    refine And.intro trivial ?_
    conv => lhs; whnf
    try rfl
  · by_cases h1 : x < 32
    · rw [show badP x = true by simp [badP, h9, h1]]
      repeat' (first | refine a_f ?_ | refine st_nil ?_ | refine tri_seq ?_ | refine tri_region rfl ?_ | refine a_draw ?_ | (apply st_r rfl; case hq => first | exact a_q) | (apply st_rif rfl; (case hq => first | exact a_i); all_goals (intro _; try (exfalso; first | omega | contradiction))) | (apply st_rw rfl rfl; case hq => first | exact a_store) | refine tri_true rfl ?_ | refine tri_false rfl ?_ | refine tri_block ?_ | refine tri_skip ?_ | refine tri_ret ?_ | refine tri_exit ?_)
      refine And.intro trivial ?_
      conv => lhs; whnf
      try rfl
    · by_cases h2 : 126 < x
      · rw [show badP x = true by simp [badP, h9, h2]]
        repeat' (first | refine a_f ?_ | refine st_nil ?_ | refine tri_seq ?_ | refine tri_region rfl ?_ | refine a_draw ?_ | (apply st_r rfl; case hq => first | exact a_q) | (apply st_rif rfl; (case hq => first | exact a_i); all_goals (intro _; try (exfalso; first | omega | contradiction))) | (apply st_rw rfl rfl; case hq => first | exact a_store) | refine tri_true rfl ?_ | refine tri_false rfl ?_ | refine tri_block ?_ | refine tri_skip ?_ | refine tri_ret ?_ | refine tri_exit ?_)
        refine And.intro trivial ?_
        conv => lhs; whnf
        try rfl
      · rw [show badP x = false by simp [badP, h1, h2]]
        repeat' (first | refine a_f ?_ | refine st_nil ?_ | refine tri_seq ?_ | refine tri_region rfl ?_ | refine a_draw ?_ | (apply st_r rfl; case hq => first | exact a_q) | (apply st_rif rfl; (case hq => first | exact a_i); all_goals (intro _; try (exfalso; first | omega | contradiction))) | (apply st_rw rfl rfl; case hq => first | exact a_store) | refine tri_true rfl ?_ | refine tri_false rfl ?_ | refine tri_block ?_ | refine tri_skip ?_ | refine tri_ret ?_ | refine tri_exit ?_)
        refine And.intro trivial ?_
        conv => lhs; whnf
        try rfl
theorem all8W {f g : UInt8 → Bool} (h : (List.range 256).all (fun n => f (UInt8.ofNat n) == g (UInt8.ofNat n)) = true) (c : UInt8) : f c = g c := by
  have := List.all_eq_true.1 h c.toNat (List.mem_range.2 c.toNat_lt)
  simpa using this
theorem okCh_bad (c : UInt8) : okCh c = !badP c.toNat := by
  have : ∀ c : UInt8, okCh c = !badP c.toNat := all8W (by decide +kernel)
  exact this c
theorem asIs_flat : ∀ s : B, asIs s = !((splitC s).flatten.any fun c => badP c.toNat)
  | [] => rfl
  | [c] => by
    show okCh c = _
    rw [okCh_bad]
    simp [splitC]
  | c :: d :: r => by
    rw [asIs, splitC]
    by_cases h : c = 13 ∧ d = 10
    · rw [if_pos h, if_pos h, asIs_flat r]; simp
    · rw [if_neg h, if_neg h, asIs_flat (d :: r), okCh_bad]
      have hne := splitC_ne (d :: r)
      cases hs : splitC (d :: r) with
      | nil => exact absurd hs hne
      | cons a b => simp [Bool.not_or]
theorem plain_c (s : B) (hs : s.length ≤ 1000000) : CPure gx 136 [.str s] (.bool (asIs s)) := by
  rw [asIs_flat]
  refine cpure_of Tryz.func136 rfl (Nat.le_of_ble_eq_true rfl) rfl (fun w hw => ?_)
  have R1 := rall_c s hs
  have F1 := containsFunc_c (g := 171) (p := badP) (splitC s).flatten Tryz.call171 bad1_c (fun r h => by simp [badP]; omega)
  generalize ((splitC s).flatten.any fun c => badP c.toNat) = b at F1
  generalize (splitC s).flatten = t at R1 F1
  cases b
  all_goals
   repeat' (first | refine a_f ?_ | refine st_nil ?_ | refine tri_seq ?_ | refine tri_region rfl ?_ | refine a_draw ?_ | (apply st_r rfl; case hq => first | exact q_call R1 (hcf := Tryz.call170) rfl rfl | exact q_mkfunc rfl | exact q_call F1 (hcf := Tryz.call54) rfl rfl | exact a_q) | (apply st_rif rfl; (case hq => first | exact a_i); all_goals (intro _; try (exfalso; first | omega | contradiction))) | (apply st_rw rfl rfl; case hq => first | exact a_store) | refine tri_true rfl ?_ | refine tri_false rfl ?_ | refine tri_block ?_ | refine tri_skip ?_ | refine tri_ret ?_ | refine tri_exit ?_)
   refine And.intro trivial ?_
   conv => lhs; whnf
   try rfl
theorem quoteGo_lenW (b : B) : ∀ line, (quoteGo line b).length ≤ 6 * b.length := by
  induction b with
  | nil => intro line; simp [quoteGo]
  | cons c r ih =>
    intro line
    have h1 := (enc1_ok c r.isEmpty).2.1
    have h2 := ih (enc1 c r.isEmpty).length
    have h3 := ih (line + (enc1 c r.isEmpty).length)
    rw [quoteGo]
    split
    · simp; omega
    · simp; omega
theorem short_big (s : B) (hs : s.length ≤ 1000000) : (quote s).length ≤ 100000000 ∧ (pack s).length ≤ 100000000 := by
  have := quoteGo_lenW s 0
  have := pack_len s
  exact ⟨by show (quoteGo 0 s).length ≤ _; omega, by omega⟩
theorem shortest_c (s : B) (hs : s.length ≤ 1000000) : CPure gx 79 [.str s] (.tup [.str (shortF s).1, .str (shortF s).2]) := by
  refine cpure_of Tryz.func79 rfl (Nat.le_of_ble_eq_true rfl) rfl (fun w hw => ?_)
  have P1 := plain_c s hs
  have Q1 := quote_c s hs
  have K1 := pack_c s hs
  have hl := short_big s hs
  unfold shortF
  cases ha : asIs s with
  | true =>
    rw [ha] at P1
    repeat' (first | refine a_f ?_ | refine st_nil ?_ | refine tri_seq ?_ | refine tri_region rfl ?_ | refine a_draw ?_ | (apply st_r rfl; case hq => first | exact q_call P1 (hcf := Tryz.call136) rfl rfl | exact a_q) | (apply st_rif rfl; (case hq => first | exact a_i); all_goals (intro _; try (exfalso; first | omega | contradiction))) | (apply st_rw rfl rfl; case hq => first | exact a_store) | refine tri_true rfl ?_ | refine tri_false rfl ?_ | refine tri_block ?_ | refine tri_skip ?_ | refine tri_ret ?_ | refine tri_exit ?_)
    refine And.intro trivial ?_
    conv => lhs; whnf
    try rfl
  | false =>
    rw [ha] at P1
    simp only
    generalize quote s = q at Q1 hl ⊢
    generalize pack s = k at K1 hl ⊢
    obtain ⟨hl1, hl2⟩ := hl
    by_cases h : q.length ≤ k.length
    · rw [if_pos h]
      repeat' (first | refine a_f ?_ | refine st_nil ?_ | refine tri_seq ?_ | refine tri_region rfl ?_ | refine a_draw ?_ | (apply st_r rfl; case hq => first | exact q_call P1 (hcf := Tryz.call136) rfl rfl | exact q_call Q1 (hcf := Tryz.call137) rfl rfl | exact q_call K1 (hcf := Tryz.call138) rfl rfl | exact a_q) | (apply st_rif rfl; (case hq => first | exact a_i); all_goals (intro _; try (exfalso; first | omega | contradiction))) | (apply st_rw rfl rfl; case hq => first | exact a_store) | refine tri_true rfl ?_ | refine tri_false rfl ?_ | refine tri_block ?_ | refine tri_skip ?_ | refine tri_ret ?_ | refine tri_exit ?_)
      refine And.intro trivial ?_
      conv => lhs; whnf
      try rfl
    · rw [if_neg h]
      repeat' (first | refine a_f ?_ | refine st_nil ?_ | refine tri_seq ?_ | refine tri_region rfl ?_ | refine a_draw ?_ | (apply st_r rfl; case hq => first | exact q_call P1 (hcf := Tryz.call136) rfl rfl | exact q_call Q1 (hcf := Tryz.call137) rfl rfl | exact q_call K1 (hcf := Tryz.call138) rfl rfl | exact a_q) | (apply st_rif rfl; (case hq => first | exact a_i); all_goals (intro _; try (exfalso; first | omega | contradiction))) | (apply st_rw rfl rfl; case hq => first | exact a_store) | refine tri_true rfl ?_ | refine tri_false rfl ?_ | refine tri_block ?_ | refine tri_skip ?_ | refine tri_ret ?_ | refine tri_exit ?_)
      refine And.intro trivial ?_
      conv => lhs; whnf
      try rfl
theorem asIs_at (s : B) (i : Nat) (c : UInt8) (r : B) (h : s.drop i = c :: r) : (([13, 10] : B).isPrefixOf (c :: r) = true → asIs (c :: r) = asIs (s.drop (i + 2))) ∧ (([13, 10] : B).isPrefixOf (c :: r) = false → asIs (c :: r) = (okCh c && asIs (s.drop (i + 1)))) := by
  have e1 : s.drop (i + 1) = r := by rw [← List.drop_drop, h]; rfl
  have e2 : s.drop (i + 2) = r.drop 1 := by rw [← List.drop_drop, h]; rfl
  rw [e1, e2]
  cases r with
  | nil => exact ⟨fun h => by simp at h, fun _ => by simp [asIs]⟩
  | cons d r =>
    rw [asIs]
    by_cases hc : c = 13 ∧ d = 10
    · rw [if_pos hc]
      exact ⟨fun _ => rfl, fun h => by rw [hc.1, hc.2] at h; simp at h⟩
    · rw [if_neg hc]
      refine ⟨fun h => ?_, fun _ => rfl⟩
      simp only [List.isPrefixOf, Bool.and_eq_true, beq_iff_eq, and_true] at h
      exact absurd ⟨h.1.symm, h.2.symm⟩ hc
theorem asIs_c (s : B) (hs : s.length ≤ 1000000) : CPure gx 71 [.str s] (.bool (asIs s)) := by
  refine cpure_of Tryz.func71 rfl (Nat.le_of_ble_eq_true rfl) rfl (fun w hw => ?_)
  repeat' (first | refine a_f ?_ | refine st_nil ?_ | refine tri_seq ?_ | refine tri_region rfl ?_ | refine a_draw ?_ | (apply st_r rfl; case hq => first | exact a_q) | (apply st_rif rfl; (case hq => first | exact a_i); all_goals (intro _; try (exfalso; first | omega | contradiction))) | (apply st_rw rfl rfl; case hq => first | exact a_store) | refine tri_true rfl ?_ | refine tri_false rfl ?_ | refine tri_block ?_ | refine tri_skip ?_ | refine tri_ret ?_ | refine tri_exit ?_)
  refine tri_loop (fun (i : Nat) => i ≤ s.length ∧ asIs (s.drop i) = asIs s) (fun i => st [(0, .str s), (2, .bool false), (3, .int .i64 i)] []) (fun i => s.length - i) 0 ⟨Nat.zero_le _, rfl⟩ ?hw (fun i hi => ?_)
  case hw => exact weak_st ⟨rfl, rfl, rfl, trivial⟩ trivial
  obtain ⟨hi, hA⟩ := hi
  by_cases hil : i < s.length
  · obtain ⟨c, r, hd⟩ : ∃ c r, s.drop i = c :: r := by
      cases h : s.drop i with
      | nil => have := congrArg List.length h; simp at this; omega
      | cons c r => exact ⟨c, r, rfl⟩
    have hcr := congrArg List.length hd
    simp only [List.length_drop, List.length_cons] at hcr
    obtain ⟨a1, a2⟩ := asIs_at s i c r hd
    rw [hd] at hA
    have hg : s[i]? = some c := by
      have := congrArg (·[0]?) hd
      simpa using this
    have H1 := hpre_c (c :: r) [13, 10]
    have I1 := in_c c.toNat 32 126
    have hok : okCh c = (decide ((32 : Int) ≤ c.toNat ∧ (c.toNat : Int) ≤ 126) || decide ((c.toNat : Int) = 9)) := by
      have : ∀ c : UInt8, okCh c = (decide (32 ≤ c.toNat ∧ c.toNat ≤ 126) || decide (c.toNat = 9)) := all8W (by decide +kernel)
      rw [this c]
      congr 1 <;> exact decide_eq_decide.2 (by omega)
    cases hp : ([13, 10] : B).isPrefixOf (c :: r) with
    | true =>
      rw [hp] at H1
      rw [a1 hp] at hA
      have hr : 1 ≤ r.length := by
        cases r with
        | nil => simp at hp
        | cons d r => simp
      repeat' (first | refine a_f ?_ | refine st_nil ?_ | refine tri_seq ?_ | refine tri_region rfl ?_ | refine a_draw ?_ | (apply st_r rfl; case hq => first | exact q_slice_loE (n' := i) (l := c :: r) (by conv => lhs; whnf) (by conv => lhs; whnf) (by rfl) (by kernel_rfl) (by omega) hd | exact q_call H1 (hcf := Tryz.call41) rfl rfl | exact a_q) | (apply st_rif rfl; (case hq => first | exact a_i); all_goals (intro _; try (exfalso; first | omega | contradiction))) | (apply st_rw rfl rfl; case hq => first | exact a_store) | refine tri_true rfl ?_ | refine tri_false rfl ?_ | refine tri_block ?_ | refine tri_skip ?_ | refine tri_ret ?_ | refine tri_exit ?_)
      exact nextR (i + 2) ⟨by omega, hA⟩ (weak_st ⟨rfl, rfl, rfl, trivial⟩ trivial) (show s.length - (i + 2) < s.length - i by omega)
    | false =>
      rw [hp] at H1
      rw [a2 hp, hok] at hA
      have hc9 := c.toNat_lt
      by_cases h1 : (32 : Int) ≤ c.toNat ∧ (c.toNat : Int) ≤ 126
      · rw [decide_eq_true h1] at I1 hA
        rw [Bool.true_or, Bool.true_and] at hA
        repeat' (first | refine a_f ?_ | refine st_nil ?_ | refine tri_seq ?_ | refine tri_region rfl ?_ | refine a_draw ?_ | (apply st_r rfl; case hq => first | exact q_slice_loE (n' := i) (l := c :: r) (by conv => lhs; whnf) (by conv => lhs; whnf) (by rfl) (by kernel_rfl) (by omega) hd | exact q_call H1 (hcf := Tryz.call41) rfl rfl | exact q_indexP (c := c) (by conv => lhs; whnf) (by conv => lhs; whnf) (by rfl) (by kernel_rfl) hg | exact q_convint (by conv => lhs; whnf) (by kernel_rfl) (by kernel_rfl) (wrap_u8 c) | exact q_call I1 (hcf := Tryz.call50) rfl rfl | exact a_q) | (apply st_rif rfl; (case hq => first | exact a_i); all_goals (intro _; try (exfalso; first | omega | contradiction))) | (apply st_rw rfl rfl; case hq => first | exact a_store) | refine tri_true rfl ?_ | refine tri_false rfl ?_ | refine tri_block ?_ | refine tri_skip ?_ | refine tri_ret ?_ | refine tri_exit ?_)
        exact nextR (i + 1) ⟨by omega, hA⟩ (weak_st ⟨rfl, rfl, rfl, trivial⟩ trivial) (show s.length - (i + 1) < s.length - i by omega)
      · rw [decide_eq_false h1] at I1 hA
        rw [Bool.false_or] at hA
        by_cases h2 : (c.toNat : Int) = 9
        · rw [decide_eq_true h2, Bool.true_and] at hA
          repeat' (first | refine a_f ?_ | refine st_nil ?_ | refine tri_seq ?_ | refine tri_region rfl ?_ | refine a_draw ?_ | (apply st_r rfl; case hq => first | exact q_slice_loE (n' := i) (l := c :: r) (by conv => lhs; whnf) (by conv => lhs; whnf) (by rfl) (by kernel_rfl) (by omega) hd | exact q_call H1 (hcf := Tryz.call41) rfl rfl | exact q_indexP (c := c) (by conv => lhs; whnf) (by conv => lhs; whnf) (by rfl) (by kernel_rfl) hg | exact q_convint (by conv => lhs; whnf) (by kernel_rfl) (by kernel_rfl) (wrap_u8 c) | exact q_call I1 (hcf := Tryz.call50) rfl rfl | exact a_q) | (apply st_rif rfl; (case hq => first | exact a_i); all_goals (intro _; try (exfalso; first | omega | contradiction))) | (apply st_rw rfl rfl; case hq => first | exact a_store) | refine tri_true rfl ?_ | refine tri_false rfl ?_ | refine tri_block ?_ | refine tri_skip ?_ | refine tri_ret ?_ | refine tri_exit ?_)
          exact nextR (i + 1) ⟨by omega, hA⟩ (weak_st ⟨rfl, rfl, rfl, trivial⟩ trivial) (show s.length - (i + 1) < s.length - i by omega)
        · rw [decide_eq_false h2, Bool.false_and] at hA
          rw [← hA]
          repeat' (first | refine a_f ?_ | refine st_nil ?_ | refine tri_seq ?_ | refine tri_region rfl ?_ | refine a_draw ?_ | (apply st_r rfl; case hq => first | exact q_slice_loE (n' := i) (l := c :: r) (by conv => lhs; whnf) (by conv => lhs; whnf) (by rfl) (by kernel_rfl) (by omega) hd | exact q_call H1 (hcf := Tryz.call41) rfl rfl | exact q_indexP (c := c) (by conv => lhs; whnf) (by conv => lhs; whnf) (by rfl) (by kernel_rfl) hg | exact q_convint (by conv => lhs; whnf) (by kernel_rfl) (by kernel_rfl) (wrap_u8 c) | exact q_call I1 (hcf := Tryz.call50) rfl rfl | exact a_q) | (apply st_rif rfl; (case hq => first | exact a_i); all_goals (intro _; try (exfalso; first | omega | contradiction))) | (apply st_rw rfl rfl; case hq => first | exact a_store) | refine tri_true rfl ?_ | refine tri_false rfl ?_ | refine tri_block ?_ | refine tri_skip ?_ | refine tri_ret ?_ | refine tri_exit ?_)
          refine And.intro trivial ?_
          conv => lhs; whnf
          try rfl
  · rw [List.drop_eq_nil_of_le (by omega)] at hA
    rw [← hA]
    repeat' (first | refine a_f ?_ | refine st_nil ?_ | refine tri_seq ?_ | refine tri_region rfl ?_ | refine a_draw ?_ | (apply st_r rfl; case hq => first | exact a_q) | (apply st_rif rfl; (case hq => first | exact a_i); all_goals (intro _; try (exfalso; first | omega | contradiction))) | (apply st_rw rfl rfl; case hq => first | exact a_store) | refine tri_true rfl ?_ | refine tri_false rfl ?_ | refine tri_block ?_ | refine tri_skip ?_ | refine tri_ret ?_ | refine tri_exit ?_)
    refine And.intro trivial ?_
    conv => lhs; whnf
    try rfl
end Go.Proofs.YtignjjnflcpiiaaGreatDoor
