import Derived.Test.YtignjjnflcpiiaaGreatDoorKUnquoteW
import Derived.Test.YtignjjnflcpiiaaGreatDoorKQuoteW
import Derived.Test.YtignjjnflcpiiaaGreatDoorKG33
import Derived.Test.YtignjjnflcpiiaaGreatDoorKG10
import Derived.Test.YtignjjnflcpiiaaGreatDoorKG14
import Derived.Test.YtignjjnflcpiiaaGreatDoorKVm4
import Derived.Test.YtignjjnflcpiiaaGreatDoorKG29
import Derived.Test.YtignjjnflcpiiaaGreatDoorKPartS
import Derived.Lib.Replace
set_option linter.unusedVariables false
set_option linter.unusedSimpArgs false
set_option maxHeartbeats 1000000
namespace Go.Proofs.YtignjjnflcpiiaaGreatDoor
open Go.RowKit
attribute [local irreducible] Tri Steps Qd Wr Weak CPure CEff
set_option maxRecDepth 100000
theorem pack_c (s : B) (hs : s.length ≤ 1000000) : CPure gx 138 [.str s] (.str (pack s)) :=
  cpure_val rfl rfl fun w _ => pack_any ⟨s.toArray⟩ w (by rw [sizeMk]; omega)
theorem quote_c (s : B) (hs : s.length ≤ 1000000) : CPure gx 137 [.str s] (.str (quote s)) :=
  cpure_val rfl rfl fun w _ => quote_any ⟨s.toArray⟩ w (by rw [sizeMk]; omega)
def unAV : Option B → AV
  | some x => .tup [.str x, .nili]
  | none => .tup [.str [], .iface 28 (.int .i64 3)]
theorem resT_rep {w : World} {N : Nat} {M : Nat → Prop} {γ : Nat → Value} (o : Option B) : Rep w N M γ (unAV o) (resT o) := by
  cases o with
  | some x => exact .tup _ _ [_, _] rfl (fun i hi hx => by
      match i, hi with
      | 0, _ => exact .str _ _
      | 1, _ => exact .nili _)
  | none => exact .tup _ _ [_, _] rfl (fun i hi hx => by
      match i, hi with
      | 0, _ => exact .str _ []
      | 1, _ => exact .iface _ _ _ _ (.int _ _ _))
theorem unpack_c (s : B) (hs : s.length ≤ 1000000) : CPure gx 142 [.str s] (unAV (unpack s)) :=
  cpure_lib rfl fun w _ _ => (unpack_any ⟨s.toArray⟩ w (by rw [sizeMk]; omega)).mono fun e w' h => ⟨_, h.1, h.2, resT_rep _⟩
theorem unquote_c (s : B) (hs : s.length ≤ 1000000) : CPure gx 143 [.str s] (unAV (unquote s)) :=
  cpure_lib rfl fun w hG _ => let ⟨m, hm⟩ := hG.maxLen; (unquote_any ⟨s.toArray⟩ m w (by rw [sizeMk]; omega) hm).mono fun e w' h => ⟨_, h.1, h.2, resT_rep _⟩
structure UInv (s : B) (x : Nat × B) : Prop where
  le : x.1 ≤ (splitC s).length
  go : (unqLines ((splitC s).drop x.1)).map (x.2 ++ ·) = unquote s
  num : x.2.length + (((splitC s).drop x.1).map List.length).sum + 2 * ((splitC s).length - x.1) ≤ s.length + 2
end Go.Proofs.YtignjjnflcpiiaaGreatDoor
namespace Go.Proofs.YtignjjnflcpiiaaGreatDoor
open Go.RowKit
attribute [local irreducible] Tri Steps Qd Wr Weak CPure CEff
set_option maxRecDepth 100000
theorem replaceK_C : ∀ (k : Nat) (s : B), (splitC s).length ≤ k + 1 → Lib.replaceK [13, 10] [] k s = (splitC s).flatten
  | 0, s, h => by
    rw [Lib.replaceK]
    by_cases hi : Lib.index s [13, 10] = -1
    · rw [(splitC_index s).1 hi]; simp
    · have hge := Lib.index_ge s [13, 10]
      have hi' : Lib.index s [13, 10] = ((Lib.index s [13, 10]).toNat : Nat) := by omega
      rw [(splitC_index s).2 _ hi'] at h
      have := splitC_ne (s.drop ((Lib.index s [13, 10]).toNat + 2))
      cases hs : splitC (s.drop ((Lib.index s [13, 10]).toNat + 2)) with
      | nil => exact absurd hs this
      | cons a b => rw [hs] at h; simp at h
  | k + 1, s, h => by
    by_cases hi : Lib.index s [13, 10] = -1
    · rw [Lib.replaceK, if_pos (by simp [hi]), (splitC_index s).1 hi]; simp
    · have hge := Lib.index_ge s [13, 10]
      have hi' : Lib.index s [13, 10] = ((Lib.index s [13, 10]).toNat : Nat) := by omega
      rw [Lib.replaceK_hit _ _ _ _ _ hi']
      rw [(splitC_index s).2 _ hi'] at h ⊢
      simp only [List.length_cons] at h
      rw [show (Lib.index s [13, 10]).toNat + ([13, 10] : B).length = (Lib.index s [13, 10]).toNat + 2 from rfl, replaceK_C k _ (by omega)]
      simp
theorem splitC_count (s : B) : (splitC s).length = Lib.count s [13, 10] + 1 := by
  have hlen : (Lib.splitB ⟨#[13, 10]⟩ 0 (Lib.countB ⟨s.toArray⟩ ⟨#[13, 10]⟩) ⟨s.toArray⟩).length = Lib.countB ⟨s.toArray⟩ ⟨#[13, 10]⟩ + 1 := Lib.splitB_all ⟨#[13, 10]⟩ (by decide) 0 _ _ rfl
  have hd := Lib.splitB_data ⟨#[13, 10]⟩ 0 (Lib.countB ⟨s.toArray⟩ ⟨#[13, 10]⟩) ⟨s.toArray⟩
  have he : Lib.split s [13, 10] = (Lib.splitB ⟨#[13, 10]⟩ 0 (Lib.countB ⟨s.toArray⟩ ⟨#[13, 10]⟩) ⟨s.toArray⟩).map (·.data.toList) := hd.symm
  rw [← split_C, he, List.length_map, hlen]
theorem replaceAll_C (s : B) : Lib.replaceAll s [13, 10] [] = (splitC s).flatten := by
  unfold Lib.replaceAll Lib.replace Lib.replaceNum
  rw [if_neg (by decide), if_pos (.inl (by decide))]
  exact replaceK_C _ s (by rw [splitC_count]; exact Nat.le_refl _)
theorem rall_c (s : B) (hs : s.length ≤ 1000000) : CPure gx 170 [.str s, .str [13, 10], .str []] (.str (splitC s).flatten) := cpure_lib rfl fun w hG hn => by
  obtain ⟨m, hm⟩ := hG.maxLen
  refine (Tryz.strings_ReplaceAll ⟨s.toArray⟩ ⟨#[13, 10]⟩ ⟨#[]⟩ m w (by rw [sizeMk]; omega) hm (by decide) (by rw [sizeMk, show (⟨#[]⟩ : ByteArray).size = 0 from rfl, Nat.mul_zero]; omega)).mono ?_
  rintro e w' ⟨rfl, hb⟩
  refine ⟨_, rfl, hb, ?_⟩
  show Rep w' _ _ _ _ (.string ⟨(Lib.replaceAll s [13, 10] []).toArray⟩)
  rw [replaceAll_C]
  exact .str _ _
def badP (x : Nat) : Bool := !decide (x = 9) && (decide (x < 32) || decide (126 < x))
theorem bad1_c (x : Nat) (hx : x ≤ 1114111) : CPure gx 171 [.int .i32 x] (.bool (badP x)) := by
  refine cpure_of Tryz.func171 rfl (Nat.le_of_ble_eq_true rfl) rfl (fun w hw => ?_)
  by_cases h9 : x = 9
  · subst h9
    repeat' (first | refine a_f ?_ | refine st_nil ?_ | refine tri_seq ?_ | refine tri_region rfl ?_ | refine a_draw ?_ | (apply st_r rfl; case hq => first | exact a_q) | (apply st_rif rfl; (case hq => first | exact a_i); all_goals (intro _; try (exfalso; first | omega | contradiction))) | (apply st_rw rfl rfl; case hq => first | exact a_store) | refine tri_true rfl ?_ | refine tri_false rfl ?_ | refine tri_block ?_ | refine tri_skip ?_ | refine tri_ret ?_ | refine tri_exit ?_)
    refine And.intro trivial ?_
    conv => lhs; whnf
    try rfl
  · by_cases h1 : x < 32
    · rw [show badP x = true by simp [badP, h9, h1]]
      repeat' (first | refine a_f ?_ | refine st_nil ?_ | refine tri_seq ?_ | refine tri_region rfl ?_ | refine a_draw ?_ | (apply st_r rfl; case hq => first | exact a_q) | (apply st_rif rfl; (case hq => first | exact a_i); all_goals (intro _; try (exfalso; first | omega | contradiction))) | (apply st_rw rfl rfl; case hq => first | exact a_store) | refine tri_true rfl ?_ | refine tri_false rfl ?_ | refine tri_block ?_ | refine tri_skip ?_ | refine tri_ret ?_ | refine tri_exit ?_)
      refine And.intro trivial ?_
      conv => lhs; whnf
      try rfl
    · by_cases h2 : 126 < x
      · rw [show badP x = true by simp [badP, h9, h2]]
        repeat' (first | refine a_f ?_ | refine st_nil ?_ | refine tri_seq ?_ | refine tri_region rfl ?_ | refine a_draw ?_ | (apply st_r rfl; case hq => first | exact a_q) | (apply st_rif rfl; (case hq => first | exact a_i); all_goals (intro _; try (exfalso; first | omega | contradiction))) | (apply st_rw rfl rfl; case hq => first | exact a_store) | refine tri_true rfl ?_ | refine tri_false rfl ?_ | refine tri_block ?_ | refine tri_skip ?_ | refine tri_ret ?_ | refine tri_exit ?_)
        refine And.intro trivial ?_
        conv => lhs; whnf
        try rfl
      · rw [show badP x = false by simp [badP, h1, h2]]
        repeat' (first | refine a_f ?_ | refine st_nil ?_ | refine tri_seq ?_ | refine tri_region rfl ?_ | refine a_draw ?_ | (apply st_r rfl; case hq => first | exact a_q) | (apply st_rif rfl; (case hq => first | exact a_i); all_goals (intro _; try (exfalso; first | omega | contradiction))) | (apply st_rw rfl rfl; case hq => first | exact a_store) | refine tri_true rfl ?_ | refine tri_false rfl ?_ | refine tri_block ?_ | refine tri_skip ?_ | refine tri_ret ?_ | refine tri_exit ?_)
        refine And.intro trivial ?_
        conv => lhs; whnf
        try rfl
theorem all8W {f g : UInt8 → Bool} (h : (List.range 256).all (fun n => f (UInt8.ofNat n) == g (UInt8.ofNat n)) = true) (c : UInt8) : f c = g c := by
  have := List.all_eq_true.1 h c.toNat (List.mem_range.2 c.toNat_lt)
  simpa using this
theorem okCh_bad (c : UInt8) : okCh c = !badP c.toNat := by
  have : ∀ c : UInt8, okCh c = !badP c.toNat := all8W (by decide +kernel)
  exact this c
theorem asIs_flat : ∀ s : B, asIs s = !((splitC s).flatten.any fun c => badP c.toNat)
  | [] => rfl
  | [c] => by
    show okCh c = _
    rw [okCh_bad]
    simp [splitC]
  | c :: d :: r => by
    rw [asIs, splitC]
    by_cases h : c = 13 ∧ d = 10
    · rw [if_pos h, if_pos h, asIs_flat r]; simp
    · rw [if_neg h, if_neg h, asIs_flat (d :: r), okCh_bad]
      have hne := splitC_ne (d :: r)
      cases hs : splitC (d :: r) with
      | nil => exact absurd hs hne
      | cons a b => simp [Bool.not_or]
theorem plain_c (s : B) (hs : s.length ≤ 1000000) : CPure gx 136 [.str s] (.bool (asIs s)) := by
  rw [asIs_flat]
  refine cpure_of Tryz.func136 rfl (Nat.le_of_ble_eq_true rfl) rfl (fun w hw => ?_)
  have R1 := rall_c s hs
  have F1 := containsFunc_c (g := 171) (p := badP) (splitC s).flatten Tryz.call171 bad1_c (fun r h => by simp [badP]; omega)
  generalize ((splitC s).flatten.any fun c => badP c.toNat) = b at F1
  generalize (splitC s).flatten = t at R1 F1
  cases b
  all_goals
   repeat' (first | refine a_f ?_ | refine st_nil ?_ | refine tri_seq ?_ | refine tri_region rfl ?_ | refine a_draw ?_ | (apply st_r rfl; case hq => first | exact q_call R1 (hcf := Tryz.call170) rfl rfl | exact q_mkfunc rfl | exact q_call F1 (hcf := Tryz.call54) rfl rfl | exact a_q) | (apply st_rif rfl; (case hq => first | exact a_i); all_goals (intro _; try (exfalso; first | omega | contradiction))) | (apply st_rw rfl rfl; case hq => first | exact a_store) | refine tri_true rfl ?_ | refine tri_false rfl ?_ | refine tri_block ?_ | refine tri_skip ?_ | refine tri_ret ?_ | refine tri_exit ?_)
   refine And.intro trivial ?_
   conv => lhs; whnf
   try rfl
theorem quoteGo_lenW (b : B) : ∀ line, (quoteGo line b).length ≤ 6 * b.length := by
  induction b with
  | nil => intro line; simp [quoteGo]
  | cons c r ih =>
    intro line
    have h1 := (enc1_ok c r.isEmpty).2.1
    have h2 := ih (enc1 c r.isEmpty).length
    have h3 := ih (line + (enc1 c r.isEmpty).length)
    rw [quoteGo]
    split
    · simp; omega
    · simp; omega
theorem short_big (s : B) (hs : s.length ≤ 1000000) : (quote s).length ≤ 100000000 ∧ (pack s).length ≤ 100000000 := by
  have := quoteGo_lenW s 0
  have := pack_len s
  exact ⟨by show (quoteGo 0 s).length ≤ _; omega, by omega⟩
theorem shortest_c (s : B) (hs : s.length ≤ 1000000) : CPure gx 79 [.str s] (.tup [.str (shortF s).1, .str (shortF s).2]) := by
  refine cpure_of Tryz.func79 rfl (Nat.le_of_ble_eq_true rfl) rfl (fun w hw => ?_)
  have P1 := plain_c s hs
  have Q1 := quote_c s hs
  have K1 := pack_c s hs
  have hl := short_big s hs
  unfold shortF
  cases ha : asIs s with
  | true =>
    rw [ha] at P1
    repeat' (first | refine a_f ?_ | refine st_nil ?_ | refine tri_seq ?_ | refine tri_region rfl ?_ | refine a_draw ?_ | (apply st_r rfl; case hq => first | exact q_call P1 (hcf := Tryz.call136) rfl rfl | exact a_q) | (apply st_rif rfl; (case hq => first | exact a_i); all_goals (intro _; try (exfalso; first | omega | contradiction))) | (apply st_rw rfl rfl; case hq => first | exact a_store) | refine tri_true rfl ?_ | refine tri_false rfl ?_ | refine tri_block ?_ | refine tri_skip ?_ | refine tri_ret ?_ | refine tri_exit ?_)
    refine And.intro trivial ?_
    conv => lhs; whnf
    try rfl
  | false =>
    rw [ha] at P1
    simp only
    generalize quote s = q at Q1 hl ⊢
    generalize pack s = k at K1 hl ⊢
    obtain ⟨hl1, hl2⟩ := hl
    by_cases h : q.length ≤ k.length
    · rw [if_pos h]
      repeat' (first | refine a_f ?_ | refine st_nil ?_ | refine tri_seq ?_ | refine tri_region rfl ?_ | refine a_draw ?_ | (apply st_r rfl; case hq => first | exact q_call P1 (hcf := Tryz.call136) rfl rfl | exact q_call Q1 (hcf := Tryz.call137) rfl rfl | exact q_call K1 (hcf := Tryz.call138) rfl rfl | exact a_q) | (apply st_rif rfl; (case hq => first | exact a_i); all_goals (intro _; try (exfalso; first | omega | contradiction))) | (apply st_rw rfl rfl; case hq => first | exact a_store) | refine tri_true rfl ?_ | refine tri_false rfl ?_ | refine tri_block ?_ | refine tri_skip ?_ | refine tri_ret ?_ | refine tri_exit ?_)
      refine And.intro trivial ?_
      conv => lhs; whnf
      try rfl
    · rw [if_neg h]
      repeat' (first | refine a_f ?_ | refine st_nil ?_ | refine tri_seq ?_ | refine tri_region rfl ?_ | refine a_draw ?_ | (apply st_r rfl; case hq => first | exact q_call P1 (hcf := Tryz.call136) rfl rfl | exact q_call Q1 (hcf := Tryz.call137) rfl rfl | exact q_call K1 (hcf := Tryz.call138) rfl rfl | exact a_q) | (apply st_rif rfl; (case hq => first | exact a_i); all_goals (intro _; try (exfalso; first | omega | contradiction))) | (apply st_rw rfl rfl; case hq => first | exact a_store) | refine tri_true rfl ?_ | refine tri_false rfl ?_ | refine tri_block ?_ | refine tri_skip ?_ | refine tri_ret ?_ | refine tri_exit ?_)
      refine And.intro trivial ?_
      conv => lhs; whnf
      try rfl
end Go.Proofs.YtignjjnflcpiiaaGreatDoor
