import Derived.Test.YtignjjnflcpiiaaGreatDoorWG10
import Derived.Test.YtignjjnflcpiiaaGreatDoorWVm4
set_option linter.unusedVariables false
set_option linter.unusedSimpArgs false
set_option maxHeartbeats 1000000
namespace Go.Proofs.YtignjjnflcpiiaaGreatDoor
open Go.RowKit
attribute [local irreducible] Tri Steps Qd Wr Weak CPure CEff
set_option maxRecDepth 100000
theorem enc_facts (r : Int) (h : 128 ≤ r) : ∃ R : B, Utf8.encode r = ⟨R.toArray⟩ ∧ 1 ≤ R.length ∧ R.length ≤ 4 ∧ 128 ≤ (R.getD (R.length - 1) 0).toNat := by
  unfold Utf8.encode
  have key : 128 ≤ (if Utf8.valid r then r.toNat else Utf8.runeError) := by
    split
    · omega
    · decide
  generalize (if Utf8.valid r then r.toNat else Utf8.runeError) = c at key
  have lo : ∀ n : Nat, n < 64 → 128 ≤ (UInt8.ofNat (0x80 + n)).toNat := by
    intro n hn
    rw [UInt8.toNat_ofNat']; omega
  simp only
  rw [if_neg (by omega)]
  split
  · exact ⟨[_, _], rfl, by simp, by simp, lo _ (Nat.mod_lt _ (by omega))⟩
  · split
    · exact ⟨[_, _, _], rfl, by simp, by simp, lo _ (Nat.mod_lt _ (by omega))⟩
    · exact ⟨[_, _, _, _], rfl, by simp, by simp, lo _ (Nat.mod_lt _ (by omega))⟩
theorem get_at (s : B) (k : Nat) : (⟨s.toArray⟩ : ByteArray).get! k = s.getD k 0 := by
  by_cases h : k < s.length
  · simp [ByteArray.get!, List.getD_eq_getElem?_getD, h]
  · simp [ByteArray.get!, List.getD_eq_getElem?_getD, h]; rfl
theorem dec_span (s : B) (p : Nat) (h : p < s.length) (ha : ¬ (s.getD p 0).toNat < 128) : 128 ≤ runeAt s p ∧ runeAt s p ≤ 1114111 ∧ 1 ≤ runeLen s p ∧ p + runeLen s p ≤ s.length ∧ ∀ j, p ≤ j → j < p + runeLen s p → ¬ (s.getD j 0).toNat < 128 := by
  unfold runeAt runeLen Utf8.decode
  simp only [get_at, sizeMk, Nat.add_zero]
  have l0 := (s.getD p 0).toNat_lt
  rw [if_neg ha]
  have one : (128 ≤ (Utf8.runeError, 1).1 ∧ (Utf8.runeError, 1).1 ≤ 1114111 ∧ 1 ≤ (Utf8.runeError, 1).2 ∧ p + (Utf8.runeError, 1).2 ≤ s.length ∧ ∀ j, p ≤ j → j < p + (Utf8.runeError, 1).2 → ¬ (s.getD j 0).toNat < 128) := by
    refine ⟨by decide, by decide, by decide, by omega, fun j h1 h2 => ?_⟩
    have : j = p := by simp only at h2; omega
    rw [this]; exact ha
  have l1 := (s.getD (p + 1) 0).toNat_lt
  have l2 := (s.getD (p + 2) 0).toNat_lt
  have l3 := (s.getD (p + 3) 0).toNat_lt
  split
  · rename_i h1
    simp only [Bool.and_eq_true, beq_iff_eq, decide_eq_true_eq] at h1
    split
    · refine ⟨by simp only; omega, by simp only; omega, by simp only; omega, by simp only; omega, fun j j1 j2 => ?_⟩
      simp only at j2
      have : j = p ∨ j = p + 1 := by omega
      rcases this with e | e <;> rw [e] <;> omega
    · exact one
  · split
    · rename_i h1
      simp only [Bool.and_eq_true, beq_iff_eq, decide_eq_true_eq] at h1
      split
      · rename_i h2
        simp only [Bool.and_eq_true, decide_eq_true_eq, ge_iff_le] at h2
        refine ⟨by simp only; omega, by simp only; omega, by simp only; omega, by simp only; omega, fun j j1 j2 => ?_⟩
        simp only at j2
        have : j = p ∨ j = p + 1 ∨ j = p + 2 := by omega
        rcases this with e | e | e <;> rw [e] <;> omega
      · exact one
    · split
      · rename_i h1
        simp only [Bool.and_eq_true, beq_iff_eq, decide_eq_true_eq] at h1
        split
        · rename_i h2
          simp only [Bool.and_eq_true, decide_eq_true_eq, ge_iff_le, Utf8.valid, Bool.or_eq_true] at h2
          refine ⟨by simp only; omega, by simp only; omega, by simp only; omega, by simp only; omega, fun j j1 j2 => ?_⟩
          simp only at j2
          have : j = p ∨ j = p + 1 ∨ j = p + 2 ∨ j = p + 3 := by omega
          rcases this with e | e | e | e <;> rw [e] <;> omega
        · exact one
      · exact one
theorem dec_one (s : B) (p : Nat) (h : p < s.length) (ha : (s.getD p 0).toNat < 128) : runeAt s p = (s.getD p 0).toNat ∧ runeLen s p = 1 := by
  unfold runeAt runeLen Utf8.decode
  simp only [get_at, Nat.add_zero]
  rw [if_pos ha]
  exact ⟨rfl, rfl⟩
theorem q_convstr {C : Cx} {σ : St} {ty : TypeId} {pos : String} {af : Array Edge} {g : Option (Nat × Bool)} {x : Operand} {d : Option Nat} {k k2 : IntKind} {m : Int} {td sd : TypeId} {R : List UInt8} (hx : σ.ev x = .int k m) (hs : C.P.underlying sd = some (.int k2)) (hd : C.P.underlying td = some .string) (hr : Utf8.encode m = ⟨R.toArray⟩) : Qd C ⟨d, .convert sd td x, ty, pos, af, g⟩ σ (.str R) := qd_of fun γ a w _ he => by
  have e1 := he x (by simp [Op.operands])
  rw [hx] at e1
  have e1 := e1.int_inv
  refine ⟨.string ⟨R.toArray⟩, w, ?_, ext_refl w, .str _ _⟩
  simp [execOp, e1, convert, run_underlying hs, run_underlying hd, Conv.intToString, hr]
theorem validRune_c (r : Nat) : CPure gx 188 [.int .i32 r] (.bool (decide (r < 55296 ∨ (57343 < r ∧ r ≤ 1114111)))) := by
  refine cpure_of Tryz.func188 rfl (Nat.le_of_ble_eq_true rfl) rfl (fun w hw => ?_)
  repeat' (first | refine a_f ?_ | refine st_nil ?_ | refine tri_seq ?_ | refine tri_region rfl ?_ | refine a_draw ?_ | (apply st_r rfl; case hq => first | exact a_q) | (apply st_rif rfl; (case hq => first | exact a_i); all_goals (intro _; try (exfalso; omega))) | (apply st_rw rfl rfl; case hq => first | exact a_store) | refine tri_true rfl ?_ | refine tri_false rfl ?_ | refine tri_block ?_ | refine tri_skip ?_ | refine tri_ret ?_ | refine tri_exit ?_)
  all_goals (refine And.intro trivial ?_; conv => lhs; whnf)
  all_goals (congr 1; symm; first | exact decide_eq_true (by omega) | exact decide_eq_false (by omega))
def low7 (s : B) : Prop := ∀ j, (s.getD j 0).toNat < 128
theorem low7_drop {s : B} (h : low7 s) (k : Nat) : low7 (s.drop k) := fun j => by
  have := h (k + j)
  rw [List.getD_eq_getElem?_getD] at this ⊢
  rw [List.getElem?_drop]; exact this
theorem idx_none {s : B} (h : low7 s) {c : UInt8} (hc : ¬ c.toNat < 128) : Lib.indexByte s c = -1 := by
  induction s with
  | nil => rfl
  | cons b l ih =>
    have hb : b.toNat < 128 := h 0
    have hl : low7 l := low7_drop h 1
    rw [Lib.indexByte, if_neg, if_pos]
    · rw [ih hl]; rfl
    · intro e
      rw [beq_iff_eq] at e
      rw [e] at hb; exact hc hb
theorem indexRune_lo (s : B) (r : Nat) (h : r < 128) : CPure gx 160 [.str s, .int .i32 r] (.int .i64 (Lib.indexByte s r.toUInt8)) :=
  cpure_val rfl rfl fun w _ => (Tryz.strings_IndexRune_ascii ⟨s.toArray⟩ (r : Int) w (by omega) (by omega)).mono fun e w' h => ⟨h.1, h.2 ▸ ext_refl w⟩
theorem indexByte_no (s : B) (hl : low7 s) (c : UInt8) (hc : ¬ c.toNat < 128) : CPure gx 42 [.str s, .int .u8 c.toNat] (.int .i64 (-1)) := by
  have h := indexByte_c s c.toNat
  rw [show ((c.toNat : Int).toNat.toUInt8) = c by simp, idx_none hl hc] at h
  exact h
set_option maxHeartbeats 4000000 in
theorem indexRune_hi (s : B) (hs : s.length ≤ 100000000) (hl : low7 s) (r : Nat) (h : 128 ≤ r) (hr : r ≤ 1114111) : CPure gx 160 [.str s, .int .i32 r] (.int .i64 (-1)) := by
  refine cpure_of Tryz.func160 rfl (Nat.le_of_ble_eq_true rfl) rfl (fun w hw => ?_)
  have V1 := validRune_c r
  by_cases he : r = 65533
  · subst he
    repeat' (first | refine a_f ?_ | refine st_nil ?_ | refine tri_seq ?_ | refine tri_region rfl ?_ | refine a_draw ?_ | (apply st_r rfl; case hq => first | exact a_q) | (apply st_rif rfl; (case hq => first | exact a_i); all_goals (intro _; try (exfalso; omega))) | (apply st_rw rfl rfl; case hq => first | exact w_range 101 (by conv => lhs; whnf) (by kernel_rfl) rfl rfl | exact a_store) | refine tri_true rfl ?_ | refine tri_false rfl ?_ | refine tri_block ?_ | refine tri_skip ?_ | refine tri_ret ?_ | refine tri_exit ?_)
    refine tri_loop (fun (p : Nat) => p ≤ s.length) (fun p => st [(0, .str s), (175, .ptr 101 0)] [(101, .iter s p)]) (fun p => s.length - p) 0 (Nat.zero_le _) ?hw (fun p hp => ?_)
    case hw => exact weak_st ⟨rfl, rfl, trivial⟩ ⟨rfl, trivial⟩
    by_cases hpl : p < s.length
    · obtain ⟨d1, d2⟩ := dec_one s p hpl (hl p)
      have d3 := hl p
      rw [← d1] at d3
      repeat' (first | refine a_f ?_ | refine st_nil ?_ | refine tri_seq ?_ | refine tri_region rfl ?_ | refine a_draw ?_ | (apply st_r rfl; case hq => first | exact a_q) | (apply st_rif rfl; (case hq => first | exact a_i); all_goals (intro _; try (exfalso; omega))) | (apply st_rw rfl rfl; case hq => first | exact w_next (by conv => lhs; whnf) (by conv => lhs; whnf; arg 1; whnf) (by omega) rfl | exact a_store) | refine tri_true rfl ?_ | refine tri_false rfl ?_ | refine tri_block ?_ | refine tri_skip ?_ | refine tri_ret ?_ | refine tri_exit ?_)
      exact nextR (p + runeLen s p) (by omega) (weak_st ⟨rfl, rfl, trivial⟩ ⟨rfl, trivial⟩) (show s.length - (p + runeLen s p) < s.length - p by omega)
    · repeat' (first | refine a_f ?_ | refine st_nil ?_ | refine tri_seq ?_ | refine tri_region rfl ?_ | refine a_draw ?_ | (apply st_r rfl; case hq => first | exact q_nextend (by conv => lhs; whnf) (by conv => lhs; whnf; arg 1; whnf) (by omega) | exact a_q) | (apply st_rif rfl; (case hq => first | exact a_i); all_goals (intro _; try (exfalso; omega))) | (apply st_rw rfl rfl; case hq => first | exact a_store) | refine tri_true rfl ?_ | refine tri_false rfl ?_ | refine tri_block ?_ | refine tri_skip ?_ | refine tri_ret ?_ | refine tri_exit ?_)
      exact And.intro trivial rfl
  obtain ⟨R, h1, h2, h3, h4⟩ := enc_facts r (by omega)
  cases hv : decide (r < 55296 ∨ (57343 < r ∧ r ≤ 1114111)) <;> rw [hv] at V1
  · repeat' (first | refine a_f ?_ | refine st_nil ?_ | refine tri_seq ?_ | refine tri_region rfl ?_ | refine a_draw ?_ | (apply st_r rfl; case hq => first | exact q_call V1 (hcf := Tryz.call188) rfl rfl | exact a_q) | (apply st_rif rfl; (case hq => first | exact a_i); all_goals (intro _; try (exfalso; omega))) | (apply st_rw rfl rfl; case hq => first | exact a_store) | refine tri_true rfl ?_ | refine tri_false rfl ?_ | refine tri_block ?_ | refine tri_skip ?_ | refine tri_ret ?_ | refine tri_exit ?_)
    all_goals (refine And.intro trivial ?_; conv => lhs; whnf)
    all_goals rfl
  · repeat' (first | refine a_f ?_ | refine st_nil ?_ | refine tri_seq ?_ | refine tri_region rfl ?_ | refine tri_scope ?_ | refine a_draw ?_ | (apply st_r rfl; case hq => first | exact q_call V1 (hcf := Tryz.call188) rfl rfl | exact q_convstr (by conv => lhs; whnf) Tryz.underlying21 Tryz.underlying9 h1 | exact a_q) | (apply st_rif rfl; (case hq => first | exact a_i); all_goals (intro _; try (exfalso; omega))) | (apply st_rw rfl rfl; case hq => first | exact a_store) | refine tri_true rfl ?_ | refine tri_false rfl ?_ | refine tri_block ?_ | refine tri_skip ?_ | refine tri_ret ?_ | refine tri_exit ?_)
    refine tri_loop (fun (_ : Unit) => True) (fun _ => st [(0, .str s), (7, .str R), (8, .int .i64 ((R.length : Int) - 1)), (9, .int .i64 ((R.length : Int) - 1))] []) (fun _ => 0) () trivial ?hw (fun _ _ => ?_)
    case hw => exact weak_st ⟨rfl, rfl, rfl, rfl, trivial⟩ trivial
    have e1 : ((R.length : Int) - 1).toNat = R.length - 1 := by omega
    have f1 := hl ((R.length : Int) - 1).toNat
    rw [← e1] at h4
    have I1 := indexByte_no (s.drop ((R.length : Int) - 1 + 1).toNat) (low7_drop hl _) (R.getD ((R.length : Int) - 1).toNat 0) (by omega)
    repeat' (first | refine a_f ?_ | refine st_nil ?_ | refine tri_seq ?_ | refine tri_region rfl ?_ | refine tri_scope ?_ | refine a_draw ?_ | (apply st_r rfl; case hq => first | exact q_call I1 (hcf := Tryz.call42) rfl rfl | exact a_q) | (apply st_rif rfl; (case hq => first | exact a_i); all_goals (intro _; try (exfalso; omega))) | (apply st_rw rfl rfl; case hq => first | exact a_store) | refine tri_true rfl ?_ | refine tri_false rfl ?_ | refine tri_block ?_ | refine tri_skip ?_ | refine tri_ret ?_ | refine tri_exit ?_)
    all_goals exact And.intro trivial rfl
theorem ibyte_iff (c : UInt8) : ∀ s : B, 0 ≤ Lib.indexByte s c ↔ s.contains c = true
  | [] => by simp [Lib.indexByte]
  | b :: l => by
    have ih := ibyte_iff c l
    have hge := Lib.indexByte_ge l c
    unfold Lib.indexByte
    by_cases hb : b = c
    · subst hb; simp
    · rw [if_neg (by simpa using hb)]
      rw [List.contains_cons, show (c == b) = false by simpa using Ne.symm hb, Bool.false_or, ← ih]
      split
      · rename_i h; simp only [beq_iff_eq] at h; omega
      · rename_i h; simp only [beq_iff_eq] at h; omega
theorem iany_none {s cs : B} : ∀ (h : ∀ j, j < s.length → cs.contains (s.getD j 0) = false), Lib.indexAny s cs = -1 := by
  induction s with
  | nil => intro _; rfl
  | cons b l ih =>
    intro h
    have h0 : cs.contains b = false := h 0 (by simp)
    rw [Lib.indexAny, h0, ih (fun j hj => h (j + 1) (by simpa using hj))]
    rfl
theorem iany_hit {cs : B} : ∀ (s : B) (i : Nat), i < s.length → (∀ j, j < i → cs.contains (s.getD j 0) = false) → cs.contains (s.getD i 0) = true → Lib.indexAny s cs = i
  | [], i, h, _, _ => by simp at h
  | b :: l, 0, _, _, hh => by
    have hh : cs.contains b = true := hh
    rw [Lib.indexAny, hh]; rfl
  | b :: l, i + 1, h, hb, hh => by
    have h0 : cs.contains b = false := hb 0 (by omega)
    have ih := iany_hit l i (by simpa using h) (fun j hj => hb (j + 1) (by omega)) hh
    rw [Lib.indexAny, h0, ih]
    simp
theorem low_contains {s : B} (hl : low7 s) {c : UInt8} (hc : ¬ c.toNat < 128) : s.contains c = false := by
  cases h : s.contains c with
  | false => rfl
  | true =>
    have := (ibyte_iff c s).2 h
    rw [idx_none hl hc] at this
    omega
set_option maxHeartbeats 4000000 in
/-- strings.IndexAny at two letters or more below 128 -/
theorem indexAny_c (s cs : B) (hs : s.length ≤ 100000000) (hcl : cs.length ≤ 1000) (h2 : 2 ≤ cs.length) (hl : low7 cs) : CPure gx 117 [.str s, .str cs] (.int .i64 (Lib.indexAny s cs)) := by
  by_cases h8 : 8 < s.length
  · exact cpure_val rfl rfl fun w _ => (Tryz.strings_IndexAny_long (zero_of_info (n := 256) (by kernel_rfl)).1 ⟨s.toArray⟩ ⟨cs.toArray⟩ w (by rw [sizeMk]; exact h2) (by rw [sizeMk]; exact h8) (by rw [sizeMk]; omega) (by rw [sizeMk]; omega) (fun j b hb => by
      have := hl j
      rw [List.getD_eq_getElem?_getD] at this
      rw [show cs[j]? = some b from hb] at this
      exact this)).mono fun e w' h => ⟨h.1, by
        rw [h.2]
        exact ((Below.refl _ w).alloc (Nat.le_refl _) _).alloc (by simp) _⟩
  refine cpure_of Tryz.func117 rfl (Nat.le_of_ble_eq_true rfl) rfl (fun w hw => ?_)
  have U1 : CPure gx 167 [.int .i64 (s.length : Int)] (.bool false) := by
    refine cpure_of Tryz.func167 rfl (Nat.le_of_ble_eq_true rfl) rfl (fun w hw => ?_)
    repeat' (first | refine a_f ?_ | refine st_nil ?_ | refine tri_seq ?_ | refine tri_region rfl ?_ | refine a_draw ?_ | (apply st_r rfl; case hq => first | exact a_q) | (apply st_rif rfl; (case hq => first | exact a_i); all_goals (intro _; try (exfalso; first | omega | contradiction))) | (apply st_rw rfl rfl; case hq => first | exact a_store) | refine tri_true rfl ?_ | refine tri_false rfl ?_ | refine tri_block ?_ | refine tri_skip ?_ | refine tri_ret ?_ | refine tri_exit ?_)
    exact And.intro trivial rfl
  have hne : cs ≠ [] := by rintro rfl; simp at h2
  repeat' (first | refine a_f ?_ | refine st_nil ?_ | refine tri_seq ?_ | refine tri_region rfl ?_ | refine a_draw ?_ | (apply st_r rfl; case hq => first | exact q_call U1 (hcf := Tryz.call167) rfl rfl | exact a_q) | (apply st_rif rfl; (case hq => first | exact a_i); all_goals (intro _; try (exfalso; first | omega | contradiction))) | (apply st_rw rfl rfl; case hq => first | exact w_range 101 (by conv => lhs; whnf) (by kernel_rfl) rfl rfl | exact a_store) | refine tri_true rfl ?_ | refine tri_false rfl ?_ | refine tri_block ?_ | refine tri_skip ?_ | refine tri_ret ?_ | refine tri_exit ?_)
  refine tri_loop (fun (p : Nat) => p ≤ s.length ∧ ∀ j, j < p → cs.contains (s.getD j 0) = false) (fun p => st [(0, .str s), (1, .str cs), (45, .ptr 101 0)] [(101, .iter s p)]) (fun p => s.length - p) 0 ⟨Nat.zero_le _, fun j hj => absurd hj (Nat.not_lt_zero j)⟩ ?hw (fun p hp => ?_)
  case hw => exact weak_st ⟨rfl, rfl, rfl, trivial⟩ ⟨rfl, trivial⟩
  obtain ⟨hp, hb⟩ := hp
  by_cases hpl : p < s.length
  · by_cases hc : (s.getD p 0).toNat < 128
    · obtain ⟨d1, d2⟩ := dec_one s p hpl hc
      have I1 := indexRune_lo cs (runeAt s p) (by omega)
      rw [d1, show ((s.getD p 0).toNat.toUInt8) = s.getD p 0 by simp, ← d1] at I1
      have hi := ibyte_iff (s.getD p 0) cs
      cases hct : cs.contains (s.getD p 0) <;> rw [hct] at hi
      · have hi' : ¬ 0 ≤ Lib.indexByte cs (s.getD p 0) := fun h => by simpa using hi.1 h
        clear hi
        repeat' (first | refine a_f ?_ | refine st_nil ?_ | refine tri_seq ?_ | refine tri_region rfl ?_ | refine a_draw ?_ | (apply st_r rfl; case hq => first | exact q_call I1 (hcf := Tryz.call160) rfl rfl | exact a_q) | (apply st_rif rfl; (case hq => first | exact a_i); all_goals (intro _; try (exfalso; first | omega | contradiction))) | (apply st_rw rfl rfl; case hq => first | exact w_next (by conv => lhs; whnf) (by conv => lhs; whnf; arg 1; whnf) (by omega) rfl | exact a_store) | refine tri_true rfl ?_ | refine tri_false rfl ?_ | refine tri_block ?_ | refine tri_skip ?_ | refine tri_ret ?_ | refine tri_exit ?_)
        exact nextR (p + runeLen s p) ⟨by omega, fun j hj => by
          rcases Nat.lt_or_ge j p with h | h
          · exact hb j h
          · have : j = p := by omega
            rw [this]; exact hct⟩ (weak_st ⟨rfl, rfl, rfl, trivial⟩ ⟨rfl, trivial⟩) (show s.length - (p + runeLen s p) < s.length - p by omega)
      · have hi' : 0 ≤ Lib.indexByte cs (s.getD p 0) := hi.2 rfl
        clear hi
        repeat' (first | refine a_f ?_ | refine st_nil ?_ | refine tri_seq ?_ | refine tri_region rfl ?_ | refine a_draw ?_ | (apply st_r rfl; case hq => first | exact q_call I1 (hcf := Tryz.call160) rfl rfl | exact a_q) | (apply st_rif rfl; (case hq => first | exact a_i); all_goals (intro _; try (exfalso; first | omega | contradiction))) | (apply st_rw rfl rfl; case hq => first | exact w_next (by conv => lhs; whnf) (by conv => lhs; whnf; arg 1; whnf) (by omega) rfl | exact a_store) | refine tri_true rfl ?_ | refine tri_false rfl ?_ | refine tri_block ?_ | refine tri_skip ?_ | refine tri_ret ?_ | refine tri_exit ?_)
        refine And.intro trivial ?_
        conv => lhs; whnf
        rw [iany_hit s p hpl hb hct]
    · obtain ⟨d1, d2, d3, d4, d5⟩ := dec_span s p hpl hc
      have I1 := indexRune_hi cs (by omega) hl (runeAt s p) d1 d2
      clear d2
      repeat' (first | refine a_f ?_ | refine st_nil ?_ | refine tri_seq ?_ | refine tri_region rfl ?_ | refine a_draw ?_ | (apply st_r rfl; case hq => first | exact q_call I1 (hcf := Tryz.call160) rfl rfl | exact a_q) | (apply st_rif rfl; (case hq => first | exact a_i); all_goals (intro _; try (exfalso; first | omega | contradiction))) | (apply st_rw rfl rfl; case hq => first | exact w_next (by conv => lhs; whnf) (by conv => lhs; whnf; arg 1; whnf) (by omega) rfl | exact a_store) | refine tri_true rfl ?_ | refine tri_false rfl ?_ | refine tri_block ?_ | refine tri_skip ?_ | refine tri_ret ?_ | refine tri_exit ?_)
      exact nextR (p + runeLen s p) ⟨by omega, fun j hj => by
          rcases Nat.lt_or_ge j p with h | h
          · exact hb j h
          · exact low_contains hl (d5 j h hj)⟩ (weak_st ⟨rfl, rfl, rfl, trivial⟩ ⟨rfl, trivial⟩) (show s.length - (p + runeLen s p) < s.length - p by omega)
  · repeat' (first | refine a_f ?_ | refine st_nil ?_ | refine tri_seq ?_ | refine tri_region rfl ?_ | refine a_draw ?_ | (apply st_r rfl; case hq => first | exact q_nextend (by conv => lhs; whnf) (by conv => lhs; whnf; arg 1; whnf) (by omega) | exact a_q) | (apply st_rif rfl; (case hq => first | exact a_i); all_goals (intro _; try (exfalso; first | omega | contradiction))) | (apply st_rw rfl rfl; case hq => first | exact a_store) | refine tri_true rfl ?_ | refine tri_false rfl ?_ | refine tri_block ?_ | refine tri_skip ?_ | refine tri_ret ?_ | refine tri_exit ?_)
    refine And.intro trivial ?_
    conv => lhs; whnf
    rw [iany_none (fun j hj => hb j (by omega))]
end Go.Proofs.YtignjjnflcpiiaaGreatDoor
