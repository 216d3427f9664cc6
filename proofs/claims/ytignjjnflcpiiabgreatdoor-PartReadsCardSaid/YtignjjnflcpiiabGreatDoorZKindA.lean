import Derived.Test.YtignjjnflcpiiabGreatDoorZSm
import Derived.Test.YtignjjnflcpiiabGreatDoorZVm4
set_option linter.unusedVariables false
set_option linter.unusedSimpArgs false
set_option maxHeartbeats 1000000
namespace Go.Proofs.YtignjjnflcpiiabGreatDoor
open Go.RowKit
attribute [local irreducible] Tri Steps Qd Wr Weak CPure CEff
set_option maxRecDepth 100000
def special : B := [40, 41, 60, 62, 64, 44, 59, 58, 92, 34, 47, 91, 93, 63, 61]
def tokP (x : Nat) : Bool := decide (x < 33) || (decide (126 < x) || decide (0 ≤ Lib.indexByte special x.toUInt8))
def tokC (c : UInt8) : Bool := !tokP c.toNat
def tokB (s : B) : Bool := s.all tokC && !s.isEmpty
theorem containsRune_c (s : B) (r : Nat) (h : r < 128) : CPure gx 102 [.str s, .int .i32 r] (.bool (decide (0 ≤ Lib.indexByte s r.toUInt8))) :=
  cpure_val rfl rfl fun w _ => (Tryz.strings_ContainsRune_ascii ⟨s.toArray⟩ (r : Int) w (by omega) (by omega)).mono fun e w' h => ⟨h.1, h.2 ▸ ext_refl w⟩
theorem tok1_c (x : Nat) (hx : x ≤ 1114111) : CPure gx 108 [.int .i32 x] (.bool (tokP x)) := by
  refine cpure_of Tryz.func108 rfl (Nat.le_of_ble_eq_true rfl) rfl (fun w hw => ?_)
  by_cases h1 : x < 33
  · repeat' (first | refine a_f ?_ | refine st_nil ?_ | refine tri_seq ?_ | refine tri_region rfl ?_ | refine a_draw ?_ | (apply st_r rfl; case hq => first | exact a_lens | exact a_index | exact a_add | exact a_adds0 | exact a_addsc | exact a_adds | exact a_sub | exact a_slo | exact a_shi | exact a_slh | exact a_lensl | exact a_lenro | exact a_lennil | exact a_lenpts | exact a_field | exact a_fielde | exact a_fieldr | exact a_idxsl | exact a_load | exact a_loada | exact a_mki | exact a_build2 | exact a_build3 | exact a_build1 | exact a_build0 | exact a_bs1 | exact a_bs2 | exact a_bs3 | exact a_bs4 | exact a_bsa | exact a_boxr) | (apply st_rif rfl; (case hq => first | exact a_lss | exact a_gtr | exact a_eql | exact a_neq | exact a_eqls0 | exact a_neqs0 | exact a_eqls | exact a_neqs | exact a_leq | exact a_geq); all_goals (intro _; try (exfalso; first | omega | contradiction))) | (apply st_rw rfl rfl; case hq => first | exact a_store) | refine tri_true rfl ?_ | refine tri_false rfl ?_ | refine tri_block ?_ | refine tri_skip ?_ | refine tri_ret ?_ | refine tri_exit ?_)
    refine And.intro trivial ?_
    conv => lhs; whnf
    simp [tokP, h1]
  by_cases h2 : 126 < x
  · repeat' (first | refine a_f ?_ | refine st_nil ?_ | refine tri_seq ?_ | refine tri_region rfl ?_ | refine a_draw ?_ | (apply st_r rfl; case hq => first | exact a_lens | exact a_index | exact a_add | exact a_adds0 | exact a_addsc | exact a_adds | exact a_sub | exact a_slo | exact a_shi | exact a_slh | exact a_lensl | exact a_lenro | exact a_lennil | exact a_lenpts | exact a_field | exact a_fielde | exact a_fieldr | exact a_idxsl | exact a_load | exact a_loada | exact a_mki | exact a_build2 | exact a_build3 | exact a_build1 | exact a_build0 | exact a_bs1 | exact a_bs2 | exact a_bs3 | exact a_bs4 | exact a_bsa | exact a_boxr) | (apply st_rif rfl; (case hq => first | exact a_lss | exact a_gtr | exact a_eql | exact a_neq | exact a_eqls0 | exact a_neqs0 | exact a_eqls | exact a_neqs | exact a_leq | exact a_geq); all_goals (intro _; try (exfalso; first | omega | contradiction))) | (apply st_rw rfl rfl; case hq => first | exact a_store) | refine tri_true rfl ?_ | refine tri_false rfl ?_ | refine tri_block ?_ | refine tri_skip ?_ | refine tri_ret ?_ | refine tri_exit ?_)
    refine And.intro trivial ?_
    conv => lhs; whnf
    simp [tokP, h2]
  have R1 := containsRune_c special x (by omega)
  repeat' (first | refine a_f ?_ | refine st_nil ?_ | refine tri_seq ?_ | refine tri_region rfl ?_ | refine a_draw ?_ | (apply st_r rfl; case hq => first | exact q_call R1 (hcf := Tryz.call102) rfl rfl | exact a_lens | exact a_index | exact a_add | exact a_adds0 | exact a_addsc | exact a_adds | exact a_sub | exact a_slo | exact a_shi | exact a_slh | exact a_lensl | exact a_lenro | exact a_lennil | exact a_lenpts | exact a_field | exact a_fielde | exact a_fieldr | exact a_idxsl | exact a_load | exact a_loada | exact a_mki | exact a_build2 | exact a_build3 | exact a_build1 | exact a_build0 | exact a_bs1 | exact a_bs2 | exact a_bs3 | exact a_bs4 | exact a_bsa | exact a_boxr) | (apply st_rif rfl; (case hq => first | exact a_lss | exact a_gtr | exact a_eql | exact a_neq | exact a_eqls0 | exact a_neqs0 | exact a_eqls | exact a_neqs | exact a_leq | exact a_geq); all_goals (intro _; try (exfalso; first | omega | contradiction))) | (apply st_rw rfl rfl; case hq => first | exact a_store) | refine tri_true rfl ?_ | refine tri_false rfl ?_ | refine tri_block ?_ | refine tri_skip ?_ | refine tri_ret ?_ | refine tri_exit ?_)
  refine And.intro trivial ?_
  conv => lhs; whnf
  simp [tokP, h1, h2]
theorem decode_lo (s : B) (p : Nat) (h : p < s.length) (ha : (s[p]).toNat < 128) : Utf8.decode ⟨s.toArray⟩ p = ((s[p]).toNat, 1) := by
  have := decode_ascii ⟨s.toArray⟩ p (by rw [sizeMk]; exact h) (by exact ha)
  exact this
theorem decode_hi (s : ByteArray) (p : Nat) (h : ¬ (s.get! (p + 0)).toNat < 128) : 128 ≤ (Utf8.decode s p).1 := by
  unfold Utf8.decode
  simp only [Utf8.runeError]
  rw [if_neg h]
  repeat' split
  all_goals first
    | (simp only [ge_iff_le, Bool.and_eq_true, decide_eq_true_eq] at *; omega)
    | decide
theorem idxFrom_any {p : Nat → Bool} (hp : ∀ r, 128 ≤ r → p r = true) (s : B) : ∀ (f pos : Nat), s.length ≤ f + pos → decide (0 ≤ Lib.idxFuncFrom p true ⟨s.toArray⟩ f pos) = (s.drop pos).any (fun c => p c.toNat)
  | 0, pos, h => by
    rw [List.drop_eq_nil_of_le (by omega)]
    rfl
  | f + 1, pos, h => by
    by_cases hlt : pos < s.length
    · have hd : s.drop pos = s[pos] :: s.drop (pos + 1) := List.drop_eq_getElem_cons hlt
      rw [hd, List.any_cons]
      unfold Lib.idxFuncFrom
      rw [if_pos (by rw [sizeMk]; exact hlt)]
      by_cases ha : (s[pos]).toNat < 128
      · rw [decode_lo s pos hlt ha]
        cases hpc : p (s[pos]).toNat with
        | true => simp
        | false =>
          simp only [Bool.false_eq_true, if_false, Bool.false_or]
          exact idxFrom_any hp s f (pos + 1) (by omega)
      · have hb : ¬ ((⟨s.toArray⟩ : ByteArray).get! (pos + 0)).toNat < 128 := by
          have e : (⟨s.toArray⟩ : ByteArray).get! (pos + 0) = s[pos] := by simp [ByteArray.get!, hlt]
          rw [e]; exact ha
        rw [hp _ (decode_hi _ _ hb), hp _ (by omega)]
        simp
    · rw [List.drop_eq_nil_of_le (by omega)]
      unfold Lib.idxFuncFrom
      rw [if_neg (by rw [sizeMk]; exact hlt)]
      rfl
theorem idx_any {p : Nat → Bool} (hp : ∀ r, 128 ≤ r → p r = true) (s : B) : decide (0 ≤ Lib.idxFunc p true ⟨s.toArray⟩) = s.any (fun c => p c.toNat) := by
  have := idxFrom_any hp s (⟨s.toArray⟩ : ByteArray).size 0 (by rw [sizeMk]; omega)
  rw [List.drop_zero] at this
  exact this
theorem containsFunc_c {g : FuncId} {p : Nat → Bool} (s : B) (eg : ∀ args w, (callFunc g args).run Tryz.prog w = .ok (.enter g args) w) (hp : ∀ x : Nat, x ≤ 1114111 → CPure gx g [.int .i32 x] (.bool (p x))) (hh : ∀ r, 128 ≤ r → p r = true) : CPure gx 107 [.str s, .clo g []] (.bool (s.any (fun c => p c.toNat))) := by
  unfold CPure
  intro w vs hG hn hl hr
  obtain ⟨v0, v1, rfl⟩ : ∃ a b, vs = [a, b] := by
    match vs, hl with
    | [a, b], _ => exact ⟨a, b, rfl⟩
  have h0 := Rep.str_inv (hr 0 (by simp) (by simp))
  obtain ⟨xs, h1, hxl, _⟩ := Rep.clo_inv (hr 1 (by simp) (by simp))
  have : xs = [] := List.eq_nil_of_length_eq_zero hxl
  subst this
  simp only [List.getElem_cons_zero, List.getElem_cons_succ] at h0 h1
  subst h0 h1
  have hg : PredGrows Tryz.prog g #[] p w := by
    intro W x hx hb
    have hc := hp x hx
    unfold CPure at hc
    have := hc W [.int .i32 x] (gx.hG w W hG (fun k hk => hb.block k (by have : gx.nG ≤ w.heap.size := hn; omega))) (Nat.le_trans hn hb.size) rfl (fun i hi hi' => by
      match i, hi with
      | 0, _ => exact .int _ _ _)
    refine this.mono ?_
    rintro e w' ⟨v, rfl, h2, h3⟩
    rw [h3.bool_inv]
    exact ⟨rfl, h2⟩
  refine (Tryz.strings_ContainsFunc_grows g #[] eg p ⟨s.toArray⟩ w hg).mono ?_
  rintro e w' ⟨rfl, h2⟩
  rw [idx_any hh s]
  exact ⟨_, rfl, h2, .bool _ _⟩
theorem tokP_hi (r : Nat) (h : 128 ≤ r) : tokP r = true := by simp [tokP]; omega
theorem any_tokP (s : B) : s.any (fun c => tokP c.toNat) = !s.all tokC := by
  induction s with
  | nil => rfl
  | cons c s ih => simp [tokC, ih, List.any_cons, List.all_cons]
theorem token_c (s : B) : CPure gx 78 [.str s] (.bool (tokB s)) := by
  refine cpure_of Tryz.func78 rfl (Nat.le_of_ble_eq_true rfl) rfl (fun w hw => ?_)
  have F1 := containsFunc_c (g := 108) s Tryz.call108 tok1_c tokP_hi
  rw [any_tokP] at F1
  cases ha : s.all tokC <;> rw [ha] at F1
  all_goals
    repeat' (first | refine a_f ?_ | refine st_nil ?_ | refine tri_seq ?_ | refine tri_region rfl ?_ | refine a_draw ?_ | (apply st_r rfl; case hq => first | exact q_call F1 (hcf := Tryz.call107) rfl rfl | exact a_lens | exact a_index | exact a_add | exact a_adds0 | exact a_addsc | exact a_adds | exact a_sub | exact a_slo | exact a_shi | exact a_slh | exact a_lensl | exact a_lenro | exact a_lennil | exact a_lenpts | exact a_field | exact a_fielde | exact a_fieldr | exact a_idxsl | exact a_load | exact a_loada | exact a_mki | exact a_build2 | exact a_build3 | exact a_build1 | exact a_build0 | exact a_bs1 | exact a_bs2 | exact a_bs3 | exact a_bs4 | exact a_bsa | exact a_boxr) | (apply st_rif rfl; (case hq => first | exact a_lss | exact a_gtr | exact a_eql | exact a_neq | exact a_eqls0 | exact a_neqs0 | exact a_eqls | exact a_neqs | exact a_leq | exact a_geq); all_goals (intro _; try (exfalso; first | omega | contradiction))) | (apply st_rw rfl rfl; case hq => first | exact a_store) | refine tri_true rfl ?_ | refine tri_false rfl ?_ | refine tri_block ?_ | refine tri_skip ?_ | refine tri_ret ?_ | refine tri_exit ?_)
  all_goals
    refine And.intro trivial ?_
    conv => lhs; whnf
    rw [tokB, ha]
    first | rfl | (rw [isE_f ‹_›]; rfl) | (rw [isE_t ‹_›]; rfl)
theorem indexByteS_c (s : B) (c : UInt8) : CPure gx 61 [.str s, .int .u8 c.toNat] (.int .i64 (Lib.indexByte s c.toNat.toUInt8)) := indexByte_c s c.toNat
set_option maxHeartbeats 1000000 in
theorem rtoken_c (s : B) (hs : s.length ≤ 1000000) : CPure gx 92 [.str s] (.bool (tokB s)) := by
  refine cpure_of Tryz.func92 rfl (Nat.le_of_ble_eq_true rfl) rfl (fun w hw => ?_)
  repeat' (first | refine a_f ?_ | refine st_nil ?_ | refine tri_seq ?_ | refine tri_region rfl ?_ | refine a_draw ?_ | (apply st_r rfl; case hq => first | exact a_lens | exact a_index | exact a_add | exact a_adds0 | exact a_addsc | exact a_adds | exact a_sub | exact a_slo | exact a_shi | exact a_slh | exact a_lensl | exact a_lenro | exact a_lennil | exact a_lenpts | exact a_field | exact a_fielde | exact a_fieldr | exact a_idxsl | exact a_load | exact a_loada | exact a_mki | exact a_build2 | exact a_build3 | exact a_build1 | exact a_build0 | exact a_bs1 | exact a_bs2 | exact a_bs3 | exact a_bs4 | exact a_bsa | exact a_boxr) | (apply st_rif rfl; (case hq => first | exact a_lss | exact a_gtr | exact a_eql | exact a_neq | exact a_eqls0 | exact a_neqs0 | exact a_eqls | exact a_neqs | exact a_leq | exact a_geq); all_goals (intro _; try (exfalso; first | omega | contradiction))) | (apply st_rw rfl rfl; case hq => first | exact a_store) | refine tri_true rfl ?_ | refine tri_false rfl ?_ | refine tri_block ?_ | refine tri_skip ?_ | refine tri_ret ?_ | refine tri_exit ?_)
  refine tri_loop (fun (i : Nat) => i ≤ s.length ∧ ∀ j, j < i → tokC (s.getD j 0) = true) (fun i => st [(0, .str s), (2, .bool false), (5, .int .i64 s.length), (6, .int .i64 i)] []) (fun i => s.length - i) 0 ⟨Nat.zero_le _, fun j hj => absurd hj (Nat.not_lt_zero j)⟩ ?hw (fun i hi => ?_)
  case hw => exact weak_st ⟨rfl, rfl, rfl, rfl, trivial⟩ trivial
  obtain ⟨hi, hg⟩ := hi
  by_cases hil : i < s.length
  · have I1 := indexByteS_c special (s.getD (i : Int).toNat 0)
    have E1 := in_c ((s.getD (i : Int).toNat 0).toNat : Int) 33 126
    have hc : tokC (s.getD (i : Int).toNat 0) = (decide ((33 : Int) ≤ ((s.getD (i : Int).toNat 0).toNat : Int) ∧ ((s.getD (i : Int).toNat 0).toNat : Int) ≤ 126) && !decide (0 ≤ Lib.indexByte special (s.getD (i : Int).toNat 0).toNat.toUInt8)) := by
      generalize s.getD (i : Int).toNat 0 = c
      simp only [tokC, tokP]
      rw [Bool.eq_iff_iff]
      simp only [Bool.not_eq_true', Bool.or_eq_false_iff, decide_eq_false_iff_not, Bool.and_eq_true, decide_eq_true_eq]
      omega
    have hgs := good_step hg (i := i)
    have hab := fun (h : tokC (s.getD (i : Int).toNat 0) = false) => all_bad (p := tokC) (s := s) (i := i) (by omega) h
    cases hd : decide ((33 : Int) ≤ ((s.getD (i : Int).toNat 0).toNat : Int) ∧ ((s.getD (i : Int).toNat 0).toNat : Int) ≤ 126) <;> rw [hd] at E1 hc
    all_goals
      repeat' (first | refine a_f ?_ | refine st_nil ?_ | refine tri_seq ?_ | refine tri_region rfl ?_ | refine a_draw ?_ | (apply st_r rfl; case hq => first | exact q_index' (by conv => lhs; whnf) (by conv => lhs; whnf) (by kernel_rfl) (by omega) (by omega) | exact q_convint (by conv => lhs; whnf) (by kernel_rfl) (by kernel_rfl) (wrap_u8 _) | exact q_call E1 (hcf := Tryz.call35) rfl rfl | exact q_call I1 (hcf := Tryz.call61) rfl rfl | exact a_lens | exact a_index | exact a_add | exact a_adds0 | exact a_addsc | exact a_adds | exact a_sub | exact a_slo | exact a_shi | exact a_slh | exact a_lensl | exact a_lenro | exact a_lennil | exact a_lenpts | exact a_field | exact a_fielde | exact a_fieldr | exact a_idxsl | exact a_load | exact a_loada | exact a_mki | exact a_build2 | exact a_build3 | exact a_build1 | exact a_build0 | exact a_bs1 | exact a_bs2 | exact a_bs3 | exact a_bs4 | exact a_bsa | exact a_boxr) | (apply st_rif rfl; (case hq => first | exact a_lss | exact a_gtr | exact a_eql | exact a_neq | exact a_eqls0 | exact a_neqs0 | exact a_eqls | exact a_neqs | exact a_leq | exact a_geq); all_goals (intro _; try (exfalso; first | omega | contradiction))) | (apply st_rw rfl rfl; case hq => first | exact a_store) | refine tri_true rfl ?_ | refine tri_false rfl ?_ | refine tri_block ?_ | refine tri_skip ?_ | refine tri_ret ?_ | refine tri_exit ?_)
    all_goals first
      | (refine And.intro trivial ?_
         conv => lhs; whnf
         rw [tokB, hab (by first | exact hc | (rw [hc, decide_eq_true ‹_›]; rfl))]
         rfl)
      | exact nextR (i + 1) ⟨by omega, hgs (by rw [hc, decide_eq_false ‹_›]; rfl)⟩ (weak_st ⟨rfl, rfl, rfl, rfl, trivial⟩ trivial) (show s.length - (i + 1) < s.length - i by omega)
  · repeat' (first | refine a_f ?_ | refine st_nil ?_ | refine tri_seq ?_ | refine tri_region rfl ?_ | refine a_draw ?_ | (apply st_r rfl; case hq => first | exact a_lens | exact a_index | exact a_add | exact a_adds0 | exact a_addsc | exact a_adds | exact a_sub | exact a_slo | exact a_shi | exact a_slh | exact a_lensl | exact a_lenro | exact a_lennil | exact a_lenpts | exact a_field | exact a_fielde | exact a_fieldr | exact a_idxsl | exact a_load | exact a_loada | exact a_mki | exact a_build2 | exact a_build3 | exact a_build1 | exact a_build0 | exact a_bs1 | exact a_bs2 | exact a_bs3 | exact a_bs4 | exact a_bsa | exact a_boxr) | (apply st_rif rfl; (case hq => first | exact a_lss | exact a_gtr | exact a_eql | exact a_neq | exact a_eqls0 | exact a_neqs0 | exact a_eqls | exact a_neqs | exact a_leq | exact a_geq); all_goals (intro _; try (exfalso; first | omega | contradiction))) | (apply st_rw rfl rfl; case hq => first | exact a_store) | refine tri_true rfl ?_ | refine tri_false rfl ?_ | refine tri_block ?_ | refine tri_skip ?_ | refine tri_ret ?_ | refine tri_exit ?_)
    all_goals
      refine And.intro trivial ?_
      conv => lhs; whnf
      rw [tokB, all_good (by omega) hg]
      first | (rw [isE_f ‹_›]; rfl) | (rw [isE_t ‹_›]; rfl)
end Go.Proofs.YtignjjnflcpiiabGreatDoor
