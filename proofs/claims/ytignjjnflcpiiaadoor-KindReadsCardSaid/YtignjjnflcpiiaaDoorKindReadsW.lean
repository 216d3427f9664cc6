/- KindReads: the law is true wherever it is called. -/
import Derived.Test.YtignjjnflcpiiaaDoorKindF
set_option linter.unusedVariables false
set_option linter.unusedSimpArgs false
namespace Go.Proofs.YtignjjnflcpiiaaDoor
open Go.RowKit
attribute [local irreducible] Tri Steps Qd Wr Weak CPure CEff
set_option maxRecDepth 100000

theorem parsGo_fits {K : Nat} : ∀ (m : Nat) (s : B), s.length ≤ m → ∀ (out l : Fs), out.length + s.length ≤ K → (∀ f ∈ out, f.1.length ≤ K ∧ f.2.length ≤ K) → parsGo tokC blk lowC out s = some l → l.length ≤ K ∧ ∀ f ∈ l, f.1.length ≤ K ∧ f.2.length ≤ K
  | m, [], _, out, l, h1, h2, h => by
    rw [parsGo_nil] at h
    cases h
    exact ⟨by simpa using h1, h2⟩
  | 0, c :: r, hm, _, _, _, _, _ => absurd hm (by simp)
  | m + 1, c :: r, hm, out, l, h1, h2, h => by
    cases hp : parR tokC blk r with
    | none => rw [parsGo_none tokC blk lowC hp] at h; cases h
    | some q =>
      obtain ⟨⟨n, v⟩, r'⟩ := q
      rw [parsGo_some tokC blk lowC hp] at h
      obtain ⟨a1, a2, a3, _⟩ := parR_len hp
      simp only [List.length_cons] at hm h1
      refine parsGo_fits m r' (by omega) _ l (by simp only [List.length_append, List.length_cons, List.length_nil]; omega) (fun f hf => ?_) h
      rcases List.mem_append.1 hf with hf | hf
      · exact h2 f hf
      · rw [List.mem_singleton.1 hf]
        exact ⟨by simp only [List.length_map]; omega, by simp only; omega⟩
theorem readK_small {s m : B} {l : Fs} (h : readK tokC blk lowC s = some (m, l)) (hs : s.length ≤ 1000000) : Small l ∧ m.length ≤ s.length := by
  unfold readK at h
  split at h
  · split at h
    · cases h
    · rename_i l' hl
      cases h
      have hr := restOf_len s
      obtain ⟨h1, h2⟩ := parsGo_fits (K := s.length) _ _ (Nat.le_refl _) [] l (by simpa using hr) (fun f hf => by cases hf) hl
      refine ⟨⟨by omega, fun f hf => ⟨Nat.le_trans (h2 f hf).1 hs, Nat.le_trans (h2 f hf).2 hs⟩⟩, ?_⟩
      unfold mainOf
      rw [List.length_map]
      exact Nat.le_trans (trimB_len _) (List.takeWhile_sublist _).length_le
  · cases h
def kL : Option (B × Fs) → Fs
  | some (_, l) => l
  | none => []
def kM : Option (B × Fs) → B
  | some (m, _) => m
  | none => []
def kE : Option (B × Fs) → Int
  | some _ => 0
  | none => 3
def kErr : Option (B × Fs) → AV
  | some _ => .nili
  | none => .iface 46 (.int .i64 3)
theorem kread_c' (s : B) (hs : s.length ≤ 1000000) : CPure gx 35 [.str s] (.tup [.str (kM (readK tokC blk lowC s)), .ro true 2 (fieldRows (kL (readK tokC blk lowC s))), kErr (readK tokC blk lowC s)]) := by
  refine (kread_c s hs).up ?_
  cases readK tokC blk lowC s with
  | some p => exact .refl _
  | none => exact .tup (.cons (.refl _) (.cons (.nil true 2) (.cons (.refl _) .nil)))
theorem rkread_c' (s : B) (hs : s.length ≤ 1000000) : CPure gx 34 [.str s] (.tup [.str (kM (readK tokC blk lowC s)), .ro true 2 (fieldRows (kL (readK tokC blk lowC s))), .int .i64 (kE (readK tokC blk lowC s))]) := by
  refine (rkread_c s hs).up ?_
  cases readK tokC blk lowC s with
  | some p => exact .refl _
  | none => exact .tup (.cons (.refl _) (.cons (.nil true 2) (.cons (.refl _) .nil)))
theorem kL_small (s : B) (hs : s.length ≤ 1000000) : Small (kL (readK tokC blk lowC s)) := by
  cases h : readK tokC blk lowC s with
  | none => exact ⟨by simp [kL], fun f hf => by cases hf⟩
  | some p => exact (readK_small (m := p.1) (l := p.2) h hs).1
set_option maxHeartbeats 4000000 in
theorem kindReads_c (s name : B) (hs : s.length ≤ 140737488351232) (hn : name.length ≤ 140737488351232) : CPure gxe 7 [.str s, .str name] (.bool true) := by
  refine cpure_of Tryd.func7 rfl (Nat.le_of_ble_eq_true rfl) rfl (fun w hw => ?_)
  by_cases h5 : 500 < s.length
  · repeat' (first | refine a_f ?_ | refine st_nil ?_ | refine tri_seq ?_ | refine tri_region rfl ?_ | refine a_draw ?_ | (apply st_r rfl; case hq => first | exact a_lens | exact a_index | exact a_add | exact a_adds0 | exact a_addsc | exact a_adds | exact a_sub | exact a_slo | exact a_shi | exact a_slh | exact a_lensl | exact a_lenro | exact a_lennil | exact a_lenpts | exact a_field | exact a_fielde | exact a_fieldr | exact a_idxsl | exact a_load | exact a_loada | exact a_mki | exact a_build2 | exact a_build3 | exact a_build1 | exact a_build0 | exact a_bs1 | exact a_bs2 | exact a_bs3 | exact a_bs4 | exact a_bsa | exact a_boxr) | (apply st_rif rfl; (case hq => first | exact a_lss | exact a_gtr | exact a_eql | exact a_neq | exact a_eqls0 | exact a_neqs0 | exact a_eqls | exact a_neqs | exact a_leq | exact a_geq); all_goals (intro _; try (exfalso; first | omega | contradiction))) | (apply st_rw rfl rfl; case hq => first | exact a_store) | refine tri_true rfl ?_ | refine tri_false rfl ?_ | refine tri_block ?_ | refine tri_skip ?_ | refine tri_ret ?_ | refine tri_exit ?_)
    refine And.intro trivial ?_
    conv => lhs; whnf
  by_cases h1 : 100 < name.length
  · repeat' (first | refine a_f ?_ | refine st_nil ?_ | refine tri_seq ?_ | refine tri_region rfl ?_ | refine a_draw ?_ | (apply st_r rfl; case hq => first | exact a_lens | exact a_index | exact a_add | exact a_adds0 | exact a_addsc | exact a_adds | exact a_sub | exact a_slo | exact a_shi | exact a_slh | exact a_lensl | exact a_lenro | exact a_lennil | exact a_lenpts | exact a_field | exact a_fielde | exact a_fieldr | exact a_idxsl | exact a_load | exact a_loada | exact a_mki | exact a_build2 | exact a_build3 | exact a_build1 | exact a_build0 | exact a_bs1 | exact a_bs2 | exact a_bs3 | exact a_bs4 | exact a_bsa | exact a_boxr) | (apply st_rif rfl; (case hq => first | exact a_lss | exact a_gtr | exact a_eql | exact a_neq | exact a_eqls0 | exact a_neqs0 | exact a_eqls | exact a_neqs | exact a_leq | exact a_geq); all_goals (intro _; try (exfalso; first | omega | contradiction))) | (apply st_rw rfl rfl; case hq => first | exact a_store) | refine tri_true rfl ?_ | refine tri_false rfl ?_ | refine tri_block ?_ | refine tri_skip ?_ | refine tri_ret ?_ | refine tri_exit ?_)
    refine And.intro trivial ?_
    conv => lhs; whnf
  have R1 := (rkread_c' s (by omega)).e
  have R2 := (kread_c' s (by omega)).e
  have hl := kL_small s (by omega)
  have hbe : CPure gxe 38 [kErr (readK tokC blk lowC s), .int .i64 (kE (readK tokC blk lowC s))] (.bool true) := by
    cases readK tokC blk lowC s with
    | some p =>
      have h : CPure gxe 38 [.nili, .int .i64 0] (.bool true) := by have := bare_nil_c 0; simpa using this
      exact h
    | none =>
      have h : CPure gxe 38 [.iface 46 (.int .i64 3), .int .i64 3] (.bool true) := by have := bare_no_c 3 3; simpa using this
      exact h
  have hfr : (kErr (readK tokC blk lowC s)).allFr = true := by cases readK tokC blk lowC s <;> rfl
  have hfz : ∀ H fr, (kErr (readK tokC blk lowC s)).fz H fr = kErr (readK tokC blk lowC s) := fun H fr => by cases readK tokC blk lowC s <;> rfl
  generalize kM (readK tokC blk lowC s) = m at R1 R2
  generalize kE (readK tokC blk lowC s) = e at R1 hbe
  generalize kL (readK tokC blk lowC s) = l at R1 R2 hl
  have G1 := (rpget_c l name hl).e
  have G2 := (pget_c l name hl).e
  have S1 := (sameP_c l l hl.len hl.len).e
  rw [decide_eq_true rfl] at S1
  cases ho : readK tokC blk lowC s <;> rw [ho] at R2 hbe
  all_goals
    cases hg : l.find? (fun f => decide (f.1 = name))
  all_goals
    rw [getP, hg] at G1 G2
    simp only at G1 G2
    clear hfr hfz
    simp only [kErr] at R2 hbe
    repeat' (first | refine a_f ?_ | refine st_nil ?_ | refine tri_seq ?_ | refine tri_region rfl ?_ | refine a_draw ?_ | (apply st_r rfl; case hq => first | exact q_call R1 (hcf := Tryd.call34) rfl rfl | exact q_call R2 (hcf := Tryd.call35) rfl rfl | exact q_call G1 (hcf := Tryd.call36) rfl rfl | exact q_call G2 (hcf := Tryd.call37) rfl rfl | exact q_call S1 (hcf := Tryd.call39) rfl rfl | exact q_call hbe (hcf := Tryd.call38) rfl rfl | exact q_eqlb (by conv => lhs; whnf) (by conv => lhs; whnf) (by kernel_rfl) | exact a_lens | exact a_index | exact a_add | exact a_adds0 | exact a_addsc | exact a_adds | exact a_sub | exact a_slo | exact a_shi | exact a_slh | exact a_lensl | exact a_lenro | exact a_lennil | exact a_lenpts | exact a_field | exact a_fielde | exact a_fieldr | exact a_idxsl | exact a_load | exact a_loada | exact a_mki | exact a_build2 | exact a_build3 | exact a_build1 | exact a_build0 | exact a_bs1 | exact a_bs2 | exact a_bs3 | exact a_bs4 | exact a_bsa | exact a_boxr) | (apply st_rif rfl; (case hq => first | exact a_lss | exact a_gtr | exact a_eql | exact a_neq | exact a_eqls0 | exact a_neqs0 | exact a_eqls | exact a_neqs | exact a_leq | exact a_geq); all_goals (intro _; try (exfalso; first | omega | contradiction))) | (apply st_rw rfl rfl; case hq => first | exact a_store) | refine tri_true rfl ?_ | refine tri_false rfl ?_ | refine tri_block ?_ | refine tri_skip ?_ | refine tri_ret ?_ | refine tri_exit ?_)
  all_goals
    refine And.intro trivial ?_
    conv => lhs; whnf
    try rfl
end Go.Proofs.YtignjjnflcpiiaaDoor
