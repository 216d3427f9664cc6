/- HeadReads: the law is true wherever it is called. -/
import Derived.Test.YtignjjnflcpiiaaDoorHeadG
set_option linter.unusedVariables false
set_option linter.unusedSimpArgs false
namespace Go.Proofs.YtignjjnflcpiiaaDoor
open Go.RowKit
attribute [local irreducible] Tri Steps Qd Wr Weak CPure CEff
set_option maxRecDepth 100000

def HRes.fs : HRes → Fs | .ok l _ => l | .bad _ => []
def HRes.rest : HRes → B | .ok _ r => r | .bad _ => []
def HRes.err (fr : Bool) : HRes → AV | .ok _ _ => .nili | .bad n => .iface 81 (.rptr fr [.int .i64 3, .int .i64 n])
def HRes.e : HRes → Int | .ok _ _ => 0 | .bad _ => 3
def HRes.p : HRes → Int | .ok _ _ => -1 | .bad n => n
def CRes.fs : CRes → Fs | .ok l => l | .bad _ => []
def CRes.err (fr : Bool) : CRes → AV | .ok _ => .nili | .bad n => .iface 81 (.rptr fr [.int .i64 1, .int .i64 n])
def CRes.e : CRes → Int | .ok _ => 0 | .bad _ => 1
def CRes.p : CRes → Int | .ok _ => -1 | .bad n => n
theorem read_c' (s : B) (hs : s.length ≤ 1000000) : CPure gx 19 [.str s] (.tup [.ro true 2 (fieldRows (readH s).fs), .str (readH s).rest, (readH s).err true]) := by
  refine (read_c s hs).up ?_
  cases readH s with
  | ok l r => exact .refl _
  | bad n => exact .tup (.cons (.nil true 2) (.cons (.refl _) (.cons (.refl _) .nil)))
theorem rread_c' (s : B) (hs : s.length ≤ 1000000) : CPure gx 25 [.str s] (.tup [.ro true 2 (fieldRows (readH s).fs), .str (readH s).rest, .agg [.int .i64 (readH s).e, .int .i64 (readH s).p]]) := by
  refine (rread_c s hs).up ?_
  cases readH s with
  | ok l r => exact .refl _
  | bad n => exact .tup (.cons (.nil true 2) (.cons (.refl _) (.cons (.refl _) .nil)))
theorem clean_c' (l : Fs) (hl : Small l) : CPure gx 20 [.ro false 2 (fieldRows l)] (.tup [.ro true 2 (fieldRows (cleanF l).fs), (cleanF l).err true]) := by
  refine (clean_c l hl).up ?_
  cases cleanF l with
  | ok l => exact .refl _
  | bad n => exact .tup (.cons (.nil true 2) (.cons (.refl _) .nil))
theorem rclean_c' (l : Fs) (hl : Small l) : CPure gx 28 [.ro false 2 (fieldRows l)] (.tup [.ro true 2 (fieldRows (cleanF l).fs), .agg [.int .i64 (cleanF l).e, .int .i64 (cleanF l).p]]) := by
  refine (rclean_c l hl).up ?_
  cases cleanF l with
  | ok l => exact .refl _
  | bad n => exact .tup (.cons (.nil true 2) (.cons (.refl _) .nil))
theorem is_h (h : HRes) : CPure gxe 26 [h.err false, .agg [.int .i64 h.e, .int .i64 h.p]] (.bool true) := by
  cases h with
  | ok l r => exact is_nil_c 0 (-1)
  | bad n =>
    have := is_at_c false 3 n 3 n
    simp only [beq_self_eq_true, Bool.and_self] at this
    exact this
theorem is_cl (h : CRes) : CPure gxe 26 [h.err false, .agg [.int .i64 h.e, .int .i64 h.p]] (.bool true) := by
  cases h with
  | ok l => exact is_nil_c 0 (-1)
  | bad n =>
    have := is_at_c false 1 n 1 n
    simp only [beq_self_eq_true, Bool.and_self] at this
    exact this
def Fits (K : Nat) (l : Fs) : Prop := l.length ≤ K ∧ ∀ f ∈ l, f.1.length ≤ K ∧ f.2.length ≤ K
theorem Fits.small {K : Nat} {l : Fs} (h : Fits K l) (hK : K ≤ 1000000) : Small l := ⟨Nat.le_trans h.1 hK, fun f hf => ⟨Nat.le_trans (h.2 f hf).1 hK, Nat.le_trans (h.2 f hf).2 hK⟩⟩
theorem readGo_fits {K : Nat} : ∀ (m : Nat) (out : Fs) (n : Nat) (s : B), s.length ≤ m → out.length + s.length ≤ K → (∀ f ∈ out, f.1.length ≤ K ∧ f.2.length + s.length ≤ K) → Fits K (readGo out n s).fs ∧ (readGo out n s).rest.length ≤ K := by
  intro m
  induction m with
  | zero =>
    intro out n s hm ho hf
    have : s = [] := List.eq_nil_of_length_eq_zero (by omega)
    subst this
    rw [readGo_nil]
    exact ⟨⟨by show out.length ≤ K; simpa using ho, fun f hfm => ⟨(hf f hfm).1, by have := (hf f hfm).2; omega⟩⟩, Nat.zero_le _⟩
  | succ m ih =>
    intro out n s hm ho hf
    by_cases hs : s = []
    · subst hs
      rw [readGo_nil]
      exact ⟨⟨by show out.length ≤ K; simpa using ho, fun f hfm => ⟨(hf f hfm).1, by have := (hf f hfm).2; omega⟩⟩, Nat.zero_le _⟩
    · have hsum := cut_sum s [13, 10]
      have hlt := cut_lt (sep := [13, 10]) hs (by simp)
      by_cases h1 : (Lib.cut s [13, 10]).1 = []
      · rw [readGo_end hs h1]
        exact ⟨⟨by show out.length ≤ K; omega, fun f hfm => ⟨(hf f hfm).1, by have := (hf f hfm).2; omega⟩⟩, by show (Lib.cut s [13, 10]).2.1.length ≤ K; omega⟩
      · cases h2 : readStep out (Lib.cut s [13, 10]).1 with
        | none =>
          rw [readGo_bad hs h1 h2]
          exact ⟨⟨Nat.zero_le _, fun f hf => by cases hf⟩, Nat.zero_le _⟩
        | some o =>
          rw [readGo_go hs h1 h2]
          have hst : o.length ≤ out.length + 1 ∧ ∀ f ∈ o, f.1.length ≤ K ∧ f.2.length + (Lib.cut s [13, 10]).2.1.length ≤ K := by
            unfold readStep at h2
            split at h2
            · split at h2
              · cases h2
              · cases h2
                refine ⟨by simp, fun f hfm => ?_⟩
                rcases List.mem_or_eq_of_mem_set hfm with h | h
                · have := hf f h; omega
                · subst h
                  have := hf _ (lastF_mem ‹_›)
                  simp only [List.length_append]; omega
            · split at h2
              · cases h2
                refine ⟨by simp, fun f hfm => ?_⟩
                rcases List.mem_append.1 hfm with h | h
                · have := hf f h; omega
                · simp only [List.mem_singleton] at h
                  subst h
                  have := cut_sum (Lib.cut s [13, 10]).1 [58]
                  simp only
                  omega
              · cases h2
          exact ih o (n + 1) _ (by omega) (by have := List.length_pos_iff.2 h1; omega) hst.2
theorem readH_fits (s : B) : Fits s.length (readH s).fs ∧ (readH s).rest.length ≤ s.length := readGo_fits s.length [] 0 s (Nat.le_refl _) (by simp) (fun f hf => by cases hf)
theorem cleanGo_fits {K : Nat} : ∀ (l : Fs) (n : Nat) (out : Fs), out.length + l.length ≤ K → (∀ f ∈ l, f.1.length ≤ K ∧ f.2.length ≤ K) → (∀ f ∈ out, f.1.length ≤ K ∧ f.2.length ≤ K) → Fits K (cleanGo n out l).fs
  | [], n, out, h, hl, ho => ⟨by show out.length ≤ K; simpa using h, ho⟩
  | f :: r, n, out, h, hl, ho => by
    rw [cleanGo]
    cases valueB (trimB f.2) with
    | false => exact ⟨Nat.zero_le _, fun f hf => by cases hf⟩
    | true =>
      refine cleanGo_fits r (n + 1) _ (by simp at h ⊢; omega) (fun g hg => hl g (List.mem_cons_of_mem _ hg)) (fun g hg => ?_)
      rcases List.mem_append.1 hg with h' | h'
      · exact ho g h'
      · simp only [List.mem_singleton] at h'
        subst h'
        exact ⟨(hl f (List.mem_cons_self)).1, Nat.le_trans (trimB_len _) (hl f (List.mem_cons_self)).2⟩
theorem cleanF_fits {K : Nat} {l : Fs} (h : Fits K l) : Fits K (cleanF l).fs := cleanGo_fits l 0 [] (by simpa using h.1) h.2 (fun f hf => by cases hf)
def getV (l : Fs) (s : B) : B := match l.find? (fun f => decide (lowB f.1 = lowB s)) with
  | some f => f.2
  | none => []
def getB (l : Fs) (s : B) : Bool := match l.find? (fun f => decide (lowB f.1 = lowB s)) with
  | some _ => true
  | none => false
theorem getAV_eq (l : Fs) (s : B) : getAV l s = .tup [.str (getV l s), .bool (getB l s)] := by
  unfold getAV getV getB
  cases l.find? (fun f => decide (lowB f.1 = lowB s)) <;> rfl

set_option maxHeartbeats 2000000 in
theorem headReads_c (s name : B) (hs : s.length ≤ 9223372036854775807) (hn : name.length ≤ 9223372036854775807) : CPure gxe 5 [.str s, .str name] (.bool true) := by
  refine cpure_of Tryd.func5 rfl (Nat.le_of_ble_eq_true rfl) rfl (fun w hw => ?_)
  by_cases h1 : s.length ≤ 1500
  · by_cases h2 : name.length ≤ 100
    · have R1 := (read_c' s (by omega)).e
      have R2 := (rread_c' s (by omega)).e
      have I1 := is_h (readH s)
      obtain ⟨hf, hr⟩ := readH_fits s
      generalize hL : (readH s).fs = l at R1 R2 hf
      generalize hR : (readH s).rest = rest at R1 R2 hr
      have hfs := hf.small (by omega)
      have hc := cleanF_fits hf
      have C1 := (clean_c' l hfs).e
      have C2 := (rclean_c' l hfs).e
      have I2 := is_cl (cleanF l)
      generalize hC : (cleanF l).fs = c at C1 C2 hc
      have hcs := hc.small (by omega)
      have S1 := (same_c l l hfs.len hfs.len).e
      rw [decide_eq_true rfl] at S1
      have S2 := (same_c c c hcs.len hcs.len).e
      rw [decide_eq_true rfl] at S2
      have G1 := (get_c c name hcs (by omega)).e
      have G2 := (rget_c c name hcs (by omega)).e
      rw [getAV_eq] at G1 G2
      generalize getV c name = gv at G1 G2
      generalize getB c name = gb at G1 G2
      have er : ∀ h : HRes, AV.fz (fun _ => none) false (h.err true) = h.err false := fun h => by cases h <;> rfl
      cases hH : readH s <;> cases hK : cleanF l <;> rw [hH] at R1 R2 I1 <;> rw [hK] at C1 C2 I2
      all_goals
        repeat' (first | refine st_f (by conv => lhs; whnf; arg 1; whnf) ?_ | refine st_nil ?_ | refine tri_seq ?_ | refine tri_region rfl ?_ | refine tri_draw wrB (by kernel_rfl) rfl ?_ | (apply st_r rfl; case hq => first | exact q_call R1 (hcf := Tryd.call19) rfl rfl | exact q_call R2 (hcf := Tryd.call25) rfl rfl | exact q_call I1 (hcf := Tryd.call26) rfl rfl | exact q_call I2 (hcf := Tryd.call26) rfl rfl | exact q_call S1 (hcf := Tryd.call27) rfl rfl | exact q_call S2 (hcf := Tryd.call27) rfl rfl | exact q_call C1 (hcf := Tryd.call20) rfl rfl | exact q_call C2 (hcf := Tryd.call28) rfl rfl | exact q_call G1 (hcf := Tryd.call30) rfl rfl | exact q_call G2 (hcf := Tryd.call29) rfl rfl | exact q_eqlb (by conv => lhs; whnf) (by conv => lhs; whnf) (by kernel_rfl) | exact q_lens (by conv => lhs; whnf) (by kernel_rfl) (by omega) | exact q_index' (by conv => lhs; whnf) (by conv => lhs; whnf) (by kernel_rfl) (by omega) (by omega) | exact q_add (by conv => lhs; whnf) (by conv => lhs; whnf) (IntWalk.i64_in _ (by omega)) | exact q_adds (u := []) rfl (by conv => lhs; whnf) (by first | omega | (simp only [List.length_append, List.length_cons, List.length_nil, List.length_take, List.length_drop]; omega)) | exact q_adds (v := [13, 10]) (by conv => lhs; whnf) rfl (by first | omega | (simp only [List.length_append, List.length_cons, List.length_nil, List.length_take, List.length_drop]; omega)) | exact q_adds (by conv => lhs; whnf) (by conv => lhs; whnf) (by first | omega | (simp only [List.length_append, List.length_cons, List.length_nil, List.length_take, List.length_drop]; omega)) | exact q_sub (by conv => lhs; whnf) (by conv => lhs; whnf) (IntWalk.i64_in _ (by omega)) | exact q_slice_lo (by conv => lhs; whnf) (by conv => lhs; whnf) (by kernel_rfl) (by omega) (by omega) | exact q_slice_hi (by conv => lhs; whnf) (by conv => lhs; whnf) (by kernel_rfl) (by omega) (by omega) | exact q_slice_lh (by conv => lhs; whnf) (by conv => lhs; whnf) (by conv => lhs; whnf) (by kernel_rfl) (by omega) (by omega) (by omega) | exact q_lensl (by conv => lhs; whnf) (by conv => lhs; whnf; arg 1; whnf) (by first | exact Tryd.underlying31 | exact Tryd.underlying40 | exact Tryd.underlying59 | exact Tryd.underlying70 | exact Tryd.underlying103 | exact Tryd.underlying163 | exact Tryd.underlying169 | exact Tryd.underlying198) | exact q_lenro (by conv => lhs; whnf) (by first | exact Tryd.underlying31 | exact Tryd.underlying40 | exact Tryd.underlying59 | exact Tryd.underlying70 | exact Tryd.underlying103 | exact Tryd.underlying163 | exact Tryd.underlying169 | exact Tryd.underlying198) | exact q_lennil (by conv => lhs; whnf) (by first | exact Tryd.underlying31 | exact Tryd.underlying40 | exact Tryd.underlying59 | exact Tryd.underlying70 | exact Tryd.underlying103 | exact Tryd.underlying163 | exact Tryd.underlying169 | exact Tryd.underlying198) | exact q_lenpts (by conv => lhs; whnf) (by first | exact Tryd.underlying31 | exact Tryd.underlying40 | exact Tryd.underlying59 | exact Tryd.underlying70 | exact Tryd.underlying103 | exact Tryd.underlying163 | exact Tryd.underlying169 | exact Tryd.underlying198) | exact q_field' (by conv => lhs; whnf) (by kernel_rfl) | exact q_fielde' (by conv => lhs; whnf) (by kernel_rfl) | exact q_fieldr' (by conv => lhs; whnf) (by kernel_rfl) (by first | rfl | exact Nat.le_of_ble_eq_true rfl | exact Nat.succ_pos _ | decide) | exact q_idxsl (by conv => lhs; whnf) (by conv => lhs; whnf; arg 1; whnf) (by conv => lhs; whnf) (by first | exact Tryd.underlying31 | exact Tryd.underlying40 | exact Tryd.underlying59 | exact Tryd.underlying70 | exact Tryd.underlying103 | exact Tryd.underlying163 | exact Tryd.underlying169 | exact Tryd.underlying198) (by kernel_rfl) (by omega) (by omega) | exact q_load (by conv => lhs; whnf) (by conv => lhs; whnf; arg 1; whnf) (by conv => lhs; whnf) (by show scalB Tryd.prog _ = true; decide +kernel) | exact q_loada (n := 2) (by conv => lhs; whnf) (by conv => lhs; whnf; arg 1; whnf) (by conv => lhs; whnf) (by first | rfl | exact Nat.le_of_ble_eq_true rfl | exact Nat.succ_pos _ | decide) (by show aggB Tryd.prog _ _ = true; decide +kernel) | exact q_mkiface (by conv => lhs; whnf) (by kernel_rfl) | exact q_build2 (by first | exact zAt | exact zFault | exact zField | exact zParam | exact zLink | exact zPart | exact zReader) rfl (by kernel_rfl) (by conv => lhs; whnf) (by conv => lhs; whnf) rfl rfl (by conv => lhs; whnf) | exact q_build3 (by first | exact zAt | exact zFault | exact zField | exact zParam | exact zLink | exact zPart | exact zReader) rfl (by kernel_rfl) (by conv => lhs; whnf) (by conv => lhs; whnf) (by conv => lhs; whnf) rfl rfl rfl (by conv => lhs; whnf) | exact q_build1 (by first | exact zAt | exact zFault | exact zField | exact zParam | exact zLink | exact zPart | exact zReader) rfl (by kernel_rfl) (by conv => lhs; whnf) rfl (by conv => lhs; whnf) | exact q_build0 (by first | exact zAt | exact zFault | exact zField | exact zParam | exact zLink | exact zPart | exact zReader) rfl (by kernel_rfl) | exact q_bs1 (by first | exact Tryd.underlying31 | exact Tryd.underlying40 | exact Tryd.underlying59 | exact Tryd.underlying70 | exact Tryd.underlying103 | exact Tryd.underlying163 | exact Tryd.underlying169 | exact Tryd.underlying198) (by kernel_rfl) (by kernel_rfl) (by conv => lhs; whnf) rfl | exact q_bs2 (by first | exact Tryd.underlying31 | exact Tryd.underlying40 | exact Tryd.underlying59 | exact Tryd.underlying70 | exact Tryd.underlying103 | exact Tryd.underlying163 | exact Tryd.underlying169 | exact Tryd.underlying198) (by kernel_rfl) (by kernel_rfl) (by conv => lhs; whnf) (by conv => lhs; whnf) rfl rfl | exact q_bs3 (by first | exact Tryd.underlying31 | exact Tryd.underlying40 | exact Tryd.underlying59 | exact Tryd.underlying70 | exact Tryd.underlying103 | exact Tryd.underlying163 | exact Tryd.underlying169 | exact Tryd.underlying198) (by kernel_rfl) (by kernel_rfl) (by conv => lhs; whnf) (by conv => lhs; whnf) (by conv => lhs; whnf) rfl rfl rfl | exact q_bs4 (by first | exact Tryd.underlying31 | exact Tryd.underlying40 | exact Tryd.underlying59 | exact Tryd.underlying70 | exact Tryd.underlying103 | exact Tryd.underlying163 | exact Tryd.underlying169 | exact Tryd.underlying198) (by kernel_rfl) (by kernel_rfl) (by conv => lhs; whnf) (by conv => lhs; whnf) (by conv => lhs; whnf) (by conv => lhs; whnf) rfl rfl rfl rfl | exact q_bsa (by first | exact Tryd.underlying31 | exact Tryd.underlying40 | exact Tryd.underlying59 | exact Tryd.underlying70 | exact Tryd.underlying103 | exact Tryd.underlying163 | exact Tryd.underlying169 | exact Tryd.underlying198) (sz := 2) (by kernel_rfl) (by kernel_rfl) (by first | rfl | exact Nat.le_of_ble_eq_true rfl | exact Nat.succ_pos _ | decide) (by first | rfl | exact Nat.le_of_ble_eq_true rfl | exact Nat.succ_pos _ | decide) (by conv => lhs; whnf) rfl rfl | exact q_boxr (by conv => lhs; whnf) rfl (by first | rfl | exact Nat.le_of_ble_eq_true rfl | exact Nat.succ_pos _ | decide)) | (apply st_rif rfl; (case hq => first | exact q_lss (by conv => lhs; whnf) (by conv => lhs; whnf) | exact q_gtr (by conv => lhs; whnf) (by conv => lhs; whnf) | exact q_eql (by conv => lhs; whnf) (by conv => lhs; whnf) | exact q_neq (by conv => lhs; whnf) (by conv => lhs; whnf) | exact q_eqls (v := []) (by conv => lhs; whnf) rfl | exact q_neqs (v := []) (by conv => lhs; whnf) rfl | exact q_eqls (by conv => lhs; whnf) (by conv => lhs; whnf) | exact q_neqs (by conv => lhs; whnf) (by conv => lhs; whnf) | exact q_leq (by conv => lhs; whnf) (by conv => lhs; whnf) | exact q_geq (by conv => lhs; whnf) (by conv => lhs; whnf)); all_goals (intro _; try (exfalso; first | omega | contradiction))) | (apply st_rw rfl rfl; case hq => first | exact w_alloc 102 (by first | exact zAt | exact zFault | exact zField | exact zParam | exact zLink | exact zPart | exact zReader) rfl rfl rfl | exact w_store (by conv => lhs; whnf) (by conv => lhs; whnf; arg 1; whnf) (by conv => lhs; whnf) rfl (by kernel_rfl) rfl (by first | rfl | exact Nat.le_of_ble_eq_true rfl | exact Nat.succ_pos _ | decide) (by conv => lhs; whnf)) | refine tri_true rfl ?_ | refine tri_false rfl ?_ | refine tri_block ?_ | refine tri_skip ?_ | refine tri_ret ?_ | refine tri_exit ?_)
        first
          | (refine And.intro trivial ?_
             conv => lhs; whnf
             simp)

    · repeat' (first | refine st_f (by conv => lhs; whnf; arg 1; whnf) ?_ | refine st_nil ?_ | refine tri_seq ?_ | refine tri_region rfl ?_ | refine tri_draw wrB (by kernel_rfl) rfl ?_ | (apply st_r rfl; case hq => first | exact q_lens (by conv => lhs; whnf) (by kernel_rfl) (by omega) | exact q_index' (by conv => lhs; whnf) (by conv => lhs; whnf) (by kernel_rfl) (by omega) (by omega) | exact q_add (by conv => lhs; whnf) (by conv => lhs; whnf) (IntWalk.i64_in _ (by omega)) | exact q_adds (u := []) rfl (by conv => lhs; whnf) (by first | omega | (simp only [List.length_append, List.length_cons, List.length_nil, List.length_take, List.length_drop]; omega)) | exact q_adds (v := [13, 10]) (by conv => lhs; whnf) rfl (by first | omega | (simp only [List.length_append, List.length_cons, List.length_nil, List.length_take, List.length_drop]; omega)) | exact q_adds (by conv => lhs; whnf) (by conv => lhs; whnf) (by first | omega | (simp only [List.length_append, List.length_cons, List.length_nil, List.length_take, List.length_drop]; omega)) | exact q_sub (by conv => lhs; whnf) (by conv => lhs; whnf) (IntWalk.i64_in _ (by omega)) | exact q_slice_lo (by conv => lhs; whnf) (by conv => lhs; whnf) (by kernel_rfl) (by omega) (by omega) | exact q_slice_hi (by conv => lhs; whnf) (by conv => lhs; whnf) (by kernel_rfl) (by omega) (by omega) | exact q_slice_lh (by conv => lhs; whnf) (by conv => lhs; whnf) (by conv => lhs; whnf) (by kernel_rfl) (by omega) (by omega) (by omega) | exact q_lensl (by conv => lhs; whnf) (by conv => lhs; whnf; arg 1; whnf) (by first | exact Tryd.underlying31 | exact Tryd.underlying40 | exact Tryd.underlying59 | exact Tryd.underlying70 | exact Tryd.underlying103 | exact Tryd.underlying163 | exact Tryd.underlying169 | exact Tryd.underlying198) | exact q_lenro (by conv => lhs; whnf) (by first | exact Tryd.underlying31 | exact Tryd.underlying40 | exact Tryd.underlying59 | exact Tryd.underlying70 | exact Tryd.underlying103 | exact Tryd.underlying163 | exact Tryd.underlying169 | exact Tryd.underlying198) | exact q_lennil (by conv => lhs; whnf) (by first | exact Tryd.underlying31 | exact Tryd.underlying40 | exact Tryd.underlying59 | exact Tryd.underlying70 | exact Tryd.underlying103 | exact Tryd.underlying163 | exact Tryd.underlying169 | exact Tryd.underlying198) | exact q_lenpts (by conv => lhs; whnf) (by first | exact Tryd.underlying31 | exact Tryd.underlying40 | exact Tryd.underlying59 | exact Tryd.underlying70 | exact Tryd.underlying103 | exact Tryd.underlying163 | exact Tryd.underlying169 | exact Tryd.underlying198) | exact q_field' (by conv => lhs; whnf) (by kernel_rfl) | exact q_fielde' (by conv => lhs; whnf) (by kernel_rfl) | exact q_fieldr' (by conv => lhs; whnf) (by kernel_rfl) (by first | rfl | exact Nat.le_of_ble_eq_true rfl | exact Nat.succ_pos _ | decide) | exact q_idxsl (by conv => lhs; whnf) (by conv => lhs; whnf; arg 1; whnf) (by conv => lhs; whnf) (by first | exact Tryd.underlying31 | exact Tryd.underlying40 | exact Tryd.underlying59 | exact Tryd.underlying70 | exact Tryd.underlying103 | exact Tryd.underlying163 | exact Tryd.underlying169 | exact Tryd.underlying198) (by kernel_rfl) (by omega) (by omega) | exact q_load (by conv => lhs; whnf) (by conv => lhs; whnf; arg 1; whnf) (by conv => lhs; whnf) (by show scalB Tryd.prog _ = true; decide +kernel) | exact q_loada (n := 2) (by conv => lhs; whnf) (by conv => lhs; whnf; arg 1; whnf) (by conv => lhs; whnf) (by first | rfl | exact Nat.le_of_ble_eq_true rfl | exact Nat.succ_pos _ | decide) (by show aggB Tryd.prog _ _ = true; decide +kernel) | exact q_mkiface (by conv => lhs; whnf) (by kernel_rfl) | exact q_build2 (by first | exact zAt | exact zFault | exact zField | exact zParam | exact zLink | exact zPart | exact zReader) rfl (by kernel_rfl) (by conv => lhs; whnf) (by conv => lhs; whnf) rfl rfl (by conv => lhs; whnf) | exact q_build3 (by first | exact zAt | exact zFault | exact zField | exact zParam | exact zLink | exact zPart | exact zReader) rfl (by kernel_rfl) (by conv => lhs; whnf) (by conv => lhs; whnf) (by conv => lhs; whnf) rfl rfl rfl (by conv => lhs; whnf) | exact q_build1 (by first | exact zAt | exact zFault | exact zField | exact zParam | exact zLink | exact zPart | exact zReader) rfl (by kernel_rfl) (by conv => lhs; whnf) rfl (by conv => lhs; whnf) | exact q_build0 (by first | exact zAt | exact zFault | exact zField | exact zParam | exact zLink | exact zPart | exact zReader) rfl (by kernel_rfl) | exact q_bs1 (by first | exact Tryd.underlying31 | exact Tryd.underlying40 | exact Tryd.underlying59 | exact Tryd.underlying70 | exact Tryd.underlying103 | exact Tryd.underlying163 | exact Tryd.underlying169 | exact Tryd.underlying198) (by kernel_rfl) (by kernel_rfl) (by conv => lhs; whnf) rfl | exact q_bs2 (by first | exact Tryd.underlying31 | exact Tryd.underlying40 | exact Tryd.underlying59 | exact Tryd.underlying70 | exact Tryd.underlying103 | exact Tryd.underlying163 | exact Tryd.underlying169 | exact Tryd.underlying198) (by kernel_rfl) (by kernel_rfl) (by conv => lhs; whnf) (by conv => lhs; whnf) rfl rfl | exact q_bs3 (by first | exact Tryd.underlying31 | exact Tryd.underlying40 | exact Tryd.underlying59 | exact Tryd.underlying70 | exact Tryd.underlying103 | exact Tryd.underlying163 | exact Tryd.underlying169 | exact Tryd.underlying198) (by kernel_rfl) (by kernel_rfl) (by conv => lhs; whnf) (by conv => lhs; whnf) (by conv => lhs; whnf) rfl rfl rfl | exact q_bs4 (by first | exact Tryd.underlying31 | exact Tryd.underlying40 | exact Tryd.underlying59 | exact Tryd.underlying70 | exact Tryd.underlying103 | exact Tryd.underlying163 | exact Tryd.underlying169 | exact Tryd.underlying198) (by kernel_rfl) (by kernel_rfl) (by conv => lhs; whnf) (by conv => lhs; whnf) (by conv => lhs; whnf) (by conv => lhs; whnf) rfl rfl rfl rfl | exact q_bsa (by first | exact Tryd.underlying31 | exact Tryd.underlying40 | exact Tryd.underlying59 | exact Tryd.underlying70 | exact Tryd.underlying103 | exact Tryd.underlying163 | exact Tryd.underlying169 | exact Tryd.underlying198) (sz := 2) (by kernel_rfl) (by kernel_rfl) (by first | rfl | exact Nat.le_of_ble_eq_true rfl | exact Nat.succ_pos _ | decide) (by first | rfl | exact Nat.le_of_ble_eq_true rfl | exact Nat.succ_pos _ | decide) (by conv => lhs; whnf) rfl rfl | exact q_boxr (by conv => lhs; whnf) rfl (by first | rfl | exact Nat.le_of_ble_eq_true rfl | exact Nat.succ_pos _ | decide)) | (apply st_rif rfl; (case hq => first | exact q_lss (by conv => lhs; whnf) (by conv => lhs; whnf) | exact q_gtr (by conv => lhs; whnf) (by conv => lhs; whnf) | exact q_eql (by conv => lhs; whnf) (by conv => lhs; whnf) | exact q_neq (by conv => lhs; whnf) (by conv => lhs; whnf) | exact q_eqls (v := []) (by conv => lhs; whnf) rfl | exact q_neqs (v := []) (by conv => lhs; whnf) rfl | exact q_eqls (by conv => lhs; whnf) (by conv => lhs; whnf) | exact q_neqs (by conv => lhs; whnf) (by conv => lhs; whnf) | exact q_leq (by conv => lhs; whnf) (by conv => lhs; whnf) | exact q_geq (by conv => lhs; whnf) (by conv => lhs; whnf)); all_goals (intro _; try (exfalso; first | omega | contradiction))) | (apply st_rw rfl rfl; case hq => first | exact w_store (by conv => lhs; whnf) (by conv => lhs; whnf; arg 1; whnf) (by conv => lhs; whnf) rfl (by kernel_rfl) rfl (by first | rfl | exact Nat.le_of_ble_eq_true rfl | exact Nat.succ_pos _ | decide) (by conv => lhs; whnf)) | refine tri_true rfl ?_ | refine tri_false rfl ?_ | refine tri_block ?_ | refine tri_skip ?_ | refine tri_ret ?_ | refine tri_exit ?_)
      refine And.intro trivial ?_
      conv => lhs; whnf
  · repeat' (first | refine st_f (by conv => lhs; whnf; arg 1; whnf) ?_ | refine st_nil ?_ | refine tri_seq ?_ | refine tri_region rfl ?_ | refine tri_draw wrB (by kernel_rfl) rfl ?_ | (apply st_r rfl; case hq => first | exact q_lens (by conv => lhs; whnf) (by kernel_rfl) (by omega) | exact q_index' (by conv => lhs; whnf) (by conv => lhs; whnf) (by kernel_rfl) (by omega) (by omega) | exact q_add (by conv => lhs; whnf) (by conv => lhs; whnf) (IntWalk.i64_in _ (by omega)) | exact q_adds (u := []) rfl (by conv => lhs; whnf) (by first | omega | (simp only [List.length_append, List.length_cons, List.length_nil, List.length_take, List.length_drop]; omega)) | exact q_adds (v := [13, 10]) (by conv => lhs; whnf) rfl (by first | omega | (simp only [List.length_append, List.length_cons, List.length_nil, List.length_take, List.length_drop]; omega)) | exact q_adds (by conv => lhs; whnf) (by conv => lhs; whnf) (by first | omega | (simp only [List.length_append, List.length_cons, List.length_nil, List.length_take, List.length_drop]; omega)) | exact q_sub (by conv => lhs; whnf) (by conv => lhs; whnf) (IntWalk.i64_in _ (by omega)) | exact q_slice_lo (by conv => lhs; whnf) (by conv => lhs; whnf) (by kernel_rfl) (by omega) (by omega) | exact q_slice_hi (by conv => lhs; whnf) (by conv => lhs; whnf) (by kernel_rfl) (by omega) (by omega) | exact q_slice_lh (by conv => lhs; whnf) (by conv => lhs; whnf) (by conv => lhs; whnf) (by kernel_rfl) (by omega) (by omega) (by omega) | exact q_lensl (by conv => lhs; whnf) (by conv => lhs; whnf; arg 1; whnf) (by first | exact Tryd.underlying31 | exact Tryd.underlying40 | exact Tryd.underlying59 | exact Tryd.underlying70 | exact Tryd.underlying103 | exact Tryd.underlying163 | exact Tryd.underlying169 | exact Tryd.underlying198) | exact q_lenro (by conv => lhs; whnf) (by first | exact Tryd.underlying31 | exact Tryd.underlying40 | exact Tryd.underlying59 | exact Tryd.underlying70 | exact Tryd.underlying103 | exact Tryd.underlying163 | exact Tryd.underlying169 | exact Tryd.underlying198) | exact q_lennil (by conv => lhs; whnf) (by first | exact Tryd.underlying31 | exact Tryd.underlying40 | exact Tryd.underlying59 | exact Tryd.underlying70 | exact Tryd.underlying103 | exact Tryd.underlying163 | exact Tryd.underlying169 | exact Tryd.underlying198) | exact q_lenpts (by conv => lhs; whnf) (by first | exact Tryd.underlying31 | exact Tryd.underlying40 | exact Tryd.underlying59 | exact Tryd.underlying70 | exact Tryd.underlying103 | exact Tryd.underlying163 | exact Tryd.underlying169 | exact Tryd.underlying198) | exact q_field' (by conv => lhs; whnf) (by kernel_rfl) | exact q_fielde' (by conv => lhs; whnf) (by kernel_rfl) | exact q_fieldr' (by conv => lhs; whnf) (by kernel_rfl) (by first | rfl | exact Nat.le_of_ble_eq_true rfl | exact Nat.succ_pos _ | decide) | exact q_idxsl (by conv => lhs; whnf) (by conv => lhs; whnf; arg 1; whnf) (by conv => lhs; whnf) (by first | exact Tryd.underlying31 | exact Tryd.underlying40 | exact Tryd.underlying59 | exact Tryd.underlying70 | exact Tryd.underlying103 | exact Tryd.underlying163 | exact Tryd.underlying169 | exact Tryd.underlying198) (by kernel_rfl) (by omega) (by omega) | exact q_load (by conv => lhs; whnf) (by conv => lhs; whnf; arg 1; whnf) (by conv => lhs; whnf) (by show scalB Tryd.prog _ = true; decide +kernel) | exact q_loada (n := 2) (by conv => lhs; whnf) (by conv => lhs; whnf; arg 1; whnf) (by conv => lhs; whnf) (by first | rfl | exact Nat.le_of_ble_eq_true rfl | exact Nat.succ_pos _ | decide) (by show aggB Tryd.prog _ _ = true; decide +kernel) | exact q_mkiface (by conv => lhs; whnf) (by kernel_rfl) | exact q_build2 (by first | exact zAt | exact zFault | exact zField | exact zParam | exact zLink | exact zPart | exact zReader) rfl (by kernel_rfl) (by conv => lhs; whnf) (by conv => lhs; whnf) rfl rfl (by conv => lhs; whnf) | exact q_build3 (by first | exact zAt | exact zFault | exact zField | exact zParam | exact zLink | exact zPart | exact zReader) rfl (by kernel_rfl) (by conv => lhs; whnf) (by conv => lhs; whnf) (by conv => lhs; whnf) rfl rfl rfl (by conv => lhs; whnf) | exact q_build1 (by first | exact zAt | exact zFault | exact zField | exact zParam | exact zLink | exact zPart | exact zReader) rfl (by kernel_rfl) (by conv => lhs; whnf) rfl (by conv => lhs; whnf) | exact q_build0 (by first | exact zAt | exact zFault | exact zField | exact zParam | exact zLink | exact zPart | exact zReader) rfl (by kernel_rfl) | exact q_bs1 (by first | exact Tryd.underlying31 | exact Tryd.underlying40 | exact Tryd.underlying59 | exact Tryd.underlying70 | exact Tryd.underlying103 | exact Tryd.underlying163 | exact Tryd.underlying169 | exact Tryd.underlying198) (by kernel_rfl) (by kernel_rfl) (by conv => lhs; whnf) rfl | exact q_bs2 (by first | exact Tryd.underlying31 | exact Tryd.underlying40 | exact Tryd.underlying59 | exact Tryd.underlying70 | exact Tryd.underlying103 | exact Tryd.underlying163 | exact Tryd.underlying169 | exact Tryd.underlying198) (by kernel_rfl) (by kernel_rfl) (by conv => lhs; whnf) (by conv => lhs; whnf) rfl rfl | exact q_bs3 (by first | exact Tryd.underlying31 | exact Tryd.underlying40 | exact Tryd.underlying59 | exact Tryd.underlying70 | exact Tryd.underlying103 | exact Tryd.underlying163 | exact Tryd.underlying169 | exact Tryd.underlying198) (by kernel_rfl) (by kernel_rfl) (by conv => lhs; whnf) (by conv => lhs; whnf) (by conv => lhs; whnf) rfl rfl rfl | exact q_bs4 (by first | exact Tryd.underlying31 | exact Tryd.underlying40 | exact Tryd.underlying59 | exact Tryd.underlying70 | exact Tryd.underlying103 | exact Tryd.underlying163 | exact Tryd.underlying169 | exact Tryd.underlying198) (by kernel_rfl) (by kernel_rfl) (by conv => lhs; whnf) (by conv => lhs; whnf) (by conv => lhs; whnf) (by conv => lhs; whnf) rfl rfl rfl rfl | exact q_bsa (by first | exact Tryd.underlying31 | exact Tryd.underlying40 | exact Tryd.underlying59 | exact Tryd.underlying70 | exact Tryd.underlying103 | exact Tryd.underlying163 | exact Tryd.underlying169 | exact Tryd.underlying198) (sz := 2) (by kernel_rfl) (by kernel_rfl) (by first | rfl | exact Nat.le_of_ble_eq_true rfl | exact Nat.succ_pos _ | decide) (by first | rfl | exact Nat.le_of_ble_eq_true rfl | exact Nat.succ_pos _ | decide) (by conv => lhs; whnf) rfl rfl | exact q_boxr (by conv => lhs; whnf) rfl (by first | rfl | exact Nat.le_of_ble_eq_true rfl | exact Nat.succ_pos _ | decide)) | (apply st_rif rfl; (case hq => first | exact q_lss (by conv => lhs; whnf) (by conv => lhs; whnf) | exact q_gtr (by conv => lhs; whnf) (by conv => lhs; whnf) | exact q_eql (by conv => lhs; whnf) (by conv => lhs; whnf) | exact q_neq (by conv => lhs; whnf) (by conv => lhs; whnf) | exact q_eqls (v := []) (by conv => lhs; whnf) rfl | exact q_neqs (v := []) (by conv => lhs; whnf) rfl | exact q_eqls (by conv => lhs; whnf) (by conv => lhs; whnf) | exact q_neqs (by conv => lhs; whnf) (by conv => lhs; whnf) | exact q_leq (by conv => lhs; whnf) (by conv => lhs; whnf) | exact q_geq (by conv => lhs; whnf) (by conv => lhs; whnf)); all_goals (intro _; try (exfalso; first | omega | contradiction))) | (apply st_rw rfl rfl; case hq => first | exact w_store (by conv => lhs; whnf) (by conv => lhs; whnf; arg 1; whnf) (by conv => lhs; whnf) rfl (by kernel_rfl) rfl (by first | rfl | exact Nat.le_of_ble_eq_true rfl | exact Nat.succ_pos _ | decide) (by conv => lhs; whnf)) | refine tri_true rfl ?_ | refine tri_false rfl ?_ | refine tri_block ?_ | refine tri_skip ?_ | refine tri_ret ?_ | refine tri_exit ?_)
    refine And.intro trivial ?_
    conv => lhs; whnf
end Go.Proofs.YtignjjnflcpiiaaDoor
