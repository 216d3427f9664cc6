/- The document's tag: what its loops do, round by round. -/
import Derived.Test.YtignjjnflcpiiaaGreatDoorPl1
import Derived.Test.YtignjjnflcpiiaaGreatDoorPageF
import Derived.Test.YtignjjnflcpiiaaGreatDoorVm5
import Derived.Test.YtignjjnflcpiiaaGreatDoorPageU
set_option linter.unusedVariables false
set_option linter.unusedSimpArgs false
set_option maxHeartbeats 1000000
namespace Go.Proofs.YtignjjnflcpiiaaGreatDoor
open Go.RowKit
set_option maxRecDepth 100000

/-- the place of what is left -/
def pz (s r : B) : Int := ((s.length - r.length : Nat) : Int)
theorem pz_eq (s r : B) : pz s r = ((s.length - r.length : Nat) : Int) := rfl
theorem pz_cons {s t : B} {c : UInt8} (h : c :: t <:+ s) : pz s (c :: t) + 1 = pz s t := by
  have := suf_le h
  simp only [List.length_cons] at this
  simp only [pz, List.length_cons]; omega
theorem pz_lt {s t : B} {c : UInt8} (h : c :: t <:+ s) : pz s (c :: t) < (s.length : Int) := by
  have := suf_le h
  simp only [List.length_cons] at this
  simp only [pz, List.length_cons]; omega
theorem pz_nil (s : B) : pz s [] = (s.length : Int) := by simp [pz]
theorem lowC1_set {c : UInt8} : anB c = true ↔ ((97 ≤ (lowC1 c).toNat ∧ (lowC1 c).toNat ≤ 122) ∨ (48 ≤ (lowC1 c).toNat ∧ (lowC1 c).toNat ≤ 57)) := by
  have h : ∀ c : UInt8, anB c = decide ((97 ≤ (lowC1 c).toNat ∧ (lowC1 c).toNat ≤ 122) ∨ (48 ≤ (lowC1 c).toNat ∧ (lowC1 c).toNat ≤ 57)) := all8 (by decide +kernel)
  rw [h]; simp
theorem lowC1_al {c : UInt8} : alB c = true ↔ (97 ≤ (lowC1 c).toNat ∧ (lowC1 c).toNat ≤ 122) := by
  have h : ∀ c : UInt8, alB c = decide (97 ≤ (lowC1 c).toNat ∧ (lowC1 c).toNat ≤ 122) := all8 (by decide +kernel)
  rw [h]; simp
theorem low_one (c : UInt8) : CPure gx 48 [.str [c]] (.str [lowC1 c]) := by
  have := low_c [c] (by simp)
  rw [← lowP_low] at this
  exact this
noncomputable abbrev TgC (w : World) (hw : gx.nG ≤ w.heap.size) : Cx := cx gx Tryz.f65.ntmps w hw
noncomputable abbrev tgL (k : Nat) : Code := loopN Tryz.f65 k
section
attribute [local irreducible] Tri Steps Qd Wr Weak CPure CEff CNew CutN AllB Behind
variable {w : World} (hw : gx.nG ≤ w.heap.size) (Q : Exit → St → Prop)
/-! the name -/
def NmI (s r0 : B) (x : B × B) : Prop := x.2 <:+ s ∧ x.1 ++ lowP (x.2.takeWhile anB) = lowP (r0.takeWhile anB) ∧ x.2.dropWhile anB = r0.dropWhile anB ∧ x.1.length + x.2.length ≤ s.length
abbrev NmS (s : B) (x : B × B) : St := st [(0, .str s), (1, .int .i64 (pz s x.2)), (4, .nils), (5, .int .i64 0), (6, .nils), (7, .str x.1)] []
set_option maxHeartbeats 4000000 in
theorem tg_name (s r0 : B) (hs : s.length ≤ 100000000) (x : B × B) (hx : NmI s r0 x) : Tri (TgC w hw) (tgL 0) (NmS s x) (loopQ (TgC w hw) (NmI s r0) (NmS s) (fun x => x.2.length) x.2.length (blockQ 0 (thenQ (fun σ' => ∃ z : Unit, True ∧ Weak (TgC w hw) σ' (NmS s (lowP (r0.takeWhile anB), r0.dropWhile anB))) Q))) := by
  obtain ⟨nm, r⟩ := x
  obtain ⟨h1, h2, h3, h4⟩ := hx
  simp only at h1 h2 h3 h4
  unfold NmS
  simp only
  cases r with
  | nil =>
    have hp := pz_nil s
    have e2 : nm = lowP (r0.takeWhile anB) := by simpa [lowP] using h2
    have e3 : ([] : B) = r0.dropWhile anB := h3
    rw [← e2, ← e3]
    generalize pz s [] = p at *
    repeat' (first | refine a_f ?_ | refine st_nil ?_ | refine tri_seq ?_ | refine tri_region rfl ?_ | refine a_draw ?_ | (apply st_r rfl; case hq => first | exact a_lens | exact a_index | exact a_add | exact a_adds0 | exact a_addsc | exact a_adds | exact a_sub | exact a_slo | exact a_shi | exact a_slh | exact a_lensl | exact a_lenro | exact a_lennil | exact a_lenpts | exact a_field | exact a_fielde | exact a_fieldr | exact a_idxsl | exact a_load | exact a_loada | exact a_mki | exact a_build2 | exact a_build3 | exact a_build1 | exact a_build0 | exact a_bs1 | exact a_bs2 | exact a_bs3 | exact a_bs4 | exact a_bsa | exact a_boxr) | (apply st_rif rfl; (case hq => first | exact a_lss | exact a_gtr | exact a_eql | exact a_neq | exact a_eqls0 | exact a_neqs0 | exact a_eqls | exact a_neqs | exact a_leq | exact a_geq); all_goals (intro _; try (exfalso; first | omega | contradiction))) | (apply st_rw rfl rfl; case hq => first | exact a_store) | refine tri_true rfl ?_ | refine tri_false rfl ?_ | refine tri_block ?_ | refine tri_skip ?_ | refine tri_ret ?_ | refine tri_exit ?_)
    exact ⟨(), trivial, weak_st ⟨rfl, rfl, rfl, rfl, rfl, rfl, trivial⟩ trivial⟩
  | cons c t =>
    have g1 := suf_get h1
    have hp1 := pz_cons h1
    have hp2 := pz_lt h1
    have hst := suf_cons h1
    have hle := suf_le h1
    have hcut := suf_cut (a := [c]) (b := t) (s := s) h1
    rw [List.singleton_append] at hcut
    simp only [List.length_cons, List.length_nil, Nat.zero_add] at g1 hle hcut h4
    have L1 := low_one c
    have hpp : pz s (c :: t) = ((s.length - (t.length + 1) : Nat) : Int) := rfl
    have g0 : ([lowC1 c] : B)[(0 : Nat)]? = some (lowC1 c) := rfl
    have hx := (lowC1_set (c := c))
    have hx256 : (lowC1 c).toNat < 256 := (lowC1 c).toNat_lt
    cases han : anB c with
    | true =>
      rw [han] at hx
      have hx := hx.1 rfl
      rw [List.takeWhile_cons_of_pos han] at h2
      rw [List.dropWhile_cons_of_pos han] at h3
      have h2' : nm ++ [lowC1 c] ++ lowP (t.takeWhile anB) = lowP (r0.takeWhile anB) := by rw [← h2]; simp [lowP]
      generalize lowC1 c = lc at *
      generalize pz s (c :: t) = p at *
      generalize hpt : pz s t = pt at *
      rcases hx with hx | hx
      all_goals
        repeat' (first | refine a_f ?_ | refine st_nil ?_ | refine tri_seq ?_ | refine tri_region rfl ?_ | refine a_draw ?_ | (apply st_r rfl; case hq => first | exact q_slice_lhE (m' := s.length - (t.length + 1)) (n' := s.length - (t.length + 1) + 1) (l := [c]) (by conv => lhs; whnf) (by conv => lhs; whnf) (by conv => lhs; whnf) (by omega) (by omega) (by kernel_rfl) (by omega) (by omega) hcut | exact q_call L1 (hcf := Tryz.call48) rfl rfl | exact q_indexE (i' := 0) (c := lc) (by conv => lhs; whnf) (by conv => lhs; whnf) (by rfl) (by kernel_rfl) g0 | exact q_bstr [lc] (by conv => lhs; whnf) (by rfl) (by first | exact Tryz.underlying22 | exact Tryz.underlying23 | exact Tryz.underlying43 | exact Tryz.underlying44 | exact Tryz.underlying51 | exact Tryz.underlying86 | exact Tryz.underlying191 | exact Tryz.underlying209 | exact Tryz.underlying234 | exact Tryz.underlying270 | exact Tryz.underlying281 | exact Tryz.underlying344) Tryz.underlying5 (by kernel_rfl) | exact q_adds (v := [lc]) (by conv => lhs; whnf) (by conv => lhs; whnf) (by first | omega | (simp only [List.length_append, List.length_cons, List.length_nil, List.length_take, List.length_drop]; omega)) | exact a_lens | exact a_index | exact a_add | exact a_adds0 | exact a_addsc | exact a_adds | exact a_sub | exact a_slo | exact a_shi | exact a_slh | exact a_lensl | exact a_lenro | exact a_lennil | exact a_lenpts | exact a_field | exact a_fielde | exact a_fieldr | exact a_idxsl | exact a_load | exact a_loada | exact a_mki | exact a_build2 | exact a_build3 | exact a_build1 | exact a_build0 | exact a_bs1 | exact a_bs2 | exact a_bs3 | exact a_bs4 | exact a_bsa | exact a_boxr) | (apply st_rif rfl; (case hq => first | exact a_lss | exact a_gtr | exact a_eql | exact a_neq | exact a_eqls0 | exact a_neqs0 | exact a_eqls | exact a_neqs | exact a_leq | exact a_geq); all_goals (intro _; try (exfalso; first | omega | contradiction))) | (apply st_rw rfl rfl; case hq => first | exact a_store) | refine tri_true rfl ?_ | refine tri_false rfl ?_ | refine tri_block ?_ | refine tri_skip ?_ | refine tri_ret ?_ | refine tri_exit ?_)
        exact nextR (nm ++ [lc], t) ⟨hst, h2', h3, by simp only [List.length_append, List.length_cons, List.length_nil]; omega⟩ (weak_st ⟨rfl, congrArg (AV.int .i64) (hp1.trans hpt.symm), rfl, rfl, rfl, rfl, trivial⟩ trivial) (show t.length < (c :: t).length by simp)
    | false =>
      have hx' : ¬ ((97 ≤ (lowC1 c).toNat ∧ (lowC1 c).toNat ≤ 122) ∨ (48 ≤ (lowC1 c).toNat ∧ (lowC1 c).toNat ≤ 57)) := fun h => by
        have := hx.2 h
        rw [han] at this; cases this
      rw [List.takeWhile_cons_of_neg (by rw [han]; decide)] at h2
      rw [List.dropWhile_cons_of_neg (by rw [han]; decide)] at h3
      have e2 : nm = lowP (r0.takeWhile anB) := by simpa [lowP] using h2
      rw [← e2, ← h3]
      generalize lowC1 c = lc at *
      generalize pz s (c :: t) = p at *
      repeat' (first | refine a_f ?_ | refine st_nil ?_ | refine tri_seq ?_ | refine tri_region rfl ?_ | refine a_draw ?_ | (apply st_r rfl; case hq => first | exact q_slice_lhE (m' := s.length - (t.length + 1)) (n' := s.length - (t.length + 1) + 1) (l := [c]) (by conv => lhs; whnf) (by conv => lhs; whnf) (by conv => lhs; whnf) (by omega) (by omega) (by kernel_rfl) (by omega) (by omega) hcut | exact q_call L1 (hcf := Tryz.call48) rfl rfl | exact q_indexE (i' := 0) (c := lc) (by conv => lhs; whnf) (by conv => lhs; whnf) (by rfl) (by kernel_rfl) g0 | exact a_lens | exact a_index | exact a_add | exact a_adds0 | exact a_addsc | exact a_adds | exact a_sub | exact a_slo | exact a_shi | exact a_slh | exact a_lensl | exact a_lenro | exact a_lennil | exact a_lenpts | exact a_field | exact a_fielde | exact a_fieldr | exact a_idxsl | exact a_load | exact a_loada | exact a_mki | exact a_build2 | exact a_build3 | exact a_build1 | exact a_build0 | exact a_bs1 | exact a_bs2 | exact a_bs3 | exact a_bs4 | exact a_bsa | exact a_boxr) | (apply st_rif rfl; (case hq => first | exact a_lss | exact a_gtr | exact a_eql | exact a_neq | exact a_eqls0 | exact a_neqs0 | exact a_eqls | exact a_neqs | exact a_leq | exact a_geq); all_goals (intro _; try (exfalso; first | omega | contradiction))) | (apply st_rw rfl rfl; case hq => first | exact a_store) | refine tri_true rfl ?_ | refine tri_false rfl ?_ | refine tri_block ?_ | refine tri_skip ?_ | refine tri_ret ?_ | refine tri_exit ?_)
      all_goals exact ⟨(), trivial, weak_st ⟨rfl, rfl, rfl, rfl, rfl, rfl, trivial⟩ trivial⟩
/-! the four loops that go on behind some letters; e: the other slots -/
def SkI (s r0 : B) (p : UInt8 → Bool) (r : B) : Prop := r <:+ s ∧ r.dropWhile p = r0.dropWhile p
theorem SkI.next {s r0 : B} {p : UInt8 → Bool} {c : UInt8} {t : B} (h : SkI s r0 p (c :: t)) (hp : p c = true) : SkI s r0 p t := ⟨suf_cons h.1, by rw [← h.2, List.dropWhile_cons_of_pos hp]⟩
theorem SkI.out {s r0 : B} {p : UInt8 → Bool} {c : UInt8} {t : B} (h : SkI s r0 p (c :: t)) (hp : p c = false) : r0.dropWhile p = c :: t := by rw [← h.2, List.dropWhile_cons_of_neg (by rw [hp]; decide)]
/-- ahead of an attribute -/
abbrev AS (s nm : B) (L : List Lk) (r : B) : St := st [(0, .str s), (1, .int .i64 (pz s r)), (6, .sl 101), (7, .str nm)] [(101, .rows LkT 3 (lkRows L))]
set_option maxHeartbeats 4000000 in
theorem tg_sep (s r0 nm : B) (L : List Lk) (hs : s.length ≤ 100000000) (r : B) (hx : SkI s r0 sepB r) : Tri (TgC w hw) (tgL 2) (AS s nm L r) (loopQ (TgC w hw) (SkI s r0 sepB) (AS s nm L) (fun r => r.length) r.length (blockQ 4 (thenQ (fun σ' => ∃ z : Unit, True ∧ Weak (TgC w hw) σ' (AS s nm L (r0.dropWhile sepB))) Q))) := by
  unfold AS
  cases r with
  | nil =>
    have e : r0.dropWhile sepB = [] := hx.2.symm
    rw [e]
    have hp := pz_nil s
    generalize pz s [] = p at *
    repeat' (first | refine a_f ?_ | refine st_nil ?_ | refine tri_seq ?_ | refine tri_region rfl ?_ | refine a_draw ?_ | (apply st_r rfl; case hq => first | exact a_lens | exact a_index | exact a_add | exact a_adds0 | exact a_addsc | exact a_adds | exact a_sub | exact a_slo | exact a_shi | exact a_slh | exact a_lensl | exact a_lenro | exact a_lennil | exact a_lenpts | exact a_field | exact a_fielde | exact a_fieldr | exact a_idxsl | exact a_load | exact a_loada | exact a_mki | exact a_build2 | exact a_build3 | exact a_build1 | exact a_build0 | exact a_bs1 | exact a_bs2 | exact a_bs3 | exact a_bs4 | exact a_bsa | exact a_boxr) | (apply st_rif rfl; (case hq => first | exact a_lss | exact a_gtr | exact a_eql | exact a_neq | exact a_eqls0 | exact a_neqs0 | exact a_eqls | exact a_neqs | exact a_leq | exact a_geq); all_goals (intro _; try (exfalso; first | omega | contradiction))) | (apply st_rw rfl rfl; case hq => first | exact a_store) | refine tri_true rfl ?_ | refine tri_false rfl ?_ | refine tri_block ?_ | refine tri_skip ?_ | refine tri_ret ?_ | refine tri_exit ?_)
    exact ⟨(), trivial, weak_st ⟨rfl, rfl, rfl, rfl, trivial⟩ ⟨rfl, trivial⟩⟩
  | cons c t =>
    have g1 := suf_get hx.1
    have hp1 := pz_cons hx.1
    have hp2 := pz_lt hx.1
    have hpp : pz s (c :: t) = ((s.length - (t.length + 1) : Nat) : Int) := rfl
    simp only [List.length_cons] at g1
    have G1 := gap_c c
    have hsep : sepB c = (gapB c || c == 47) := rfl
    have hc : c.toNat < 256 := c.toNat_lt
    cases hg : gapB c <;> rw [hg] at G1 hsep
    · by_cases h47 : c = 47
      · have n47 : (c.toNat : Int) = 47 := by rw [h47]; rfl
        have hy := hx.next (by rw [hsep, h47]; rfl)
        generalize pz s (c :: t) = p at *
        generalize hpt : pz s t = pt at *
        repeat' (first | refine a_f ?_ | refine st_nil ?_ | refine tri_seq ?_ | refine tri_region rfl ?_ | refine a_draw ?_ | (apply st_r rfl; case hq => first | exact q_indexE (i' := s.length - (t.length + 1)) (c := c) (by conv => lhs; whnf) (by conv => lhs; whnf) (by omega) (by kernel_rfl) g1 | exact q_call G1 (hcf := Tryz.call118) rfl rfl | exact a_lens | exact a_index | exact a_add | exact a_adds0 | exact a_addsc | exact a_adds | exact a_sub | exact a_slo | exact a_shi | exact a_slh | exact a_lensl | exact a_lenro | exact a_lennil | exact a_lenpts | exact a_field | exact a_fielde | exact a_fieldr | exact a_idxsl | exact a_load | exact a_loada | exact a_mki | exact a_build2 | exact a_build3 | exact a_build1 | exact a_build0 | exact a_bs1 | exact a_bs2 | exact a_bs3 | exact a_bs4 | exact a_bsa | exact a_boxr) | (apply st_rif rfl; (case hq => first | exact a_lss | exact a_gtr | exact a_eql | exact a_neq | exact a_eqls0 | exact a_neqs0 | exact a_eqls | exact a_neqs | exact a_leq | exact a_geq); all_goals (intro _; try (exfalso; first | omega | contradiction))) | (apply st_rw rfl rfl; case hq => first | exact a_store) | refine tri_true rfl ?_ | refine tri_false rfl ?_ | refine tri_block ?_ | refine tri_skip ?_ | refine tri_ret ?_ | refine tri_exit ?_)
        exact nextR t hy (weak_st ⟨rfl, congrArg (AV.int .i64) (hp1.trans hpt.symm), rfl, rfl, trivial⟩ ⟨rfl, trivial⟩) (show t.length < (c :: t).length by simp)
      · have n47 : (c.toNat : Int) ≠ 47 := u8_ne h47
        rw [hx.out (by rw [hsep]; simpa using h47)]
        generalize pz s (c :: t) = p at *
        repeat' (first | refine a_f ?_ | refine st_nil ?_ | refine tri_seq ?_ | refine tri_region rfl ?_ | refine a_draw ?_ | (apply st_r rfl; case hq => first | exact q_indexE (i' := s.length - (t.length + 1)) (c := c) (by conv => lhs; whnf) (by conv => lhs; whnf) (by omega) (by kernel_rfl) g1 | exact q_call G1 (hcf := Tryz.call118) rfl rfl | exact a_lens | exact a_index | exact a_add | exact a_adds0 | exact a_addsc | exact a_adds | exact a_sub | exact a_slo | exact a_shi | exact a_slh | exact a_lensl | exact a_lenro | exact a_lennil | exact a_lenpts | exact a_field | exact a_fielde | exact a_fieldr | exact a_idxsl | exact a_load | exact a_loada | exact a_mki | exact a_build2 | exact a_build3 | exact a_build1 | exact a_build0 | exact a_bs1 | exact a_bs2 | exact a_bs3 | exact a_bs4 | exact a_bsa | exact a_boxr) | (apply st_rif rfl; (case hq => first | exact a_lss | exact a_gtr | exact a_eql | exact a_neq | exact a_eqls0 | exact a_neqs0 | exact a_eqls | exact a_neqs | exact a_leq | exact a_geq); all_goals (intro _; try (exfalso; first | omega | contradiction))) | (apply st_rw rfl rfl; case hq => first | exact a_store) | refine tri_true rfl ?_ | refine tri_false rfl ?_ | refine tri_block ?_ | refine tri_skip ?_ | refine tri_ret ?_ | refine tri_exit ?_)
        exact ⟨(), trivial, weak_st ⟨rfl, rfl, rfl, rfl, trivial⟩ ⟨rfl, trivial⟩⟩
    · have hy := hx.next hsep
      generalize pz s (c :: t) = p at *
      generalize hpt : pz s t = pt at *
      repeat' (first | refine a_f ?_ | refine st_nil ?_ | refine tri_seq ?_ | refine tri_region rfl ?_ | refine a_draw ?_ | (apply st_r rfl; case hq => first | exact q_indexE (i' := s.length - (t.length + 1)) (c := c) (by conv => lhs; whnf) (by conv => lhs; whnf) (by omega) (by kernel_rfl) g1 | exact q_call G1 (hcf := Tryz.call118) rfl rfl | exact a_lens | exact a_index | exact a_add | exact a_adds0 | exact a_addsc | exact a_adds | exact a_sub | exact a_slo | exact a_shi | exact a_slh | exact a_lensl | exact a_lenro | exact a_lennil | exact a_lenpts | exact a_field | exact a_fielde | exact a_fieldr | exact a_idxsl | exact a_load | exact a_loada | exact a_mki | exact a_build2 | exact a_build3 | exact a_build1 | exact a_build0 | exact a_bs1 | exact a_bs2 | exact a_bs3 | exact a_bs4 | exact a_bsa | exact a_boxr) | (apply st_rif rfl; (case hq => first | exact a_lss | exact a_gtr | exact a_eql | exact a_neq | exact a_eqls0 | exact a_neqs0 | exact a_eqls | exact a_neqs | exact a_leq | exact a_geq); all_goals (intro _; try (exfalso; first | omega | contradiction))) | (apply st_rw rfl rfl; case hq => first | exact a_store) | refine tri_true rfl ?_ | refine tri_false rfl ?_ | refine tri_block ?_ | refine tri_skip ?_ | refine tri_ret ?_ | refine tri_exit ?_)
      exact nextR t hy (weak_st ⟨rfl, congrArg (AV.int .i64) (hp1.trans hpt.symm), rfl, rfl, trivial⟩ ⟨rfl, trivial⟩) (show t.length < (c :: t).length by simp)
/-- along an attribute's name, which begins at ra -/
abbrev KS (s nm ra : B) (L : List Lk) (r : B) : St := st [(0, .str s), (1, .int .i64 (pz s ra)), (6, .sl 101), (7, .str nm), (9, .int .i64 (pz s r))] [(101, .rows LkT 3 (lkRows L))]
set_option maxHeartbeats 4000000 in
theorem tg_attr (s r0 nm ra : B) (L : List Lk) (hs : s.length ≤ 100000000) (r : B) (hx : SkI s r0 (fun c => !endB c) r) : Tri (TgC w hw) (tgL 3) (KS s nm ra L r) (loopQ (TgC w hw) (SkI s r0 (fun c => !endB c)) (KS s nm ra L) (fun r => r.length) r.length (blockQ 6 (thenQ (fun σ' => ∃ z : Unit, True ∧ Weak (TgC w hw) σ' (KS s nm ra L (r0.dropWhile (fun c => !endB c)))) Q))) := by
  unfold KS
  cases r with
  | nil =>
    have e : r0.dropWhile (fun c => !endB c) = [] := hx.2.symm
    rw [e]
    have hp := pz_nil s
    generalize pz s [] = p at *
    generalize pz s ra = pa at *
    repeat' (first | refine a_f ?_ | refine st_nil ?_ | refine tri_seq ?_ | refine tri_region rfl ?_ | refine a_draw ?_ | (apply st_r rfl; case hq => first | exact a_lens | exact a_index | exact a_add | exact a_adds0 | exact a_addsc | exact a_adds | exact a_sub | exact a_slo | exact a_shi | exact a_slh | exact a_lensl | exact a_lenro | exact a_lennil | exact a_lenpts | exact a_field | exact a_fielde | exact a_fieldr | exact a_idxsl | exact a_load | exact a_loada | exact a_mki | exact a_build2 | exact a_build3 | exact a_build1 | exact a_build0 | exact a_bs1 | exact a_bs2 | exact a_bs3 | exact a_bs4 | exact a_bsa | exact a_boxr) | (apply st_rif rfl; (case hq => first | exact a_lss | exact a_gtr | exact a_eql | exact a_neq | exact a_eqls0 | exact a_neqs0 | exact a_eqls | exact a_neqs | exact a_leq | exact a_geq); all_goals (intro _; try (exfalso; first | omega | contradiction))) | (apply st_rw rfl rfl; case hq => first | exact a_store) | refine tri_true rfl ?_ | refine tri_false rfl ?_ | refine tri_block ?_ | refine tri_skip ?_ | refine tri_ret ?_ | refine tri_exit ?_)
    exact ⟨(), trivial, weak_st ⟨rfl, rfl, rfl, rfl, rfl, trivial⟩ ⟨rfl, trivial⟩⟩
  | cons c t =>
    have g1 := suf_get hx.1
    have hp1 := pz_cons hx.1
    have hp2 := pz_lt hx.1
    have hpp : pz s (c :: t) = ((s.length - (t.length + 1) : Nat) : Int) := rfl
    simp only [List.length_cons] at g1
    have G1 := gap_c c
    have hend : endB c = (gapB c || (c == 47 || (c == 61 || c == 62))) := rfl
    have hc : c.toNat < 256 := c.toNat_lt
    cases hg : gapB c <;> rw [hg] at G1 hend
    · by_cases h47 : c = 47
      · have n47 : (c.toNat : Int) = 47 := by rw [h47]; rfl
        rw [hx.out (by rw [hend, h47]; rfl)]
        generalize pz s (c :: t) = p at *
        generalize pz s ra = pa at *
        repeat' (first | refine a_f ?_ | refine st_nil ?_ | refine tri_seq ?_ | refine tri_region rfl ?_ | refine a_draw ?_ | (apply st_r rfl; case hq => first | exact q_indexE (i' := s.length - (t.length + 1)) (c := c) (by conv => lhs; whnf) (by conv => lhs; whnf) (by omega) (by kernel_rfl) g1 | exact q_call G1 (hcf := Tryz.call118) rfl rfl | exact a_lens | exact a_index | exact a_add | exact a_adds0 | exact a_addsc | exact a_adds | exact a_sub | exact a_slo | exact a_shi | exact a_slh | exact a_lensl | exact a_lenro | exact a_lennil | exact a_lenpts | exact a_field | exact a_fielde | exact a_fieldr | exact a_idxsl | exact a_load | exact a_loada | exact a_mki | exact a_build2 | exact a_build3 | exact a_build1 | exact a_build0 | exact a_bs1 | exact a_bs2 | exact a_bs3 | exact a_bs4 | exact a_bsa | exact a_boxr) | (apply st_rif rfl; (case hq => first | exact a_lss | exact a_gtr | exact a_eql | exact a_neq | exact a_eqls0 | exact a_neqs0 | exact a_eqls | exact a_neqs | exact a_leq | exact a_geq); all_goals (intro _; try (exfalso; first | omega | contradiction))) | (apply st_rw rfl rfl; case hq => first | exact a_store) | refine tri_true rfl ?_ | refine tri_false rfl ?_ | refine tri_block ?_ | refine tri_skip ?_ | refine tri_ret ?_ | refine tri_exit ?_)
        exact ⟨(), trivial, weak_st ⟨rfl, rfl, rfl, rfl, rfl, trivial⟩ ⟨rfl, trivial⟩⟩
      by_cases h61 : c = 61
      · have n61 : (c.toNat : Int) = 61 := by rw [h61]; rfl
        rw [hx.out (by rw [hend, h61]; rfl)]
        generalize pz s (c :: t) = p at *
        generalize pz s ra = pa at *
        repeat' (first | refine a_f ?_ | refine st_nil ?_ | refine tri_seq ?_ | refine tri_region rfl ?_ | refine a_draw ?_ | (apply st_r rfl; case hq => first | exact q_indexE (i' := s.length - (t.length + 1)) (c := c) (by conv => lhs; whnf) (by conv => lhs; whnf) (by omega) (by kernel_rfl) g1 | exact q_call G1 (hcf := Tryz.call118) rfl rfl | exact a_lens | exact a_index | exact a_add | exact a_adds0 | exact a_addsc | exact a_adds | exact a_sub | exact a_slo | exact a_shi | exact a_slh | exact a_lensl | exact a_lenro | exact a_lennil | exact a_lenpts | exact a_field | exact a_fielde | exact a_fieldr | exact a_idxsl | exact a_load | exact a_loada | exact a_mki | exact a_build2 | exact a_build3 | exact a_build1 | exact a_build0 | exact a_bs1 | exact a_bs2 | exact a_bs3 | exact a_bs4 | exact a_bsa | exact a_boxr) | (apply st_rif rfl; (case hq => first | exact a_lss | exact a_gtr | exact a_eql | exact a_neq | exact a_eqls0 | exact a_neqs0 | exact a_eqls | exact a_neqs | exact a_leq | exact a_geq); all_goals (intro _; try (exfalso; first | omega | contradiction))) | (apply st_rw rfl rfl; case hq => first | exact a_store) | refine tri_true rfl ?_ | refine tri_false rfl ?_ | refine tri_block ?_ | refine tri_skip ?_ | refine tri_ret ?_ | refine tri_exit ?_)
        exact ⟨(), trivial, weak_st ⟨rfl, rfl, rfl, rfl, rfl, trivial⟩ ⟨rfl, trivial⟩⟩
      by_cases h62 : c = 62
      · have n62 : (c.toNat : Int) = 62 := by rw [h62]; rfl
        rw [hx.out (by rw [hend, h62]; rfl)]
        generalize pz s (c :: t) = p at *
        generalize pz s ra = pa at *
        repeat' (first | refine a_f ?_ | refine st_nil ?_ | refine tri_seq ?_ | refine tri_region rfl ?_ | refine a_draw ?_ | (apply st_r rfl; case hq => first | exact q_indexE (i' := s.length - (t.length + 1)) (c := c) (by conv => lhs; whnf) (by conv => lhs; whnf) (by omega) (by kernel_rfl) g1 | exact q_call G1 (hcf := Tryz.call118) rfl rfl | exact a_lens | exact a_index | exact a_add | exact a_adds0 | exact a_addsc | exact a_adds | exact a_sub | exact a_slo | exact a_shi | exact a_slh | exact a_lensl | exact a_lenro | exact a_lennil | exact a_lenpts | exact a_field | exact a_fielde | exact a_fieldr | exact a_idxsl | exact a_load | exact a_loada | exact a_mki | exact a_build2 | exact a_build3 | exact a_build1 | exact a_build0 | exact a_bs1 | exact a_bs2 | exact a_bs3 | exact a_bs4 | exact a_bsa | exact a_boxr) | (apply st_rif rfl; (case hq => first | exact a_lss | exact a_gtr | exact a_eql | exact a_neq | exact a_eqls0 | exact a_neqs0 | exact a_eqls | exact a_neqs | exact a_leq | exact a_geq); all_goals (intro _; try (exfalso; first | omega | contradiction))) | (apply st_rw rfl rfl; case hq => first | exact a_store) | refine tri_true rfl ?_ | refine tri_false rfl ?_ | refine tri_block ?_ | refine tri_skip ?_ | refine tri_ret ?_ | refine tri_exit ?_)
        exact ⟨(), trivial, weak_st ⟨rfl, rfl, rfl, rfl, rfl, trivial⟩ ⟨rfl, trivial⟩⟩
      have n47 : (c.toNat : Int) ≠ 47 := u8_ne h47
      have n61 : (c.toNat : Int) ≠ 61 := u8_ne h61
      have n62 : (c.toNat : Int) ≠ 62 := u8_ne h62
      have hy := hx.next (by rw [hend]; simp [h47, h61, h62])
      generalize pz s (c :: t) = p at *
      generalize pz s ra = pa at *
      generalize hpt : pz s t = pt at *
      repeat' (first | refine a_f ?_ | refine st_nil ?_ | refine tri_seq ?_ | refine tri_region rfl ?_ | refine a_draw ?_ | (apply st_r rfl; case hq => first | exact q_indexE (i' := s.length - (t.length + 1)) (c := c) (by conv => lhs; whnf) (by conv => lhs; whnf) (by omega) (by kernel_rfl) g1 | exact q_call G1 (hcf := Tryz.call118) rfl rfl | exact a_lens | exact a_index | exact a_add | exact a_adds0 | exact a_addsc | exact a_adds | exact a_sub | exact a_slo | exact a_shi | exact a_slh | exact a_lensl | exact a_lenro | exact a_lennil | exact a_lenpts | exact a_field | exact a_fielde | exact a_fieldr | exact a_idxsl | exact a_load | exact a_loada | exact a_mki | exact a_build2 | exact a_build3 | exact a_build1 | exact a_build0 | exact a_bs1 | exact a_bs2 | exact a_bs3 | exact a_bs4 | exact a_bsa | exact a_boxr) | (apply st_rif rfl; (case hq => first | exact a_lss | exact a_gtr | exact a_eql | exact a_neq | exact a_eqls0 | exact a_neqs0 | exact a_eqls | exact a_neqs | exact a_leq | exact a_geq); all_goals (intro _; try (exfalso; first | omega | contradiction))) | (apply st_rw rfl rfl; case hq => first | exact a_store) | refine tri_true rfl ?_ | refine tri_false rfl ?_ | refine tri_block ?_ | refine tri_skip ?_ | refine tri_ret ?_ | refine tri_exit ?_)
      exact nextR t hy (weak_st ⟨rfl, rfl, rfl, rfl, congrArg (AV.int .i64) (hp1.trans hpt.symm), trivial⟩ ⟨rfl, trivial⟩) (show t.length < (c :: t).length by simp)
    · rw [hx.out (by rw [hend]; rfl)]
      generalize pz s (c :: t) = p at *
      generalize pz s ra = pa at *
      repeat' (first | refine a_f ?_ | refine st_nil ?_ | refine tri_seq ?_ | refine tri_region rfl ?_ | refine a_draw ?_ | (apply st_r rfl; case hq => first | exact q_indexE (i' := s.length - (t.length + 1)) (c := c) (by conv => lhs; whnf) (by conv => lhs; whnf) (by omega) (by kernel_rfl) g1 | exact q_call G1 (hcf := Tryz.call118) rfl rfl | exact a_lens | exact a_index | exact a_add | exact a_adds0 | exact a_addsc | exact a_adds | exact a_sub | exact a_slo | exact a_shi | exact a_slh | exact a_lensl | exact a_lenro | exact a_lennil | exact a_lenpts | exact a_field | exact a_fielde | exact a_fieldr | exact a_idxsl | exact a_load | exact a_loada | exact a_mki | exact a_build2 | exact a_build3 | exact a_build1 | exact a_build0 | exact a_bs1 | exact a_bs2 | exact a_bs3 | exact a_bs4 | exact a_bsa | exact a_boxr) | (apply st_rif rfl; (case hq => first | exact a_lss | exact a_gtr | exact a_eql | exact a_neq | exact a_eqls0 | exact a_neqs0 | exact a_eqls | exact a_neqs | exact a_leq | exact a_geq); all_goals (intro _; try (exfalso; first | omega | contradiction))) | (apply st_rw rfl rfl; case hq => first | exact a_store) | refine tri_true rfl ?_ | refine tri_false rfl ?_ | refine tri_block ?_ | refine tri_skip ?_ | refine tri_ret ?_ | refine tri_exit ?_)
      exact ⟨(), trivial, weak_st ⟨rfl, rfl, rfl, rfl, rfl, trivial⟩ ⟨rfl, trivial⟩⟩
/-- behind an attribute's name -/
abbrev BS (s nm at' : B) (L : List Lk) (r : B) : St := st [(0, .str s), (1, .int .i64 (pz s r)), (6, .sl 101), (7, .str nm), (10, .str at')] [(101, .rows LkT 3 (lkRows L))]
set_option maxHeartbeats 4000000 in
theorem tg_gap (k b : Nat) (hk : k = 4 ∧ b = 8 ∨ k = 5 ∧ b = 10) (s r0 nm at' : B) (L : List Lk) (hs : s.length ≤ 100000000) (r : B) (hx : SkI s r0 gapB r) : Tri (TgC w hw) (tgL k) (BS s nm at' L r) (loopQ (TgC w hw) (SkI s r0 gapB) (BS s nm at' L) (fun r => r.length) r.length (blockQ b (thenQ (fun σ' => ∃ z : Unit, True ∧ Weak (TgC w hw) σ' (BS s nm at' L (r0.dropWhile gapB))) Q))) := by
  unfold BS
  cases r with
  | nil =>
    have e : r0.dropWhile gapB = [] := hx.2.symm
    rw [e]
    have hp := pz_nil s
    generalize pz s [] = p at *
    rcases hk with ⟨rfl, rfl⟩ | ⟨rfl, rfl⟩
    all_goals
      repeat' (first | refine a_f ?_ | refine st_nil ?_ | refine tri_seq ?_ | refine tri_region rfl ?_ | refine a_draw ?_ | (apply st_r rfl; case hq => first | exact a_lens | exact a_index | exact a_add | exact a_adds0 | exact a_addsc | exact a_adds | exact a_sub | exact a_slo | exact a_shi | exact a_slh | exact a_lensl | exact a_lenro | exact a_lennil | exact a_lenpts | exact a_field | exact a_fielde | exact a_fieldr | exact a_idxsl | exact a_load | exact a_loada | exact a_mki | exact a_build2 | exact a_build3 | exact a_build1 | exact a_build0 | exact a_bs1 | exact a_bs2 | exact a_bs3 | exact a_bs4 | exact a_bsa | exact a_boxr) | (apply st_rif rfl; (case hq => first | exact a_lss | exact a_gtr | exact a_eql | exact a_neq | exact a_eqls0 | exact a_neqs0 | exact a_eqls | exact a_neqs | exact a_leq | exact a_geq); all_goals (intro _; try (exfalso; first | omega | contradiction))) | (apply st_rw rfl rfl; case hq => first | exact a_store) | refine tri_true rfl ?_ | refine tri_false rfl ?_ | refine tri_block ?_ | refine tri_skip ?_ | refine tri_ret ?_ | refine tri_exit ?_)
      exact ⟨(), trivial, weak_st ⟨rfl, rfl, rfl, rfl, rfl, trivial⟩ ⟨rfl, trivial⟩⟩
  | cons c t =>
    have g1 := suf_get hx.1
    have hp1 := pz_cons hx.1
    have hp2 := pz_lt hx.1
    have hpp : pz s (c :: t) = ((s.length - (t.length + 1) : Nat) : Int) := rfl
    simp only [List.length_cons] at g1
    have G1 := gap_c c
    have hc : c.toNat < 256 := c.toNat_lt
    cases hg : gapB c <;> rw [hg] at G1
    · rw [hx.out hg]
      generalize pz s (c :: t) = p at *
      rcases hk with ⟨rfl, rfl⟩ | ⟨rfl, rfl⟩
      all_goals
        repeat' (first | refine a_f ?_ | refine st_nil ?_ | refine tri_seq ?_ | refine tri_region rfl ?_ | refine a_draw ?_ | (apply st_r rfl; case hq => first | exact q_indexE (i' := s.length - (t.length + 1)) (c := c) (by conv => lhs; whnf) (by conv => lhs; whnf) (by omega) (by kernel_rfl) g1 | exact q_call G1 (hcf := Tryz.call118) rfl rfl | exact a_lens | exact a_index | exact a_add | exact a_adds0 | exact a_addsc | exact a_adds | exact a_sub | exact a_slo | exact a_shi | exact a_slh | exact a_lensl | exact a_lenro | exact a_lennil | exact a_lenpts | exact a_field | exact a_fielde | exact a_fieldr | exact a_idxsl | exact a_load | exact a_loada | exact a_mki | exact a_build2 | exact a_build3 | exact a_build1 | exact a_build0 | exact a_bs1 | exact a_bs2 | exact a_bs3 | exact a_bs4 | exact a_bsa | exact a_boxr) | (apply st_rif rfl; (case hq => first | exact a_lss | exact a_gtr | exact a_eql | exact a_neq | exact a_eqls0 | exact a_neqs0 | exact a_eqls | exact a_neqs | exact a_leq | exact a_geq); all_goals (intro _; try (exfalso; first | omega | contradiction))) | (apply st_rw rfl rfl; case hq => first | exact a_store) | refine tri_true rfl ?_ | refine tri_false rfl ?_ | refine tri_block ?_ | refine tri_skip ?_ | refine tri_ret ?_ | refine tri_exit ?_)
        exact ⟨(), trivial, weak_st ⟨rfl, rfl, rfl, rfl, rfl, trivial⟩ ⟨rfl, trivial⟩⟩
    · have hy := hx.next hg
      generalize pz s (c :: t) = p at *
      generalize hpt : pz s t = pt at *
      rcases hk with ⟨rfl, rfl⟩ | ⟨rfl, rfl⟩
      all_goals
        repeat' (first | refine a_f ?_ | refine st_nil ?_ | refine tri_seq ?_ | refine tri_region rfl ?_ | refine a_draw ?_ | (apply st_r rfl; case hq => first | exact q_indexE (i' := s.length - (t.length + 1)) (c := c) (by conv => lhs; whnf) (by conv => lhs; whnf) (by omega) (by kernel_rfl) g1 | exact q_call G1 (hcf := Tryz.call118) rfl rfl | exact a_lens | exact a_index | exact a_add | exact a_adds0 | exact a_addsc | exact a_adds | exact a_sub | exact a_slo | exact a_shi | exact a_slh | exact a_lensl | exact a_lenro | exact a_lennil | exact a_lenpts | exact a_field | exact a_fielde | exact a_fieldr | exact a_idxsl | exact a_load | exact a_loada | exact a_mki | exact a_build2 | exact a_build3 | exact a_build1 | exact a_build0 | exact a_bs1 | exact a_bs2 | exact a_bs3 | exact a_bs4 | exact a_bsa | exact a_boxr) | (apply st_rif rfl; (case hq => first | exact a_lss | exact a_gtr | exact a_eql | exact a_neq | exact a_eqls0 | exact a_neqs0 | exact a_eqls | exact a_neqs | exact a_leq | exact a_geq); all_goals (intro _; try (exfalso; first | omega | contradiction))) | (apply st_rw rfl rfl; case hq => first | exact a_store) | refine tri_true rfl ?_ | refine tri_false rfl ?_ | refine tri_block ?_ | refine tri_skip ?_ | refine tri_ret ?_ | refine tri_exit ?_)
        exact nextR t hy (weak_st ⟨rfl, congrArg (AV.int .i64) (hp1.trans hpt.symm), rfl, rfl, rfl, trivial⟩ ⟨rfl, trivial⟩) (show t.length < (c :: t).length by simp)
/-- along a value without quotes, which begins at rv -/
abbrev UVS (s nm at' rv : B) (L : List Lk) (r : B) : St := st [(0, .str s), (1, .int .i64 (pz s rv)), (6, .sl 101), (7, .str nm), (10, .str at'), (11, .int .i64 (pz s rv)), (12, .int .i64 (pz s r))] [(101, .rows LkT 3 (lkRows L))]
set_option maxHeartbeats 4000000 in
theorem tg_val (s r0 nm at' rv : B) (L : List Lk) (hs : s.length ≤ 100000000) (r : B) (hx : SkI s r0 (fun c => !uvB c) r) : Tri (TgC w hw) (tgL 6) (UVS s nm at' rv L r) (loopQ (TgC w hw) (SkI s r0 (fun c => !uvB c)) (UVS s nm at' rv L) (fun r => r.length) r.length (blockQ 12 (thenQ (fun σ' => ∃ z : Unit, True ∧ Weak (TgC w hw) σ' (UVS s nm at' rv L (r0.dropWhile (fun c => !uvB c)))) Q))) := by
  unfold UVS
  cases r with
  | nil =>
    have e : r0.dropWhile (fun c => !uvB c) = [] := hx.2.symm
    rw [e]
    have hp := pz_nil s
    generalize pz s [] = p at *
    generalize pz s rv = pa at *
    repeat' (first | refine a_f ?_ | refine st_nil ?_ | refine tri_seq ?_ | refine tri_region rfl ?_ | refine a_draw ?_ | (apply st_r rfl; case hq => first | exact a_lens | exact a_index | exact a_add | exact a_adds0 | exact a_addsc | exact a_adds | exact a_sub | exact a_slo | exact a_shi | exact a_slh | exact a_lensl | exact a_lenro | exact a_lennil | exact a_lenpts | exact a_field | exact a_fielde | exact a_fieldr | exact a_idxsl | exact a_load | exact a_loada | exact a_mki | exact a_build2 | exact a_build3 | exact a_build1 | exact a_build0 | exact a_bs1 | exact a_bs2 | exact a_bs3 | exact a_bs4 | exact a_bsa | exact a_boxr) | (apply st_rif rfl; (case hq => first | exact a_lss | exact a_gtr | exact a_eql | exact a_neq | exact a_eqls0 | exact a_neqs0 | exact a_eqls | exact a_neqs | exact a_leq | exact a_geq); all_goals (intro _; try (exfalso; first | omega | contradiction))) | (apply st_rw rfl rfl; case hq => first | exact a_store) | refine tri_true rfl ?_ | refine tri_false rfl ?_ | refine tri_block ?_ | refine tri_skip ?_ | refine tri_ret ?_ | refine tri_exit ?_)
    exact ⟨(), trivial, weak_st ⟨rfl, rfl, rfl, rfl, rfl, rfl, rfl, trivial⟩ ⟨rfl, trivial⟩⟩
  | cons c t =>
    have g1 := suf_get hx.1
    have hp1 := pz_cons hx.1
    have hp2 := pz_lt hx.1
    have hpp : pz s (c :: t) = ((s.length - (t.length + 1) : Nat) : Int) := rfl
    simp only [List.length_cons] at g1
    have G1 := gap_c c
    have huv : uvB c = (gapB c || c == 62) := rfl
    have hc : c.toNat < 256 := c.toNat_lt
    cases hg : gapB c <;> rw [hg] at G1 huv
    · by_cases h62 : c = 62
      · have n62 : (c.toNat : Int) = 62 := by rw [h62]; rfl
        rw [hx.out (by rw [huv, h62]; rfl)]
        generalize pz s (c :: t) = p at *
        generalize pz s rv = pa at *
        repeat' (first | refine a_f ?_ | refine st_nil ?_ | refine tri_seq ?_ | refine tri_region rfl ?_ | refine a_draw ?_ | (apply st_r rfl; case hq => first | exact q_indexE (i' := s.length - (t.length + 1)) (c := c) (by conv => lhs; whnf) (by conv => lhs; whnf) (by omega) (by kernel_rfl) g1 | exact q_call G1 (hcf := Tryz.call118) rfl rfl | exact a_lens | exact a_index | exact a_add | exact a_adds0 | exact a_addsc | exact a_adds | exact a_sub | exact a_slo | exact a_shi | exact a_slh | exact a_lensl | exact a_lenro | exact a_lennil | exact a_lenpts | exact a_field | exact a_fielde | exact a_fieldr | exact a_idxsl | exact a_load | exact a_loada | exact a_mki | exact a_build2 | exact a_build3 | exact a_build1 | exact a_build0 | exact a_bs1 | exact a_bs2 | exact a_bs3 | exact a_bs4 | exact a_bsa | exact a_boxr) | (apply st_rif rfl; (case hq => first | exact a_lss | exact a_gtr | exact a_eql | exact a_neq | exact a_eqls0 | exact a_neqs0 | exact a_eqls | exact a_neqs | exact a_leq | exact a_geq); all_goals (intro _; try (exfalso; first | omega | contradiction))) | (apply st_rw rfl rfl; case hq => first | exact a_store) | refine tri_true rfl ?_ | refine tri_false rfl ?_ | refine tri_block ?_ | refine tri_skip ?_ | refine tri_ret ?_ | refine tri_exit ?_)
        exact ⟨(), trivial, weak_st ⟨rfl, rfl, rfl, rfl, rfl, rfl, rfl, trivial⟩ ⟨rfl, trivial⟩⟩
      · have n62 : (c.toNat : Int) ≠ 62 := u8_ne h62
        have hy := hx.next (by rw [huv]; simp [h62])
        generalize pz s (c :: t) = p at *
        generalize pz s rv = pa at *
        generalize hpt : pz s t = pt at *
        repeat' (first | refine a_f ?_ | refine st_nil ?_ | refine tri_seq ?_ | refine tri_region rfl ?_ | refine a_draw ?_ | (apply st_r rfl; case hq => first | exact q_indexE (i' := s.length - (t.length + 1)) (c := c) (by conv => lhs; whnf) (by conv => lhs; whnf) (by omega) (by kernel_rfl) g1 | exact q_call G1 (hcf := Tryz.call118) rfl rfl | exact a_lens | exact a_index | exact a_add | exact a_adds0 | exact a_addsc | exact a_adds | exact a_sub | exact a_slo | exact a_shi | exact a_slh | exact a_lensl | exact a_lenro | exact a_lennil | exact a_lenpts | exact a_field | exact a_fielde | exact a_fieldr | exact a_idxsl | exact a_load | exact a_loada | exact a_mki | exact a_build2 | exact a_build3 | exact a_build1 | exact a_build0 | exact a_bs1 | exact a_bs2 | exact a_bs3 | exact a_bs4 | exact a_bsa | exact a_boxr) | (apply st_rif rfl; (case hq => first | exact a_lss | exact a_gtr | exact a_eql | exact a_neq | exact a_eqls0 | exact a_neqs0 | exact a_eqls | exact a_neqs | exact a_leq | exact a_geq); all_goals (intro _; try (exfalso; first | omega | contradiction))) | (apply st_rw rfl rfl; case hq => first | exact a_store) | refine tri_true rfl ?_ | refine tri_false rfl ?_ | refine tri_block ?_ | refine tri_skip ?_ | refine tri_ret ?_ | refine tri_exit ?_)
        exact nextR t hy (weak_st ⟨rfl, rfl, rfl, rfl, rfl, rfl, congrArg (AV.int .i64) (hp1.trans hpt.symm), trivial⟩ ⟨rfl, trivial⟩) (show t.length < (c :: t).length by simp)
    · rw [hx.out (by rw [huv]; rfl)]
      generalize pz s (c :: t) = p at *
      generalize pz s rv = pa at *
      repeat' (first | refine a_f ?_ | refine st_nil ?_ | refine tri_seq ?_ | refine tri_region rfl ?_ | refine a_draw ?_ | (apply st_r rfl; case hq => first | exact q_indexE (i' := s.length - (t.length + 1)) (c := c) (by conv => lhs; whnf) (by conv => lhs; whnf) (by omega) (by kernel_rfl) g1 | exact q_call G1 (hcf := Tryz.call118) rfl rfl | exact a_lens | exact a_index | exact a_add | exact a_adds0 | exact a_addsc | exact a_adds | exact a_sub | exact a_slo | exact a_shi | exact a_slh | exact a_lensl | exact a_lenro | exact a_lennil | exact a_lenpts | exact a_field | exact a_fielde | exact a_fieldr | exact a_idxsl | exact a_load | exact a_loada | exact a_mki | exact a_build2 | exact a_build3 | exact a_build1 | exact a_build0 | exact a_bs1 | exact a_bs2 | exact a_bs3 | exact a_bs4 | exact a_bsa | exact a_boxr) | (apply st_rif rfl; (case hq => first | exact a_lss | exact a_gtr | exact a_eql | exact a_neq | exact a_eqls0 | exact a_neqs0 | exact a_eqls | exact a_neqs | exact a_leq | exact a_geq); all_goals (intro _; try (exfalso; first | omega | contradiction))) | (apply st_rw rfl rfl; case hq => first | exact a_store) | refine tri_true rfl ?_ | refine tri_false rfl ?_ | refine tri_block ?_ | refine tri_skip ?_ | refine tri_ret ?_ | refine tri_exit ?_)
      exact ⟨(), trivial, weak_st ⟨rfl, rfl, rfl, rfl, rfl, rfl, rfl, trivial⟩ ⟨rfl, trivial⟩⟩
end
end Go.Proofs.YtignjjnflcpiiaaGreatDoor
namespace Go.Proofs.YtignjjnflcpiiaaGreatDoor
open Go.RowKit
set_option maxRecDepth 100000

theorem attrF_nil (n : Nat) : attrF n [] = ⟨none, false, []⟩ := rfl
theorem attrsF_nil (n : Nat) : attrsF n [] = ([], []) := by rw [attrsF_end (by rw [attrF_nil]), attrF_nil]; rfl
theorem pz_lt2 {s r : B} (h : r <:+ s) : 0 ≤ pz s r ∧ pz s r ≤ (s.length : Int) := by
  have := suf_le h
  rw [pz_eq]; omega
theorem find_dw {s v : B} (q : UInt8) (hv : v <:+ s) : ((findN s [q] (s.length - v.length) : Nat) : Int) = pz s (v.dropWhile (· != q)) := by
  have hd := suf_drop hv
  have hle := suf_le hv
  unfold findN
  rw [hd]
  obtain ⟨h1, h2⟩ := index_cut v q
  have hsplit : (v.takeWhile (· != q)).length + (v.dropWhile (· != q)).length = v.length := by
    have := congrArg List.length (List.takeWhile_append_dropWhile (p := (· != q)) (l := v))
    rwa [List.length_append] at this
  cases ha : v.any (· == q) with
  | true =>
    rw [h1 ha, if_neg (by omega), Int.toNat_natCast]
    simp only [pz]; omega
  | false =>
    rw [h2 ha, if_pos (by decide)]
    have : v.dropWhile (· != q) = [] := by
      rw [dw_all]
      intro c hc
      have := List.any_eq_false.1 ha c hc
      simpa using this
    rw [this, pz_nil]
theorem lkF_true {n : Nat} {a r v : B} (h : leadB a = true) : lkF n a r v = some (n - r.length, v.length, unescB v) := by rw [lkF, h]
theorem lkF_false {n : Nat} {a r v : B} (h : leadB a = false) : lkF n a r v = none := by rw [lkF, h]
/-- where a value stands: what begins with it, what stands behind it, what is left -/
structure VJ (s a x : B) (L : List Lk) (z : B × B × B × Int) : Prop where
  s0 : z.1 <:+ s
  s1 : z.2.1 <:+ z.1
  s2 : z.2.2.1 <:+ s
  val : valueF s.length a x = match z.2.1 with
    | [] => ⟨none, false, []⟩
    | _ :: _ => ⟨lkF s.length a z.1 (z.1.take (z.1.length - z.2.1.length)), true, z.2.2.1⟩
  nxt : z.2.1 ≠ [] → z.2.2.2 = pz s z.2.2.1
abbrev VS (s nm a x : B) (L : List Lk) (z : B × B × B × Int) : St := st [(0, .str s), (1, .int .i64 (pz s x)), (6, .sl 101), (7, .str nm), (10, .str a), (11, .int .i64 (pz s z.1)), (12, .int .i64 (pz s z.2.1)), (13, .int .i64 z.2.2.2)] [(101, .rows LkT 3 (lkRows L))]
structure RI (s : B) (Lend : List Lk) (rend : B) (x : List Lk × B) : Prop where
  suf : x.2 <:+ s
  len : x.1.length + x.2.length ≤ s.length + 1
  all : x.1 ++ (attrsF s.length x.2).1 = Lend
  rst : (attrsF s.length x.2).2 = rend
abbrev RT (s nm : B) (Lend : List Lk) (z : Nat) : St := st [(0, .str s), (1, .int .i64 z), (6, .sl 101), (7, .str nm)] [(101, .rows LkT 3 (lkRows Lend))]
theorem lead_is (a : B) : leadB a = (decide (a = [98, 97, 99, 107, 103, 114, 111, 117, 110, 100]) || (decide (a = [104, 114, 101, 102]) || decide (a = [115, 114, 99]))) := rfl
/-- a round's code behind the blanks that stand behind = -/
noncomputable abbrev tgRest : Code := match tgL 1 with
  | .block _ b => tailN 9 b
  | _ => .skip
noncomputable abbrev tgOut (w : World) (hw : gx.nG ≤ w.heap.size) (s nm : B) (Lend : List Lk) (rend : B) (m : Nat) (Q : Exit → St → Prop) : Exit → St → Prop :=
  loopQ (TgC w hw) (RI s Lend rend) (fun x => AS s nm x.1 x.2) (fun x => x.2.length) m (blockQ 2 (thenQ (fun σ' => ∃ z : Nat, min z s.length = s.length - rend.length ∧ Weak (TgC w hw) σ' (RT s nm Lend z)) Q))
section
attribute [local irreducible] Tri Steps Qd Wr Weak CPure CEff CNew CutN AllB Behind
set_option maxHeartbeats 16000000 in
theorem tg_value {w : World} (hw : gx.nG ≤ w.heap.size) (Q : Exit → St → Prop) (s nm a : B) (L Lend : List Lk) (rend : B) (hs : s.length ≤ 100000000) (r x : B) (hv : attrF s.length r = valueF s.length a x) (hx : x <:+ s) (hxl : x.length < r.length) (hln : L.length + r.length ≤ s.length + 1)
    (hall : L ++ (attrsF s.length r).1 = Lend) (hrst : (attrsF s.length r).2 = rend) : Tri (TgC w hw) tgRest (BS s nm a L x) (blockQ 3 (tgOut w hw s nm Lend rend r.length Q)) := by
  cases x with
  | nil =>
    have hv : attrF s.length r = ⟨none, false, []⟩ := hv
    rw [attrsF_end (by rw [hv]), hv] at hall hrst
    simp only [Option.toList_none, List.append_nil] at hall hrst
    subst hall; subst hrst
    have hp := pz_nil s
    change Tri _ _ (st [(0, .str s), (1, .int .i64 (pz s [])), (6, .sl 101), (7, .str nm), (10, .str a)] [(101, .rows LkT 3 (lkRows L))]) _
    generalize pz s [] = p at *
    repeat' (first | refine a_f ?_ | refine st_nil ?_ | refine tri_seq ?_ | refine tri_region rfl ?_ | refine a_draw ?_ | (apply st_r rfl; case hq => first | exact a_lens | exact a_index | exact a_add | exact a_adds0 | exact a_addsc | exact a_adds | exact a_sub | exact a_slo | exact a_shi | exact a_slh | exact a_lensl | exact a_lenro | exact a_lennil | exact a_lenpts | exact a_field | exact a_fielde | exact a_fieldr | exact a_idxsl | exact a_load | exact a_loada | exact a_mki | exact a_build2 | exact a_build3 | exact a_build1 | exact a_build0 | exact a_bs1 | exact a_bs2 | exact a_bs3 | exact a_bs4 | exact a_bsa | exact a_boxr) | (apply st_rif rfl; (case hq => first | exact a_lss | exact a_gtr | exact a_eql | exact a_neq | exact a_eqls0 | exact a_neqs0 | exact a_eqls | exact a_neqs | exact a_leq | exact a_geq); all_goals (intro _; try (exfalso; first | omega | contradiction))) | (apply st_rw rfl rfl; case hq => first | exact a_store) | refine tri_true rfl ?_ | refine tri_false rfl ?_ | refine tri_block ?_ | refine tri_skip ?_ | refine tri_ret ?_ | refine tri_exit ?_)
    exact ⟨s.length, by simp, weak_st ⟨rfl, congrArg (AV.int .i64) hp, rfl, rfl, trivial⟩ ⟨rfl, trivial⟩⟩
  | cons q v =>
    have g1 := suf_get hx
    have hsv := suf_cons hx
    have hle1 := suf_le hx
    have hp1 := pz_cons hx
    have hp2 := pz_lt hx
    have hpp : pz s (q :: v) = ((s.length - (v.length + 1) : Nat) : Int) := rfl
    simp only [List.length_cons] at g1 hle1 hxl
    have hq256 : q.toNat < 256 := q.toNat_lt
    refine tri_cutN (VJ s a (q :: v) L) (fun z => VS s nm a (q :: v) L z) 3 ?_ (fun z hz => ?_)
    · by_cases hq : q = 34 ∨ q = 39
      · have iq : (q.toNat : Int) = 34 ∨ (q.toNat : Int) = 39 := hq.imp (fun e => by rw [e]; rfl) (fun e => by rw [e]; rfl)
        have F1 : CPure gx 64 [.str s, .str [q], .int .i64 (pz s (q :: v) + 1)] (.int .i64 (pz s (v.dropWhile (· != q)))) := by
          have := find_c s [q] (s.length - v.length) hs (by simp) (by omega)
          rw [find_dw q hsv] at this
          rw [hp1]
          exact this
        have hpv := pz_lt2 ((suf_dw (· != q) v).trans hsv)
        have hz : VJ s a (q :: v) L (v, v.dropWhile (· != q), (v.dropWhile (· != q)).drop 1, pz s (v.dropWhile (· != q)) + 1) := by
          refine ⟨hsv, suf_dw _ _, (List.drop_suffix _ _).trans ((suf_dw _ _).trans hsv), ?_, fun hne => ?_⟩
          · simp only [valueF]
            rw [if_pos hq]
            cases hd : v.dropWhile (· != q) with
            | nil => rfl
            | cons d u =>
              have := dw_some hd
              have htk : v.take (v.length - (d :: u).length) = v.takeWhile (· != q) := by
                generalize v.takeWhile (· != q) = tw at this
                subst this
                rw [List.length_append, Nat.add_sub_cancel, List.take_left' rfl]
              simp only [htk, List.drop_succ_cons, List.drop_zero]
          · cases hd : v.dropWhile (· != q) with
            | nil => exact absurd hd hne
            | cons d u =>
              exact pz_cons (by rw [← hd]; exact (suf_dw _ _).trans hsv)
        generalize v.dropWhile (· != q) = v1 at F1 hz hpv
        rcases iq with iq | iq
        all_goals
          repeat' (first | refine a_f ?_ | refine st_nil ?_ | refine tri_seq ?_ | refine tri_region rfl ?_ | refine cut_s ?_ | refine a_draw ?_ | (apply st_r rfl; case hq => first | exact q_indexE (i' := s.length - (v.length + 1)) (c := q) (by conv => lhs; whnf) (by conv => lhs; whnf) (by omega) (by kernel_rfl) g1 | exact q_bstr [q] (by conv => lhs; whnf) (by rfl) (by first | exact Tryz.underlying22 | exact Tryz.underlying23 | exact Tryz.underlying43 | exact Tryz.underlying44 | exact Tryz.underlying51 | exact Tryz.underlying86 | exact Tryz.underlying191 | exact Tryz.underlying209 | exact Tryz.underlying234 | exact Tryz.underlying270 | exact Tryz.underlying281 | exact Tryz.underlying344) Tryz.underlying5 (by kernel_rfl) | exact q_call F1 (hcf := Tryz.call64) rfl rfl | exact a_lens | exact a_index | exact a_add | exact a_adds0 | exact a_addsc | exact a_adds | exact a_sub | exact a_slo | exact a_shi | exact a_slh | exact a_lensl | exact a_lenro | exact a_lennil | exact a_lenpts | exact a_field | exact a_fielde | exact a_fieldr | exact a_idxsl | exact a_load | exact a_loada | exact a_mki | exact a_build2 | exact a_build3 | exact a_build1 | exact a_build0 | exact a_bs1 | exact a_bs2 | exact a_bs3 | exact a_bs4 | exact a_bsa | exact a_boxr) | (apply st_rif rfl; (case hq => first | exact a_lss | exact a_gtr | exact a_eql | exact a_neq | exact a_eqls0 | exact a_neqs0 | exact a_eqls | exact a_neqs | exact a_leq | exact a_geq); all_goals (intro _; try (exfalso; first | omega | contradiction))) | (apply st_rw rfl rfl; case hq => first | exact a_store) | refine tri_true rfl ?_ | refine tri_false rfl ?_ | refine tri_block ?_ | refine tri_skip ?_ | refine tri_ret ?_ | refine tri_exit ?_)
          exact cut_z _ hz (weak_st ⟨rfl, rfl, rfl, rfl, rfl, congrArg (AV.int .i64) hp1, rfl, rfl, trivial⟩ ⟨rfl, trivial⟩)
      · have iq : (q.toNat : Int) ≠ 34 ∧ (q.toNat : Int) ≠ 39 := ⟨fun e => hq (.inl (u8_eq (d := 34) e)), fun e => hq (.inr (u8_eq (d := 39) e))⟩
        repeat' (first | refine a_f ?_ | refine st_nil ?_ | refine tri_seq ?_ | refine tri_region rfl ?_ | refine cut_s ?_ | refine a_draw ?_ | (apply st_r rfl; case hq => first | exact q_indexE (i' := s.length - (v.length + 1)) (c := q) (by conv => lhs; whnf) (by conv => lhs; whnf) (by omega) (by kernel_rfl) g1 | exact a_lens | exact a_index | exact a_add | exact a_adds0 | exact a_addsc | exact a_adds | exact a_sub | exact a_slo | exact a_shi | exact a_slh | exact a_lensl | exact a_lenro | exact a_lennil | exact a_lenpts | exact a_field | exact a_fielde | exact a_fieldr | exact a_idxsl | exact a_load | exact a_loada | exact a_mki | exact a_build2 | exact a_build3 | exact a_build1 | exact a_build0 | exact a_bs1 | exact a_bs2 | exact a_bs3 | exact a_bs4 | exact a_bsa | exact a_boxr) | (apply st_rif rfl; (case hq => first | exact a_lss | exact a_gtr | exact a_eql | exact a_neq | exact a_eqls0 | exact a_neqs0 | exact a_eqls | exact a_neqs | exact a_leq | exact a_geq); all_goals (intro _; try (exfalso; first | omega | contradiction))) | (apply st_rw rfl rfl; case hq => first | exact a_store) | refine tri_true rfl ?_ | refine tri_false rfl ?_ | refine tri_block ?_ | refine tri_skip ?_ | refine tri_ret ?_ | refine tri_exit ?_)
        refine tri_loop_to (SkI s (q :: v) (fun c => !uvB c)) (UVS s nm a (q :: v) L) (fun r => r.length) (fun _ : Unit => True) (fun _ => UVS s nm a (q :: v) L ((q :: v).dropWhile (fun c => !uvB c))) (q :: v) ⟨hx, rfl⟩ ?hw5 weak_tri (fun x hx => tg_val hw _ s (q :: v) nm a (q :: v) L hs x hx) (fun _ _ => ?_)
        case hw5 => exact weak_st ⟨rfl, rfl, rfl, rfl, rfl, rfl, rfl, trivial⟩ ⟨rfl, trivial⟩
        have hz : VJ s a (q :: v) L (q :: v, (q :: v).dropWhile (fun c => !uvB c), (q :: v).dropWhile (fun c => !uvB c), pz s ((q :: v).dropWhile (fun c => !uvB c))) := by
          refine ⟨hx, suf_dw _ _, (suf_dw _ _).trans hx, ?_, fun _ => rfl⟩
          simp only [valueF]
          rw [if_neg hq]
          cases hd : (q :: v).dropWhile (fun c => !uvB c) with
          | nil => rfl
          | cons d u =>
            have := dw_some hd
            have htk : (q :: v).take ((q :: v).length - (d :: u).length) = (q :: v).takeWhile (fun c => !uvB c) := by
              generalize (q :: v).takeWhile (fun c => !uvB c) = tw at this
              rw [this, List.length_append, Nat.add_sub_cancel, List.take_left' rfl]
            simp only [htk]
        generalize (q :: v).dropWhile (fun c => !uvB c) = v1 at hz ⊢
        repeat' (first | refine a_f ?_ | refine st_nil ?_ | refine tri_seq ?_ | refine tri_region rfl ?_ | refine cut_s ?_ | refine a_draw ?_ | (apply st_r rfl; case hq => first | exact a_lens | exact a_index | exact a_add | exact a_adds0 | exact a_addsc | exact a_adds | exact a_sub | exact a_slo | exact a_shi | exact a_slh | exact a_lensl | exact a_lenro | exact a_lennil | exact a_lenpts | exact a_field | exact a_fielde | exact a_fieldr | exact a_idxsl | exact a_load | exact a_loada | exact a_mki | exact a_build2 | exact a_build3 | exact a_build1 | exact a_build0 | exact a_bs1 | exact a_bs2 | exact a_bs3 | exact a_bs4 | exact a_bsa | exact a_boxr) | (apply st_rif rfl; (case hq => first | exact a_lss | exact a_gtr | exact a_eql | exact a_neq | exact a_eqls0 | exact a_neqs0 | exact a_eqls | exact a_neqs | exact a_leq | exact a_geq); all_goals (intro _; try (exfalso; first | omega | contradiction))) | (apply st_rw rfl rfl; case hq => first | exact a_store) | refine tri_true rfl ?_ | refine tri_false rfl ?_ | refine tri_block ?_ | refine tri_skip ?_ | refine tri_ret ?_ | refine tri_exit ?_)
        exact cut_z _ hz (weak_st ⟨rfl, rfl, rfl, rfl, rfl, rfl, rfl, rfl, trivial⟩ ⟨rfl, trivial⟩)
    · obtain ⟨v0, v1, rest, nx⟩ := z
      obtain ⟨z0, z1, z2, zv, zn⟩ := hz
      simp only at z0 z1 z2 zv zn
      rw [zv] at hv
      have hz1 := z1.trans z0
      cases v1 with
      | nil =>
        have hv : attrF s.length r = ⟨none, false, []⟩ := hv
        rw [attrsF_end (by rw [hv]), hv] at hall hrst
        simp only [Option.toList_none, List.append_nil] at hall hrst
        subst hall; subst hrst
        have hp := pz_nil s
        change Tri _ _ (st [(0, .str s), (1, .int .i64 (pz s (q :: v))), (6, .sl 101), (7, .str nm), (10, .str a), (11, .int .i64 (pz s v0)), (12, .int .i64 (pz s [])), (13, .int .i64 nx)] [(101, .rows LkT 3 (lkRows L))]) _
        generalize pz s [] = p at *
        repeat' (first | refine a_f ?_ | refine st_nil ?_ | refine tri_seq ?_ | refine tri_region rfl ?_ | refine a_draw ?_ | (apply st_r rfl; case hq => first | exact a_lens | exact a_index | exact a_add | exact a_adds0 | exact a_addsc | exact a_adds | exact a_sub | exact a_slo | exact a_shi | exact a_slh | exact a_lensl | exact a_lenro | exact a_lennil | exact a_lenpts | exact a_field | exact a_fielde | exact a_fieldr | exact a_idxsl | exact a_load | exact a_loada | exact a_mki | exact a_build2 | exact a_build3 | exact a_build1 | exact a_build0 | exact a_bs1 | exact a_bs2 | exact a_bs3 | exact a_bs4 | exact a_bsa | exact a_boxr) | (apply st_rif rfl; (case hq => first | exact a_lss | exact a_gtr | exact a_eql | exact a_neq | exact a_eqls0 | exact a_neqs0 | exact a_eqls | exact a_neqs | exact a_leq | exact a_geq); all_goals (intro _; try (exfalso; first | omega | contradiction))) | (apply st_rw rfl rfl; case hq => first | exact a_store) | refine tri_true rfl ?_ | refine tri_false rfl ?_ | refine tri_block ?_ | refine tri_skip ?_ | refine tri_ret ?_ | refine tri_exit ?_)
        exact ⟨s.length, by simp, weak_st ⟨rfl, rfl, rfl, rfl, trivial⟩ ⟨rfl, trivial⟩⟩
      | cons d u =>
        have hv : attrF s.length r = ⟨lkF s.length a v0 (v0.take (v0.length - (d :: u).length)), true, rest⟩ := hv
        have hlt := attrF_lt (n := s.length) (r := r) (by rw [hv])
        rw [attrsF_more (by rw [hv]), hv] at hall hrst
        rw [hv] at hlt
        simp only at hall hrst hlt
        have hnx := zn (by simp)
        subst hnx
        obtain ⟨v2, hv2⟩ := z1
        have htk : v0.take (v0.length - (d :: u).length) = v2 := by
          rw [← hv2, List.length_append, Nat.add_sub_cancel, List.take_left' rfl]
        rw [htk] at hall
        have hcut := suf_cut (a := v2) (b := d :: u) (s := s) (by rw [hv2]; exact z0)
        have hvl := congrArg List.length hv2
        have hz0l := suf_le z0
        have hp2 := pz_lt hz1
        rw [hv2] at hcut
        rw [List.length_append] at hvl
        have e0 : pz s v0 = ((s.length - v0.length : Nat) : Int) := rfl
        have e1 : pz s (d :: u) = ((s.length - v0.length + v2.length : Nat) : Int) := by rw [pz_eq]; omega
        change Tri _ _ (st [(0, .str s), (1, .int .i64 (pz s (q :: v))), (6, .sl 101), (7, .str nm), (10, .str a), (11, .int .i64 (pz s v0)), (12, .int .i64 (pz s (d :: u))), (13, .int .i64 (pz s rest))] [(101, .rows LkT 3 (lkRows L))]) _
        cases hld : leadB a with
        | false =>
          rw [lkF_false hld] at hall
          simp only [Option.toList_none, List.nil_append] at hall
          rw [lead_is] at hld
          simp only [Bool.or_eq_false_iff, decide_eq_false_iff_not] at hld
          obtain ⟨l1, l2, l3⟩ := hld
          repeat' (first | refine a_f ?_ | refine st_nil ?_ | refine tri_seq ?_ | refine tri_region rfl ?_ | refine a_draw ?_ | (apply st_r rfl; case hq => first | exact a_lens | exact a_index | exact a_add | exact a_adds0 | exact a_addsc | exact a_adds | exact a_sub | exact a_slo | exact a_shi | exact a_slh | exact a_lensl | exact a_lenro | exact a_lennil | exact a_lenpts | exact a_field | exact a_fielde | exact a_fieldr | exact a_idxsl | exact a_load | exact a_loada | exact a_mki | exact a_build2 | exact a_build3 | exact a_build1 | exact a_build0 | exact a_bs1 | exact a_bs2 | exact a_bs3 | exact a_bs4 | exact a_bsa | exact a_boxr) | (apply st_rif rfl; (case hq => first | exact a_lss | exact a_gtr | exact a_eql | exact a_neq | exact a_eqls0 | exact a_neqs0 | exact a_eqls | exact a_neqs | exact a_leq | exact a_geq); all_goals (intro _; try (exfalso; first | omega | contradiction))) | (apply st_rw rfl rfl; case hq => first | exact a_store) | refine tri_true rfl ?_ | refine tri_false rfl ?_ | refine tri_block ?_ | refine tri_skip ?_ | refine tri_ret ?_ | refine tri_exit ?_)
          exact nextR (L, rest) ⟨z2, by simp only; omega, hall, hrst⟩ (weak_st ⟨rfl, rfl, rfl, rfl, trivial⟩ ⟨rfl, trivial⟩) hlt
        | true =>
          rw [lkF_true hld] at hall
          simp only [Option.toList_some] at hall
          have U1 := runescape_c v2 (by omega)
          have hrw : lkRows (L ++ [(s.length - v0.length, v2.length, unescB v2)]) = lkRows L ++ [[.int .i64 (pz s v0), .int .i64 (pz s (d :: u) - pz s v0), .str (unescB v2)]] := by
            rw [lkRows_app, show pz s (d :: u) - pz s v0 = (v2.length : Int) by rw [e0, e1]; omega]; rfl
          have hll : (lkRows L).length = L.length := by simp [lkRows]
          have hst : RI s Lend rend (L ++ [(s.length - v0.length, v2.length, unescB v2)], rest) := ⟨z2, by simp only [List.length_append, List.length_cons, List.length_nil]; omega, by simp only [List.append_assoc]; exact hall, hrst⟩
          rw [lead_is] at hld
          have l3 : a = [115, 114, 99] ∨ (¬ a = [115, 114, 99] ∧ a = [104, 114, 101, 102]) ∨ (¬ a = [115, 114, 99] ∧ ¬ a = [104, 114, 101, 102] ∧ a = [98, 97, 99, 107, 103, 114, 111, 117, 110, 100]) := by
            by_cases h1 : a = [115, 114, 99]
            · exact .inl h1
            by_cases h2 : a = [104, 114, 101, 102]
            · exact .inr (.inl ⟨h1, h2⟩)
            · exact .inr (.inr ⟨h1, h2, by simpa [h1, h2] using hld⟩)
          clear hld
          generalize unescB v2 = uv at U1 hrw hst
          generalize pz s v0 = p0 at *
          generalize pz s (d :: u) = p1 at *
          rcases l3 with l1 | ⟨l1, l2⟩ | ⟨l1, l2, l3⟩
          all_goals
            repeat' (first | refine a_f ?_ | refine st_nil ?_ | refine tri_seq ?_ | refine tri_region rfl ?_ | refine a_draw ?_ | (apply st_r rfl; case hq => first | exact q_slice_lhE (m' := s.length - v0.length) (n' := s.length - v0.length + v2.length) (l := v2) (by conv => lhs; whnf) (by conv => lhs; whnf) (by conv => lhs; whnf) (by omega) (by omega) (by kernel_rfl) (by omega) (by omega) hcut | exact q_call U1 (hcf := Tryz.call119) rfl rfl | exact q_bsa (sz := 3) (by first | exact Tryz.underlying22 | exact Tryz.underlying23 | exact Tryz.underlying43 | exact Tryz.underlying44 | exact Tryz.underlying51 | exact Tryz.underlying86 | exact Tryz.underlying191 | exact Tryz.underlying209 | exact Tryz.underlying234 | exact Tryz.underlying270 | exact Tryz.underlying281 | exact Tryz.underlying344) (by kernel_rfl) (by kernel_rfl) (by first | rfl | exact Nat.le_of_ble_eq_true rfl | exact Nat.succ_pos _ | decide) (by first | rfl | exact Nat.le_of_ble_eq_true rfl | exact Nat.succ_pos _ | decide) (by conv => lhs; whnf) rfl rfl | exact a_lens | exact a_index | exact a_add | exact a_adds0 | exact a_addsc | exact a_adds | exact a_sub | exact a_slo | exact a_shi | exact a_slh | exact a_lensl | exact a_lenro | exact a_lennil | exact a_lenpts | exact a_field | exact a_fielde | exact a_fieldr | exact a_idxsl | exact a_load | exact a_loada | exact a_mki | exact a_build2 | exact a_build3 | exact a_build1 | exact a_build0 | exact a_bs1 | exact a_bs2 | exact a_bs3 | exact a_bs4 | exact a_bsa | exact a_boxr) | (apply st_rif rfl; (case hq => first | exact a_lss | exact a_gtr | exact a_eql | exact a_neq | exact a_eqls0 | exact a_neqs0 | exact a_eqls | exact a_neqs | exact a_leq | exact a_geq); all_goals (intro _; try (exfalso; first | omega | contradiction))) | (apply st_rw rfl rfl; case hq => first | exact w_append (id := 101) (by conv => lhs; whnf) (by conv => lhs; whnf; arg 1; whnf) (by conv => lhs; whnf) (by first | exact Tryz.underlying22 | exact Tryz.underlying23 | exact Tryz.underlying43 | exact Tryz.underlying44 | exact Tryz.underlying51 | exact Tryz.underlying86 | exact Tryz.underlying191 | exact Tryz.underlying209 | exact Tryz.underlying234 | exact Tryz.underlying270 | exact Tryz.underlying281 | exact Tryz.underlying344) (by kernel_rfl) (by simp) rfl (by simp only [List.length_singleton]; omega) rfl rfl | exact a_store) | refine tri_true rfl ?_ | refine tri_false rfl ?_ | refine tri_block ?_ | refine tri_skip ?_ | refine tri_ret ?_ | refine tri_exit ?_)
            exact nextR (L ++ [(s.length - v0.length, v2.length, uv)], rest) hst (weak_st ⟨rfl, rfl, rfl, rfl, trivial⟩ ⟨congrArg (fun l => some (AObj.rows LkT 3 l)) hrw.symm, trivial⟩) hlt
set_option maxHeartbeats 16000000 in
theorem tg_round {w : World} (hw : gx.nG ≤ w.heap.size) (Q : Exit → St → Prop) (s nm : B) (Lend : List Lk) (rend : B) (hs : s.length ≤ 100000000) (x : List Lk × B) (hx : RI s Lend rend x) :
    Tri (TgC w hw) (tgL 1) (AS s nm x.1 x.2) (loopQ (TgC w hw) (RI s Lend rend) (fun x => AS s nm x.1 x.2) (fun x => x.2.length) x.2.length (blockQ 2 (thenQ (fun σ' => ∃ z : Nat, min z s.length = s.length - rend.length ∧ Weak (TgC w hw) σ' (RT s nm Lend z)) Q))) := by
  obtain ⟨L, r⟩ := x
  obtain ⟨hr, hln, hall, hrst⟩ := hx
  simp only at hr hln hall hrst
  have hle := suf_le hr
  have hs1 : r.dropWhile sepB <:+ s := (suf_dw _ _).trans hr
  have hl1 := dwP_le sepB r
  simp only
  repeat' (first | refine a_f ?_ | refine st_nil ?_ | refine tri_seq ?_ | refine tri_region rfl ?_ | refine a_draw ?_ | (apply st_r rfl; case hq => first | exact a_lens | exact a_index | exact a_add | exact a_adds0 | exact a_addsc | exact a_adds | exact a_sub | exact a_slo | exact a_shi | exact a_slh | exact a_lensl | exact a_lenro | exact a_lennil | exact a_lenpts | exact a_field | exact a_fielde | exact a_fieldr | exact a_idxsl | exact a_load | exact a_loada | exact a_mki | exact a_build2 | exact a_build3 | exact a_build1 | exact a_build0 | exact a_bs1 | exact a_bs2 | exact a_bs3 | exact a_bs4 | exact a_bsa | exact a_boxr) | (apply st_rif rfl; (case hq => first | exact a_lss | exact a_gtr | exact a_eql | exact a_neq | exact a_eqls0 | exact a_neqs0 | exact a_eqls | exact a_neqs | exact a_leq | exact a_geq); all_goals (intro _; try (exfalso; first | omega | contradiction))) | (apply st_rw rfl rfl; case hq => first | exact a_store) | refine tri_true rfl ?_ | refine tri_false rfl ?_ | refine tri_block ?_ | refine tri_skip ?_ | refine tri_ret ?_ | refine tri_exit ?_)
  refine tri_loop_to (SkI s r sepB) (AS s nm L) (fun r => r.length) (fun _ : Unit => True) (fun _ => AS s nm L (r.dropWhile sepB)) r ⟨hr, rfl⟩ ?hw weak_tri (fun x hx => tg_sep hw _ s r nm L hs x hx) (fun _ _ => ?_)
  case hw => exact weak_st ⟨rfl, rfl, rfl, rfl, trivial⟩ ⟨rfl, trivial⟩
  cases h1 : r.dropWhile sepB with
  | nil =>
    have hv : attrF s.length r = ⟨none, false, []⟩ := by simp only [attrF, h1]
    rw [attrsF_end (by rw [hv]), hv] at hall hrst
    simp only [Option.toList_none, List.append_nil] at hall hrst
    subst hall; subst hrst
    have hp := pz_nil s
    change Tri _ _ (st [(0, .str s), (1, .int .i64 (pz s [])), (6, .sl 101), (7, .str nm)] [(101, .rows LkT 3 (lkRows L))]) _
    generalize pz s [] = p at *
    repeat' (first | refine a_f ?_ | refine st_nil ?_ | refine tri_seq ?_ | refine tri_region rfl ?_ | refine a_draw ?_ | (apply st_r rfl; case hq => first | exact a_lens | exact a_index | exact a_add | exact a_adds0 | exact a_addsc | exact a_adds | exact a_sub | exact a_slo | exact a_shi | exact a_slh | exact a_lensl | exact a_lenro | exact a_lennil | exact a_lenpts | exact a_field | exact a_fielde | exact a_fieldr | exact a_idxsl | exact a_load | exact a_loada | exact a_mki | exact a_build2 | exact a_build3 | exact a_build1 | exact a_build0 | exact a_bs1 | exact a_bs2 | exact a_bs3 | exact a_bs4 | exact a_bsa | exact a_boxr) | (apply st_rif rfl; (case hq => first | exact a_lss | exact a_gtr | exact a_eql | exact a_neq | exact a_eqls0 | exact a_neqs0 | exact a_eqls | exact a_neqs | exact a_leq | exact a_geq); all_goals (intro _; try (exfalso; first | omega | contradiction))) | (apply st_rw rfl rfl; case hq => first | exact a_store) | refine tri_true rfl ?_ | refine tri_false rfl ?_ | refine tri_block ?_ | refine tri_skip ?_ | refine tri_ret ?_ | refine tri_exit ?_)
    exact ⟨s.length + 1, by simp, weak_st ⟨rfl, congrArg (AV.int .i64) (by omega), rfl, rfl, trivial⟩ ⟨rfl, trivial⟩⟩
  | cons c t =>
    rw [h1] at hs1 hl1
    have g1 := suf_get hs1
    have hst := suf_cons hs1
    have hle1 := suf_le hs1
    have hp1 := pz_cons hs1
    have hp2 := pz_lt hs1
    have hpp : pz s (c :: t) = ((s.length - (t.length + 1) : Nat) : Int) := rfl
    simp only [List.length_cons] at hl1 g1 hle1
    have hc : c.toNat < 256 := c.toNat_lt
    by_cases h62 : c = 62
    · have i62 : (c.toNat : Int) = 62 := by rw [h62]; rfl
      have hv : attrF s.length r = ⟨none, false, t⟩ := by simp only [attrF, h1]; rw [if_pos h62]
      rw [attrsF_end (by rw [hv]), hv] at hall hrst
      simp only [Option.toList_none, List.append_nil] at hall hrst
      subst hall; subst hrst
      change Tri _ _ (st [(0, .str s), (1, .int .i64 (pz s (c :: t))), (6, .sl 101), (7, .str nm)] [(101, .rows LkT 3 (lkRows L))]) _
      generalize pz s (c :: t) = p at *
      repeat' (first | refine a_f ?_ | refine st_nil ?_ | refine tri_seq ?_ | refine tri_region rfl ?_ | refine a_draw ?_ | (apply st_r rfl; case hq => first | exact q_indexE (i' := s.length - (t.length + 1)) (c := c) (by conv => lhs; whnf) (by conv => lhs; whnf) (by omega) (by kernel_rfl) g1 | exact a_lens | exact a_index | exact a_add | exact a_adds0 | exact a_addsc | exact a_adds | exact a_sub | exact a_slo | exact a_shi | exact a_slh | exact a_lensl | exact a_lenro | exact a_lennil | exact a_lenpts | exact a_field | exact a_fielde | exact a_fieldr | exact a_idxsl | exact a_load | exact a_loada | exact a_mki | exact a_build2 | exact a_build3 | exact a_build1 | exact a_build0 | exact a_bs1 | exact a_bs2 | exact a_bs3 | exact a_bs4 | exact a_bsa | exact a_boxr) | (apply st_rif rfl; (case hq => first | exact a_lss | exact a_gtr | exact a_eql | exact a_neq | exact a_eqls0 | exact a_neqs0 | exact a_eqls | exact a_neqs | exact a_leq | exact a_geq); all_goals (intro _; try (exfalso; first | omega | contradiction))) | (apply st_rw rfl rfl; case hq => first | exact a_store) | refine tri_true rfl ?_ | refine tri_false rfl ?_ | refine tri_block ?_ | refine tri_skip ?_ | refine tri_ret ?_ | refine tri_exit ?_)
      exact ⟨s.length - t.length, by omega, weak_st ⟨rfl, congrArg (AV.int .i64) hp1, rfl, rfl, trivial⟩ ⟨rfl, trivial⟩⟩
    have i62 : (c.toNat : Int) ≠ 62 := u8_ne h62
    have hs2 : t.dropWhile (fun c => !endB c) <:+ s := (suf_dw _ _).trans hst
    have hl2 := dwP_le (fun c => !endB c) t
    have hk2 := pz_nil s
    change Tri _ _ (st [(0, .str s), (1, .int .i64 (pz s (c :: t))), (6, .sl 101), (7, .str nm)] [(101, .rows LkT 3 (lkRows L))]) _
    repeat' (first | refine a_f ?_ | refine st_nil ?_ | refine tri_seq ?_ | refine tri_region rfl ?_ | refine a_draw ?_ | (apply st_r rfl; case hq => first | exact q_indexE (i' := s.length - (t.length + 1)) (c := c) (by conv => lhs; whnf) (by conv => lhs; whnf) (by omega) (by kernel_rfl) g1 | exact a_lens | exact a_index | exact a_add | exact a_adds0 | exact a_addsc | exact a_adds | exact a_sub | exact a_slo | exact a_shi | exact a_slh | exact a_lensl | exact a_lenro | exact a_lennil | exact a_lenpts | exact a_field | exact a_fielde | exact a_fieldr | exact a_idxsl | exact a_load | exact a_loada | exact a_mki | exact a_build2 | exact a_build3 | exact a_build1 | exact a_build0 | exact a_bs1 | exact a_bs2 | exact a_bs3 | exact a_bs4 | exact a_bsa | exact a_boxr) | (apply st_rif rfl; (case hq => first | exact a_lss | exact a_gtr | exact a_eql | exact a_neq | exact a_eqls0 | exact a_neqs0 | exact a_eqls | exact a_neqs | exact a_leq | exact a_geq); all_goals (intro _; try (exfalso; first | omega | contradiction))) | (apply st_rw rfl rfl; case hq => first | exact a_store) | refine tri_true rfl ?_ | refine tri_false rfl ?_ | refine tri_block ?_ | refine tri_skip ?_ | refine tri_ret ?_ | refine tri_exit ?_)
    refine tri_loop_to (SkI s t (fun c => !endB c)) (KS s nm (c :: t) L) (fun r => r.length) (fun _ : Unit => True) (fun _ => KS s nm (c :: t) L (t.dropWhile (fun c => !endB c))) t ⟨hst, rfl⟩ ?hw2 weak_tri (fun x hx => tg_attr hw _ s t nm (c :: t) L hs x hx) (fun _ _ => ?_)
    case hw2 => exact weak_st ⟨rfl, rfl, rfl, rfl, congrArg (AV.int .i64) hp1, trivial⟩ ⟨rfl, trivial⟩
    cases h2 : t.dropWhile (fun c => !endB c) with
    | nil =>
      have hv : attrF s.length r = ⟨none, false, []⟩ := by
        simp only [attrF, h1]
        rw [if_neg h62, h2]
      rw [attrsF_end (by rw [hv]), hv] at hall hrst
      simp only [Option.toList_none, List.append_nil] at hall hrst
      subst hall; subst hrst
      change Tri _ _ (st [(0, .str s), (1, .int .i64 (pz s (c :: t))), (6, .sl 101), (7, .str nm), (9, .int .i64 (pz s []))] [(101, .rows LkT 3 (lkRows L))]) _
      generalize pz s [] = pe at *
      repeat' (first | refine a_f ?_ | refine st_nil ?_ | refine tri_seq ?_ | refine tri_region rfl ?_ | refine a_draw ?_ | (apply st_r rfl; case hq => first | exact a_lens | exact a_index | exact a_add | exact a_adds0 | exact a_addsc | exact a_adds | exact a_sub | exact a_slo | exact a_shi | exact a_slh | exact a_lensl | exact a_lenro | exact a_lennil | exact a_lenpts | exact a_field | exact a_fielde | exact a_fieldr | exact a_idxsl | exact a_load | exact a_loada | exact a_mki | exact a_build2 | exact a_build3 | exact a_build1 | exact a_build0 | exact a_bs1 | exact a_bs2 | exact a_bs3 | exact a_bs4 | exact a_bsa | exact a_boxr) | (apply st_rif rfl; (case hq => first | exact a_lss | exact a_gtr | exact a_eql | exact a_neq | exact a_eqls0 | exact a_neqs0 | exact a_eqls | exact a_neqs | exact a_leq | exact a_geq); all_goals (intro _; try (exfalso; first | omega | contradiction))) | (apply st_rw rfl rfl; case hq => first | exact a_store) | refine tri_true rfl ?_ | refine tri_false rfl ?_ | refine tri_block ?_ | refine tri_skip ?_ | refine tri_ret ?_ | refine tri_exit ?_)
      exact ⟨s.length, by simp, weak_st ⟨rfl, rfl, rfl, rfl, trivial⟩ ⟨rfl, trivial⟩⟩
    | cons d u =>
      have hsplit := dw_some h2
      have hvn : attrF s.length r = (match (d :: u).dropWhile gapB with
        | [] => ⟨none, false, []⟩
        | e :: w => if e = 61 then valueF s.length (lowP (c :: t.takeWhile (fun c => !endB c))) (w.dropWhile gapB) else ⟨none, true, e :: w⟩) := by
        simp only [attrF, h1]
        rw [if_neg h62, h2]
        rfl
      rw [h2] at hs2 hl2
      generalize t.takeWhile (fun c => !endB c) = an at hsplit hvn
      have hlen := congrArg List.length hsplit
      simp only [List.length_append, List.length_cons] at hlen hl2
      have M1 := low_c (c :: an) (by simp only [List.length_cons]; omega)
      rw [← lowP_low] at M1
      have hcut := suf_cut (a := c :: an) (b := d :: u) (s := s) (by rw [List.cons_append, ← hsplit]; exact hs1)
      rw [show s.length - ((c :: an) ++ d :: u).length + (c :: an).length = s.length - (u.length + 1) by simp only [List.length_append, List.length_cons]; omega, show s.length - ((c :: an) ++ d :: u).length = s.length - (t.length + 1) by simp only [List.length_append, List.length_cons]; omega] at hcut
      have hpd : pz s (d :: u) = ((s.length - (u.length + 1) : Nat) : Int) := rfl
      have hpd2 := pz_lt hs2
      have hs3 : (d :: u).dropWhile gapB <:+ s := (suf_dw _ _).trans hs2
      have hl3 := dwP_le gapB (d :: u)
      generalize hat : lowP (c :: an) = a at M1 hvn
      change Tri _ _ (st [(0, .str s), (1, .int .i64 (pz s (c :: t))), (6, .sl 101), (7, .str nm), (9, .int .i64 (pz s (d :: u)))] [(101, .rows LkT 3 (lkRows L))]) _
      repeat' (first | refine a_f ?_ | refine st_nil ?_ | refine tri_seq ?_ | refine tri_region rfl ?_ | refine a_draw ?_ | (apply st_r rfl; case hq => first | exact q_slice_lhE (m' := s.length - (t.length + 1)) (n' := s.length - (u.length + 1)) (l := c :: an) (by conv => lhs; whnf) (by conv => lhs; whnf) (by conv => lhs; whnf) (by omega) (by omega) (by kernel_rfl) (by omega) (by omega) hcut | exact q_call M1 (hcf := Tryz.call48) rfl rfl | exact a_lens | exact a_index | exact a_add | exact a_adds0 | exact a_addsc | exact a_adds | exact a_sub | exact a_slo | exact a_shi | exact a_slh | exact a_lensl | exact a_lenro | exact a_lennil | exact a_lenpts | exact a_field | exact a_fielde | exact a_fieldr | exact a_idxsl | exact a_load | exact a_loada | exact a_mki | exact a_build2 | exact a_build3 | exact a_build1 | exact a_build0 | exact a_bs1 | exact a_bs2 | exact a_bs3 | exact a_bs4 | exact a_bsa | exact a_boxr) | (apply st_rif rfl; (case hq => first | exact a_lss | exact a_gtr | exact a_eql | exact a_neq | exact a_eqls0 | exact a_neqs0 | exact a_eqls | exact a_neqs | exact a_leq | exact a_geq); all_goals (intro _; try (exfalso; first | omega | contradiction))) | (apply st_rw rfl rfl; case hq => first | exact a_store) | refine tri_true rfl ?_ | refine tri_false rfl ?_ | refine tri_block ?_ | refine tri_skip ?_ | refine tri_ret ?_ | refine tri_exit ?_)
      refine tri_loop_to (SkI s (d :: u) gapB) (BS s nm a L) (fun r => r.length) (fun _ : Unit => True) (fun _ => BS s nm a L ((d :: u).dropWhile gapB)) (d :: u) ⟨hs2, rfl⟩ ?hw3 weak_tri (fun x hx => tg_gap hw _ 4 8 (.inl ⟨rfl, rfl⟩) s (d :: u) nm a L hs x hx) (fun _ _ => ?_)
      case hw3 => exact weak_st ⟨rfl, rfl, rfl, rfl, rfl, trivial⟩ ⟨rfl, trivial⟩
      clear hcut M1 hpp hp1 hp2 g1 hpd hpd2
      cases h3 : (d :: u).dropWhile gapB with
      | nil =>
        rw [h3] at hvn
        simp only at hvn
        rw [attrsF_end (by rw [hvn]), hvn] at hall hrst
        simp only [Option.toList_none, List.append_nil] at hall hrst
        change Tri _ _ (st [(0, .str s), (1, .int .i64 (pz s [])), (6, .sl 101), (7, .str nm), (10, .str a)] [(101, .rows LkT 3 (lkRows L))]) _
        generalize hpe : pz s [] = pe at *
        repeat' (first | refine a_f ?_ | refine st_nil ?_ | refine tri_seq ?_ | refine tri_region rfl ?_ | refine a_draw ?_ | (apply st_r rfl; case hq => first | exact a_lens | exact a_index | exact a_add | exact a_adds0 | exact a_addsc | exact a_adds | exact a_sub | exact a_slo | exact a_shi | exact a_slh | exact a_lensl | exact a_lenro | exact a_lennil | exact a_lenpts | exact a_field | exact a_fielde | exact a_fieldr | exact a_idxsl | exact a_load | exact a_loada | exact a_mki | exact a_build2 | exact a_build3 | exact a_build1 | exact a_build0 | exact a_bs1 | exact a_bs2 | exact a_bs3 | exact a_bs4 | exact a_bsa | exact a_boxr) | (apply st_rif rfl; (case hq => first | exact a_lss | exact a_gtr | exact a_eql | exact a_neq | exact a_eqls0 | exact a_neqs0 | exact a_eqls | exact a_neqs | exact a_leq | exact a_geq); all_goals (intro _; try (exfalso; first | omega | contradiction))) | (apply st_rw rfl rfl; case hq => first | exact a_store) | refine tri_true rfl ?_ | refine tri_false rfl ?_ | refine tri_block ?_ | refine tri_skip ?_ | refine tri_ret ?_ | refine tri_exit ?_)
        exact nextR (L, []) ⟨List.nil_suffix, by simp only [List.length_nil]; omega, by simp only [attrsF_nil, List.append_nil]; exact hall, by simp only [attrsF_nil]; exact hrst⟩ (weak_st ⟨rfl, congrArg (AV.int .i64) hpe.symm, rfl, rfl, trivial⟩ ⟨rfl, trivial⟩) (show ([] : B).length < r.length by simp only [List.length_nil]; omega)
      | cons e v =>
        rw [h3] at hvn hl3 hs3
        have g3 := suf_get hs3
        have hsw := suf_cons hs3
        have hle3 := suf_le hs3
        have hp3 := pz_cons hs3
        have hp4 := pz_lt hs3
        have hpp : pz s (e :: v) = ((s.length - (v.length + 1) : Nat) : Int) := rfl
        simp only [List.length_cons] at hl3 g3 hle3 hvn
        by_cases h61 : e = 61
        · have i61 : (e.toNat : Int) = 61 := by rw [h61]; rfl
          rw [if_pos h61] at hvn
          have hl4 := dwP_le gapB v
          have hs4 : v.dropWhile gapB <:+ s := (suf_dw _ _).trans hsw
          change Tri _ _ (st [(0, .str s), (1, .int .i64 (pz s (e :: v))), (6, .sl 101), (7, .str nm), (10, .str a)] [(101, .rows LkT 3 (lkRows L))]) _
          repeat' (first | refine a_f ?_ | refine st_nil ?_ | refine tri_seq ?_ | refine tri_region rfl ?_ | refine a_draw ?_ | (apply st_r rfl; case hq => first | exact q_indexE (i' := s.length - (v.length + 1)) (c := e) (by conv => lhs; whnf) (by conv => lhs; whnf) (by omega) (by kernel_rfl) g3 | exact a_lens | exact a_index | exact a_add | exact a_adds0 | exact a_addsc | exact a_adds | exact a_sub | exact a_slo | exact a_shi | exact a_slh | exact a_lensl | exact a_lenro | exact a_lennil | exact a_lenpts | exact a_field | exact a_fielde | exact a_fieldr | exact a_idxsl | exact a_load | exact a_loada | exact a_mki | exact a_build2 | exact a_build3 | exact a_build1 | exact a_build0 | exact a_bs1 | exact a_bs2 | exact a_bs3 | exact a_bs4 | exact a_bsa | exact a_boxr) | (apply st_rif rfl; (case hq => first | exact a_lss | exact a_gtr | exact a_eql | exact a_neq | exact a_eqls0 | exact a_neqs0 | exact a_eqls | exact a_neqs | exact a_leq | exact a_geq); all_goals (intro _; try (exfalso; first | omega | contradiction))) | (apply st_rw rfl rfl; case hq => first | exact a_store) | refine tri_true rfl ?_ | refine tri_false rfl ?_ | refine tri_block ?_ | refine tri_skip ?_ | refine tri_ret ?_ | refine tri_exit ?_)
          refine tri_loop_to (SkI s v gapB) (BS s nm a L) (fun r => r.length) (fun _ : Unit => True) (fun _ => BS s nm a L (v.dropWhile gapB)) v ⟨hsw, rfl⟩ ?hw4 weak_tri (fun x hx => tg_gap hw _ 5 10 (.inr ⟨rfl, rfl⟩) s v nm a L hs x hx) (fun _ _ => ?_)
          case hw4 => exact weak_st ⟨rfl, congrArg (AV.int .i64) hp3, rfl, rfl, rfl, trivial⟩ ⟨rfl, trivial⟩
          clear g3 hp3 hp4 hpp
          change Tri _ _ (BS s nm a L (v.dropWhile gapB)) _
          generalize hv4 : v.dropWhile gapB = x at hvn hl4 hs4 ⊢
          exact tg_value hw Q s nm a L Lend rend hs r x hvn hs4 (by omega) hln hall hrst
        · have i61 : (e.toNat : Int) ≠ 61 := u8_ne h61
          rw [if_neg h61] at hvn
          have hlt := attrF_lt (n := s.length) (r := r) (by rw [hvn])
          rw [attrsF_more (by rw [hvn]), hvn] at hall hrst
          rw [hvn] at hlt
          simp only [Option.toList_none, List.nil_append] at hall hrst hlt
          change Tri _ _ (st [(0, .str s), (1, .int .i64 (pz s (e :: v))), (6, .sl 101), (7, .str nm), (10, .str a)] [(101, .rows LkT 3 (lkRows L))]) _
          repeat' (first | refine a_f ?_ | refine st_nil ?_ | refine tri_seq ?_ | refine tri_region rfl ?_ | refine a_draw ?_ | (apply st_r rfl; case hq => first | exact q_indexE (i' := s.length - (v.length + 1)) (c := e) (by conv => lhs; whnf) (by conv => lhs; whnf) (by omega) (by kernel_rfl) g3 | exact a_lens | exact a_index | exact a_add | exact a_adds0 | exact a_addsc | exact a_adds | exact a_sub | exact a_slo | exact a_shi | exact a_slh | exact a_lensl | exact a_lenro | exact a_lennil | exact a_lenpts | exact a_field | exact a_fielde | exact a_fieldr | exact a_idxsl | exact a_load | exact a_loada | exact a_mki | exact a_build2 | exact a_build3 | exact a_build1 | exact a_build0 | exact a_bs1 | exact a_bs2 | exact a_bs3 | exact a_bs4 | exact a_bsa | exact a_boxr) | (apply st_rif rfl; (case hq => first | exact a_lss | exact a_gtr | exact a_eql | exact a_neq | exact a_eqls0 | exact a_neqs0 | exact a_eqls | exact a_neqs | exact a_leq | exact a_geq); all_goals (intro _; try (exfalso; first | omega | contradiction))) | (apply st_rw rfl rfl; case hq => first | exact a_store) | refine tri_true rfl ?_ | refine tri_false rfl ?_ | refine tri_block ?_ | refine tri_skip ?_ | refine tri_ret ?_ | refine tri_exit ?_)
          exact nextR (L, e :: v) ⟨hs3, by simp only [List.length_cons]; omega, hall, hrst⟩ (weak_st ⟨rfl, rfl, rfl, rfl, trivial⟩ ⟨rfl, trivial⟩) hlt
theorem find_raw {s r nm : B} (hr : r <:+ s) : ((findN (lowP s) ([60, 47] ++ nm) (s.length - r.length) : Nat) : Int) = pz s (rawSkip nm r) := by
  have hd := suf_drop hr
  have hle := suf_le hr
  have hl : (lowP s).length = s.length := by simp [lowP]
  have hld : (lowP s).drop (s.length - r.length) = lowP r := by
    unfold lowP; rw [← List.map_drop, hd]
  unfold findN rawSkip
  rw [hld, hl]
  change ((if Lib.index (lowP r) (60 :: 47 :: nm) < 0 then s.length else s.length - r.length + (Lib.index (lowP r) (60 :: 47 :: nm)).toNat : Nat) : Int) = _
  have hi := Lib.index_le (lowP r) (60 :: 47 :: nm)
  have hlr : (lowP r).length = r.length := by simp [lowP]
  rw [hlr] at hi
  by_cases h : Lib.index (lowP r) (60 :: 47 :: nm) < 0
  · rw [if_pos h, if_pos h, pz_nil]
  · rw [if_neg h, if_neg h, pz_eq, List.length_drop]; omega
theorem raw_is (a : B) : rawB a = (decide (a = [115, 99, 114, 105, 112, 116]) || (decide (a = [115, 116, 121, 108, 101]) || (decide (a = [116, 101, 120, 116, 97, 114, 101, 97]) || decide (a = [116, 105, 116, 108, 101])))) := rfl
set_option maxHeartbeats 8000000 in
theorem rtag_c (s r : B) (hs : s.length ≤ 100000000) (hr : r <:+ s) : CPure gx 65 [.str s, .int .i64 (pz s r)] (.tup [.ro true 3 (lkRows (tagF s.length r).1), .int .i64 (pz s (tagF s.length r).2)]) := by
  refine cpure_of Tryz.func65 rfl (Nat.le_of_ble_eq_true rfl) rfl (fun w hw => ?_)
  have hle := suf_le hr
  have hs1 : r.dropWhile anB <:+ s := (suf_dw _ _).trans hr
  have htag : tagF s.length r = ((attrsF s.length (r.dropWhile anB)).1, match rawB (lowP (r.takeWhile anB)) with
    | true => rawSkip (lowP (r.takeWhile anB)) (attrsF s.length (r.dropWhile anB)).2
    | false => (attrsF s.length (r.dropWhile anB)).2) := rfl
  have hnl : (lowP (r.takeWhile anB)).length ≤ s.length := by
    have : (r.takeWhile anB).length ≤ r.length := (List.takeWhile_sublist _).length_le
    simp only [lowP, List.length_map]; omega
  repeat' (first | refine a_f ?_ | refine st_nil ?_ | refine tri_seq ?_ | refine tri_region rfl ?_ | refine a_draw ?_ | (apply st_r rfl; case hq => first | exact a_lens | exact a_index | exact a_add | exact a_adds0 | exact a_addsc | exact a_adds | exact a_sub | exact a_slo | exact a_shi | exact a_slh | exact a_lensl | exact a_lenro | exact a_lennil | exact a_lenpts | exact a_field | exact a_fielde | exact a_fieldr | exact a_idxsl | exact a_load | exact a_loada | exact a_mki | exact a_build2 | exact a_build3 | exact a_build1 | exact a_build0 | exact a_bs1 | exact a_bs2 | exact a_bs3 | exact a_bs4 | exact a_bsa | exact a_boxr) | (apply st_rif rfl; (case hq => first | exact a_lss | exact a_gtr | exact a_eql | exact a_neq | exact a_eqls0 | exact a_neqs0 | exact a_eqls | exact a_neqs | exact a_leq | exact a_geq); all_goals (intro _; try (exfalso; first | omega | contradiction))) | (apply st_rw rfl rfl; case hq => first | exact a_store) | refine tri_true rfl ?_ | refine tri_false rfl ?_ | refine tri_block ?_ | refine tri_skip ?_ | refine tri_ret ?_ | refine tri_exit ?_)
  refine tri_loop_to (NmI s r) (NmS s) (fun x => x.2.length) (fun _ : Unit => True) (fun _ => NmS s (lowP (r.takeWhile anB), r.dropWhile anB)) ([], r) ⟨hr, rfl, rfl, by simpa using hle⟩ ?hw weak_tri (fun x hx => tg_name hw _ s r hs x hx) (fun _ _ => ?_)
  case hw => exact weak_st ⟨rfl, rfl, rfl, rfl, rfl, rfl, trivial⟩ trivial
  obtain ⟨a1, a2⟩ := attrsF_suf s.length _ (r.dropWhile anB) (Nat.le_refl _)
  have hl1 := suf_le hs1
  rw [htag]
  clear htag
  generalize lowP (r.takeWhile anB) = nm at hnl ⊢
  generalize r.dropWhile anB = r1 at *
  have hsA : (attrsF s.length r1).2 <:+ s := a1.trans hs1
  repeat' (first | refine a_f ?_ | refine st_nil ?_ | refine tri_seq ?_ | refine tri_region rfl ?_ | refine a_draw ?_ | (apply st_r rfl; case hq => first | exact a_lens | exact a_index | exact a_add | exact a_adds0 | exact a_addsc | exact a_adds | exact a_sub | exact a_slo | exact a_shi | exact a_slh | exact a_lensl | exact a_lenro | exact a_lennil | exact a_lenpts | exact a_field | exact a_fielde | exact a_fieldr | exact a_idxsl | exact a_load | exact a_loada | exact a_mki | exact a_build2 | exact a_build3 | exact a_build1 | exact a_build0 | exact a_bs1 | exact a_bs2 | exact a_bs3 | exact a_bs4 | exact a_bsa | exact a_boxr) | (apply st_rif rfl; (case hq => first | exact a_lss | exact a_gtr | exact a_eql | exact a_neq | exact a_eqls0 | exact a_neqs0 | exact a_eqls | exact a_neqs | exact a_leq | exact a_geq); all_goals (intro _; try (exfalso; first | omega | contradiction))) | (apply st_rw rfl rfl; case hq => first | exact a_store) | refine tri_true rfl ?_ | refine tri_false rfl ?_ | refine tri_block ?_ | refine tri_skip ?_ | refine tri_ret ?_ | refine tri_exit ?_)
  refine tri_loop_to (RI s (attrsF s.length r1).1 (attrsF s.length r1).2) (fun x => AS s nm x.1 x.2) (fun x => x.2.length) (fun z : Nat => min z s.length = s.length - (attrsF s.length r1).2.length) (RT s nm (attrsF s.length r1).1) ([], r1) ⟨hs1, by simp only [List.length_nil]; omega, rfl, rfl⟩ ?hw2 weak_tri (fun x hx => tg_round hw _ s nm _ _ hs x hx) (fun z hz => ?_)
  case hw2 => exact Weak.trans (weak_nil 6 101 LkT 3 rfl (by decide) rfl rfl) (weak_st ⟨rfl, rfl, rfl, rfl, trivial⟩ ⟨rfl, trivial⟩)
  generalize (attrsF s.length r1).1 = Lend at *
  generalize (attrsF s.length r1).2 = rend at *
  have hm : min (z : Int) (s.length : Int) = pz s rend := by rw [pz_eq]; omega
  cases hraw : rawB nm with
  | false =>
    rw [raw_is] at hraw
    simp only [Bool.or_eq_false_iff, decide_eq_false_iff_not] at hraw
    obtain ⟨l1, l2, l3, l4⟩ := hraw
    repeat' (first | refine a_f ?_ | refine st_nil ?_ | refine tri_seq ?_ | refine tri_region rfl ?_ | refine a_draw ?_ | (apply st_r rfl; case hq => first | exact q_min (by conv => lhs; whnf) (by conv => lhs; whnf) | exact a_lens | exact a_index | exact a_add | exact a_adds0 | exact a_addsc | exact a_adds | exact a_sub | exact a_slo | exact a_shi | exact a_slh | exact a_lensl | exact a_lenro | exact a_lennil | exact a_lenpts | exact a_field | exact a_fielde | exact a_fieldr | exact a_idxsl | exact a_load | exact a_loada | exact a_mki | exact a_build2 | exact a_build3 | exact a_build1 | exact a_build0 | exact a_bs1 | exact a_bs2 | exact a_bs3 | exact a_bs4 | exact a_bsa | exact a_boxr) | (apply st_rif rfl; (case hq => first | exact a_lss | exact a_gtr | exact a_eql | exact a_neq | exact a_eqls0 | exact a_neqs0 | exact a_eqls | exact a_neqs | exact a_leq | exact a_geq); all_goals (intro _; try (exfalso; first | omega | contradiction))) | (apply st_rw rfl rfl; case hq => first | exact a_store) | refine tri_true rfl ?_ | refine tri_false rfl ?_ | refine tri_block ?_ | refine tri_skip ?_ | refine tri_ret ?_ | refine tri_exit ?_)
    refine And.intro trivial ?_
    conv => lhs; whnf
    rw [← hm]
    rfl
  | true =>
    have F1 : CPure gx 64 [.str (lowP s), .str ([60, 47] ++ nm), .int .i64 (min (z : Int) (s.length : Int))] (.int .i64 (pz s (rawSkip nm rend))) := by
      have := find_c (lowP s) ([60, 47] ++ nm) (s.length - rend.length) (by simp only [lowP, List.length_map]; exact hs) (by simp) (by omega)
      rw [find_raw hsA] at this
      rw [hm]
      exact this
    have M1 := low_c s hs
    rw [← lowP_low] at M1
    rw [raw_is] at hraw
    simp only
    have l5 : nm = [115, 99, 114, 105, 112, 116] ∨ (¬ nm = [115, 99, 114, 105, 112, 116] ∧ nm = [115, 116, 121, 108, 101]) ∨ (¬ nm = [115, 99, 114, 105, 112, 116] ∧ ¬ nm = [115, 116, 121, 108, 101] ∧ nm = [116, 101, 120, 116, 97, 114, 101, 97]) ∨ (¬ nm = [115, 99, 114, 105, 112, 116] ∧ ¬ nm = [115, 116, 121, 108, 101] ∧ ¬ nm = [116, 101, 120, 116, 97, 114, 101, 97] ∧ nm = [116, 105, 116, 108, 101]) := by
      by_cases h1 : nm = [115, 99, 114, 105, 112, 116]
      · exact .inl h1
      by_cases h2 : nm = [115, 116, 121, 108, 101]
      · exact .inr (.inl ⟨h1, h2⟩)
      by_cases h3 : nm = [116, 101, 120, 116, 97, 114, 101, 97]
      · exact .inr (.inr (.inl ⟨h1, h2, h3⟩))
      · exact .inr (.inr (.inr ⟨h1, h2, h3, by simpa [h1, h2, h3] using hraw⟩))
    clear hraw
    rcases l5 with l1 | ⟨l1, l2⟩ | ⟨l1, l2, l3⟩ | ⟨l1, l2, l3, l4⟩
    all_goals
      repeat' (first | refine a_f ?_ | refine st_nil ?_ | refine tri_seq ?_ | refine tri_region rfl ?_ | refine a_draw ?_ | (apply st_r rfl; case hq => first | exact q_min (by conv => lhs; whnf) (by conv => lhs; whnf) | exact q_call M1 (hcf := Tryz.call48) rfl rfl | exact q_adds (u := [60, 47]) rfl (by conv => lhs; whnf) (by first | omega | (simp only [List.length_append, List.length_cons, List.length_nil, List.length_take, List.length_drop]; omega)) | exact q_call F1 (hcf := Tryz.call64) rfl rfl | exact a_lens | exact a_index | exact a_add | exact a_adds0 | exact a_addsc | exact a_adds | exact a_sub | exact a_slo | exact a_shi | exact a_slh | exact a_lensl | exact a_lenro | exact a_lennil | exact a_lenpts | exact a_field | exact a_fielde | exact a_fieldr | exact a_idxsl | exact a_load | exact a_loada | exact a_mki | exact a_build2 | exact a_build3 | exact a_build1 | exact a_build0 | exact a_bs1 | exact a_bs2 | exact a_bs3 | exact a_bs4 | exact a_bsa | exact a_boxr) | (apply st_rif rfl; (case hq => first | exact a_lss | exact a_gtr | exact a_eql | exact a_neq | exact a_eqls0 | exact a_neqs0 | exact a_eqls | exact a_neqs | exact a_leq | exact a_geq); all_goals (intro _; try (exfalso; first | omega | contradiction))) | (apply st_rw rfl rfl; case hq => first | exact a_store) | refine tri_true rfl ?_ | refine tri_false rfl ?_ | refine tri_block ?_ | refine tri_skip ?_ | refine tri_ret ?_ | refine tri_exit ?_)
      refine And.intro trivial ?_
      conv => lhs; whnf
      rfl
end
end Go.Proofs.YtignjjnflcpiiaaGreatDoor
namespace Go.Proofs.YtignjjnflcpiiaaGreatDoor
open Go.RowKit
set_option maxRecDepth 100000

theorem find_skip {s r : B} (o : B) (hr : r <:+ s) : (skipW o r ≠ [] → ((findN s o (s.length - r.length) : Nat) : Int) + o.length = pz s (skipW o r)) ∧ (skipW o r = [] → (s.length : Int) ≤ ((findN s o (s.length - r.length) : Nat) : Int) + o.length) ∧ ((findN s o (s.length - r.length) : Nat) : Int) ≤ s.length := by
  have hd := suf_drop hr
  have hle := suf_le hr
  unfold findN skipW
  rw [hd]
  have hi := Lib.index_le r o
  by_cases h : Lib.index r o < 0
  · rw [if_pos h, if_pos h]
    exact ⟨fun h => absurd rfl h, fun _ => by omega, by omega⟩
  · rw [if_neg h, if_neg h]
    refine ⟨fun h2 => ?_, fun h2 => ?_, by omega⟩
    · have h3 := List.length_pos_iff.2 h2
      rw [List.length_drop] at h3
      rw [pz_eq, List.length_drop]; omega
    · have h3 := congrArg List.length h2
      rw [List.length_drop, List.length_nil] at h3
      omega
theorem lowC1_47 {c : UInt8} : (c = 47 → (lowC1 c).toNat = 47) ∧ ((lowC1 c).toNat = 47 → c = 47) := by
  have h : ∀ c : UInt8, decide ((c = 47 → (lowC1 c).toNat = 47) ∧ ((lowC1 c).toNat = 47 → c = 47)) = true := all8 (by decide +kernel)
  exact of_decide_eq_true (h c)
theorem lowC1_33 {c : UInt8} : (c = 33 → (lowC1 c).toNat = 33) ∧ ((lowC1 c).toNat = 33 → c = 33) := by
  have h : ∀ c : UInt8, decide ((c = 33 → (lowC1 c).toNat = 33) ∧ ((lowC1 c).toNat = 33 → c = 33)) = true := all8 (by decide +kernel)
  exact of_decide_eq_true (h c)
theorem lowC1_63 {c : UInt8} : (c = 63 → (lowC1 c).toNat = 63) ∧ ((lowC1 c).toNat = 63 → c = 63) := by
  have h : ∀ c : UInt8, decide ((c = 63 → (lowC1 c).toNat = 63) ∧ ((lowC1 c).toNat = 63 → c = 63)) = true := all8 (by decide +kernel)
  exact of_decide_eq_true (h c)
structure LI (s : B) (Lend : List Lk) (x : List Lk × B) : Prop where
  suf : x.2 <:+ s
  len : x.1.length + x.2.length ≤ s.length
  all : x.1 ++ linksF s.length x.2 = Lend
abbrev LS (s : B) (x : List Lk × B) : St := st [(0, .str s), (2, .nils), (3, .sl 101), (4, .int .i64 (pz s x.2))] [(101, .rows LkT 3 (lkRows x.1))]
section
attribute [local irreducible] Tri Steps Qd Wr Weak CPure CEff CNew CutN AllB Behind
set_option maxHeartbeats 16000000 in
theorem rlinks_c (s : B) (hs : s.length ≤ 100000000) : CPure gx 27 [.str s] (.ro true 3 (lkRows (linksF s.length s))) := by
  refine cpure_of Tryz.func27 rfl (Nat.le_of_ble_eq_true rfl) rfl (fun w hw => ?_)
  repeat' (first | refine a_f ?_ | refine st_nil ?_ | refine tri_seq ?_ | refine tri_region rfl ?_ | refine a_draw ?_ | (apply st_r rfl; case hq => first | exact a_lens | exact a_index | exact a_add | exact a_adds0 | exact a_addsc | exact a_adds | exact a_sub | exact a_slo | exact a_shi | exact a_slh | exact a_lensl | exact a_lenro | exact a_lennil | exact a_lenpts | exact a_field | exact a_fielde | exact a_fieldr | exact a_idxsl | exact a_load | exact a_loada | exact a_mki | exact a_build2 | exact a_build3 | exact a_build1 | exact a_build0 | exact a_bs1 | exact a_bs2 | exact a_bs3 | exact a_bs4 | exact a_bsa | exact a_boxr) | (apply st_rif rfl; (case hq => first | exact a_lss | exact a_gtr | exact a_eql | exact a_neq | exact a_eqls0 | exact a_neqs0 | exact a_eqls | exact a_neqs | exact a_leq | exact a_geq); all_goals (intro _; try (exfalso; first | omega | contradiction))) | (apply st_rw rfl rfl; case hq => first | exact a_store) | refine tri_true rfl ?_ | refine tri_false rfl ?_ | refine tri_block ?_ | refine tri_skip ?_ | refine tri_ret ?_ | refine tri_exit ?_)
  refine tri_loop (LI s (linksF s.length s)) (LS s) (fun x => x.2.length) ([], s) ⟨List.suffix_refl s, by simp, rfl⟩ ?hw (fun x hx => ?_)
  case hw => exact Weak.trans (weak_nil 3 101 LkT 3 rfl (by decide) rfl rfl) (weak_st ⟨rfl, rfl, rfl, congrArg (AV.int .i64) (by rw [pz_eq]; simp), trivial⟩ ⟨rfl, trivial⟩)
  obtain ⟨L, r⟩ := x
  obtain ⟨hr, hln, hall⟩ := hx
  simp only at hr hln hall
  change Tri _ _ (st [(0, .str s), (2, .nils), (3, .sl 101), (4, .int .i64 (pz s r))] [(101, .rows LkT 3 (lkRows L))]) _
  generalize linksF s.length s = Lend at *
  have hle := suf_le hr
  have hll := lk_len L
  obtain ⟨f1, f2, f3⟩ := find_skip [60] hr
  have F1 : CPure gx 64 [.str s, .str [60], .int .i64 (pz s r)] (.int .i64 ((findN s [60] (s.length - r.length) : Nat) : Int)) := find_c s [60] (s.length - r.length) hs (by simp) (by omega)
  simp only [List.length_cons, List.length_nil] at f1 f2
  generalize ((findN s [60] (s.length - r.length) : Nat) : Int) = n1 at *
  have hs1 := (skip_suf [60] r).trans hr
  cases h1 : skipW [60] r with
  | nil =>
    rw [linksF_nil h1, List.append_nil] at hall
    subst hall
    have f2 := f2 h1
    clear f1
    generalize pz s r = p at *
    repeat' (first | refine a_f ?_ | refine st_nil ?_ | refine tri_seq ?_ | refine tri_region rfl ?_ | refine a_draw ?_ | (apply st_r rfl; case hq => first | exact q_call F1 (hcf := Tryz.call64) rfl rfl | exact a_lens | exact a_index | exact a_add | exact a_adds0 | exact a_addsc | exact a_adds | exact a_sub | exact a_slo | exact a_shi | exact a_slh | exact a_lensl | exact a_lenro | exact a_lennil | exact a_lenpts | exact a_field | exact a_fielde | exact a_fieldr | exact a_idxsl | exact a_load | exact a_loada | exact a_mki | exact a_build2 | exact a_build3 | exact a_build1 | exact a_build0 | exact a_bs1 | exact a_bs2 | exact a_bs3 | exact a_bs4 | exact a_bsa | exact a_boxr) | (apply st_rif rfl; (case hq => first | exact a_lss | exact a_gtr | exact a_eql | exact a_neq | exact a_eqls0 | exact a_neqs0 | exact a_eqls | exact a_neqs | exact a_leq | exact a_geq); all_goals (intro _; try (exfalso; first | omega | contradiction))) | (apply st_rw rfl rfl; case hq => first | exact a_store) | refine tri_true rfl ?_ | refine tri_false rfl ?_ | refine tri_block ?_ | refine tri_skip ?_ | refine tri_ret ?_ | refine tri_exit ?_)
    refine And.intro trivial ?_
    conv => lhs; whnf
    try rfl
  | cons c t =>
    rw [h1] at f1 hs1
    have f1 := f1 (by simp)
    clear f2
    have hne : r ≠ [] := fun e => by rw [e, skipW_nil] at h1; cases h1
    have h0 := skipW_lt (o := [60]) (by simp) hne
    rw [h1] at h0
    rw [linksF_cons (n := s.length) h1] at hall
    have hd1 := suf_drop hs1
    have hl1 := suf_le hs1
    have hp2 := pz_lt hs1
    have hpe : pz s (c :: t) = ((s.length - (t.length + 1) : Nat) : Int) := rfl
    have hcut := suf_cut (a := [c]) (b := t) (s := s) hs1
    rw [List.singleton_append] at hcut
    simp only [List.length_cons, List.length_nil, Nat.zero_add] at h0 hl1 hd1 hcut
    have M1 := low_one c
    have g0 : ([lowC1 c] : B)[(0 : Nat)]? = some (lowC1 c) := rfl
    have P1 := pre_c (c :: t) comB
    have hnil : ∀ L : List Lk, L = L ++ linksF s.length [] := fun L => by rw [linksF_nil skipW_nil, List.append_nil]
    have hpn := pz_nil s
    by_cases hco : comB.isPrefixOf (c :: t) = true
    · rw [if_pos hco] at hall
      rw [show Lib.hasPrefix (c :: t) comB = true from hco] at P1
      have ht2l : 2 ≤ t.length := by
        have := (List.isPrefixOf_iff_prefix.1 hco).length_le
        simp [comB] at this; omega
      have hsd : t.drop 2 <:+ s := ((List.drop_suffix 2 t).trans (List.suffix_cons c t)).trans hs1
      obtain ⟨k1, k2, k3⟩ := find_skip [45, 45, 62] hsd
      have e3 : pz s (t.drop 2) = pz s (c :: t) + 3 := by rw [pz_eq, pz_eq, List.length_drop, List.length_cons]; omega
      have F2 : CPure gx 64 [.str s, .str [45, 45, 62], .int .i64 (pz s (c :: t) + 3)] (.int .i64 ((findN s [45, 45, 62] (s.length - (t.drop 2).length) : Nat) : Int)) := by
        rw [← e3]
        exact find_c s [45, 45, 62] (s.length - (t.drop 2).length) hs (by simp) (by omega)
      simp only [List.length_cons, List.length_nil] at k1 k2
      have k0 : (0 : Int) ≤ ((findN s [45, 45, 62] (s.length - (t.drop 2).length) : Nat) : Int) := Int.natCast_nonneg _
      generalize ((findN s [45, 45, 62] (s.length - (t.drop 2).length) : Nat) : Int) = n2 at *
      have hs2 := (skip_suf [45, 45, 62] (t.drop 2)).trans hsd
      have hle2 := skipW_le [45, 45, 62] (t.drop 2)
      rw [List.length_drop] at hle2
      have f1' : n1 + 1 = pz s (c :: t) := f1
      cases h2 : skipW [45, 45, 62] (t.drop 2) with
      | nil =>
        rw [h2, ← hnil] at hall
        subst hall
        have k2 := k2 h2
        clear k1
        rw [← f1'] at F2
        generalize pz s r = p at *
        repeat' (first | refine a_f ?_ | refine st_nil ?_ | refine tri_seq ?_ | refine tri_region rfl ?_ | refine a_draw ?_ | (apply st_r rfl; case hq => first | exact q_call F1 (hcf := Tryz.call64) rfl rfl | exact q_call F2 (hcf := Tryz.call64) rfl rfl | exact q_slice_lhE (m' := s.length - (t.length + 1)) (n' := s.length - (t.length + 1) + 1) (l := [c]) (by conv => lhs; whnf) (by conv => lhs; whnf) (by conv => lhs; whnf) (by omega) (by omega) (by kernel_rfl) (by omega) (by omega) hcut | exact q_call M1 (hcf := Tryz.call48) rfl rfl | exact q_indexE (i' := 0) (c := lowC1 c) (by conv => lhs; whnf) (by conv => lhs; whnf) (by rfl) (by kernel_rfl) g0 | exact q_slice_loE (n' := s.length - (t.length + 1)) (l := c :: t) (by conv => lhs; whnf) (by conv => lhs; whnf) (by omega) (by kernel_rfl) (by omega) hd1 | exact q_call P1 (hcf := Tryz.call41) rfl rfl | exact a_lens | exact a_index | exact a_add | exact a_adds0 | exact a_addsc | exact a_adds | exact a_sub | exact a_slo | exact a_shi | exact a_slh | exact a_lensl | exact a_lenro | exact a_lennil | exact a_lenpts | exact a_field | exact a_fielde | exact a_fieldr | exact a_idxsl | exact a_load | exact a_loada | exact a_mki | exact a_build2 | exact a_build3 | exact a_build1 | exact a_build0 | exact a_bs1 | exact a_bs2 | exact a_bs3 | exact a_bs4 | exact a_bsa | exact a_boxr) | (apply st_rif rfl; (case hq => first | exact a_lss | exact a_gtr | exact a_eql | exact a_neq | exact a_eqls0 | exact a_neqs0 | exact a_eqls | exact a_neqs | exact a_leq | exact a_geq); all_goals (intro _; try (exfalso; first | omega | contradiction))) | (apply st_rw rfl rfl; case hq => first | exact a_store) | refine tri_true rfl ?_ | refine tri_false rfl ?_ | refine tri_block ?_ | refine tri_skip ?_ | refine tri_ret ?_ | refine tri_exit ?_)
        refine And.intro trivial ?_
        conv => lhs; whnf
        try rfl
      | cons d u =>
        rw [h2] at k1 hs2 hle2 hall
        have k1 := k1 (by simp)
        have hp4 := pz_lt hs2
        clear k2
        simp only [List.length_cons] at hle2
        generalize hpd : pz s (d :: u) = pd at *
        rw [← f1'] at F2
        generalize pz s r = p at *
        repeat' (first | refine a_f ?_ | refine st_nil ?_ | refine tri_seq ?_ | refine tri_region rfl ?_ | refine a_draw ?_ | (apply st_r rfl; case hq => first | exact q_call F1 (hcf := Tryz.call64) rfl rfl | exact q_call F2 (hcf := Tryz.call64) rfl rfl | exact q_slice_lhE (m' := s.length - (t.length + 1)) (n' := s.length - (t.length + 1) + 1) (l := [c]) (by conv => lhs; whnf) (by conv => lhs; whnf) (by conv => lhs; whnf) (by omega) (by omega) (by kernel_rfl) (by omega) (by omega) hcut | exact q_call M1 (hcf := Tryz.call48) rfl rfl | exact q_indexE (i' := 0) (c := lowC1 c) (by conv => lhs; whnf) (by conv => lhs; whnf) (by rfl) (by kernel_rfl) g0 | exact q_slice_loE (n' := s.length - (t.length + 1)) (l := c :: t) (by conv => lhs; whnf) (by conv => lhs; whnf) (by omega) (by kernel_rfl) (by omega) hd1 | exact q_call P1 (hcf := Tryz.call41) rfl rfl | exact a_lens | exact a_index | exact a_add | exact a_adds0 | exact a_addsc | exact a_adds | exact a_sub | exact a_slo | exact a_shi | exact a_slh | exact a_lensl | exact a_lenro | exact a_lennil | exact a_lenpts | exact a_field | exact a_fielde | exact a_fieldr | exact a_idxsl | exact a_load | exact a_loada | exact a_mki | exact a_build2 | exact a_build3 | exact a_build1 | exact a_build0 | exact a_bs1 | exact a_bs2 | exact a_bs3 | exact a_bs4 | exact a_bsa | exact a_boxr) | (apply st_rif rfl; (case hq => first | exact a_lss | exact a_gtr | exact a_eql | exact a_neq | exact a_eqls0 | exact a_neqs0 | exact a_eqls | exact a_neqs | exact a_leq | exact a_geq); all_goals (intro _; try (exfalso; first | omega | contradiction))) | (apply st_rw rfl rfl; case hq => first | exact a_store) | refine tri_true rfl ?_ | refine tri_false rfl ?_ | refine tri_block ?_ | refine tri_skip ?_ | refine tri_ret ?_ | refine tri_exit ?_)
        exact nextR (L, d :: u) ⟨hs2, by simp only [List.length_cons]; omega, hall⟩ (weak_st ⟨rfl, rfl, rfl, congrArg (AV.int .i64) (k1.trans hpd.symm), trivial⟩ ⟨rfl, trivial⟩) (show (d :: u).length < r.length by simp only [List.length_cons]; omega)
    rw [if_neg hco] at hall
    rw [show Lib.hasPrefix (c :: t) comB = false from Bool.eq_false_iff.2 hco] at P1
    have f1' : n1 + 1 = pz s (c :: t) := f1
    by_cases hb : c = 47 ∨ c = 33 ∨ c = 63
    · rw [if_pos hb] at hall
      have ib : (lowC1 c).toNat = 47 ∨ (lowC1 c).toNat = 33 ∨ (lowC1 c).toNat = 63 := by
        rcases hb with e | e | e
        · exact .inl (lowC1_47.1 e)
        · exact .inr (.inl (lowC1_33.1 e))
        · exact .inr (.inr (lowC1_63.1 e))
      obtain ⟨k1, k2, k3⟩ := find_skip [62] hs1
      have F2 : CPure gx 64 [.str s, .str [62], .int .i64 (pz s (c :: t))] (.int .i64 ((findN s [62] (s.length - (c :: t).length) : Nat) : Int)) := find_c s [62] (s.length - (c :: t).length) hs (by simp) (by omega)
      simp only [List.length_cons, List.length_nil] at k1 k2 k3
      simp only [List.length_cons] at F2
      have k0 : (0 : Int) ≤ ((findN s [62] (s.length - (t.length + 1)) : Nat) : Int) := Int.natCast_nonneg _
      generalize ((findN s [62] (s.length - (t.length + 1)) : Nat) : Int) = n2 at *
      have hs2 := (skip_suf [62] (c :: t)).trans hs1
      have hle2 := skipW_le [62] (c :: t)
      generalize lowC1 c = lc at *
      rw [← f1'] at F2
      cases h2 : skipW [62] (c :: t) with
      | nil =>
        rw [h2, ← hnil] at hall
        subst hall
        have k2 := k2 h2
        clear k1
        generalize pz s r = p at *
        rcases ib with ib | ib | ib
        all_goals
          repeat' (first | refine a_f ?_ | refine st_nil ?_ | refine tri_seq ?_ | refine tri_region rfl ?_ | refine a_draw ?_ | (apply st_r rfl; case hq => first | exact q_call F1 (hcf := Tryz.call64) rfl rfl | exact q_call F2 (hcf := Tryz.call64) rfl rfl | exact q_slice_lhE (m' := s.length - (t.length + 1)) (n' := s.length - (t.length + 1) + 1) (l := [c]) (by conv => lhs; whnf) (by conv => lhs; whnf) (by conv => lhs; whnf) (by omega) (by omega) (by kernel_rfl) (by omega) (by omega) hcut | exact q_call M1 (hcf := Tryz.call48) rfl rfl | exact q_indexE (i' := 0) (c := lc) (by conv => lhs; whnf) (by conv => lhs; whnf) (by rfl) (by kernel_rfl) g0 | exact q_slice_loE (n' := s.length - (t.length + 1)) (l := c :: t) (by conv => lhs; whnf) (by conv => lhs; whnf) (by omega) (by kernel_rfl) (by omega) hd1 | exact q_call P1 (hcf := Tryz.call41) rfl rfl | exact a_lens | exact a_index | exact a_add | exact a_adds0 | exact a_addsc | exact a_adds | exact a_sub | exact a_slo | exact a_shi | exact a_slh | exact a_lensl | exact a_lenro | exact a_lennil | exact a_lenpts | exact a_field | exact a_fielde | exact a_fieldr | exact a_idxsl | exact a_load | exact a_loada | exact a_mki | exact a_build2 | exact a_build3 | exact a_build1 | exact a_build0 | exact a_bs1 | exact a_bs2 | exact a_bs3 | exact a_bs4 | exact a_bsa | exact a_boxr) | (apply st_rif rfl; (case hq => first | exact a_lss | exact a_gtr | exact a_eql | exact a_neq | exact a_eqls0 | exact a_neqs0 | exact a_eqls | exact a_neqs | exact a_leq | exact a_geq); all_goals (intro _; try (exfalso; first | omega | contradiction))) | (apply st_rw rfl rfl; case hq => first | exact a_store) | refine tri_true rfl ?_ | refine tri_false rfl ?_ | refine tri_block ?_ | refine tri_skip ?_ | refine tri_ret ?_ | refine tri_exit ?_)
          refine And.intro trivial ?_
          conv => lhs; whnf
          try rfl
      | cons d u =>
        rw [h2] at k1 hs2 hle2 hall
        have k1 := k1 (by simp)
        have hp4 := pz_lt hs2
        clear k2
        simp only [List.length_cons] at hle2
        generalize hpd : pz s (d :: u) = pd at *
        generalize pz s r = p at *
        rcases ib with ib | ib | ib
        all_goals
          repeat' (first | refine a_f ?_ | refine st_nil ?_ | refine tri_seq ?_ | refine tri_region rfl ?_ | refine a_draw ?_ | (apply st_r rfl; case hq => first | exact q_call F1 (hcf := Tryz.call64) rfl rfl | exact q_call F2 (hcf := Tryz.call64) rfl rfl | exact q_slice_lhE (m' := s.length - (t.length + 1)) (n' := s.length - (t.length + 1) + 1) (l := [c]) (by conv => lhs; whnf) (by conv => lhs; whnf) (by conv => lhs; whnf) (by omega) (by omega) (by kernel_rfl) (by omega) (by omega) hcut | exact q_call M1 (hcf := Tryz.call48) rfl rfl | exact q_indexE (i' := 0) (c := lc) (by conv => lhs; whnf) (by conv => lhs; whnf) (by rfl) (by kernel_rfl) g0 | exact q_slice_loE (n' := s.length - (t.length + 1)) (l := c :: t) (by conv => lhs; whnf) (by conv => lhs; whnf) (by omega) (by kernel_rfl) (by omega) hd1 | exact q_call P1 (hcf := Tryz.call41) rfl rfl | exact a_lens | exact a_index | exact a_add | exact a_adds0 | exact a_addsc | exact a_adds | exact a_sub | exact a_slo | exact a_shi | exact a_slh | exact a_lensl | exact a_lenro | exact a_lennil | exact a_lenpts | exact a_field | exact a_fielde | exact a_fieldr | exact a_idxsl | exact a_load | exact a_loada | exact a_mki | exact a_build2 | exact a_build3 | exact a_build1 | exact a_build0 | exact a_bs1 | exact a_bs2 | exact a_bs3 | exact a_bs4 | exact a_bsa | exact a_boxr) | (apply st_rif rfl; (case hq => first | exact a_lss | exact a_gtr | exact a_eql | exact a_neq | exact a_eqls0 | exact a_neqs0 | exact a_eqls | exact a_neqs | exact a_leq | exact a_geq); all_goals (intro _; try (exfalso; first | omega | contradiction))) | (apply st_rw rfl rfl; case hq => first | exact a_store) | refine tri_true rfl ?_ | refine tri_false rfl ?_ | refine tri_block ?_ | refine tri_skip ?_ | refine tri_ret ?_ | refine tri_exit ?_)
          exact nextR (L, d :: u) ⟨hs2, by simp only [List.length_cons]; omega, hall⟩ (weak_st ⟨rfl, rfl, rfl, congrArg (AV.int .i64) (k1.trans hpd.symm), trivial⟩ ⟨rfl, trivial⟩) (show (d :: u).length < r.length by simp only [List.length_cons]; omega)
    rw [if_neg hb] at hall
    have ib : ¬ (lowC1 c).toNat = 47 ∧ ¬ (lowC1 c).toNat = 33 ∧ ¬ (lowC1 c).toNat = 63 := ⟨fun e => hb (.inl (lowC1_47.2 e)), fun e => hb (.inr (.inl (lowC1_33.2 e))), fun e => hb (.inr (.inr (lowC1_63.2 e)))⟩
    have hal := lowC1_al (c := c)
    cases ha : alB c with
    | true =>
      rw [ha] at hal
      have hal := hal.1 rfl
      rw [ha, if_pos rfl] at hall
      have T1 := rtag_c s (c :: t) hs hs1
      obtain ⟨ht1, ht2⟩ := tagF_suf s.length (c :: t)
      have htl := ht1.length_le
      simp only [List.length_cons] at ht2 htl
      have hs2 := ht1.trans hs1
      generalize (tagF s.length (c :: t)).1 = M at *
      generalize (tagF s.length (c :: t)).2 = r2 at *
      have hml := lk_len M
      have hrw : lkRows (L ++ M) = lkRows L ++ lkRows M := by simp [lkRows]
      have hfl : ((lkRows M).all fun r => r.all AV.flat) = true := by
        rw [List.all_eq_true]
        intro r hr
        obtain ⟨x, _, rfl⟩ := List.mem_map.1 hr
        rfl
      generalize lowC1 c = lc at *
      rw [← f1'] at T1
      rw [← List.append_assoc] at hall
      cases M with
      | nil =>
        rw [List.append_nil] at hall
        rw [show lkRows ([] : List Lk) = [] from rfl] at T1
        cases r2 with
        | nil =>
          rw [← hnil] at hall
          subst hall
          generalize pz s r = p at *
          generalize pz s [] = p2 at *
          repeat' (first | refine a_f ?_ | refine st_nil ?_ | refine tri_seq ?_ | refine tri_region rfl ?_ | refine a_draw ?_ | (apply st_r rfl; case hq => first | exact q_call F1 (hcf := Tryz.call64) rfl rfl | exact q_call T1 (hcf := Tryz.call65) rfl rfl | exact q_slice_lhE (m' := s.length - (t.length + 1)) (n' := s.length - (t.length + 1) + 1) (l := [c]) (by conv => lhs; whnf) (by conv => lhs; whnf) (by conv => lhs; whnf) (by omega) (by omega) (by kernel_rfl) (by omega) (by omega) hcut | exact q_call M1 (hcf := Tryz.call48) rfl rfl | exact q_indexE (i' := 0) (c := lc) (by conv => lhs; whnf) (by conv => lhs; whnf) (by rfl) (by kernel_rfl) g0 | exact q_slice_loE (n' := s.length - (t.length + 1)) (l := c :: t) (by conv => lhs; whnf) (by conv => lhs; whnf) (by omega) (by kernel_rfl) (by omega) hd1 | exact q_call P1 (hcf := Tryz.call41) rfl rfl | exact a_lens | exact a_index | exact a_add | exact a_adds0 | exact a_addsc | exact a_adds | exact a_sub | exact a_slo | exact a_shi | exact a_slh | exact a_lensl | exact a_lenro | exact a_lennil | exact a_lenpts | exact a_field | exact a_fielde | exact a_fieldr | exact a_idxsl | exact a_load | exact a_loada | exact a_mki | exact a_build2 | exact a_build3 | exact a_build1 | exact a_build0 | exact a_bs1 | exact a_bs2 | exact a_bs3 | exact a_bs4 | exact a_bsa | exact a_boxr) | (apply st_rif rfl; (case hq => first | exact a_lss | exact a_gtr | exact a_eql | exact a_neq | exact a_eqls0 | exact a_neqs0 | exact a_eqls | exact a_neqs | exact a_leq | exact a_geq); all_goals (intro _; try (exfalso; first | omega | contradiction))) | (apply st_rw rfl rfl; case hq => first | exact w_append0 (id := 101) (by conv => lhs; whnf) (by conv => lhs; whnf; arg 1; whnf) (by conv => lhs; whnf) (by first | exact Tryz.underlying22 | exact Tryz.underlying23 | exact Tryz.underlying43 | exact Tryz.underlying44 | exact Tryz.underlying51 | exact Tryz.underlying86 | exact Tryz.underlying191 | exact Tryz.underlying209 | exact Tryz.underlying234 | exact Tryz.underlying270 | exact Tryz.underlying281 | exact Tryz.underlying344) (by kernel_rfl) rfl | exact a_store) | refine tri_true rfl ?_ | refine tri_false rfl ?_ | refine tri_block ?_ | refine tri_skip ?_ | refine tri_ret ?_ | refine tri_exit ?_)
          refine And.intro trivial ?_
          conv => lhs; whnf
          try rfl
        | cons d u =>
          have hp4 := pz_lt hs2
          simp only [List.length_cons] at htl
          generalize pz s r = p at *
          generalize hpd : pz s (d :: u) = p2 at *
          repeat' (first | refine a_f ?_ | refine st_nil ?_ | refine tri_seq ?_ | refine tri_region rfl ?_ | refine a_draw ?_ | (apply st_r rfl; case hq => first | exact q_call F1 (hcf := Tryz.call64) rfl rfl | exact q_call T1 (hcf := Tryz.call65) rfl rfl | exact q_slice_lhE (m' := s.length - (t.length + 1)) (n' := s.length - (t.length + 1) + 1) (l := [c]) (by conv => lhs; whnf) (by conv => lhs; whnf) (by conv => lhs; whnf) (by omega) (by omega) (by kernel_rfl) (by omega) (by omega) hcut | exact q_call M1 (hcf := Tryz.call48) rfl rfl | exact q_indexE (i' := 0) (c := lc) (by conv => lhs; whnf) (by conv => lhs; whnf) (by rfl) (by kernel_rfl) g0 | exact q_slice_loE (n' := s.length - (t.length + 1)) (l := c :: t) (by conv => lhs; whnf) (by conv => lhs; whnf) (by omega) (by kernel_rfl) (by omega) hd1 | exact q_call P1 (hcf := Tryz.call41) rfl rfl | exact a_lens | exact a_index | exact a_add | exact a_adds0 | exact a_addsc | exact a_adds | exact a_sub | exact a_slo | exact a_shi | exact a_slh | exact a_lensl | exact a_lenro | exact a_lennil | exact a_lenpts | exact a_field | exact a_fielde | exact a_fieldr | exact a_idxsl | exact a_load | exact a_loada | exact a_mki | exact a_build2 | exact a_build3 | exact a_build1 | exact a_build0 | exact a_bs1 | exact a_bs2 | exact a_bs3 | exact a_bs4 | exact a_bsa | exact a_boxr) | (apply st_rif rfl; (case hq => first | exact a_lss | exact a_gtr | exact a_eql | exact a_neq | exact a_eqls0 | exact a_neqs0 | exact a_eqls | exact a_neqs | exact a_leq | exact a_geq); all_goals (intro _; try (exfalso; first | omega | contradiction))) | (apply st_rw rfl rfl; case hq => first | exact w_append0 (id := 101) (by conv => lhs; whnf) (by conv => lhs; whnf; arg 1; whnf) (by conv => lhs; whnf) (by first | exact Tryz.underlying22 | exact Tryz.underlying23 | exact Tryz.underlying43 | exact Tryz.underlying44 | exact Tryz.underlying51 | exact Tryz.underlying86 | exact Tryz.underlying191 | exact Tryz.underlying209 | exact Tryz.underlying234 | exact Tryz.underlying270 | exact Tryz.underlying281 | exact Tryz.underlying344) (by kernel_rfl) rfl | exact a_store) | refine tri_true rfl ?_ | refine tri_false rfl ?_ | refine tri_block ?_ | refine tri_skip ?_ | refine tri_ret ?_ | refine tri_exit ?_)
          exact nextR (L, d :: u) ⟨hs2, by simp only [List.length_cons]; omega, hall⟩ (weak_st ⟨rfl, rfl, rfl, congrArg (AV.int .i64) hpd.symm, trivial⟩ ⟨rfl, trivial⟩) (show (d :: u).length < r.length by simp only [List.length_cons]; omega)
      | cons m M' =>
        have hmne : lkRows (m :: M') ≠ [] := by simp [lkRows]
        generalize m :: M' = M at *
        cases r2 with
        | nil =>
          rw [← hnil] at hall
          rw [← hall, hrw]
          generalize pz s r = p at *
          generalize pz s [] = p2 at *
          repeat' (first | refine a_f ?_ | refine st_nil ?_ | refine tri_seq ?_ | refine tri_region rfl ?_ | refine a_draw ?_ | (apply st_r rfl; case hq => first | exact q_call F1 (hcf := Tryz.call64) rfl rfl | exact q_call T1 (hcf := Tryz.call65) rfl rfl | exact q_slice_lhE (m' := s.length - (t.length + 1)) (n' := s.length - (t.length + 1) + 1) (l := [c]) (by conv => lhs; whnf) (by conv => lhs; whnf) (by conv => lhs; whnf) (by omega) (by omega) (by kernel_rfl) (by omega) (by omega) hcut | exact q_call M1 (hcf := Tryz.call48) rfl rfl | exact q_indexE (i' := 0) (c := lc) (by conv => lhs; whnf) (by conv => lhs; whnf) (by rfl) (by kernel_rfl) g0 | exact q_slice_loE (n' := s.length - (t.length + 1)) (l := c :: t) (by conv => lhs; whnf) (by conv => lhs; whnf) (by omega) (by kernel_rfl) (by omega) hd1 | exact q_call P1 (hcf := Tryz.call41) rfl rfl | exact a_lens | exact a_index | exact a_add | exact a_adds0 | exact a_addsc | exact a_adds | exact a_sub | exact a_slo | exact a_shi | exact a_slh | exact a_lensl | exact a_lenro | exact a_lennil | exact a_lenpts | exact a_field | exact a_fielde | exact a_fieldr | exact a_idxsl | exact a_load | exact a_loada | exact a_mki | exact a_build2 | exact a_build3 | exact a_build1 | exact a_build0 | exact a_bs1 | exact a_bs2 | exact a_bs3 | exact a_bs4 | exact a_bsa | exact a_boxr) | (apply st_rif rfl; (case hq => first | exact a_lss | exact a_gtr | exact a_eql | exact a_neq | exact a_eqls0 | exact a_neqs0 | exact a_eqls | exact a_neqs | exact a_leq | exact a_geq); all_goals (intro _; try (exfalso; first | omega | contradiction))) | (apply st_rw rfl rfl; case hq => first | exact w_append (id := 101) (by conv => lhs; whnf) (by conv => lhs; whnf; arg 1; whnf) (by conv => lhs; whnf) (by first | exact Tryz.underlying22 | exact Tryz.underlying23 | exact Tryz.underlying43 | exact Tryz.underlying44 | exact Tryz.underlying51 | exact Tryz.underlying86 | exact Tryz.underlying191 | exact Tryz.underlying209 | exact Tryz.underlying234 | exact Tryz.underlying270 | exact Tryz.underlying281 | exact Tryz.underlying344) (by kernel_rfl) hmne hfl (by omega) rfl rfl | exact a_store) | refine tri_true rfl ?_ | refine tri_false rfl ?_ | refine tri_block ?_ | refine tri_skip ?_ | refine tri_ret ?_ | refine tri_exit ?_)
          refine And.intro trivial ?_
          conv => lhs; whnf
          try rfl
        | cons d u =>
          have hp4 := pz_lt hs2
          simp only [List.length_cons] at htl ht2
          generalize pz s r = p at *
          generalize hpd : pz s (d :: u) = p2 at *
          repeat' (first | refine a_f ?_ | refine st_nil ?_ | refine tri_seq ?_ | refine tri_region rfl ?_ | refine a_draw ?_ | (apply st_r rfl; case hq => first | exact q_call F1 (hcf := Tryz.call64) rfl rfl | exact q_call T1 (hcf := Tryz.call65) rfl rfl | exact q_slice_lhE (m' := s.length - (t.length + 1)) (n' := s.length - (t.length + 1) + 1) (l := [c]) (by conv => lhs; whnf) (by conv => lhs; whnf) (by conv => lhs; whnf) (by omega) (by omega) (by kernel_rfl) (by omega) (by omega) hcut | exact q_call M1 (hcf := Tryz.call48) rfl rfl | exact q_indexE (i' := 0) (c := lc) (by conv => lhs; whnf) (by conv => lhs; whnf) (by rfl) (by kernel_rfl) g0 | exact q_slice_loE (n' := s.length - (t.length + 1)) (l := c :: t) (by conv => lhs; whnf) (by conv => lhs; whnf) (by omega) (by kernel_rfl) (by omega) hd1 | exact q_call P1 (hcf := Tryz.call41) rfl rfl | exact a_lens | exact a_index | exact a_add | exact a_adds0 | exact a_addsc | exact a_adds | exact a_sub | exact a_slo | exact a_shi | exact a_slh | exact a_lensl | exact a_lenro | exact a_lennil | exact a_lenpts | exact a_field | exact a_fielde | exact a_fieldr | exact a_idxsl | exact a_load | exact a_loada | exact a_mki | exact a_build2 | exact a_build3 | exact a_build1 | exact a_build0 | exact a_bs1 | exact a_bs2 | exact a_bs3 | exact a_bs4 | exact a_bsa | exact a_boxr) | (apply st_rif rfl; (case hq => first | exact a_lss | exact a_gtr | exact a_eql | exact a_neq | exact a_eqls0 | exact a_neqs0 | exact a_eqls | exact a_neqs | exact a_leq | exact a_geq); all_goals (intro _; try (exfalso; first | omega | contradiction))) | (apply st_rw rfl rfl; case hq => first | exact w_append (id := 101) (by conv => lhs; whnf) (by conv => lhs; whnf; arg 1; whnf) (by conv => lhs; whnf) (by first | exact Tryz.underlying22 | exact Tryz.underlying23 | exact Tryz.underlying43 | exact Tryz.underlying44 | exact Tryz.underlying51 | exact Tryz.underlying86 | exact Tryz.underlying191 | exact Tryz.underlying209 | exact Tryz.underlying234 | exact Tryz.underlying270 | exact Tryz.underlying281 | exact Tryz.underlying344) (by kernel_rfl) hmne hfl (by omega) rfl rfl | exact a_store) | refine tri_true rfl ?_ | refine tri_false rfl ?_ | refine tri_block ?_ | refine tri_skip ?_ | refine tri_ret ?_ | refine tri_exit ?_)
          exact nextR (L ++ M, d :: u) ⟨hs2, by simp only [List.length_append, List.length_cons]; omega, hall⟩ (weak_st ⟨rfl, rfl, rfl, congrArg (AV.int .i64) hpd.symm, trivial⟩ ⟨congrArg (fun l => some (AObj.rows LkT 3 l)) hrw.symm, trivial⟩) (show (d :: u).length < r.length by simp only [List.length_cons]; omega)
    | false =>
      have hal' : ¬ (97 ≤ (lowC1 c).toNat ∧ (lowC1 c).toNat ≤ 122) := fun h => by
        have := hal.2 h
        rw [ha] at this; cases this
      rw [ha, if_neg Bool.false_ne_true] at hall
      clear hal
      generalize lowC1 c = lc at *
      generalize pz s r = p at *
      generalize hpd : pz s (c :: t) = p2 at *
      repeat' (first | refine a_f ?_ | refine st_nil ?_ | refine tri_seq ?_ | refine tri_region rfl ?_ | refine a_draw ?_ | (apply st_r rfl; case hq => first | exact q_call F1 (hcf := Tryz.call64) rfl rfl | exact q_slice_lhE (m' := s.length - (t.length + 1)) (n' := s.length - (t.length + 1) + 1) (l := [c]) (by conv => lhs; whnf) (by conv => lhs; whnf) (by conv => lhs; whnf) (by omega) (by omega) (by kernel_rfl) (by omega) (by omega) hcut | exact q_call M1 (hcf := Tryz.call48) rfl rfl | exact q_indexE (i' := 0) (c := lc) (by conv => lhs; whnf) (by conv => lhs; whnf) (by rfl) (by kernel_rfl) g0 | exact q_slice_loE (n' := s.length - (t.length + 1)) (l := c :: t) (by conv => lhs; whnf) (by conv => lhs; whnf) (by omega) (by kernel_rfl) (by omega) hd1 | exact q_call P1 (hcf := Tryz.call41) rfl rfl | exact a_lens | exact a_index | exact a_add | exact a_adds0 | exact a_addsc | exact a_adds | exact a_sub | exact a_slo | exact a_shi | exact a_slh | exact a_lensl | exact a_lenro | exact a_lennil | exact a_lenpts | exact a_field | exact a_fielde | exact a_fieldr | exact a_idxsl | exact a_load | exact a_loada | exact a_mki | exact a_build2 | exact a_build3 | exact a_build1 | exact a_build0 | exact a_bs1 | exact a_bs2 | exact a_bs3 | exact a_bs4 | exact a_bsa | exact a_boxr) | (apply st_rif rfl; (case hq => first | exact a_lss | exact a_gtr | exact a_eql | exact a_neq | exact a_eqls0 | exact a_neqs0 | exact a_eqls | exact a_neqs | exact a_leq | exact a_geq); all_goals (intro _; try (exfalso; first | omega | contradiction))) | (apply st_rw rfl rfl; case hq => first | exact a_store) | refine tri_true rfl ?_ | refine tri_false rfl ?_ | refine tri_block ?_ | refine tri_skip ?_ | refine tri_ret ?_ | refine tri_exit ?_)
      all_goals exact nextR (L, c :: t) ⟨hs1, by simp only [List.length_cons]; omega, hall⟩ (weak_st ⟨rfl, rfl, rfl, congrArg (AV.int .i64) (f1'.trans hpd.symm), trivial⟩ ⟨rfl, trivial⟩) (show (c :: t).length < r.length by simp only [List.length_cons]; omega)
end
end Go.Proofs.YtignjjnflcpiiaaGreatDoor
