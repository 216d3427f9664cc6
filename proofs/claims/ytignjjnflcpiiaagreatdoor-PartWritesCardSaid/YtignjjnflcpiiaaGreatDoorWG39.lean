import Derived.Test.YtignjjnflcpiiaaGreatDoorWG36
import Derived.Test.YtignjjnflcpiiaaGreatDoorWKindEm
import Derived.Test.YtignjjnflcpiiaaGreatDoorWKindW
import Derived.Test.YtignjjnflcpiiaaGreatDoorWPartR
import Derived.Test.YtignjjnflcpiiaaGreatDoorWG21
import Derived.Test.YtignjjnflcpiiaaGreatDoorWG17
import Derived.Test.YtignjjnflcpiiaaGreatDoorWG10
set_option linter.unusedVariables false
set_option linter.unusedSimpArgs false
set_option maxHeartbeats 1000000
namespace Go.Proofs.YtignjjnflcpiiaaGreatDoor
open Go.RowKit
attribute [local irreducible] Tri Steps Qd Wr Weak CPure CEff
set_option maxRecDepth 100000
theorem setBnd_small {b : B} (hb : b.length ≤ 1000000) {ps : Fs} (h : Small ps) : Small (setBnd b ps) := by
  have key : ∀ ps : Fs, (∀ f ∈ ps, f.1.length ≤ 1000000 ∧ f.2.length ≤ 1000000) → (setBnd b ps).length = ps.length ∧ ∀ f ∈ setBnd b ps, f.1.length ≤ 1000000 ∧ f.2.length ≤ 1000000 := by
    intro ps
    induction ps with
    | nil => intro _; exact ⟨rfl, fun f hf => by cases hf⟩
    | cons p r ih =>
      intro h
      obtain ⟨h1, h2⟩ := ih (fun f hf => h f (List.mem_cons_of_mem _ hf))
      have hp := h p List.mem_cons_self
      rw [setBnd]
      split
      · refine ⟨rfl, fun f hf => ?_⟩
        rcases List.mem_cons.1 hf with rfl | hf
        · exact ⟨hp.1, hb⟩
        · exact h f (List.mem_cons_of_mem _ hf)
      · refine ⟨by simp [h1], fun f hf => ?_⟩
        rcases List.mem_cons.1 hf with rfl | hf
        · exact hp
        · exact h2 f hf
  obtain ⟨h1, h2⟩ := key ps h.one
  exact ⟨by rw [h1]; exact h.len, h2⟩
theorem setBnd_at (b : B) : ∀ (ps : Fs) (i : Nat) (f : B × B), ps[i]? = some f → f.1 = bndN → (∀ j g, j < i → ps[j]? = some g → g.1 ≠ bndN) → fieldRows (setBnd b ps) = (fieldRows ps).set i [.str f.1, .str b]
  | p :: r, 0, f, h, hf, _ => by
    simp only [List.getElem?_cons_zero, Option.some.injEq] at h
    subst h
    rw [setBnd, if_pos hf]
    rfl
  | p :: r, i + 1, f, h, hf, ha => by
    rw [setBnd, if_neg (ha 0 p (by omega) rfl)]
    show _ :: fieldRows (setBnd b r) = _ :: (fieldRows r).set i _
    rw [setBnd_at b r i f h hf (fun j g hj hg => ha (j + 1) g (by omega) hg)]
theorem setBnd_no (b : B) : ∀ ps : Fs, (∀ j g, j < ps.length → ps[j]? = some g → g.1 ≠ bndN) → setBnd b ps = ps
  | [], _ => rfl
  | p :: r, h => by
    rw [setBnd, if_neg (h 0 p (by simp) rfl), setBnd_no b r (fun j g hj hg => h (j + 1) g (by simp; omega) hg)]
set_option maxHeartbeats 4000000 in
theorem rename_c (v b m : B) (ps : Fs) (hv : v.length ≤ 1000000) (hb : b.length ≤ 100) (hok : okV b = true) (hk : readK tokC blk lowC v = some (m, ps)) : CPure gx 81 [.str v, .str b] (.str (renameF v b)) := by
  refine cpure_of Tryz.func81 rfl (Nat.le_of_ble_eq_true rfl) rfl (fun w hw => ?_)
  have M1 := kread_m v hv hk
  obtain ⟨hps, hm⟩ := readK_small hk hv
  obtain ⟨t, ht, hw1, _⟩ := rename_facts hok hk
  have K1 := kwrite_c m (setBnd b ps) (by omega) (setBnd_small (by omega) hps)
  rw [hw1] at K1
  have K1 : CPure gx 23 [.str m, .ro false 2 (fieldRows (setBnd b ps))] (.tup [.str t, .nili]) := K1
  rw [ht]
  have hfl := fr_len ps
  have hpl := hps.len
  clear hk hw1 ht hok
  repeat' (first | refine a_f ?_ | refine st_nil ?_ | refine tri_seq ?_ | refine tri_region rfl ?_ | refine a_draw ?_ | (apply st_r rfl; case hq => first | exact a_q) | (apply st_rif rfl; (case hq => first | exact a_i); all_goals (intro _; try (exfalso; first | omega | contradiction))) | (apply st_rw rfl rfl; case hq => first | exact w_make 100 M1 Tryz.call26 rfl rfl rfl | exact a_store) | refine tri_true rfl ?_ | refine tri_false rfl ?_ | refine tri_block ?_ | refine tri_skip ?_ | refine tri_ret ?_ | refine tri_exit ?_)
  refine tri_loop (fun (i : Nat) => i ≤ ps.length ∧ ∀ j g, j < i → ps[j]? = some g → g.1 ≠ bndN) (fun i => st [(1, .str b), (4, .str []), (5, .str m), (6, .sl 100), (18, .int .i64 (fieldRows ps).length), (19, .int .i64 i)] [(100, .rows 53 2 (fieldRows ps))]) (fun i => ps.length - i) 0 ⟨Nat.zero_le _, fun j g h => absurd h (Nat.not_lt_zero _)⟩ ?hw (fun i hi => ?_)
  case hw => exact weak_st ⟨rfl, rfl, rfl, rfl, rfl, rfl, trivial⟩ ⟨rfl, trivial⟩
  obtain ⟨hi, hno⟩ := hi
  by_cases hil : i < ps.length
  · obtain ⟨f, hf1, hfm, hfd, hfr⟩ := fr_at hil
    have hfr' : (fieldRows ps)[i]? = some [.str f.1, .str f.2] := by rw [Int.toNat_natCast] at hfr; exact hfr
    by_cases hf : f.1 = bndN
    · have hset := setBnd_at b ps i f hf1 hf hno
      have K1' : CPure gx 23 [.str m, .ro false 2 ((fieldRows ps).set (i : Int).toNat [.str f.1, .str b])] (.tup [.str t, .nili]) := by rw [Int.toNat_natCast, ← hset]; exact K1
      have hf : f.1 = [98, 111, 117, 110, 100, 97, 114, 121] := hf
      repeat' (first | refine a_f ?_ | refine st_nil ?_ | refine tri_seq ?_ | refine tri_region rfl ?_ | refine a_draw ?_ | (apply st_r rfl; case hq => first | exact q_idxsl (by conv => lhs; whnf) (by conv => lhs; whnf; arg 1; whnf) (by conv => lhs; whnf) (by first | exact Tryz.underlying22 | exact Tryz.underlying23 | exact Tryz.underlying43 | exact Tryz.underlying44 | exact Tryz.underlying51 | exact Tryz.underlying86 | exact Tryz.underlying191 | exact Tryz.underlying209 | exact Tryz.underlying234 | exact Tryz.underlying270 | exact Tryz.underlying281 | exact Tryz.underlying344) (by kernel_rfl) (by omega) (by omega) | exact q_loade (by conv => lhs; whnf) (by conv => lhs; whnf; arg 1; whnf) hfr rfl (by show scalB Tryz.prog _ = true; decide +kernel) | exact q_call K1' (hcf := Tryz.call23) rfl rfl | exact a_q) | (apply st_rif rfl; (case hq => first | exact a_i); all_goals (intro _; try (exfalso; first | omega | contradiction))) | (apply st_rw rfl rfl; case hq => first | exact w_storee (by conv => lhs; whnf) (by conv => lhs; whnf; arg 1; whnf) hfr (by conv => lhs; whnf) rfl (by kernel_rfl) rfl (by first | rfl | exact Nat.le_of_ble_eq_true rfl | exact Nat.succ_pos _ | decide) (by first | rfl | exact Nat.le_of_ble_eq_true rfl | exact Nat.succ_pos _ | decide) (by conv => lhs; whnf) | exact a_store) | refine tri_true rfl ?_ | refine tri_false rfl ?_ | refine tri_block ?_ | refine tri_skip ?_ | refine tri_ret ?_ | refine tri_exit ?_)
      refine And.intro trivial ?_
      conv => lhs; whnf
      try rfl
    · have hf' : f.1 ≠ [98, 111, 117, 110, 100, 97, 114, 121] := hf
      repeat' (first | refine a_f ?_ | refine st_nil ?_ | refine tri_seq ?_ | refine tri_region rfl ?_ | refine a_draw ?_ | (apply st_r rfl; case hq => first | exact q_idxsl (by conv => lhs; whnf) (by conv => lhs; whnf; arg 1; whnf) (by conv => lhs; whnf) (by first | exact Tryz.underlying22 | exact Tryz.underlying23 | exact Tryz.underlying43 | exact Tryz.underlying44 | exact Tryz.underlying51 | exact Tryz.underlying86 | exact Tryz.underlying191 | exact Tryz.underlying209 | exact Tryz.underlying234 | exact Tryz.underlying270 | exact Tryz.underlying281 | exact Tryz.underlying344) (by kernel_rfl) (by omega) (by omega) | exact q_loade (by conv => lhs; whnf) (by conv => lhs; whnf; arg 1; whnf) hfr rfl (by show scalB Tryz.prog _ = true; decide +kernel) | exact a_q) | (apply st_rif rfl; (case hq => first | exact a_i); all_goals (intro _; try (exfalso; first | omega | contradiction))) | (apply st_rw rfl rfl; case hq => first | exact a_store) | refine tri_true rfl ?_ | refine tri_false rfl ?_ | refine tri_block ?_ | refine tri_skip ?_ | refine tri_ret ?_ | refine tri_exit ?_)
      exact nextR (i + 1) ⟨by omega, fun j g hj hg => by
        by_cases hji : j = i
        · subst hji
          rw [hf1] at hg
          cases hg
          exact hf
        · exact hno j g (by omega) hg⟩ (weak_st ⟨rfl, rfl, rfl, rfl, rfl, rfl, trivial⟩ ⟨rfl, trivial⟩) (show ps.length - (i + 1) < ps.length - i by omega)
  · have hset := setBnd_no b ps (fun j g hj hg => hno j g (by omega) hg)
    rw [hset] at K1
    repeat' (first | refine a_f ?_ | refine st_nil ?_ | refine tri_seq ?_ | refine tri_region rfl ?_ | refine a_draw ?_ | (apply st_r rfl; case hq => first | exact q_call K1 (hcf := Tryz.call23) rfl rfl | exact a_q) | (apply st_rif rfl; (case hq => first | exact a_i); all_goals (intro _; try (exfalso; first | omega | contradiction))) | (apply st_rw rfl rfl; case hq => first | exact a_store) | refine tri_true rfl ?_ | refine tri_false rfl ?_ | refine tri_block ?_ | refine tri_skip ?_ | refine tri_ret ?_ | refine tri_exit ?_)
    refine And.intro trivial ?_
    conv => lhs; whnf
    try rfl
end Go.Proofs.YtignjjnflcpiiaaGreatDoor
namespace Go.Proofs.YtignjjnflcpiiaaGreatDoor
open Go.RowKit
attribute [local irreducible] Tri Steps Qd Wr Weak CPure CEff
set_option maxRecDepth 100000
theorem zBuilder : zeroL Tryz.prog BT = some [.nilp, .nils] := by kernel_rfl
theorem takeWhile_len {p : UInt8 → Bool} : ∀ {r : B} {k : Nat}, k ≤ r.length → (∀ j, j < k → p (r.getD j 0) = true) → (k < r.length → p (r.getD k 0) = false) → (r.takeWhile p).length = k
  | [], k, h, _, _ => by have : k = 0 := by simpa using h
                         subst this; rfl
  | c :: r, 0, _, _, h => by
    have := h (by simp)
    rw [List.getD_cons_zero] at this
    rw [List.takeWhile_cons, this]; rfl
  | c :: r, k + 1, h0, h1, h2 => by
    have hc : p c = true := h1 0 (Nat.succ_pos k)
    rw [List.takeWhile_cons, if_pos hc, List.length_cons, takeWhile_len (r := r) (k := k) (by simpa using h0) (fun j hj => h1 (j + 1) (by omega)) (fun hk => h2 (by simpa using hk))]
theorem dropWhile_drop {p : UInt8 → Bool} {r : B} {k : Nat} (h : (r.takeWhile p).length = k) : r.dropWhile p = r.drop k := by
  have e := List.takeWhile_append_dropWhile (p := p) (l := r)
  subst h
  conv => rhs; arg 2; rw [← e]
  rw [List.drop_left' rfl]
theorem wordLen_at {r : B} {k0 k : Nat} (h0 : (r.takeWhile bl).length = k0) (h1 : k0 ≤ k) (h2 : k ≤ r.length) (h3 : ∀ j, k0 ≤ j → j < k → nb (r.getD j 0) = true) (h4 : k < r.length → nb (r.getD k 0) = false) : wordLen r = k := by
  have hg : ∀ j, (r.drop k0).getD j 0 = r.getD (k0 + j) 0 := fun j => by simp [List.getD_eq_getElem?_getD]
  have h5 := takeWhile_len (p := nb) (r := r.drop k0) (k := k - k0) (by rw [List.length_drop]; omega) (fun j hj => by rw [hg]; exact h3 _ (by omega) (by omega)) (fun hk => by
    rw [List.length_drop] at hk
    rw [hg, show k0 + (k - k0) = k by omega]
    exact h4 (by omega))
  unfold wordLen
  rw [h0, dropWhile_drop h0, h5]
  omega
theorem bl_iff (c : UInt8) : bl c = true ↔ (c.toNat : Int) = 32 := by
  simp only [bl, beq_iff_eq, ← UInt8.toNat_inj]
  have : (32 : UInt8).toNat = 32 := rfl
  omega
theorem nb_bl (c : UInt8) : nb c = !bl c := rfl
theorem getD_cast (r : B) (k : Nat) : r.getD (k : Int).toNat 0 = r.getD k 0 := by rw [Int.toNat_natCast]
set_option maxHeartbeats 4000000 in
theorem line_e (l head rest : B) (hb : l.length + head.length + 3 * rest.length ≤ 100000000000000) : CEff gx 141 (.bld ByT BT l) [.ptr 0 0, .str head, .str rest] (some (.bld ByT BT (l ++ lineGo head rest))) (.tup []) := by
  refine ceff_of Tryz.func141 rfl (Nat.le_of_ble_eq_true rfl) (fun w γ hw hM => ?_)
  repeat' (first | refine a_f ?_ | refine st_nil ?_ | refine tri_seq ?_ | refine tri_region rfl ?_ | refine a_draw ?_ | (apply st_r rfl; case hq => first | exact a_q) | (apply st_rif rfl; (case hq => first | exact a_i); all_goals (intro _; try (exfalso; first | omega | contradiction))) | (apply st_rw rfl rfl; case hq => first | exact a_store) | refine tri_true rfl ?_ | refine tri_false rfl ?_ | refine tri_block ?_ | refine tri_skip ?_ | refine tri_ret ?_ | refine tri_exit ?_)
  refine tri_loop (fun (x : B × B × B) => x.1 ++ lineGo x.2.1 x.2.2 = l ++ lineGo head rest ∧ x.1.length + x.2.1.length + 3 * x.2.2.length ≤ 100000000000000) (fun x => st [(0, .ptr 0 0), (1, .str x.2.1), (2, .str x.2.2)] [(0, .bld ByT BT x.1)]) (fun x => x.2.2.length) (l, head, rest) ⟨rfl, hb⟩ ?hw (fun x hx => ?_)
  case hw => exact weak_st ⟨rfl, rfl, rfl, trivial⟩ ⟨rfl, trivial⟩
  obtain ⟨l1, h1, r1⟩ := x
  change Tri _ _ (st [(0, .ptr 0 0), (1, .str h1), (2, .str r1)] [(0, .bld ByT BT l1)]) _
  obtain ⟨hx1, hx2⟩ := hx
  simp only at hx1 hx2
  have S1 := writeString_e l1 (h1 ++ [13, 10]) (by simp only [List.length_append, List.length_cons, List.length_nil]; omega)
  repeat' (first | refine a_f ?_ | refine st_nil ?_ | refine tri_seq ?_ | refine tri_region rfl ?_ | refine a_draw ?_ | (apply st_r rfl; case hq => first | exact a_q) | (apply st_rif rfl; (case hq => first | exact a_i); all_goals (intro _; try (exfalso; first | omega | contradiction))) | (apply st_rw rfl rfl; case hq => first | exact a_store) | refine tri_true rfl ?_ | refine tri_false rfl ?_ | refine tri_block ?_ | refine tri_skip ?_ | refine tri_ret ?_ | refine tri_exit ?_)
  refine tri_loop_to (fun (k : Nat) => k ≤ r1.length ∧ ∀ j, j < k → bl (r1.getD j 0) = true) (fun k => st [(0, .ptr 0 0), (1, .str h1), (2, .str r1), (6, .int .i64 k)] [(0, .bld ByT BT l1)]) (fun k => r1.length - k) (fun (k : Nat) => (r1.takeWhile bl).length = k ∧ k ≤ r1.length) (fun k => st [(0, .ptr 0 0), (1, .str h1), (2, .str r1), (6, .int .i64 k)] [(0, .bld ByT BT l1)]) 0 ⟨Nat.zero_le _, fun j hj => absurd hj (Nat.not_lt_zero j)⟩ ?hw weak_tri (fun k hk => ?_) (fun k0 hk0 => ?_)
  case hw => exact weak_st ⟨rfl, rfl, rfl, rfl, trivial⟩ ⟨rfl, trivial⟩
  · obtain ⟨hk1, hk2⟩ := hk
    repeat' (first | refine a_f ?_ | refine st_nil ?_ | refine tri_seq ?_ | refine tri_region rfl ?_ | refine a_draw ?_ | (apply st_r rfl; case hq => first | exact a_q) | (apply st_rif rfl; (case hq => first | exact a_i); all_goals (intro _; try (exfalso; first | omega | contradiction))) | (apply st_rw rfl rfl; case hq => first | exact a_store) | refine tri_true rfl ?_ | refine tri_false rfl ?_ | refine tri_block ?_ | refine tri_skip ?_ | refine tri_ret ?_ | refine tri_exit ?_)
    · exact nextR (k + 1) ⟨by omega, good_step hk2 ((bl_iff _).2 ‹_›)⟩ (weak_st ⟨rfl, rfl, rfl, rfl, trivial⟩ ⟨rfl, trivial⟩) (show r1.length - (k + 1) < r1.length - k by omega)
    · refine outR k ⟨takeWhile_len hk1 hk2 (fun _ => ?_), hk1⟩ (weak_st ⟨rfl, rfl, rfl, rfl, trivial⟩ ⟨rfl, trivial⟩)
      rw [← getD_cast, Bool.eq_false_iff]
      exact fun h => ‹¬ _› ((bl_iff _).1 h)
    · exact outR k ⟨takeWhile_len hk1 hk2 (fun _ => by omega), hk1⟩ (weak_st ⟨rfl, rfl, rfl, rfl, trivial⟩ ⟨rfl, trivial⟩)
  obtain ⟨hk0, hkl⟩ := hk0
  repeat' (first | refine a_f ?_ | refine st_nil ?_ | refine tri_seq ?_ | refine tri_region rfl ?_ | refine a_draw ?_ | (apply st_r rfl; case hq => first | exact a_q) | (apply st_rif rfl; (case hq => first | exact a_i); all_goals (intro _; try (exfalso; first | omega | contradiction))) | (apply st_rw rfl rfl; case hq => first | exact a_store) | refine tri_true rfl ?_ | refine tri_false rfl ?_ | refine tri_block ?_ | refine tri_skip ?_ | refine tri_ret ?_ | refine tri_exit ?_)
  refine tri_loop_to (fun (k : Nat) => k0 ≤ k ∧ k ≤ r1.length ∧ ∀ j, k0 ≤ j → j < k → nb (r1.getD j 0) = true) (fun k => st [(0, .ptr 0 0), (1, .str h1), (2, .str r1), (6, .int .i64 k)] [(0, .bld ByT BT l1)]) (fun k => r1.length - k) (fun (k : Nat) => wordLen r1 = k) (fun k => st [(0, .ptr 0 0), (1, .str h1), (2, .str r1), (6, .int .i64 k)] [(0, .bld ByT BT l1)]) k0 ⟨Nat.le_refl _, hkl, fun j h1 h2 => absurd h1 (by omega)⟩ ?hw weak_tri (fun k hk => ?_) (fun k hk => ?_)
  case hw => exact weak_st ⟨rfl, rfl, rfl, rfl, trivial⟩ ⟨rfl, trivial⟩
  · obtain ⟨hk1, hk2, hk3⟩ := hk
    repeat' (first | refine a_f ?_ | refine st_nil ?_ | refine tri_seq ?_ | refine tri_region rfl ?_ | refine a_draw ?_ | (apply st_r rfl; case hq => first | exact a_q) | (apply st_rif rfl; (case hq => first | exact a_i); all_goals (intro _; try (exfalso; first | omega | contradiction))) | (apply st_rw rfl rfl; case hq => first | exact a_store) | refine tri_true rfl ?_ | refine tri_false rfl ?_ | refine tri_block ?_ | refine tri_skip ?_ | refine tri_ret ?_ | refine tri_exit ?_)
    · refine nextR (k + 1) ⟨by omega, by omega, fun j hj1 hj2 => ?_⟩ (weak_st ⟨rfl, rfl, rfl, rfl, trivial⟩ ⟨rfl, trivial⟩) (show r1.length - (k + 1) < r1.length - k by omega)
      by_cases hjk : j < k
      · exact hk3 j hj1 hjk
      · obtain rfl : j = k := by omega
        rw [nb_bl, Bool.not_eq_true', Bool.eq_false_iff]
        exact fun h => ‹_ ≠ (32 : Int)› ((bl_iff _).1 h)
    · refine outR k (wordLen_at hk0 hk1 hk2 hk3 (fun _ => ?_)) (weak_st ⟨rfl, rfl, rfl, rfl, trivial⟩ ⟨rfl, trivial⟩)
      rw [← getD_cast, nb_bl, Bool.not_eq_false']
      exact (bl_iff _).2 (Classical.not_not.1 ‹_›)
    · exact outR k (wordLen_at hk0 hk1 hk2 hk3 (fun _ => by omega)) (weak_st ⟨rfl, rfl, rfl, rfl, trivial⟩ ⟨rfl, trivial⟩)
  have hkr := wordLen_le r1
  have hkp := @wordLen_pos r1
  have hgn := @lineGo_nil h1
  have hgc := @lineGo_cut h1 r1
  have hgg := @lineGo_go h1 r1
  rw [hk] at hkr hkp hgc hgg
  repeat' (first | refine a_f ?_ | refine st_nil ?_ | refine tri_seq ?_ | refine tri_region rfl ?_ | refine a_draw ?_ | (apply st_r rfl; case hq => first | exact q_adds (v := [13, 10]) (by conv => lhs; whnf) rfl (by first | omega | (simp only [List.length_append, List.length_cons, List.length_nil, List.length_take, List.length_drop]; omega)) | exact a_q) | (apply st_rif rfl; (case hq => first | exact a_i); all_goals (intro _; try (exfalso; first | omega | contradiction))) | (apply st_rw rfl rfl; case hq => first | exact w_call (id := 0) S1 (hcf := Tryz.call44) (by conv => lhs; whnf; arg 1; whnf) rfl rfl rfl rfl rfl | exact a_store) | refine tri_true rfl ?_ | refine tri_false rfl ?_ | refine tri_block ?_ | refine tri_skip ?_ | refine tri_ret ?_ | refine tri_exit ?_)
  · subst r1
    refine And.intro trivial (And.intro rfl ?_)
    show some (AObj.bld ByT BT (l1 ++ (h1 ++ [13, 10]))) = _
    rw [← hgn, hx1]
  · have hr : r1 ≠ [] := ‹¬ _›
    have hp := hkp hr
    have h76 : 76 < h1.length + k := by omega
    refine nextR (l1 ++ (h1 ++ [13, 10]), r1.take k, r1.drop k) ⟨?_, ?_⟩ (weak_st ⟨rfl, rfl, rfl, trivial⟩ ⟨rfl, trivial⟩) (show (r1.drop k).length < r1.length by rw [List.length_drop]; omega)
    · show l1 ++ (h1 ++ [13, 10]) ++ lineGo (r1.take k) (r1.drop k) = _
      rw [← hx1, hgc hr h76]
      simp
    · simp only [List.length_append, List.length_cons, List.length_nil, List.length_take, List.length_drop]
      omega
  · have hr : r1 ≠ [] := ‹¬ _›
    have hp := hkp hr
    have h76 : ¬ 76 < h1.length + k := by omega
    refine nextR (l1, h1 ++ r1.take k, r1.drop k) ⟨?_, ?_⟩ (weak_st ⟨rfl, rfl, rfl, trivial⟩ ⟨rfl, trivial⟩) (show (r1.drop k).length < r1.length by rw [List.length_drop]; omega)
    · show l1 ++ lineGo (h1 ++ r1.take k) (r1.drop k) = _
      rw [← hx1, hgg hr h76]
    · simp only [List.length_append, List.length_cons, List.length_nil, List.length_take, List.length_drop]
      omega
end Go.Proofs.YtignjjnflcpiiaaGreatDoor
namespace Go.Proofs.YtignjjnflcpiiaaGreatDoor
open Go.RowKit
attribute [local irreducible] Tri Steps Qd Wr Weak CPure CEff
set_option maxRecDepth 100000
theorem bare_c (e : Int) : CPure gx 35 [.int .i64 e] (.agg [.int .i64 e, .int .i64 (-1)]) := by
  refine cpure_of Tryz.func35 rfl (Nat.le_of_ble_eq_true rfl) rfl (fun w hw => ?_)
  repeat' (first | refine a_f ?_ | refine st_nil ?_ | refine tri_seq ?_ | refine tri_region rfl ?_ | refine a_draw ?_ | (apply st_r rfl; case hq => first | exact a_q) | (apply st_rif rfl; (case hq => first | exact a_i); all_goals (intro _; try (exfalso; first | omega | contradiction))) | (apply st_rw rfl rfl; case hq => first | exact w_alloc 101 (by first | exact zAt | exact zFault | exact zField | exact zParam | exact zLink | exact zPart | exact zReader) rfl rfl rfl | exact a_store) | refine tri_true rfl ?_ | refine tri_false rfl ?_ | refine tri_block ?_ | refine tri_skip ?_ | refine tri_ret ?_ | refine tri_exit ?_)
  refine And.intro (And.intro ⟨101, _, rfl, rfl, by kernel_rfl⟩ trivial) ?_
  conv => lhs; whnf
  rfl
end Go.Proofs.YtignjjnflcpiiaaGreatDoor
