import Derived.Test.YtignjjnflcpiiaaGreatDoorWKindF
import Derived.Test.YtignjjnflcpiiaaGreatDoorWG12
set_option linter.unusedVariables false
set_option linter.unusedSimpArgs false
set_option maxHeartbeats 1000000
namespace Go.Proofs.YtignjjnflcpiiaaGreatDoor
open Go.RowKit
attribute [local irreducible] Tri Steps Qd Wr Weak CPure CEff
set_option maxRecDepth 100000
theorem parsGo_fits {K : Nat} : ∀ (m : Nat) (s : B), s.length ≤ m → ∀ (out l : Fs), out.length + s.length ≤ K → (∀ f ∈ out, f.1.length ≤ K ∧ f.2.length ≤ K) → parsGo tokC blk lowC out s = some l → l.length ≤ K ∧ ∀ f ∈ l, f.1.length ≤ K ∧ f.2.length ≤ K
  | m, [], _, out, l, h1, h2, h => by
    rw [parsGo_nil] at h
    cases h
    exact ⟨by simpa using h1, h2⟩
  | 0, c :: r, hm, _, _, _, _, _ => absurd hm (by simp)
  | m + 1, c :: r, hm, out, l, h1, h2, h => by
    cases hp : parR tokC blk r with
    | none => rw [parsGo_none tokC blk lowC hp] at h; cases h
    | some q =>
      obtain ⟨⟨n, v⟩, r'⟩ := q
      rw [parsGo_some tokC blk lowC hp] at h
      obtain ⟨a1, a2, a3, _⟩ := parR_len hp
      simp only [List.length_cons] at hm h1
      refine parsGo_fits m r' (by omega) _ l (by simp only [List.length_append, List.length_cons, List.length_nil]; omega) (fun f hf => ?_) h
      rcases List.mem_append.1 hf with hf | hf
      · exact h2 f hf
      · rw [List.mem_singleton.1 hf]
        exact ⟨by simp only [List.length_map]; omega, by simp only; omega⟩
theorem readK_small {s m : B} {l : Fs} (h : readK tokC blk lowC s = some (m, l)) (hs : s.length ≤ 1000000) : Small l ∧ m.length ≤ s.length := by
  unfold readK at h
  split at h
  · split at h
    · cases h
    · rename_i l' hl
      cases h
      have hr := restOf_len s
      obtain ⟨h1, h2⟩ := parsGo_fits (K := s.length) _ _ (Nat.le_refl _) [] l (by simpa using hr) (fun f hf => by cases hf) hl
      refine ⟨⟨by omega, fun f hf => ⟨Nat.le_trans (h2 f hf).1 hs, Nat.le_trans (h2 f hf).2 hs⟩⟩, ?_⟩
      unfold mainOf
      rw [List.length_map]
      exact Nat.le_trans (trimB_len _) (List.takeWhile_sublist _).length_le
  · cases h
def kL : Option (B × Fs) → Fs
  | some (_, l) => l
  | none => []
def kM : Option (B × Fs) → B
  | some (m, _) => m
  | none => []
def kE : Option (B × Fs) → Int
  | some _ => 0
  | none => 3
def kErr : Option (B × Fs) → AV
  | some _ => .nili
  | none => .iface 28 (.int .i64 3)
theorem kread_c' (s : B) (hs : s.length ≤ 1000000) : CPure gx 26 [.str s] (.tup [.str (kM (readK tokC blk lowC s)), .ro true 2 (fieldRows (kL (readK tokC blk lowC s))), kErr (readK tokC blk lowC s)]) := by
  refine (kread_c s hs).up ?_
  cases readK tokC blk lowC s with
  | some p => exact .refl _
  | none => exact .tup (.cons (.refl _) (.cons (.nil true 2) (.cons (.refl _) .nil)))
theorem rkread_c' (s : B) (hs : s.length ≤ 1000000) : CPure gx 69 [.str s] (.tup [.str (kM (readK tokC blk lowC s)), .ro true 2 (fieldRows (kL (readK tokC blk lowC s))), .int .i64 (kE (readK tokC blk lowC s))]) := by
  refine (rkread_c s hs).up ?_
  cases readK tokC blk lowC s with
  | some p => exact .refl _
  | none => exact .tup (.cons (.refl _) (.cons (.nil true 2) (.cons (.refl _) .nil)))
theorem kL_small (s : B) (hs : s.length ≤ 1000000) : Small (kL (readK tokC blk lowC s)) := by
  cases h : readK tokC blk lowC s with
  | none => exact ⟨by simp [kL], fun f hf => by cases hf⟩
  | some p => exact (readK_small (m := p.1) (l := p.2) h hs).1
end Go.Proofs.YtignjjnflcpiiaaGreatDoor
namespace Go.Proofs.YtignjjnflcpiiaaGreatDoor
open Go.RowKit
attribute [local irreducible] Tri Steps Qd Wr Weak CPure CEff
set_option maxRecDepth 100000
inductive CRes where
  | ok (l : Fs)
  | bad (n : Nat)
def cleanGo : Nat → Fs → Fs → CRes
  | _, out, [] => .ok out
  | n, out, f :: r => match valueB (trimB f.2) with
    | true => cleanGo (n + 1) (out ++ [(f.1, trimB f.2)]) r
    | false => .bad n
def cleanF (l : Fs) : CRes := cleanGo 0 [] l
end Go.Proofs.YtignjjnflcpiiaaGreatDoor
namespace Go.Proofs.YtignjjnflcpiiaaGreatDoor
open Go.RowKit
attribute [local irreducible] Tri Steps Qd Wr Weak CPure CEff
set_option maxRecDepth 100000
def okF (f : B × B) : Bool := nameB f.1 && valueB f.2
def rightB (l : Fs) : Bool := l.all okF
theorem right_drop {l : Fs} {i : Nat} {f : B × B} (h : rightB l = rightB (l.drop i)) (hd : l.drop i = f :: l.drop (i + 1)) : rightB l = (okF f && rightB (l.drop (i + 1))) := by
  rw [h, hd]; rfl
set_option maxHeartbeats 2000000 in
theorem right_c (l : Fs) (hl : Small l) : CPure gx 74 [.ro false 2 (fieldRows l)] (.bool (rightB l)) := by
  refine cpure_of Tryz.func74 rfl (Nat.le_of_ble_eq_true rfl) rfl (fun w hw => ?_)
  have hfl := fr_len l
  have hll := hl.len
  repeat' (first | refine a_f ?_ | refine st_nil ?_ | refine tri_seq ?_ | refine tri_region rfl ?_ | refine a_draw ?_ | (apply st_r rfl; case hq => first | exact a_q) | (apply st_rif rfl; (case hq => first | exact a_i); all_goals (intro _; try (exfalso; first | omega | contradiction))) | (apply st_rw rfl rfl; case hq => first | exact a_store) | refine tri_true rfl ?_ | refine tri_false rfl ?_ | refine tri_block ?_ | refine tri_skip ?_ | refine tri_ret ?_ | refine tri_exit ?_)
  refine tri_loop (fun (i : Nat) => i ≤ l.length ∧ rightB l = rightB (l.drop i)) (fun i => st [(0, .ro false 2 (fieldRows l)), (2, .bool false), (5, .ro false 2 (fieldRows l)), (6, .int .i64 (fieldRows l).length), (7, .int .i64 i)] []) (fun i => l.length - i) 0 ⟨Nat.zero_le _, rfl⟩ ?hw (fun i hi => ?_)
  case hw => exact weak_st ⟨rfl, rfl, rfl, rfl, rfl, trivial⟩ trivial
  obtain ⟨hi, hf⟩ := hi
  by_cases hil : i < l.length
  · obtain ⟨f, hf1, hfm, hfd, hfr⟩ := fr_at hil
    have hf' := right_drop hf hfd
    have S1 := name_c f.1 (hl.one f hfm).1
    have S2 := value_c f.2 (hl.one f hfm).2
    unfold okF at hf'
    cases hn : nameB f.1 <;> cases hv : valueB f.2 <;> rw [hn] at S1 hf' <;> rw [hv] at S2 hf'
    all_goals
      repeat' (first | refine a_f ?_ | refine st_nil ?_ | refine tri_seq ?_ | refine tri_region rfl ?_ | refine a_draw ?_ | (apply st_r rfl; case hq => first | exact q_idxro (by conv => lhs; whnf) (by conv => lhs; whnf) (by first | exact Tryz.underlying22 | exact Tryz.underlying23 | exact Tryz.underlying43 | exact Tryz.underlying44 | exact Tryz.underlying51 | exact Tryz.underlying86 | exact Tryz.underlying191 | exact Tryz.underlying209 | exact Tryz.underlying234 | exact Tryz.underlying270 | exact Tryz.underlying281 | exact Tryz.underlying344) (by kernel_rfl) (by omega) hfr | exact q_loadar (n := 2) (by conv => lhs; whnf) (by conv => lhs; whnf) (by first | rfl | exact Nat.le_of_ble_eq_true rfl | exact Nat.succ_pos _ | decide) (by kernel_rfl) (fun _ => rfl) | exact q_call S1 (hcf := Tryz.call131) rfl rfl | exact q_call S2 (hcf := Tryz.call132) rfl rfl | exact a_q) | (apply st_rif rfl; (case hq => first | exact a_i); all_goals (intro _; try (exfalso; first | omega | contradiction))) | (apply st_rw rfl rfl; case hq => first | exact w_alloc 102 (by first | exact zAt | exact zFault | exact zField | exact zParam | exact zLink | exact zPart | exact zReader) rfl rfl rfl | exact a_store) | refine tri_true rfl ?_ | refine tri_false rfl ?_ | refine tri_block ?_ | refine tri_skip ?_ | refine tri_ret ?_ | refine tri_exit ?_)
      first
        | (refine And.intro trivial ?_
           conv => lhs; whnf
           rw [hf']
           rfl)
        | exact loop_next (i + 1) ⟨by omega, hf'⟩ (weak_st ⟨rfl, rfl, rfl, rfl, rfl, trivial⟩ trivial) (show l.length - (i + 1) < l.length - i by omega)
  · repeat' (first | refine a_f ?_ | refine st_nil ?_ | refine tri_seq ?_ | refine tri_region rfl ?_ | refine a_draw ?_ | (apply st_r rfl; case hq => first | exact a_q) | (apply st_rif rfl; (case hq => first | exact a_i); all_goals (intro _; try (exfalso; first | omega | contradiction))) | (apply st_rw rfl rfl; case hq => first | exact a_store) | refine tri_true rfl ?_ | refine tri_false rfl ?_ | refine tri_block ?_ | refine tri_skip ?_ | refine tri_ret ?_ | refine tri_exit ?_)
    refine And.intro trivial ?_
    conv => lhs; whnf
    rw [hf, List.drop_eq_nil_of_le (by omega)]
    rfl
set_option maxHeartbeats 2000000 in
theorem rhead_c (l : Fs) (hl : Small l) : CPure gx 67 [.ro false 2 (fieldRows l)] (.bool (rightB l)) := by
  refine cpure_of Tryz.func67 rfl (Nat.le_of_ble_eq_true rfl) rfl (fun w hw => ?_)
  have hfl := fr_len l
  have hll := hl.len
  repeat' (first | refine a_f ?_ | refine st_nil ?_ | refine tri_seq ?_ | refine tri_region rfl ?_ | refine a_draw ?_ | (apply st_r rfl; case hq => first | exact a_q) | (apply st_rif rfl; (case hq => first | exact a_i); all_goals (intro _; try (exfalso; first | omega | contradiction))) | (apply st_rw rfl rfl; case hq => first | exact a_store) | refine tri_true rfl ?_ | refine tri_false rfl ?_ | refine tri_block ?_ | refine tri_skip ?_ | refine tri_ret ?_ | refine tri_exit ?_)
  refine tri_loop (fun (i : Nat) => i ≤ l.length ∧ rightB l = rightB (l.drop i)) (fun i => st [(0, .ro false 2 (fieldRows l)), (2, .bool false), (5, .ro false 2 (fieldRows l)), (6, .int .i64 (fieldRows l).length), (7, .int .i64 i)] []) (fun i => l.length - i) 0 ⟨Nat.zero_le _, rfl⟩ ?hw (fun i hi => ?_)
  case hw => exact weak_st ⟨rfl, rfl, rfl, rfl, rfl, trivial⟩ trivial
  obtain ⟨hi, hf⟩ := hi
  by_cases hil : i < l.length
  · obtain ⟨f, hf1, hfm, hfd, hfr⟩ := fr_at hil
    have hf' := right_drop hf hfd
    have S1 := rname_c f.1 (hl.one f hfm).1
    have S2 := says_c f.2 (hl.one f hfm).2
    unfold okF at hf'
    cases hn : nameB f.1 <;> cases hv : valueB f.2 <;> rw [hn] at S1 hf' <;> rw [hv] at S2 hf'
    all_goals
      repeat' (first | refine a_f ?_ | refine st_nil ?_ | refine tri_seq ?_ | refine tri_region rfl ?_ | refine a_draw ?_ | (apply st_r rfl; case hq => first | exact q_idxro (by conv => lhs; whnf) (by conv => lhs; whnf) (by first | exact Tryz.underlying22 | exact Tryz.underlying23 | exact Tryz.underlying43 | exact Tryz.underlying44 | exact Tryz.underlying51 | exact Tryz.underlying86 | exact Tryz.underlying191 | exact Tryz.underlying209 | exact Tryz.underlying234 | exact Tryz.underlying270 | exact Tryz.underlying281 | exact Tryz.underlying344) (by kernel_rfl) (by omega) hfr | exact q_loadar (n := 2) (by conv => lhs; whnf) (by conv => lhs; whnf) (by first | rfl | exact Nat.le_of_ble_eq_true rfl | exact Nat.succ_pos _ | decide) (by kernel_rfl) (fun _ => rfl) | exact q_call S1 (hcf := Tryz.call122) rfl rfl | exact q_call S2 (hcf := Tryz.call123) rfl rfl | exact a_q) | (apply st_rif rfl; (case hq => first | exact a_i); all_goals (intro _; try (exfalso; first | omega | contradiction))) | (apply st_rw rfl rfl; case hq => first | exact w_alloc 102 (by first | exact zAt | exact zFault | exact zField | exact zParam | exact zLink | exact zPart | exact zReader) rfl rfl rfl | exact a_store) | refine tri_true rfl ?_ | refine tri_false rfl ?_ | refine tri_block ?_ | refine tri_skip ?_ | refine tri_ret ?_ | refine tri_exit ?_)
      first
        | (refine And.intro trivial ?_
           conv => lhs; whnf
           rw [hf']
           rfl)
        | exact loop_next (i + 1) ⟨by omega, hf'⟩ (weak_st ⟨rfl, rfl, rfl, rfl, rfl, trivial⟩ trivial) (show l.length - (i + 1) < l.length - i by omega)
  · repeat' (first | refine a_f ?_ | refine st_nil ?_ | refine tri_seq ?_ | refine tri_region rfl ?_ | refine a_draw ?_ | (apply st_r rfl; case hq => first | exact a_q) | (apply st_rif rfl; (case hq => first | exact a_i); all_goals (intro _; try (exfalso; first | omega | contradiction))) | (apply st_rw rfl rfl; case hq => first | exact a_store) | refine tri_true rfl ?_ | refine tri_false rfl ?_ | refine tri_block ?_ | refine tri_skip ?_ | refine tri_ret ?_ | refine tri_exit ?_)
    refine And.intro trivial ?_
    conv => lhs; whnf
    rw [hf, List.drop_eq_nil_of_le (by omega)]
    rfl
end Go.Proofs.YtignjjnflcpiiaaGreatDoor
