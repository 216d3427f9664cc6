import Derived.Test.YtignjjnflcpiiaaGreatDoorWKindW
import Derived.Test.YtignjjnflcpiiaaGreatDoorWG39
set_option linter.unusedVariables false
set_option linter.unusedSimpArgs false
set_option maxHeartbeats 1000000
namespace Go.Proofs.YtignjjnflcpiiaaGreatDoor
open Go.RowKit
attribute [local irreducible] Tri Steps Qd Wr Weak CPure CEff CNew CutN AllB Behind
set_option maxRecDepth 100000
theorem escV_take {v : B} {k : Nat} (h : k < v.length) : escV (v.take (k + 1)) = escV (v.take k) ++ escC v[k] := by
  rw [take_next h]
  simp only [escV, List.flatMap_append, List.flatMap_cons, List.flatMap_nil, List.append_nil]
set_option maxHeartbeats 8000000 in
theorem rkwrite_c (m : B) (l : Fs) (hm : m.length ≤ 1000000) (hl : Small l) : CPure gx 22 [.str m, .ro false 2 (fieldRows l)] (rkwAV (writeK tokC lowC m l)) := by
  refine cpure_of Tryz.func22 rfl (Nat.le_of_ble_eq_true rfl) rfl (fun w hw => ?_)
  have hfl := fr_len l
  have hll := hl.len
  have M1 := isMain_c m (by omega)
  have S1 : CPure gx 48 [.str m] (.str (m.map lowC)) := low_c m (by omega)
  have B1 := bare_c 1
  have B0 := bare_c 0
  cases hok : mainOk tokC m && decide (m.map lowC = m) with
  | false =>
    have hres : rkwAV (writeK tokC lowC m l) = .tup [.str [], .agg [.int .i64 1, .int .i64 (-1)]] := by
      unfold writeK; rw [hok]; rfl
    generalize mainOk tokC m = mo at M1 hok
    by_cases hmm : m.map lowC = m
    all_goals
      cases mo <;> first | (exfalso; simp [hmm] at hok; done) | skip
    all_goals
      repeat' (first | refine a_f ?_ | refine st_nil ?_ | refine tri_seq ?_ | refine tri_region rfl ?_ | refine a_draw ?_ | (apply st_r rfl; case hq => first | exact q_call M1 (hcf := Tryz.call47) rfl rfl | exact q_call S1 (hcf := Tryz.call48) rfl rfl | exact q_call B1 (hcf := Tryz.call35) rfl rfl | exact a_q) | (apply st_rif rfl; (case hq => first | exact a_i); all_goals (intro _; try (exfalso; first | omega | contradiction))) | (apply st_rw rfl rfl; case hq => first | exact w_alloc 101 zFault rfl rfl rfl | exact a_store) | refine tri_true rfl ?_ | refine tri_false rfl ?_ | refine tri_block ?_ | refine tri_skip ?_ | refine tri_ret ?_ | refine tri_exit ?_)
    all_goals
      refine And.intro (And.intro ⟨101, _, rfl, rfl, by kernel_rfl⟩ trivial) ?_
      conv => lhs; whnf
      rw [hres]
      rfl
  | true =>
    have hwk : writeK tokC lowC m l = writeKGo tokC lowC 0 m l := by unfold writeK; rw [hok]
    rw [Bool.and_eq_true, decide_eq_true_eq] at hok
    obtain ⟨hok, hmm⟩ := hok
    rw [hok] at M1
    rw [hwk]
    repeat' (first | refine a_f ?_ | refine st_nil ?_ | refine tri_seq ?_ | refine tri_region rfl ?_ | refine a_draw ?_ | (apply st_r rfl; case hq => first | exact q_call M1 (hcf := Tryz.call47) rfl rfl | exact q_call S1 (hcf := Tryz.call48) rfl rfl | exact a_q) | (apply st_rif rfl; (case hq => first | exact a_i); all_goals (intro _; try (exfalso; first | omega | contradiction))) | (apply st_rw rfl rfl; case hq => first | exact w_alloc 101 zFault rfl rfl rfl | exact a_store) | refine tri_true rfl ?_ | refine tri_false rfl ?_ | refine tri_block ?_ | refine tri_skip ?_ | refine tri_ret ?_ | refine tri_exit ?_)
    refine tri_loop (fun (x : Nat × B) => x.1 ≤ l.length ∧ writeKGo tokC lowC x.1 x.2 (l.drop x.1) = writeKGo tokC lowC 0 m l ∧ x.2.length ≤ (x.1 + 1) * 5000000) (fun x => st [(0, .str m), (1, .ro false 2 (fieldRows l)), (4, .str []), (5, .ptr 101 0), (6, .str x.2), (24, .ro false 2 (fieldRows l)), (25, .int .i64 (fieldRows l).length), (26, .int .i64 x.1)] [(101, .box [.int .i64 0, .int .i64 0])]) (fun x => l.length - x.1) (0, m) ⟨Nat.zero_le _, rfl, show m.length ≤ (0 + 1) * 5000000 by omega⟩ ?hw (fun x hx => ?_)
    case hw => exact weak_st ⟨rfl, rfl, rfl, rfl, rfl, rfl, rfl, rfl, trivial⟩ ⟨rfl, trivial⟩
    obtain ⟨i, out⟩ := x
    change Tri _ _ (st [(0, .str m), (1, .ro false 2 (fieldRows l)), (4, .str []), (5, .ptr 101 0), (6, .str out), (24, .ro false 2 (fieldRows l)), (25, .int .i64 (fieldRows l).length), (26, .int .i64 i)] [(101, .box [.int .i64 0, .int .i64 0])]) _
    obtain ⟨hi, hf, ho⟩ := hx
    simp only at hi hf ho
    obtain ⟨K, hKe, hoK, hKb⟩ : ∃ K, (∀ m, m ≤ K + 5000000 → m ≤ (i + 1 + 1) * 5000000) ∧ out.length ≤ K ∧ K ≤ 6000000000000 := ⟨(i + 1) * 5000000, fun m h => by rw [Nat.add_mul (i + 1)]; omega, ho, by omega⟩
    replace ho := hoK
    clear hoK
    by_cases hil : i < l.length
    · obtain ⟨f, hf1, hfm, hfd, hfr⟩ := fr_at hil
      rw [hfd, writeKGo_step] at hf
      obtain ⟨hfa, hfb⟩ := hl.one f hfm
      have hpl := parW_len f
      have hpw : parW tokC f = 59 :: 32 :: (f.1 ++ 61 :: valW tokC f.2) := rfl
      have hokp : okP tokC lowC f = (tokQ tokC f.1 && (decide (f.1.map lowC = f.1) && okV f.2)) := rfl
      have hvw : valW tokC f.2 = if tokQ tokC f.2 = true then f.2 else 34 :: (escV f.2 ++ [34]) := rfl
      have hel := escV_len f.2
      obtain ⟨fn, v⟩ := f
      simp only at hfa hfb hpl hpw hokp hvw hel hfr
      have P1 := rtoken_c fn (by omega)
      have P2 := rtoken_c v (by omega)
      have P3 : CPure gx 48 [.str fn] (.str (fn.map lowC)) := low_c fn (by omega)
      rw [tokQ_eq] at P1 P2
      obtain ⟨t1, ht1⟩ : ∃ t, t = tokQ tokC fn := ⟨_, rfl⟩
      obtain ⟨t2, ht2⟩ : ∃ t, t = (tokQ tokC fn && decide (fn.map lowC = fn)) := ⟨_, rfl⟩
      rw [← Bool.and_assoc, ← ht2] at hokp
      rw [← ht1] at P1 ht2
      by_cases hlo : fn.map lowC = fn
      all_goals
        cases t1 <;> simp [hlo] at ht2 <;> subst ht2
      all_goals
        repeat' (first | refine a_f ?_ | refine st_nil ?_ | refine tri_seq ?_ | refine tri_region rfl ?_ | refine a_draw ?_ | (apply st_r rfl; case hq => first | exact q_idxro (by conv => lhs; whnf) (by conv => lhs; whnf) (by first | exact Tryz.underlying22 | exact Tryz.underlying23 | exact Tryz.underlying43 | exact Tryz.underlying44 | exact Tryz.underlying51 | exact Tryz.underlying86 | exact Tryz.underlying191 | exact Tryz.underlying209 | exact Tryz.underlying234 | exact Tryz.underlying270 | exact Tryz.underlying281 | exact Tryz.underlying344) (by kernel_rfl) (by omega) hfr | exact q_loadar (n := 2) (by conv => lhs; whnf) (by conv => lhs; whnf) (by first | rfl | exact Nat.le_of_ble_eq_true rfl | exact Nat.succ_pos _ | decide) (by kernel_rfl) (fun _ => rfl) | exact q_call P1 (hcf := Tryz.call49) rfl rfl | exact q_call P3 (hcf := Tryz.call48) rfl rfl | exact a_q) | (apply st_rif rfl; (case hq => first | exact a_i); all_goals (intro _; try (exfalso; first | omega | contradiction))) | (apply st_rw rfl rfl; case hq => first | exact w_alloc 102 (by first | exact zAt | exact zFault | exact zField | exact zParam | exact zLink | exact zPart | exact zReader) rfl rfl rfl | exact a_store) | refine tri_true rfl ?_ | refine tri_false rfl ?_ | refine tri_block ?_ | refine tri_skip ?_ | refine tri_ret ?_ | refine tri_exit ?_)
      all_goals first | contradiction | skip
      all_goals
        generalize hT : okP tokC lowC (fn, v) = okp at hf hokp
        refine tri_loop_to (fun (x : Nat × B × Bool) => x.1 ≤ v.length ∧ x.2.1 = escV (v.take x.1) ∧ okp = (x.2.2 && okV (v.drop x.1))) (fun x => st [(0, .str m), (1, .ro false 2 (fieldRows l)), (4, .str []), (5, .ptr 101 0), (6, .str out), (24, .ro false 2 (fieldRows l)), (25, .int .i64 (fieldRows l).length), (26, .int .i64 i), (7, .int .i64 i), (8, .ptr 102 0), (9, .str x.2.1), (10, .bool x.2.2), (44, .int .i64 v.length), (45, .int .i64 x.1)] [(101, .box [.int .i64 0, .int .i64 0]), (102, .box [.str fn, .str v])]) (fun x => v.length - x.1)
          (fun (_ : Unit) => True) (fun _ => st [(0, .str m), (1, .ro false 2 (fieldRows l)), (4, .str []), (5, .ptr 101 0), (6, .str out), (24, .ro false 2 (fieldRows l)), (25, .int .i64 (fieldRows l).length), (26, .int .i64 i), (7, .int .i64 i), (8, .ptr 102 0), (9, .str (escV v)), (10, .bool okp)] [(101, .box [.int .i64 0, .int .i64 0]), (102, .box [.str fn, .str v])]) (0, [], _) ⟨Nat.zero_le _, rfl, hokp⟩ ?hw weak_tri (fun x hx => ?_) (fun _ _ => ?_)
        case hw => exact weak_st ⟨rfl, rfl, rfl, rfl, rfl, rfl, rfl, rfl, rfl, rfl, rfl, rfl, rfl, rfl, trivial⟩ ⟨rfl, rfl, trivial⟩
        · obtain ⟨k, u, b⟩ := x
          change Tri _ _ (st [(0, .str m), (1, .ro false 2 (fieldRows l)), (4, .str []), (5, .ptr 101 0), (6, .str out), (24, .ro false 2 (fieldRows l)), (25, .int .i64 (fieldRows l).length), (26, .int .i64 i), (7, .int .i64 i), (8, .ptr 102 0), (9, .str u), (10, .bool b), (44, .int .i64 v.length), (45, .int .i64 k)] [(101, .box [.int .i64 0, .int .i64 0]), (102, .box [.str fn, .str v])]) _
          obtain ⟨h1, h2, h3⟩ := hx
          simp only at h1 h2 h3
          subst h2
          by_cases hk : k < v.length
          · have g0 : v[(k : Int).toNat]? = some v[k] := by rw [Int.toNat_natCast]; exact List.getElem?_eq_getElem hk
            have e1 := escV_take hk
            have e2 : okV (v.drop k) = (decide (32 ≤ (v[k]).toNat ∧ (v[k]).toNat ≤ 126) && okV (v.drop (k + 1))) := by rw [List.drop_eq_getElem_cons hk]; rfl
            have hlk : (escV (v.take k)).length ≤ 2 * v.length := Nat.le_trans (escV_len _) (by rw [List.length_take]; omega)
            generalize v[k] = c at g0 e1 e2
            rw [e2] at h3
            have hc : c.toNat < 256 := c.toNat_lt
            have I1 := in_c (c.toNat : Int) 32 126
            rw [show decide ((32 : Int) ≤ (c.toNat : Int) ∧ (c.toNat : Int) ≤ 126) = decide (32 ≤ c.toNat ∧ c.toNat ≤ 126) from decide_eq_decide.2 (by omega)] at I1
            obtain ⟨vs, hvs⟩ : ∃ q : Bool, decide (32 ≤ c.toNat ∧ c.toNat ≤ 126) = q := ⟨_, rfl⟩
            rw [hvs] at I1 h3
            by_cases h34 : c = 34
            · have i34 : (c.toNat : Int) = 34 := by rw [h34]; rfl
              rw [show escC c = [92] ++ [c] by simp [escC, h34], ← List.append_assoc] at e1
              cases b
              all_goals
                repeat' (first | refine a_f ?_ | refine st_nil ?_ | refine tri_seq ?_ | refine tri_region rfl ?_ | refine a_draw ?_ | (apply st_r rfl; case hq => first | exact q_index (by conv => lhs; whnf) (by conv => lhs; whnf) (by kernel_rfl) (by omega) g0 | exact q_convint (by conv => lhs; whnf) (by kernel_rfl) (by kernel_rfl) (wrap_u8 c) | exact q_call I1 (hcf := Tryz.call50) rfl rfl | exact q_bstr [c] (by conv => lhs; whnf) (by rfl) (by first | exact Tryz.underlying22 | exact Tryz.underlying23 | exact Tryz.underlying43 | exact Tryz.underlying44 | exact Tryz.underlying51 | exact Tryz.underlying86 | exact Tryz.underlying191 | exact Tryz.underlying209 | exact Tryz.underlying234 | exact Tryz.underlying270 | exact Tryz.underlying281 | exact Tryz.underlying344) Tryz.underlying5 (by kernel_rfl) | exact q_adds (v := [92]) (by conv => lhs; whnf) rfl (by first | omega | (simp only [List.length_append, List.length_cons, List.length_nil, List.length_take, List.length_drop]; omega)) | exact a_q) | (apply st_rif rfl; (case hq => first | exact a_i); all_goals (intro _; try (exfalso; first | omega | contradiction))) | (apply st_rw rfl rfl; case hq => first | exact a_store) | refine tri_true rfl ?_ | refine tri_false rfl ?_ | refine tri_block ?_ | refine tri_skip ?_ | refine tri_ret ?_ | refine tri_exit ?_)
              all_goals exact nextR (k + 1, _, _) ⟨by simp only; omega, e1.symm, by simp only; rw [h3]; rfl⟩ (weak_st ⟨rfl, rfl, rfl, rfl, rfl, rfl, rfl, rfl, rfl, rfl, rfl, rfl, rfl, rfl, trivial⟩ ⟨rfl, rfl, trivial⟩) (show v.length - (k + 1) < v.length - k by omega)
            have i34 : ¬ (c.toNat : Int) = 34 := fun e => h34 (UInt8.toNat_inj.1 (by rw [show (34 : UInt8).toNat = 34 from rfl]; omega))
            by_cases h92 : c = 92
            · have i92 : (c.toNat : Int) = 92 := by rw [h92]; rfl
              rw [show escC c = [92] ++ [c] by simp [escC, h92], ← List.append_assoc] at e1
              cases b
              all_goals
                repeat' (first | refine a_f ?_ | refine st_nil ?_ | refine tri_seq ?_ | refine tri_region rfl ?_ | refine a_draw ?_ | (apply st_r rfl; case hq => first | exact q_index (by conv => lhs; whnf) (by conv => lhs; whnf) (by kernel_rfl) (by omega) g0 | exact q_convint (by conv => lhs; whnf) (by kernel_rfl) (by kernel_rfl) (wrap_u8 c) | exact q_call I1 (hcf := Tryz.call50) rfl rfl | exact q_bstr [c] (by conv => lhs; whnf) (by rfl) (by first | exact Tryz.underlying22 | exact Tryz.underlying23 | exact Tryz.underlying43 | exact Tryz.underlying44 | exact Tryz.underlying51 | exact Tryz.underlying86 | exact Tryz.underlying191 | exact Tryz.underlying209 | exact Tryz.underlying234 | exact Tryz.underlying270 | exact Tryz.underlying281 | exact Tryz.underlying344) Tryz.underlying5 (by kernel_rfl) | exact q_adds (v := [92]) (by conv => lhs; whnf) rfl (by first | omega | (simp only [List.length_append, List.length_cons, List.length_nil, List.length_take, List.length_drop]; omega)) | exact a_q) | (apply st_rif rfl; (case hq => first | exact a_i); all_goals (intro _; try (exfalso; first | omega | contradiction))) | (apply st_rw rfl rfl; case hq => first | exact a_store) | refine tri_true rfl ?_ | refine tri_false rfl ?_ | refine tri_block ?_ | refine tri_skip ?_ | refine tri_ret ?_ | refine tri_exit ?_)
              all_goals exact nextR (k + 1, _, _) ⟨by simp only; omega, e1.symm, by simp only; rw [h3]; rfl⟩ (weak_st ⟨rfl, rfl, rfl, rfl, rfl, rfl, rfl, rfl, rfl, rfl, rfl, rfl, rfl, rfl, trivial⟩ ⟨rfl, rfl, trivial⟩) (show v.length - (k + 1) < v.length - k by omega)
            have i92 : ¬ (c.toNat : Int) = 92 := fun e => h92 (UInt8.toNat_inj.1 (by rw [show (92 : UInt8).toNat = 92 from rfl]; omega))
            rw [show escC c = [c] by simp [escC, h34, h92]] at e1
            cases b
            all_goals
              repeat' (first | refine a_f ?_ | refine st_nil ?_ | refine tri_seq ?_ | refine tri_region rfl ?_ | refine a_draw ?_ | (apply st_r rfl; case hq => first | exact q_index (by conv => lhs; whnf) (by conv => lhs; whnf) (by kernel_rfl) (by omega) g0 | exact q_convint (by conv => lhs; whnf) (by kernel_rfl) (by kernel_rfl) (wrap_u8 c) | exact q_call I1 (hcf := Tryz.call50) rfl rfl | exact q_bstr [c] (by conv => lhs; whnf) (by rfl) (by first | exact Tryz.underlying22 | exact Tryz.underlying23 | exact Tryz.underlying43 | exact Tryz.underlying44 | exact Tryz.underlying51 | exact Tryz.underlying86 | exact Tryz.underlying191 | exact Tryz.underlying209 | exact Tryz.underlying234 | exact Tryz.underlying270 | exact Tryz.underlying281 | exact Tryz.underlying344) Tryz.underlying5 (by kernel_rfl) | exact q_adds (v := [92]) (by conv => lhs; whnf) rfl (by first | omega | (simp only [List.length_append, List.length_cons, List.length_nil, List.length_take, List.length_drop]; omega)) | exact a_q) | (apply st_rif rfl; (case hq => first | exact a_i); all_goals (intro _; try (exfalso; first | omega | contradiction))) | (apply st_rw rfl rfl; case hq => first | exact a_store) | refine tri_true rfl ?_ | refine tri_false rfl ?_ | refine tri_block ?_ | refine tri_skip ?_ | refine tri_ret ?_ | refine tri_exit ?_)
            all_goals exact nextR (k + 1, _, _) ⟨by simp only; omega, e1.symm, by simp only; rw [h3]; rfl⟩ (weak_st ⟨rfl, rfl, rfl, rfl, rfl, rfl, rfl, rfl, rfl, rfl, rfl, rfl, rfl, rfl, trivial⟩ ⟨rfl, rfl, trivial⟩) (show v.length - (k + 1) < v.length - k by omega)
          · repeat' (first | refine a_f ?_ | refine st_nil ?_ | refine tri_seq ?_ | refine tri_region rfl ?_ | refine a_draw ?_ | (apply st_r rfl; case hq => first | exact a_q) | (apply st_rif rfl; (case hq => first | exact a_i); all_goals (intro _; try (exfalso; first | omega | contradiction))) | (apply st_rw rfl rfl; case hq => first | exact a_store) | refine tri_true rfl ?_ | refine tri_false rfl ?_ | refine tri_block ?_ | refine tri_skip ?_ | refine tri_ret ?_ | refine tri_exit ?_)
            exact outR () trivial (weak_st ⟨rfl, rfl, rfl, rfl, rfl, rfl, rfl, rfl, rfl, rfl, congrArg AV.str (by rw [List.take_of_length_le (by omega)]), congrArg AV.bool (by rw [h3, List.drop_eq_nil_of_le (by omega)]; simp [okV]), trivial⟩ ⟨rfl, rfl, trivial⟩)
        · cases okp <;> simp only at hf
          · repeat' (first | refine a_f ?_ | refine st_nil ?_ | refine tri_seq ?_ | refine tri_region rfl ?_ | refine a_draw ?_ | (apply st_r rfl; case hq => first | exact a_q) | (apply st_rif rfl; (case hq => first | exact a_i); all_goals (intro _; try (exfalso; first | omega | contradiction))) | (apply st_rw rfl rfl; case hq => first | exact a_store) | refine tri_true rfl ?_ | refine tri_false rfl ?_ | refine tri_block ?_ | refine tri_skip ?_ | refine tri_ret ?_ | refine tri_exit ?_)
            refine And.intro (And.intro ⟨101, _, rfl, rfl, by kernel_rfl⟩ trivial) ?_
            conv => lhs; whnf
            rw [← hf]
            rfl
          · cases hv : tokQ tokC v <;> rw [hv] at P2 hvw
            · rw [if_neg Bool.false_ne_true] at hvw
              repeat' (first | refine a_f ?_ | refine st_nil ?_ | refine tri_seq ?_ | refine tri_region rfl ?_ | refine a_draw ?_ | (apply st_r rfl; case hq => first | exact q_loadar (n := 2) (by conv => lhs; whnf) (by conv => lhs; whnf) (by first | rfl | exact Nat.le_of_ble_eq_true rfl | exact Nat.succ_pos _ | decide) (by kernel_rfl) (fun _ => rfl) | exact q_call P2 (hcf := Tryz.call49) rfl rfl | exact q_adds (u := [59, 32]) rfl (by conv => lhs; whnf) (by first | omega | (simp only [List.length_append, List.length_cons, List.length_nil, List.length_take, List.length_drop]; omega)) | exact q_adds (v := [61, 34]) (by conv => lhs; whnf) rfl (by first | omega | (simp only [List.length_append, List.length_cons, List.length_nil, List.length_take, List.length_drop]; omega)) | exact q_adds (v := [34]) (by conv => lhs; whnf) rfl (by first | omega | (simp only [List.length_append, List.length_cons, List.length_nil, List.length_take, List.length_drop]; omega)) | exact a_q) | (apply st_rif rfl; (case hq => first | exact a_i); all_goals (intro _; try (exfalso; first | omega | contradiction))) | (apply st_rw rfl rfl; case hq => first | exact a_store) | refine tri_true rfl ?_ | refine tri_false rfl ?_ | refine tri_block ?_ | refine tri_skip ?_ | refine tri_ret ?_ | refine tri_exit ?_)
              exact nextR (i + 1, out ++ parW tokC (fn, v)) ⟨by show i + 1 ≤ _; omega, hf, by show (out ++ parW tokC (fn, v)).length ≤ (i + 1 + 1) * 5000000; exact hKe _ (by rw [List.length_append]; omega)⟩ (weak_st ⟨rfl, rfl, rfl, rfl, congrArg AV.str (congrArg (out ++ ·) (by rw [hpw, hvw]; simp)), rfl, rfl, rfl, trivial⟩ ⟨rfl, trivial⟩) (show l.length - (i + 1) < l.length - i by omega)
            · rw [if_pos rfl] at hvw
              repeat' (first | refine a_f ?_ | refine st_nil ?_ | refine tri_seq ?_ | refine tri_region rfl ?_ | refine a_draw ?_ | (apply st_r rfl; case hq => first | exact q_loadar (n := 2) (by conv => lhs; whnf) (by conv => lhs; whnf) (by first | rfl | exact Nat.le_of_ble_eq_true rfl | exact Nat.succ_pos _ | decide) (by kernel_rfl) (fun _ => rfl) | exact q_call P2 (hcf := Tryz.call49) rfl rfl | exact q_adds (u := [59, 32]) rfl (by conv => lhs; whnf) (by first | omega | (simp only [List.length_append, List.length_cons, List.length_nil, List.length_take, List.length_drop]; omega)) | exact q_adds (v := [61]) (by conv => lhs; whnf) rfl (by first | omega | (simp only [List.length_append, List.length_cons, List.length_nil, List.length_take, List.length_drop]; omega)) | exact a_q) | (apply st_rif rfl; (case hq => first | exact a_i); all_goals (intro _; try (exfalso; first | omega | contradiction))) | (apply st_rw rfl rfl; case hq => first | exact a_store) | refine tri_true rfl ?_ | refine tri_false rfl ?_ | refine tri_block ?_ | refine tri_skip ?_ | refine tri_ret ?_ | refine tri_exit ?_)
              exact nextR (i + 1, out ++ parW tokC (fn, v)) ⟨by show i + 1 ≤ _; omega, hf, by show (out ++ parW tokC (fn, v)).length ≤ (i + 1 + 1) * 5000000; exact hKe _ (by rw [List.length_append]; omega)⟩ (weak_st ⟨rfl, rfl, rfl, rfl, congrArg AV.str (congrArg (out ++ ·) (by rw [hpw, hvw]; simp)), rfl, rfl, rfl, trivial⟩ ⟨rfl, trivial⟩) (show l.length - (i + 1) < l.length - i by omega)
    · repeat' (first | refine a_f ?_ | refine st_nil ?_ | refine tri_seq ?_ | refine tri_region rfl ?_ | refine a_draw ?_ | (apply st_r rfl; case hq => first | exact q_call B0 (hcf := Tryz.call35) rfl rfl | exact a_q) | (apply st_rif rfl; (case hq => first | exact a_i); all_goals (intro _; try (exfalso; first | omega | contradiction))) | (apply st_rw rfl rfl; case hq => first | exact a_store) | refine tri_true rfl ?_ | refine tri_false rfl ?_ | refine tri_block ?_ | refine tri_skip ?_ | refine tri_ret ?_ | refine tri_exit ?_)
      refine And.intro (And.intro ⟨101, _, rfl, rfl, by kernel_rfl⟩ trivial) ?_
      conv => lhs; whnf
      rw [show l.drop i = [] from List.drop_eq_nil_of_le (by omega)] at hf
      rw [← hf]
      rfl
end Go.Proofs.YtignjjnflcpiiaaGreatDoor
