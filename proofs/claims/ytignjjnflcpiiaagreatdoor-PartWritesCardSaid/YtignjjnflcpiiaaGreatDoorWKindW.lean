import Derived.Test.YtignjjnflcpiiaaGreatDoorWKindB
import Derived.Test.YtignjjnflcpiiaaGreatDoorWG28
set_option linter.unusedVariables false
set_option linter.unusedSimpArgs false
set_option maxHeartbeats 1000000
namespace Go.Proofs.YtignjjnflcpiiaaGreatDoor
open Go.RowKit
attribute [local irreducible] Tri Steps Qd Wr Weak CPure CEff CNew CutN AllB Behind
set_option maxRecDepth 100000
def kwAV : KRes → AV
  | .ok s => .tup [.str s, .nili]
  | .bad n => if n < 0 then .tup [.str [], .iface 28 (.int .i64 1)] else .tup [.str [], .iface 98 (.rptr true [.int .i64 1, .int .i64 n])]
def rkwAV : KRes → AV
  | .ok s => .tup [.str s, .agg [.int .i64 0, .int .i64 (-1)]]
  | .bad n => .tup [.str [], .agg [.int .i64 1, .int .i64 n]]
def escP : List (UInt8 × List UInt8) := [(92, [92, 92]), (34, [92, 34])]
theorem subst_escV (v : B) : subst escP v = escV v := by
  unfold subst escV
  congr 1
  funext c
  unfold escC escP
  by_cases h1 : c = 92
  · subst h1; rfl
  · by_cases h2 : c = 34
    · subst h2; rfl
    · rw [if_neg (fun h => h.elim h2 h1)]
      simp [look, Ne.symm h1, Ne.symm h2]
theorem escV_len (v : B) : (escV v).length ≤ 2 * v.length := by
  induction v with
  | nil => simp [escV]
  | cons c v ih =>
    have e : escV (c :: v) = escC c ++ escV v := by simp [escV]
    have h : (escC c).length ≤ 2 := by unfold escC; split <;> simp
    rw [e, List.length_append, List.length_cons]; omega
theorem writeKGo_step (n : Nat) (out : B) (p : B × B) (r : Fs) : writeKGo tokC lowC n out (p :: r) = match okP tokC lowC p with
    | true => writeKGo tokC lowC (n + 1) (out ++ parW tokC p) r
    | false => .bad n := rfl
theorem parW_len (p : B × B) : (parW tokC p).length ≤ p.1.length + 2 * p.2.length + 5 := by
  have h := escV_len p.2
  unfold parW valW
  split <;> simp <;> omega
def visP (x : Nat) : Bool := decide (x < 32) || decide (126 < x)
theorem vis1_c (x : Nat) (hx : x ≤ 1114111) : CPure gx 55 [.int .i32 x] (.bool (visP x)) := by
  refine cpure_of Tryz.func55 rfl (Nat.le_of_ble_eq_true rfl) rfl (fun w hw => ?_)
  by_cases h1 : x < 32
  · repeat' (first | refine a_f ?_ | refine st_nil ?_ | refine tri_seq ?_ | refine tri_region rfl ?_ | refine a_draw ?_ | (apply st_r rfl; case hq => first | exact a_q) | (apply st_rif rfl; (case hq => first | exact a_i); all_goals (intro _; try (exfalso; first | omega | contradiction))) | (apply st_rw rfl rfl; case hq => first | exact a_store) | refine tri_true rfl ?_ | refine tri_false rfl ?_ | refine tri_block ?_ | refine tri_skip ?_ | refine tri_ret ?_ | refine tri_exit ?_)
    refine And.intro trivial ?_
    conv => lhs; whnf
    simp [visP, h1]
  by_cases h2 : 126 < x
  · repeat' (first | refine a_f ?_ | refine st_nil ?_ | refine tri_seq ?_ | refine tri_region rfl ?_ | refine a_draw ?_ | (apply st_r rfl; case hq => first | exact a_q) | (apply st_rif rfl; (case hq => first | exact a_i); all_goals (intro _; try (exfalso; first | omega | contradiction))) | (apply st_rw rfl rfl; case hq => first | exact a_store) | refine tri_true rfl ?_ | refine tri_false rfl ?_ | refine tri_block ?_ | refine tri_skip ?_ | refine tri_ret ?_ | refine tri_exit ?_)
    refine And.intro trivial ?_
    conv => lhs; whnf
    simp [visP, h2]
  repeat' (first | refine a_f ?_ | refine st_nil ?_ | refine tri_seq ?_ | refine tri_region rfl ?_ | refine a_draw ?_ | (apply st_r rfl; case hq => first | exact a_q) | (apply st_rif rfl; (case hq => first | exact a_i); all_goals (intro _; try (exfalso; first | omega | contradiction))) | (apply st_rw rfl rfl; case hq => first | exact a_store) | refine tri_true rfl ?_ | refine tri_false rfl ?_ | refine tri_block ?_ | refine tri_skip ?_ | refine tri_ret ?_ | refine tri_exit ?_)
  refine And.intro trivial ?_
  conv => lhs; whnf
  simp [visP, h1, h2]
theorem any_visP (s : B) : s.any (fun c => visP c.toNat) = !okV s := by
  induction s with
  | nil => rfl
  | cons c s ih =>
    rw [List.any_cons, ih]
    simp only [okV, List.all_cons, Bool.not_and]
    congr 1
    rw [Bool.eq_iff_iff]
    simp only [visP, Bool.or_eq_true, decide_eq_true_eq, Bool.not_eq_true', decide_eq_false_iff_not]
    omega
theorem vals_c (s : B) : CPure gx 54 [.str s, .clo 55 []] (.bool (!okV s)) := by
  have F1 := containsFunc_c (g := 55) (p := visP) s Tryz.call55 vis1_c (fun r h => by simp [visP]; omega)
  rw [any_visP] at F1
  exact F1
set_option maxHeartbeats 8000000 in
theorem kwrite_c (m : B) (l : Fs) (hm : m.length ≤ 1000000) (hl : Small l) : CPure gx 23 [.str m, .ro false 2 (fieldRows l)] (kwAV (writeK tokC lowC m l)) := by
  refine cpure_of Tryz.func23 rfl (Nat.le_of_ble_eq_true rfl) rfl (fun w hw => ?_)
  have hfl := fr_len l
  have hll := hl.len
  have C1 := cut_c m [47] (by omega)
  have S1 : CPure gx 53 [.str m] (.str (m.map lowC)) := small_c m (by omega)
  have hmo : mainOk tokC m = (tokQ tokC (Lib.cut m [47]).1 && (!(Lib.cut m [47]).2.2 || tokQ tokC (Lib.cut m [47]).2.1)) := rfl
  rcases hc : Lib.cut m [47] with ⟨a, b, is⟩
  rw [hc] at C1 hmo
  simp only at C1 hmo
  clear hc
  have T1 := token_c a
  have T2 := token_c b
  rw [tokQ_eq] at T1 T2
  cases hok : mainOk tokC m && decide (m.map lowC = m) with
  | false =>
    have hres : kwAV (writeK tokC lowC m l) = .tup [.str [], .iface 28 (.int .i64 1)] := by
      unfold writeK; rw [hok]; rfl
    rw [hmo] at hok
    generalize tokQ tokC a = ta at T1 hok
    generalize tokQ tokC b = tb at T2 hok
    by_cases hmm : m.map lowC = m
    all_goals
      cases ta <;> cases tb <;> cases is <;> first | (exfalso; simp [hmm] at hok; done) | skip
    all_goals
      repeat' (first | refine a_f ?_ | refine st_nil ?_ | refine tri_seq ?_ | refine tri_region rfl ?_ | refine a_draw ?_ | (apply st_r rfl; case hq => first | exact q_call C1 (hcf := Tryz.call51) rfl rfl | exact q_call T1 (hcf := Tryz.call52) rfl rfl | exact q_call T2 (hcf := Tryz.call52) rfl rfl | exact q_call S1 (hcf := Tryz.call53) rfl rfl | exact a_q) | (apply st_rif rfl; (case hq => first | exact a_i); all_goals (intro _; try (exfalso; first | omega | contradiction))) | (apply st_rw rfl rfl; case hq => first | exact a_store) | refine tri_true rfl ?_ | refine tri_false rfl ?_ | refine tri_block ?_ | refine tri_skip ?_ | refine tri_ret ?_ | refine tri_exit ?_)
    all_goals
      refine And.intro trivial ?_
      conv => lhs; whnf
      rw [hres]
      rfl
  | true =>
    have hwk : writeK tokC lowC m l = writeKGo tokC lowC 0 m l := by unfold writeK; rw [hok]
    rw [hmo, Bool.and_eq_true, decide_eq_true_eq] at hok
    obtain ⟨hok, hmm⟩ := hok
    generalize tokQ tokC a = ta at T1 hok
    generalize tokQ tokC b = tb at T2 hok
    refine tri_cutN (fun (_ : Unit) => True) (fun _ => st [(0, .str m), (1, .ro false 2 (fieldRows l)), (4, .str []), (5, .nili)] []) 3 ?_ (fun _ _ => ?_)
    · cases ta <;> cases tb <;> cases is <;> first | (exfalso; simp at hok; done) | skip
      all_goals
        repeat' (first | refine a_f ?_ | refine st_nil ?_ | refine tri_seq ?_ | refine tri_region rfl ?_ | refine cut_s ?_ | refine a_draw ?_ | (apply st_r rfl; case hq => first | exact q_call C1 (hcf := Tryz.call51) rfl rfl | exact q_call T1 (hcf := Tryz.call52) rfl rfl | exact q_call T2 (hcf := Tryz.call52) rfl rfl | exact q_call S1 (hcf := Tryz.call53) rfl rfl | exact a_q) | (apply st_rif rfl; (case hq => first | exact a_i); all_goals (intro _; try (exfalso; first | omega | contradiction))) | (apply st_rw rfl rfl; case hq => first | exact a_store) | refine tri_true rfl ?_ | refine tri_false rfl ?_ | refine tri_block ?_ | refine tri_skip ?_ | refine tri_ret ?_ | refine tri_exit ?_)
      all_goals exact cut_z () trivial (weak_st ⟨rfl, rfl, rfl, rfl, trivial⟩ trivial)
    rw [hwk]
    repeat' (first | refine a_f ?_ | refine st_nil ?_ | refine tri_seq ?_ | refine tri_region rfl ?_ | refine a_draw ?_ | (apply st_r rfl; case hq => first | exact a_q) | (apply st_rif rfl; (case hq => first | exact a_i); all_goals (intro _; try (exfalso; first | omega | contradiction))) | (apply st_rw rfl rfl; case hq => first | exact a_store) | refine tri_true rfl ?_ | refine tri_false rfl ?_ | refine tri_block ?_ | refine tri_skip ?_ | refine tri_ret ?_ | refine tri_exit ?_)
    refine tri_loop (fun (x : Nat × B) => x.1 ≤ l.length ∧ writeKGo tokC lowC x.1 x.2 (l.drop x.1) = writeKGo tokC lowC 0 m l ∧ x.2.length ≤ (x.1 + 1) * 5000000) (fun x => st [(0, .str m), (1, .ro false 2 (fieldRows l)), (4, .str []), (5, .nili), (9, .str x.2), (38, .ro false 2 (fieldRows l)), (39, .int .i64 (fieldRows l).length), (40, .int .i64 x.1)] []) (fun x => l.length - x.1) (0, m) ⟨Nat.zero_le _, rfl, show m.length ≤ (0 + 1) * 5000000 by omega⟩ ?hw (fun x hx => ?_)
    case hw => exact weak_st ⟨rfl, rfl, rfl, rfl, rfl, rfl, rfl, rfl, trivial⟩ trivial
    obtain ⟨i, out⟩ := x
    change Tri _ _ (st [(0, .str m), (1, .ro false 2 (fieldRows l)), (4, .str []), (5, .nili), (9, .str out), (38, .ro false 2 (fieldRows l)), (39, .int .i64 (fieldRows l).length), (40, .int .i64 i)] []) _
    obtain ⟨hi, hf, ho⟩ := hx
    simp only at hi hf ho
    obtain ⟨K, hKe, hoK, hKb⟩ : ∃ K, (∀ m, m ≤ K + 5000000 → m ≤ (i + 1 + 1) * 5000000) ∧ out.length ≤ K ∧ K ≤ 6000000000000 := ⟨(i + 1) * 5000000, fun m h => by rw [Nat.add_mul (i + 1)]; omega, ho, by omega⟩
    replace ho := hoK
    clear hoK
    by_cases hil : i < l.length
    · obtain ⟨f, hf1, hfm, hfd, hfr⟩ := fr_at hil
      rw [hfd, writeKGo_step] at hf
      obtain ⟨hfa, hfb⟩ := hl.one f hfm
      have hpl := parW_len f
      have hpw : parW tokC f = 59 :: 32 :: (f.1 ++ 61 :: valW tokC f.2) := rfl
      have hokp : okP tokC lowC f = (tokQ tokC f.1 && (decide (f.1.map lowC = f.1) && okV f.2)) := rfl
      have hvw : valW tokC f.2 = if tokQ tokC f.2 = true then f.2 else 34 :: (escV f.2 ++ [34]) := rfl
      have hel := escV_len f.2
      obtain ⟨fn, v⟩ := f
      simp only at hfa hfb hpl hpw hokp hvw hel
      have P1 := token_c fn
      have P2 := token_c v
      have P3 : CPure gx 53 [.str fn] (.str (fn.map lowC)) := small_c fn (by omega)
      have P4 := vals_c v
      have N1 := newrep_c escP (by decide) (by decide)
      have N2 := repl_c escP (by decide) (by decide) (by decide) v (by omega)
      rw [subst_escV] at N2
      rw [tokQ_eq] at P1 P2
      cases hok2 : okP tokC lowC (fn, v) <;> rw [hok2] at hf
      · rw [hokp] at hok2
        simp only at hf
        generalize tokQ tokC fn = t1 at P1 hok2
        generalize okV v = t2 at P4 hok2
        by_cases hlo : fn.map lowC = fn
        all_goals
          cases t1 <;> cases t2 <;> first | (exfalso; simp [hlo] at hok2; done) | skip
        all_goals
          repeat' (first | refine a_f ?_ | refine st_nil ?_ | refine tri_seq ?_ | refine tri_region rfl ?_ | refine a_draw ?_ | (apply st_r rfl; case hq => first | exact q_idxro (by conv => lhs; whnf) (by conv => lhs; whnf) (by first | exact Tryz.underlying22 | exact Tryz.underlying23 | exact Tryz.underlying43 | exact Tryz.underlying44 | exact Tryz.underlying51 | exact Tryz.underlying86 | exact Tryz.underlying191 | exact Tryz.underlying209 | exact Tryz.underlying234 | exact Tryz.underlying270 | exact Tryz.underlying281 | exact Tryz.underlying344) (by kernel_rfl) (by omega) hfr | exact q_loadar (n := 2) (by conv => lhs; whnf) (by conv => lhs; whnf) (by first | rfl | exact Nat.le_of_ble_eq_true rfl | exact Nat.succ_pos _ | decide) (by kernel_rfl) (fun _ => rfl) | exact q_call P1 (hcf := Tryz.call52) rfl rfl | exact q_call P3 (hcf := Tryz.call53) rfl rfl | exact q_call P4 (hcf := Tryz.call54) rfl rfl | exact a_q) | (apply st_rif rfl; (case hq => first | exact a_i); all_goals (intro _; try (exfalso; first | omega | contradiction))) | (apply st_rw rfl rfl; case hq => first | exact w_alloc 102 (by first | exact zAt | exact zFault | exact zField | exact zParam | exact zLink | exact zPart | exact zReader) rfl rfl rfl | exact a_store) | refine tri_true rfl ?_ | refine tri_false rfl ?_ | refine tri_block ?_ | refine tri_skip ?_ | refine tri_ret ?_ | refine tri_exit ?_)
        all_goals
          refine And.intro trivial ?_
          conv => lhs; whnf
          rw [← hf]
          rfl
      · rw [hokp] at hok2
        simp only at hf
        simp only [Bool.and_eq_true, decide_eq_true_eq] at hok2
        obtain ⟨k1, k2, k3⟩ := hok2
        rw [k1] at P1
        rw [k3] at P4
        cases hv : tokQ tokC v <;> rw [hv] at P2 hvw
        · rw [if_neg Bool.false_ne_true] at hvw
          repeat' (first | refine a_f ?_ | refine st_nil ?_ | refine tri_seq ?_ | refine tri_region rfl ?_ | refine a_draw ?_ | (apply st_r rfl; case hq => first | exact q_idxro (by conv => lhs; whnf) (by conv => lhs; whnf) (by first | exact Tryz.underlying22 | exact Tryz.underlying23 | exact Tryz.underlying43 | exact Tryz.underlying44 | exact Tryz.underlying51 | exact Tryz.underlying86 | exact Tryz.underlying191 | exact Tryz.underlying209 | exact Tryz.underlying234 | exact Tryz.underlying270 | exact Tryz.underlying281 | exact Tryz.underlying344) (by kernel_rfl) (by omega) hfr | exact q_loadar (n := 2) (by conv => lhs; whnf) (by conv => lhs; whnf) (by first | rfl | exact Nat.le_of_ble_eq_true rfl | exact Nat.succ_pos _ | decide) (by kernel_rfl) (fun _ => rfl) | exact q_call P1 (hcf := Tryz.call52) rfl rfl | exact q_call P2 (hcf := Tryz.call52) rfl rfl | exact q_call P3 (hcf := Tryz.call53) rfl rfl | exact q_call P4 (hcf := Tryz.call54) rfl rfl | exact q_adds (u := [34]) rfl (by conv => lhs; whnf) (by first | omega | (simp only [List.length_append, List.length_cons, List.length_nil, List.length_take, List.length_drop]; omega)) | exact q_adds (v := [34]) (by conv => lhs; whnf) rfl (by first | omega | (simp only [List.length_append, List.length_cons, List.length_nil, List.length_take, List.length_drop]; omega)) | exact q_adds (u := [59, 32]) rfl (by conv => lhs; whnf) (by first | omega | (simp only [List.length_append, List.length_cons, List.length_nil, List.length_take, List.length_drop]; omega)) | exact q_adds (v := [61]) (by conv => lhs; whnf) rfl (by first | omega | (simp only [List.length_append, List.length_cons, List.length_nil, List.length_take, List.length_drop]; omega)) | exact a_q) | (apply st_rif rfl; (case hq => first | exact a_i); all_goals (intro _; try (exfalso; first | omega | contradiction))) | (apply st_rw rfl rfl; case hq => first | exact w_alloc 102 (by first | exact zAt | exact zFault | exact zField | exact zParam | exact zLink | exact zPart | exact zReader) rfl rfl rfl | exact w_new 103 N1 (hcf := Tryz.call56) rfl rfl rfl rfl | exact w_callb (id := 103) N2 (hcf := Tryz.call57) rfl rfl rfl rfl rfl | exact a_store) | refine tri_true rfl ?_ | refine tri_false rfl ?_ | refine tri_block ?_ | refine tri_skip ?_ | refine tri_ret ?_ | refine tri_exit ?_)
          exact loop_next (i + 1, out ++ parW tokC (fn, v)) ⟨by show i + 1 ≤ _; omega, hf, by show (out ++ parW tokC (fn, v)).length ≤ (i + 1 + 1) * 5000000; exact hKe _ (by rw [List.length_append]; omega)⟩ (weak_st ⟨rfl, rfl, rfl, rfl, congrArg AV.str (congrArg (out ++ ·) (by rw [hpw, hvw]; simp)), rfl, rfl, rfl, trivial⟩ trivial) (show l.length - (i + 1) < l.length - i by omega)
        · rw [if_pos rfl] at hvw
          repeat' (first | refine a_f ?_ | refine st_nil ?_ | refine tri_seq ?_ | refine tri_region rfl ?_ | refine a_draw ?_ | (apply st_r rfl; case hq => first | exact q_idxro (by conv => lhs; whnf) (by conv => lhs; whnf) (by first | exact Tryz.underlying22 | exact Tryz.underlying23 | exact Tryz.underlying43 | exact Tryz.underlying44 | exact Tryz.underlying51 | exact Tryz.underlying86 | exact Tryz.underlying191 | exact Tryz.underlying209 | exact Tryz.underlying234 | exact Tryz.underlying270 | exact Tryz.underlying281 | exact Tryz.underlying344) (by kernel_rfl) (by omega) hfr | exact q_loadar (n := 2) (by conv => lhs; whnf) (by conv => lhs; whnf) (by first | rfl | exact Nat.le_of_ble_eq_true rfl | exact Nat.succ_pos _ | decide) (by kernel_rfl) (fun _ => rfl) | exact q_call P1 (hcf := Tryz.call52) rfl rfl | exact q_call P2 (hcf := Tryz.call52) rfl rfl | exact q_call P3 (hcf := Tryz.call53) rfl rfl | exact q_call P4 (hcf := Tryz.call54) rfl rfl | exact q_adds (u := [59, 32]) rfl (by conv => lhs; whnf) (by first | omega | (simp only [List.length_append, List.length_cons, List.length_nil, List.length_take, List.length_drop]; omega)) | exact q_adds (v := [61]) (by conv => lhs; whnf) rfl (by first | omega | (simp only [List.length_append, List.length_cons, List.length_nil, List.length_take, List.length_drop]; omega)) | exact a_q) | (apply st_rif rfl; (case hq => first | exact a_i); all_goals (intro _; try (exfalso; first | omega | contradiction))) | (apply st_rw rfl rfl; case hq => first | exact w_alloc 102 (by first | exact zAt | exact zFault | exact zField | exact zParam | exact zLink | exact zPart | exact zReader) rfl rfl rfl | exact a_store) | refine tri_true rfl ?_ | refine tri_false rfl ?_ | refine tri_block ?_ | refine tri_skip ?_ | refine tri_ret ?_ | refine tri_exit ?_)
          exact loop_next (i + 1, out ++ parW tokC (fn, v)) ⟨by show i + 1 ≤ _; omega, hf, by show (out ++ parW tokC (fn, v)).length ≤ (i + 1 + 1) * 5000000; exact hKe _ (by rw [List.length_append]; omega)⟩ (weak_st ⟨rfl, rfl, rfl, rfl, congrArg AV.str (congrArg (out ++ ·) (by rw [hpw, hvw]; simp)), rfl, rfl, rfl, trivial⟩ trivial) (show l.length - (i + 1) < l.length - i by omega)
    · repeat' (first | refine a_f ?_ | refine st_nil ?_ | refine tri_seq ?_ | refine tri_region rfl ?_ | refine a_draw ?_ | (apply st_r rfl; case hq => first | exact a_q) | (apply st_rif rfl; (case hq => first | exact a_i); all_goals (intro _; try (exfalso; first | omega | contradiction))) | (apply st_rw rfl rfl; case hq => first | exact a_store) | refine tri_true rfl ?_ | refine tri_false rfl ?_ | refine tri_block ?_ | refine tri_skip ?_ | refine tri_ret ?_ | refine tri_exit ?_)
      refine And.intro trivial ?_
      conv => lhs; whnf
      rw [show l.drop i = [] from List.drop_eq_nil_of_le (by omega)] at hf
      rw [← hf]
      rfl
end Go.Proofs.YtignjjnflcpiiaaGreatDoor
