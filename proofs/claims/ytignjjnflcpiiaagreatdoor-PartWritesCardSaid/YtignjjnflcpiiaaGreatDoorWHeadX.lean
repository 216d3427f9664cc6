import Derived.Test.YtignjjnflcpiiaaGreatDoorWG39
set_option linter.unusedVariables false
set_option linter.unusedSimpArgs false
set_option maxHeartbeats 1000000
namespace Go.Proofs.YtignjjnflcpiiaaGreatDoor
open Go.RowKit
attribute [local irreducible] Tri Steps Qd Wr Weak CPure CEff
set_option maxRecDepth 100000
def wrAV : WRes → AV
  | .ok s => .tup [.str s, .nili]
  | .bad n => .tup [.str [], .iface 98 (.rptr true [.int .i64 1, .int .i64 n])]
def rwrAV : WRes → AV
  | .ok s => .tup [.str s, .agg [.int .i64 0, .int .i64 (-1)]]
  | .bad n => .tup [.str [], .agg [.int .i64 1, .int .i64 n]]
theorem writeGo_step (n : Nat) (out : B) (f : B × B) (r : Fs) : writeGo n out (f :: r) = match okF f with
    | true => writeGo (n + 1) (out ++ writeF f) r
    | false => .bad n := rfl
def wrF (f : Nat) (o : Oper) : Bool := wrB o || match o.op with
  | .call c => match c.callee with
    | .value (.func g) => Nat.beq g f
    | _ => false
  | _ => false
theorem firstW_cut (v : B) : (Lib.cut v [32]).1 = firstW v := by
  unfold firstW
  have e := List.takeWhile_append_dropWhile (p := nb) (l := v)
  have hn : ∀ c ∈ v.takeWhile nb, c ≠ 32 := fun c hc => by
    have := List.all_eq_true.1 (List.all_takeWhile (p := nb) (l := v)) c hc
    simpa [nb] using this
  cases hd : v.dropWhile nb with
  | nil =>
    rw [hd, List.append_nil] at e
    rw [e] at hn ⊢
    rw [cut_no (sub := [32]) rfl hn]
  | cons c t =>
    have h := List.head?_dropWhile_not nb v
    rw [hd] at h
    have hc : c = 32 := by simpa [nb] using h
    subst hc
    rw [hd] at e
    conv => lhs; rw [← e]
    rw [show v.takeWhile nb ++ 32 :: t = v.takeWhile nb ++ ([32] ++ t) from rfl, cut_here (sub := [32]) rfl hn]
set_option maxHeartbeats 4000000 in
theorem write_c (l : Fs) (hl : Small l) : CPure gx 82 [.ro false 2 (fieldRows l)] (wrAV (writeH l)) := by
  refine cpure_of Tryz.func82 rfl (Nat.le_of_ble_eq_true rfl) rfl (fun w hw => ?_)
  have hfl := fr_len l
  have hll := hl.len
  repeat' (first | refine a_f ?_ | refine st_nil ?_ | refine tri_seq ?_ | refine tri_region rfl ?_ | refine a_draw ?_ | (apply st_r rfl; case hq => first | exact a_q) | (apply st_rif rfl; (case hq => first | exact a_i); all_goals (intro _; try (exfalso; first | omega | contradiction))) | (apply st_rw rfl rfl; case hq => first | exact w_allocb 100 ByT zBuilder rfl rfl | exact a_store) | refine tri_true rfl ?_ | refine tri_false rfl ?_ | refine tri_block ?_ | refine tri_skip ?_ | refine tri_ret ?_ | refine tri_exit ?_)
  refine tri_loop (fun (x : Nat × B) => x.1 ≤ l.length ∧ writeGo x.1 x.2 (l.drop x.1) = writeH l ∧ x.2.length ≤ x.1 * 5000000) (fun x => st [(0, .ro false 2 (fieldRows l)), (2, .str []), (3, .nili), (4, .ptr 100 0), (10, .ro false 2 (fieldRows l)), (11, .int .i64 (fieldRows l).length), (12, .int .i64 x.1)] [(100, .bld ByT BT x.2)]) (fun x => l.length - x.1) (0, []) ⟨Nat.zero_le _, rfl, Nat.zero_le _⟩ ?hw (fun x hx => ?_)
  case hw => exact weak_st ⟨rfl, rfl, rfl, rfl, rfl, rfl, rfl, trivial⟩ ⟨rfl, trivial⟩
  obtain ⟨i, out⟩ := x
  change Tri _ _ (st [(0, .ro false 2 (fieldRows l)), (2, .str []), (3, .nili), (4, .ptr 100 0), (10, .ro false 2 (fieldRows l)), (11, .int .i64 (fieldRows l).length), (12, .int .i64 i)] [(100, .bld ByT BT out)]) _
  obtain ⟨hi, hf, ho⟩ := hx
  simp only at hi hf ho
  obtain ⟨K, hKe, hoK, hKb⟩ : ∃ K, (∀ m, m ≤ K + 5000000 → m ≤ (i + 1) * 5000000) ∧ out.length ≤ K ∧ K ≤ 5000000000000 := ⟨i * 5000000, fun m h => by rw [Nat.add_mul]; omega, ho, by omega⟩
  replace ho := hoK
  clear hoK
  by_cases hil : i < l.length
  · obtain ⟨f, hf1, hfm, hfd, hfr⟩ := fr_at hil
    rw [hfd, writeGo_step] at hf
    obtain ⟨hfa, hfb⟩ := hl.one f hfm
    have S1 : CPure gx 74 [.ro false 2 [[.str f.1, .str f.2]]] (.bool (rightB [f])) := right_c [f] ⟨by simp, fun g hg => by rw [List.mem_singleton.1 hg]; exact hl.one f hfm⟩
    rw [show rightB [f] = okF f by simp [rightB]] at S1
    have C1 := cut_c f.2 [32] (by omega)
    have hcw := firstW_cut f.2
    have hwl := firstW_len f.2
    have hwf := writeF_len f
    have hwd : writeF f = lineGo (f.1 ++ [58, 32] ++ firstW f.2) (f.2.drop (firstW f.2).length) := rfl
    rcases hc : Lib.cut f.2 [32] with ⟨a, b, fd⟩
    rw [hc] at C1 hcw
    simp only at C1 hcw
    rw [← hcw] at hwl hwd
    have L1 := line_e out (f.1 ++ [58, 32] ++ a) (f.2.drop a.length) (by
      simp only [List.length_append, List.length_cons, List.length_nil, List.length_drop]
      omega)
    rw [← hwd] at L1
    cases hok : okF f <;> rw [hok] at S1 hf
    all_goals
      repeat' (first | refine a_f ?_ | refine st_nil ?_ | refine tri_seq ?_ | refine tri_region rfl ?_ | refine tri_draw (wrF 141) (by kernel_rfl) rfl ?_ | refine a_draw ?_ | (apply st_r rfl; case hq => first | exact q_idxro (by conv => lhs; whnf) (by conv => lhs; whnf) (by first | exact Tryz.underlying22 | exact Tryz.underlying23 | exact Tryz.underlying43 | exact Tryz.underlying44 | exact Tryz.underlying51 | exact Tryz.underlying86 | exact Tryz.underlying191 | exact Tryz.underlying209 | exact Tryz.underlying234 | exact Tryz.underlying270 | exact Tryz.underlying281 | exact Tryz.underlying344) (by kernel_rfl) (by omega) hfr | exact q_loadar (n := 2) (by conv => lhs; whnf) (by conv => lhs; whnf) (by first | rfl | exact Nat.le_of_ble_eq_true rfl | exact Nat.succ_pos _ | decide) (by kernel_rfl) (fun _ => rfl) | exact q_call S1 (hcf := Tryz.call74) rfl rfl | exact q_call C1 (hcf := Tryz.call51) rfl rfl | exact q_adds (v := [58, 32]) (by conv => lhs; whnf) rfl (by first | omega | (simp only [List.length_append, List.length_cons, List.length_nil, List.length_take, List.length_drop]; omega)) | exact q_adds (by conv => lhs; whnf) (by conv => lhs; whnf) (by first | omega | (simp only [List.length_append, List.length_cons, List.length_nil, List.length_take, List.length_drop]; omega)) | exact a_q) | (apply st_rif rfl; (case hq => first | exact a_i); all_goals (intro _; try (exfalso; first | omega | contradiction))) | (apply st_rw rfl rfl; case hq => first | exact w_alloc 102 (by first | exact zAt | exact zFault | exact zField | exact zParam | exact zLink | exact zPart | exact zReader) rfl rfl rfl | exact w_call (id := 100) L1 (hcf := Tryz.call141) (by conv => lhs; whnf; arg 1; whnf) rfl rfl rfl rfl rfl | exact a_store) | refine tri_true rfl ?_ | refine tri_false rfl ?_ | refine tri_block ?_ | refine tri_skip ?_ | refine tri_ret ?_ | refine tri_exit ?_)
    · refine And.intro trivial ?_
      conv => lhs; whnf
      rw [← hf]
      rfl
    · exact nextR (i + 1, out ++ writeF f) ⟨by show i + 1 ≤ _; omega, hf, by show (out ++ writeF f).length ≤ (i + 1) * 5000000; exact hKe _ (by rw [List.length_append]; omega)⟩ (weak_st ⟨rfl, rfl, rfl, rfl, rfl, rfl, rfl, trivial⟩ ⟨rfl, trivial⟩) (show l.length - (i + 1) < l.length - i by omega)
  · have S1 := string_e out
    repeat' (first | refine a_f ?_ | refine st_nil ?_ | refine tri_seq ?_ | refine tri_region rfl ?_ | refine a_draw ?_ | (apply st_r rfl; case hq => first | exact q_adds (v := [13, 10]) (by conv => lhs; whnf) rfl (by first | omega | (simp only [List.length_append, List.length_cons, List.length_nil, List.length_take, List.length_drop]; omega)) | exact a_q) | (apply st_rif rfl; (case hq => first | exact a_i); all_goals (intro _; try (exfalso; first | omega | contradiction))) | (apply st_rw rfl rfl; case hq => first | exact w_call (id := 100) S1 (hcf := Tryz.call45) (by conv => lhs; whnf; arg 1; whnf) rfl rfl rfl rfl rfl | exact a_store) | refine tri_true rfl ?_ | refine tri_false rfl ?_ | refine tri_block ?_ | refine tri_skip ?_ | refine tri_ret ?_ | refine tri_exit ?_)
    refine And.intro trivial ?_
    conv => lhs; whnf
    rw [show l.drop i = [] from List.drop_eq_nil_of_le (by omega)] at hf
    rw [← hf]
    rfl
def pbk (v : B) (k : Nat) : Bool := decide (k ≠ 0) && bl (v.getD (k - 1) 0)
theorem refGo_nil (s line word : B) (first pb : Bool) : refGo s line word first pb [] = if first = false ∧ word ≠ [] ∧ 76 < line.length + word.length then s ++ (line ++ [13, 10]) ++ word ++ [13, 10] else s ++ (line ++ word) ++ [13, 10] := rfl
theorem refGo_cons (s line word : B) (first pb : Bool) (c : UInt8) (r : B) : refGo s line word first pb (c :: r) = if c = 32 ∧ pb = false then
      (if first = false ∧ word ≠ [] ∧ 76 < line.length + word.length then refGo (s ++ (line ++ [13, 10])) word [c] false true r else refGo s (line ++ word) [c] false true r)
    else refGo s line (word ++ [c]) first (c == 32) r := rfl
structure WX where
  k : Nat
  s : B
  line : B
  word : B
  first : Bool
structure WInv (R v : B) (K : Nat) (x : WX) : Prop where
  le : x.k ≤ v.length + 1
  go : x.k ≤ v.length → refGo x.s x.line x.word x.first (pbk v x.k) (v.drop x.k) = R
  fin : x.k = v.length + 1 → x.s ++ (x.line ++ [13, 10]) = R
  len : x.s.length + x.line.length + x.word.length ≤ K + 3 * x.k
theorem getD_at {v : B} {k : Nat} (h : k < v.length) : v.drop k = v.getD k 0 :: v.drop (k + 1) := by
  rw [List.drop_eq_getElem_cons h, List.getD_eq_getElem?_getD, List.getElem?_eq_getElem h]; rfl
theorem pbk_next (v : B) (k : Nat) : pbk v (k + 1) = bl (v.getD k 0) := by simp [pbk]
theorem take_one (v : B) (k : Nat) (h : k < v.length) : (v.take (k + 1)).drop k = [v.getD k 0] := by
  rw [List.take_succ_eq_append_getElem h, List.drop_left' (by simp; omega), List.getD_eq_getElem?_getD, List.getElem?_eq_getElem h]; rfl
theorem take_oneI (v : B) (k : Nat) (h : k < v.length) : (v.take ((k : Int) + 1).toNat).drop (k : Int).toNat = [v.getD k 0] := by
  rw [show ((k : Int) + 1).toNat = k + 1 by omega, Int.toNat_natCast]; exact take_one v k h
set_option maxHeartbeats 8000000 in
theorem rwrite_c (l : Fs) (hl : Small l) : CPure gx 70 [.ro false 2 (fieldRows l)] (rwrAV (writeH l)) := by
  refine cpure_of Tryz.func70 rfl (Nat.le_of_ble_eq_true rfl) rfl (fun w hw => ?_)
  have hfl := fr_len l
  have hll := hl.len
  repeat' (first | refine a_f ?_ | refine st_nil ?_ | refine tri_seq ?_ | refine tri_region rfl ?_ | refine a_draw ?_ | (apply st_r rfl; case hq => first | exact a_q) | (apply st_rif rfl; (case hq => first | exact a_i); all_goals (intro _; try (exfalso; first | omega | contradiction))) | (apply st_rw rfl rfl; case hq => first | exact w_alloc 101 zFault rfl rfl rfl | exact a_store) | refine tri_true rfl ?_ | refine tri_false rfl ?_ | refine tri_block ?_ | refine tri_skip ?_ | refine tri_ret ?_ | refine tri_exit ?_)
  refine tri_loop (fun (x : Nat × B) => x.1 ≤ l.length ∧ writeGo x.1 x.2 (l.drop x.1) = writeH l ∧ x.2.length ≤ x.1 * 5000000) (fun x => st [(0, .ro false 2 (fieldRows l)), (2, .str []), (3, .ptr 101 0), (4, .str x.2), (11, .ro false 2 (fieldRows l)), (12, .int .i64 (fieldRows l).length), (13, .int .i64 x.1)] [(101, .box [.int .i64 0, .int .i64 0])]) (fun x => l.length - x.1) (0, []) ⟨Nat.zero_le _, rfl, Nat.zero_le _⟩ ?hw (fun x hx => ?_)
  case hw => exact weak_st ⟨rfl, rfl, rfl, rfl, rfl, rfl, rfl, trivial⟩ ⟨rfl, trivial⟩
  obtain ⟨i, out⟩ := x
  change Tri _ _ (st [(0, .ro false 2 (fieldRows l)), (2, .str []), (3, .ptr 101 0), (4, .str out), (11, .ro false 2 (fieldRows l)), (12, .int .i64 (fieldRows l).length), (13, .int .i64 i)] [(101, .box [.int .i64 0, .int .i64 0])]) _
  obtain ⟨hi, hf, ho⟩ := hx
  simp only at hi hf ho
  obtain ⟨K, hKe, hoK, hKb⟩ : ∃ K, (∀ m, m ≤ K + 5000000 → m ≤ (i + 1) * 5000000) ∧ out.length ≤ K ∧ K ≤ 5000000000000 := ⟨i * 5000000, fun m h => by rw [Nat.add_mul]; omega, ho, by omega⟩
  replace ho := hoK
  clear hoK
  by_cases hil : i < l.length
  · obtain ⟨f, hf1, hfm, hfd, hfr⟩ := fr_at hil
    rw [hfd, writeGo_step] at hf
    obtain ⟨hfa, hfb⟩ := hl.one f hfm
    have S1 : CPure gx 67 [.ro false 2 [[.str f.1, .str f.2]]] (.bool (rightB [f])) := rhead_c [f] ⟨by simp, fun g hg => by rw [List.mem_singleton.1 hg]; exact hl.one f hfm⟩
    rw [show rightB [f] = okF f by simp [rightB]] at S1
    have hwf := writeF_len f
    have hrf := refGo_field out f
    cases hok : okF f <;> rw [hok] at S1 hf
    · repeat' (first | refine a_f ?_ | refine st_nil ?_ | refine tri_seq ?_ | refine tri_region rfl ?_ | refine a_draw ?_ | (apply st_r rfl; case hq => first | exact q_idxro (by conv => lhs; whnf) (by conv => lhs; whnf) (by first | exact Tryz.underlying22 | exact Tryz.underlying23 | exact Tryz.underlying43 | exact Tryz.underlying44 | exact Tryz.underlying51 | exact Tryz.underlying86 | exact Tryz.underlying191 | exact Tryz.underlying209 | exact Tryz.underlying234 | exact Tryz.underlying270 | exact Tryz.underlying281 | exact Tryz.underlying344) (by kernel_rfl) (by omega) hfr | exact q_loadar (n := 2) (by conv => lhs; whnf) (by conv => lhs; whnf) (by first | rfl | exact Nat.le_of_ble_eq_true rfl | exact Nat.succ_pos _ | decide) (by kernel_rfl) (fun _ => rfl) | exact q_call S1 (hcf := Tryz.call67) rfl rfl | exact a_q) | (apply st_rif rfl; (case hq => first | exact a_i); all_goals (intro _; try (exfalso; first | omega | contradiction))) | (apply st_rw rfl rfl; case hq => first | exact w_alloc 102 (by first | exact zAt | exact zFault | exact zField | exact zParam | exact zLink | exact zPart | exact zReader) rfl rfl rfl | exact a_store) | refine tri_true rfl ?_ | refine tri_false rfl ?_ | refine tri_block ?_ | refine tri_skip ?_ | refine tri_ret ?_ | refine tri_exit ?_)
      refine And.intro (And.intro ⟨101, _, rfl, rfl, by kernel_rfl⟩ trivial) ?_
      conv => lhs; whnf
      rw [← hf]
      rfl
    repeat' (first | refine a_f ?_ | refine st_nil ?_ | refine tri_seq ?_ | refine tri_region rfl ?_ | refine a_draw ?_ | (apply st_r rfl; case hq => first | exact q_idxro (by conv => lhs; whnf) (by conv => lhs; whnf) (by first | exact Tryz.underlying22 | exact Tryz.underlying23 | exact Tryz.underlying43 | exact Tryz.underlying44 | exact Tryz.underlying51 | exact Tryz.underlying86 | exact Tryz.underlying191 | exact Tryz.underlying209 | exact Tryz.underlying234 | exact Tryz.underlying270 | exact Tryz.underlying281 | exact Tryz.underlying344) (by kernel_rfl) (by omega) hfr | exact q_loadar (n := 2) (by conv => lhs; whnf) (by conv => lhs; whnf) (by first | rfl | exact Nat.le_of_ble_eq_true rfl | exact Nat.succ_pos _ | decide) (by kernel_rfl) (fun _ => rfl) | exact q_call S1 (hcf := Tryz.call67) rfl rfl | exact a_q) | (apply st_rif rfl; (case hq => first | exact a_i); all_goals (intro _; try (exfalso; first | omega | contradiction))) | (apply st_rw rfl rfl; case hq => first | exact w_alloc 102 (by first | exact zAt | exact zFault | exact zField | exact zParam | exact zLink | exact zPart | exact zReader) rfl rfl rfl | exact a_store) | refine tri_true rfl ?_ | refine tri_false rfl ?_ | refine tri_block ?_ | refine tri_skip ?_ | refine tri_ret ?_ | refine tri_exit ?_)
    obtain ⟨fn, v⟩ := f
    simp only at hfa hfb hwf hrf hf
    refine tri_loop_to (WInv (out ++ writeF (fn, v)) v (out.length + fn.length + 2)) (fun x => st [(0, .ro false 2 (fieldRows l)), (2, .str []), (3, .ptr 101 0), (4, .str x.s), (6, .ptr 102 0), (7, .str x.line), (8, .str x.word), (9, .bool x.first), (10, .int .i64 x.k), (11, .ro false 2 (fieldRows l)), (12, .int .i64 (fieldRows l).length), (13, .int .i64 i)] [(101, .box [.int .i64 0, .int .i64 0]), (102, .box [.str fn, .str v])]) (fun x => v.length + 1 - x.k)
      (fun (x : B × B) => x.1 ++ (x.2 ++ [13, 10]) = out ++ writeF (fn, v)) (fun x => st [(0, .ro false 2 (fieldRows l)), (2, .str []), (3, .ptr 101 0), (4, .str x.1), (7, .str x.2), (11, .ro false 2 (fieldRows l)), (12, .int .i64 (fieldRows l).length), (13, .int .i64 i)] [(101, .box [.int .i64 0, .int .i64 0])]) ⟨0, out, fn ++ [58, 32], [], true⟩ ⟨Nat.zero_le _, fun _ => hrf, fun h => absurd h (by simp only; omega), by simp; omega⟩ ?hw weak_tri (fun x hx => ?_) (fun x hx => ?_)
    case hw => exact weak_st ⟨rfl, rfl, rfl, rfl, rfl, rfl, rfl, rfl, rfl, rfl, rfl, rfl, trivial⟩ ⟨rfl, rfl, trivial⟩
    · obtain ⟨k, s, line, word, first⟩ := x
      change Tri _ _ (st [(0, .ro false 2 (fieldRows l)), (2, .str []), (3, .ptr 101 0), (4, .str s), (6, .ptr 102 0), (7, .str line), (8, .str word), (9, .bool first), (10, .int .i64 k), (11, .ro false 2 (fieldRows l)), (12, .int .i64 (fieldRows l).length), (13, .int .i64 i)] [(101, .box [.int .i64 0, .int .i64 0]), (102, .box [.str fn, .str v])]) _
      obtain ⟨h1, h2, h3, h4⟩ := hx
      simp only at h1 h2 h3 h4
      by_cases hk1 : k = v.length + 1
      · repeat' (first | refine a_f ?_ | refine st_nil ?_ | refine tri_seq ?_ | refine tri_region rfl ?_ | refine a_draw ?_ | (apply st_r rfl; case hq => first | exact a_q) | (apply st_rif rfl; (case hq => first | exact a_i); all_goals (intro _; try (exfalso; first | omega | contradiction))) | (apply st_rw rfl rfl; case hq => first | exact a_store) | refine tri_true rfl ?_ | refine tri_false rfl ?_ | refine tri_block ?_ | refine tri_skip ?_ | refine tri_ret ?_ | refine tri_exit ?_)
        exact outR (s, line) (h3 hk1) (weak_st ⟨rfl, rfl, rfl, rfl, rfl, rfl, rfl, rfl, trivial⟩ ⟨rfl, trivial⟩)
      replace h2 := h2 (by omega)
      clear h3
      by_cases hkl : k = v.length
      · subst hkl
        rw [List.drop_eq_nil_of_le (Nat.le_refl _), refGo_nil] at h2
        cases first <;> by_cases hwd : word = [] <;> by_cases h76 : 76 < line.length + word.length
        all_goals
          repeat' (first | refine a_f ?_ | refine st_nil ?_ | refine tri_seq ?_ | refine tri_region rfl ?_ | refine a_draw ?_ | (apply st_r rfl; case hq => first | exact a_q) | (apply st_rif rfl; (case hq => first | exact a_i); all_goals (intro _; try (exfalso; first | omega | contradiction))) | (apply st_rw rfl rfl; case hq => first | exact a_store) | refine tri_true rfl ?_ | refine tri_false rfl ?_ | refine tri_block ?_ | refine tri_skip ?_ | refine tri_ret ?_ | refine tri_exit ?_)
          all_goals first
            | exact nextR ⟨v.length + 1, s ++ (line ++ [13, 10]), [] ++ word, [], false⟩ ⟨Nat.le_refl _, fun h => absurd h (by simp only; omega), fun _ => by rw [← h2, if_pos ⟨rfl, hwd, h76⟩]; simp, by simp only [List.length_append, List.length_cons, List.length_nil]; omega⟩ (weak_st ⟨rfl, rfl, rfl, rfl, rfl, rfl, rfl, rfl, rfl, rfl, rfl, rfl, trivial⟩ ⟨rfl, rfl, trivial⟩) (show v.length + 1 - (v.length + 1) < v.length + 1 - v.length by omega)
            | exact nextR ⟨v.length + 1, s, line ++ word, [], false⟩ ⟨Nat.le_refl _, fun h => absurd h (by simp only; omega), fun _ => by rw [← h2, if_neg (by simp [hwd, h76])]; simp, by simp only [List.length_append, List.length_nil]; omega⟩ (weak_st ⟨rfl, rfl, rfl, rfl, rfl, rfl, rfl, rfl, rfl, rfl, rfl, rfl, trivial⟩ ⟨rfl, rfl, trivial⟩) (show v.length + 1 - (v.length + 1) < v.length + 1 - v.length by omega)
      have hkv : k < v.length := by omega
      have hone := take_oneI v k hkv
      rw [getD_at hkv, refGo_cons] at h2
      have hpn := pbk_next v k
      have hcv := getD_cast v k
      by_cases hb : v.getD k 0 = 32 ∧ pbk v k = false
      · rw [if_pos hb] at h2
        obtain ⟨hb1, hb2⟩ := hb
        have hc1 : ((v.getD (k : Int).toNat 0).toNat : Int) = 32 := by rw [hcv, hb1]; rfl
        have hc2 : k = 0 ∨ ¬ ((v.getD ((k : Int) - 1).toNat 0).toNat : Int) = 32 := by
          rcases Nat.eq_zero_or_pos k with h | h
          · exact .inl h
          · refine .inr (fun e => ?_)
            have e2 : ((k : Int) - 1).toNat = k - 1 := by omega
            rw [e2] at e
            have := (bl_iff _).2 e
            rw [pbk, this] at hb2
            simp at hb2
            omega
        rw [hb1] at h2 hone hpn
        have hb32 : bl 32 = true := rfl
        rw [hb32] at hpn
        cases first <;> by_cases hwd : word = [] <;> by_cases h76 : 76 < line.length + word.length
        all_goals
          repeat' (first | refine a_f ?_ | refine st_nil ?_ | refine tri_seq ?_ | refine tri_region rfl ?_ | refine a_draw ?_ | (apply st_r rfl; case hq => first | exact a_q) | (apply st_rif rfl; (case hq => first | exact a_i); all_goals (intro _; try (exfalso; first | omega | contradiction))) | (apply st_rw rfl rfl; case hq => first | exact a_store) | refine tri_true rfl ?_ | refine tri_false rfl ?_ | refine tri_block ?_ | refine tri_skip ?_ | refine tri_ret ?_ | refine tri_exit ?_)
          all_goals first
            | exact nextR ⟨k + 1, s ++ (line ++ [13, 10]), [] ++ word, [] ++ [32], false⟩ ⟨by simp only; omega, fun _ => by simp only; rw [hpn, ← h2, if_pos ⟨rfl, hwd, h76⟩]; rfl, fun h => absurd h (by simp only; omega), by simp only [List.length_append, List.length_cons, List.length_nil]; omega⟩ (weak_st ⟨rfl, rfl, rfl, rfl, rfl, rfl, congrArg AV.str (congrArg _ hone), rfl, rfl, rfl, rfl, rfl, trivial⟩ ⟨rfl, rfl, trivial⟩) (show v.length + 1 - (k + 1) < v.length + 1 - k by omega)
            | exact nextR ⟨k + 1, s, line ++ word, [] ++ [32], false⟩ ⟨by simp only; omega, fun _ => by simp only; rw [hpn, ← h2, if_neg (by simp [hwd, h76])]; rfl, fun h => absurd h (by simp only; omega), by simp only [List.length_append, List.length_cons, List.length_nil]; omega⟩ (weak_st ⟨rfl, rfl, rfl, rfl, rfl, rfl, congrArg AV.str (congrArg _ hone), rfl, rfl, rfl, rfl, rfl, trivial⟩ ⟨rfl, rfl, trivial⟩) (show v.length + 1 - (k + 1) < v.length + 1 - k by omega)
      · rw [if_neg hb] at h2
        have hc1 : ((v.getD (k : Int).toNat 0).toNat : Int) = 32 → 0 < k ∧ ((v.getD ((k : Int) - 1).toNat 0).toNat : Int) = 32 := by
          intro e
          rw [hcv] at e
          have e1 := (bl_iff _).2 e
          have e2 : v.getD k 0 = 32 := by simpa [bl] using e1
          have e3 : pbk v k = true := by
            cases hp : pbk v k with
            | true => rfl
            | false => exact absurd ⟨e2, hp⟩ hb
          simp only [pbk, Bool.and_eq_true, decide_eq_true_eq] at e3
          have e4 : ((k : Int) - 1).toNat = k - 1 := by omega
          rw [e4]
          exact ⟨by omega, (bl_iff _).1 e3.2⟩
        have hx : (v.getD k 0 == 32) = bl (v.getD k 0) := rfl
        repeat' (first | refine a_f ?_ | refine st_nil ?_ | refine tri_seq ?_ | refine tri_region rfl ?_ | refine a_draw ?_ | (apply st_r rfl; case hq => first | exact a_q) | (apply st_rif rfl; (case hq => first | exact a_i); all_goals (intro _; try (exfalso; first | omega | contradiction))) | (apply st_rw rfl rfl; case hq => first | exact a_store) | refine tri_true rfl ?_ | refine tri_false rfl ?_ | refine tri_block ?_ | refine tri_skip ?_ | refine tri_ret ?_ | refine tri_exit ?_)
        all_goals first
          | (exfalso; have := hc1 ‹_›; omega)
          | exact nextR ⟨k + 1, s, line, word ++ [v.getD k 0], first⟩ ⟨by simp only; omega, fun _ => by simp only; rw [hpn, ← h2, hx], fun h => absurd h (by simp only; omega), by simp only [List.length_append, List.length_cons, List.length_nil]; omega⟩ (weak_st ⟨rfl, rfl, rfl, rfl, rfl, rfl, congrArg AV.str (congrArg _ hone), rfl, rfl, rfl, rfl, rfl, trivial⟩ ⟨rfl, rfl, trivial⟩) (show v.length + 1 - (k + 1) < v.length + 1 - k by omega)
    · obtain ⟨s, line⟩ := x
      simp only at hx
      have hsl : s.length + line.length + 2 = out.length + (writeF (fn, v)).length := by
        have := congrArg List.length hx
        simp only [List.length_append, List.length_cons, List.length_nil] at this
        omega
      repeat' (first | refine a_f ?_ | refine st_nil ?_ | refine tri_seq ?_ | refine tri_region rfl ?_ | refine a_draw ?_ | (apply st_r rfl; case hq => first | exact a_q) | (apply st_rif rfl; (case hq => first | exact a_i); all_goals (intro _; try (exfalso; first | omega | contradiction))) | (apply st_rw rfl rfl; case hq => first | exact a_store) | refine tri_true rfl ?_ | refine tri_false rfl ?_ | refine tri_block ?_ | refine tri_skip ?_ | refine tri_ret ?_ | refine tri_exit ?_)
      exact nextR (i + 1, out ++ writeF (fn, v)) ⟨by show i + 1 ≤ _; omega, hf, by show (out ++ writeF (fn, v)).length ≤ (i + 1) * 5000000; exact hKe _ (by rw [List.length_append]; omega)⟩ (weak_st ⟨rfl, rfl, rfl, congrArg AV.str hx, rfl, rfl, rfl, trivial⟩ ⟨rfl, trivial⟩) (show l.length - (i + 1) < l.length - i by omega)
  · have B1 := bare_c 0
    repeat' (first | refine a_f ?_ | refine st_nil ?_ | refine tri_seq ?_ | refine tri_region rfl ?_ | refine a_draw ?_ | (apply st_r rfl; case hq => first | exact q_call B1 (hcf := Tryz.call35) rfl rfl | exact a_q) | (apply st_rif rfl; (case hq => first | exact a_i); all_goals (intro _; try (exfalso; first | omega | contradiction))) | (apply st_rw rfl rfl; case hq => first | exact a_store) | refine tri_true rfl ?_ | refine tri_false rfl ?_ | refine tri_block ?_ | refine tri_skip ?_ | refine tri_ret ?_ | refine tri_exit ?_)
    refine And.intro (And.intro ⟨101, _, rfl, rfl, by kernel_rfl⟩ trivial) ?_
    conv => lhs; whnf
    rw [show l.drop i = [] from List.drop_eq_nil_of_le (by omega)] at hf
    rw [← hf]
    rfl
end Go.Proofs.YtignjjnflcpiiaaGreatDoor
