import Derived.Test.YtignjjnflcpiiaaGreatDoorWG26
import Derived.Test.YtignjjnflcpiiaaGreatDoorWVm4
set_option linter.unusedVariables false
set_option linter.unusedSimpArgs false
set_option maxHeartbeats 1000000
namespace Go.Proofs.YtignjjnflcpiiaaGreatDoor
open Go.RowKit
attribute [local irreducible] Tri Steps Qd Wr Weak CPure CEff CNew CutN Tree TreeW TreeQ AllB Behind
set_option maxRecDepth 100000
def cellF (l : List (UInt8 × List UInt8)) (c : UInt8) : AV := match look l c with
  | some n => .ro false 1 (byteRows n)
  | none => .nils
def tabF (l : List (UInt8 × List UInt8)) : List AV := (List.range 256).map fun i => cellF l (UInt8.ofNat i)
def bsr (l : List (UInt8 × List UInt8)) : List AV := tabF l ++ [.ro false 1 (repRows (repl l))]
theorem tabF_length (l) : (tabF l).length = 256 := by simp [tabF]
theorem bsr_length (l) : (bsr l).length = 257 := by simp [bsr, tabF_length]
theorem bsr_get (l : List (UInt8 × List UInt8)) (c : UInt8) : (((bsr l).drop 0).drop (c.toNat : Int).toNat)[0]? = some (cellF l c) := by
  have hc : c.toNat < 256 := c.toNat_lt
  rw [List.drop_zero, Int.toNat_natCast, List.getElem?_drop, Nat.add_zero, bsr, List.getElem?_append_left (by rw [tabF_length]; exact hc), tabF, List.getElem?_map, List.getElem?_range hc]
  simp
theorem bsr_last (l : List (UInt8 × List UInt8)) : ((bsr l).drop 256)[0]? = some (.ro false 1 (repRows (repl l))) := by
  rw [List.getElem?_drop, Nat.add_zero, bsr, List.getElem?_append_right (by rw [tabF_length]; exact Nat.le_refl _), tabF_length]
  rfl
theorem byteRows_length (n : List UInt8) : (byteRows n).length = n.length := by simp [byteRows]
theorem repRows_length (n : List UInt8) : (repRows n).length = n.length := by simp [repRows]
theorem repl_le (l : List (UInt8 × List UInt8)) : (repl l).length ≤ l.length := repl_length l
theorem gain_le {l : List (UInt8 × List UInt8)} (hn : ∀ p ∈ l, p.2.length ≤ 1000) (c : UInt8) : gain l c ≤ 1000 := by
  unfold gain
  cases hl : look l c with
  | none => simp
  | some n =>
    obtain ⟨p, hp, rfl⟩ := look_mem hl
    have := hn p hp
    simp only [Option.getD_some]; omega
theorem counts_le {l : List (UInt8 × List UInt8)} (hn : ∀ p ∈ l, p.2.length ≤ 1000) {s : List UInt8} (hs : s.length ≤ 1000000) : ∀ xs : List UInt8, counts l xs s ≤ xs.length * 1000000000
  | [] => Nat.zero_le _
  | x :: xs => by
    have ih := counts_le hn hs xs
    have h1 : s.count x ≤ s.length := List.count_le_length
    have h2 : s.count x * gain l x ≤ 1000000 * 1000 := Nat.mul_le_mul (by omega) (gain_le hn x)
    simp only [counts, List.map_cons, List.sum_cons, List.length_cons] at ih ⊢
    omega
def bufR (out : List UInt8) (N : Nat) : List (List AV) := byteRows out ++ List.replicate (N - out.length) [AV.int .u8 0]
theorem bufR_length {out : List UInt8} {N : Nat} (h : out.length ≤ N) : (bufR out N).length = N := by
  rw [bufR, List.length_append, byteRows_length, List.length_replicate]; omega
theorem bufR_copy {out n : List UInt8} {N : Nat} (h : out.length + n.length ≤ N) : (bufR out N).take out.length ++ byteRows n ++ (bufR out N).drop (out.length + (byteRows n).length) = bufR (out ++ n) N := by
  rw [bufR, byteRows_length, List.take_append_of_le_length (by rw [byteRows_length]; exact Nat.le_refl _), List.take_of_length_le (by rw [byteRows_length]; exact Nat.le_refl _), List.drop_append, byteRows_length, List.drop_eq_nil_of_le (by rw [byteRows_length]; omega), List.nil_append, List.drop_replicate, bufR, List.length_append]
  rw [show N - out.length - (out.length + n.length - out.length) = N - (out.length + n.length) by omega]
  simp [byteRows]
theorem bufR_set {out : List UInt8} {c : UInt8} {N : Nat} (h : out.length < N) : (bufR out N).set out.length [AV.int .u8 c.toNat] = bufR (out ++ [c]) N := by
  have e : N - out.length = (N - out.length - 1) + 1 := by omega
  rw [bufR, e, List.replicate_succ, List.set_append_right _ _ (by rw [byteRows_length]; exact Nat.le_refl _), byteRows_length, Nat.sub_self, List.set_cons_zero, bufR, List.length_append, List.length_singleton]
  rw [show N - out.length - 1 = N - (out.length + 1) by omega]
  simp [byteRows]
theorem bufR_get {out : List UInt8} {N : Nat} (h : out.length < N) : (bufR out N)[out.length]? = some [AV.int .u8 0] := by
  rw [bufR, List.getElem?_append_right (by rw [byteRows_length]; exact Nat.le_refl _), byteRows_length, Nat.sub_self, show N - out.length = (N - out.length - 1) + 1 by omega, List.replicate_succ]
  rfl
theorem subst_append (l : List (UInt8 × List UInt8)) (a b : List UInt8) : subst l (a ++ b) = subst l a ++ subst l b := by simp only [subst, List.flatMap_append]
theorem zU8 : zeroL Tryz.prog 5 = some [.int .u8 0] := by kernel_rfl
theorem noFrL_all {q : List AV} : (∀ v ∈ q, v.noFr = true) → AV.noFrL q = true := by
  induction q with
  | nil => intro _; rfl
  | cons v r ih => intro h; rw [AV.noFrL, h v List.mem_cons_self, ih (fun u hu => h u (List.mem_cons_of_mem _ hu))]
theorem bsr_noFr (l : List (UInt8 × List UInt8)) : AV.noFrL (bsr l) = true := noFrL_all fun v hv => by
  rcases List.mem_append.1 hv with h | h
  · obtain ⟨i, _, rfl⟩ := List.mem_map.1 h
    unfold cellF
    cases look l (UInt8.ofNat i) <;> rfl
  · rw [List.mem_singleton.1 h]; rfl
def wrCp (o : Oper) : Bool := match o.op with
  | .call c => match c.callee with
    | .builtin .copy => true
    | _ => false
  | _ => false
set_option maxHeartbeats 4000000 in
theorem brep_c (l : List (UInt8 × List UInt8)) (hl : l.length ≤ 1000) (hnew : ∀ p ∈ l, 2 ≤ p.2.length ∧ p.2.length ≤ 1000) (s : List UInt8) (hs : s.length ≤ 1000000) :
    CPure gx 283 [.rptr false (bsr l), .str s] (.str (subst l s)) := by
  refine cpure_of Tryz.func283 rfl (Nat.le_of_ble_eq_true rfl) (by simp only [AV.noFrL, AV.noFr, bsr_noFr]) (fun w hw => ?_)
  have hbl := bsr_length l
  have hlast := bsr_last l
  have hrl := repRows_length (repl l)
  have hr := repl_le l
  refine tri_cutN (fun (_ : Unit) => True) (fun _ => st [(0, .rptr false (bsr l)), (1, .str s), (4, .str []), (5, .int .i64 ((s.length + gains l s : Nat) : Int)), (6, .bool (s.any (hit l)))] []) 4 ?_ (fun _ _ => ?_)
  · repeat' (first | refine a_f ?_ | refine st_nil ?_ | refine tri_seq ?_ | refine tri_region rfl ?_ | refine cut_s ?_ | refine a_draw ?_ | (apply st_r rfl; case hq => first | exact q_fieldr (off := 256) (by conv => lhs; whnf) (by show fieldB Tryz.prog _ _ _ = true; decide +kernel) (by rw [hbl]; omega) | exact q_fieldr (off := 0) (by conv => lhs; whnf) (by show fieldB Tryz.prog _ _ _ = true; decide +kernel) (by rw [hbl]; omega) | exact q_loadr (by conv => lhs; whnf) hlast (by show scalB Tryz.prog _ = true; decide +kernel) (fun _ => rfl) | exact q_lenro (by conv => lhs; whnf) (by first | exact Tryz.underlying22 | exact Tryz.underlying23 | exact Tryz.underlying43 | exact Tryz.underlying44 | exact Tryz.underlying51 | exact Tryz.underlying86 | exact Tryz.underlying191 | exact Tryz.underlying209 | exact Tryz.underlying234 | exact Tryz.underlying270 | exact Tryz.underlying281 | exact Tryz.underlying344) | exact q_mul (by conv => lhs; whnf) (by conv => lhs; whnf) (by exact IntWalk.i64_in _ (by omega)) | exact a_q) | (apply st_rif rfl; (case hq => first | exact a_i); all_goals (intro _; try (exfalso; first | omega | contradiction))) | (apply st_rw rfl rfl; case hq => first | exact a_store) | refine tri_true rfl ?_ | refine tri_false rfl ?_ | refine tri_block ?_ | refine tri_skip ?_ | refine tri_ret ?_ | refine tri_exit ?_)
    · refine tri_loop (fun (x : Nat × Bool) => x.1 ≤ (repl l).length ∧ x.2 = ((repl l).take x.1).any (fun c => decide (s.count c ≠ 0))) (fun x => st [(0, .rptr false (bsr l)), (1, .str s), (4, .str []), (5, .int .i64 ((s.length + counts l ((repl l).take x.1) s : Nat) : Int)), (6, .bool x.2), (30, .ro false 1 (repRows (repl l))), (31, .int .i64 (repRows (repl l)).length), (32, .int .i64 x.1)] []) (fun x => (repl l).length - x.1) (0, false) ⟨Nat.zero_le _, rfl⟩ ?hwA (fun x hx => ?_)
      case hwA => exact weak_st ⟨rfl, rfl, rfl, congrArg (AV.int .i64) (by simp [counts]), rfl, rfl, rfl, rfl, trivial⟩ trivial
      obtain ⟨j, b⟩ := x
      obtain ⟨hj, hb⟩ := hx
      simp only at hj hb
      by_cases hjl : j < (repl l).length
      · have g0 : (repRows (repl l))[(j : Int).toNat]? = some [.str [(repl l)[j]]] := by
          rw [Int.toNat_natCast, repRows, List.getElem?_map, List.getElem?_eq_getElem hjl]; rfl
        have hm := (repl_mem l (repl l)[j]).1 (List.getElem_mem hjl)
        have hct := counts_take (l := l) (s := s) hjl
        have hat : ((repl l).take (j + 1)).any (fun c => decide (s.count c ≠ 0)) = (b || decide (s.count (repl l)[j] ≠ 0)) := by
          rw [take_next hjl, List.any_append, ← hb]; simp
        generalize (repl l)[j] = c at g0 hm hct hat
        have C1 := count_c s c
        have hcs : s.count c ≤ s.length := List.count_le_length
        have hce : Lib.countByte s c = s.count c := rfl
        rw [hce] at C1
        unfold hit at hm
        obtain ⟨n, hn⟩ := Option.isSome_iff_exists.1 hm
        have hgn : gain l c = n.length - 1 := by unfold gain; rw [hn]; rfl
        obtain ⟨p, hp, hpn⟩ := look_mem hn
        have hn2 := hnew p hp
        rw [hpn] at hn2
        have hbn := byteRows_length n
        have t0 := bsr_get l c
        rw [show cellF l c = .ro false 1 (byteRows n) by simp only [cellF, hn]] at t0
        have hmul : (s.count c : Int) * ((n.length : Int) - 1) = ((s.count c * gain l c : Nat) : Int) := by
          rw [hgn, Int.natCast_mul, Int.natCast_sub (by omega)]; rfl
        have hmle : s.count c * gain l c ≤ 1000000 * 1000 := Nat.mul_le_mul (by omega) (by omega)
        have hcl : counts l ((repl l).take j) s ≤ 1000000000000 := Nat.le_trans (counts_le (fun p hp => (hnew p hp).2) hs _) (by rw [List.length_take]; omega)
        have hcl2 : counts l ((repl l).take ((j, b) : Nat × Bool).1) s ≤ 1000000000000 := hcl
        have hc : c.toNat < 256 := c.toNat_lt
        generalize hM : s.count c * gain l c = M at hct hmul hmle
        have hmul2 : (s.count c : Int) * (((byteRows n).length : Int) - 1) = (M : Int) := by rw [hbn]; exact hmul
        have hw1 : IntKind.i64.wrap ((s.count c : Int) * (((byteRows n).length : Int) - 1)) = (s.count c : Int) * (((byteRows n).length : Int) - 1) := by
          rw [hbn, hmul]; exact IntWalk.i64_in _ (by omega)
        by_cases hz : s.count c = 0
        · rw [hz] at C1 hat
          have hM0 : M = 0 := by rw [← hM, hz, Nat.zero_mul]
          repeat' (first | refine a_f ?_ | refine st_nil ?_ | refine tri_seq ?_ | refine tri_region rfl ?_ | refine a_draw ?_ | (apply st_r rfl; case hq => first | exact q_idxro (by conv => lhs; whnf) (by conv => lhs; whnf) (by first | exact Tryz.underlying22 | exact Tryz.underlying23 | exact Tryz.underlying43 | exact Tryz.underlying44 | exact Tryz.underlying51 | exact Tryz.underlying86 | exact Tryz.underlying191 | exact Tryz.underlying209 | exact Tryz.underlying234 | exact Tryz.underlying270 | exact Tryz.underlying281 | exact Tryz.underlying344) (by kernel_rfl) (by omega) g0 | exact q_loadr (by conv => lhs; whnf) (by conv => lhs; whnf) (by show scalB Tryz.prog _ = true; decide +kernel) (fun _ => rfl) | exact q_call C1 (hcf := Tryz.call187) rfl rfl | exact a_q) | (apply st_rif rfl; (case hq => first | exact a_i); all_goals (intro _; try (exfalso; first | omega | contradiction))) | (apply st_rw rfl rfl; case hq => first | exact a_store) | refine tri_true rfl ?_ | refine tri_false rfl ?_ | refine tri_block ?_ | refine tri_skip ?_ | refine tri_ret ?_ | refine tri_exit ?_)
          exact loop_next (j + 1, b) ⟨by simp only; omega, by simp only; rw [hat]; simp⟩ (weak_st ⟨rfl, rfl, rfl, congrArg (AV.int .i64) (by simp only; rw [hct]; omega), rfl, rfl, rfl, congrArg (AV.int .i64) (by simp only; omega), trivial⟩ trivial) (show (repl l).length - (j + 1) < (repl l).length - j by omega)
        · rw [decide_eq_true hz, Bool.or_true] at hat
          repeat' (first | refine a_f ?_ | refine st_nil ?_ | refine tri_seq ?_ | refine tri_region rfl ?_ | refine a_draw ?_ | (apply st_r rfl; case hq => first | exact q_idxro (by conv => lhs; whnf) (by conv => lhs; whnf) (by first | exact Tryz.underlying22 | exact Tryz.underlying23 | exact Tryz.underlying43 | exact Tryz.underlying44 | exact Tryz.underlying51 | exact Tryz.underlying86 | exact Tryz.underlying191 | exact Tryz.underlying209 | exact Tryz.underlying234 | exact Tryz.underlying270 | exact Tryz.underlying281 | exact Tryz.underlying344) (by kernel_rfl) (by omega) g0 | exact q_fieldr (off := 0) (by conv => lhs; whnf) (by show fieldB Tryz.prog _ _ _ = true; decide +kernel) (by rw [hbl]; omega) | exact q_idxarrr (by conv => lhs; whnf) (by conv => lhs; whnf) Tryz.underlying250 (by kernel_rfl) (by omega) (by omega) (by rw [List.length_drop, hbl]; omega) | exact q_loadr (by conv => lhs; whnf) (by conv => lhs; whnf) (by show scalB Tryz.prog _ = true; decide +kernel) (fun _ => rfl) | exact q_loadr (by conv => lhs; whnf) t0 (by show scalB Tryz.prog _ = true; decide +kernel) (fun _ => rfl) | exact q_call C1 (hcf := Tryz.call187) rfl rfl | exact q_index (c := c) (by conv => lhs; whnf) (by conv => lhs; whnf) (by kernel_rfl) (by decide) rfl | exact q_lenro (by conv => lhs; whnf) (by first | exact Tryz.underlying22 | exact Tryz.underlying23 | exact Tryz.underlying43 | exact Tryz.underlying44 | exact Tryz.underlying51 | exact Tryz.underlying86 | exact Tryz.underlying191 | exact Tryz.underlying209 | exact Tryz.underlying234 | exact Tryz.underlying270 | exact Tryz.underlying281 | exact Tryz.underlying344) | exact q_mul (by conv => lhs; whnf) (by conv => lhs; whnf) hw1 | exact a_q) | (apply st_rif rfl; (case hq => first | exact a_i); all_goals (intro _; try (exfalso; first | omega | contradiction))) | (apply st_rw rfl rfl; case hq => first | exact a_store) | refine tri_true rfl ?_ | refine tri_false rfl ?_ | refine tri_block ?_ | refine tri_skip ?_ | refine tri_ret ?_ | refine tri_exit ?_)
          exact loop_next (j + 1, true) ⟨by simp only; omega, by simp only; rw [hat]⟩ (weak_st ⟨rfl, rfl, rfl, congrArg (AV.int .i64) (by simp only; rw [hct, hbn]; omega), rfl, rfl, rfl, congrArg (AV.int .i64) (by simp only; omega), trivial⟩ trivial) (show (repl l).length - (j + 1) < (repl l).length - j by omega)
      · have hj' : j = (repl l).length := by omega
        have hc1 : counts l ((repl l).take j) s = gains l s := by rw [hj', List.take_of_length_le (Nat.le_refl _)]; exact counts_all l s
        have hb1 : b = s.any (hit l) := by rw [hb, hj', List.take_of_length_le (Nat.le_refl _)]; exact hits_all l s
        subst hb1
        repeat' (first | refine a_f ?_ | refine st_nil ?_ | refine tri_seq ?_ | refine tri_region rfl ?_ | refine a_draw ?_ | (apply st_r rfl; case hq => first | exact a_q) | (apply st_rif rfl; (case hq => first | exact a_i); all_goals (intro _; try (exfalso; first | omega | contradiction))) | (apply st_rw rfl rfl; case hq => first | exact a_store) | refine tri_true rfl ?_ | refine tri_false rfl ?_ | refine tri_block ?_ | refine tri_skip ?_ | refine tri_ret ?_ | refine tri_exit ?_)
        exact cut_z () trivial (weak_st ⟨rfl, rfl, rfl, congrArg (AV.int .i64) (by simp only; rw [hc1]), rfl, trivial⟩ trivial)
    · refine tri_loop (fun (x : Nat × Bool) => x.1 ≤ s.length ∧ x.2 = (s.take x.1).any (hit l)) (fun x => st [(0, .rptr false (bsr l)), (1, .str s), (4, .str []), (5, .int .i64 ((s.length + gains l (s.take x.1) : Nat) : Int)), (6, .bool x.2), (10, .int .i64 x.1)] []) (fun x => s.length - x.1) (0, false) ⟨Nat.zero_le _, rfl⟩ ?hwB (fun x hx => ?_)
      case hwB => exact weak_st ⟨rfl, rfl, rfl, congrArg (AV.int .i64) (by simp [gains]), rfl, rfl, trivial⟩ trivial
      obtain ⟨j, b⟩ := x
      obtain ⟨hj, hb⟩ := hx
      simp only at hj hb
      by_cases hjl : j < s.length
      · have g0 : s[(j : Int).toNat]? = some s[j] := by rw [Int.toNat_natCast]; exact List.getElem?_eq_getElem hjl
        have hct := gains_take (l := l) hjl
        have hat : (s.take (j + 1)).any (hit l) = (b || hit l s[j]) := by
          rw [take_next hjl, List.any_append, ← hb]; simp
        have hgl := gains_le (fun p hp => (hnew p hp).2) (s.take j)
        rw [List.length_take] at hgl
        have hmin : min j s.length ≤ 1000000 := by omega
        have hgl2 : gains l (s.take ((j, b) : Nat × Bool).1) ≤ 1000000000 := Nat.le_trans hgl (by omega)
        generalize s[j] = c at g0 hct hat
        have hc : c.toNat < 256 := c.toNat_lt
        have t0 := bsr_get l c
        cases hlk : look l c with
        | none =>
          have hg : gain l c = 0 := by unfold gain; rw [hlk]; rfl
          have hh : hit l c = false := by unfold hit; rw [hlk]; rfl
          rw [hh, Bool.or_false] at hat
          rw [show cellF l c = .nils by simp only [cellF, hlk]] at t0
          repeat' (first | refine a_f ?_ | refine st_nil ?_ | refine tri_seq ?_ | refine tri_region rfl ?_ | refine a_draw ?_ | (apply st_r rfl; case hq => first | exact q_index (by conv => lhs; whnf) (by conv => lhs; whnf) (by kernel_rfl) (by omega) g0 | exact q_fieldr (off := 0) (by conv => lhs; whnf) (by show fieldB Tryz.prog _ _ _ = true; decide +kernel) (by rw [hbl]; omega) | exact q_idxarrr (by conv => lhs; whnf) (by conv => lhs; whnf) Tryz.underlying250 (by kernel_rfl) (by omega) (by omega) (by rw [List.length_drop, hbl]; omega) | exact q_loadr (by conv => lhs; whnf) t0 (by show scalB Tryz.prog _ = true; decide +kernel) (fun _ => rfl) | exact q_nesn (by conv => lhs; whnf) (by first | exact Tryz.underlying22 | exact Tryz.underlying23 | exact Tryz.underlying43 | exact Tryz.underlying44 | exact Tryz.underlying51 | exact Tryz.underlying86 | exact Tryz.underlying191 | exact Tryz.underlying209 | exact Tryz.underlying234 | exact Tryz.underlying270 | exact Tryz.underlying281 | exact Tryz.underlying344) | exact a_q) | (apply st_rif rfl; (case hq => first | exact a_i); all_goals (intro _; try (exfalso; first | omega | contradiction))) | (apply st_rw rfl rfl; case hq => first | exact a_store) | refine tri_true rfl ?_ | refine tri_false rfl ?_ | refine tri_block ?_ | refine tri_skip ?_ | refine tri_ret ?_ | refine tri_exit ?_)
          exact loop_next (j + 1, b) ⟨by simp only; omega, by simp only; rw [hat]⟩ (weak_st ⟨rfl, rfl, rfl, congrArg (AV.int .i64) (by simp only; rw [hct]; omega), rfl, congrArg (AV.int .i64) (by simp only; omega), trivial⟩ trivial) (show s.length - (j + 1) < s.length - j by omega)
        | some n =>
          have hg : gain l c = n.length - 1 := by unfold gain; rw [hlk]; rfl
          have hh : hit l c = true := by unfold hit; rw [hlk]; rfl
          rw [hh, Bool.or_true] at hat
          obtain ⟨p, hp, hpn⟩ := look_mem hlk
          have hn2 := hnew p hp
          rw [hpn] at hn2
          have hbn := byteRows_length n
          rw [show cellF l c = .ro false 1 (byteRows n) by simp only [cellF, hlk]] at t0
          repeat' (first | refine a_f ?_ | refine st_nil ?_ | refine tri_seq ?_ | refine tri_region rfl ?_ | refine a_draw ?_ | (apply st_r rfl; case hq => first | exact q_index (by conv => lhs; whnf) (by conv => lhs; whnf) (by kernel_rfl) (by omega) g0 | exact q_fieldr (off := 0) (by conv => lhs; whnf) (by show fieldB Tryz.prog _ _ _ = true; decide +kernel) (by rw [hbl]; omega) | exact q_idxarrr (by conv => lhs; whnf) (by conv => lhs; whnf) Tryz.underlying250 (by kernel_rfl) (by omega) (by omega) (by rw [List.length_drop, hbl]; omega) | exact q_loadr (by conv => lhs; whnf) t0 (by show scalB Tryz.prog _ = true; decide +kernel) (fun _ => rfl) | exact q_nesr (by conv => lhs; whnf) (by first | exact Tryz.underlying22 | exact Tryz.underlying23 | exact Tryz.underlying43 | exact Tryz.underlying44 | exact Tryz.underlying51 | exact Tryz.underlying86 | exact Tryz.underlying191 | exact Tryz.underlying209 | exact Tryz.underlying234 | exact Tryz.underlying270 | exact Tryz.underlying281 | exact Tryz.underlying344) (by omega) | exact q_lenro (by conv => lhs; whnf) (by first | exact Tryz.underlying22 | exact Tryz.underlying23 | exact Tryz.underlying43 | exact Tryz.underlying44 | exact Tryz.underlying51 | exact Tryz.underlying86 | exact Tryz.underlying191 | exact Tryz.underlying209 | exact Tryz.underlying234 | exact Tryz.underlying270 | exact Tryz.underlying281 | exact Tryz.underlying344) | exact a_q) | (apply st_rif rfl; (case hq => first | exact a_i); all_goals (intro _; try (exfalso; first | omega | contradiction))) | (apply st_rw rfl rfl; case hq => first | exact a_store) | refine tri_true rfl ?_ | refine tri_false rfl ?_ | refine tri_block ?_ | refine tri_skip ?_ | refine tri_ret ?_ | refine tri_exit ?_)
          exact loop_next (j + 1, true) ⟨by simp only; omega, by simp only; rw [hat]⟩ (weak_st ⟨rfl, rfl, rfl, congrArg (AV.int .i64) (by simp only; rw [hct, hbn]; omega), rfl, congrArg (AV.int .i64) (by simp only; omega), trivial⟩ trivial) (show s.length - (j + 1) < s.length - j by omega)
      · have hj' : j = s.length := by omega
        have hc1 : gains l (s.take j) = gains l s := by rw [hj', List.take_of_length_le (Nat.le_refl _)]
        have hb1 : b = s.any (hit l) := by rw [hb, hj', List.take_of_length_le (Nat.le_refl _)]
        subst hb1
        repeat' (first | refine a_f ?_ | refine st_nil ?_ | refine tri_seq ?_ | refine tri_region rfl ?_ | refine a_draw ?_ | (apply st_r rfl; case hq => first | exact a_q) | (apply st_rif rfl; (case hq => first | exact a_i); all_goals (intro _; try (exfalso; first | omega | contradiction))) | (apply st_rw rfl rfl; case hq => first | exact a_store) | refine tri_true rfl ?_ | refine tri_false rfl ?_ | refine tri_block ?_ | refine tri_skip ?_ | refine tri_ret ?_ | refine tri_exit ?_)
        exact cut_z () trivial (weak_st ⟨rfl, rfl, rfl, congrArg (AV.int .i64) (by simp only; rw [hc1]), rfl, trivial⟩ trivial)
  · have hsl := subst_length (fun p hp => (hnew p hp).1) s (l := l)
    have hgl := gains_le (fun p hp => (hnew p hp).2) s
    cases hh : s.any (hit l) with
    | false =>
      have hm := subst_miss hh
      repeat' (first | refine a_f ?_ | refine st_nil ?_ | refine tri_seq ?_ | refine tri_region rfl ?_ | refine a_draw ?_ | (apply st_r rfl; case hq => first | exact a_q) | (apply st_rif rfl; (case hq => first | exact a_i); all_goals (intro _; try (exfalso; first | omega | contradiction))) | (apply st_rw rfl rfl; case hq => first | exact a_store) | refine tri_true rfl ?_ | refine tri_false rfl ?_ | refine tri_block ?_ | refine tri_skip ?_ | refine tri_ret ?_ | refine tri_exit ?_)
      refine And.intro trivial ?_
      conv => lhs; whnf
      rw [hm]
    | true =>
      repeat' (first | refine a_f ?_ | refine st_nil ?_ | refine tri_seq ?_ | refine tri_region rfl ?_ | refine a_draw ?_ | (apply st_r rfl; case hq => first | exact a_q) | (apply st_rif rfl; (case hq => first | exact a_i); all_goals (intro _; try (exfalso; first | omega | contradiction))) | (apply st_rw rfl rfl; case hq => first | exact w_mk (n := s.length + gains l s) (c := s.length + gains l s) 100 (by conv => lhs; whnf) (by conv => lhs; whnf) (by rfl) (by rfl) (by first | exact Tryz.underlying22 | exact Tryz.underlying23 | exact Tryz.underlying43 | exact Tryz.underlying44 | exact Tryz.underlying51 | exact Tryz.underlying86 | exact Tryz.underlying191 | exact Tryz.underlying209 | exact Tryz.underlying234 | exact Tryz.underlying270 | exact Tryz.underlying281 | exact Tryz.underlying344) (by kernel_rfl) zU8 rfl (Nat.le_refl _) (by omega) rfl rfl | exact a_store) | refine tri_true rfl ?_ | refine tri_false rfl ?_ | refine tri_block ?_ | refine tri_skip ?_ | refine tri_ret ?_ | refine tri_exit ?_)
      refine tri_loop (fun (i : Nat) => i ≤ s.length) (fun i => st [(0, .rptr false (bsr l)), (1, .str s), (4, .str []), (12, .sl 100), (13, .int .i64 ((subst l (s.take i)).length : Nat)), (14, .int .i64 i)] [(100, .rows 5 1 (bufR (subst l (s.take i)) (s.length + gains l s)))]) (fun i => s.length - i) 0 (Nat.zero_le _) ?hwC (fun i hi => ?_)
      case hwC => exact weak_st ⟨rfl, rfl, rfl, rfl, rfl, rfl, trivial⟩ ⟨rfl, trivial⟩
      by_cases hil : i < s.length
      · have g0 : s[(i : Int).toNat]? = some s[i] := by rw [Int.toNat_natCast]; exact List.getElem?_eq_getElem hil
        have hnx := subst_take (l := l) hil
        have htot : (subst l (s.take (i + 1))).length ≤ s.length + gains l s := by
          rw [← hsl]
          have : subst l s = subst l (s.take (i + 1)) ++ subst l (s.drop (i + 1)) := by
            rw [← subst_append, List.take_append_drop]
          rw [this, List.length_append]; omega
        generalize hN : s.length + gains l s = N at htot ⊢
        rw [hnx, List.length_append] at htot
        generalize s[i] = c at g0 hnx htot
        have hc : c.toNat < 256 := c.toNat_lt
        have t0 := bsr_get l c
        have hNl : N ≤ 10000000000 := by omega
        cases hlk : look l c with
        | none =>
          rw [hlk] at hnx htot
          simp only [Option.getD_none, List.length_singleton] at hnx htot
          rw [show cellF l c = .nils by simp only [cellF, hlk]] at t0
          have hbg := bufR_get (out := subst l (s.take i)) (N := N) (by omega)
          have hbg : (bufR (subst l (s.take i)) N)[(((subst l (s.take i)).length : Nat) : Int).toNat]? = some [AV.int .u8 0] := by rw [Int.toNat_natCast]; exact hbg
          have hbs := bufR_set (out := subst l (s.take i)) (c := c) (N := N) (by omega)
          have hbf := bufR_length (out := subst l (s.take i)) (N := N) (by omega)
          repeat' (first | refine a_f ?_ | refine st_nil ?_ | refine tri_seq ?_ | refine tri_region rfl ?_ | refine a_draw ?_ | (apply st_r rfl; case hq => first | exact q_index (by conv => lhs; whnf) (by conv => lhs; whnf) (by kernel_rfl) (by omega) g0 | exact q_fieldr (off := 0) (by conv => lhs; whnf) (by show fieldB Tryz.prog _ _ _ = true; decide +kernel) (by rw [hbl]; omega) | exact q_idxarrr (by conv => lhs; whnf) (by conv => lhs; whnf) Tryz.underlying250 (by kernel_rfl) (by omega) (by omega) (by rw [List.length_drop, hbl]; omega) | exact q_loadr (by conv => lhs; whnf) t0 (by show scalB Tryz.prog _ = true; decide +kernel) (fun _ => rfl) | exact q_nesn (by conv => lhs; whnf) (by first | exact Tryz.underlying22 | exact Tryz.underlying23 | exact Tryz.underlying43 | exact Tryz.underlying44 | exact Tryz.underlying51 | exact Tryz.underlying86 | exact Tryz.underlying191 | exact Tryz.underlying209 | exact Tryz.underlying234 | exact Tryz.underlying270 | exact Tryz.underlying281 | exact Tryz.underlying344) | exact a_q) | (apply st_rif rfl; (case hq => first | exact a_i); all_goals (intro _; try (exfalso; first | omega | contradiction))) | (apply st_rw rfl rfl; case hq => first | exact w_storee (by conv => lhs; whnf) (by conv => lhs; whnf; arg 1; whnf) hbg (by conv => lhs; whnf) rfl (by kernel_rfl) rfl (by first | rfl | exact Nat.le_of_ble_eq_true rfl | exact Nat.succ_pos _ | decide) (by first | rfl | exact Nat.le_of_ble_eq_true rfl | exact Nat.succ_pos _ | decide) (by conv => lhs; whnf) | exact a_store) | refine tri_true rfl ?_ | refine tri_false rfl ?_ | refine tri_block ?_ | refine tri_skip ?_ | refine tri_ret ?_ | refine tri_exit ?_)
          exact loop_next (i + 1) (by omega) (weak_st ⟨rfl, rfl, rfl, rfl, congrArg (AV.int .i64) (by rw [hnx, List.length_append]; rfl), rfl, trivial⟩ ⟨by rw [hnx]; exact congrArg (fun r => some (AObj.rows 5 1 r)) hbs, trivial⟩) (show s.length - (i + 1) < s.length - i by omega)
        | some n =>
          obtain ⟨p, hp, hpn⟩ := look_mem hlk
          have hn2 := hnew p hp
          rw [hpn] at hn2
          rw [hlk] at hnx htot
          simp only [Option.getD_some] at hnx htot
          have hbn := byteRows_length n
          rw [show cellF l c = .ro false 1 (byteRows n) by simp only [cellF, hlk]] at t0
          have hbc := bufR_copy (out := subst l (s.take i)) (n := n) (N := N) htot
          have hbf := bufR_length (out := subst l (s.take i)) (N := N) (by omega)
          have hfl : ((byteRows n).all fun r => r.all AV.flat) = true := by
            rw [List.all_eq_true]
            intro r hr
            obtain ⟨x, _, rfl⟩ := List.mem_map.1 hr
            rfl
          repeat' (first | refine a_f ?_ | refine st_nil ?_ | refine tri_seq ?_ | refine tri_region rfl ?_ | refine tri_drawW wrCp 10 [0, 1, 2, 3, 4, 5, 6, 7, 8, 9] [0] [11, 12] [0, 1, 2, 3, 4, 5, 6, 7, 8, 9, 10, 11, 12] rfl (by kernel_rfl) (by kernel_rfl) rfl ?_ | refine allB_c ?_ ?_ | exact allB_n | refine behind_s ?_ | refine a_draw ?_ | (apply st_r rfl; case hq => first | exact q_index (by conv => lhs; whnf) (by conv => lhs; whnf) (by kernel_rfl) (by omega) g0 | exact q_fieldr (off := 0) (by conv => lhs; whnf) (by show fieldB Tryz.prog _ _ _ = true; decide +kernel) (by rw [hbl]; omega) | exact q_idxarrr (by conv => lhs; whnf) (by conv => lhs; whnf) Tryz.underlying250 (by kernel_rfl) (by omega) (by omega) (by rw [List.length_drop, hbl]; omega) | exact q_loadr (by conv => lhs; whnf) t0 (by show scalB Tryz.prog _ = true; decide +kernel) (fun _ => rfl) | exact q_nesr (by conv => lhs; whnf) (by first | exact Tryz.underlying22 | exact Tryz.underlying23 | exact Tryz.underlying43 | exact Tryz.underlying44 | exact Tryz.underlying51 | exact Tryz.underlying86 | exact Tryz.underlying191 | exact Tryz.underlying209 | exact Tryz.underlying234 | exact Tryz.underlying270 | exact Tryz.underlying281 | exact Tryz.underlying344) (by omega) | exact q_slsl_lo (by conv => lhs; whnf) (by conv => lhs; whnf; arg 1; whnf) (by conv => lhs; whnf) (by rfl) (by first | exact Tryz.underlying22 | exact Tryz.underlying23 | exact Tryz.underlying43 | exact Tryz.underlying44 | exact Tryz.underlying51 | exact Tryz.underlying86 | exact Tryz.underlying191 | exact Tryz.underlying209 | exact Tryz.underlying234 | exact Tryz.underlying270 | exact Tryz.underlying281 | exact Tryz.underlying344) (by kernel_rfl) (by omega) | exact a_q) | (apply st_rif rfl; (case hq => first | exact a_i); all_goals (intro _; try (exfalso; first | omega | contradiction))) | (apply st_rw rfl rfl; case hq => first | exact w_copy (by conv => lhs; whnf) (by conv => lhs; whnf; arg 1; whnf) (by conv => lhs; whnf) (by omega) (by omega) (by omega) hfl (by first | exact Tryz.underlying22 | exact Tryz.underlying23 | exact Tryz.underlying43 | exact Tryz.underlying44 | exact Tryz.underlying51 | exact Tryz.underlying86 | exact Tryz.underlying191 | exact Tryz.underlying209 | exact Tryz.underlying234 | exact Tryz.underlying270 | exact Tryz.underlying281 | exact Tryz.underlying344) (by kernel_rfl) hbc rfl | exact a_store) | refine tri_true rfl ?_ | refine tri_false rfl ?_ | refine tri_block ?_ | refine tri_skip ?_ | refine tri_ret ?_ | refine tri_exit ?_)
          all_goals exact loop_next (i + 1) (by omega) (weak_st ⟨rfl, rfl, rfl, rfl, congrArg (AV.int .i64) (by rw [hnx, List.length_append, hbn]; rfl), rfl, trivial⟩ ⟨by rw [hnx]; rfl, trivial⟩) (show s.length - (i + 1) < s.length - i by omega)
      · have hi' : i = s.length := by omega
        have hbe : bufR (subst l (s.take i)) (s.length + gains l s) = byteRows (subst l s) := by
          rw [hi', List.take_of_length_le (Nat.le_refl _), ← hsl, bufR, Nat.sub_self]
          simp
        repeat' (first | refine a_f ?_ | refine st_nil ?_ | refine tri_seq ?_ | refine tri_region rfl ?_ | refine a_draw ?_ | (apply st_r rfl; case hq => first | exact q_bstrsl (subst l s) (by conv => lhs; whnf) (by conv => lhs; whnf; arg 1; whnf) hbe (by first | exact Tryz.underlying22 | exact Tryz.underlying23 | exact Tryz.underlying43 | exact Tryz.underlying44 | exact Tryz.underlying51 | exact Tryz.underlying86 | exact Tryz.underlying191 | exact Tryz.underlying209 | exact Tryz.underlying234 | exact Tryz.underlying270 | exact Tryz.underlying281 | exact Tryz.underlying344) Tryz.underlying5 (by kernel_rfl) | exact a_q) | (apply st_rif rfl; (case hq => first | exact a_i); all_goals (intro _; try (exfalso; first | omega | contradiction))) | (apply st_rw rfl rfl; case hq => first | exact a_store) | refine tri_true rfl ?_ | refine tri_false rfl ?_ | refine tri_block ?_ | refine tri_skip ?_ | refine tri_ret ?_ | refine tri_exit ?_)
        exact ⟨trivial, rfl⟩
end Go.Proofs.YtignjjnflcpiiaaGreatDoor
