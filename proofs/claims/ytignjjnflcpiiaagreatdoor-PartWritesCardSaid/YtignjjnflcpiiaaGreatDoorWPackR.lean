import Derived.Test.YtignjjnflcpiiaaGreatDoorWG10
import Derived.Test.YtignjjnflcpiiaaGreatDoorWVm4
import Derived.Test.YtignjjnflcpiiaaGreatDoorWG32
set_option linter.unusedVariables false
set_option linter.unusedSimpArgs false
set_option maxHeartbeats 1000000
namespace Go.Proofs.YtignjjnflcpiiaaGreatDoor
open Go.RowKit
attribute [local irreducible] Tri Steps Qd Wr Weak CPure CEff
set_option maxRecDepth 100000
theorem letter_val : ∀ n : Fin 64, (n.val < 26 → (letter n.val).toNat = 65 + n.val) ∧ (26 ≤ n.val → n.val < 52 → (letter n.val).toNat = 97 + n.val - 26) ∧ (52 ≤ n.val → n.val < 62 → (letter n.val).toNat = 48 + n.val - 52) ∧ (n.val = 62 → (letter n.val).toNat = 43) ∧ (n.val = 63 → (letter n.val).toNat = 47) := by decide +kernel
theorem letter_c (n : Nat) (hn : n < 64) : CPure gx 130 [.int .i64 n] (.int .u8 (letter n).toNat) := by
  refine cpure_of Tryz.func130 rfl (Nat.le_of_ble_eq_true rfl) rfl (fun w hw => ?_)
  obtain ⟨h1, h2, h3, h4, h5⟩ := letter_val ⟨n, hn⟩
  simp only at h1 h2 h3 h4 h5
  repeat' (first | refine a_f ?_ | refine st_nil ?_ | refine tri_seq ?_ | refine tri_region rfl ?_ | refine a_draw ?_ | (apply st_r rfl; case hq => first | exact q_convint (by conv => lhs; whnf) (by kernel_rfl) (by kernel_rfl) (by exact IntWalk.u8_in _ (by omega)) | exact a_q) | (apply st_rif rfl; (case hq => first | exact a_i); all_goals (intro _; try (exfalso; first | omega | contradiction))) | (apply st_rw rfl rfl; case hq => first | exact a_store) | refine tri_true rfl ?_ | refine tri_false rfl ?_ | refine tri_block ?_ | refine tri_skip ?_ | refine tri_ret ?_ | refine tri_exit ?_)
  all_goals (refine And.intro trivial ?_; conv => lhs; whnf)
  all_goals (congr 1; omega)
def intRows (l : List Nat) : List (List AV) := l.map fun (n : Nat) => [.int .i64 n]
theorem ir_len (l : List Nat) : (intRows l).length = l.length := by simp [intRows]
theorem ir_app (l : List Nat) (n : Nat) : intRows l ++ [[.int .i64 n]] = intRows (l ++ [n]) := by simp [intRows]
theorem br_len (l : B) : (byteRows l).length = l.length := by simp [byteRows]
theorem br_app (l : B) (c : UInt8) : byteRows l ++ [[.int .u8 c.toNat]] = byteRows (l ++ [c]) := by simp [byteRows]
theorem ir_at {l : List Nat} {i : Nat} (h : i < l.length) : (intRows l)[i]? = some [.int .i64 (l.getD i 0 : Nat)] := by simp [intRows, List.getD_eq_getElem?_getD, h]
theorem bits8_len (c : UInt8) : (bits8 c).length = 8 := rfl
theorem bit_at (c : UInt8) (j : Nat) (h : j < 8) : (bits8 c).take (j + 1) = (bits8 c).take j ++ [c.toNat / 2 ^ (7 - j) % 2] := by
  match j, h with
  | 0, _ => rfl
  | 1, _ => rfl
  | 2, _ => rfl
  | 3, _ => rfl
  | 4, _ => rfl
  | 5, _ => rfl
  | 6, _ => rfl
  | 7, _ => simp [bits8]
theorem and_one (m : Nat) (h : m < 2 ^ 40) : bits .and .i64 (m : Int) 1 = ((m % 2 : Nat) : Int) := by
  have := i64_mask 1 (by omega) (m : Int) (by omega) (by omega)
  rw [show ((2 : Int) ^ 1 - 1) = 1 by decide] at this
  rw [this]; omega
theorem bit_and (m k : Nat) (hm : m < 2 ^ 40) (v : Int) (hv : v.toNat = k) : bits .and .i64 ((m : Int) / 2 ^ v.toNat) 1 = ((m / 2 ^ k % 2 : Nat) : Int) := by
  rw [hv, show ((2 : Int) ^ k) = ((2 ^ k : Nat) : Int) by simp, ← Int.natCast_ediv]
  exact and_one _ (Nat.lt_of_le_of_lt (Nat.div_le_self _ _) hm)
theorem bits_len (b : B) : (bitsB b).length = 8 * b.length := by
  induction b with
  | nil => rfl
  | cons c b ih =>
    show (bits8 c ++ bitsB b).length = _
    rw [List.length_append, ih, bits8_len, List.length_cons]; omega
theorem bitsB_take (b : B) (i : Nat) (h : i < b.length) : bitsB (b.take (i + 1)) = bitsB (b.take i) ++ bits8 (b.getD i 0) := by
  rw [List.take_succ_eq_append_getElem h, List.getD_eq_getElem?_getD, List.getElem?_eq_getElem h]
  show bitsB (b.take i ++ [b[i]]) = bitsB (b.take i) ++ bits8 b[i]
  unfold bitsB
  rw [List.flatMap_append]
  simp
theorem bits_two (b : B) : ∀ x ∈ bitsB b, x < 2 := by
  intro x hx
  obtain ⟨c, _, hx⟩ := List.mem_flatMap.1 hx
  simp only [bits8, List.mem_cons, List.not_mem_nil, or_false] at hx
  omega
def valK (l : List Nat) : Nat → Nat
  | 0 => 0
  | k + 1 => valK l k * 2 + l.getD k 0
theorem valK_lt {l : List Nat} (h : ∀ x ∈ l, x < 2) : ∀ k, valK l k < 2 ^ k
  | 0 => by simp [valK]
  | k + 1 => by
    have := valK_lt h k
    have h2 : l.getD k 0 < 2 := by
      rw [List.getD_eq_getElem?_getD]
      cases hx : l[k]? with
      | none => simp
      | some x => exact h x (List.mem_of_getElem? hx)
    rw [valK, Nat.pow_succ]; omega
theorem valK6 (l : List Nat) : valK l 6 = val6 l := by simp [valK, val6]
theorem getDn_drop (l : List Nat) (i k : Nat) : (l.drop i).getD k 0 = l.getD (i + k) 0 := by
  rw [List.getD_eq_getElem?_getD, List.getElem?_drop, ← List.getD_eq_getElem?_getD]
theorem padQ_id {l : B} (h : l.length % 4 = 0) : padQ l = l := by
  unfold padQ; rw [h]; simp
theorem padQ_one {l : B} (h : l.length % 4 ≠ 0) : padQ (l ++ [61]) = padQ l := by
  unfold padQ
  rw [List.length_append, List.length_cons, List.length_nil]
  have e : (4 - l.length % 4) % 4 = (4 - (l.length + (0 + 1)) % 4) % 4 + 1 := by omega
  rw [e, List.replicate_succ]
  simp
theorem br_take (l : B) (k : Nat) : (byteRows l).take k = byteRows (l.take k) := by simp [byteRows, List.map_take]
theorem br_drop (l : B) (k : Nat) : (byteRows l).drop k = byteRows (l.drop k) := by simp [byteRows, List.map_drop]
theorem six_len (l : List Nat) : (six l).length ≤ l.length := by
  induction h : l.length using Nat.strongRecOn generalizing l with
  | _ n ih =>
    by_cases h0 : l = []
    · subst h0; rw [six_nil]; simp
    · have hp := List.length_pos_iff.2 h0
      rw [six_ne h0]
      have := ih (l.drop 6).length (by simp; omega) (l.drop 6) rfl
      simp only [List.length_cons, List.length_drop] at this ⊢
      omega
set_option maxHeartbeats 8000000 in
theorem refPack_c (s : B) (hs : s.length ≤ 1000000) : CPure gx 73 [.str s] (.str (pack s)) := by
  refine cpure_of Tryz.func73 rfl (Nat.le_of_ble_eq_true rfl) rfl (fun w hw => ?_)
  have hbl := bits_len s
  repeat' (first | refine a_f ?_ | refine st_nil ?_ | refine tri_seq ?_ | refine tri_region rfl ?_ | refine a_draw ?_ | (apply st_r rfl; case hq => first | exact a_q) | (apply st_rif rfl; (case hq => first | exact a_i); all_goals (intro _; try (exfalso; first | omega | contradiction))) | (apply st_rw rfl rfl; case hq => first | exact a_store) | refine tri_true rfl ?_ | refine tri_false rfl ?_ | refine tri_block ?_ | refine tri_skip ?_ | refine tri_ret ?_ | refine tri_exit ?_)
  refine tri_loop_to (fun (i : Nat) => i ≤ s.length) (fun i => st [(0, .str s), (2, .str []), (3, .sl 100), (13, .int .i64 s.length), (14, .int .i64 i)] [(100, .rows 3 1 (intRows (bitsB (s.take i))))]) (fun i => s.length - i) (fun (_ : Unit) => True) (fun _ => st [(2, .str []), (3, .sl 100)] [(100, .rows 3 1 (intRows (bitsB s)))]) 0 (Nat.zero_le _) ?hw_1 weak_tri (fun i hi => ?_) (fun _ _ => ?_)
  case hw_1 => exact (weak_nil 3 100 3 1 rfl (by decide) rfl rfl).trans (weak_st ⟨rfl, rfl, rfl, rfl, rfl, trivial⟩ ⟨rfl, trivial⟩)
  · by_cases hil : i < s.length
    · repeat' (first | refine a_f ?_ | refine st_nil ?_ | refine tri_seq ?_ | refine tri_region rfl ?_ | refine a_draw ?_ | (apply st_r rfl; case hq => first | exact a_q) | (apply st_rif rfl; (case hq => first | exact a_i); all_goals (intro _; try (exfalso; first | omega | contradiction))) | (apply st_rw rfl rfl; case hq => first | exact a_store) | refine tri_true rfl ?_ | refine tri_false rfl ?_ | refine tri_block ?_ | refine tri_skip ?_ | refine tri_ret ?_ | refine tri_exit ?_)
      have htl : (bitsB (s.take i)).length = 8 * i := by rw [bits_len, List.length_take]; omega
      refine tri_loop (fun (j : Nat) => j ≤ 8) (fun j => st [(0, .str s), (2, .str []), (3, .sl 100), (4, .int .i64 i), (5, .int .i64 (7 - (j : Int))), (13, .int .i64 s.length), (14, .int .i64 i)] [(100, .rows 3 1 (intRows (bitsB (s.take i) ++ (bits8 (s.getD (i : Int).toNat 0)).take j)))]) (fun j => 8 - j) 0 (Nat.zero_le _) ?hw2 (fun j hj => ?_)
      case hw2 => exact weak_st ⟨rfl, rfl, rfl, rfl, rfl, rfl, rfl, trivial⟩ ⟨congrArg (fun r => some (AObj.rows 3 1 (intRows r))) (by rw [List.take_zero, List.append_nil]), trivial⟩
      · have hil2 := ir_len (bitsB (s.take i) ++ (bits8 (s.getD (i : Int).toNat 0)).take j)
        have h8 : ((bits8 (s.getD (i : Int).toNat 0)).take j).length = min j 8 := by rw [List.length_take, bits8_len]
        rw [List.length_append, htl, h8] at hil2
        by_cases hj8 : j < 8
        · have hb := bit_and (s.getD (i : Int).toNat 0).toNat (7 - j) (Nat.lt_of_lt_of_le (s.getD (i : Int).toNat 0).toNat_lt (by decide)) (7 - (j : Int)) (by omega)
          have he : intRows (bitsB (s.take i) ++ (bits8 (s.getD (i : Int).toNat 0)).take j) ++ [[.int .i64 (((s.getD (i : Int).toNat 0).toNat / 2 ^ (7 - j) % 2 : Nat) : Int)]] = intRows (bitsB (s.take i) ++ (bits8 (s.getD (i : Int).toNat 0)).take (j + 1)) := by
            rw [ir_app, List.append_assoc, bit_at _ j hj8]
          repeat' (first | refine a_f ?_ | refine st_nil ?_ | refine tri_seq ?_ | refine tri_region rfl ?_ | refine a_draw ?_ | (apply st_r rfl; case hq => first | exact q_index' (by conv => lhs; whnf) (by conv => lhs; whnf) (by kernel_rfl) (by omega) (by omega) | exact q_convint (by conv => lhs; whnf) (by kernel_rfl) (by kernel_rfl) (wrap_u8 _) | exact q_shr (by conv => lhs; whnf) (by conv => lhs; whnf) (by omega) (by show _ ≤ (64 : Int); omega) | exact q_and (by conv => lhs; whnf) (by conv => lhs; whnf) hb | exact a_q) | (apply st_rif rfl; (case hq => first | exact a_i); all_goals (intro _; try (exfalso; first | omega | contradiction))) | (apply st_rw rfl rfl; case hq => first | exact w_append (by conv => lhs; whnf) (by conv => lhs; whnf; arg 1; whnf) (by conv => lhs; whnf) (by first | exact Tryz.underlying22 | exact Tryz.underlying23 | exact Tryz.underlying43 | exact Tryz.underlying44 | exact Tryz.underlying51 | exact Tryz.underlying86 | exact Tryz.underlying191 | exact Tryz.underlying209 | exact Tryz.underlying234 | exact Tryz.underlying270 | exact Tryz.underlying281 | exact Tryz.underlying344) (by kernel_rfl) (by simp) rfl (by simp only [List.length_cons, List.length_nil]; omega) rfl rfl | exact a_store) | refine tri_true rfl ?_ | refine tri_false rfl ?_ | refine tri_block ?_ | refine tri_skip ?_ | refine tri_ret ?_ | refine tri_exit ?_)
          exact nextR (j + 1) (by omega) (weak_st ⟨rfl, rfl, rfl, rfl, congrArg (AV.int .i64) (by omega), rfl, rfl, trivial⟩ ⟨congrArg (fun r => some (AObj.rows 3 1 r)) he, trivial⟩) (show 8 - (j + 1) < 8 - j by omega)
        · have e8 : j = 8 := by omega
          subst e8
          repeat' (first | refine a_f ?_ | refine st_nil ?_ | refine tri_seq ?_ | refine tri_region rfl ?_ | refine a_draw ?_ | (apply st_r rfl; case hq => first | exact a_q) | (apply st_rif rfl; (case hq => first | exact a_i); all_goals (intro _; try (exfalso; first | omega | contradiction))) | (apply st_rw rfl rfl; case hq => first | exact a_store) | refine tri_true rfl ?_ | refine tri_false rfl ?_ | refine tri_block ?_ | refine tri_skip ?_ | refine tri_ret ?_ | refine tri_exit ?_)
          refine nextR (i + 1) (by omega) (weak_st ⟨rfl, rfl, rfl, rfl, rfl, trivial⟩ ⟨congrArg (fun r => some (AObj.rows 3 1 (intRows r))) ?_, trivial⟩) (show s.length - (i + 1) < s.length - i by omega)
          rw [bitsB_take s i hil]; rfl
    · repeat' (first | refine a_f ?_ | refine st_nil ?_ | refine tri_seq ?_ | refine tri_region rfl ?_ | refine a_draw ?_ | (apply st_r rfl; case hq => first | exact a_q) | (apply st_rif rfl; (case hq => first | exact a_i); all_goals (intro _; try (exfalso; first | omega | contradiction))) | (apply st_rw rfl rfl; case hq => first | exact a_store) | refine tri_true rfl ?_ | refine tri_false rfl ?_ | refine tri_block ?_ | refine tri_skip ?_ | refine tri_ret ?_ | refine tri_exit ?_)
      exact outR () trivial (weak_st ⟨rfl, rfl, trivial⟩ ⟨congrArg (fun r => some (AObj.rows 3 1 (intRows (bitsB r)))) (List.take_of_length_le (by omega)), trivial⟩)
  have hb2 := bits_two s
  have hpk := refPack_eq s
  have h6l := six_len (bitsB s)
  generalize bitsB s = bs at hb2 hpk hbl h6l
  have hil := ir_len bs
  repeat' (first | refine a_f ?_ | refine st_nil ?_ | refine tri_seq ?_ | refine tri_region rfl ?_ | refine a_draw ?_ | (apply st_r rfl; case hq => first | exact a_q) | (apply st_rif rfl; (case hq => first | exact a_i); all_goals (intro _; try (exfalso; first | omega | contradiction))) | (apply st_rw rfl rfl; case hq => first | exact a_store) | refine tri_true rfl ?_ | refine tri_false rfl ?_ | refine tri_block ?_ | refine tri_skip ?_ | refine tri_ret ?_ | refine tri_exit ?_)
  refine tri_loop_to (fun (x : Nat × B) => x.2 ++ (six (bs.drop x.1)).map letter = (six bs).map letter ∧ x.1 ≤ bs.length + 5) (fun x => st [(2, .str []), (3, .sl 100), (6, .sl 101), (7, .int .i64 x.1)] [(100, .rows 3 1 (intRows bs)), (101, .rows 5 1 (byteRows x.2))]) (fun x => bs.length + 6 - x.1) (fun (_ : Unit) => True) (fun _ => st [(2, .str []), (6, .sl 101)] [(101, .rows 5 1 (byteRows ((six bs).map letter)))]) (0, []) ⟨rfl, Nat.zero_le _⟩ ?hw_2 weak_tri (fun x hx => ?_) (fun _ _ => ?_)
  case hw_2 => exact (weak_nil 6 101 5 1 rfl (by decide) rfl rfl).trans (weak_st ⟨rfl, rfl, rfl, rfl, trivial⟩ ⟨rfl, rfl, trivial⟩)
  · obtain ⟨i, l⟩ := x
    change Tri _ _ (st [(2, .str []), (3, .sl 100), (6, .sl 101), (7, .int .i64 i)] [(100, .rows 3 1 (intRows bs)), (101, .rows 5 1 (byteRows l))]) _
    obtain ⟨hx, hi⟩ := hx
    simp only at hx hi
    have hll := congrArg List.length hx
    simp only [List.length_append, List.length_map] at hll
    have hbr := br_len l
    by_cases hil2 : i < bs.length
    · have hne : bs.drop i ≠ [] := List.length_pos_iff.1 (by rw [List.length_drop]; omega)
      rw [six_ne hne, List.drop_drop, List.map_cons] at hx
      have hvl := valK_lt (l := bs.drop i) (fun x hx => hb2 x (List.drop_subset _ _ hx))
      repeat' (first | refine a_f ?_ | refine st_nil ?_ | refine tri_seq ?_ | refine tri_region rfl ?_ | refine a_draw ?_ | (apply st_r rfl; case hq => first | exact a_q) | (apply st_rif rfl; (case hq => first | exact a_i); all_goals (intro _; try (exfalso; first | omega | contradiction))) | (apply st_rw rfl rfl; case hq => first | exact a_store) | refine tri_true rfl ?_ | refine tri_false rfl ?_ | refine tri_block ?_ | refine tri_skip ?_ | refine tri_ret ?_ | refine tri_exit ?_)
      refine tri_loop_to (fun (k : Nat) => k ≤ 6) (fun k => st [(2, .str []), (3, .sl 100), (6, .sl 101), (7, .int .i64 i), (8, .int .i64 (valK (bs.drop i) k)), (38, .int .i64 k)] [(100, .rows 3 1 (intRows bs)), (101, .rows 5 1 (byteRows l))]) (fun k => 6 - k) (fun (_ : Unit) => True) (fun _ => st [(2, .str []), (3, .sl 100), (6, .sl 101), (7, .int .i64 i), (8, .int .i64 (val6 (bs.drop i)))] [(100, .rows 3 1 (intRows bs)), (101, .rows 5 1 (byteRows l))]) 0 (Nat.zero_le _) ?hw_3 weak_tri (fun k hk => ?_) (fun _ _ => ?_)
      case hw_3 => exact weak_st ⟨rfl, rfl, rfl, rfl, rfl, rfl, trivial⟩ ⟨rfl, rfl, trivial⟩
      · have hv := hvl k
        have hp : 2 ^ k ≤ 64 := Nat.le_trans (Nat.pow_le_pow_right (by decide) hk) (by decide)
        by_cases hk6 : k < 6
        · by_cases hin : i + k < bs.length
          · have hr := ir_at hin
            have hrr : (intRows bs)[((i : Int) + (k : Int)).toNat]? = some [.int .i64 (bs.getD (i + k) 0 : Nat)] := by rw [show ((i : Int) + (k : Int)).toNat = i + k by omega]; exact hr
            have hg2 : bs.getD (i + k) 0 < 2 := by
              rw [List.getD_eq_getElem?_getD, List.getElem?_eq_getElem hin]
              exact hb2 _ (List.getElem_mem hin)
            repeat' (first | refine a_f ?_ | refine st_nil ?_ | refine tri_seq ?_ | refine tri_region rfl ?_ | refine a_draw ?_ | (apply st_r rfl; case hq => first | exact q_mul (by conv => lhs; whnf) (by conv => lhs; whnf) (by exact IntWalk.i64_in _ (by omega)) | exact q_loade (by conv => lhs; whnf) (by conv => lhs; whnf; arg 1; whnf) hrr (by conv => lhs; whnf) (by show scalB Tryz.prog _ = true; decide +kernel) | exact a_q) | (apply st_rif rfl; (case hq => first | exact a_i); all_goals (intro _; try (exfalso; first | omega | contradiction))) | (apply st_rw rfl rfl; case hq => first | exact a_store) | refine tri_true rfl ?_ | refine tri_false rfl ?_ | refine tri_block ?_ | refine tri_skip ?_ | refine tri_ret ?_ | refine tri_exit ?_)
            refine nextR (k + 1) (by omega) (weak_st ⟨rfl, rfl, rfl, rfl, congrArg (AV.int .i64) ?_, rfl, trivial⟩ ⟨rfl, rfl, trivial⟩) (show 6 - (k + 1) < 6 - k by omega)
            rw [valK, getDn_drop]; omega
          · repeat' (first | refine a_f ?_ | refine st_nil ?_ | refine tri_seq ?_ | refine tri_region rfl ?_ | refine a_draw ?_ | (apply st_r rfl; case hq => first | exact q_mul (by conv => lhs; whnf) (by conv => lhs; whnf) (by exact IntWalk.i64_in _ (by omega)) | exact a_q) | (apply st_rif rfl; (case hq => first | exact a_i); all_goals (intro _; try (exfalso; first | omega | contradiction))) | (apply st_rw rfl rfl; case hq => first | exact a_store) | refine tri_true rfl ?_ | refine tri_false rfl ?_ | refine tri_block ?_ | refine tri_skip ?_ | refine tri_ret ?_ | refine tri_exit ?_)
            refine nextR (k + 1) (by omega) (weak_st ⟨rfl, rfl, rfl, rfl, congrArg (AV.int .i64) ?_, rfl, trivial⟩ ⟨rfl, rfl, trivial⟩) (show 6 - (k + 1) < 6 - k by omega)
            rw [valK, getDn_drop, List.getD_eq_getElem?_getD, List.getElem?_eq_none (by omega)]
            simp only [Option.getD_none]; omega
        · have e6 : k = 6 := by omega
          subst e6
          repeat' (first | refine a_f ?_ | refine st_nil ?_ | refine tri_seq ?_ | refine tri_region rfl ?_ | refine a_draw ?_ | (apply st_r rfl; case hq => first | exact a_q) | (apply st_rif rfl; (case hq => first | exact a_i); all_goals (intro _; try (exfalso; first | omega | contradiction))) | (apply st_rw rfl rfl; case hq => first | exact a_store) | refine tri_true rfl ?_ | refine tri_false rfl ?_ | refine tri_block ?_ | refine tri_skip ?_ | refine tri_ret ?_ | refine tri_exit ?_)
          exact outR () trivial (weak_st ⟨rfl, rfl, rfl, rfl, congrArg (fun (n : Nat) => AV.int .i64 n) (valK6 _), trivial⟩ ⟨rfl, rfl, trivial⟩)
      · have hv6 : val6 (bs.drop i) < 64 := by rw [← valK6]; exact hvl 6
        have L1 := letter_c (val6 (bs.drop i)) hv6
        repeat' (first | refine a_f ?_ | refine st_nil ?_ | refine tri_seq ?_ | refine tri_region rfl ?_ | refine a_draw ?_ | (apply st_r rfl; case hq => first | exact q_call L1 (hcf := Tryz.call130) rfl rfl | exact a_q) | (apply st_rif rfl; (case hq => first | exact a_i); all_goals (intro _; try (exfalso; first | omega | contradiction))) | (apply st_rw rfl rfl; case hq => first | exact w_append (by conv => lhs; whnf) (by conv => lhs; whnf; arg 1; whnf) (by conv => lhs; whnf) (by first | exact Tryz.underlying22 | exact Tryz.underlying23 | exact Tryz.underlying43 | exact Tryz.underlying44 | exact Tryz.underlying51 | exact Tryz.underlying86 | exact Tryz.underlying191 | exact Tryz.underlying209 | exact Tryz.underlying234 | exact Tryz.underlying270 | exact Tryz.underlying281 | exact Tryz.underlying344) (by kernel_rfl) (by simp) rfl (by simp only [List.length_cons, List.length_nil]; omega) rfl rfl | exact a_store) | refine tri_true rfl ?_ | refine tri_false rfl ?_ | refine tri_block ?_ | refine tri_skip ?_ | refine tri_ret ?_ | refine tri_exit ?_)
        exact nextR (i + 6, l ++ [letter (val6 (bs.drop i))]) ⟨by simp only; rw [List.append_assoc]; exact hx, by simp only; omega⟩ (weak_st ⟨rfl, rfl, rfl, rfl, trivial⟩ ⟨rfl, congrArg (fun r => some (AObj.rows 5 1 r)) (br_app _ _), trivial⟩) (show bs.length + 6 - (i + 6) < bs.length + 6 - i by omega)
    · have hne : bs.drop i = [] := List.drop_eq_nil_of_le (by omega)
      rw [hne, six_nil] at hx
      repeat' (first | refine a_f ?_ | refine st_nil ?_ | refine tri_seq ?_ | refine tri_region rfl ?_ | refine a_draw ?_ | (apply st_r rfl; case hq => first | exact a_q) | (apply st_rif rfl; (case hq => first | exact a_i); all_goals (intro _; try (exfalso; first | omega | contradiction))) | (apply st_rw rfl rfl; case hq => first | exact a_store) | refine tri_true rfl ?_ | refine tri_false rfl ?_ | refine tri_block ?_ | refine tri_skip ?_ | refine tri_ret ?_ | refine tri_exit ?_)
      exact outR () trivial (weak_st ⟨rfl, rfl, trivial⟩ ⟨congrArg (fun r => some (AObj.rows 5 1 (byteRows r))) (by rw [← hx]; simp), trivial⟩)
  have hll : ((six bs).map letter).length ≤ 8 * s.length := by rw [List.length_map]; omega
  generalize (six bs).map letter = l0 at hpk hll
  refine tri_seq ?_
  refine tri_block ?_
  refine tri_loop_to (fun (x : B) => padQ x = padQ l0 ∧ x.length ≤ l0.length + 4 ∧ (x.length % 4 ≠ 0 → x.length + (4 - x.length % 4) ≤ l0.length + 4)) (fun x => st [(2, .str []), (6, .sl 101)] [(101, .rows 5 1 (byteRows x))]) (fun x => (4 - x.length % 4) % 4) (fun (x : B) => x = padQ l0 ∧ x.length ≤ l0.length + 4) (fun x => st [(2, .str []), (6, .ro false 1 (byteRows x))] []) l0 ⟨rfl, by omega, by omega⟩ ?hw_4 weak_tri (fun x hx => ?_) (fun x hx => ?_)
  case hw_4 => exact weak_st ⟨rfl, rfl, trivial⟩ ⟨rfl, trivial⟩
  · obtain ⟨hx, hxl, hx4⟩ := hx
    have hbr := br_len x
    by_cases h4 : x.length % 4 = 0
    · repeat' (first | refine a_f ?_ | refine st_nil ?_ | refine tri_seq ?_ | refine tri_region rfl ?_ | refine a_draw ?_ | (apply st_r rfl; case hq => first | exact q_rem (by conv => lhs; whnf) (by conv => lhs; whnf) (by decide) (by omega) | exact a_q) | (apply st_rif rfl; (case hq => first | exact a_i); all_goals (intro _; try (exfalso; first | omega | contradiction))) | (apply st_rw rfl rfl; case hq => first | exact a_store) | refine tri_true rfl ?_ | refine tri_false rfl ?_ | refine tri_block ?_ | refine tri_skip ?_ | refine tri_ret ?_ | refine tri_exit ?_)
      exact outR x ⟨by rw [← hx, padQ_id h4], hxl⟩ ((weak_freeze 6 101 rfl rfl rfl).trans (weak_st ⟨rfl, rfl, trivial⟩ trivial))
    · have hxx := hx4 h4
      repeat' (first | refine a_f ?_ | refine st_nil ?_ | refine tri_seq ?_ | refine tri_region rfl ?_ | refine a_draw ?_ | (apply st_r rfl; case hq => first | exact q_rem (by conv => lhs; whnf) (by conv => lhs; whnf) (by decide) (by omega) | exact a_q) | (apply st_rif rfl; (case hq => first | exact a_i); all_goals (intro _; try (exfalso; first | omega | contradiction))) | (apply st_rw rfl rfl; case hq => first | exact w_append (by conv => lhs; whnf) (by conv => lhs; whnf; arg 1; whnf) (by conv => lhs; whnf) (by first | exact Tryz.underlying22 | exact Tryz.underlying23 | exact Tryz.underlying43 | exact Tryz.underlying44 | exact Tryz.underlying51 | exact Tryz.underlying86 | exact Tryz.underlying191 | exact Tryz.underlying209 | exact Tryz.underlying234 | exact Tryz.underlying270 | exact Tryz.underlying281 | exact Tryz.underlying344) (by kernel_rfl) (by simp) rfl (by simp only [List.length_cons, List.length_nil]; omega) rfl rfl | exact a_store) | refine tri_true rfl ?_ | refine tri_false rfl ?_ | refine tri_block ?_ | refine tri_skip ?_ | refine tri_ret ?_ | refine tri_exit ?_)
      exact nextR (x ++ [61]) ⟨by rw [padQ_one h4]; exact hx, by simp; omega, by simp only [List.length_append, List.length_cons, List.length_nil]; omega⟩ (weak_st ⟨rfl, rfl, trivial⟩ ⟨congrArg (fun r => some (AObj.rows 5 1 r)) (br_app _ 61), trivial⟩) (by simp only [List.length_append, List.length_cons, List.length_nil]; omega)
  obtain ⟨rfl, hxl⟩ := hx
  generalize padQ l0 = p0 at hpk hxl
  repeat' (first | refine a_f ?_ | refine st_nil ?_ | refine tri_seq ?_ | refine tri_region rfl ?_ | refine a_draw ?_ | (apply st_r rfl; case hq => first | exact a_q) | (apply st_rif rfl; (case hq => first | exact a_i); all_goals (intro _; try (exfalso; first | omega | contradiction))) | (apply st_rw rfl rfl; case hq => first | exact a_store) | refine tri_true rfl ?_ | refine tri_false rfl ?_ | refine tri_block ?_ | refine tri_skip ?_ | refine tri_ret ?_ | refine tri_exit ?_)
  refine tri_loop (fun (x : B × B) => x.1 ++ chunk x.2 = pack s ∧ x.2.length ≤ p0.length ∧ x.1.length + 3 * x.2.length ≤ 3 * p0.length) (fun x => st [(2, .str []), (6, .ro false 1 (byteRows x.2)), (10, .str x.1)] []) (fun x => x.2.length) ([], p0) ⟨hpk, Nat.le_refl _, by simp⟩ ?hw_5 (fun x hx => ?_)
  case hw_5 => exact weak_st ⟨rfl, rfl, rfl, trivial⟩ trivial
  obtain ⟨acc, x⟩ := x
  change Tri _ _ (st [(2, .str []), (6, .ro false 1 (byteRows x)), (10, .str acc)] []) _
  obtain ⟨hx, hl1, hl2⟩ := hx
  simp only at hx hl1 hl2
  have hbr := br_len x
  by_cases h0 : x = []
  · subst h0
    rw [chunk_nil, List.append_nil] at hx
    repeat' (first | refine a_f ?_ | refine st_nil ?_ | refine tri_seq ?_ | refine tri_region rfl ?_ | refine a_draw ?_ | (apply st_r rfl; case hq => first | exact a_q) | (apply st_rif rfl; (case hq => first | exact a_i); all_goals (intro _; try (exfalso; first | omega | contradiction))) | (apply st_rw rfl rfl; case hq => first | exact a_store) | refine tri_true rfl ?_ | refine tri_false rfl ?_ | refine tri_block ?_ | refine tri_skip ?_ | refine tri_ret ?_ | refine tri_exit ?_)
    all_goals first
      | (refine And.intro trivial ?_
         conv => lhs; whnf
         rw [← hx])
      | (exfalso; simp_all; done)
  · have hp := List.length_pos_iff.2 h0
    rw [chunk_ne h0] at hx
    have hm : (min ((byteRows x).length : Int) 76).toNat = min x.length 76 := by rw [hbr]; omega
    have hta : (byteRows x).take (min ((byteRows x).length : Int) 76).toNat = byteRows (x.take 76) := by
      rw [hm, br_take]
      congr 1
      by_cases h : x.length ≤ 76
      · rw [Nat.min_eq_left h, List.take_length, List.take_of_length_le h]
      · rw [Nat.min_eq_right (by omega)]
    have hdr : (byteRows x).drop (min ((byteRows x).length : Int) 76).toNat = byteRows (x.drop 76) := by
      rw [hm, br_drop]
      congr 1
      by_cases h : x.length ≤ 76
      · rw [Nat.min_eq_left h, List.drop_length, List.drop_eq_nil_of_le h]
      · rw [Nat.min_eq_right (by omega)]
    have htl : (x.take 76).length = min 76 x.length := List.length_take
    repeat' (first | refine a_f ?_ | refine st_nil ?_ | refine tri_seq ?_ | refine tri_region rfl ?_ | refine a_draw ?_ | (apply st_r rfl; case hq => first | exact q_min (by conv => lhs; whnf) (by conv => lhs; whnf) | exact q_slro_hi (by conv => lhs; whnf) (by conv => lhs; whnf) (by first | exact Tryz.underlying22 | exact Tryz.underlying23 | exact Tryz.underlying43 | exact Tryz.underlying44 | exact Tryz.underlying51 | exact Tryz.underlying86 | exact Tryz.underlying191 | exact Tryz.underlying209 | exact Tryz.underlying234 | exact Tryz.underlying270 | exact Tryz.underlying281 | exact Tryz.underlying344) (by kernel_rfl) (by omega) (by omega) hta | exact q_slro_lo (by conv => lhs; whnf) (by conv => lhs; whnf) (by first | exact Tryz.underlying22 | exact Tryz.underlying23 | exact Tryz.underlying43 | exact Tryz.underlying44 | exact Tryz.underlying51 | exact Tryz.underlying86 | exact Tryz.underlying191 | exact Tryz.underlying209 | exact Tryz.underlying234 | exact Tryz.underlying270 | exact Tryz.underlying281 | exact Tryz.underlying344) (by kernel_rfl) (by omega) (by omega) hdr | exact q_bstr (x.take 76) (by conv => lhs; whnf) rfl (by first | exact Tryz.underlying22 | exact Tryz.underlying23 | exact Tryz.underlying43 | exact Tryz.underlying44 | exact Tryz.underlying51 | exact Tryz.underlying86 | exact Tryz.underlying191 | exact Tryz.underlying209 | exact Tryz.underlying234 | exact Tryz.underlying270 | exact Tryz.underlying281 | exact Tryz.underlying344) Tryz.underlying5 (by kernel_rfl) | exact q_adds (by conv => lhs; whnf) (by conv => lhs; whnf) (by simp only [List.length_append, List.length_cons, List.length_nil, List.length_take]; omega) | exact a_q) | (apply st_rif rfl; (case hq => first | exact a_i); all_goals (intro _; try (exfalso; first | omega | contradiction))) | (apply st_rw rfl rfl; case hq => first | exact a_store) | refine tri_true rfl ?_ | refine tri_false rfl ?_ | refine tri_block ?_ | refine tri_skip ?_ | refine tri_ret ?_ | refine tri_exit ?_)
    refine nextR (acc ++ (x.take 76 ++ [13, 10]), x.drop 76) ⟨?_, by simp only [List.length_drop]; omega, ?_⟩ (weak_st ⟨rfl, rfl, rfl, trivial⟩ trivial) (by show (x.drop 76).length < x.length; rw [List.length_drop]; omega)
    · rw [← hx]; simp [crlf]
    · simp only [List.length_append, List.length_cons, List.length_nil, List.length_drop, htl]; omega
end Go.Proofs.YtignjjnflcpiiaaGreatDoor
