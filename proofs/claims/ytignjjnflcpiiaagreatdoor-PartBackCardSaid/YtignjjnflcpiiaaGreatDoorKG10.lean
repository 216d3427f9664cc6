import Derived.Test.YtignjjnflcpiiaaGreatDoorKG8
import Derived.Test.YtignjjnflcpiiaaGreatDoorKPlain1
import Derived.Test.YtignjjnflcpiiaaGreatDoorKG7
import Derived.Below
import Derived.Handy
import Derived.Lib.ConvBytes
set_option linter.unusedVariables false
set_option linter.unusedSimpArgs false
set_option maxHeartbeats 1000000
namespace Go.Proofs.YtignjjnflcpiiaaGreatDoor
open Go.RowKit
attribute [local irreducible] Tri Steps Qd Wr Weak CPure CEff
set_option maxRecDepth 100000
theorem all_bad {p : UInt8 → Bool} {s : B} {i : Nat} (hi : (i : Int) < s.length) (h : p (s.getD (i : Int).toNat 0) = false) : s.all p = false := by
  have hi' : i < s.length := by omega
  refine List.all_eq_false.2 ⟨s[i], List.getElem_mem hi', ?_⟩
  rw [List.getD_eq_getElem?_getD, Int.toNat_natCast, List.getElem?_eq_getElem hi'] at h
  simpa using h
theorem all_good {p : UInt8 → Bool} {s : B} {i : Nat} (hi : ¬ (i : Int) < s.length) (h : ∀ j, j < i → p (s.getD j 0) = true) : s.all p = true := by
  refine List.all_eq_true.2 fun x hx => ?_
  obtain ⟨j, hj, rfl⟩ := List.getElem_of_mem hx
  have := h j (by omega)
  rw [List.getD_eq_getElem?_getD, List.getElem?_eq_getElem hj] at this
  simpa using this
theorem good_step {p : UInt8 → Bool} {s : B} {i : Nat} (h : ∀ j, j < i → p (s.getD j 0) = true) (hp : p (s.getD (i : Int).toNat 0) = true) : ∀ j, j < i + 1 → p (s.getD j 0) = true := by
  intro j hj
  rcases Nat.lt_or_ge j i with h' | h'
  · exact h j h'
  · have : j = i := by omega
    subst this
    simpa using hp
theorem isE_f {s : B} (h : s ≠ []) : s.isEmpty = false := by
  cases s with
  | nil => exact absurd rfl h
  | cons a l => rfl
theorem isE_t {s : B} (h : ¬ s ≠ []) : s.isEmpty = true := by
  cases s with
  | nil => rfl
  | cons a l => exact absurd (fun h => by cases h) h
def nameC (c : UInt8) : Bool := decide (33 ≤ c.toNat ∧ c.toNat ≤ 126 ∧ c.toNat ≠ 58)
def nameB (s : B) : Bool := s.all nameC && !s.isEmpty
theorem name_c (s : B) (hs : s.length ≤ 1000000) : CPure gx 131 [.str s] (.bool (nameB s)) := by
  refine cpure_of Tryz.func131 rfl (Nat.le_of_ble_eq_true rfl) rfl (fun w hw => ?_)
  repeat' (first | refine a_f ?_ | refine st_nil ?_ | refine tri_seq ?_ | refine tri_region rfl ?_ | refine a_draw ?_ | (apply st_r rfl; case hq => first | exact a_q) | (apply st_rif rfl; (case hq => first | exact a_i); all_goals (intro _; try (exfalso; first | omega | contradiction))) | (apply st_rw rfl rfl; case hq => first | exact a_store) | refine tri_true rfl ?_ | refine tri_false rfl ?_ | refine tri_block ?_ | refine tri_skip ?_ | refine tri_ret ?_ | refine tri_exit ?_)
  refine tri_loop (fun (i : Nat) => i ≤ s.length ∧ ∀ j, j < i → nameC (s.getD j 0) = true) (fun i => st [(0, .str s), (2, .bool false), (5, .int .i64 s.length), (6, .int .i64 i)] []) (fun i => s.length - i) 0 ⟨Nat.zero_le _, fun j hj => absurd hj (Nat.not_lt_zero j)⟩ ?hw (fun i hi => ?_)
  case hw => exact weak_st ⟨rfl, rfl, rfl, rfl, trivial⟩ trivial
  obtain ⟨hi, hg⟩ := hi
  repeat' (first | refine a_f ?_ | refine st_nil ?_ | refine tri_seq ?_ | refine tri_region rfl ?_ | refine a_draw ?_ | (apply st_r rfl; case hq => first | exact a_q) | (apply st_rif rfl; (case hq => first | exact a_i); all_goals (intro _; try (exfalso; first | omega | contradiction))) | (apply st_rw rfl rfl; case hq => first | exact a_store) | refine tri_true rfl ?_ | refine tri_false rfl ?_ | refine tri_block ?_ | refine tri_skip ?_ | refine tri_ret ?_ | refine tri_exit ?_)
  · refine And.intro trivial ?_
    conv => lhs; whnf
    rw [nameB, all_bad ‹_› (by simp only [nameC, decide_eq_false_iff_not]; omega)]
    rfl
  · refine And.intro trivial ?_
    conv => lhs; whnf
    rw [nameB, all_bad ‹_› (by simp only [nameC, decide_eq_false_iff_not]; omega)]
    rfl
  · refine And.intro trivial ?_
    conv => lhs; whnf
    rw [nameB, all_bad ‹_› (by simp only [nameC, decide_eq_false_iff_not]; omega)]
    rfl
  · refine Exists.intro (i + 1) (And.intro ⟨by omega, good_step hg (by simp only [nameC, decide_eq_true_eq]; omega)⟩ (And.intro (weak_st ⟨rfl, rfl, rfl, rfl, trivial⟩ trivial) (by show _ - (i + 1) < _; omega)))
  all_goals
    refine And.intro trivial ?_
    conv => lhs; whnf
    rw [nameB, all_good ‹_› hg]
    first | rw [isE_f ‹_›]; rfl | rw [isE_t ‹_›]; rfl
def blk (c : UInt8) : Bool := decide (c = 32 ∨ c = 9)
def trimB (s : B) : B := Lib.trimS s [32, 9]
def valC (c : UInt8) : Bool := decide (¬ ((c.toNat < 32 ∧ c.toNat ≠ 9) ∨ c.toNat = 127))
def valueB (s : B) : Bool := s.all valC && decide (trimB s = s)
theorem value_c (s : B) (hs : s.length ≤ 1000000) : CPure gx 132 [.str s] (.bool (valueB s)) := by
  refine cpure_of Tryz.func132 rfl (Nat.le_of_ble_eq_true rfl) rfl (fun w hw => ?_)
  repeat' (first | refine a_f ?_ | refine st_nil ?_ | refine tri_seq ?_ | refine tri_region rfl ?_ | refine a_draw ?_ | (apply st_r rfl; case hq => first | exact a_q) | (apply st_rif rfl; (case hq => first | exact a_i); all_goals (intro _; try (exfalso; first | omega | contradiction))) | (apply st_rw rfl rfl; case hq => first | exact a_store) | refine tri_true rfl ?_ | refine tri_false rfl ?_ | refine tri_block ?_ | refine tri_skip ?_ | refine tri_ret ?_ | refine tri_exit ?_)
  refine tri_loop (fun (i : Nat) => i ≤ s.length ∧ ∀ j, j < i → valC (s.getD j 0) = true) (fun i => st [(0, .str s), (2, .bool false), (5, .int .i64 s.length), (6, .int .i64 i)] []) (fun i => s.length - i) 0 ⟨Nat.zero_le _, fun j hj => absurd hj (Nat.not_lt_zero j)⟩ ?hw (fun i hi => ?_)
  case hw => exact weak_st ⟨rfl, rfl, rfl, rfl, trivial⟩ trivial
  obtain ⟨hi, hg⟩ := hi
  repeat' (first | refine a_f ?_ | refine st_nil ?_ | refine tri_seq ?_ | refine tri_region rfl ?_ | refine a_draw ?_ | (apply st_r rfl; case hq => first | exact q_call (trim_c s [32, 9] (by omega) (by decide) rfl) (hcf := Tryz.call59) rfl rfl | exact a_q) | (apply st_rif rfl; (case hq => first | exact a_i); all_goals (intro _; try (exfalso; first | omega | contradiction))) | (apply st_rw rfl rfl; case hq => first | exact a_store) | refine tri_true rfl ?_ | refine tri_false rfl ?_ | refine tri_block ?_ | refine tri_skip ?_ | refine tri_ret ?_ | refine tri_exit ?_)
  all_goals first
    | (refine And.intro trivial ?_
       conv => lhs; whnf
       rw [valueB, all_bad ‹_› (by simp only [valC, decide_eq_false_iff_not]; omega)]
       rfl)
    | (refine Exists.intro (i + 1) (And.intro ⟨by omega, good_step hg (by simp only [valC, decide_eq_true_eq]; omega)⟩ (And.intro (weak_st ⟨rfl, rfl, rfl, rfl, trivial⟩ trivial) (by show _ - (i + 1) < _; omega))))
    | (refine And.intro trivial ?_
       conv => lhs; whnf
       rw [valueB, all_good ‹_› hg]
       simp [trimB, *])
end Go.Proofs.YtignjjnflcpiiaaGreatDoor
namespace Go.Proofs.YtignjjnflcpiiaaGreatDoor
open Go.RowKit
attribute [local irreducible] Tri Steps Qd Wr Weak CPure CEff
set_option maxRecDepth 100000
theorem pos_len {x : B} (hx : x ≠ []) : 0 < x.length := List.length_pos_iff.2 hx
end Go.Proofs.YtignjjnflcpiiaaGreatDoor
namespace Go.Proofs.YtignjjnflcpiiaaGreatDoor
open Go.RowKit
def lowC (c : UInt8) : UInt8 := if 65 ≤ c.toNat ∧ c.toNat ≤ 90 then c + 32 else c
def lowB (s : List UInt8) : List UInt8 := s.map lowC
theorem lowC_in {c : UInt8} (h : 65 ≤ c.toNat ∧ c.toNat ≤ 90) : ((lowC c).toNat : Int) = (c.toNat : Int) + 32 := by
  rw [lowC, if_pos h, UInt8.toNat_add]
  have : (32 : UInt8).toNat = 32 := rfl
  rw [this]; omega
theorem lowC_out {c : UInt8} (h : ¬ (65 ≤ c.toNat ∧ c.toNat ≤ 90)) : lowC c = c := by rw [lowC, if_neg h]
def LowAt (w : World) (nb : Nat) (s : ByteArray) (k : Nat) : Prop :=
  ∃ C : Array Value, w.heap[nb]? = some (.cells C 5 (C.size, C.size + 1)) ∧ s.size ≤ C.size ∧ ∀ j (hj : j < s.size), C[j]? = some (.int .u8 ((if j < k then lowC s[j] else s[j]).toNat : Int))
theorem LowAt.cell {w : World} {nb k : Nat} {s : ByteArray} (h : LowAt w nb s k) (hk : k < s.size) : w.cell? ⟨nb, k, none⟩ = some (.int .u8 (s[k].toNat : Int)) := by
  obtain ⟨C, h1, h2, h3⟩ := h
  have := h3 k hk
  rw [if_neg (Nat.lt_irrefl _)] at this
  simp [World.cell?, h1, this]
theorem LowAt.thaw {w : World} {nb k : Nat} {s : ByteArray} (h : LowAt w nb s k) (hk : k < s.size) : w.frozen? ⟨nb, k, none⟩ = false := by
  obtain ⟨C, h1, h2, h3⟩ := h
  simp [World.frozen?, h1]; omega
theorem LowAt.step {w : World} {nb k : Nat} {s : ByteArray} (h : LowAt w nb s k) (hk : k < s.size) {v : Int} (hv : v = ((lowC s[k]).toNat : Int)) : LowAt (w.setCell ⟨nb, k, none⟩ (.int .u8 v)) nb s (k + 1) := by
  obtain ⟨C, h1, h2, h3⟩ := h
  refine ⟨C.setIfInBounds k (.int .u8 v), ?_, by simpa using h2, fun j hj => ?_⟩
  · have hnb : nb < w.heap.size := by
      rcases Nat.lt_or_ge nb w.heap.size with h | h
      · exact h
      · rw [Array.getElem?_eq_none h] at h1; cases h1
    have h1' : w.heap[nb] = .cells C 5 (C.size, C.size + 1) := by rw [Array.getElem?_eq_getElem hnb] at h1; exact Option.some.inj h1
    simp only [World.setCell, Array.getElem?_modify, Array.size_setIfInBounds]
    simp [h1]
  · have := h3 j hj
    by_cases hjk : j = k
    · subst hjk
      rw [Array.getElem?_setIfInBounds_self_of_lt (by omega), if_pos (by omega), hv]
    · rw [Array.getElem?_setIfInBounds_ne (Ne.symm hjk), this]
      by_cases h : j < k
      · rw [if_pos h, if_pos (by omega)]
      · rw [if_neg h, if_neg (by omega)]
theorem LowAt.stay {w : World} {nb k : Nat} {s : ByteArray} (h : LowAt w nb s k) (hk : k < s.size) (hv : lowC s[k] = s[k]) : LowAt w nb s (k + 1) := by
  obtain ⟨C, h1, h2, h3⟩ := h
  refine ⟨C, h1, h2, fun j hj => ?_⟩
  rw [h3 j hj]
  by_cases h : j < k
  · rw [if_pos h, if_pos (by omega)]
  · by_cases hjk : j = k
    · subst hjk; rw [if_neg h, if_pos (by omega), hv]
    · rw [if_neg h, if_neg (by omega)]
set_option maxHeartbeats 1000000 in
theorem small_any (s : ByteArray) (w : World) (hs : s.size ≤ 1099511627776) :
    Calls Tryz.prog 53 #[.string s] w fun e w' => e = .returned (.string ⟨(lowB s.data.toList).toArray⟩) ∧ Below w.heap.size w w' := by
  have cv := Lib.run_convert_string_bytes (P := Tryz.prog) w 9 86 5 s Tryz.underlying9 Tryz.underlying86 Tryz.underlying5
  have hb0 : Below w.heap.size w (Lib.bytesWorld w 5 s) := ⟨rfl, rfl, rfl, by rw [Lib.bytesWorld_size]; omega, fun k hk => Lib.bytesWorld_at_old w 5 s k hk⟩
  have hl0 : LowAt (Lib.bytesWorld w 5 s) w.heap.size s 0 := ⟨_, Lib.bytesWorld_at_new w 5 s, by simp [Lib.bytesCells], fun j hj => by
    rw [if_neg (Nat.not_lt_zero _)]
    have hj' : j < s.data.size := hj
    simp [Lib.bytesCells, Array.getElem?_append, hj', hj]
    rfl⟩
  generalize Lib.bytesWorld w 5 s = W0 at cv hb0 hl0
  go_enter Tryz.func53, Tryz.ntmps53
  go_wp2_with fail
  go_loopw [10] (fun i wr => ∃ (k : Nat), k ≤ s.size ∧ i = .int .i64 k ∧ Below w.heap.size w wr ∧ LowAt wr w.heap.size s k) (fun i _ => s.size - (intOf i).toNat)
  case atStart => exact ⟨0, Nat.zero_le _, rfl, hb0, hl0⟩
  case round =>
    obtain ⟨k, hk, rfl, hb, hl⟩ := hrel
    by_cases hks : k < s.size
    · have hc := hl.cell hks
      have hf := hl.thaw hks
      have hlt : (s[k]'hks).toNat < 256 := (s[k]'hks).toNat_lt
      by_cases h1 : 65 ≤ (s[k]'hks).toNat
      · by_cases h2 : (s[k]'hks).toNat ≤ 90
        · have q1 : decide ((65 : Int) ≤ ((s[k]'hks).toNat : Int)) = true := decide_eq_true (by omega)
          have q2 : decide (((s[k]'hks).toNat : Int) ≤ 90) = true := decide_eq_true (by omega)
          have hst := hl.step hks (v := ((s[k]'hks).toNat : Int) + 32) (by rw [lowC_in ⟨h1, h2⟩])
          have hw8 : IntKind.u8.wrap (((s[k]'hks).toNat : Int) + 32) = ((s[k]'hks).toNat : Int) + 32 := IntWalk.u8_in _ (by omega)
          have Hst := hid hst
          clear hst hl
          go_wp2_with fail
          go_roundw
          case rel => exact ⟨k + 1, by omega, by go_num, hb.setCell (Nat.le_refl _) _, Hst.out⟩
          case measure => simp [intOf]; omega
        · have q1 : decide ((65 : Int) ≤ ((s[k]'hks).toNat : Int)) = true := decide_eq_true (by omega)
          have q2 : decide (((s[k]'hks).toNat : Int) ≤ 90) = false := decide_eq_false (by omega)
          have Hst := hid (hl.stay hks (lowC_out (by omega)))
          clear hl
          go_wp2_with fail
          go_roundw
          case rel => exact ⟨k + 1, by omega, by go_num, hb, Hst.out⟩
          case measure => simp [intOf]; omega
      · have q1 : decide ((65 : Int) ≤ ((s[k]'hks).toNat : Int)) = false := decide_eq_false (by omega)
        have Hst := hid (hl.stay hks (lowC_out (by omega)))
        clear hl
        go_wp2_with fail
        go_roundw
        case rel => exact ⟨k + 1, by omega, by go_num, hb, Hst.out⟩
        case measure => simp [intOf]; omega
    · have hk' : k = s.size := by omega
      subst hk'
      have hback := run_convert_bytes_back (P := Tryz.prog) wr 86 9 5 ⟨w.heap.size, 0, none⟩ (grownCap w s.size 0 5) (lowB s.data.toList) Tryz.underlying86 Tryz.underlying5 Tryz.underlying9 (fun j hj => by
        have hj' : j < s.size := by simpa [lowB] using hj
        obtain ⟨C, h1, h2, h3⟩ := hl
        have := h3 j hj'
        rw [if_pos hj'] at this
        have e : (lowB s.data.toList)[j] = lowC s[j] := by simp [lowB]; rfl
        rw [e]
        have ea : (⟨w.heap.size, 0, none⟩ : Addr).add j = ⟨w.heap.size, j, none⟩ := by cases j <;> simp [Addr.add]
        rw [ea]
        simp [World.cell?, h1, this])
      rw [show (lowB s.data.toList).length = s.size by simp [lowB]] at hback
      clear hl
      go_wp2_with fail
      go_ret
      exact ⟨rfl, hb⟩
end Go.Proofs.YtignjjnflcpiiaaGreatDoor
namespace Go.Proofs.YtignjjnflcpiiaaGreatDoor
open Go.RowKit
attribute [local irreducible] Tri Steps Qd Wr Weak CPure CEff
set_option maxRecDepth 100000
theorem small_c (s : B) (hs : s.length ≤ 100000000) : CPure gx 53 [.str s] (.str (lowB s)) :=
  cpure_val rfl rfl fun w _ => small_any ⟨s.toArray⟩ w (by rw [sizeMk]; omega)
end Go.Proofs.YtignjjnflcpiiaaGreatDoor
