import Derived.Test.YtignjjnflcpiiaaGreatDoorWG7
import Derived.Below
import Derived.Handy
import Derived.Lib.ConvBytes
import Derived.Test.YtignjjnflcpiiaaGreatDoorWG10
import Derived.Test.YtignjjnflcpiiaaGreatDoorWG8
import Derived.Test.YtignjjnflcpiiaaGreatDoorWPlain1
import Derived.Test.YtignjjnflcpiiaaGreatDoorWVm4
set_option linter.unusedVariables false
set_option linter.unusedSimpArgs false
set_option maxHeartbeats 1000000
namespace Go.Proofs.YtignjjnflcpiiaaGreatDoor
open Go.RowKit
def lowC (c : UInt8) : UInt8 := if 65 ≤ c.toNat ∧ c.toNat ≤ 90 then c + 32 else c
def lowB (s : List UInt8) : List UInt8 := s.map lowC
theorem lowC_in {c : UInt8} (h : 65 ≤ c.toNat ∧ c.toNat ≤ 90) : ((lowC c).toNat : Int) = (c.toNat : Int) + 32 := by
  rw [lowC, if_pos h, UInt8.toNat_add]
  have : (32 : UInt8).toNat = 32 := rfl
  rw [this]; omega
theorem lowC_out {c : UInt8} (h : ¬ (65 ≤ c.toNat ∧ c.toNat ≤ 90)) : lowC c = c := by rw [lowC, if_neg h]
def LowAt (w : World) (nb : Nat) (s : ByteArray) (k : Nat) : Prop :=
  ∃ C : Array Value, w.heap[nb]? = some (.cells C 5 (C.size, C.size + 1)) ∧ s.size ≤ C.size ∧ ∀ j (hj : j < s.size), C[j]? = some (.int .u8 ((if j < k then lowC s[j] else s[j]).toNat : Int))
theorem LowAt.cell {w : World} {nb k : Nat} {s : ByteArray} (h : LowAt w nb s k) (hk : k < s.size) : w.cell? ⟨nb, k, none⟩ = some (.int .u8 (s[k].toNat : Int)) := by
  obtain ⟨C, h1, h2, h3⟩ := h
  have := h3 k hk
  rw [if_neg (Nat.lt_irrefl _)] at this
  simp [World.cell?, h1, this]
theorem LowAt.thaw {w : World} {nb k : Nat} {s : ByteArray} (h : LowAt w nb s k) (hk : k < s.size) : w.frozen? ⟨nb, k, none⟩ = false := by
  obtain ⟨C, h1, h2, h3⟩ := h
  simp [World.frozen?, h1]; omega
theorem LowAt.step {w : World} {nb k : Nat} {s : ByteArray} (h : LowAt w nb s k) (hk : k < s.size) {v : Int} (hv : v = ((lowC s[k]).toNat : Int)) : LowAt (w.setCell ⟨nb, k, none⟩ (.int .u8 v)) nb s (k + 1) := by
  obtain ⟨C, h1, h2, h3⟩ := h
  refine ⟨C.setIfInBounds k (.int .u8 v), ?_, by simpa using h2, fun j hj => ?_⟩
  · have hnb : nb < w.heap.size := by
      rcases Nat.lt_or_ge nb w.heap.size with h | h
      · exact h
      · rw [Array.getElem?_eq_none h] at h1; cases h1
    have h1' : w.heap[nb] = .cells C 5 (C.size, C.size + 1) := by rw [Array.getElem?_eq_getElem hnb] at h1; exact Option.some.inj h1
    simp only [World.setCell, Array.getElem?_modify, Array.size_setIfInBounds]
    simp [h1]
  · have := h3 j hj
    by_cases hjk : j = k
    · subst hjk
      rw [Array.getElem?_setIfInBounds_self_of_lt (by omega), if_pos (by omega), hv]
    · rw [Array.getElem?_setIfInBounds_ne (Ne.symm hjk), this]
      by_cases h : j < k
      · rw [if_pos h, if_pos (by omega)]
      · rw [if_neg h, if_neg (by omega)]
theorem LowAt.stay {w : World} {nb k : Nat} {s : ByteArray} (h : LowAt w nb s k) (hk : k < s.size) (hv : lowC s[k] = s[k]) : LowAt w nb s (k + 1) := by
  obtain ⟨C, h1, h2, h3⟩ := h
  refine ⟨C, h1, h2, fun j hj => ?_⟩
  rw [h3 j hj]
  by_cases h : j < k
  · rw [if_pos h, if_pos (by omega)]
  · by_cases hjk : j = k
    · subst hjk; rw [if_neg h, if_pos (by omega), hv]
    · rw [if_neg h, if_neg (by omega)]
set_option maxHeartbeats 1000000 in
theorem small_any (s : ByteArray) (w : World) (hs : s.size ≤ 1099511627776) :
    Calls Tryz.prog 53 #[.string s] w fun e w' => e = .returned (.string ⟨(lowB s.data.toList).toArray⟩) ∧ Below w.heap.size w w' := by
  have cv := Lib.run_convert_string_bytes (P := Tryz.prog) w 9 86 5 s Tryz.underlying9 Tryz.underlying86 Tryz.underlying5
  have hb0 : Below w.heap.size w (Lib.bytesWorld w 5 s) := ⟨rfl, rfl, rfl, by rw [Lib.bytesWorld_size]; omega, fun k hk => Lib.bytesWorld_at_old w 5 s k hk⟩
  have hl0 : LowAt (Lib.bytesWorld w 5 s) w.heap.size s 0 := ⟨_, Lib.bytesWorld_at_new w 5 s, by simp [Lib.bytesCells], fun j hj => by
    rw [if_neg (Nat.not_lt_zero _)]
    have hj' : j < s.data.size := hj
    simp [Lib.bytesCells, Array.getElem?_append, hj', hj]
    rfl⟩
  generalize Lib.bytesWorld w 5 s = W0 at cv hb0 hl0
  go_enter Tryz.func53, Tryz.ntmps53
  go_wp2_with fail
  go_loopw [10] (fun i wr => ∃ (k : Nat), k ≤ s.size ∧ i = .int .i64 k ∧ Below w.heap.size w wr ∧ LowAt wr w.heap.size s k) (fun i _ => s.size - (intOf i).toNat)
  case atStart => exact ⟨0, Nat.zero_le _, rfl, hb0, hl0⟩
  case round =>
    obtain ⟨k, hk, rfl, hb, hl⟩ := hrel
    by_cases hks : k < s.size
    · have hc := hl.cell hks
      have hf := hl.thaw hks
      have hlt : (s[k]'hks).toNat < 256 := (s[k]'hks).toNat_lt
      by_cases h1 : 65 ≤ (s[k]'hks).toNat
      · by_cases h2 : (s[k]'hks).toNat ≤ 90
        · have q1 : decide ((65 : Int) ≤ ((s[k]'hks).toNat : Int)) = true := decide_eq_true (by omega)
          have q2 : decide (((s[k]'hks).toNat : Int) ≤ 90) = true := decide_eq_true (by omega)
          have hst := hl.step hks (v := ((s[k]'hks).toNat : Int) + 32) (by rw [lowC_in ⟨h1, h2⟩])
          have hw8 : IntKind.u8.wrap (((s[k]'hks).toNat : Int) + 32) = ((s[k]'hks).toNat : Int) + 32 := IntWalk.u8_in _ (by omega)
          have Hst := hid hst
          clear hst hl
          go_wp2_with fail
          go_roundw
          case rel => exact ⟨k + 1, by omega, by go_num, hb.setCell (Nat.le_refl _) _, Hst.out⟩
          case measure => simp [intOf]; omega
        · have q1 : decide ((65 : Int) ≤ ((s[k]'hks).toNat : Int)) = true := decide_eq_true (by omega)
          have q2 : decide (((s[k]'hks).toNat : Int) ≤ 90) = false := decide_eq_false (by omega)
          have Hst := hid (hl.stay hks (lowC_out (by omega)))
          clear hl
          go_wp2_with fail
          go_roundw
          case rel => exact ⟨k + 1, by omega, by go_num, hb, Hst.out⟩
          case measure => simp [intOf]; omega
      · have q1 : decide ((65 : Int) ≤ ((s[k]'hks).toNat : Int)) = false := decide_eq_false (by omega)
        have Hst := hid (hl.stay hks (lowC_out (by omega)))
        clear hl
        go_wp2_with fail
        go_roundw
        case rel => exact ⟨k + 1, by omega, by go_num, hb, Hst.out⟩
        case measure => simp [intOf]; omega
    · have hk' : k = s.size := by omega
      subst hk'
      have hback := run_convert_bytes_back (P := Tryz.prog) wr 86 9 5 ⟨w.heap.size, 0, none⟩ (grownCap w s.size 0 5) (lowB s.data.toList) Tryz.underlying86 Tryz.underlying5 Tryz.underlying9 (fun j hj => by
        have hj' : j < s.size := by simpa [lowB] using hj
        obtain ⟨C, h1, h2, h3⟩ := hl
        have := h3 j hj'
        rw [if_pos hj'] at this
        have e : (lowB s.data.toList)[j] = lowC s[j] := by simp [lowB]; rfl
        rw [e]
        have ea : (⟨w.heap.size, 0, none⟩ : Addr).add j = ⟨w.heap.size, j, none⟩ := by cases j <;> simp [Addr.add]
        rw [ea]
        simp [World.cell?, h1, this])
      rw [show (lowB s.data.toList).length = s.size by simp [lowB]] at hback
      clear hl
      go_wp2_with fail
      go_ret
      exact ⟨rfl, hb⟩
end Go.Proofs.YtignjjnflcpiiaaGreatDoor
namespace Go.Proofs.YtignjjnflcpiiaaGreatDoor
open Go.RowKit
attribute [local irreducible] Tri Steps Qd Wr Weak CPure CEff
set_option maxRecDepth 100000
theorem small_c (s : B) (hs : s.length ≤ 100000000) : CPure gx 53 [.str s] (.str (lowB s)) :=
  cpure_val rfl rfl fun w _ => small_any ⟨s.toArray⟩ w (by rw [sizeMk]; omega)
theorem low_pos {c : UInt8} (h1 : (65 : Int) ≤ (c.toNat : Int)) (h2 : (c.toNat : Int) ≤ 90) : [[AV.int .u8 ((c.toNat : Int) + 32)]] = byteRows [lowC c] := by
  rw [← lowC_in ⟨by omega, by omega⟩]; rfl
theorem low_neg {c : UInt8} (h : ¬ ((65 : Int) ≤ (c.toNat : Int)) ∨ ¬ ((c.toNat : Int) ≤ 90)) : [[AV.int .u8 (c.toNat : Int)]] = byteRows [lowC c] := by
  rw [lowC_out (by omega)]; rfl
theorem low_step {s : B} {i : Nat} (hi : (i : Int) < s.length) : (s.take i).map lowC ++ [lowC (s.getD (i : Int).toNat 0)] = (s.take (i + 1)).map lowC := by
  have hi' : i < s.length := by omega
  rw [List.take_add_one, List.map_append, List.getElem?_eq_getElem hi', Int.toNat_natCast, List.getD_eq_getElem?_getD, List.getElem?_eq_getElem hi']
  rfl
set_option maxHeartbeats 2000000 in
theorem low_c (s : B) (hs : s.length ≤ 100000000) : CPure gx 48 [.str s] (.str (lowB s)) := by
  refine cpure_of Tryz.func48 rfl (Nat.le_of_ble_eq_true rfl) rfl (fun w hw => ?_)
  repeat' (first | refine a_f ?_ | refine st_nil ?_ | refine tri_seq ?_ | refine tri_region rfl ?_ | refine a_draw ?_ | (apply st_r rfl; case hq => first | exact a_q) | (apply st_rif rfl; (case hq => first | exact a_i); all_goals (intro _; try (exfalso; first | omega | contradiction))) | (apply st_rw rfl rfl; case hq => first | exact a_store) | refine tri_true rfl ?_ | refine tri_false rfl ?_ | refine tri_block ?_ | refine tri_skip ?_ | refine tri_ret ?_ | refine tri_exit ?_)
  refine tri_loop (fun (i : Nat) => i ≤ s.length) (fun i => st [(0, .str s), (2, .str []), (3, .str ((s.take i).map lowC)), (7, .int .i64 s.length), (8, .int .i64 i)] []) (fun i => s.length - i) 0 (Nat.zero_le _) ?hw (fun i hi => ?_)
  case hw => exact weak_st ⟨rfl, rfl, rfl, rfl, rfl, trivial⟩ trivial
  repeat' (first | refine a_f ?_ | refine st_nil ?_ | refine tri_seq ?_ | refine tri_region rfl ?_ | refine a_draw ?_ | (apply st_r rfl; case hq => first | exact q_add (by conv => lhs; whnf) (by conv => lhs; whnf) (by exact IntWalk.u8_in _ (by omega)) | exact q_bstr [lowC (s.getD (i : Int).toNat 0)] (by conv => lhs; whnf) (by first | exact low_pos ‹_› ‹_› | exact low_neg (.inl ‹_›) | exact low_neg (.inr ‹_›)) (by first | exact Tryz.underlying22 | exact Tryz.underlying23 | exact Tryz.underlying43 | exact Tryz.underlying44 | exact Tryz.underlying51 | exact Tryz.underlying86 | exact Tryz.underlying191 | exact Tryz.underlying209 | exact Tryz.underlying234 | exact Tryz.underlying270 | exact Tryz.underlying281 | exact Tryz.underlying344) Tryz.underlying5 (by kernel_rfl) | exact q_adds (by conv => lhs; whnf) (by conv => lhs; whnf) (by simp only [List.length_map, List.length_take, List.length_cons, List.length_nil]; omega) | exact a_q) | (apply st_rif rfl; (case hq => first | exact a_i); all_goals (intro _; try (exfalso; first | omega | contradiction))) | (apply st_rw rfl rfl; case hq => first | exact a_store) | refine tri_true rfl ?_ | refine tri_false rfl ?_ | refine tri_block ?_ | refine tri_skip ?_ | refine tri_ret ?_ | refine tri_exit ?_)
  all_goals first
    | exact loop_next (i + 1) (by omega) (weak_st ⟨rfl, rfl, congrArg AV.str (low_step ‹_›), rfl, rfl, trivial⟩ trivial) (show s.length - (i + 1) < s.length - i by omega)
    | (refine And.intro trivial ?_
       conv => lhs; whnf
       rw [List.take_of_length_le (by omega)]
       rfl)
end Go.Proofs.YtignjjnflcpiiaaGreatDoor
namespace Go.Proofs.YtignjjnflcpiiaaGreatDoor
open Go.RowKit
def strRows (l : List (List UInt8)) : List (List AV) := l.map fun x => [.str x]
theorem sr_len (l : List (List UInt8)) : (strRows l).length = l.length := by simp [strRows]
theorem sr_at {l : List (List UInt8)} {i : Nat} (h : i < l.length) : ∃ x, l[i]? = some x ∧ x ∈ l ∧ l.drop i = x :: l.drop (i + 1) ∧ (strRows l)[(i : Int).toNat]? = some [.str x] := by
  refine ⟨l[i], List.getElem?_eq_getElem h, List.getElem_mem h, (List.drop_eq_getElem_cons h), ?_⟩
  simp [strRows, h]
theorem split_g (s sep : List UInt8) (hs : s.length < 4294967281) (h1 : 1 ≤ sep.length) : CPure gx 103 [.str s, .str sep] (.ro true 1 (strRows (Lib.split s sep))) :=
  cpure_lib rfl fun w hG hn => by
    obtain ⟨m, hm⟩ := hG.maxLen
    have hlen : (Lib.splitB ⟨sep.toArray⟩ 0 (Lib.countB ⟨s.toArray⟩ ⟨sep.toArray⟩) ⟨s.toArray⟩).length = Lib.countB ⟨s.toArray⟩ ⟨sep.toArray⟩ + 1 := Lib.splitB_all ⟨sep.toArray⟩ (by rw [sizeMk]; exact h1) 0 _ _ rfl
    have hd := Lib.splitB_data ⟨sep.toArray⟩ 0 (Lib.countB ⟨s.toArray⟩ ⟨sep.toArray⟩) ⟨s.toArray⟩
    refine (Tryz.strings_Split ⟨s.toArray⟩ ⟨sep.toArray⟩ m w (by rw [sizeMk]; exact hs) hm (by rw [sizeMk]; exact h1)).mono ?_
    rintro e w' ⟨rfl, rfl⟩
    generalize hls : Lib.splitB ⟨sep.toArray⟩ 0 (Lib.countB ⟨s.toArray⟩ ⟨sep.toArray⟩) ⟨s.toArray⟩ = ls at hlen hd
    have he : Lib.split s sep = ls.map (·.data.toList) := hd.symm
    rw [← hlen, he]
    refine ⟨_, rfl, (Below.refl _ w).alloc (Nat.le_refl _) _, .ro _ _ _ _ _ (.inr ⟨w.heap.size, 0, ls.length, fun i _ => (ls.map Value.string).getD i undef, ?_, ⟨fun h => h, fun _ => Nat.le_refl _⟩, ?_, by omega, ?_, fun i hi j hj => ?_, fun i hi => ?_, fun i hi j hj => ?_⟩)⟩
    · simp [strRows]
    · simp [strRows]; omega
    · simp [strRows]
    · have hi' : i < ls.length := by simpa [strRows] using hi
      have : 0 + i * 1 + j = i := by omega
      rw [this, World.cell?_alloc_new]
      simp [hi']
    · simp [strRows]
    · have hi' : i < ls.length := by simpa [strRows] using hi
      simp only [strRows, List.getElem_map, List.length_cons, List.length_nil] at hj ⊢
      have : j = 0 := by omega
      subst this
      simp only [List.getElem_cons_zero]
      rw [List.getD_eq_getElem?_getD, List.getElem?_map, List.getElem?_eq_getElem hi']
      simp only [Option.map_some, Option.getD_some]
      have := FRep.str ls[i].data.toList
      simpa using this
theorem split_C (s : List UInt8) : Lib.split s [13, 10] = splitC s := splitK_C _ _ (Nat.lt_succ_self _) _ (Nat.le_refl _)
end Go.Proofs.YtignjjnflcpiiaaGreatDoor
namespace Go.Proofs.YtignjjnflcpiiaaGreatDoor
open Go.RowKit
attribute [local irreducible] Tri Steps Qd Wr Weak CPure CEff
set_option maxRecDepth 100000
def special : B := [40, 41, 60, 62, 64, 44, 59, 58, 92, 34, 47, 91, 93, 63, 61]
def tokP (x : Nat) : Bool := decide (x < 33) || (decide (126 < x) || decide (0 ≤ Lib.indexByte special x.toUInt8))
def tokC (c : UInt8) : Bool := !tokP c.toNat
def tokB (s : B) : Bool := s.all tokC && !s.isEmpty
theorem containsRune_c (s : B) (r : Nat) (h : r < 128) : CPure gx 106 [.str s, .int .i32 r] (.bool (decide (0 ≤ Lib.indexByte s r.toUInt8))) :=
  cpure_val rfl rfl fun w _ => (Tryz.strings_ContainsRune_ascii ⟨s.toArray⟩ (r : Int) w (by omega) (by omega)).mono fun e w' h => ⟨h.1, h.2 ▸ ext_refl w⟩
theorem tok1_c (x : Nat) (hx : x ≤ 1114111) : CPure gx 105 [.int .i32 x] (.bool (tokP x)) := by
  refine cpure_of Tryz.func105 rfl (Nat.le_of_ble_eq_true rfl) rfl (fun w hw => ?_)
  by_cases h1 : x < 33
  · repeat' (first | refine a_f ?_ | refine st_nil ?_ | refine tri_seq ?_ | refine tri_region rfl ?_ | refine a_draw ?_ | (apply st_r rfl; case hq => first | exact a_q) | (apply st_rif rfl; (case hq => first | exact a_i); all_goals (intro _; try (exfalso; first | omega | contradiction))) | (apply st_rw rfl rfl; case hq => first | exact a_store) | refine tri_true rfl ?_ | refine tri_false rfl ?_ | refine tri_block ?_ | refine tri_skip ?_ | refine tri_ret ?_ | refine tri_exit ?_)
    refine And.intro trivial ?_
    conv => lhs; whnf
    simp [tokP, h1]
  by_cases h2 : 126 < x
  · repeat' (first | refine a_f ?_ | refine st_nil ?_ | refine tri_seq ?_ | refine tri_region rfl ?_ | refine a_draw ?_ | (apply st_r rfl; case hq => first | exact a_q) | (apply st_rif rfl; (case hq => first | exact a_i); all_goals (intro _; try (exfalso; first | omega | contradiction))) | (apply st_rw rfl rfl; case hq => first | exact a_store) | refine tri_true rfl ?_ | refine tri_false rfl ?_ | refine tri_block ?_ | refine tri_skip ?_ | refine tri_ret ?_ | refine tri_exit ?_)
    refine And.intro trivial ?_
    conv => lhs; whnf
    simp [tokP, h2]
  have R1 := containsRune_c special x (by omega)
  repeat' (first | refine a_f ?_ | refine st_nil ?_ | refine tri_seq ?_ | refine tri_region rfl ?_ | refine a_draw ?_ | (apply st_r rfl; case hq => first | exact q_call R1 (hcf := Tryz.call106) rfl rfl | exact a_q) | (apply st_rif rfl; (case hq => first | exact a_i); all_goals (intro _; try (exfalso; first | omega | contradiction))) | (apply st_rw rfl rfl; case hq => first | exact a_store) | refine tri_true rfl ?_ | refine tri_false rfl ?_ | refine tri_block ?_ | refine tri_skip ?_ | refine tri_ret ?_ | refine tri_exit ?_)
  refine And.intro trivial ?_
  conv => lhs; whnf
  simp [tokP, h1, h2]
theorem decode_lo (s : B) (p : Nat) (h : p < s.length) (ha : (s[p]).toNat < 128) : Utf8.decode ⟨s.toArray⟩ p = ((s[p]).toNat, 1) := by
  have := decode_ascii ⟨s.toArray⟩ p (by rw [sizeMk]; exact h) (by exact ha)
  exact this
theorem decode_hi (s : ByteArray) (p : Nat) (h : ¬ (s.get! (p + 0)).toNat < 128) : 128 ≤ (Utf8.decode s p).1 := by
  unfold Utf8.decode
  simp only [Utf8.runeError]
  rw [if_neg h]
  repeat' split
  all_goals first
    | (simp only [ge_iff_le, Bool.and_eq_true, decide_eq_true_eq] at *; omega)
    | decide
theorem idxFrom_any {p : Nat → Bool} (hp : ∀ r, 128 ≤ r → p r = true) (s : B) : ∀ (f pos : Nat), s.length ≤ f + pos → decide (0 ≤ Lib.idxFuncFrom p true ⟨s.toArray⟩ f pos) = (s.drop pos).any (fun c => p c.toNat)
  | 0, pos, h => by
    rw [List.drop_eq_nil_of_le (by omega)]
    rfl
  | f + 1, pos, h => by
    by_cases hlt : pos < s.length
    · have hd : s.drop pos = s[pos] :: s.drop (pos + 1) := List.drop_eq_getElem_cons hlt
      rw [hd, List.any_cons]
      unfold Lib.idxFuncFrom
      rw [if_pos (by rw [sizeMk]; exact hlt)]
      by_cases ha : (s[pos]).toNat < 128
      · rw [decode_lo s pos hlt ha]
        cases hpc : p (s[pos]).toNat with
        | true => simp
        | false =>
          simp only [Bool.false_eq_true, if_false, Bool.false_or]
          exact idxFrom_any hp s f (pos + 1) (by omega)
      · have hb : ¬ ((⟨s.toArray⟩ : ByteArray).get! (pos + 0)).toNat < 128 := by
          have e : (⟨s.toArray⟩ : ByteArray).get! (pos + 0) = s[pos] := by simp [ByteArray.get!, hlt]
          rw [e]; exact ha
        rw [hp _ (decode_hi _ _ hb), hp _ (by omega)]
        simp
    · rw [List.drop_eq_nil_of_le (by omega)]
      unfold Lib.idxFuncFrom
      rw [if_neg (by rw [sizeMk]; exact hlt)]
      rfl
theorem idx_any {p : Nat → Bool} (hp : ∀ r, 128 ≤ r → p r = true) (s : B) : decide (0 ≤ Lib.idxFunc p true ⟨s.toArray⟩) = s.any (fun c => p c.toNat) := by
  have := idxFrom_any hp s (⟨s.toArray⟩ : ByteArray).size 0 (by rw [sizeMk]; omega)
  rw [List.drop_zero] at this
  exact this
theorem containsFunc_c {g : FuncId} {p : Nat → Bool} (s : B) (eg : ∀ args w, (callFunc g args).run Tryz.prog w = .ok (.enter g args) w) (hp : ∀ x : Nat, x ≤ 1114111 → CPure gx g [.int .i32 x] (.bool (p x))) (hh : ∀ r, 128 ≤ r → p r = true) : CPure gx 54 [.str s, .clo g []] (.bool (s.any (fun c => p c.toNat))) := by
  unfold CPure
  intro w vs hG hn hl hr
  obtain ⟨v0, v1, rfl⟩ : ∃ a b, vs = [a, b] := by
    match vs, hl with
    | [a, b], _ => exact ⟨a, b, rfl⟩
  have h0 := Rep.str_inv (hr 0 (by simp) (by simp))
  obtain ⟨xs, h1, hxl, _⟩ := Rep.clo_inv (hr 1 (by simp) (by simp))
  have : xs = [] := List.eq_nil_of_length_eq_zero hxl
  subst this
  simp only [List.getElem_cons_zero, List.getElem_cons_succ] at h0 h1
  subst h0 h1
  have hg : PredGrows Tryz.prog g #[] p w := by
    intro W x hx hb
    have hc := hp x hx
    unfold CPure at hc
    have := hc W [.int .i32 x] (gx.hG w W hG (fun k hk => hb.block k (by have : gx.nG ≤ w.heap.size := hn; omega))) (Nat.le_trans hn hb.size) rfl (fun i hi hi' => by
      match i, hi with
      | 0, _ => exact .int _ _ _)
    refine this.mono ?_
    rintro e w' ⟨v, rfl, h2, h3⟩
    rw [h3.bool_inv]
    exact ⟨rfl, h2⟩
  refine (Tryz.strings_ContainsFunc_grows g #[] eg p ⟨s.toArray⟩ w hg).mono ?_
  rintro e w' ⟨rfl, h2⟩
  rw [idx_any hh s]
  exact ⟨_, rfl, h2, .bool _ _⟩
theorem tokP_hi (r : Nat) (h : 128 ≤ r) : tokP r = true := by simp [tokP]; omega
theorem any_tokP (s : B) : s.any (fun c => tokP c.toNat) = !s.all tokC := by
  induction s with
  | nil => rfl
  | cons c s ih => simp [tokC, ih, List.any_cons, List.all_cons]
theorem token_c (s : B) : CPure gx 52 [.str s] (.bool (tokB s)) := by
  refine cpure_of Tryz.func52 rfl (Nat.le_of_ble_eq_true rfl) rfl (fun w hw => ?_)
  have F1 := containsFunc_c (g := 105) s Tryz.call105 tok1_c tokP_hi
  rw [any_tokP] at F1
  cases ha : s.all tokC <;> rw [ha] at F1
  all_goals
    repeat' (first | refine a_f ?_ | refine st_nil ?_ | refine tri_seq ?_ | refine tri_region rfl ?_ | refine a_draw ?_ | (apply st_r rfl; case hq => first | exact q_call F1 (hcf := Tryz.call54) rfl rfl | exact a_q) | (apply st_rif rfl; (case hq => first | exact a_i); all_goals (intro _; try (exfalso; first | omega | contradiction))) | (apply st_rw rfl rfl; case hq => first | exact a_store) | refine tri_true rfl ?_ | refine tri_false rfl ?_ | refine tri_block ?_ | refine tri_skip ?_ | refine tri_ret ?_ | refine tri_exit ?_)
  all_goals
    refine And.intro trivial ?_
    conv => lhs; whnf
    rw [tokB, ha]
    first | rfl | (rw [isE_f ‹_›]; rfl) | (rw [isE_t ‹_›]; rfl)
theorem indexByteS_c (s : B) (c : UInt8) : CPure gx 42 [.str s, .int .u8 c.toNat] (.int .i64 (Lib.indexByte s c.toNat.toUInt8)) := indexByte_c s c.toNat
set_option maxHeartbeats 1000000 in
theorem rtoken_c (s : B) (hs : s.length ≤ 1000000) : CPure gx 49 [.str s] (.bool (tokB s)) := by
  refine cpure_of Tryz.func49 rfl (Nat.le_of_ble_eq_true rfl) rfl (fun w hw => ?_)
  repeat' (first | refine a_f ?_ | refine st_nil ?_ | refine tri_seq ?_ | refine tri_region rfl ?_ | refine a_draw ?_ | (apply st_r rfl; case hq => first | exact a_q) | (apply st_rif rfl; (case hq => first | exact a_i); all_goals (intro _; try (exfalso; first | omega | contradiction))) | (apply st_rw rfl rfl; case hq => first | exact a_store) | refine tri_true rfl ?_ | refine tri_false rfl ?_ | refine tri_block ?_ | refine tri_skip ?_ | refine tri_ret ?_ | refine tri_exit ?_)
  refine tri_loop (fun (i : Nat) => i ≤ s.length ∧ ∀ j, j < i → tokC (s.getD j 0) = true) (fun i => st [(0, .str s), (2, .bool false), (5, .int .i64 s.length), (6, .int .i64 i)] []) (fun i => s.length - i) 0 ⟨Nat.zero_le _, fun j hj => absurd hj (Nat.not_lt_zero j)⟩ ?hw (fun i hi => ?_)
  case hw => exact weak_st ⟨rfl, rfl, rfl, rfl, trivial⟩ trivial
  obtain ⟨hi, hg⟩ := hi
  by_cases hil : i < s.length
  · have I1 := indexByteS_c special (s.getD (i : Int).toNat 0)
    have E1 := in_c ((s.getD (i : Int).toNat 0).toNat : Int) 33 126
    have hc : tokC (s.getD (i : Int).toNat 0) = (decide ((33 : Int) ≤ ((s.getD (i : Int).toNat 0).toNat : Int) ∧ ((s.getD (i : Int).toNat 0).toNat : Int) ≤ 126) && !decide (0 ≤ Lib.indexByte special (s.getD (i : Int).toNat 0).toNat.toUInt8)) := by
      generalize s.getD (i : Int).toNat 0 = c
      simp only [tokC, tokP]
      rw [Bool.eq_iff_iff]
      simp only [Bool.not_eq_true', Bool.or_eq_false_iff, decide_eq_false_iff_not, Bool.and_eq_true, decide_eq_true_eq]
      omega
    have hgs := good_step hg (i := i)
    have hab := fun (h : tokC (s.getD (i : Int).toNat 0) = false) => all_bad (p := tokC) (s := s) (i := i) (by omega) h
    cases hd : decide ((33 : Int) ≤ ((s.getD (i : Int).toNat 0).toNat : Int) ∧ ((s.getD (i : Int).toNat 0).toNat : Int) ≤ 126) <;> rw [hd] at E1 hc
    all_goals
      repeat' (first | refine a_f ?_ | refine st_nil ?_ | refine tri_seq ?_ | refine tri_region rfl ?_ | refine a_draw ?_ | (apply st_r rfl; case hq => first | exact q_index' (by conv => lhs; whnf) (by conv => lhs; whnf) (by kernel_rfl) (by omega) (by omega) | exact q_convint (by conv => lhs; whnf) (by kernel_rfl) (by kernel_rfl) (wrap_u8 _) | exact q_call E1 (hcf := Tryz.call50) rfl rfl | exact q_call I1 (hcf := Tryz.call42) rfl rfl | exact a_q) | (apply st_rif rfl; (case hq => first | exact a_i); all_goals (intro _; try (exfalso; first | omega | contradiction))) | (apply st_rw rfl rfl; case hq => first | exact a_store) | refine tri_true rfl ?_ | refine tri_false rfl ?_ | refine tri_block ?_ | refine tri_skip ?_ | refine tri_ret ?_ | refine tri_exit ?_)
    all_goals first
      | (refine And.intro trivial ?_
         conv => lhs; whnf
         rw [tokB, hab (by first | exact hc | (rw [hc, decide_eq_true ‹_›]; rfl))]
         rfl)
      | exact nextR (i + 1) ⟨by omega, hgs (by rw [hc, decide_eq_false ‹_›]; rfl)⟩ (weak_st ⟨rfl, rfl, rfl, rfl, trivial⟩ trivial) (show s.length - (i + 1) < s.length - i by omega)
  · repeat' (first | refine a_f ?_ | refine st_nil ?_ | refine tri_seq ?_ | refine tri_region rfl ?_ | refine a_draw ?_ | (apply st_r rfl; case hq => first | exact a_q) | (apply st_rif rfl; (case hq => first | exact a_i); all_goals (intro _; try (exfalso; first | omega | contradiction))) | (apply st_rw rfl rfl; case hq => first | exact a_store) | refine tri_true rfl ?_ | refine tri_false rfl ?_ | refine tri_block ?_ | refine tri_skip ?_ | refine tri_ret ?_ | refine tri_exit ?_)
    all_goals
      refine And.intro trivial ?_
      conv => lhs; whnf
      rw [tokB, all_good (by omega) hg]
      first | (rw [isE_f ‹_›]; rfl) | (rw [isE_t ‹_›]; rfl)
end Go.Proofs.YtignjjnflcpiiaaGreatDoor
