import Derived.Test.YtignjjnflcpiiabGreatDoorZEr
import Derived.Below
import Derived.Handy
import Derived.Lib.ConvBytes
import Derived.Test.YtignjjnflcpiiabGreatDoorZHeadB
import Derived.Test.YtignjjnflcpiiabGreatDoorZGx
import Derived.Test.YtignjjnflcpiiabGreatDoorZPlain1
set_option linter.unusedVariables false
set_option linter.unusedSimpArgs false
set_option maxHeartbeats 1000000
namespace Go.Proofs.YtignjjnflcpiiabGreatDoor
open Go.RowKit
def lowC (c : UInt8) : UInt8 := if 65 ≤ c.toNat ∧ c.toNat ≤ 90 then c + 32 else c
def lowB (s : List UInt8) : List UInt8 := s.map lowC
theorem lowC_in {c : UInt8} (h : 65 ≤ c.toNat ∧ c.toNat ≤ 90) : ((lowC c).toNat : Int) = (c.toNat : Int) + 32 := by
  rw [lowC, if_pos h, UInt8.toNat_add]
  have : (32 : UInt8).toNat = 32 := rfl
  rw [this]; omega
theorem lowC_out {c : UInt8} (h : ¬ (65 ≤ c.toNat ∧ c.toNat ≤ 90)) : lowC c = c := by rw [lowC, if_neg h]
def LowAt (w : World) (nb : Nat) (s : ByteArray) (k : Nat) : Prop :=
  ∃ C : Array Value, w.heap[nb]? = some (.cells C 5 (C.size, C.size + 1)) ∧ s.size ≤ C.size ∧ ∀ j (hj : j < s.size), C[j]? = some (.int .u8 ((if j < k then lowC s[j] else s[j]).toNat : Int))
theorem LowAt.cell {w : World} {nb k : Nat} {s : ByteArray} (h : LowAt w nb s k) (hk : k < s.size) : w.cell? ⟨nb, k, none⟩ = some (.int .u8 (s[k].toNat : Int)) := by
  obtain ⟨C, h1, h2, h3⟩ := h
  have := h3 k hk
  rw [if_neg (Nat.lt_irrefl _)] at this
  simp [World.cell?, h1, this]
theorem LowAt.thaw {w : World} {nb k : Nat} {s : ByteArray} (h : LowAt w nb s k) (hk : k < s.size) : w.frozen? ⟨nb, k, none⟩ = false := by
  obtain ⟨C, h1, h2, h3⟩ := h
  simp [World.frozen?, h1]; omega
theorem LowAt.step {w : World} {nb k : Nat} {s : ByteArray} (h : LowAt w nb s k) (hk : k < s.size) {v : Int} (hv : v = ((lowC s[k]).toNat : Int)) : LowAt (w.setCell ⟨nb, k, none⟩ (.int .u8 v)) nb s (k + 1) := by
  obtain ⟨C, h1, h2, h3⟩ := h
  refine ⟨C.setIfInBounds k (.int .u8 v), ?_, by simpa using h2, fun j hj => ?_⟩
  · have hnb : nb < w.heap.size := by
      rcases Nat.lt_or_ge nb w.heap.size with h | h
      · exact h
      · rw [Array.getElem?_eq_none h] at h1; cases h1
    have h1' : w.heap[nb] = .cells C 5 (C.size, C.size + 1) := by rw [Array.getElem?_eq_getElem hnb] at h1; exact Option.some.inj h1
    simp only [World.setCell, Array.getElem?_modify, Array.size_setIfInBounds]
    simp [h1]
  · have := h3 j hj
    by_cases hjk : j = k
    · subst hjk
      rw [Array.getElem?_setIfInBounds_self_of_lt (by omega), if_pos (by omega), hv]
    · rw [Array.getElem?_setIfInBounds_ne (Ne.symm hjk), this]
      by_cases h : j < k
      · rw [if_pos h, if_pos (by omega)]
      · rw [if_neg h, if_neg (by omega)]
theorem LowAt.stay {w : World} {nb k : Nat} {s : ByteArray} (h : LowAt w nb s k) (hk : k < s.size) (hv : lowC s[k] = s[k]) : LowAt w nb s (k + 1) := by
  obtain ⟨C, h1, h2, h3⟩ := h
  refine ⟨C, h1, h2, fun j hj => ?_⟩
  rw [h3 j hj]
  by_cases h : j < k
  · rw [if_pos h, if_pos (by omega)]
  · by_cases hjk : j = k
    · subst hjk; rw [if_neg h, if_pos (by omega), hv]
    · rw [if_neg h, if_neg (by omega)]
set_option maxHeartbeats 1000000 in
theorem small_any (s : ByteArray) (w : World) (hs : s.size ≤ 1099511627776) :
    Calls Tryz.prog 49 #[.string s] w fun e w' => e = .returned (.string ⟨(lowB s.data.toList).toArray⟩) ∧ Below w.heap.size w w' := by
  have cv := Lib.run_convert_string_bytes (P := Tryz.prog) w 9 80 5 s Tryz.underlying9 Tryz.underlying80 Tryz.underlying5
  have hb0 : Below w.heap.size w (Lib.bytesWorld w 5 s) := ⟨rfl, rfl, rfl, by rw [Lib.bytesWorld_size]; omega, fun k hk => Lib.bytesWorld_at_old w 5 s k hk⟩
  have hl0 : LowAt (Lib.bytesWorld w 5 s) w.heap.size s 0 := ⟨_, Lib.bytesWorld_at_new w 5 s, by simp [Lib.bytesCells], fun j hj => by
    rw [if_neg (Nat.not_lt_zero _)]
    have hj' : j < s.data.size := hj
    simp [Lib.bytesCells, Array.getElem?_append, hj', hj]
    rfl⟩
  generalize Lib.bytesWorld w 5 s = W0 at cv hb0 hl0
  go_enter Tryz.func49, Tryz.ntmps49
  go_wp2_with fail
  go_loopw [10] (fun i wr => ∃ (k : Nat), k ≤ s.size ∧ i = .int .i64 k ∧ Below w.heap.size w wr ∧ LowAt wr w.heap.size s k) (fun i _ => s.size - (intOf i).toNat)
  case atStart => exact ⟨0, Nat.zero_le _, rfl, hb0, hl0⟩
  case round =>
    obtain ⟨k, hk, rfl, hb, hl⟩ := hrel
    by_cases hks : k < s.size
    · have hc := hl.cell hks
      have hf := hl.thaw hks
      have hlt : (s[k]'hks).toNat < 256 := (s[k]'hks).toNat_lt
      by_cases h1 : 65 ≤ (s[k]'hks).toNat
      · by_cases h2 : (s[k]'hks).toNat ≤ 90
        · have q1 : decide ((65 : Int) ≤ ((s[k]'hks).toNat : Int)) = true := decide_eq_true (by omega)
          have q2 : decide (((s[k]'hks).toNat : Int) ≤ 90) = true := decide_eq_true (by omega)
          have hst := hl.step hks (v := ((s[k]'hks).toNat : Int) + 32) (by rw [lowC_in ⟨h1, h2⟩])
          have hw8 : IntKind.u8.wrap (((s[k]'hks).toNat : Int) + 32) = ((s[k]'hks).toNat : Int) + 32 := IntWalk.u8_in _ (by omega)
          have Hst := hid hst
          clear hst hl
          go_wp2_with fail
          go_roundw
          case rel => exact ⟨k + 1, by omega, by go_num, hb.setCell (Nat.le_refl _) _, Hst.out⟩
          case measure => simp [intOf]; omega
        · have q1 : decide ((65 : Int) ≤ ((s[k]'hks).toNat : Int)) = true := decide_eq_true (by omega)
          have q2 : decide (((s[k]'hks).toNat : Int) ≤ 90) = false := decide_eq_false (by omega)
          have Hst := hid (hl.stay hks (lowC_out (by omega)))
          clear hl
          go_wp2_with fail
          go_roundw
          case rel => exact ⟨k + 1, by omega, by go_num, hb, Hst.out⟩
          case measure => simp [intOf]; omega
      · have q1 : decide ((65 : Int) ≤ ((s[k]'hks).toNat : Int)) = false := decide_eq_false (by omega)
        have Hst := hid (hl.stay hks (lowC_out (by omega)))
        clear hl
        go_wp2_with fail
        go_roundw
        case rel => exact ⟨k + 1, by omega, by go_num, hb, Hst.out⟩
        case measure => simp [intOf]; omega
    · have hk' : k = s.size := by omega
      subst hk'
      have hback := run_convert_bytes_back (P := Tryz.prog) wr 80 9 5 ⟨w.heap.size, 0, none⟩ (grownCap w s.size 0 5) (lowB s.data.toList) Tryz.underlying80 Tryz.underlying5 Tryz.underlying9 (fun j hj => by
        have hj' : j < s.size := by simpa [lowB] using hj
        obtain ⟨C, h1, h2, h3⟩ := hl
        have := h3 j hj'
        rw [if_pos hj'] at this
        have e : (lowB s.data.toList)[j] = lowC s[j] := by simp [lowB]; rfl
        rw [e]
        have ea : (⟨w.heap.size, 0, none⟩ : Addr).add j = ⟨w.heap.size, j, none⟩ := by cases j <;> simp [Addr.add]
        rw [ea]
        simp [World.cell?, h1, this])
      rw [show (lowB s.data.toList).length = s.size by simp [lowB]] at hback
      clear hl
      go_wp2_with fail
      go_ret
      exact ⟨rfl, hb⟩
end Go.Proofs.YtignjjnflcpiiabGreatDoor
namespace Go.Proofs.YtignjjnflcpiiabGreatDoor
open Go.RowKit
attribute [local irreducible] Tri Steps Qd Wr Weak CPure CEff
set_option maxRecDepth 100000
theorem small_c (s : B) (hs : s.length ≤ 100000000) : CPure gx 49 [.str s] (.str (lowB s)) :=
  cpure_val rfl rfl fun w _ => small_any ⟨s.toArray⟩ w (by rw [sizeMk]; omega)
theorem low_pos {c : UInt8} (h1 : (65 : Int) ≤ (c.toNat : Int)) (h2 : (c.toNat : Int) ≤ 90) : [[AV.int .u8 ((c.toNat : Int) + 32)]] = byteRows [lowC c] := by
  rw [← lowC_in ⟨by omega, by omega⟩]; rfl
theorem low_neg {c : UInt8} (h : ¬ ((65 : Int) ≤ (c.toNat : Int)) ∨ ¬ ((c.toNat : Int) ≤ 90)) : [[AV.int .u8 (c.toNat : Int)]] = byteRows [lowC c] := by
  rw [lowC_out (by omega)]; rfl
theorem low_step {s : B} {i : Nat} (hi : (i : Int) < s.length) : (s.take i).map lowC ++ [lowC (s.getD (i : Int).toNat 0)] = (s.take (i + 1)).map lowC := by
  have hi' : i < s.length := by omega
  rw [List.take_add_one, List.map_append, List.getElem?_eq_getElem hi', Int.toNat_natCast, List.getD_eq_getElem?_getD, List.getElem?_eq_getElem hi']
  rfl
set_option maxHeartbeats 2000000 in
theorem low_c (s : B) (hs : s.length ≤ 100000000) : CPure gx 16 [.str s] (.str (lowB s)) := by
  refine cpure_of Tryz.func16 rfl (Nat.le_of_ble_eq_true rfl) rfl (fun w hw => ?_)
  repeat' (first | refine a_f ?_ | refine st_nil ?_ | refine tri_seq ?_ | refine tri_region rfl ?_ | refine a_draw ?_ | (apply st_r rfl; case hq => first | exact a_lens | exact a_index | exact a_add | exact a_adds0 | exact a_addsc | exact a_adds | exact a_sub | exact a_slo | exact a_shi | exact a_slh | exact a_lensl | exact a_lenro | exact a_lennil | exact a_lenpts | exact a_field | exact a_fielde | exact a_fieldr | exact a_idxsl | exact a_load | exact a_loada | exact a_mki | exact a_build2 | exact a_build3 | exact a_build1 | exact a_build0 | exact a_bs1 | exact a_bs2 | exact a_bs3 | exact a_bs4 | exact a_bsa | exact a_boxr) | (apply st_rif rfl; (case hq => first | exact a_lss | exact a_gtr | exact a_eql | exact a_neq | exact a_eqls0 | exact a_neqs0 | exact a_eqls | exact a_neqs | exact a_leq | exact a_geq); all_goals (intro _; try (exfalso; first | omega | contradiction))) | (apply st_rw rfl rfl; case hq => first | exact a_store) | refine tri_true rfl ?_ | refine tri_false rfl ?_ | refine tri_block ?_ | refine tri_skip ?_ | refine tri_ret ?_ | refine tri_exit ?_)
  refine tri_loop (fun (i : Nat) => i ≤ s.length) (fun i => st [(0, .str s), (2, .str []), (3, .str ((s.take i).map lowC)), (7, .int .i64 s.length), (8, .int .i64 i)] []) (fun i => s.length - i) 0 (Nat.zero_le _) ?hw (fun i hi => ?_)
  case hw => exact weak_st ⟨rfl, rfl, rfl, rfl, rfl, trivial⟩ trivial
  repeat' (first | refine a_f ?_ | refine st_nil ?_ | refine tri_seq ?_ | refine tri_region rfl ?_ | refine a_draw ?_ | (apply st_r rfl; case hq => first | exact q_add (by conv => lhs; whnf) (by conv => lhs; whnf) (by exact IntWalk.u8_in _ (by omega)) | exact q_bstr [lowC (s.getD (i : Int).toNat 0)] (by conv => lhs; whnf) (by first | exact low_pos ‹_› ‹_› | exact low_neg (.inl ‹_›) | exact low_neg (.inr ‹_›)) (by first | exact Tryz.underlying22 | exact Tryz.underlying23 | exact Tryz.underlying56 | exact Tryz.underlying74 | exact Tryz.underlying80 | exact Tryz.underlying81 | exact Tryz.underlying157 | exact Tryz.underlying177 | exact Tryz.underlying211) Tryz.underlying5 (by kernel_rfl) | exact q_adds (by conv => lhs; whnf) (by conv => lhs; whnf) (by simp only [List.length_map, List.length_take, List.length_cons, List.length_nil]; omega) | exact a_lens | exact a_index | exact a_add | exact a_adds0 | exact a_addsc | exact a_adds | exact a_sub | exact a_slo | exact a_shi | exact a_slh | exact a_lensl | exact a_lenro | exact a_lennil | exact a_lenpts | exact a_field | exact a_fielde | exact a_fieldr | exact a_idxsl | exact a_load | exact a_loada | exact a_mki | exact a_build2 | exact a_build3 | exact a_build1 | exact a_build0 | exact a_bs1 | exact a_bs2 | exact a_bs3 | exact a_bs4 | exact a_bsa | exact a_boxr) | (apply st_rif rfl; (case hq => first | exact a_lss | exact a_gtr | exact a_eql | exact a_neq | exact a_eqls0 | exact a_neqs0 | exact a_eqls | exact a_neqs | exact a_leq | exact a_geq); all_goals (intro _; try (exfalso; first | omega | contradiction))) | (apply st_rw rfl rfl; case hq => first | exact a_store) | refine tri_true rfl ?_ | refine tri_false rfl ?_ | refine tri_block ?_ | refine tri_skip ?_ | refine tri_ret ?_ | refine tri_exit ?_)
  all_goals first
    | exact loop_next (i + 1) (by omega) (weak_st ⟨rfl, rfl, congrArg AV.str (low_step ‹_›), rfl, rfl, trivial⟩ trivial) (show s.length - (i + 1) < s.length - i by omega)
    | (refine And.intro trivial ?_
       conv => lhs; whnf
       rw [List.take_of_length_le (by omega)]
       rfl)
end Go.Proofs.YtignjjnflcpiiabGreatDoor
namespace Go.Proofs.YtignjjnflcpiiabGreatDoor
open Go.RowKit
def strRows (l : List (List UInt8)) : List (List AV) := l.map fun x => [.str x]
theorem sr_len (l : List (List UInt8)) : (strRows l).length = l.length := by simp [strRows]
theorem sr_at {l : List (List UInt8)} {i : Nat} (h : i < l.length) : ∃ x, l[i]? = some x ∧ x ∈ l ∧ l.drop i = x :: l.drop (i + 1) ∧ (strRows l)[(i : Int).toNat]? = some [.str x] := by
  refine ⟨l[i], List.getElem?_eq_getElem h, List.getElem_mem h, (List.drop_eq_getElem_cons h), ?_⟩
  simp [strRows, h]
theorem split_g (s sep : List UInt8) (hs : s.length < 4294967281) (h1 : 1 ≤ sep.length) : CPure gx 37 [.str s, .str sep] (.ro true 1 (strRows (Lib.split s sep))) :=
  cpure_lib rfl fun w hG hn => by
    obtain ⟨m, hm⟩ := hG.maxLen
    have hlen : (Lib.splitB ⟨sep.toArray⟩ 0 (Lib.countB ⟨s.toArray⟩ ⟨sep.toArray⟩) ⟨s.toArray⟩).length = Lib.countB ⟨s.toArray⟩ ⟨sep.toArray⟩ + 1 := Lib.splitB_all ⟨sep.toArray⟩ (by rw [sizeMk]; exact h1) 0 _ _ rfl
    have hd := Lib.splitB_data ⟨sep.toArray⟩ 0 (Lib.countB ⟨s.toArray⟩ ⟨sep.toArray⟩) ⟨s.toArray⟩
    refine (Tryz.strings_Split ⟨s.toArray⟩ ⟨sep.toArray⟩ m w (by rw [sizeMk]; exact hs) hm (by rw [sizeMk]; exact h1)).mono ?_
    rintro e w' ⟨rfl, rfl⟩
    generalize hls : Lib.splitB ⟨sep.toArray⟩ 0 (Lib.countB ⟨s.toArray⟩ ⟨sep.toArray⟩) ⟨s.toArray⟩ = ls at hlen hd
    have he : Lib.split s sep = ls.map (·.data.toList) := hd.symm
    rw [← hlen, he]
    refine ⟨_, rfl, (Below.refl _ w).alloc (Nat.le_refl _) _, .ro _ _ _ _ _ (.inr ⟨w.heap.size, 0, ls.length, fun i _ => (ls.map Value.string).getD i undef, ?_, ⟨fun h => h, fun _ => Nat.le_refl _⟩, ?_, by omega, ?_, fun i hi j hj => ?_, fun i hi => ?_, fun i hi j hj => ?_⟩)⟩
    · simp [strRows]
    · simp [strRows]; omega
    · simp [strRows]
    · have hi' : i < ls.length := by simpa [strRows] using hi
      have : 0 + i * 1 + j = i := by omega
      rw [this, World.cell?_alloc_new]
      simp [hi']
    · simp [strRows]
    · have hi' : i < ls.length := by simpa [strRows] using hi
      simp only [strRows, List.getElem_map, List.length_cons, List.length_nil] at hj ⊢
      have : j = 0 := by omega
      subst this
      simp only [List.getElem_cons_zero]
      rw [List.getD_eq_getElem?_getD, List.getElem?_map, List.getElem?_eq_getElem hi']
      simp only [Option.map_some, Option.getD_some]
      have := FRep.str ls[i].data.toList
      simpa using this
theorem split_C (s : List UInt8) : Lib.split s [13, 10] = splitC s := splitK_C _ _ (Nat.lt_succ_self _) _ (Nat.le_refl _)
theorem split_c (s : List UInt8) (hs : s.length < 4294967281) : CPure gx 37 [.str s, .str [13, 10]] (.ro true 1 (strRows (splitC s))) := by
  have h := split_g s [13, 10] hs (by decide)
  rw [split_C] at h
  exact h
end Go.Proofs.YtignjjnflcpiiabGreatDoor
