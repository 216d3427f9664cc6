/- What packed, lines, pick and TextBack compute, walked. -/
import Derived.Test.YtignjjnflcpiiaaDoorPackW
import Derived.Test.YtignjjnflcpiiaaDoorUnquoteW
import Derived.BigQuiet
import Derived.Deep.QuietTactic
namespace Go.Proofs.YtignjjnflcpiiaaDoor
open Go.RowKit

/-! the four functions at texts, as lists -/
theorem pack_facts : pack [77] = [84, 81, 61, 61, 13, 10] ∧ unpack [84, 87, 70, 117] = some [77, 97, 110] ∧ quote [97, 61, 98, 32] = [97, 61, 51, 68, 98, 61, 50, 48] := by decide +kernel

set_option maxHeartbeats 1000000 in
set_option maxRecDepth 100000 in
theorem packed_any (w : World) : Calls Tryd.prog 9 #[] w fun e w' => e = .returned (.bool true) ∧ Below w.heap.size w w' := by
  obtain ⟨f1, f2, f3⟩ := pack_facts
  have H1 : ∀ w : World, Calls Tryd.prog 12 #[.string ⟨#[84, 87, 70, 117]⟩] w fun e w' => e = .returned (.tuple #[.string ⟨#[77, 97, 110]⟩, .nilIface]) ∧ Below w.heap.size w w' := by
    intro w
    have := unpack_any ⟨#[84, 87, 70, 117]⟩ w (by decide)
    rw [show (⟨#[84, 87, 70, 117]⟩ : ByteArray).data.toList = [84, 87, 70, 117] from rfl, f2] at this
    exact this
  have H2 : ∀ w : World, Calls Tryd.prog 10 #[.string ⟨#[77]⟩] w fun e w' => e = .returned (.string ⟨#[84, 81, 61, 61, 13, 10]⟩) ∧ Below w.heap.size w w' := by
    intro w
    have := pack_any ⟨#[77]⟩ w (by decide)
    rw [show (⟨#[77]⟩ : ByteArray).data.toList = [77] from rfl, f1] at this
    exact this
  have H3 : ∀ w : World, Calls Tryd.prog 11 #[.string ⟨#[97, 61, 98, 32]⟩] w fun e w' => e = .returned (.string ⟨#[97, 61, 51, 68, 98, 61, 50, 48]⟩) ∧ Below w.heap.size w w' := by
    intro w
    have := quote_any ⟨#[97, 61, 98, 32]⟩ w (by decide)
    rw [show (⟨#[97, 61, 98, 32]⟩ : ByteArray).data.toList = [97, 61, 98, 32] from rfl, f3] at this
    exact this
  have H1 := hid H1
  have H2 := hid H2
  have H3 := hid H3
  clear f1 f2 f3
  go_enter Tryd.func9, Tryd.ntmps9
  go_wp2_with fail
  refine (H1.out _).mono ?_
  rintro e w1 ⟨rfl, b1⟩
  go_wp2_with fail
  refine (H2.out _).mono ?_
  rintro e w2 ⟨rfl, b2⟩
  go_wp2_with fail
  refine (H3.out _).mono ?_
  rintro e w3 ⟨rfl, b3⟩
  go_wp2_with fail
  go_ret
  exact ⟨rfl, b1.trans ((b2.mono b1.size).trans (b3.mono (Nat.le_trans b1.size b2.size)))⟩

theorem okCh_iff (c : UInt8) : okCh c = true ↔ (32 ≤ c.toNat ∧ c.toNat ≤ 126) ∨ c.toNat = 9 := by
  have h9 : c = 9 ↔ c.toNat = 9 := by
    constructor
    · rintro rfl; rfl
    · intro h; apply UInt8.toNat_inj.1; rw [h]; rfl
  simp [okCh, UInt8.le_iff_toNat_le, h9]

theorem mem_data {s : ByteArray} {j : Nat} (h : j < s.size) : s[j] ∈ s.data.toList := by
  have hl : j < s.data.toList.length := by rw [← Lib.size_eq]; exact h
  exact List.getElem_mem hl

set_option maxHeartbeats 4000000 in
set_option maxRecDepth 100000 in
theorem lines_any (s : ByteArray) (m : Int) (w : World) (hs : s.size < 4294967281) (hm : w.cell? ⟨0, 0, none⟩ = some (.int .i64 m)) (hok : linesOk s.data.toList = true) :
    Calls Tryd.prog 14 #[.string s] w fun e w' => e = .returned (.bool true) ∧ Below w.heap.size w w' := by
  obtain ⟨ls, hls, hcs⟩ := split_any s m w hs hm
  have Hcs := hid hcs; clear hcs
  have hgood : ∀ k (hk : k < ls.length), goodLine (ls[k]'hk).data.toList = true := by
    intro k hk
    rw [linesOk, ← hls, List.all_eq_true] at hok
    exact hok _ (List.mem_map.2 ⟨_, List.getElem_mem hk, rfl⟩)
  have Hgood := hid hgood
  clear hgood hok
  have Hls := hid hls; clear hls
  go_enter Tryd.func14, Tryd.ntmps14
  go_wp2_with fail
  refine Hcs.out.mono ?_
  rintro e W1 ⟨rfl, hW1⟩
  have hb1 : Below w.heap.size w W1 := by rw [hW1]; exact (Below.refl _ w).alloc (Nat.le_refl _) _
  have hcell : ∀ k (hk : k < ls.length), W1.cell? ⟨w.heap.size, k, none⟩ = some (.string (ls[k]'hk)) := by
    intro k hk
    rw [hW1, World.cell?_alloc_mark]
    simp [hk]
  clear hW1
  have Hcell := hid hcell; clear hcell
  have hmx : ls.length ≤ 4294967300 := by
    have := splitC_sum s.data.toList
    rw [← Hls.out, ← Lib.size_eq, List.length_map] at this
    omega
  go_wp2_with fail
  go_loop [10] (fun i => ∃ k : Nat, k ≤ ls.length ∧ i = .int .i64 k) (fun i => ls.length - (intOf i).toNat)
  case atStart => exact ⟨0, Nat.zero_le _, rfl⟩
  case round =>
    obtain ⟨k, hk, rfl⟩ := hrel
    by_cases hkl : k < ls.length
    · have hcl := Hcell.out k hkl
      have hg := Hgood.out k hkl
      obtain ⟨l, hl⟩ : ∃ l, l = ls[k]'hkl := ⟨_, rfl⟩
      rw [← hl] at hcl hg
      clear hl
      simp only [goodLine, Bool.and_eq_true, decide_eq_true_eq, Bool.not_eq_true', Bool.or_eq_false_iff, List.all_eq_true] at hg
      obtain ⟨⟨hg1, hg2, hg3⟩, hg4⟩ := hg
      have Hg4 := hid hg4
      have hl76 : l.size ≤ 76 := by rw [Lib.size_eq]; exact hg1
      have hd76 : decide ((76 : Int) < l.size) = false := decide_eq_false (by omega)
      have hs1 : ∀ w : World, Calls Tryd.prog 50 #[.string l, .string ⟨#[32]⟩] w fun e w' => e = .returned (.bool false) ∧ w = w' := by
        intro w
        refine (Tryd.strings_HasSuffix l ⟨#[32]⟩ w (by omega)).mono ?_
        rintro e w' ⟨rfl, rfl⟩
        refine ⟨?_, rfl⟩
        rw [show (⟨#[32]⟩ : ByteArray).data.toList = [32] from rfl, hasSuffix_one, hg2]
      have hs2 : ∀ w : World, Calls Tryd.prog 50 #[.string l, .string ⟨#[9]⟩] w fun e w' => e = .returned (.bool false) ∧ w = w' := by
        intro w
        refine (Tryd.strings_HasSuffix l ⟨#[9]⟩ w (by omega)).mono ?_
        rintro e w' ⟨rfl, rfl⟩
        refine ⟨?_, rfl⟩
        rw [show (⟨#[9]⟩ : ByteArray).data.toList = [9] from rfl, hasSuffix_one, hg3]
      have Hs1 := hid hs1
      have Hs2 := hid hs2
      clear hs1 hs2 hg1 hg2 hg3 hg4
      go_wp2_with fail
      refine (Hs1.out _).mono ?_
      rintro e w1 ⟨rfl, rfl⟩
      go_wp2_with fail
      refine (Hs2.out _).mono ?_
      rintro e w1 ⟨rfl, rfl⟩
      go_wp2_with fail
      go_loop [5] (fun i => ∃ j : Nat, j ≤ l.size ∧ i = .int .i64 j) (fun i => l.size - (intOf i).toNat)
      case atStart => exact ⟨0, Nat.zero_le _, rfl⟩
      case round =>
        obtain ⟨j, hj, rfl⟩ := hrel
        by_cases hjl : j < l.size
        · have hc := (okCh_iff _).1 (Hg4.out (l[j]'hjl) (mem_data hjl))
          have hcc : (32 ≤ (l[j]'hjl).toNat ∧ (l[j]'hjl).toNat ≤ 126) ∨ ((l[j]'hjl).toNat < 32 ∧ (((l[j]'hjl).toNat : Int) != 9) = false) := by
            rcases hc with hc | hc
            · exact .inl hc
            · exact .inr ⟨by omega, by rw [hc]; rfl⟩
          clear hc
          rcases hcc with ⟨hc1, hc2⟩ | ⟨hc1, hc2⟩
          all_goals
            go_wp2_with fail
            go_round
            case rel => exact ⟨j + 1, by omega, by go_num⟩
            case measure => simp [intOf]; omega
        · go_wp2_with fail
          go_round
          case rel => exact ⟨k + 1, by omega, by go_num⟩
          case measure => simp [intOf]; omega
    · go_wp2_with fail
      go_ret
      exact ⟨rfl, hb1⟩

set_option maxHeartbeats 1000000 in
theorem pick_any (a n : Int) (w : World) (h1 : 1 ≤ n) (h2 : n ≤ 1000000000) :
    Calls Tryd.prog 15 #[.int .i64 a, .int .i64 n] w fun e w' => (∃ k : Nat, (k : Int) < n ∧ e = .returned (.int .i64 k)) ∧ w = w' := by
  go_enter Tryd.func15, Tryd.ntmps15
  go_wp2
  go_ret
  have h0 := wrap_u64_nonneg a
  have h3 : (IntKind.u64.wrap a).tmod n = (IntKind.u64.wrap a) % n := Int.tmod_eq_emod_of_nonneg h0
  have h4 : 0 ≤ (IntKind.u64.wrap a) % n := Int.emod_nonneg _ (by omega)
  have h5 : (IntKind.u64.wrap a) % n < n := Int.emod_lt_of_pos _ (by omega)
  refine ⟨⟨((IntKind.u64.wrap a) % n).toNat, by omega, ?_⟩, rfl⟩
  show Ending.returned (Value.int .i64 (wrap64 ((IntKind.u64.wrap a).tmod n))) = _
  rw [h3, IntWalk.wrap64_in _ (by omega), Int.toNat_of_nonneg h4]

theorem quoteGo_len (b : B) : ∀ line, (quoteGo line b).length ≤ 6 * b.length := by
  induction b with
  | nil => intro line; simp [quoteGo]
  | cons c r ih =>
    intro line
    have h1 := (enc1_ok c r.isEmpty).2.1
    have h2 := ih (enc1 c r.isEmpty).length
    have h3 := ih (line + (enc1 c r.isEmpty).length)
    rw [quoteGo]
    split
    · simp; omega
    · simp; omega
theorem quote_len (b : B) : (quote b).length ≤ 6 * b.length := quoteGo_len b 0

theorem cell_lt {w : World} {a : Addr} {v : Value} (h : w.cell? a = some v) : a.block < w.heap.size := by
  rcases Nat.lt_or_ge a.block w.heap.size with h' | h'
  · exact h'
  · simp [World.cell?, Array.getElem?_eq_none h'] at h

theorem take_str (S : ByteArray) (k : Nat) : (S.extract 0 k).data.toList = S.data.toList.take k := by simp
theorem drop_str (S : ByteArray) (k : Nat) : (S.extract k S.size).data.toList = S.data.toList.drop k := by
  have : (S.data.toList.drop k).length ≤ S.size - k := by rw [List.length_drop, ← Lib.size_eq]; exact Nat.le_refl _
  simp [List.take_of_length_le this]
theorem at_str {T : ByteArray} {j : Nat} (h : j < T.size) : T.data.toList[j]? = some T[j] := by
  rw [List.getElem?_eq_getElem (by rw [← Lib.size_eq]; exact h)]; rfl
theorem byte_eq {c : UInt8} {n : Nat} (hn : n < 256) : c = UInt8.ofNat n ↔ c.toNat = n := by
  constructor
  · rintro rfl; simp; omega
  · intro h; apply UInt8.toNat_inj.1; rw [h]; simp; omega
theorem adj_le (t : B) (k : Nat) : adj1 t k ≤ k ∧ adj2 t k ≤ k ∧ adj3 t k ≤ k ∧ adj4 t k ≤ k := by
  unfold adj1 adj2 adj3 adj4
  refine ⟨?_, ?_, ?_, ?_⟩ <;> split <;> omega
theorem str_cat (a b c : ByteArray) : (a ++ b ++ c).data.toList = a.data.toList ++ b.data.toList ++ c.data.toList := by simp

theorem cut_size (S x : ByteArray) (k : Nat) (h : k ≤ S.size) : (S.extract 0 k ++ x ++ S.extract k S.size).size = S.size + x.size := by
  rw [Lib.size_eq, str_cat, take_str, drop_str, List.length_append, List.length_append, List.length_take, List.length_drop, ← Lib.size_eq, ← Lib.size_eq]
  omega

set_option maxHeartbeats 8000000 in
set_option maxRecDepth 100000 in
theorem textBack_walk (b : ByteArray) (cut : Int) (m : Int) (w : World) (hm : w.cell? ⟨0, 0, none⟩ = some (.int .i64 m)) (hb15 : b.size ≤ 1500) :
    Calls Tryd.prog 3 #[.string b, .int .i64 cut] w fun e w' => e = .returned (.bool true) ∧ Below w.heap.size w w' := by
  have hgl := cell_lt hm
  have Hml : Hid (∀ W : World, Below w.heap.size w W → W.cell? ⟨0, 0, none⟩ = some (.int .i64 m)) := fun W hW => by
    rw [hW.cell hgl]; exact hm
  clear hm
  obtain ⟨S, hS⟩ : ∃ S : ByteArray, S = ⟨(pack b.data.toList).toArray⟩ := ⟨_, rfl⟩
  obtain ⟨T, hT⟩ : ∃ T : ByteArray, T = ⟨(quote b.data.toList).toArray⟩ := ⟨_, rfl⟩
  have HSd : Hid (S.data.toList = pack b.data.toList) := by rw [hS]; rfl
  have HTd : Hid (T.data.toList = quote b.data.toList) := by rw [hT]; rfl
  have hSz : S.size ≤ 9000 := by
    rw [Lib.size_eq, HSd.out]
    have := pack_len b.data.toList
    rw [← Lib.size_eq] at this; omega
  have hTz : T.size ≤ 9000 := by
    rw [Lib.size_eq, HTd.out]
    have := quote_len b.data.toList
    rw [← Lib.size_eq] at this; omega
  have Hpack : Hid (∀ W, Calls Tryd.prog 10 #[.string b] W fun e w' => e = .returned (.string S) ∧ Below W.heap.size W w') := fun W => by
    rw [hS]; exact pack_any b W (by omega)
  have Hquote : Hid (∀ W, Calls Tryd.prog 11 #[.string b] W fun e w' => e = .returned (.string T) ∧ Below W.heap.size W w') := fun W => by
    rw [hT]; exact quote_any b W (by omega)
  clear hS hT
  have hbb : (⟨b.data.toList.toArray⟩ : ByteArray) = b := by cases b; simp
  have Hunp : Hid (∀ (X : ByteArray) (W : World), X.size ≤ 10000 → unpack X.data.toList = some b.data.toList → Calls Tryd.prog 12 #[.string X] W fun e w' => e = .returned (.tuple #[.string b, .nilIface]) ∧ Below W.heap.size W w') := fun X W hX hu => by
    have := unpack_any X W (by omega)
    rw [hu, resT, hbb] at this
    exact this
  have Hunq : Hid (∀ (X : ByteArray) (W : World), X.size ≤ 10000 → Below w.heap.size w W → unquote X.data.toList = some b.data.toList → Calls Tryd.prog 13 #[.string X] W fun e w' => e = .returned (.tuple #[.string b, .nilIface]) ∧ Below W.heap.size W w') := fun X W hX hW hu => by
    have := unquote_any X m W (by omega) (Hml.out W hW)
    rw [hu, resT, hbb] at this
    exact this
  clear hbb
  have hbeq : (b.toList != b.toList) = false := by simp
  go_enter Tryd.func3, Tryd.ntmps3
  go_wp2_with fail
  refine (packed_any _).mono ?_
  rintro e w1 ⟨rfl, b1⟩
  go_wp2_with fail
  refine (Hpack.out _).mono ?_
  rintro e w2 ⟨rfl, b2'⟩
  have b2 := b1.trans (b2'.mono b1.size)
  clear b2' b1
  go_wp2_with fail
  refine (Hquote.out _).mono ?_
  rintro e w3 ⟨rfl, b3'⟩
  have b3 := b2.trans (b3'.mono b2.size)
  clear b3' b2
  go_wp2_with fail
  refine (Hunp.out S _ (by omega) (by rw [HSd.out]; exact unpack_pack _)).mono ?_
  rintro e w4 ⟨rfl, b4'⟩
  have b4 := b3.trans (b4'.mono b3.size)
  clear b4' b3
  go_wp2_with fail
  refine (Hunq.out T _ (by omega) b4 (by rw [HTd.out]; exact unquote_quote _)).mono ?_
  rintro e w5 ⟨rfl, b5'⟩
  have b5 := b4.trans (b5'.mono b4.size)
  clear b5' b4
  go_wp2_with fail
  refine (lines_any S m _ (by omega) (Hml.out _ b5) (by rw [HSd.out]; exact lines_pack _)).mono ?_
  rintro e w6 ⟨rfl, b6'⟩
  have b6 := b5.trans (b6'.mono b5.size)
  clear b6' b5
  go_wp2_with fail
  refine (lines_any T m _ (by omega) (Hml.out _ b6) (by rw [HTd.out]; exact lines_quote _)).mono ?_
  rintro e w7 ⟨rfl, b7'⟩
  have b7 := b6.trans (b7'.mono b6.size)
  clear b7' b6
  go_wp2_with fail
  refine (pick_any _ _ _ (by omega) (by omega)).mono ?_
  rintro e w8 ⟨⟨k, hk, rfl⟩, rfl⟩
  have hkS : k ≤ S.size := by omega
  have hX1 : (S.extract 0 k ++ ⟨#[32, 13, 10, 9]⟩ ++ S.extract k S.size).size ≤ 10000 := by
    rw [cut_size _ _ _ hkS]; have : (⟨#[32, 13, 10, 9]⟩ : ByteArray).size = 4 := rfl
    omega
  have hX2 : unpack (S.extract 0 k ++ ⟨#[32, 13, 10, 9]⟩ ++ S.extract k S.size).data.toList = some b.data.toList := by
    rw [str_cat, take_str, drop_str, HSd.out, show (⟨#[32, 13, 10, 9]⟩ : ByteArray).data.toList = [32, 13, 10, 9] from rfl, unpack_ws _ [32, 13, 10, 9] _ (by decide), List.take_append_drop]
    exact unpack_pack _
  have hn1 : (9223372036854775807 < k + 4) = False := eq_false (by omega)
  have hn2 : (9223372036854775807 < k + 4 + (S.size - k)) = False := eq_false (by omega)
  go_upto_region 11 with fail
  go_cut [12, 13] (fun v v2 wx => v = .string b ∧ v2 = .nilIface ∧ Below w.heap.size w wx)
  case first =>
    go_region_law (first | (go_simp; go_at_call 12; refine (Hunp.out _ _ hX1 hX2).mono ?_; rintro e w9 ⟨rfl, b9⟩))
    all_goals
      go_wp2_with fail
      go_meet
      exact ⟨rfl, rfl, b7.drew.trans (b9.mono b7.size)⟩
  case rest =>
    obtain ⟨rfl, rfl, b8⟩ := hcut
    clear hn1 hn2 hX1 hX2 hkS
    go_wp2_with fail
    refine (pick_any _ _ _ (by omega) (by omega)).mono ?_
    rintro e w9 ⟨⟨k, hk, rfl⟩, rfl⟩
    go_wp2_with fail
    go_loop [11, 14] (fun a i => ∃ n k' : Nat, a = .int .i64 k' ∧ i = .int .i64 n ∧ k' ≤ T.size ∧ ((n = 1 ∧ k' = k) ∨ (n = 2 ∧ k' = adj1 (quote b.data.toList) k) ∨ (n = 3 ∧ k' = adj2 (quote b.data.toList) (adj1 (quote b.data.toList) k)))) (fun _ i => 3 - (intOf i).toNat)
    case atStart => exact ⟨1, k, rfl, rfl, by omega, .inl ⟨rfl, rfl⟩⟩
    case round =>
      obtain ⟨n, k', rfl, rfl, hk', hc⟩ := hrel
      rcases hc with ⟨rfl, rfl⟩ | ⟨rfl, hi⟩ | ⟨rfl, hkk⟩
      · obtain ⟨t, ht⟩ : ∃ t, t = quote b.data.toList := ⟨_, rfl⟩
        rw [← ht]
        rw [← ht] at HTd
        rcases k' with _ | j
        · go_wp2_with fail
          go_round
          case rel => exact ⟨2, 0, rfl, by go_num, by omega, .inr (.inl ⟨rfl, by simp [adj1]⟩)⟩
          case measure => simp [intOf]
        · have hj : j < T.size := by omega
          have hjt := at_str hj
          rw [HTd.out] at hjt
          by_cases hb : (T[j]'hj).toNat = 61
          · have hbe : (((T[j]'hj).toNat : Int) == 61) = true := by rw [hb]; rfl
            have hv : adj1 t (j + 1) = j := by
              unfold adj1
              rw [if_pos ⟨by omega, by rw [show j + 1 - 1 = j from rfl, hjt]; exact congrArg some ((byte_eq (n := 61) (by omega)).2 hb)⟩]
              rfl
            clear hb hjt
            go_wp2_with fail
            go_round
            case rel => exact ⟨2, j, by go_num, by go_num, by omega, .inr (.inl ⟨rfl, by rw [← ht]; exact hv.symm⟩)⟩
            case measure => simp [intOf]
          · have hbe : (((T[j]'hj).toNat : Int) == 61) = false := by simp; omega
            have hv : adj1 t (j + 1) = j + 1 := by
              unfold adj1
              rw [if_neg]
              rintro ⟨-, h⟩
              rw [show j + 1 - 1 = j from rfl, hjt] at h
              exact hb ((byte_eq (n := 61) (by omega)).1 (Option.some.inj h))
            clear hb hjt
            go_wp2_with fail
            go_round
            case rel => exact ⟨2, j + 1, by go_num, by go_num, by omega, .inr (.inl ⟨rfl, by rw [← ht]; exact hv.symm⟩)⟩
            case measure => simp [intOf]
      · obtain ⟨t, ht⟩ : ∃ t, t = quote b.data.toList := ⟨_, rfl⟩
        rw [← ht] at HTd hi
        have Hi := hid hi
        have Ht := hid ht
        clear ht hi
        rcases Nat.lt_or_ge k' 2 with hi2 | hi2
        · have hv : adj2 t k' = k' := by unfold adj2; rw [if_neg]; rintro ⟨h, -⟩; omega
          go_wp2_with fail
          go_round
          case rel => exact ⟨3, k', by go_num, by go_num, by omega, .inr (.inr ⟨rfl, by rw [← Ht.out, ← Hi.out]; exact hv.symm⟩)⟩
          case measure => simp [intOf]
        · obtain ⟨j, rfl⟩ : ∃ j, k' = j + 2 := ⟨k' - 2, by omega⟩
          have hj : j < T.size := by omega
          have hjt := at_str hj
          rw [HTd.out] at hjt
          by_cases hb : (T[j]'hj).toNat = 61
          · have hbe : (((T[j]'hj).toNat : Int) == 61) = true := by rw [hb]; rfl
            have hv : adj2 t (j + 2) = j := by
              unfold adj2
              rw [if_pos ⟨by omega, by rw [show j + 2 - 2 = j from rfl, hjt]; exact congrArg some ((byte_eq (n := 61) (by omega)).2 hb)⟩]
              rfl
            clear hb hjt
            go_wp2_with fail
            go_round
            case rel => exact ⟨3, j, by go_num, by go_num, by omega, .inr (.inr ⟨rfl, by rw [← Ht.out, ← Hi.out]; exact hv.symm⟩)⟩
            case measure => simp [intOf]
          · have hbe : (((T[j]'hj).toNat : Int) == 61) = false := by simp; omega
            have hv : adj2 t (j + 2) = j + 2 := by
              unfold adj2
              rw [if_neg]
              rintro ⟨-, h⟩
              rw [show j + 2 - 2 = j from rfl, hjt] at h
              exact hb ((byte_eq (n := 61) (by omega)).1 (Option.some.inj h))
            clear hb hjt
            go_wp2_with fail
            go_round
            case rel => exact ⟨3, j + 2, by go_num, by go_num, by omega, .inr (.inr ⟨rfl, by rw [← Ht.out, ← Hi.out]; exact hv.symm⟩)⟩
            case measure => simp [intOf]
      · obtain ⟨t, ht⟩ : ∃ t, t = quote b.data.toList := ⟨_, rfl⟩
        rw [← ht] at HTd hkk
        have Hkk := hid hkk
        have Ht := hid ht
        clear ht hkk
        obtain ⟨c1, hc1⟩ : ∃ c1 : Bool, c1 = decide (0 < k' ∧ t[k' - 1]? = some 13) := ⟨_, rfl⟩
        have Hc1 := hid hc1
        clear hc1
        go_upto_region 20 with fail
        go_cut [116] (fun v wx => v = .bool c1 ∧ Below w.heap.size w wx)
        case first =>
          rcases k' with _ | j
          · go_wp2_with fail
            go_meet
            exact ⟨by rw [Hc1.out]; rfl, b8⟩
          · have hj : j < T.size := by omega
            have hjt := at_str hj
            rw [HTd.out] at hjt
            have hv : c1 = (((T[j]'hj).toNat : Int) == 13) := by
              rw [Hc1.out]
              rw [show j + 1 - 1 = j from rfl, hjt]
              by_cases hb : (T[j]'hj).toNat = 13
              · rw [(byte_eq (n := 13) (by omega)).2 hb]; rfl
              · have hbe : (((T[j]'hj).toNat : Int) == 13) = false := by simp; omega
                rw [hbe]
                refine decide_eq_false ?_
                rintro ⟨-, h⟩
                exact hb ((byte_eq (n := 13) (by omega)).1 (Option.some.inj h))
            have Hv := hid hv
            clear hv hjt
            go_wp2_with fail
            go_meet
            exact ⟨by rw [Hv.out], b8⟩
        case rest =>
          obtain ⟨rfl, b8⟩ := hcut
          go_upto_if 116 with fail
          go_cut [11] (fun v wx => v = .int .i64 (adj3 t k' : Nat) ∧ Below w.heap.size w wx)
          case first =>
            cases c1
            case true =>
              have hb := of_decide_eq_true Hc1.out.symm
              have hv : adj3 t k' = k' - 1 := by unfold adj3; rw [if_pos hb]
              have Hv := hid hv
              clear hv
              obtain ⟨hb1, -⟩ := hb
              go_wp2_with fail
              go_meet
              exact ⟨by rw [Hv.out]; congr 1; omega, b8⟩
            case false =>
              have hb := of_decide_eq_false Hc1.out.symm
              have hv : adj3 t k' = k' := by unfold adj3; rw [if_neg hb]
              have Hv := hid hv
              clear hv hb
              go_wp2_with fail
              go_meet
              exact ⟨by rw [Hv.out], b8⟩
          case rest =>
            obtain ⟨hval, b8⟩ := hcut
            obtain ⟨y, hy⟩ : ∃ y, y = adj3 t k' := ⟨_, rfl⟩
            rw [← hy] at hval
            subst hval
            have hyl : y ≤ T.size := by
              have := adj_le t k'
              omega
            have Hy := hid hy
            clear hy
            obtain ⟨c2, hc2⟩ : ∃ c2 : Bool, c2 = decide (0 < y ∧ t[y - 1]? = some 61) := ⟨_, rfl⟩
            have Hc2 := hid hc2
            clear hc2
            go_upto_region 22 with fail
            go_cut [127] (fun v wx => v = .bool c2 ∧ Below w.heap.size w wx)
            case first =>
              rcases y with _ | j
              · go_wp2_with fail
                go_meet
                exact ⟨by rw [Hc2.out]; rfl, b8⟩
              · have hj : j < T.size := by omega
                have hjt := at_str hj
                rw [HTd.out] at hjt
                have hv : c2 = (((T[j]'hj).toNat : Int) == 61) := by
                  rw [Hc2.out]
                  rw [show j + 1 - 1 = j from rfl, hjt]
                  by_cases hb : (T[j]'hj).toNat = 61
                  · rw [(byte_eq (n := 61) (by omega)).2 hb]; rfl
                  · have hbe : (((T[j]'hj).toNat : Int) == 61) = false := by simp; omega
                    rw [hbe]
                    refine decide_eq_false ?_
                    rintro ⟨-, h⟩
                    exact hb ((byte_eq (n := 61) (by omega)).1 (Option.some.inj h))
                have Hv := hid hv
                clear hv hjt
                go_wp2_with fail
                go_meet
                exact ⟨by rw [Hv.out], b8⟩
            case rest =>
              obtain ⟨rfl, b8⟩ := hcut
              go_upto_if 127 with fail
              go_cut [11] (fun v wx => v = .int .i64 (adj4 t y : Nat) ∧ Below w.heap.size w wx)
              case first =>
                cases c2
                case true =>
                  have hb := of_decide_eq_true Hc2.out.symm
                  have hv : adj4 t y = y - 1 := by unfold adj4; rw [if_pos hb]
                  have Hv := hid hv
                  clear hv
                  obtain ⟨hb1, -⟩ := hb
                  go_wp2_with fail
                  go_meet
                  exact ⟨by rw [Hv.out]; congr 1; omega, b8⟩
                case false =>
                  have hb := of_decide_eq_false Hc2.out.symm
                  have hv : adj4 t y = y := by unfold adj4; rw [if_neg hb]
                  have Hv := hid hv
                  clear hv hb
                  go_wp2_with fail
                  go_meet
                  exact ⟨by rw [Hv.out], b8⟩
              case rest =>
                obtain ⟨hval, b8⟩ := hcut
                obtain ⟨z, hz⟩ : ∃ z, z = adj4 t y := ⟨_, rfl⟩
                rw [← hz] at hval
                subst hval
                have hzl : z ≤ T.size := by
                  have := adj_le t y
                  omega
                have Hz := hid hz
                clear hz
                have hX1 : (T.extract 0 z ++ ⟨#[61, 13, 10]⟩ ++ T.extract z T.size).size ≤ 10000 := by
                  rw [cut_size _ _ _ hzl]; have : (⟨#[61, 13, 10]⟩ : ByteArray).size = 3 := rfl
                  omega
                have hX2 : unquote (T.extract 0 z ++ ⟨#[61, 13, 10]⟩ ++ T.extract z T.size).data.toList = some b.data.toList := by
                  have h := unquote_cut b.data.toList k (by rw [← Ht.out, ← HTd.out, ← Lib.size_eq]; omega)
                  rw [← Ht.out] at h
                  unfold adj at h
                  rw [← Hkk.out, ← Hy.out, ← Hz.out, ← HTd.out] at h
                  rw [str_cat, take_str, drop_str]
                  exact h
                have hn1 : (9223372036854775807 < z + 3) = False := eq_false (by omega)
                have hn2 : (9223372036854775807 < z + 3 + (T.size - z)) = False := eq_false (by omega)
                go_upto_region 24 with fail
                go_cut [15, 13] (fun v v2 wx => v = .string b ∧ v2 = .nilIface ∧ Below w.heap.size w wx)
                case first =>
                  go_region_law (first | (go_simp; go_at_call 13; refine (Hunq.out _ _ hX1 b8.drew hX2).mono ?_; rintro e w9 ⟨rfl, b9⟩))
                  all_goals
                    go_wp2_with fail
                    go_meet
                    exact ⟨rfl, rfl, b8.drew.trans (b9.mono b8.size)⟩
                case rest =>
                  obtain ⟨rfl, rfl, b9⟩ := hcut
                  have hbe2 : (b.toList == b.toList) = true := by simp
                  clear hn1 hn2 hX1 hX2
                  go_wp2_with fail
                  go_ret
                  exact ⟨rfl, b9⟩
end Go.Proofs.YtignjjnflcpiiaaDoor
