import Derived.Test.YtignjjnflcpiiaaGreatDoorWG16
import Derived.Test.YtignjjnflcpiiaaGreatDoorWPlain1
import Derived.Test.YtignjjnflcpiiaaGreatDoorWG30
import Derived.Deep.DeepCutAuto
set_option linter.unusedVariables false
set_option linter.unusedSimpArgs false
set_option maxHeartbeats 1000000
namespace Go.Proofs.YtignjjnflcpiiaaGreatDoor
open Go.RowKit
theorem isPlain_iff (c : UInt8) : isPlain c = true ↔ 33 ≤ c.toNat ∧ c.toNat ≤ 126 ∧ c.toNat ≠ 61 := by
  have h61 : c = 61 ↔ c.toNat = 61 := by
    constructor
    · rintro rfl; rfl
    · intro h; apply UInt8.toNat_inj.1; rw [h]; rfl
  simp [isPlain, UInt8.le_iff_toNat_le, h61, and_assoc]
set_option maxHeartbeats 400000 in
theorem plain_any (c : UInt8) (w : World) : Calls Tryz.prog 172 #[.int .u8 (c.toNat : Int)] w fun e w' => e = .returned (.bool (isPlain c)) ∧ w = w' := by
  by_cases h : isPlain c = true
  · obtain ⟨h1, h2, h3⟩ := (isPlain_iff c).1 h
    have h3' : ((c.toNat : Int) != 61) = true := by rw [bne_iff_ne]; omega
    rw [h]
    go_enter Tryz.func172, Tryz.ntmps172
    go_wp2
    go_ret
    exact ⟨rfl, rfl⟩
  · have h' : isPlain c = false := by simpa using h
    rw [isPlain_iff] at h
    rw [h']
    have h3 : c.toNat < 33 ∨ 126 < c.toNat ∨ (33 ≤ c.toNat ∧ c.toNat ≤ 126 ∧ ((c.toNat : Int) != 61) = false) := by
      by_cases h61 : c.toNat = 61
      · exact .inr (.inr ⟨by omega, by omega, by rw [h61]; rfl⟩)
      · omega
    clear h h'
    rcases h3 with h3 | h3 | ⟨h3, h4, h5⟩
    all_goals
      go_enter Tryz.func172, Tryz.ntmps172
      go_wp2
      all_goals first | omega | (go_ret; exact ⟨rfl, rfl⟩)
def hexB (c : UInt8) (last : Bool) : Bool := !isPlain c && (!isBl c || last)
theorem enc1_hexB (c : UInt8) (last : Bool) : enc1 c last = if hexB c last = true then hexs c else [c] := rfl
theorem u8_cases (c : UInt8) (n : Nat) (hn : n < 256) : ((c == UInt8.ofNat n) = true ∧ ((c.toNat : Int) != n) = false ∧ ((c.toNat : Int) == n) = true) ∨ ((c == UInt8.ofNat n) = false ∧ ((c.toNat : Int) != n) = true ∧ ((c.toNat : Int) == n) = false) := by
  by_cases h : c = UInt8.ofNat n
  · subst h
    refine .inl ⟨by simp, ?_, ?_⟩ <;> rw [UInt8.toNat_ofNat', Nat.mod_eq_of_lt hn] <;> simp
  · have h2 : c.toNat ≠ n := by
      intro e; apply h; apply UInt8.toNat_inj.1; rw [UInt8.toNat_ofNat', Nat.mod_eq_of_lt hn]; exact e
    refine .inr ⟨by simp [h], ?_, ?_⟩
    · rw [bne_iff_ne]; omega
    · exact beq_eq_false_iff_ne.2 (by omega)
theorem u8_32 (c : UInt8) : ((c == 32) = true ∧ ((c.toNat : Int) != 32) = false ∧ ((c.toNat : Int) == 32) = true) ∨ ((c == 32) = false ∧ ((c.toNat : Int) != 32) = true ∧ ((c.toNat : Int) == 32) = false) := u8_cases c 32 (by decide)
theorem u8_9 (c : UInt8) : ((c == 9) = true ∧ ((c.toNat : Int) != 9) = false ∧ ((c.toNat : Int) == 9) = true) ∨ ((c == 9) = false ∧ ((c.toNat : Int) != 9) = true ∧ ((c.toNat : Int) == 9) = false) := u8_cases c 9 (by decide)
theorem hexes_at : ∀ m : Fin 16, (⟨#[48, 49, 50, 51, 52, 53, 54, 55, 56, 57, 65, 66, 67, 68, 69, 70]⟩ : ByteArray)[m.val]'(m.isLt) = hexd m.val := by decide +kernel
theorem conv_at (W : World) (g : Nat) (l : B) (n : Nat) (hn : n = l.length) (hg : W.heap[g]? = some (.cells (Lib.byteCells l).toArray ByT)) :
    (convert 86 9 (.slice (some ⟨g, 0, none⟩) n n)).run Tryz.prog W = .ok (.string ⟨l.toArray⟩) W := by
  subst hn
  exact run_convert_bytes_back _ _ _ ByT _ _ l Tryz.underlying86 Tryz.underlying5 Tryz.underlying9 (Lib.bytes_of_row hg (by rw [← Lib.byteCells_length l, List.toList_toArray, List.take_length]))
theorem conv_new (wr : World) (l : B) (n : Nat) (hn : n = l.length) :
    (convert 86 9 (.slice (some ⟨wr.heap.size, 0, none⟩) n n)).run Tryz.prog (wr.alloc (.cells (Lib.byteCells l).toArray ByT)) = .ok (.string ⟨l.toArray⟩) (wr.alloc (.cells (Lib.byteCells l).toArray ByT)) :=
  conv_at _ _ l n hn (heap_alloc_new wr _)
theorem conv_hex (wr : World) (o : Obj) (a b : Nat) (ha : a < 16) (hb : b < 16) :
    (convert 86 9 (.slice (some ⟨wr.heap.size + 1, 0, none⟩) 2 2)).run Tryz.prog ((wr.alloc o).alloc (.cells #[.int .u8 (((⟨#[48, 49, 50, 51, 52, 53, 54, 55, 56, 57, 65, 66, 67, 68, 69, 70]⟩ : ByteArray)[a]'ha).toNat : Int), .int .u8 (((⟨#[48, 49, 50, 51, 52, 53, 54, 55, 56, 57, 65, 66, 67, 68, 69, 70]⟩ : ByteArray)[b]'hb).toNat : Int)] 5)).drew
      = .ok (.string ⟨#[hexd a, hexd b]⟩) ((wr.alloc o).alloc (.cells #[.int .u8 (((⟨#[48, 49, 50, 51, 52, 53, 54, 55, 56, 57, 65, 66, 67, 68, 69, 70]⟩ : ByteArray)[a]'ha).toNat : Int), .int .u8 (((⟨#[48, 49, 50, 51, 52, 53, 54, 55, 56, 57, 65, 66, 67, 68, 69, 70]⟩ : ByteArray)[b]'hb).toNat : Int)] 5)).drew := by
  have h1 := hexes_at ⟨a, ha⟩
  have h2 := hexes_at ⟨b, hb⟩
  simp only at h1 h2
  rw [h1, h2]
  refine conv_at _ _ [hexd a, hexd b] 2 rfl ?_
  have e : (wr.alloc o).heap.size = wr.heap.size + 1 := by simp
  rw [← e]
  exact heap_alloc_new (wr.alloc o) _
theorem str_append (a b : B) : ((⟨a.toArray⟩ : ByteArray) ++ (⟨b.toArray⟩ : ByteArray)) = ⟨(a ++ b).toArray⟩ := by
  apply ByteArray.ext
  simp
theorem isEmpty_true {s : ByteArray} {k : Nat} {P : Prop} (h : (k + 1 = s.size ∧ P) ∨ (k + 1 < s.size ∧ true = false)) : (s.data.toList.drop (k + 1)).isEmpty = true := by
  rcases h with ⟨h, _⟩ | ⟨_, h⟩
  · rw [h, Lib.size_eq, List.drop_length]; rfl
  · cases h
theorem isEmpty_false {s : ByteArray} {k : Nat} {P : Prop} (h : (k + 1 = s.size ∧ false = true) ∨ (k + 1 < s.size ∧ P)) : (s.data.toList.drop (k + 1)).isEmpty = false := by
  rcases h with ⟨_, h⟩ | ⟨h, _⟩
  · cases h
  · cases hd : s.data.toList.drop (k + 1) with
    | nil => rw [List.drop_eq_nil_iff, ← Lib.size_eq] at hd; omega
    | cons a l => rfl
theorem quoteGo_true (line : Nat) (c : UInt8) (r : B) (hl : r.isEmpty = true) :
    quoteGo line (c :: r) = if line + (enc1 c true).length > 76 then 61 :: 13 :: 10 :: (enc1 c true ++ quoteGo (enc1 c true).length r) else enc1 c true ++ quoteGo (line + (enc1 c true).length) r := by
  rw [quoteGo, roomOf, hl]; rfl
theorem quoteGo_false (line : Nat) (c : UInt8) (r : B) (hl : r.isEmpty = false) :
    quoteGo line (c :: r) = if line + (enc1 c false).length > 75 then 61 :: 13 :: 10 :: (enc1 c false ++ quoteGo (enc1 c false).length r) else enc1 c false ++ quoteGo (line + (enc1 c false).length) r := by
  rw [quoteGo, roomOf, hl]; rfl
set_option maxHeartbeats 4000000 in
set_option maxRecDepth 100000 in
theorem quote_any (s : ByteArray) (w : World) (hs : s.size ≤ 1099511627776) :
    Calls Tryz.prog 137 #[.string s] w fun e w' => e = .returned (.string ⟨(quote s.data.toList).toArray⟩) ∧ Below w.heap.size w w' := by
  go_enter Tryz.func137, Tryz.ntmps137
  go_wp2_with fail
  go_loopw [4, 11] (fun ln i wr => ∃ (k line : Nat) (acc : B), k ≤ s.size ∧ i = .int .i64 k ∧ ln = .int .i64 line ∧ line ≤ 76 ∧ Lib.IsBuilderF BT ByT w.heap.size w.heap.size (Lib.byteCells acc) wr ∧ Below w.heap.size w wr ∧ acc ++ quoteGo line (s.data.toList.drop k) = quote s.data.toList ∧ acc.length ≤ 6 * k) (fun _ i _ => s.size - (intOf i).toNat)
  case atStart =>
    exact ⟨0, 0, [], Nat.zero_le _, rfl, rfl, by omega, Lib.IsBuilderF.of (Lib.fresh_isBuilder BT ByT w), (Below.refl _ w).alloc (Nat.le_refl _) _, rfl, by simp⟩
  case round =>
    obtain ⟨k, line, acc, hk, rfl, rfl, hline, hI, hb, hacc, hal⟩ := hrel
    have Hacc := hid hacc; clear hacc
    by_cases hks : k < s.size
    · have hcv1 : (convert 86 9 (.slice (some ⟨wr.heap.size, 0, none⟩) 1 1)).run Tryz.prog (wr.alloc (.cells #[.int .u8 ((s[k]'hks).toNat : Int)] ByT)) = .ok (.string ⟨#[s[k]'hks]⟩) (wr.alloc (.cells #[.int .u8 ((s[k]'hks).toNat : Int)] ByT)) := conv_new wr [s[k]'hks] 1 rfl
      obtain ⟨last, hlast⟩ : ∃ b : Bool, (k + 1 = s.size ∧ b = true) ∨ (k + 1 < s.size ∧ b = false) := by
        by_cases h : k + 1 = s.size
        · exact ⟨true, .inl ⟨h, rfl⟩⟩
        · exact ⟨false, .inr ⟨by omega, rfl⟩⟩
      have Hlast := hid hlast; clear hlast
      go_upto_region 8 with (fail)
      go_cut [37] (fun v wx => v = .bool (hexB (s[k]'hks) last) ∧ wx = wr.alloc (.cells #[.int .u8 ((s[k]'hks).toNat : Int)] ByT))
      case first =>
        cases hp : isPlain (s[k]'hks) with
        | true =>
          have Hp := hid hp; clear hp
          go_wp2_with fail
          refine (plain_any _ _).mono ?_
          rintro e w1 ⟨rfl, rfl⟩
          have hp := Hp.out
          go_wp2_with fail
          go_meet
          exact ⟨by simp [hexB, hp], rfl⟩
        | false =>
          have Hp := hid hp; clear hp
          go_wp2_with fail
          refine (plain_any _ _).mono ?_
          rintro e w1 ⟨rfl, rfl⟩
          have hp := Hp.out
          have hle : ((k : Int) + 1 == (s.size : Int)) = last := by
            rcases Hlast.out with ⟨hl, rfl⟩ | ⟨hl, rfl⟩
            · rw [beq_iff_eq]; omega
            · exact beq_eq_false_iff_ne.2 (by omega)
          rcases u8_32 (s[k]'hks) with ⟨q1, q2, q3⟩ | ⟨q1, q2, q3⟩
          all_goals rcases u8_9 (s[k]'hks) with ⟨r1, r2, r3⟩ | ⟨r1, r2, r3⟩
          all_goals
            have Q1 := hid q1
            have R1 := hid r1
            clear q1 r1 q3 r3
            cases last
            all_goals
              go_wp2_with fail
              go_meet
              exact ⟨by simp [hexB, isBl, Hp.out, Q1.out, R1.out], rfl⟩
      case rest =>
        obtain ⟨rfl, rfl⟩ := hcut
        go_upto_if 37 with (fail)
        go_cut [7] (fun v wx => v = .string ⟨(enc1 (s[k]'hks) last).toArray⟩ ∧ Lib.IsBuilderF BT ByT w.heap.size w.heap.size (Lib.byteCells acc) wx ∧ Below w.heap.size w wx)
        case first =>
          have hI1 : Lib.IsBuilderF BT ByT w.heap.size w.heap.size (Lib.byteCells acc) (wr.alloc (.cells #[.int .u8 ((s[k]'hks).toNat : Int)] ByT)) := hI.alloc _
          have hb1 : Below w.heap.size w (wr.alloc (.cells #[.int .u8 ((s[k]'hks).toNat : Int)] ByT)) := hb.alloc hb.size _
          cases hx : hexB (s[k]'hks) last with
          | true =>
            have Hx := hid hx; clear hx
            have hc256 : (s[k]'hks).toNat < 256 := (s[k]'hks).toNat_lt
            have hm16a : (0 : Int) ≤ ((s[k]'hks).toNat : Int) % 16 := by omega
            have hm16b : ((s[k]'hks).toNat : Int) % 16 < 16 := by omega
            have hm16c : (((s[k]'hks).toNat : Int) % 16).toNat = (s[k]'hks).toNat % 16 := by omega
            have hm16d : (s[k]'hks).toNat % 16 < 16 := by omega
            have hd16a : (0 : Int) ≤ ((s[k]'hks).toNat : Int) / 16 := by omega
            have hd16b : ((s[k]'hks).toNat : Int) / 16 < 16 := by omega
            have hd16c : (((s[k]'hks).toNat : Int) / 16).toNat = (s[k]'hks).toNat / 16 := by omega
            have hd16d : (s[k]'hks).toNat / 16 < 16 := by omega
            have hcv2 := conv_hex wr (.cells #[.int .u8 ((s[k]'hks).toNat : Int)] ByT) _ _ hd16d hm16d
            go_wp2_with fail
            go_region
            go_wp2_with fail
            go_meet
            refine ⟨?_, (hI1.alloc _).imp (fun h => h.drew) (fun h => h.drew), (hb1.alloc hb1.size _).drew⟩
            rw [enc1_hexB, Hx.out]
            exact congrArg Value.string (str_append [61] [_, _])
          | false =>
            have Hx := hid hx; clear hx
            go_wp2_with fail
            go_meet
            exact ⟨by rw [enc1_hexB, Hx.out]; rfl, hI1, hb1⟩
        case rest =>
          obtain ⟨hs7, hI1, hb1⟩ := hcut
          rw [hs7]
          clear hs7
          have he3 := (enc1_ok (s[k]'hks) last).2.1
          have Hdrop := hid (drop_cons hks)
          have hle : ((k : Int) + 1 == (s.size : Int)) = last := by
            rcases Hlast.out with ⟨hl, rfl⟩ | ⟨hl, rfl⟩
            · rw [beq_iff_eq]; omega
            · exact beq_eq_false_iff_ne.2 (by omega)
          cases last
          · by_cases hroom : line + (enc1 (s[k]'hks) false).length > 75
            · go_wp2_with fail
              refine (writeString_cells w.heap.size w.heap.size _ _ _ hI1 (by rw [Lib.byteCells_length]; show _ + 3 ≤ _; omega) hb1.size).mono ?_
              rintro e W1 ⟨rfl, h1, b1, -⟩
              have hI2 : Lib.IsBuilderF BT ByT w.heap.size w.heap.size (Lib.byteCells (acc ++ [61, 13, 10])) W1 := by rw [Lib.byteCells_append]; exact .inr h1
              have hb2 := hb1.trans b1
              clear h1 b1
              go_wp2_with fail
              refine (writeString_cells w.heap.size w.heap.size _ _ _ hI2 (by rw [Lib.byteCells_length, Lib.size_mk, List.length_append]; show _ + 3 + _ ≤ _; omega) hb2.size).mono ?_
              rintro e W2 ⟨rfl, h1, b2, -⟩
              go_wp2_with fail
              go_roundw
              case rel =>
                refine ⟨k + 1, (enc1 (s[k]'hks) false).length, acc ++ [61, 13, 10] ++ enc1 (s[k]'hks) false, by omega, by go_num, by go_num, by omega, .inr ?_, hb2.trans b2, ?_, by simp; omega⟩
                · rw [Lib.byteCells_append]; exact h1
                · rw [← Hacc.out, Hdrop.out, quoteGo_false _ _ _ (isEmpty_false (Hlast.out)), if_pos hroom]; simp
              case measure => simp [intOf]; omega
            · go_wp2_with fail
              refine (writeString_cells w.heap.size w.heap.size _ _ _ hI1 (by rw [Lib.byteCells_length, Lib.size_mk]; omega) hb1.size).mono ?_
              rintro e W2 ⟨rfl, h1, b2, -⟩
              go_wp2_with fail
              go_roundw
              case rel =>
                refine ⟨k + 1, line + (enc1 (s[k]'hks) false).length, acc ++ enc1 (s[k]'hks) false, by omega, by go_num, by go_num, by omega, .inr ?_, hb1.trans b2, ?_, by simp; omega⟩
                · rw [Lib.byteCells_append]; exact h1
                · rw [← Hacc.out, Hdrop.out, quoteGo_false _ _ _ (isEmpty_false (Hlast.out)), if_neg hroom]; simp
              case measure => simp [intOf]; omega
          · by_cases hroom : line + (enc1 (s[k]'hks) true).length > 76
            · go_wp2_with fail
              refine (writeString_cells w.heap.size w.heap.size _ _ _ hI1 (by rw [Lib.byteCells_length]; show _ + 3 ≤ _; omega) hb1.size).mono ?_
              rintro e W1 ⟨rfl, h1, b1, -⟩
              have hI2 : Lib.IsBuilderF BT ByT w.heap.size w.heap.size (Lib.byteCells (acc ++ [61, 13, 10])) W1 := by rw [Lib.byteCells_append]; exact .inr h1
              have hb2 := hb1.trans b1
              clear h1 b1
              go_wp2_with fail
              refine (writeString_cells w.heap.size w.heap.size _ _ _ hI2 (by rw [Lib.byteCells_length, Lib.size_mk, List.length_append]; show _ + 3 + _ ≤ _; omega) hb2.size).mono ?_
              rintro e W2 ⟨rfl, h1, b2, -⟩
              go_wp2_with fail
              go_roundw
              case rel =>
                refine ⟨k + 1, (enc1 (s[k]'hks) true).length, acc ++ [61, 13, 10] ++ enc1 (s[k]'hks) true, by omega, by go_num, by go_num, by omega, .inr ?_, hb2.trans b2, ?_, by simp; omega⟩
                · rw [Lib.byteCells_append]; exact h1
                · rw [← Hacc.out, Hdrop.out, quoteGo_true _ _ _ (isEmpty_true (Hlast.out)), if_pos hroom]; simp
              case measure => simp [intOf]; omega
            · go_wp2_with fail
              refine (writeString_cells w.heap.size w.heap.size _ _ _ hI1 (by rw [Lib.byteCells_length, Lib.size_mk]; omega) hb1.size).mono ?_
              rintro e W2 ⟨rfl, h1, b2, -⟩
              go_wp2_with fail
              go_roundw
              case rel =>
                refine ⟨k + 1, line + (enc1 (s[k]'hks) true).length, acc ++ enc1 (s[k]'hks) true, by omega, by go_num, by go_num, by omega, .inr ?_, hb1.trans b2, ?_, by simp; omega⟩
                · rw [Lib.byteCells_append]; exact h1
                · rw [← Hacc.out, Hdrop.out, quoteGo_true _ _ _ (isEmpty_true (Hlast.out)), if_neg hroom]; simp
              case measure => simp [intOf]; omega
    · obtain rfl : k = s.size := by omega
      have hfin : acc = quote s.data.toList := by
        rw [← Hacc.out, Lib.size_eq, List.drop_length]; simp [quoteGo]
      have Hfin := hid hfin; clear hfin
      go_wp2_with fail
      refine (Tryz.Builder_String_any_k w.heap.size w.heap.size acc _ hI hb.size).mono ?_
      rintro e W1 ⟨rfl, -, b1, -⟩
      go_wp2_with fail
      go_ret
      exact ⟨by rw [← Hfin.out]; rfl, hb.trans b1⟩
end Go.Proofs.YtignjjnflcpiiaaGreatDoor
