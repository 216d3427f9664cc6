import Derived.Test.YtignjjnflcpiiaaGreatDoorWPackR
import Derived.Test.YtignjjnflcpiiaaGreatDoorWG16
import Derived.Test.YtignjjnflcpiiaaGreatDoorWPlain1
import Derived.Test.YtignjjnflcpiiaaGreatDoorWShelf
import Derived.WalkLawsBesides
import Derived.WalkSpells
import Derived.Lib.TrimByte
import Derived.Test.YtignjjnflcpiiaaGreatDoorWQuoteW
import Derived.Deep.AppendLies
import Derived.Deep.RegionLaw
import Derived.Test.YtignjjnflcpiiaaGreatDoorWG32
import Derived.Test.YtignjjnflcpiiaaGreatDoorWG10
import Derived.Test.YtignjjnflcpiiaaGreatDoorWG11
import Derived.Test.YtignjjnflcpiiaaGreatDoorWVm4
set_option linter.unusedVariables false
set_option linter.unusedSimpArgs false
set_option maxHeartbeats 1000000
namespace Go.Proofs.YtignjjnflcpiiaaGreatDoor
open Go.RowKit
attribute [local irreducible] Tri Steps Qd Wr Weak CPure CEff
set_option maxRecDepth 100000
end Go.Proofs.YtignjjnflcpiiaaGreatDoor
namespace Go.Proofs.YtignjjnflcpiiaaGreatDoor
open Go.RowKit
def gb (s : ByteArray) (k : Nat) : Nat := (s.data.toList.getD k 0).toNat
def vv (s : ByteArray) : Nat → Nat
  | 0 => 0
  | k + 1 => vv s k * 256 + gb s k
theorem gb_in (s : ByteArray) (k : Nat) (h : k < s.size) : gb s k = (s[k]'h).toNat := by
  unfold gb; rw [List.getD_eq_getElem?_getD, Lib.data_getElem? s k h]; rfl
theorem gb_out (s : ByteArray) (k : Nat) (h : ¬ k < s.size) : gb s k = 0 := by
  unfold gb; rw [List.getD_eq_getElem?_getD, List.getElem?_eq_none (by rw [← Lib.size_eq]; omega)]; rfl
theorem gb_lt (s : ByteArray) (k : Nat) : gb s k < 256 := (s.data.toList.getD k 0).toNat_lt
theorem vv_lt (s : ByteArray) : ∀ k, vv s k < 256 ^ k
  | 0 => by simp [vv]
  | k + 1 => by
    have := vv_lt s k
    have := gb_lt s k
    simp only [vv, Nat.pow_succ]
    omega
theorem vv_small (s : ByteArray) (k : Nat) (h : k ≤ 3) : vv s k < 16777216 := by
  have h1 := vv_lt s k
  have h2 : 256 ^ k ≤ 256 ^ 3 := Nat.pow_le_pow_right (by decide) h
  exact Nat.lt_of_lt_of_le h1 h2
theorem i64_or8 (x y : Nat) (hx : x < 2 ^ 40) (hy : y < 256) : bits .or .i64 ((x : Int) * 256) (y : Int) = ((x * 256 + y : Nat) : Int) := by
  rw [i64_join 8 _ _ (by omega) (by omega) (by omega) (by omega) (by omega) (by omega)]
  omega
theorem i64_and63 (x : Nat) (hx : x < 2 ^ 40) : bits .and .i64 (x : Int) 63 = ((x % 64 : Nat) : Int) := by
  have := i64_mask 6 (by omega) (x : Int) (by omega) (by omega)
  rw [show (63 : Int) = 2 ^ 6 - 1 from rfl, this]
  omega
theorem i64_and63d (x d : Nat) (hx : x < 2 ^ 40) : bits .and .i64 ((x : Int) / (d : Int)) 63 = ((x / d % 64 : Nat) : Int) := by
  rw [show ((x : Int) / (d : Int)) = ((x / d : Nat) : Int) from rfl, i64_and63 _ (Nat.lt_of_le_of_lt (Nat.div_le_self x d) hx)]
theorem letter_at : ∀ m : Fin 64, (⟨#[65, 66, 67, 68, 69, 70, 71, 72, 73, 74, 75, 76, 77, 78, 79, 80, 81, 82, 83, 84, 85, 86, 87, 88, 89, 90, 97, 98, 99, 100, 101, 102, 103, 104, 105, 106, 107, 108, 109, 110, 111, 112, 113, 114, 115, 116, 117, 118, 119, 120, 121, 122, 48, 49, 50, 51, 52, 53, 54, 55, 56, 57, 43, 47]⟩ : ByteArray)[m.val]'(m.isLt) = letter m.val := by decide +kernel
def och (s : ByteArray) (k : Nat) : UInt8 := if k ≤ s.size then letter (vv s 3 / 2 ^ (18 - 6 * k) % 64) else 61
theorem quad_och (s : ByteArray) (h : 0 < s.size) : quad s.data.toList = [och s 0, och s 1, och s 2, och s 3] := by
  have hv : vv s 3 = gb s 0 * 65536 + gb s 1 * 256 + gb s 2 := by simp only [vv]; omega
  have hl := Lib.size_eq s
  have e0 : gb s 0 = (s.data.toList.getD 0 0).toNat := rfl
  have e1 : gb s 1 = (s.data.toList.getD 1 0).toNat := rfl
  have e2 : gb s 2 = (s.data.toList.getD 2 0).toNat := rfl
  unfold och
  rw [hv, e0, e1, e2, hl]
  rw [hl] at h
  generalize s.data.toList = l at h
  clear hv hl e0 e1 e2
  match l, h with
  | [a], _ =>
    have ha := a.toNat_lt
    simp [quad]
    refine ⟨congrArg letter (by omega), congrArg letter (by omega)⟩
  | [a, b], _ =>
    have ha := a.toNat_lt; have hb := b.toNat_lt
    simp [quad]
    refine ⟨congrArg letter (by omega), congrArg letter (by omega), congrArg letter (by omega)⟩
  | a :: b :: c :: r, _ =>
    have ha := a.toNat_lt; have hb := b.toNat_lt; have hc := c.toNat_lt
    simp [quad]
    refine ⟨congrArg letter (by omega), congrArg letter (by omega), congrArg letter (by omega), congrArg letter (by omega)⟩
theorem packGo_ne (line : Nat) (l : B) (h : l ≠ []) :
    packGo line l = quad l ++ (if line + 4 = 76 ∨ l.drop 3 = [] then crlf ++ packGo 0 (l.drop 3) else packGo (line + 4) (l.drop 3)) := by
  match l, h with
  | [a], _ => simp [packGo]
  | [a, b], _ => simp [packGo]
  | a :: b :: c :: r, _ =>
    simp only [packGo, List.drop_succ_cons, List.drop_zero]
    split
    · simp [quad]
    · simp [quad]
theorem packGo_len : ∀ (k : Nat) (l : B), l.length ≤ k → ∀ line, (packGo line l).length ≤ 6 * l.length
  | _, [], _, line => by simp [packGo]
  | _, [a], _, line => by simp [packGo, quad, crlf]
  | _, [a, b], _, line => by simp [packGo, quad, crlf]
  | 0, a :: b :: c :: r, hk, line => by simp at hk
  | k + 1, a :: b :: c :: r, hk, line => by
    simp only [List.length_cons] at hk
    have h1 := packGo_len k r (by omega) 0
    have h2 := packGo_len k r (by omega) (line + 4)
    simp only [packGo]
    split
    · simp [quad, crlf]; omega
    · simp [quad]; omega
theorem pack_len (b : B) : (pack b).length ≤ 6 * b.length := packGo_len _ b (Nat.le_refl _) 0
theorem ne_nil_of_size {s : ByteArray} (h : 0 < s.size) : s.data.toList ≠ [] := by
  intro hn; rw [Lib.size_eq, hn] at h; simp at h
theorem pack_crlf {acc P : B} {line : Nat} {r t : ByteArray} (h0 : 0 < r.size) (h : acc ++ packGo line r.data.toList = P) (ht : t.data.toList = r.data.toList.drop 3) (hc : line + 4 = 76 ∨ r.size ≤ 3) :
    acc ++ [och r 0, och r 1, och r 2, och r 3] ++ crlf ++ packGo 0 t.data.toList = P := by
  rw [← h, packGo_ne _ _ (ne_nil_of_size h0), quad_och r h0, ht, if_pos]
  · simp
  · refine hc.imp id fun h3 => ?_
    rw [List.drop_eq_nil_iff, ← Lib.size_eq]; exact h3
theorem pack_next {acc P : B} {line : Nat} {r t : ByteArray} (h0 : 0 < r.size) (h : acc ++ packGo line r.data.toList = P) (ht : t.data.toList = r.data.toList.drop 3) (hc : ¬ (line + 4 = 76)) (hc2 : 3 < r.size) :
    acc ++ [och r 0, och r 1, och r 2, och r 3] ++ packGo (line + 4) t.data.toList = P := by
  rw [← h, packGo_ne _ _ (ne_nil_of_size h0), quad_och r h0, ht, if_neg]
  · simp
  · rintro (h4 | h4)
    · exact hc h4
    · rw [List.drop_eq_nil_iff, ← Lib.size_eq] at h4; omega
theorem ext3 (r : ByteArray) : (r.extract 3 r.size).data.toList = r.data.toList.drop 3 := by
  rw [Lib.extract_data, List.take_of_length_le (by simp)]
theorem ext0 (r : ByteArray) (h : r.size < 3) : ByteArray.empty.data.toList = r.data.toList.drop 3 := by
  have hrl := Lib.size_eq r
  rw [List.drop_eq_nil_of_le (by omega)]
  rfl
theorem ext_size (r : ByteArray) : (r.extract 3 r.size).size ≤ r.size := by
  rw [Lib.size_eq, ext3, List.length_drop, ← Lib.size_eq]; omega
theorem ext_lt (r : ByteArray) (h : 0 < r.size) : (r.extract 3 r.size).size < r.size := by
  rw [Lib.size_eq, ext3, List.length_drop, ← Lib.size_eq]; omega
theorem ext_empty (r : ByteArray) (h : r.size ≤ 3) : (r.extract 3 r.size).toList.isEmpty = true := by
  have hrl := Lib.size_eq r
  rw [Lib.toList_data, ext3, List.drop_eq_nil_of_le (by omega)]; rfl
theorem ext_full (r : ByteArray) (h : ¬ r.size ≤ 3) : (r.extract 3 r.size).toList.isEmpty = false := by
  have hrl := Lib.size_eq r
  rw [Lib.toList_data, ext3]
  cases hd : r.data.toList.drop 3 with
  | nil => rw [List.drop_eq_nil_iff] at hd; omega
  | cons a l => rfl
theorem bytes_step (acc l : B) (k : Nat) (c d : UInt8) (hd : d = c) (h : l[k]? = some d) :
    Lib.byteCells (acc ++ l.take k) ++ [.int .u8 (c.toNat : Int)] = Lib.byteCells (acc ++ l.take (k + 1)) := by
  subst hd
  rw [List.take_add_one, h, ← List.append_assoc, Lib.byteCells_append (acc ++ List.take k l)]
  rfl
set_option maxHeartbeats 4000000 in
set_option maxRecDepth 100000 in
theorem pack_any (s : ByteArray) (w : World) (hs : s.size ≤ 1099511627776) :
    Calls Tryz.prog 138 #[.string s] w fun e w' => e = .returned (.string ⟨(pack s.data.toList).toArray⟩) ∧ Below w.heap.size w w' := by
  go_enter Tryz.func138, Tryz.ntmps138
  go_wp2_with fail
  go_loopw [0, 4] (fun t ln wr => ∃ (r : ByteArray) (line : Nat) (acc : B), t = .string r ∧ ln = .int .i64 line ∧ (line ≤ 72 ∧ line % 4 = 0) ∧ Lib.IsBuilderF BT ByT w.heap.size w.heap.size (Lib.byteCells acc) wr ∧ Below w.heap.size w wr ∧ acc ++ packGo line r.data.toList = pack s.data.toList ∧ r.size ≤ s.size) (fun t _ _ => Lib.strSize t)
  case atStart =>
    exact ⟨s, 0, [], rfl, rfl, ⟨by omega, by omega⟩, Lib.IsBuilderF.of (Lib.fresh_isBuilder BT ByT w), (Below.refl _ w).alloc (Nat.le_refl _) _, rfl, Nat.le_refl _⟩
  case round =>
    obtain ⟨r, line, acc, rfl, rfl, ⟨hline, hline4⟩, hI, hb, hacc, hrs⟩ := hrel
    by_cases h0 : 0 < r.size
    · have Hacc := hid hacc; clear hacc
      have Hline4 := hid hline4; clear hline4
      have hmin : (3 ≤ r.size ∧ min (r.size : Int) 3 = 3) ∨ (r.size < 3 ∧ min (r.size : Int) 3 = r.size) := by omega
      rcases hmin with ⟨h3, hmin⟩ | ⟨h3, hmin⟩
      all_goals
        go_wp2_with fail
        go_loop [6, 7, 15] (fun v _ i => ∃ k : Nat, k ≤ 3 ∧ i = .int .i64 k ∧ v = .int .i64 (vv r k)) (fun _ _ i => 3 - (intOf i).toNat)
        case atStart => exact ⟨0, by omega, rfl, rfl⟩
        case round =>
          obtain ⟨k, hk, rfl, rfl⟩ := hrel
          by_cases hk3 : k < 3
          · have hv := vv_small r k hk
            by_cases hks : k < r.size
            · have hby : (r[k]'hks).toNat < 256 := (r[k]'hks).toNat_lt
              go_wp2_with fail
              go_round
              case rel => exact ⟨k + 1, by omega, by go_num, by rw [i64_or8 _ _ (by omega) hby, ← gb_in]; rfl⟩
              case measure => simp [intOf]; omega
            · first
                | omega
                | (go_wp2_with fail
                   go_round
                   case rel => exact ⟨k + 1, by omega, by go_num, by simp only [vv]; rw [gb_out r k hks]; rfl⟩
                   case measure => simp [intOf]; omega)
          · obtain rfl : k = 3 := by omega
            go_wp2_with fail
            go_loopw [8, 30] (fun _ i wr => ∃ k : Nat, k ≤ 4 ∧ i = .int .i64 k ∧ Lib.IsBuilderF BT ByT w.heap.size w.heap.size (Lib.byteCells (acc ++ ([och r 0, och r 1, och r 2, och r 3]).take k)) wr ∧ Below w.heap.size w wr) (fun _ i _ => 4 - (intOf i).toNat)
            case atStart => exact ⟨0, by omega, rfl, by simpa using hI, hb⟩
            case round =>
              obtain ⟨k, hk, rfl, hI, hb⟩ := hrel
              have hlen : acc.length + (packGo line r.data.toList).length ≤ 6597069766656 := by
                have := pack_len s.data.toList
                rw [← Hacc.out, ← Lib.size_eq] at this
                simp only [List.length_append] at this
                omega
              have hpg : 4 ≤ (packGo line r.data.toList).length := by
                rw [packGo_ne _ _ (by intro hn; rw [Lib.size_eq, hn] at h0; simp at h0), quad_och r h0]
                simp
              have hbsz : w.heap.size ≤ wr.heap.size := hb.size
              by_cases hk4 : k < 4
              · have hv := vv_small r 3 (by omega)
                have q0 := i64_and63d (vv r 3) 262144 (by omega)
                have q1 := i64_and63d (vv r 3) 4096 (by omega)
                have q2 := i64_and63d (vv r 3) 64 (by omega)
                have q3 := i64_and63 (vv r 3) (by omega)
                simp only [Int.cast_ofNat_Int] at q0 q1 q2
                have hIl : (Lib.byteCells (acc ++ ([och r 0, och r 1, och r 2, och r 3]).take k)).length + 1 ≤ 140737488355328 := by
                  rw [Lib.byteCells_length]
                  simp only [List.length_append, List.length_take, List.length_cons, List.length_nil]
                  omega
                by_cases hkr : k ≤ r.size
                · have hoch : och r k = letter (vv r 3 / 2 ^ (18 - 6 * k) % 64) := by rw [och, if_pos hkr]
                  have Hoch := hid hoch; clear hoch
                  have hkk : k = 0 ∨ k = 1 ∨ k = 2 ∨ k = 3 := by omega
                  rcases hkk with rfl | rfl | rfl | rfl
                  all_goals try (exfalso; omega)
                  all_goals
                    go_wp2_with fail
                    refine (writeByte_cells w.heap.size w.heap.size _ _ _ hI hIl hbsz).mono ?_
                    rintro e W1 ⟨rfl, h1, b1, -⟩
                    go_wp2_with fail
                    go_roundw
                    case rel =>
                      rw [letter_at ⟨_, Nat.mod_lt _ (by decide)⟩] at h1
                      first
                        | exact ⟨1, by omega, by go_num, .inr ((bytes_step acc [och r 0, och r 1, och r 2, och r 3] 0 _ _ Hoch.out rfl) ▸ h1), hb.trans b1⟩
                        | exact ⟨2, by omega, by go_num, .inr ((bytes_step acc [och r 0, och r 1, och r 2, och r 3] 1 _ _ Hoch.out rfl) ▸ h1), hb.trans b1⟩
                        | exact ⟨3, by omega, by go_num, .inr ((bytes_step acc [och r 0, och r 1, och r 2, och r 3] 2 _ _ Hoch.out rfl) ▸ h1), hb.trans b1⟩
                        | exact ⟨4, by omega, by go_num, .inr ((bytes_step acc [och r 0, och r 1, och r 2, och r 3] 3 _ _ (by simpa using Hoch.out) rfl) ▸ h1), hb.trans b1⟩
                    case measure => simp [intOf]
                · first
                    | omega
                    | (have hoch : och r k = 61 := by rw [och, if_neg hkr]
                       have Hoch := hid hoch; clear hoch
                       have hkk : k = 0 ∨ k = 1 ∨ k = 2 ∨ k = 3 := by omega
                       rcases hkk with rfl | rfl | rfl | rfl
                       all_goals
                         first
                           | omega
                           | (go_wp2_with fail
                              refine (writeByte_cells w.heap.size w.heap.size _ _ _ hI hIl hbsz).mono ?_
                              rintro e W1 ⟨rfl, h1, b1, -⟩
                              go_wp2_with fail
                              go_roundw
                              case rel =>
                                first
                                  | exact ⟨3, by omega, by go_num, .inr ((bytes_step acc [och r 0, och r 1, och r 2, och r 3] 2 _ _ Hoch.out rfl) ▸ h1), hb.trans b1⟩
                                  | exact ⟨4, by omega, by go_num, .inr ((bytes_step acc [och r 0, och r 1, och r 2, och r 3] 3 _ _ Hoch.out rfl) ▸ h1), hb.trans b1⟩
                              case measure => simp [intOf]))
              · obtain rfl : k = 4 := by omega
                have hl4 : ([och r 0, och r 1, och r 2, och r 3] : B).take 4 = [och r 0, och r 1, och r 2, och r 3] := rfl
                rw [hl4] at hI
                have hbl : (Lib.byteCells (acc ++ [och r 0, och r 1, och r 2, och r 3])).length + (⟨#[13, 10]⟩ : ByteArray).size ≤ 140737488355328 := by
                  rw [Lib.byteCells_length, List.length_append]
                  show _ + 4 + 2 ≤ _
                  omega
                by_cases c1 : line = 72
                · subst c1
                  go_wp2_with fail
                  refine (writeString_cells w.heap.size w.heap.size _ _ _ hI hbl hbsz).mono ?_
                  rintro e W1 ⟨rfl, h1, b1, -⟩
                  go_wp2_with fail
                  go_roundw
                  case rel =>
                    refine ⟨_, 0, acc ++ [och r 0, och r 1, och r 2, och r 3] ++ crlf, rfl, rfl, ⟨by omega, by omega⟩, .inr ?_, hb.trans b1, pack_crlf h0 Hacc.out ?_ ?_, ?_⟩
                    · rw [Lib.byteCells_append]; exact h1
                    · first | exact ext3 r | exact ext0 r h3
                    · omega
                    · first | exact Nat.le_trans (ext_size r) hrs | exact Nat.zero_le _
                  case measure => first | exact ext_lt r h0 | exact h0
                · have hne : ((line : Int) + 4 == 76) = false := beq_eq_false_iff_ne.2 (by omega)
                  by_cases c2 : r.size ≤ 3
                  · have hem := ext_empty r c2
                    go_wp2_with fail
                    refine (writeString_cells w.heap.size w.heap.size _ _ _ hI hbl hbsz).mono ?_
                    rintro e W1 ⟨rfl, h1, b1, -⟩
                    go_wp2_with fail
                    go_roundw
                    case rel =>
                      refine ⟨_, 0, acc ++ [och r 0, och r 1, och r 2, och r 3] ++ crlf, rfl, rfl, ⟨by omega, by omega⟩, .inr ?_, hb.trans b1, pack_crlf h0 Hacc.out ?_ ?_, ?_⟩
                      · rw [Lib.byteCells_append]; exact h1
                      · first | exact ext3 r | exact ext0 r h3
                      · omega
                      · first | exact Nat.le_trans (ext_size r) hrs | exact Nat.zero_le _
                    case measure => first | exact ext_lt r h0 | exact h0
                  · first
                      | omega
                      | (have hem := ext_full r c2
                         go_wp2_with fail
                         go_roundw
                         case rel =>
                           exact ⟨_, line + 4, acc ++ [och r 0, och r 1, och r 2, och r 3], rfl, by go_num, ⟨by have := Hline4.out; omega, by have := Hline4.out; omega⟩, hI, hb, pack_next h0 Hacc.out (ext3 r) (by omega) (by omega), Nat.le_trans (ext_size r) hrs⟩
                         case measure => exact ext_lt r h0)
    · have hr0 : r.data.toList = [] := by
        have := Lib.size_eq r
        exact List.eq_nil_of_length_eq_zero (by omega)
      have Hr0 := hid hr0; clear hr0
      have Hacc := hid hacc; clear hacc
      have hbsz : w.heap.size ≤ wr.heap.size := hb.size
      go_wp2_with fail
      refine (Tryz.Builder_String_any_k w.heap.size w.heap.size acc _ hI hbsz).mono ?_
      rintro e W1 ⟨rfl, -, b1, -⟩
      go_wp2_with fail
      go_ret
      have := Hacc.out
      rw [Hr0.out] at this
      simp only [packGo, List.append_nil] at this
      subst this
      exact ⟨rfl, hb.trans b1⟩
end Go.Proofs.YtignjjnflcpiiaaGreatDoor
namespace Go.Proofs.YtignjjnflcpiiaaGreatDoor
open Go.RowKit
attribute [local irreducible] Tri Steps Qd Wr Weak CPure CEff
set_option maxRecDepth 100000
theorem pack_c (s : B) (hs : s.length ≤ 1000000) : CPure gx 138 [.str s] (.str (pack s)) :=
  cpure_val rfl rfl fun w _ => pack_any ⟨s.toArray⟩ w (by rw [sizeMk]; omega)
theorem quote_c (s : B) (hs : s.length ≤ 1000000) : CPure gx 137 [.str s] (.str (quote s)) :=
  cpure_val rfl rfl fun w _ => quote_any ⟨s.toArray⟩ w (by rw [sizeMk]; omega)
theorem rquote_c (s : B) (hs : s.length ≤ 1000000) : CPure gx 72 [.str s] (.str (quote s)) :=
  cpure_val rfl rfl fun w _ => refQuote_any ⟨s.toArray⟩ w (by rw [sizeMk]; omega)
structure UInv (s : B) (x : Nat × B) : Prop where
  le : x.1 ≤ (splitC s).length
  go : (unqLines ((splitC s).drop x.1)).map (x.2 ++ ·) = unquote s
  num : x.2.length + (((splitC s).drop x.1).map List.length).sum + 2 * ((splitC s).length - x.1) ≤ s.length + 2
end Go.Proofs.YtignjjnflcpiiaaGreatDoor
