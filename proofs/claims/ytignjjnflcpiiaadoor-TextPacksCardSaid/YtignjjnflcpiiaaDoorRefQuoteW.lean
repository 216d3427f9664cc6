/- What the reference's in and Quote compute, walked. -/
import Derived.Test.YtignjjnflcpiiaaDoorQuoteW
set_option linter.unusedVariables false
set_option linter.unusedSimpArgs false
namespace Go.Proofs.YtignjjnflcpiiaaDoor
open Go.RowKit

set_option maxHeartbeats 400000 in
theorem in_any (n lo hi : Int) (w : World) : Calls Tryd.prog 81 #[.int .i64 n, .int .i64 lo, .int .i64 hi] w fun e w' => e = .returned (.bool (decide (lo ≤ n) && decide (n ≤ hi))) ∧ w = w' := by
  by_cases h : lo ≤ n
  · have h1 : decide (lo ≤ n) = true := decide_eq_true h
    go_enter Tryd.func81, Tryd.ntmps81
    go_wp2
    go_ret
    exact ⟨by rw [h1]; rfl, rfl⟩
  · have h1 : decide (lo ≤ n) = false := decide_eq_false h
    go_enter Tryd.func81, Tryd.ntmps81
    go_wp2
    go_ret
    exact ⟨rfl, rfl⟩

theorem str_mk (X : ByteArray) : X = ⟨X.data.toList.toArray⟩ := by cases X; simp

set_option maxHeartbeats 4000000 in
set_option maxRecDepth 100000 in
theorem refQuote_any (s : ByteArray) (w : World) (hs : s.size ≤ 1099511627776) :
    Calls Tryd.prog 43 #[.string s] w fun e w' => e = .returned (.string ⟨(quote s.data.toList).toArray⟩) ∧ Below w.heap.size w w' := by
  go_enter Tryd.func43, Tryd.ntmps43
  go_wp2_with fail
  go_loopw [3, 4, 13] (fun va vl i wr => ∃ (k : Nat) (A L : ByteArray), k ≤ s.size ∧ i = .int .i64 k ∧ va = .string A ∧ vl = .string L ∧ L.size ≤ 76 ∧ Below w.heap.size w wr ∧ A.data.toList ++ (L.data.toList ++ quoteGo L.size (s.data.toList.drop k)) = quote s.data.toList ∧ A.size ≤ 79 * k) (fun _ _ i _ => s.size - (intOf i).toNat)
  case atStart => exact ⟨0, ⟨#[]⟩, ⟨#[]⟩, Nat.zero_le _, rfl, rfl, rfl, by decide, Below.refl _ _, rfl, by decide⟩
  case round =>
    obtain ⟨k, A, L, hk, rfl, rfl, rfl, hL, hb, hacc, hA⟩ := hrel
    have Hacc := hid hacc; clear hacc
    by_cases hks : k < s.size
    · have hcv1 : (convert 70 9 (.slice (some ⟨wr.heap.size, 0, none⟩) 1 1)).run Tryd.prog (wr.alloc (.cells #[.int .u8 ((s[k]'hks).toNat : Int)] ByT)) = .ok (.string ⟨#[s[k]'hks]⟩) (wr.alloc (.cells #[.int .u8 ((s[k]'hks).toNat : Int)] ByT)) := conv_new wr [s[k]'hks] 1 rfl
      obtain ⟨last, hlast⟩ : ∃ b : Bool, (k + 1 = s.size ∧ b = true) ∨ (k + 1 < s.size ∧ b = false) := by
        by_cases h : k + 1 = s.size
        · exact ⟨true, .inl ⟨h, rfl⟩⟩
        · exact ⟨false, .inr ⟨by omega, rfl⟩⟩
      have Hlast := hid hlast; clear hlast
      have hle : ((k : Int) == (s.size : Int) - 1) = last := by
        rcases Hlast.out with ⟨hl, rfl⟩ | ⟨hl, rfl⟩
        · rw [beq_iff_eq]; omega
        · exact beq_eq_false_iff_ne.2 (by omega)
      have hb1 : Below w.heap.size w (wr.alloc (.cells #[.int .u8 ((s[k]'hks).toNat : Int)] ByT)) := hb.alloc hb.size _
      go_upto_region 8 with (fail)
      obtain ⟨bl, hbl⟩ : ∃ bl : Bool, bl = (isBl (s[k]'hks) && !last) := ⟨_, rfl⟩
      have Hbl := hid hbl; clear hbl
      go_cut [9] (fun v wx => v = .bool bl ∧ wx = wr.alloc (.cells #[.int .u8 ((s[k]'hks).toNat : Int)] ByT))
      case first =>
        rcases u8_32 (s[k]'hks) with ⟨q1, q2, q3⟩ | ⟨q1, q2, q3⟩
        all_goals rcases u8_9 (s[k]'hks) with ⟨r1, r2, r3⟩ | ⟨r1, r2, r3⟩
        all_goals
          have Q1 := hid q1
          have R1 := hid r1
          clear q1 r1 q2 r2
          go_wp2_with fail
          go_meet
          exact ⟨by rw [Hbl.out]; simp [isBl, Q1.out, R1.out, hle], rfl⟩
      case rest =>
        obtain ⟨rfl, rfl⟩ := hcut
        go_upto_region 9 with (fail)
        go_cut [48] (fun v wx => v = .bool (hexB (s[k]'hks) last) ∧ wx = wr.alloc (.cells #[.int .u8 ((s[k]'hks).toNat : Int)] ByT))
        case first =>
          have hc255 : (s[k]'hks).toNat < 256 := (s[k]'hks).toNat_lt
          have hw64 : wrap64 ((s[k]'hks).toNat : Int) = ((s[k]'hks).toNat : Int) := IntWalk.wrap64_in _ (by omega)
          cases hp : isPlain (s[k]'hks) with
          | true =>
            obtain ⟨p1, p2, p3⟩ := (isPlain_iff _).1 hp
            have p3' : (((s[k]'hks).toNat : Int) != 61) = true := by rw [bne_iff_ne]; omega
            have p4 : (decide ((33 : Int) ≤ ((s[k]'hks).toNat : Int)) && decide (((s[k]'hks).toNat : Int) ≤ 126)) = true := by
              rw [Bool.and_eq_true]; exact ⟨decide_eq_true (by omega), decide_eq_true (by omega)⟩
            have Hin := hid (fun W => in_any ((s[k]'hks).toNat : Int) 33 126 W)
            rw [p4] at Hin
            have Hp := hid hp; clear hp p1 p2 p3 p4
            go_wp2_with fail
            refine (Hin.out _).mono ?_
            rintro e w1 ⟨rfl, rfl⟩
            go_wp2_with fail
            go_meet
            exact ⟨by simp [hexB, Hp.out], rfl⟩
          | false =>
            have hpp : ¬ (33 ≤ (s[k]'hks).toNat ∧ (s[k]'hks).toNat ≤ 126 ∧ (s[k]'hks).toNat ≠ 61) := by rw [← isPlain_iff, hp]; decide
            have hpq : (decide ((33 : Int) ≤ ((s[k]'hks).toNat : Int)) && decide (((s[k]'hks).toNat : Int) ≤ 126)) = false ∨ ((decide ((33 : Int) ≤ ((s[k]'hks).toNat : Int)) && decide (((s[k]'hks).toNat : Int) ≤ 126)) = true ∧ (((s[k]'hks).toNat : Int) != 61) = false) := by
              cases hb : (decide ((33 : Int) ≤ ((s[k]'hks).toNat : Int)) && decide (((s[k]'hks).toNat : Int) ≤ 126)) with
              | false => exact .inl rfl
              | true =>
                rw [Bool.and_eq_true, decide_eq_true_eq, decide_eq_true_eq] at hb
                refine .inr ⟨rfl, ?_⟩
                have : (s[k]'hks).toNat = 61 := by omega
                rw [this]; rfl
            have Hp := hid hp; clear hp hpp
            have hx : hexB (s[k]'hks) last = !bl := by
              rw [hexB, Hp.out, Hbl.out]
              cases isBl (s[k]'hks) <;> cases last <;> rfl
            have Hx := hid hx; clear hx
            have Hin := hid (fun W => in_any ((s[k]'hks).toNat : Int) 33 126 W)
            rcases hpq with p4 | ⟨p4, p3'⟩
            all_goals
              rw [p4] at Hin
              clear p4
              go_wp2_with fail
              refine (Hin.out _).mono ?_
              rintro e w1 ⟨rfl, rfl⟩
              go_wp2_with fail
              go_meet
              exact ⟨by rw [Hx.out], rfl⟩
        case rest =>
          obtain ⟨rfl, rfl⟩ := hcut
          go_upto_if 48 with (fail)
          go_cut [8] (fun v wx => v = .string ⟨(enc1 (s[k]'hks) last).toArray⟩ ∧ Below w.heap.size w wx)
          case first =>
            cases hx : hexB (s[k]'hks) last with
            | true =>
              have Hx := hid hx; clear hx
              have hc256 : (s[k]'hks).toNat < 256 := (s[k]'hks).toNat_lt
              have hm16a : (0 : Int) ≤ ((s[k]'hks).toNat : Int) % 16 := by omega
              have hm16b : ((s[k]'hks).toNat : Int) % 16 < 16 := by omega
              have hm16c : (((s[k]'hks).toNat : Int) % 16).toNat = (s[k]'hks).toNat % 16 := by omega
              have hm16d : (s[k]'hks).toNat % 16 < 16 := by omega
              have hd16a : (0 : Int) ≤ ((s[k]'hks).toNat : Int) / 16 := by omega
              have hd16b : ((s[k]'hks).toNat : Int) / 16 < 16 := by omega
              have hd16c : (((s[k]'hks).toNat : Int) / 16).toNat = (s[k]'hks).toNat / 16 := by omega
              have hd16d : (s[k]'hks).toNat / 16 < 16 := by omega
              have hcv2 := conv_hex wr (.cells #[.int .u8 ((s[k]'hks).toNat : Int)] ByT) _ _ hd16d hm16d
              go_wp2_with fail
              go_region
              go_wp2_with fail
              go_meet
              refine ⟨?_, (hb1.alloc hb1.size _).drew⟩
              rw [enc1_hexB, Hx.out]
              exact congrArg Value.string (str_append [61] [_, _])
            | false =>
              have Hx := hid hx; clear hx
              go_wp2_with fail
              go_meet
              exact ⟨by rw [enc1_hexB, Hx.out]; rfl, hb1⟩
          case rest =>
            obtain ⟨hs8, hb2⟩ := hcut
            obtain ⟨X, hX⟩ : ∃ X : ByteArray, X = ⟨(enc1 (s[k]'hks) last).toArray⟩ := ⟨_, rfl⟩
            rw [← hX] at hs8
            subst hs8
            have hXd : X.data.toList = enc1 (s[k]'hks) last := by rw [hX]
            have he3 : X.size ≤ 3 := by rw [Lib.size_eq, hXd]; exact (enc1_ok (s[k]'hks) last).2.1
            have HX := hid hXd
            clear hX hXd
            have Hdrop := hid (drop_cons hks)
            have hn1 : (9223372036854775807 < L.size + X.size) = False := eq_false (by omega)
            have hn2 : (9223372036854775807 < L.size + 1) = False := eq_false (by omega)
            have hn3 : (9223372036854775807 < L.size + 1 + 2) = False := eq_false (by omega)
            have hn4 : (9223372036854775807 < A.size + (L.size + 1 + 2)) = False := eq_false (by omega)
            have hn5 : (9223372036854775807 < X.size) = False := eq_false (by omega)
            have z0 : (⟨#[]⟩ : ByteArray).size = 0 := rfl
            have z1 : (⟨#[61]⟩ : ByteArray).size = 1 := rfl
            have z2 : (⟨#[13, 10]⟩ : ByteArray).size = 2 := rfl
            cases last
            · by_cases hroom : L.size + X.size > 75
              · have hri : decide ((75 : Int) < (L.size : Int) + (X.size : Int)) = true := decide_eq_true (by omega)
                go_wp2_with fail
                go_roundw
                case rel =>
                  refine ⟨k + 1, _, _, by omega, by go_num, rfl, rfl, ?_, hb2, ?_, ?_⟩
                  · simp [z0, z1, z2]; omega
                  · rw [← Hacc.out, Hdrop.out, quoteGo_false _ _ _ (isEmpty_false (Hlast.out)), ← HX.out, ← Lib.size_eq, if_pos hroom]
                    simp [z0]
                  · simp [z0, z1, z2]; omega
                case measure => simp [intOf]; omega
              · have hri : decide ((75 : Int) < (L.size : Int) + (X.size : Int)) = false := decide_eq_false (by omega)
                go_wp2_with fail
                go_roundw
                case rel =>
                  refine ⟨k + 1, _, _, by omega, by go_num, rfl, rfl, ?_, hb2, ?_, ?_⟩
                  · simp [z0, z1, z2]; omega
                  · rw [← Hacc.out, Hdrop.out, quoteGo_false _ _ _ (isEmpty_false (Hlast.out)), ← HX.out, ← Lib.size_eq, if_neg hroom]
                    simp
                  · omega
                case measure => simp [intOf]; omega
            · by_cases hroom : L.size + X.size > 76
              · have hri : decide ((76 : Int) < (L.size : Int) + (X.size : Int)) = true := decide_eq_true (by omega)
                go_wp2_with fail
                go_roundw
                case rel =>
                  refine ⟨k + 1, _, _, by omega, by go_num, rfl, rfl, ?_, hb2, ?_, ?_⟩
                  · simp [z0, z1, z2]; omega
                  · rw [← Hacc.out, Hdrop.out, quoteGo_true _ _ _ (isEmpty_true (Hlast.out)), ← HX.out, ← Lib.size_eq, if_pos hroom]
                    simp [z0]
                  · simp [z0, z1, z2]; omega
                case measure => simp [intOf]; omega
              · have hri : decide ((76 : Int) < (L.size : Int) + (X.size : Int)) = false := decide_eq_false (by omega)
                go_wp2_with fail
                go_roundw
                case rel =>
                  refine ⟨k + 1, _, _, by omega, by go_num, rfl, rfl, ?_, hb2, ?_, ?_⟩
                  · simp [z0, z1, z2]; omega
                  · rw [← Hacc.out, Hdrop.out, quoteGo_true _ _ _ (isEmpty_true (Hlast.out)), ← HX.out, ← Lib.size_eq, if_neg hroom]
                    simp
                  · omega
                case measure => simp [intOf]; omega
    · obtain rfl : k = s.size := by omega
      have hfin : A.data.toList ++ L.data.toList = quote s.data.toList := by
        rw [← Hacc.out, List.drop_eq_nil_of_le (by rw [← Lib.size_eq]; exact Nat.le_refl _)]; simp [quoteGo]
      have Hfin := hid hfin; clear hfin
      have hn1 : (9223372036854775807 < A.size + L.size) = False := eq_false (by omega)
      go_wp2_with fail
      go_ret
      refine ⟨?_, hb⟩
      rw [← Hfin.out]
      exact congrArg (fun x => Ending.returned (Value.string x)) (by rw [str_mk (A ++ L)]; simp)
end Go.Proofs.YtignjjnflcpiiaaDoor
