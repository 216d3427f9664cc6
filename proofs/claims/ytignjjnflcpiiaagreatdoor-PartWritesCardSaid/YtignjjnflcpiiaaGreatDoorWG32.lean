import Derived.Test.YtignjjnflcpiiaaGreatDoorWQuoteW
import Derived.Test.YtignjjnflcpiiaaGreatDoorWPlain1
set_option linter.unusedVariables false
set_option linter.unusedSimpArgs false
set_option maxHeartbeats 1000000
namespace Go.Proofs.YtignjjnflcpiiaaGreatDoor
open Go.RowKit
set_option maxHeartbeats 400000 in
theorem in_any (n lo hi : Int) (w : World) : Calls Tryz.prog 50 #[.int .i64 n, .int .i64 lo, .int .i64 hi] w fun e w' => e = .returned (.bool (decide (lo ≤ n) && decide (n ≤ hi))) ∧ w = w' := by
  by_cases h : lo ≤ n
  · have h1 : decide (lo ≤ n) = true := decide_eq_true h
    go_enter Tryz.func50, Tryz.ntmps50
    go_wp2
    go_ret
    exact ⟨by rw [h1]; rfl, rfl⟩
  · have h1 : decide (lo ≤ n) = false := decide_eq_false h
    go_enter Tryz.func50, Tryz.ntmps50
    go_wp2
    go_ret
    exact ⟨rfl, rfl⟩
theorem str_mk (X : ByteArray) : X = ⟨X.data.toList.toArray⟩ := by cases X; simp
set_option maxHeartbeats 4000000 in
set_option maxRecDepth 100000 in
theorem refQuote_any (s : ByteArray) (w : World) (hs : s.size ≤ 1099511627776) :
    Calls Tryz.prog 72 #[.string s] w fun e w' => e = .returned (.string ⟨(quote s.data.toList).toArray⟩) ∧ Below w.heap.size w w' := by
  go_enter Tryz.func72, Tryz.ntmps72
  go_wp2_with fail
  go_loopw [3, 4, 13] (fun va vl i wr => ∃ (k : Nat) (A L : ByteArray), k ≤ s.size ∧ i = .int .i64 k ∧ va = .string A ∧ vl = .string L ∧ L.size ≤ 76 ∧ Below w.heap.size w wr ∧ A.data.toList ++ (L.data.toList ++ quoteGo L.size (s.data.toList.drop k)) = quote s.data.toList ∧ A.size ≤ 79 * k) (fun _ _ i _ => s.size - (intOf i).toNat)
  case atStart => exact ⟨0, ⟨#[]⟩, ⟨#[]⟩, Nat.zero_le _, rfl, rfl, rfl, by decide, Below.refl _ _, rfl, by decide⟩
  case round =>
    obtain ⟨k, A, L, hk, rfl, rfl, rfl, hL, hb, hacc, hA⟩ := hrel
    have Hacc := hid hacc; clear hacc
    by_cases hks : k < s.size
    · have hcv1 : (convert 86 9 (.slice (some ⟨wr.heap.size, 0, none⟩) 1 1)).run Tryz.prog (wr.alloc (.cells #[.int .u8 ((s[k]'hks).toNat : Int)] ByT)) = .ok (.string ⟨#[s[k]'hks]⟩) (wr.alloc (.cells #[.int .u8 ((s[k]'hks).toNat : Int)] ByT)) := conv_new wr [s[k]'hks] 1 rfl
      obtain ⟨last, hlast⟩ : ∃ b : Bool, (k + 1 = s.size ∧ b = true) ∨ (k + 1 < s.size ∧ b = false) := by
        by_cases h : k + 1 = s.size
        · exact ⟨true, .inl ⟨h, rfl⟩⟩
        · exact ⟨false, .inr ⟨by omega, rfl⟩⟩
      have Hlast := hid hlast; clear hlast
      have hle : ((k : Int) == (s.size : Int) - 1) = last := by
        rcases Hlast.out with ⟨hl, rfl⟩ | ⟨hl, rfl⟩
        · rw [beq_iff_eq]; omega
        · exact beq_eq_false_iff_ne.2 (by omega)
      have hb1 : Below w.heap.size w (wr.alloc (.cells #[.int .u8 ((s[k]'hks).toNat : Int)] ByT)) := hb.alloc hb.size _
      go_upto_region 8 with (fail)
      obtain ⟨bl, hbl⟩ : ∃ bl : Bool, bl = (isBl (s[k]'hks) && !last) := ⟨_, rfl⟩
      have Hbl := hid hbl; clear hbl
      go_cut [9] (fun v wx => v = .bool bl ∧ wx = wr.alloc (.cells #[.int .u8 ((s[k]'hks).toNat : Int)] ByT))
      case first =>
        rcases u8_32 (s[k]'hks) with ⟨q1, q2, q3⟩ | ⟨q1, q2, q3⟩
        all_goals rcases u8_9 (s[k]'hks) with ⟨r1, r2, r3⟩ | ⟨r1, r2, r3⟩
        all_goals
          have Q1 := hid q1
          have R1 := hid r1
          clear q1 r1 q2 r2
          go_wp2_with fail
          go_meet
          exact ⟨by rw [Hbl.out]; simp [isBl, Q1.out, R1.out, hle], rfl⟩
      case rest =>
        obtain ⟨rfl, rfl⟩ := hcut
        go_upto_region 9 with (fail)
        go_cut [48] (fun v wx => v = .bool (hexB (s[k]'hks) last) ∧ wx = wr.alloc (.cells #[.int .u8 ((s[k]'hks).toNat : Int)] ByT))
        case first =>
          have hc255 : (s[k]'hks).toNat < 256 := (s[k]'hks).toNat_lt
          have hw64 : wrap64 ((s[k]'hks).toNat : Int) = ((s[k]'hks).toNat : Int) := IntWalk.wrap64_in _ (by omega)
          cases hp : isPlain (s[k]'hks) with
          | true =>
            obtain ⟨p1, p2, p3⟩ := (isPlain_iff _).1 hp
            have p3' : (((s[k]'hks).toNat : Int) != 61) = true := by rw [bne_iff_ne]; omega
            have p4 : (decide ((33 : Int) ≤ ((s[k]'hks).toNat : Int)) && decide (((s[k]'hks).toNat : Int) ≤ 126)) = true := by
              rw [Bool.and_eq_true]; exact ⟨decide_eq_true (by omega), decide_eq_true (by omega)⟩
            have Hin := hid (fun W => in_any ((s[k]'hks).toNat : Int) 33 126 W)
            rw [p4] at Hin
            have Hp := hid hp; clear hp p1 p2 p3 p4
            go_wp2_with fail
            refine (Hin.out _).mono ?_
            rintro e w1 ⟨rfl, rfl⟩
            go_wp2_with fail
            go_meet
            exact ⟨by simp [hexB, Hp.out], rfl⟩
          | false =>
            have hpp : ¬ (33 ≤ (s[k]'hks).toNat ∧ (s[k]'hks).toNat ≤ 126 ∧ (s[k]'hks).toNat ≠ 61) := by rw [← isPlain_iff, hp]; decide
            have hpq : (decide ((33 : Int) ≤ ((s[k]'hks).toNat : Int)) && decide (((s[k]'hks).toNat : Int) ≤ 126)) = false ∨ ((decide ((33 : Int) ≤ ((s[k]'hks).toNat : Int)) && decide (((s[k]'hks).toNat : Int) ≤ 126)) = true ∧ (((s[k]'hks).toNat : Int) != 61) = false) := by
              cases hb : (decide ((33 : Int) ≤ ((s[k]'hks).toNat : Int)) && decide (((s[k]'hks).toNat : Int) ≤ 126)) with
              | false => exact .inl rfl
              | true =>
                rw [Bool.and_eq_true, decide_eq_true_eq, decide_eq_true_eq] at hb
                refine .inr ⟨rfl, ?_⟩
                have : (s[k]'hks).toNat = 61 := by omega
                rw [this]; rfl
            have Hp := hid hp; clear hp hpp
            have hx : hexB (s[k]'hks) last = !bl := by
              rw [hexB, Hp.out, Hbl.out]
              cases isBl (s[k]'hks) <;> cases last <;> rfl
            have Hx := hid hx; clear hx
            have Hin := hid (fun W => in_any ((s[k]'hks).toNat : Int) 33 126 W)
            rcases hpq with p4 | ⟨p4, p3'⟩
            all_goals
              rw [p4] at Hin
              clear p4
              go_wp2_with fail
              refine (Hin.out _).mono ?_
              rintro e w1 ⟨rfl, rfl⟩
              go_wp2_with fail
              go_meet
              exact ⟨by rw [Hx.out], rfl⟩
        case rest =>
          obtain ⟨rfl, rfl⟩ := hcut
          go_upto_if 48 with (fail)
          go_cut [8] (fun v wx => v = .string ⟨(enc1 (s[k]'hks) last).toArray⟩ ∧ Below w.heap.size w wx)
          case first =>
            cases hx : hexB (s[k]'hks) last with
            | true =>
              have Hx := hid hx; clear hx
              have hc256 : (s[k]'hks).toNat < 256 := (s[k]'hks).toNat_lt
              have hm16a : (0 : Int) ≤ ((s[k]'hks).toNat : Int) % 16 := by omega
              have hm16b : ((s[k]'hks).toNat : Int) % 16 < 16 := by omega
              have hm16c : (((s[k]'hks).toNat : Int) % 16).toNat = (s[k]'hks).toNat % 16 := by omega
              have hm16d : (s[k]'hks).toNat % 16 < 16 := by omega
              have hd16a : (0 : Int) ≤ ((s[k]'hks).toNat : Int) / 16 := by omega
              have hd16b : ((s[k]'hks).toNat : Int) / 16 < 16 := by omega
              have hd16c : (((s[k]'hks).toNat : Int) / 16).toNat = (s[k]'hks).toNat / 16 := by omega
              have hd16d : (s[k]'hks).toNat / 16 < 16 := by omega
              have hcv2 := conv_hex wr (.cells #[.int .u8 ((s[k]'hks).toNat : Int)] ByT) _ _ hd16d hm16d
              go_wp2_with fail
              go_region
              go_wp2_with fail
              go_meet
              refine ⟨?_, (hb1.alloc hb1.size _).drew⟩
              rw [enc1_hexB, Hx.out]
              exact congrArg Value.string (str_append [61] [_, _])
            | false =>
              have Hx := hid hx; clear hx
              go_wp2_with fail
              go_meet
              exact ⟨by rw [enc1_hexB, Hx.out]; rfl, hb1⟩
          case rest =>
            obtain ⟨hs8, hb2⟩ := hcut
            obtain ⟨X, hX⟩ : ∃ X : ByteArray, X = ⟨(enc1 (s[k]'hks) last).toArray⟩ := ⟨_, rfl⟩
            rw [← hX] at hs8
            subst hs8
            have hXd : X.data.toList = enc1 (s[k]'hks) last := by rw [hX]
            have he3 : X.size ≤ 3 := by rw [Lib.size_eq, hXd]; exact (enc1_ok (s[k]'hks) last).2.1
            have HX := hid hXd
            clear hX hXd
            have Hdrop := hid (drop_cons hks)
            have hn1 : (9223372036854775807 < L.size + X.size) = False := eq_false (by omega)
            have hn2 : (9223372036854775807 < L.size + 1) = False := eq_false (by omega)
            have hn3 : (9223372036854775807 < L.size + 1 + 2) = False := eq_false (by omega)
            have hn4 : (9223372036854775807 < A.size + (L.size + 1 + 2)) = False := eq_false (by omega)
            have hn5 : (9223372036854775807 < X.size) = False := eq_false (by omega)
            have z0 : (⟨#[]⟩ : ByteArray).size = 0 := rfl
            have z1 : (⟨#[61]⟩ : ByteArray).size = 1 := rfl
            have z2 : (⟨#[13, 10]⟩ : ByteArray).size = 2 := rfl
            cases last
            · by_cases hroom : L.size + X.size > 75
              · have hri : decide ((75 : Int) < (L.size : Int) + (X.size : Int)) = true := decide_eq_true (by omega)
                go_wp2_with fail
                go_roundw
                case rel =>
                  refine ⟨k + 1, _, _, by omega, by go_num, rfl, rfl, ?_, hb2, ?_, ?_⟩
                  · simp [z0, z1, z2]; omega
                  · rw [← Hacc.out, Hdrop.out, quoteGo_false _ _ _ (isEmpty_false (Hlast.out)), ← HX.out, ← Lib.size_eq, if_pos hroom]
                    simp [z0]
                  · simp [z0, z1, z2]; omega
                case measure => simp [intOf]; omega
              · have hri : decide ((75 : Int) < (L.size : Int) + (X.size : Int)) = false := decide_eq_false (by omega)
                go_wp2_with fail
                go_roundw
                case rel =>
                  refine ⟨k + 1, _, _, by omega, by go_num, rfl, rfl, ?_, hb2, ?_, ?_⟩
                  · simp [z0, z1, z2]; omega
                  · rw [← Hacc.out, Hdrop.out, quoteGo_false _ _ _ (isEmpty_false (Hlast.out)), ← HX.out, ← Lib.size_eq, if_neg hroom]
                    simp
                  · omega
                case measure => simp [intOf]; omega
            · by_cases hroom : L.size + X.size > 76
              · have hri : decide ((76 : Int) < (L.size : Int) + (X.size : Int)) = true := decide_eq_true (by omega)
                go_wp2_with fail
                go_roundw
                case rel =>
                  refine ⟨k + 1, _, _, by omega, by go_num, rfl, rfl, ?_, hb2, ?_, ?_⟩
                  · simp [z0, z1, z2]; omega
                  · rw [← Hacc.out, Hdrop.out, quoteGo_true _ _ _ (isEmpty_true (Hlast.out)), ← HX.out, ← Lib.size_eq, if_pos hroom]
                    simp [z0]
                  · simp [z0, z1, z2]; omega
                case measure => simp [intOf]; omega
              · have hri : decide ((76 : Int) < (L.size : Int) + (X.size : Int)) = false := decide_eq_false (by omega)
                go_wp2_with fail
                go_roundw
                case rel =>
                  refine ⟨k + 1, _, _, by omega, by go_num, rfl, rfl, ?_, hb2, ?_, ?_⟩
                  · simp [z0, z1, z2]; omega
                  · rw [← Hacc.out, Hdrop.out, quoteGo_true _ _ _ (isEmpty_true (Hlast.out)), ← HX.out, ← Lib.size_eq, if_neg hroom]
                    simp
                  · omega
                case measure => simp [intOf]; omega
    · obtain rfl : k = s.size := by omega
      have hfin : A.data.toList ++ L.data.toList = quote s.data.toList := by
        rw [← Hacc.out, List.drop_eq_nil_of_le (by rw [← Lib.size_eq]; exact Nat.le_refl _)]; simp [quoteGo]
      have Hfin := hid hfin; clear hfin
      have hn1 : (9223372036854775807 < A.size + L.size) = False := eq_false (by omega)
      go_wp2_with fail
      go_ret
      refine ⟨?_, hb⟩
      rw [← Hfin.out]
      exact congrArg (fun x => Ending.returned (Value.string x)) (by rw [str_mk (A ++ L)]; simp)
end Go.Proofs.YtignjjnflcpiiaaGreatDoor
namespace Go.Proofs.YtignjjnflcpiiaaGreatDoor
def bits8 (c : UInt8) : List Nat := [c.toNat / 128 % 2, c.toNat / 64 % 2, c.toNat / 32 % 2, c.toNat / 16 % 2, c.toNat / 8 % 2, c.toNat / 4 % 2, c.toNat / 2 % 2, c.toNat % 2]
def bitsB (b : B) : List Nat := b.flatMap bits8
def val6 (l : List Nat) : Nat := (((((l.getD 0 0 * 2 + l.getD 1 0) * 2 + l.getD 2 0) * 2 + l.getD 3 0) * 2 + l.getD 4 0) * 2 + l.getD 5 0)
def six (l : List Nat) : List Nat := if h : l = [] then [] else val6 l :: six (l.drop 6)
termination_by l.length
decreasing_by have := List.length_pos_iff.2 h; simp; omega
theorem six_nil : six [] = [] := by rw [six, dif_pos rfl]
theorem six_ne {l : List Nat} (h : l ≠ []) : six l = val6 l :: six (l.drop 6) := by rw [six, dif_neg h]
def padQ (l : B) : B := l ++ List.replicate ((4 - l.length % 4) % 4) 61
def chunk (l : B) : B := if h : l = [] then [] else l.take 76 ++ crlf ++ chunk (l.drop 76)
termination_by l.length
decreasing_by have := List.length_pos_iff.2 h; simp; omega
theorem chunk_nil : chunk [] = [] := by rw [chunk, dif_pos rfl]
theorem chunk_ne {l : B} (h : l ≠ []) : chunk l = l.take 76 ++ crlf ++ chunk (l.drop 76) := by rw [chunk, dif_neg h]
def quads : B → B
  | [] => []
  | [a] => quad [a]
  | [a, b] => quad [a, b]
  | a :: b :: c :: r => quad [a, b, c] ++ quads r
theorem padQ_four (x l : B) (h : x.length = 4) : padQ (x ++ l) = x ++ padQ l := by
  unfold padQ
  rw [List.length_append, h, List.append_assoc]
  congr 3
  omega
theorem pack_letters (b : B) : padQ ((six (bitsB b)).map letter) = quads b := by
  fun_induction quads b with
  | case1 => simp [bitsB, six_nil, padQ]
  | case2 a =>
    have ha := a.toNat_lt
    have e : six (bitsB [a]) = [a.toNat / 4, a.toNat % 4 * 16] := by
      rw [six_ne (by simp [bitsB, bits8]), six_ne (by simp [bitsB, bits8])]
      simp only [bitsB, bits8, List.flatMap_cons, List.flatMap_nil, List.append_nil, List.drop_succ_cons, List.drop_zero, List.drop_nil, six_nil, val6, List.getD_cons_zero, List.getD_cons_succ, List.getD_nil]
      congr 1
      · omega
      · congr 1; omega
    rw [e]; rfl
  | case3 a b =>
    have ha := a.toNat_lt
    have hb := b.toNat_lt
    have e : six (bitsB [a, b]) = [a.toNat / 4, a.toNat % 4 * 16 + b.toNat / 16, b.toNat % 16 * 4] := by
      rw [six_ne (by simp [bitsB, bits8]), six_ne (by simp [bitsB, bits8]), six_ne (by simp [bitsB, bits8])]
      simp only [bitsB, bits8, List.flatMap_cons, List.flatMap_nil, List.cons_append, List.nil_append, List.append_nil, List.drop_succ_cons, List.drop_zero, List.drop_nil, six_nil, val6, List.getD_cons_zero, List.getD_cons_succ, List.getD_nil]
      congr 1
      · omega
      · congr 1
        · omega
        · congr 1; omega
    rw [e]; rfl
  | case4 a b c r ih =>
    have ha := a.toNat_lt
    have hb := b.toNat_lt
    have hc := c.toNat_lt
    have e : six (bitsB (a :: b :: c :: r)) = [a.toNat / 4, a.toNat % 4 * 16 + b.toNat / 16, b.toNat % 16 * 4 + c.toNat / 64, c.toNat % 64] ++ six (bitsB r) := by
      rw [six_ne (by simp [bitsB, bits8]), six_ne (by simp [bitsB, bits8]), six_ne (by simp [bitsB, bits8]), six_ne (by simp [bitsB, bits8])]
      simp only [bitsB, bits8, List.flatMap_cons, List.cons_append, List.nil_append, List.drop_succ_cons, List.drop_zero, val6, List.getD_cons_zero, List.getD_cons_succ]
      congr 1
      · omega
      · congr 1
        · omega
        · congr 1
          · omega
          · congr 1; omega
    rw [e, List.map_append, padQ_four _ _ rfl, ih]
    rfl
theorem quads_len4 (b : B) : b ≠ [] → ∃ x, quads b = x ∧ x ≠ [] := by
  intro h
  refine ⟨_, rfl, ?_⟩
  match b, h with
  | [a], _ => simp [quads, quad]
  | [a, b], _ => simp [quads, quad]
  | a :: b :: c :: r, _ => simp [quads, quad]
theorem packGo_chunk (b : B) : ∀ line, line ≤ 72 → line % 4 = 0 → packGo line b = if b = [] then [] else (quads b).take (76 - line) ++ crlf ++ chunk ((quads b).drop (76 - line)) := by
  fun_induction quads b with
  | case1 => intro line _ _; simp [packGo]
  | case2 a =>
    intro line h1 h2
    have e : 4 ≤ 76 - line := by omega
    rw [if_neg (by simp), List.take_of_length_le (by exact e), List.drop_of_length_le (by exact e), chunk_nil]
    simp [packGo]
  | case3 a b =>
    intro line h1 h2
    have e : 4 ≤ 76 - line := by omega
    rw [if_neg (by simp), List.take_of_length_le (by exact e), List.drop_of_length_le (by exact e), chunk_nil]
    simp [packGo]
  | case4 a b c r ih =>
    intro line h1 h2
    rw [if_neg (by simp), packGo]
    have hq : (quad [a, b, c]).length = 4 := rfl
    by_cases hr : r = []
    · subst hr
      rw [if_pos (.inr rfl)]
      have e : 4 ≤ 76 - line := by omega
      simp only [quads, List.append_nil]
      rw [List.take_of_length_le (by exact e), List.drop_of_length_le (by exact e), chunk_nil]
      simp [packGo]
    · by_cases hl : line + 4 = 76
      · rw [if_pos (.inl hl), ih 0 (by omega) rfl, if_neg hr]
        have e : 76 - line = 4 := by omega
        rw [e, List.take_left' hq, List.drop_left' hq]
        obtain ⟨x, hx, hne⟩ := quads_len4 r hr
        rw [hx, chunk_ne hne]
      · rw [if_neg (by simp [hl, hr]), ih (line + 4) (by omega) (by omega), if_neg hr]
        have e : 76 - line = 4 + (76 - (line + 4)) := by omega
        rw [e, ← hq, List.take_length_add_append, List.drop_length_add_append]
        simp
theorem refPack_eq (b : B) : chunk (padQ ((six (bitsB b)).map letter)) = pack b := by
  rw [pack_letters, pack, packGo_chunk b 0 (by omega) rfl]
  by_cases hb : b = []
  · subst hb; simp [quads, chunk_nil]
  · rw [if_neg hb]
    obtain ⟨x, hx, hne⟩ := quads_len4 b hb
    rw [hx, chunk_ne hne]
def fin (u : Option US) : Option B := u.bind fun u => if 0 < u.n % 4 then none else some u.out
end Go.Proofs.YtignjjnflcpiiaaGreatDoor
