import Derived.Test.YtignjjnflcpiiaaGreatDoorKG7
import Derived.Test.YtignjjnflcpiiaaGreatDoorKPlain1
import Derived.Test.YtignjjnflcpiiaaGreatDoorKShelf
set_option linter.unusedVariables false
set_option linter.unusedSimpArgs false
set_option maxHeartbeats 1000000
namespace Go.Proofs.YtignjjnflcpiiaaGreatDoor
open Go.RowKit
def resT : Option B → Value
  | some l => .tuple #[.string ⟨l.toArray⟩, .nilIface]
  | none => .tuple #[.string ⟨#[]⟩, .iface 28 (.int .i64 3)]
abbrev alphaS : ByteArray := ⟨#[65, 66, 67, 68, 69, 70, 71, 72, 73, 74, 75, 76, 77, 78, 79, 80, 81, 82, 83, 84, 85, 86, 87, 88, 89, 90, 97, 98, 99, 100, 101, 102, 103, 104, 105, 106, 107, 108, 109, 110, 111, 112, 113, 114, 115, 116, 117, 118, 119, 120, 121, 122, 48, 49, 50, 51, 52, 53, 54, 55, 56, 57, 43, 47]⟩
theorem alpha_tab : ∀ n : Fin 256, (alpha.idxOf (UInt8.ofNat n.val) < 64 ∧ Lib.indexByte alphaS.data.toList (UInt8.ofNat n.val) = (alpha.idxOf (UInt8.ofNat n.val) : Int)) ∨ (alpha.idxOf (UInt8.ofNat n.val) = 64 ∧ Lib.indexByte alphaS.data.toList (UInt8.ofNat n.val) = -1) := by decide +kernel
theorem ws_tab : ∀ n : Fin 256, (isWs (UInt8.ofNat n.val) = true ∧ 0 ≤ Lib.indexByte [13, 10, 32, 9] (UInt8.ofNat n.val)) ∨ (isWs (UInt8.ofNat n.val) = false ∧ Lib.indexByte [13, 10, 32, 9] (UInt8.ofNat n.val) < 0) := by decide +kernel
theorem ofNat_toNat8 (c : UInt8) : UInt8.ofNat c.toNat = c := by simp
theorem alpha_at (c : UInt8) : (alpha.idxOf c < 64 ∧ Lib.indexByte alphaS.data.toList c = (alpha.idxOf c : Int)) ∨ (alpha.idxOf c = 64 ∧ Lib.indexByte alphaS.data.toList c = -1) := by
  have := alpha_tab ⟨c.toNat, c.toNat_lt⟩
  simpa only [ofNat_toNat8] using this
theorem ws_at (c : UInt8) : (isWs c = true ∧ 0 ≤ Lib.indexByte [13, 10, 32, 9] c) ∨ (isWs c = false ∧ Lib.indexByte [13, 10, 32, 9] c < 0) := by
  have := ws_tab ⟨c.toNat, c.toNat_lt⟩
  simpa only [ofNat_toNat8] using this
theorem toUInt8_back (c : UInt8) : ((c.toNat : Nat) : Int).toNat.toUInt8 = c := by simp
def wsI (c : UInt8) : Int := Lib.indexByte [13, 10, 32, 9] c
def aidx (c : UInt8) : Nat := alpha.idxOf c
theorem index_ws (c : UInt8) (w : World) :
    Calls Tryz.prog 42 #[.string ⟨#[13, 10, 32, 9]⟩, .int .u8 (c.toNat : Int)] w fun e w' => e = .returned (.int .i64 (wsI c)) ∧ w = w' :=
  (Tryz.strings_IndexByte ⟨#[13, 10, 32, 9]⟩ (c.toNat : Int) w).mono fun e w' ⟨h1, h2⟩ => ⟨by rw [h1, toUInt8_back]; rfl, h2.symm⟩
theorem index_alpha_yes (c : UInt8) (w : World) (h : aidx c < 64) :
    Calls Tryz.prog 42 #[.string alphaS, .int .u8 (c.toNat : Int)] w fun e w' => e = .returned (.int .i64 (aidx c)) ∧ w = w' :=
  (Tryz.strings_IndexByte alphaS (c.toNat : Int) w).mono fun e w' ⟨h1, h2⟩ => ⟨by
    rw [h1, toUInt8_back]
    rcases alpha_at c with h' | h'
    · rw [h'.2]; rfl
    · exact absurd h'.1 (Nat.ne_of_lt h), h2.symm⟩
theorem index_alpha_no (c : UInt8) (w : World) (h : ¬ aidx c < 64) :
    Calls Tryz.prog 42 #[.string alphaS, .int .u8 (c.toNat : Int)] w fun e w' => e = .returned (.int .i64 (-1)) ∧ w = w' :=
  (Tryz.strings_IndexByte alphaS (c.toNat : Int) w).mono fun e w' ⟨h1, h2⟩ => ⟨by
    rw [h1, toUInt8_back]
    rcases alpha_at c with h' | h'
    · exact absurd h'.1 h
    · rw [h'.2], h2.symm⟩
theorem index_alpha_any (c : UInt8) (w : World) : ∃ j : Int, (aidx c < 64 → j = aidx c) ∧ (¬ aidx c < 64 → j = -1) ∧
    Calls Tryz.prog 42 #[.string alphaS, .int .u8 (c.toNat : Int)] w fun e w' => e = .returned (.int .i64 j) ∧ w = w' := by
  by_cases h : aidx c < 64
  · exact ⟨_, fun _ => rfl, fun h' => absurd h h', index_alpha_yes c w h⟩
  · exact ⟨_, fun h' => absurd h' h, fun _ => rfl, index_alpha_no c w h⟩
theorem aidx_64 (c : UInt8) (h : ¬ aidx c < 64) : alpha.idxOf c = 64 := (alpha_at c).elim (fun h' => absurd h'.1 h) (fun h' => h'.1)
theorem wsI_yes (c : UInt8) (h : isWs c = true) : 0 ≤ wsI c := (ws_at c).elim (fun h' => h'.2) (fun h' => by rw [h'.1] at h; cases h)
theorem wsI_no (c : UInt8) (h : isWs c = false) : wsI c < 0 := (ws_at c).elim (fun h' => by rw [h'.1] at h; cases h) (fun h' => h'.2)
def USok (v n p : Nat) : Prop := v < 64 ^ (n % 4) ∧ ((n % 4 = 0 ∧ p ≤ 2) ∨ (n % 4 = 1 ∧ p = 0) ∨ (n % 4 = 2 ∧ p = 0) ∨ (n % 4 = 3 ∧ p ≤ 1))
theorem USok.lt {v n p : Nat} (h : USok v n p) : v < 262144 := by
  have h1 := h.1
  have h2 : n % 4 ≤ 3 := by omega
  have := Nat.pow_le_pow_right (n := 64) (by decide) h2
  omega
theorem drop_cons {s : ByteArray} {k : Nat} (h : k < s.size) : s.data.toList.drop k = s[k] :: s.data.toList.drop (k + 1) := by
  have hl : k < s.data.toList.length := by rw [← Lib.size_eq]; exact h
  rw [List.drop_eq_getElem_cons hl]
  rfl
theorem urun_ws1 {u : US} {c : UInt8} {l r : B} {X : Option US} (h : isWs c = true) (hd : l = c :: r) (hr : urun u l = X) : urun u r = X := by
  rw [← hr, hd]
  simp [urun, ustep, h]
theorem or64 (v k : Nat) (hv : v < 2 ^ 40) (hk : k < 64) : bits .or .i64 ((v : Int) * 64) (k : Int) = ((v * 64 + k : Nat) : Int) := by
  rw [i64_join 6 _ _ (by omega) (by omega) (by omega) (by omega) (by omega) (by omega)]
  omega
theorem or64' (v k : Nat) (hv : v < 2 ^ 40) (hk : k < 64) : ∃ V : Nat, V = v * 64 + k ∧ bits .or .i64 ((v : Int) * 64) (k : Int) = (V : Int) := ⟨_, rfl, or64 v k hv hk⟩
theorem and255 (v : Nat) (hv : v < 2 ^ 40) : bits .and .i64 (v : Int) 255 = ((v % 256 : Nat) : Int) := by
  have := i64_mask 8 (by omega) (v : Int) (by omega) (by omega)
  rw [show (255 : Int) = 2 ^ 8 - 1 from rfl, this]; omega
theorem and65535 (v : Nat) (hv : v < 2 ^ 40) : bits .and .i64 (v : Int) 65535 = ((v % 65536 : Nat) : Int) := by
  have := i64_mask 16 (by omega) (v : Int) (by omega) (by omega)
  rw [show (65535 : Int) = 2 ^ 16 - 1 from rfl, this]; omega
theorem byteI (x : Nat) : Value.int .u8 ((UInt8.ofNat x).toNat : Int) = Value.int .u8 ((x % 256 : Nat) : Int) := by
  rw [UInt8.toNat_ofNat']
def tri (V : Nat) : B := [UInt8.ofNat (V / 65536), UInt8.ofNat (V / 256), UInt8.ofNat V]
theorem news_tri (wr : World) (V m : Nat) (hV : V < 16777216) : ∀ (j : Nat) (u : Value), (Lib.byteCells ((tri V).take m))[j]? = some u →
    (wr.alloc (Obj.cells #[Value.int .u8 ((V : Int) / 65536), Value.int .u8 ((V : Int) / 256 % 256), Value.int .u8 ((V : Int) % 256)] ByT)).cell? ((⟨wr.heap.size, 0, none⟩ : Addr).add j) = some u := by
  intro j u h
  rw [Lib.byteCells, List.getElem?_map, List.getElem?_take] at h
  split at h
  · have e1 : ((V / 65536 % 256 : Nat) : Int) = (V : Int) / 65536 := by omega
    have e2 : ((V / 256 % 256 : Nat) : Int) = (V : Int) / 256 % 256 := by omega
    have e3 : ((V % 256 : Nat) : Int) = (V : Int) % 256 := by omega
    match j, h with
    | 0, h => simp only [tri, List.getElem?_cons_zero, Option.map_some, Option.some.injEq] at h; rw [byteI, e1] at h; subst h; simp [Addr.add]
    | 1, h => simp only [tri, List.getElem?_cons_succ, List.getElem?_cons_zero, Option.map_some, Option.some.injEq] at h; rw [byteI, e2] at h; subst h; simp [Addr.add]
    | 2, h => simp only [tri, List.getElem?_cons_succ, List.getElem?_cons_zero, Option.map_some, Option.some.injEq] at h; rw [byteI, e3] at h; subst h; simp [Addr.add]
    | j + 3, h => simp [tri] at h
  · simp at h
theorem bytes_one (l : B) : ∀ u ∈ Lib.byteCells l, u.oneCell' = true := by
  intro u hu
  simp only [Lib.byteCells, List.mem_map] at hu
  obtain ⟨b, _, rfl⟩ := hu
  rfl
abbrev finR (u : US) (k : Nat) (r : B) : Option US := (ustep.ufin u k).bind fun s => urun s r
theorem run_pad {v n p : Nat} {out r l : B} {c : UInt8} {X : Option US} (hc : c = 61) (h2 : 2 ≤ n % 4) (hd : l = c :: r) (hr : urun ⟨v, n, p, out⟩ l = X) : finR ⟨v, n, p + 1, out⟩ 0 r = X := by
  rw [← hr, hd, hc]
  simp only [urun, ustep_pad v n p out h2]
theorem run_alpha {v n : Nat} {out r l : B} {c : UInt8} {X : Option US} (hw : isWs c = false) (ha : aidx c < 64) (hp : ¬ (c = 61 ∧ 2 ≤ n % 4)) (hd : l = c :: r) (hr : urun ⟨v, n, 0, out⟩ l = X) : finR ⟨v, n, 0, out⟩ (aidx c) r = X := by
  rw [← hr, hd]
  have h1 : (c == 61 && decide (2 ≤ n % 4)) = false := by
    cases hb : (c == 61 && decide (2 ≤ n % 4)) with
    | false => rfl
    | true => simp only [Bool.and_eq_true, beq_iff_eq, decide_eq_true_eq] at hb; exact absurd hb hp
  have h2 : ¬ (alpha.idxOf c = 64 ∨ 0 < 0) := by rintro (h | h); exact absurd h (Nat.ne_of_lt ha); omega
  simp only [urun, ustep, hw, h1, Bool.false_eq_true, if_false, if_neg h2]
  rfl
theorem run_bad {v n p : Nat} {out r l : B} {c : UInt8} {X : Option US} (hw : isWs c = false) (ha : ¬ aidx c < 64 ∨ 0 < p) (hp : ¬ (c = 61 ∧ 2 ≤ n % 4)) (hd : l = c :: r) (hr : urun ⟨v, n, p, out⟩ l = X) : X = none := by
  rw [← hr, hd]
  have h1 : (c == 61 && decide (2 ≤ n % 4)) = false := by
    cases hb : (c == 61 && decide (2 ≤ n % 4)) with
    | false => rfl
    | true => simp only [Bool.and_eq_true, beq_iff_eq, decide_eq_true_eq] at hb; exact absurd hb hp
  have h2 : alpha.idxOf c = 64 ∨ 0 < p := ha.imp (aidx_64 c) id
  simp only [urun, ustep, hw, h1, Bool.false_eq_true, if_false, if_pos h2]
  rfl
theorem fin_mid {v n p k V : Nat} {out r : B} {X : Option US} (h : n % 4 ≠ 3) (hV : V = v * 64 + k) (hr : finR ⟨v, n, p, out⟩ k r = X) : urun ⟨V, n + 1, p, out⟩ r = X := by
  rw [← hr, finR, ufin_mid _ _ _ _ _ h, hV]; rfl
theorem fin_ok {v n p k V : Nat} {out r : B} {X : Option US} (h : n % 4 = 3) (hV : V = v * 64 + k) (hk : ¬ (p = 1 ∧ V % 256 ≠ 0 ∨ p = 2 ∧ V % 65536 ≠ 0)) (hr : finR ⟨v, n, p, out⟩ k r = X) :
    urun ⟨0, n + 1, p, out ++ (tri V).take (3 - p)⟩ r = X := by
  rw [← hr, finR]
  simp only [ustep.ufin]
  rw [if_neg (by omega), ← hV, if_neg hk]
  rfl
theorem fin_bad {v n p k V : Nat} {out r : B} {X : Option US} (h : n % 4 = 3) (hV : V = v * 64 + k) (hk : p = 1 ∧ V % 256 ≠ 0 ∨ p = 2 ∧ V % 65536 ≠ 0) (hr : finR ⟨v, n, p, out⟩ k r = X) : X = none := by
  rw [← hr, finR]
  simp only [ustep.ufin]
  rw [if_neg (by omega), ← hV, if_pos hk]
  rfl
theorem unpack_none {s : B} (h : urun ⟨0, 0, 0, []⟩ s = none) : resT (unpack s) = .tuple #[.string ⟨#[]⟩, .iface 28 (.int .i64 3)] := by
  simp [unpack, h, resT]
theorem USok.mid {v n p p' V : Nat} (h : USok v n p) (hV : V < 64 * v + 64) (h3 : n % 4 ≠ 3) (h0 : n % 4 = 0 → p = 0) (hp : p' = p ∨ (n % 4 = 2 ∧ p' = p + 1)) : USok V (n + 1) p' := by
  obtain ⟨h1, h2⟩ := h
  have hc : n % 4 = 0 ∨ n % 4 = 1 ∨ n % 4 = 2 := by omega
  rcases hc with hn | hn | hn
  · have e : (n + 1) % 4 = 1 := by omega
    refine ⟨by rw [e]; rw [hn] at h1; omega, by omega⟩
  · have e : (n + 1) % 4 = 2 := by omega
    refine ⟨by rw [e]; rw [hn] at h1; omega, by omega⟩
  · have e : (n + 1) % 4 = 3 := by omega
    refine ⟨by rw [e]; rw [hn] at h1; omega, by omega⟩
set_option maxHeartbeats 4000000 in
set_option maxRecDepth 100000 in
theorem unpack_any (s : ByteArray) (w : World) (hs : s.size ≤ 1099511627776) :
    Calls Tryz.prog 142 #[.string s] w fun e w' => e = .returned (resT (unpack s.data.toList)) ∧ Below w.heap.size w w' := by
  obtain ⟨i0, hi, hz0, hz1, hz2⟩ := info_parts infoByte
  go_enter Tryz.func142, Tryz.ntmps142
  go_wp2_with fail
  go_loopw [4, 5, 6, 7, 13] (fun o v n p i wr => ∃ (k vn nn pn : Nat) (out : B), k ≤ s.size ∧ i = .int .i64 k ∧ v = .int .i64 vn ∧ n = .int .i64 nn ∧ p = .int .i64 pn ∧ wr.ownsRow w.heap.size ByT 1 o out.length (Lib.byteCells out) ∧ Below w.heap.size w wr ∧ USok vn nn pn ∧ urun ⟨vn, nn, pn, out⟩ (s.data.toList.drop k) = urun ⟨0, 0, 0, []⟩ s.data.toList ∧ nn ≤ k ∧ out.length ≤ 3 * (nn / 4)) (fun _ _ _ _ i _ => s.size - (intOf i).toNat)
  case atStart => exact ⟨0, 0, 0, 0, [], Nat.zero_le _, rfl, rfl, rfl, rfl, World.ownsRow_nil _ _ _ _, Below.refl _ _, ⟨by decide, by omega⟩, by simp, by omega, by simp⟩
  case round =>
    obtain ⟨k, vn, nn, pn, out, hk, rfl, rfl, rfl, rfl, hown, hb, hok, hrun, hnk, hol⟩ := hrel
    have hv := hok.lt
    have hok2 := hok.2
    have Hok := hid hok; clear hok
    have Hrun := hid hrun; clear hrun
    by_cases hks : k < s.size
    · have Hdrop := hid (drop_cons hks)
      by_cases hws : isWs (s[k]'hks) = true
      · have hwi := wsI_yes _ hws
        have Hws := hid hws; clear hws
        go_wp2_with fail
        refine (index_ws _ _).mono ?_
        rintro e w1 ⟨rfl, rfl⟩
        go_wp2_with fail
        go_roundw
        case rel => exact ⟨k + 1, vn, nn, pn, out, by omega, by go_num, rfl, rfl, rfl, hown, hb, Hok.out, urun_ws1 Hws.out Hdrop.out Hrun.out, by omega, hol⟩
        case measure => simp [intOf]; omega
      · have hws' : isWs (s[k]'hks) = false := by simpa using hws
        have hwi := wsI_no _ hws'
        clear hws
        have Hws := hid hws'; clear hws'
        by_cases hpad : s[k]'hks = 61 ∧ 2 ≤ nn % 4
        · obtain ⟨hc61, hn2⟩ := hpad
          have hceq : (((s[k]'hks).toNat : Int) == 61) = true := by rw [hc61]; rfl
          have Hc61 := hid hc61; clear hc61
          obtain ⟨j, -, -, hj⟩ := index_alpha_any (s[k]'hks) wr
          go_wp2_with fail
          refine (index_ws _ _).mono ?_
          rintro e w1 ⟨rfl, rfl⟩
          go_wp2_with fail
          refine hj.mono ?_
          rintro e w1 ⟨rfl, rfl⟩
          have HR := hid (run_pad Hc61.out hn2 Hdrop.out Hrun.out)
          obtain ⟨V, hV, h0r⟩ := or64' vn 0 (by omega) (by omega)
          have HV := hid hV
          have HA := hid (show 0 < 64 by omega)
          have hVlt : V < 16777216 := by omega
          simp only [Int.cast_ofNat_Int] at h0r
          have e255 := and255 V (by omega)
          have e65535 := and65535 V (by omega)
          clear hV
          by_cases hn3 : nn % 4 = 3
          · have Hn3 := hid hn3
            have hn3' : 3 ≤ nn % 4 := by omega
            clear hn3
            have hp01 : pn = 0 ∨ pn = 1 := by omega
            rcases hp01 with rfl | rfl
            · by_cases hz : V % 256 = 0
              · go_wp2_with (at_builtin; refine wpList_append_own _ rfl _ _ 86 rfl w.heap.size ByT i0 (.int .u8 0) 1 1 Tryz.underlying86 hi hz0 hz1 hz2 rfl (by decide) _ _ _ rfl (hown.alloc _) ⟨wr.heap.size, 0, none⟩ 2 3 (Lib.byteCells ((tri V).take 2)) rfl rfl ?c1 ?c2 ?c3 ?c4 ?c5 ?_)
                case c1 => exact news_tri wr V 2 hVlt
                case c2 => exact bytes_one _
                case c3 => unfold maxLen; omega
                case c4 => omega
                case c5 => have := hb.size; simp; omega
                intro v' w2 hown' hgrow _
                go_wp2_with fail
                go_roundw
                case rel =>
                  exact ⟨k + 1, 0, nn + 1, 1, out ++ (tri V).take 2, by omega, by go_num, rfl, by go_num, by go_num, by simpa [Lib.byteCells_append, show (tri V).length = 3 from rfl] using hown', (hb.alloc hb.size _).grown hgrow (by have := hb.size; simp; omega) (fun k hk => (hown.lt k hk).1), ⟨by rw [show (nn + 1) % 4 = 0 from by have := Hn3.out; omega]; decide, .inl ⟨by have := Hn3.out; omega, by omega⟩⟩, fin_ok Hn3.out HV.out (by omega) HR.out, by omega, by have := Hn3.out; simp [tri]; omega⟩
                case measure => simp [intOf]; omega
              · go_wp2_with fail
                go_ret2
                exact ⟨by rw [unpack_none (fin_bad Hn3.out HV.out (by omega) HR.out)]; rfl, hb⟩
            · by_cases hz : V % 65536 = 0
              · go_wp2_with (at_builtin; refine wpList_append_own _ rfl _ _ 86 rfl w.heap.size ByT i0 (.int .u8 0) 1 1 Tryz.underlying86 hi hz0 hz1 hz2 rfl (by decide) _ _ _ rfl (hown.alloc _) ⟨wr.heap.size, 0, none⟩ 1 3 (Lib.byteCells ((tri V).take 1)) rfl rfl ?c1 ?c2 ?c3 ?c4 ?c5 ?_)
                case c1 => exact news_tri wr V 1 hVlt
                case c2 => exact bytes_one _
                case c3 => unfold maxLen; omega
                case c4 => omega
                case c5 => have := hb.size; simp; omega
                intro v' w2 hown' hgrow _
                go_wp2_with fail
                go_roundw
                case rel =>
                  exact ⟨k + 1, 0, nn + 1, 2, out ++ (tri V).take 1, by omega, by go_num, rfl, by go_num, by go_num, by simpa [Lib.byteCells_append, show (tri V).length = 3 from rfl] using hown', (hb.alloc hb.size _).grown hgrow (by have := hb.size; simp; omega) (fun k hk => (hown.lt k hk).1), ⟨by rw [show (nn + 1) % 4 = 0 from by have := Hn3.out; omega]; decide, .inl ⟨by have := Hn3.out; omega, by omega⟩⟩, fin_ok Hn3.out HV.out (by omega) HR.out, by omega, by have := Hn3.out; simp [tri]; omega⟩
                case measure => simp [intOf]; omega
              · go_wp2_with fail
                go_ret2
                exact ⟨by rw [unpack_none (fin_bad Hn3.out HV.out (by omega) HR.out)]; rfl, hb⟩
          · have Hn3 := hid hn3
            have hn3' : nn % 4 < 3 := by omega
            clear hn3
            obtain rfl : pn = 0 := by omega
            go_wp2_with fail
            go_roundw
            case rel => exact ⟨k + 1, V, nn + 1, 1, out, by omega, by go_num, rfl, by go_num, by go_num, hown, hb, Hok.out.mid (by have := HV.out; have := HA.out; omega) (by have := Hn3.out; omega) (by omega) (by omega), fin_mid Hn3.out HV.out HR.out, by omega, by omega⟩
            case measure => simp [intOf]; omega
        · have Hpad := hid hpad
          have hceq : ((((s[k]'hks).toNat : Int) == 61) = true ∧ nn % 4 < 2) ∨ (((s[k]'hks).toNat : Int) == 61) = false := by
            by_cases h61 : s[k]'hks = 61
            · exact .inl ⟨by rw [h61]; rfl, Nat.lt_of_not_le fun h => hpad ⟨h61, h⟩⟩
            · refine .inr (beq_eq_false_iff_ne.2 fun h => h61 (UInt8.toNat_inj.1 ?_))
              have h' : (s[k]'hks).toNat = 61 := by omega
              rw [h']; rfl
          clear hpad
          by_cases hbad : ¬ aidx (s[k]'hks) < 64 ∨ 0 < pn
          · have HX := hid (run_bad Hws.out hbad Hpad.out Hdrop.out Hrun.out)
            obtain ⟨j, hj1, hj2, hj⟩ := index_alpha_any (s[k]'hks) wr
            have hjj : j < 0 ∨ (0 ≤ j ∧ 0 < pn) := by
              rcases hbad with h | h
              · rw [hj2 h]; omega
              · by_cases h' : aidx (s[k]'hks) < 64
                · rw [hj1 h']; omega
                · rw [hj2 h']; omega
            clear hj1 hj2 hbad
            have Hj := hid hj
            clear hj
            rcases hceq with ⟨hceq, hn2⟩ | hceq
            all_goals
              rcases hjj with hjj | ⟨hjj, hpp⟩
              all_goals
                go_wp2_with fail
                refine (index_ws _ _).mono ?_
                rintro e w1 ⟨rfl, rfl⟩
                go_wp2_with fail
                refine Hj.out.mono ?_
                rintro e w1 ⟨rfl, rfl⟩
                go_wp2_with fail
                go_ret2
                exact ⟨by rw [unpack_none HX.out]; rfl, hb⟩
          · have ha : aidx (s[k]'hks) < 64 := by omega
            obtain rfl : pn = 0 := by omega
            have HR := hid (run_alpha Hws.out ha Hpad.out Hdrop.out Hrun.out)
            obtain ⟨V, hV, h0r⟩ := or64' vn (aidx (s[k]'hks)) (by omega) ha
            have HV := hid hV
            have HA := hid ha
            have hVlt : V < 16777216 := by omega
            have e255 := and255 V (by omega)
            have e65535 := and65535 V (by omega)
            clear hV hbad
            by_cases hn3 : nn % 4 = 3
            · have Hn3 := hid hn3
              have hn3' : 3 ≤ nn % 4 := by omega
              clear hn3
              rcases hceq with ⟨hceq, hn2⟩ | hceq
              · omega
              · go_wp2_with fail
                refine (index_ws _ _).mono ?_
                rintro e w1 ⟨rfl, rfl⟩
                go_wp2_with fail
                refine (index_alpha_yes _ _ HA.out).mono ?_
                rintro e w1 ⟨rfl, rfl⟩
                go_wp2_with (at_builtin; refine wpList_append_own _ rfl _ _ 86 rfl w.heap.size ByT i0 (.int .u8 0) 1 1 Tryz.underlying86 hi hz0 hz1 hz2 rfl (by decide) _ _ _ rfl (hown.alloc _) ⟨wr.heap.size, 0, none⟩ 3 3 (Lib.byteCells ((tri V).take 3)) rfl rfl ?c1 ?c2 ?c3 ?c4 ?c5 ?_)
                case c1 => exact news_tri wr V 3 hVlt
                case c2 => exact bytes_one _
                case c3 => unfold maxLen; omega
                case c4 => omega
                case c5 => have := hb.size; simp; omega
                intro v' w2 hown' hgrow _
                go_wp2_with fail
                go_roundw
                case rel =>
                  exact ⟨k + 1, 0, nn + 1, 0, out ++ (tri V).take 3, by omega, by go_num, rfl, by go_num, by go_num, by simpa [Lib.byteCells_append, show (tri V).length = 3 from rfl] using hown', (hb.alloc hb.size _).grown hgrow (by have := hb.size; simp; omega) (fun k hk => (hown.lt k hk).1), ⟨by rw [show (nn + 1) % 4 = 0 from by have := Hn3.out; omega]; decide, .inl ⟨by have := Hn3.out; omega, by omega⟩⟩, fin_ok Hn3.out HV.out (by omega) HR.out, by omega, by have := Hn3.out; simp [tri]; omega⟩
                case measure => simp [intOf]; omega
            · have Hn3 := hid hn3
              have hn3' : nn % 4 < 3 := by omega
              clear hn3
              rcases hceq with ⟨hceq, hn2⟩ | hceq
              all_goals
                go_wp2_with fail
                refine (index_ws _ _).mono ?_
                rintro e w1 ⟨rfl, rfl⟩
                go_wp2_with fail
                refine (index_alpha_yes _ _ HA.out).mono ?_
                rintro e w1 ⟨rfl, rfl⟩
                go_wp2_with fail
                go_roundw
                case rel => exact ⟨k + 1, V, nn + 1, 0, out, by omega, by go_num, rfl, by go_num, by go_num, hown, hb, Hok.out.mid (by have := HV.out; have := HA.out; omega) (by have := Hn3.out; omega) (by omega) (by omega), fin_mid Hn3.out HV.out HR.out, by omega, by omega⟩
                case measure => simp [intOf]; omega
    · obtain rfl : k = s.size := by omega
      have hfin : urun ⟨0, 0, 0, []⟩ s.data.toList = some ⟨vn, nn, pn, out⟩ := by
        rw [← Hrun.out, Lib.size_eq, List.drop_length]; rfl
      have Hfin := hid hfin
      clear hfin
      have hcv := conv_own hown
      by_cases hn0 : 0 < nn % 4
      · have hres : resT (unpack s.data.toList) = .tuple #[.string ⟨#[]⟩, .iface 28 (.int .i64 3)] := by
          simp [unpack, Hfin.out, hn0, resT]
        have Hres := hid hres
        clear hres
        go_wp2_with fail
        go_ret2
        exact ⟨by rw [Hres.out]; rfl, hb⟩
      · have hres : resT (unpack s.data.toList) = .tuple #[.string ⟨out.toArray⟩, .nilIface] := by
          simp [unpack, Hfin.out, hn0, resT]
        have Hres := hid hres
        clear hres
        go_wp2_with fail
        go_ret2
        exact ⟨by rw [Hres.out]; rfl, hb⟩
end Go.Proofs.YtignjjnflcpiiaaGreatDoor
