import Derived.Test.YtignjjnflcpiiaaGreatDoorKQuoteW
import Derived.Test.YtignjjnflcpiiaaGreatDoorKPlain1
import Derived.Deep.AppendLies
import Derived.Deep.RegionLaw
set_option linter.unusedVariables false
set_option linter.unusedSimpArgs false
set_option maxHeartbeats 1000000
namespace Go.Proofs.YtignjjnflcpiiaaGreatDoor
open Go.RowKit
set_option maxHeartbeats 1000000 in
theorem digit_any (c : UInt8) (w : World) : Calls Tryz.prog 175 #[.int .u8 (c.toNat : Int)] w fun e w' => e = .returned (.int .i64 (digit c)) ∧ w = w' := by
  have hc := c.toNat_lt
  have hd : (48 ≤ c.toNat ∧ c.toNat ≤ 57 ∧ digit c = (c.toNat : Int) - 48) ∨ (65 ≤ c.toNat ∧ c.toNat ≤ 70 ∧ digit c = (c.toNat : Int) - 65 + 10) ∨ (97 ≤ c.toNat ∧ c.toNat ≤ 102 ∧ digit c = (c.toNat : Int) - 97 + 10) ∨
      (c.toNat < 48 ∧ digit c = -1) ∨ (57 < c.toNat ∧ c.toNat < 65 ∧ digit c = -1) ∨ (70 < c.toNat ∧ c.toNat < 97 ∧ digit c = -1) ∨ (102 < c.toNat ∧ digit c = -1) := by
    simp only [digit, UInt8.le_iff_toNat_le]
    have e1 : (48 : UInt8).toNat = 48 := rfl
    have e2 : (57 : UInt8).toNat = 57 := rfl
    have e3 : (65 : UInt8).toNat = 65 := rfl
    have e4 : (70 : UInt8).toNat = 70 := rfl
    have e5 : (97 : UInt8).toNat = 97 := rfl
    have e6 : (102 : UInt8).toNat = 102 := rfl
    rw [e1, e2, e3, e4, e5, e6]
    split
    · omega
    · split
      · omega
      · split
        · omega
        · omega
  rcases hd with ⟨h1, h2, h3⟩ | ⟨h1, h2, h3⟩ | ⟨h1, h2, h3⟩ | ⟨h1, h3⟩ | ⟨h1, h2, h3⟩ | ⟨h1, h2, h3⟩ | ⟨h1, h3⟩
  all_goals
    have H3 := hid h3
    clear h3
    go_enter Tryz.func175, Tryz.ntmps175
    go_wp2
    go_ret
    exact ⟨by rw [H3.out]; rfl, rfl⟩
theorem digit_lt (c : UInt8) : digit c < 16 := by
  have hc := c.toNat_lt
  simp only [digit, UInt8.le_iff_toNat_le]
  have e2 : (57 : UInt8).toNat = 57 := rfl
  have e4 : (70 : UInt8).toNat = 70 := rfl
  have e6 : (102 : UInt8).toNat = 102 := rfl
  rw [e2, e4, e6]
  split
  · omega
  · split
    · omega
    · split
      · omega
      · omega
theorem dec_hex3 {c d e : UInt8} {r : B} (hc : c = 61) (hd : 0 ≤ digit d) (he : 0 ≤ digit e) : dec (c :: d :: e :: r) = (dec r).map (UInt8.ofNat ((digit d).toNat * 16 + (digit e).toNat) :: ·) := by
  rw [dec, if_pos ⟨hc, hd, he⟩]
theorem lit61 : isLit 61 = false := by decide
theorem dec_short {c : UInt8} {r : B} (hc : c = 61) (hr : r.length < 2) : dec (c :: r) = none := by
  subst hc
  match r, hr with
  | [], _ => rfl
  | [d], _ => rfl
theorem dec_no {c d e : UInt8} {r : B} (hc : c = 61) (h : digit d < 0 ∨ digit e < 0) : dec (c :: d :: e :: r) = none := by
  subst hc
  rw [dec, if_neg (by omega), lit61]; rfl
theorem dec_bad {c : UInt8} {r : B} (hc : c ≠ 61) (h : isLit c = false) : dec (c :: r) = none := by
  match r with
  | [] => simp [dec, h]
  | [d] => simp [dec, h]
  | d :: e :: r => rw [dec, if_neg (by intro h'; exact hc h'.1), h]; rfl
theorem hasSuffix_one (l : B) (c : UInt8) : Lib.hasSuffix l [c] = (l.getLast? == some c) := by
  rw [Lib.hasSuffix, Bool.eq_iff_iff]
  rw [List.isSuffixOf_iff_suffix, beq_iff_eq, List.singleton_suffix_iff_getLast?_eq_some]
theorem bodyOf_eq (l : B) : bodyOf l = Lib.trimSuffix (trimR l) [61] := by
  rw [bodyOf, softOf, Lib.trimSuffix, hasSuffix_one, List.dropLast_eq_take]
  rfl
theorem own_below {w w' : World} {B e n size : Nat} {v : Value} {xs : List Value} (h : w.ownsRow B e size v n xs) (hb : Below w.heap.size w w') : w'.ownsRow B e size v n xs := by
  refine ⟨h.1, ?_⟩
  rcases h.2 with h2 | ⟨g, cap, cur, hv, hg, hh, r⟩
  · exact .inl h2
  · exact .inr ⟨g, cap, cur, hv, hg, by rw [hb.block g (Array.getElem?_eq_some_iff.1 hh).1]; exact hh, r⟩
theorem trimR_size (l : ByteArray) : (trimR l.data.toList).length ≤ l.size := by
  rw [trimR, Lib.trimRightS, List.length_reverse, Lib.size_eq]
  refine Nat.le_trans (List.dropWhile_sublist _).length_le ?_
  rw [List.length_reverse]; exact Nat.le_refl _
theorem one_new (wr : World) (v : Value) : ∀ (j : Nat) (u : Value), [v][j]? = some u → ((wr.alloc (.cells #[v] ByT)).drew).cell? ((⟨wr.heap.size, 0, none⟩ : Addr).add j) = some u := by
  intro j u h
  match j, h with
  | 0, h => simp at h; subst h; simp [Addr.add]
  | j + 1, h => simp at h
theorem one_new' (wr : World) (v : Value) : ∀ (j : Nat) (u : Value), [v][j]? = some u → (wr.alloc (.cells #[v] ByT)).cell? ((⟨wr.heap.size, 0, none⟩ : Addr).add j) = some u := by
  intro j u h
  match j, h with
  | 0, h => simp at h; subst h; simp [Addr.add]
  | j + 1, h => simp at h
theorem one_byte (n : Int) : ∀ u ∈ [Value.int .u8 n], u.oneCell' = true := by
  intro u hu; simp at hu; subst hu; rfl
theorem size_new {B : Nat} {wr : World} (h : B ≤ wr.heap.size) (o : Obj) : B ≤ ((wr.alloc o).drew).heap.size := by simp; omega
theorem size_new' {B : Nat} {wr : World} (h : B ≤ wr.heap.size) (o : Obj) : B ≤ (wr.alloc o).heap.size := by simp; omega
theorem split_any (s : ByteArray) (m : Int) (w : World) (hs : s.size < 4294967281) (hm : w.cell? ⟨4, 0, none⟩ = some (.int .i64 m)) :
    ∃ ls : List ByteArray, ls.map (·.data.toList) = splitC s.data.toList ∧
      Calls Tryz.prog 103 #[.string s, .string ⟨#[13, 10]⟩] w fun e w' => e = .returned (.slice (some ⟨w.heap.size, 0, none⟩) ls.length ls.length) ∧ w' = w.alloc (.cells (ls.map Value.string).toArray 9) := by
  refine ⟨_, split_crlf s, ?_⟩
  have hlen : (Lib.splitB ⟨#[13, 10]⟩ 0 (Lib.countB s ⟨#[13, 10]⟩) s).length = Lib.countB s ⟨#[13, 10]⟩ + 1 := Lib.splitB_all ⟨#[13, 10]⟩ (by decide) 0 _ s rfl
  rw [hlen]
  exact Tryz.strings_Split s ⟨#[13, 10]⟩ m w hs hm (by decide)
def dts (ls : List ByteArray) : List B := ls.map (·.data.toList)
def tot (ls : List ByteArray) : Nat := (ls.map fun l => l.size + 2).sum
theorem tot_cons (l : ByteArray) (ls : List ByteArray) : tot (l :: ls) = l.size + 2 + tot ls := by simp [tot]
theorem tot_split {ls : List ByteArray} {s : ByteArray} (h : ls.map (·.data.toList) = splitC s.data.toList) : tot ls = s.size + 2 := by
  have h1 := splitC_sum s.data.toList
  have h2 := splitC_ne s.data.toList
  rw [← h] at h1 h2
  have h3 : ∀ xs : List ByteArray, tot xs = ((xs.map (·.data.toList)).map List.length).sum + 2 * xs.length := by
    intro xs
    induction xs with
    | nil => rfl
    | cons a r ih =>
      rw [tot_cons, ih, Lib.size_eq a]
      simp only [List.map_cons, List.sum_cons, List.length_cons]
      omega
  rw [h3, Lib.size_eq]
  have : 1 ≤ ls.length := by
    cases ls with
    | nil => simp at h2
    | cons a r => simp
  rw [List.length_map] at h1
  omega
theorem unqLines_cons (l : B) (rest : List B) : unqLines (l :: rest) = (dec (bodyOf l)).bind fun x => (unqLines rest).map fun y => x ++ (if !softOf l && !rest.isEmpty then crlf else []) ++ y := rfl
theorem line_none {l : B} {rest : List B} {out out2 : B} {r : B} {X : Option B} (hX : (unqLines (l :: rest)).map (out ++ ·) = X) (h : (dec r).map (out2 ++ ·) = (dec (bodyOf l)).map (out ++ ·)) (hd : dec r = none) : X = none := by
  rw [hd] at h
  have : dec (bodyOf l) = none := by
    cases hb : dec (bodyOf l) with
    | none => rfl
    | some x => rw [hb] at h; cases h
  rw [← hX, unqLines_cons, this]; rfl
theorem line_some {l : B} {rest : List B} {out out2 sep : B} {X : Option B} (hX : (unqLines (l :: rest)).map (out ++ ·) = X) (h : some out2 = (dec (bodyOf l)).map (out ++ ·)) (hs : sep = if !softOf l && !rest.isEmpty then crlf else []) :
    (unqLines rest).map ((out2 ++ sep) ++ ·) = X := by
  cases hb : dec (bodyOf l) with
  | none => rw [hb] at h; cases h
  | some x =>
    rw [hb] at h
    simp only [Option.map_some, Option.some.injEq] at h
    rw [← hX, unqLines_cons, hb, hs, h]
    cases unqLines rest with
    | none => rfl
    | some y => simp
theorem resT_none {X : Option B} (h : X = none) : resT X = .tuple #[.string ⟨#[]⟩, .iface 28 (.int .i64 3)] := by rw [h]; rfl
set_option maxHeartbeats 8000000 in
set_option maxRecDepth 100000 in
theorem unquote_any (s : ByteArray) (m : Int) (w : World) (hs : s.size < 4294967281) (hm : w.cell? ⟨4, 0, none⟩ = some (.int .i64 m)) :
    Calls Tryz.prog 143 #[.string s] w fun e w' => e = .returned (resT (unquote s.data.toList)) ∧ Below w.heap.size w w' := by
  obtain ⟨i0, hi, hz0, hz1, hz2⟩ := info_parts infoByte
  obtain ⟨ls, hls, hcs⟩ := split_any s m w hs hm
  have Hcs := hid hcs; clear hcs
  have hunq : (unqLines (dts ls)).map ([] ++ ·) = unquote s.data.toList := by
    rw [unquote, ← hls]; simp [dts]
  have htot := tot_split hls
  have Hls := hid hls; clear hls
  have Hunq := hid hunq; clear hunq
  have hll : 2 * ls.length ≤ tot ls := by
    clear htot Hls Hunq Hcs
    induction ls with
    | nil => simp
    | cons a r ih => rw [tot_cons]; simp; omega
  go_enter Tryz.func143, Tryz.ntmps143
  go_wp2_with fail
  refine Hcs.out.mono ?_
  rintro e W1 ⟨rfl, hW1⟩
  have HW1 := hid hW1
  have hb1 : Below w.heap.size w W1 := by rw [hW1]; exact (Below.refl _ w).alloc (Nat.le_refl _) _
  have hsz1 : W1.heap.size = w.heap.size + 1 := by rw [hW1]; simp
  have hcell : ∀ k (hk : k < ls.length), W1.cell? ⟨w.heap.size, k, none⟩ = some (.string (ls[k]'hk)) := by
    intro k hk
    rw [hW1, World.cell?_alloc_mark]
    simp [hk]
  clear hW1
  have Hcell := hid hcell; clear hcell
  have Hsz1 := hid hsz1
  have hsz1' : w.heap.size + 1 ≤ W1.heap.size := by omega
  clear hsz1
  have Htot := hid htot
  have htot' : tot ls ≤ s.size + 2 := by omega
  clear htot
  go_wp2_with fail
  go_loopw [4, 15] (fun o i wr => ∃ (k : Nat) (out : B), k ≤ ls.length ∧ i = .int .i64 k ∧ wr.ownsRow (w.heap.size + 1) ByT 1 o out.length (Lib.byteCells out) ∧ Below (w.heap.size + 1) W1 wr ∧ (unqLines (dts (ls.drop k))).map (out ++ ·) = unquote s.data.toList ∧ out.length + tot (ls.drop k) ≤ s.size + 2) (fun _ i _ => ls.length - (intOf i).toNat)
  case atStart => exact ⟨0, [], Nat.zero_le _, rfl, World.ownsRow_nil _ _ _ _, Below.refl _ _, Hunq.out, by simpa using htot'⟩
  case round =>
    obtain ⟨k, out, hk, rfl, hown, hb, hX, hot⟩ := hrel
    have HX := hid hX; clear hX
    by_cases hkl : k < ls.length
    · have hdr : ls.drop k = ls[k]'hkl :: ls.drop (k + 1) := List.drop_eq_getElem_cons hkl
      have hcl : wr.cell? ⟨w.heap.size, k, none⟩ = some (.string (ls[k]'hkl)) := by
        rw [hb.cell (p := ⟨w.heap.size, k, none⟩) (by simp)]; exact Hcell.out k hkl
      obtain ⟨l, hl⟩ : ∃ l, l = ls[k]'hkl := ⟨_, rfl⟩
      rw [← hl] at hdr hcl
      have Hdr := hid hdr
      rw [hdr, tot_cons] at hot
      clear hdr hl
      have hbs : w.heap.size + 1 ≤ wr.heap.size := Nat.le_trans hsz1' hb.size
      go_wp2_with fail
      refine (Tryz.strings_TrimRight_set l ⟨#[32, 9]⟩ _ (by omega) (by decide) (ascii_of_all (by decide))).mono ?_
      rintro e W2 ⟨rfl, hb2⟩
      have hown2 := own_below hown hb2
      have hb2' := hb.trans (hb2.mono hbs)
      clear hown hb hb2
      obtain ⟨t0, ht0⟩ : ∃ t0 : ByteArray, t0 = ⟨(Lib.trimRightS l.data.toList (⟨#[32, 9]⟩ : ByteArray).data.toList).toArray⟩ := ⟨_, rfl⟩
      have Ht0 : Hid (t0.data.toList = trimR l.data.toList) := by rw [ht0]; rfl
      have ht0s : t0.size ≤ l.size := by rw [Lib.size_eq t0, Ht0.out]; exact trimR_size l
      rw [← ht0]
      clear ht0
      go_wp2_with fail
      refine (Tryz.strings_HasSuffix t0 ⟨#[61]⟩ _ (by omega)).mono ?_
      rintro e W3 ⟨rfl, rfl⟩
      obtain ⟨soft, hsoft⟩ : ∃ b : Bool, b = Lib.hasSuffix t0.data.toList (⟨#[61]⟩ : ByteArray).data.toList := ⟨_, rfl⟩
      have Hsoft : Hid (soft = softOf l.data.toList) := by
        rw [hsoft, Ht0.out]; exact hasSuffix_one _ _
      rw [← hsoft]
      clear hsoft
      go_wp2_with fail
      refine (Tryz.strings_TrimSuffix t0 ⟨#[61]⟩ _ (by omega)).mono ?_
      rintro e W3 ⟨rfl, rfl⟩
      obtain ⟨t, ht⟩ : ∃ t : ByteArray, t = ⟨(Lib.trimSuffix t0.data.toList (⟨#[61]⟩ : ByteArray).data.toList).toArray⟩ := ⟨_, rfl⟩
      have Ht : Hid (t.data.toList = bodyOf l.data.toList) := by
        rw [ht, bodyOf_eq, ← Ht0.out]; rfl
      have hts : t.size ≤ l.size := by
        refine Nat.le_trans ?_ ht0s
        rw [Lib.size_eq t, Lib.size_eq t0, ht]
        exact Lib.trimSuffix_le _ _
      rw [← ht]
      clear ht
      go_wp2_with fail
      have HXl : Hid ((unqLines (l.data.toList :: dts (ls.drop (k + 1)))).map (out ++ ·) = unquote s.data.toList) := by
        have := HX.out
        rw [Hdr.out] at this
        exact this
      obtain ⟨wo, hwo⟩ : ∃ wo : World, wo = W3 := ⟨_, rfl⟩
      rw [← hwo] at hown2 hb2' ⊢
      clear hwo hcl hbs
      go_loopw [4, 9] (fun o i wr => ∃ (j : Nat) (out2 : B), j ≤ t.size ∧ i = .int .i64 j ∧ wr.ownsRow (w.heap.size + 1) ByT 1 o out2.length (Lib.byteCells out2) ∧ Below (w.heap.size + 1) W1 wr ∧ (dec (t.data.toList.drop j)).map (out2 ++ ·) = (dec (bodyOf l.data.toList)).map (out ++ ·) ∧ out2.length ≤ out.length + j) (fun _ i _ => t.size - (intOf i).toNat)
      case atStart => exact ⟨0, out, Nat.zero_le _, rfl, hown2, hb2', by rw [← Ht.out]; rfl, Nat.le_refl _⟩
      case round =>
        obtain ⟨j, out2, hj, rfl, hown, hb, hR, hol⟩ := hrel
        have HR := hid hR; clear hR
        clear hown2 hb2'
        have hbs : w.heap.size + 1 ≤ wr.heap.size := Nat.le_trans hsz1' hb.size
        by_cases hjt : j < t.size
        · have Hdj := hid (drop_cons hjt)
          have hcb : (t[j]'hjt).toNat < 256 := (t[j]'hjt).toNat_lt
          by_cases h61 : t[j]'hjt = 61
          · have H61 := hid h61
            have hceq : (((t[j]'hjt).toNat : Int) == 61) = true := by rw [h61]; rfl
            have hc32 : (((t[j]'hjt).toNat : Int) == 32) = false := by rw [h61]; rfl
            have hc9 : (((t[j]'hjt).toNat : Int) == 9) = false := by rw [h61]; rfl
            have hpl : isPlain (t[j]'hjt) = false := by rw [h61]; rfl
            clear h61
            by_cases hj2 : j + 2 < t.size
            · have hj1 : j + 1 < t.size := by omega
              have Hdj1 := hid (drop_cons hj1)
              have Hdj2 := hid (drop_cons hj2)
              have hcb1 : (t[j + 1]'hj1).toNat < 256 := (t[j + 1]'hj1).toNat_lt
              have hcb2 : (t[j + 2]'hj2).toNat < 256 := (t[j + 2]'hj2).toNat_lt
              have hd1 := digit_lt (t[j + 1]'hj1)
              have hd2 := digit_lt (t[j + 2]'hj2)
              by_cases hg1 : 0 ≤ digit (t[j + 1]'hj1)
              · by_cases hg2 : 0 ≤ digit (t[j + 2]'hj2)
                · have hor : bits .or .i64 (digit (t[j + 1]'hj1) * 16) (digit (t[j + 2]'hj2)) = digit (t[j + 1]'hj1) * 16 + digit (t[j + 2]'hj2) :=
                    i64_join 4 _ _ (by omega) (by omega) (by omega) (by omega) (by omega) (by omega)
                  have hwr : IntKind.i64.wrap (digit (t[j + 1]'hj1) * 16) = digit (t[j + 1]'hj1) * 16 := IntWalk.i64_in _ (by omega)
                  have hwu : IntKind.u8.wrap (digit (t[j + 1]'hj1) * 16 + digit (t[j + 2]'hj2)) = digit (t[j + 1]'hj1) * 16 + digit (t[j + 2]'hj2) := IntWalk.u8_in _ (by omega)
                  have hwj1 : IntKind.i64.wrap ((j : Int) + 1) = (j : Int) + 1 := IntWalk.i64_in _ (by omega)
                  have hwj2 : IntKind.i64.wrap ((j : Int) + 2) = (j : Int) + 2 := IntWalk.i64_in _ (by omega)
                  have hj1n : ((j : Int) + 1).toNat = j + 1 := by omega
                  have hj2n : ((j : Int) + 2).toNat = j + 2 := by omega
                  have hj1p : (0 : Int) ≤ (j : Int) + 1 := by omega
                  have hj2p : (0 : Int) ≤ (j : Int) + 2 := by omega
                  have hj1q : (j : Int) + 1 < t.size := by omega
                  have hj2q : (j : Int) + 2 < t.size := by omega
                  have hmaxl : out2.length + 1 ≤ maxLen := by unfold maxLen; omega
                  go_upto_region 15 with (first | (go_at_call 175; refine (digit_any _ _).mono ?_; rintro e w1 ⟨rfl, rfl⟩))
                  go_cut [4] (fun v wx => ∃ g cap, v = .slice (some ⟨g, 0, none⟩) (out2.length + 1) cap ∧ wx.ownsRow (w.heap.size + 1) ByT 1 (.slice (some ⟨g, 0, none⟩) (out2.length + 1) cap) (out2.length + 1) (Lib.byteCells out2 ++ [.int .u8 (digit (t[j + 1]'hj1) * 16 + digit (t[j + 2]'hj2))]) ∧ Below (w.heap.size + 1) W1 wx)
                  case first =>
                    go_region_law (first | (refine step_append_lies (w := _) rfl (.tmp 62) (.tmp 76) 86 rfl (w.heap.size + 1) ByT i0 (.int .u8 0) 1 1 Tryz.underlying86 hi hz0 hz1 hz2 rfl (by decide) _ _ _ (by simp [Act.eval]) ((hown.alloc _).drew) ⟨wr.heap.size, 0, none⟩ 1 1 [.int .u8 (digit (t[j + 1]'hj1) * 16 + digit (t[j + 2]'hj2))] (by simp [Act.eval]) rfl (one_new _ _) (one_byte _) (by decide) hmaxl (by omega) (size_new hbs _) _ rfl ?_; intro g cap w2 hown2 hgrow _ _) | (go_simp; go_at_call 175; refine (digit_any _ _).mono ?_; rintro e w1 ⟨rfl, rfl⟩))
                    all_goals
                      go_wp2_with fail
                      go_meet
                      exact ⟨g, cap, rfl, hown2, ((hb.alloc hbs _).drew).grown hgrow (size_new hbs _) (fun k hk => (hown.lt k hk).1)⟩
                  case rest =>
                    obtain ⟨g, cap, hv4, hown2, hb2⟩ := hcut
                    rw [hv4]
                    clear hv4
                    go_wp2_with fail
                    go_roundw
                    case rel =>
                      refine ⟨j + 3, out2 ++ [UInt8.ofNat ((digit (t[j + 1]'hj1)).toNat * 16 + (digit (t[j + 2]'hj2)).toNat)], by omega, by go_num, ?_, hb2, ?_, by simp; omega⟩
                      · have e : Value.int .u8 (digit (t[j + 1]'hj1) * 16 + digit (t[j + 2]'hj2)) = Value.int .u8 ((UInt8.ofNat ((digit (t[j + 1]'hj1)).toNat * 16 + (digit (t[j + 2]'hj2)).toNat)).toNat : Int) := by
                          rw [byteI]; congr 1; omega
                        rw [e] at hown2
                        simpa [Lib.byteCells] using hown2
                      · rw [← HR.out, Hdj.out, Hdj1.out, Hdj2.out, dec_hex3 H61.out hg1 hg2, Option.map_map]
                        congr 1
                        funext x
                        simp
                    case measure => simp [intOf]; omega
                · have HD : Hid (dec (t.data.toList.drop j) = none) := by
                    rw [Hdj.out, Hdj1.out, Hdj2.out]; exact dec_no H61.out (.inr (by omega))
                  go_wp2_with (first | (go_at_call 175; refine (digit_any _ _).mono ?_; rintro e w1 ⟨rfl, rfl⟩) | (go_at_call 172; refine (plain_any _ _).mono ?_; rintro e w1 ⟨rfl, rfl⟩))
                  go_ret2
                  exact ⟨by rw [resT_none (line_none HXl.out HR.out HD.out)]; rfl, hb1.trans (hb.mono (by omega))⟩
              · have HD : Hid (dec (t.data.toList.drop j) = none) := by
                  rw [Hdj.out, Hdj1.out, Hdj2.out]; exact dec_no H61.out (.inl (by omega))
                go_wp2_with (first | (go_at_call 175; refine (digit_any _ _).mono ?_; rintro e w1 ⟨rfl, rfl⟩) | (go_at_call 172; refine (plain_any _ _).mono ?_; rintro e w1 ⟨rfl, rfl⟩))
                go_ret2
                exact ⟨by rw [resT_none (line_none HXl.out HR.out HD.out)]; rfl, hb1.trans (hb.mono (by omega))⟩
            · have HD : Hid (dec (t.data.toList.drop j) = none) := by
                rw [Hdj.out]; exact dec_short H61.out (by rw [List.length_drop, ← Lib.size_eq]; omega)
              go_wp2_with (first | (go_at_call 175; refine (digit_any _ _).mono ?_; rintro e w1 ⟨rfl, rfl⟩) | (go_at_call 172; refine (plain_any _ _).mono ?_; rintro e w1 ⟨rfl, rfl⟩))
              go_ret2
              exact ⟨by rw [resT_none (line_none HXl.out HR.out HD.out)]; rfl, hb1.trans (hb.mono (by omega))⟩
          · have H61 := hid h61
            have hceq : (((t[j]'hjt).toNat : Int) == 61) = false := by
              refine beq_eq_false_iff_ne.2 fun h => h61 (UInt8.toNat_inj.1 ?_)
              have h' : (t[j]'hjt).toNat = 61 := by omega
              rw [h']; rfl
            clear h61
            have hmaxl : out2.length + 1 ≤ maxLen := by unfold maxLen; omega
            cases hpl : isPlain (t[j]'hjt) with
            | true =>
              have HL : Hid (isLit (t[j]'hjt) = true) := by unfold Hid isLit; rw [hpl]; rfl
              go_wp2_with (first | (go_at_call 172; refine (plain_any _ _).mono ?_; rintro e w1 ⟨rfl, rfl⟩) | (at_builtin; refine wpList_append_own _ rfl _ _ 86 rfl (w.heap.size + 1) ByT i0 (.int .u8 0) 1 1 Tryz.underlying86 hi hz0 hz1 hz2 rfl (by decide) _ _ _ rfl (hown.alloc _) ⟨wr.heap.size, 0, none⟩ 1 1 [.int .u8 ((t[j]'hjt).toNat : Int)] rfl rfl (one_new' _ _) (one_byte _) hmaxl (by omega) (size_new' hbs _) ?_))
              intro v' w2 hown' hgrow _
              go_wp2_with fail
              go_roundw
              case rel =>
                refine ⟨j + 1, out2 ++ [t[j]'hjt], by omega, by go_num, by simpa [Lib.byteCells] using hown', (hb.alloc hbs _).grown hgrow (size_new' hbs _) (fun k hk => (hown.lt k hk).1), ?_, by simp; omega⟩
                rw [← HR.out, Hdj.out, dec_lit _ _ HL.out, Option.map_map]
                congr 1
                funext x
                simp
              case measure => simp [intOf]; omega
            | false =>
              rcases u8_32 (t[j]'hjt) with ⟨q1, q2, q3⟩ | ⟨q1, q2, q3⟩
              · have HL : Hid (isLit (t[j]'hjt) = true) := by unfold Hid isLit; rw [q1]; simp
                clear q1 q2
                go_wp2_with (first | (go_at_call 172; refine (plain_any _ _).mono ?_; rintro e w1 ⟨rfl, rfl⟩) | (at_builtin; refine wpList_append_own _ rfl _ _ 86 rfl (w.heap.size + 1) ByT i0 (.int .u8 0) 1 1 Tryz.underlying86 hi hz0 hz1 hz2 rfl (by decide) _ _ _ rfl (hown.alloc _) ⟨wr.heap.size, 0, none⟩ 1 1 [.int .u8 ((t[j]'hjt).toNat : Int)] rfl rfl (one_new' _ _) (one_byte _) hmaxl (by omega) (size_new' hbs _) ?_))
                intro v' w2 hown' hgrow _
                go_wp2_with fail
                go_roundw
                case rel =>
                  refine ⟨j + 1, out2 ++ [t[j]'hjt], by omega, by go_num, by simpa [Lib.byteCells] using hown', (hb.alloc hbs _).grown hgrow (size_new' hbs _) (fun k hk => (hown.lt k hk).1), ?_, by simp; omega⟩
                  rw [← HR.out, Hdj.out, dec_lit _ _ HL.out, Option.map_map]
                  congr 1
                  funext x
                  simp
                case measure => simp [intOf]; omega
              · rcases u8_9 (t[j]'hjt) with ⟨r1, r2, r3⟩ | ⟨r1, r2, r3⟩
                · have HL : Hid (isLit (t[j]'hjt) = true) := by unfold Hid isLit; rw [r1]; simp
                  clear q1 q2 r1 r2
                  go_wp2_with (first | (go_at_call 172; refine (plain_any _ _).mono ?_; rintro e w1 ⟨rfl, rfl⟩) | (at_builtin; refine wpList_append_own _ rfl _ _ 86 rfl (w.heap.size + 1) ByT i0 (.int .u8 0) 1 1 Tryz.underlying86 hi hz0 hz1 hz2 rfl (by decide) _ _ _ rfl (hown.alloc _) ⟨wr.heap.size, 0, none⟩ 1 1 [.int .u8 ((t[j]'hjt).toNat : Int)] rfl rfl (one_new' _ _) (one_byte _) hmaxl (by omega) (size_new' hbs _) ?_))
                  intro v' w2 hown' hgrow _
                  go_wp2_with fail
                  go_roundw
                  case rel =>
                    refine ⟨j + 1, out2 ++ [t[j]'hjt], by omega, by go_num, by simpa [Lib.byteCells] using hown', (hb.alloc hbs _).grown hgrow (size_new' hbs _) (fun k hk => (hown.lt k hk).1), ?_, by simp; omega⟩
                    rw [← HR.out, Hdj.out, dec_lit _ _ HL.out, Option.map_map]
                    congr 1
                    funext x
                    simp
                  case measure => simp [intOf]; omega
                · have HD : Hid (dec (t.data.toList.drop j) = none) := by
                    rw [Hdj.out]; exact dec_bad H61.out (by rw [isLit, hpl, q1, r1]; rfl)
                  clear q1 q2 r1 r2
                  go_wp2_with (first | (go_at_call 175; refine (digit_any _ _).mono ?_; rintro e w1 ⟨rfl, rfl⟩) | (go_at_call 172; refine (plain_any _ _).mono ?_; rintro e w1 ⟨rfl, rfl⟩))
                  go_ret2
                  exact ⟨by rw [resT_none (line_none HXl.out HR.out HD.out)]; rfl, hb1.trans (hb.mono (by omega))⟩
        · obtain rfl : j = t.size := by omega
          have hfin : some out2 = (dec (bodyOf l.data.toList)).map (out ++ ·) := by
            rw [← HR.out, Lib.size_eq, List.drop_length]; simp [dec]
          have Hfin := hid hfin
          clear hfin
          have hsize : (⟨#[13, 10]⟩ : ByteArray).size = 2 := rfl
          cases soft with
          | true =>
            have hY := line_some HXl.out Hfin.out (sep := []) (by rw [← Hsoft.out]; rfl)
            rw [List.append_nil] at hY
            have HY := hid hY
            clear hY hsize
            go_wp2_with fail
            go_roundw
            case rel => exact ⟨k + 1, out2, by omega, by go_num, hown, hb, HY.out, by omega⟩
            case measure => simp [intOf]; omega
          | false =>
            by_cases hk1 : k + 1 < ls.length
            · have hY := line_some HXl.out Hfin.out (sep := crlf) (by
                rw [← Hsoft.out]
                have : (dts (ls.drop (k + 1))).isEmpty = false := by
                  cases hd : ls.drop (k + 1) with
                  | nil => rw [List.drop_eq_nil_iff] at hd; omega
                  | cons a r => rfl
                rw [this]; rfl)
              have HY := hid hY
              clear hY
              have hmaxl : out2.length + (⟨#[13, 10]⟩ : ByteArray).size ≤ maxLen := by rw [hsize]; unfold maxLen; omega
              have hmax2 : out2.length + (⟨#[13, 10]⟩ : ByteArray).size ≤ 140737488355328 := by rw [hsize]; omega
              have Hmaxl := hid hmaxl
              have Hmax2 := hid hmax2
              clear hmaxl hmax2 hsize
              go_wp2_with (at_builtin; refine Lib.wpList_append_own_string _ rfl _ _ 86 9 rfl (w.heap.size + 1) ByT i0 Tryz.underlying86 Tryz.underlying9 hi hz0 hz1 hz2 _ _ _ rfl hown ⟨#[13, 10]⟩ rfl Hmaxl.out Hmax2.out hbs ?_)
              intro v' w2 hown' hgrow _
              go_wp2_with fail
              go_roundw
              case rel => exact ⟨k + 1, out2 ++ crlf, by omega, by go_num, by rw [List.length_append, Lib.byteCells_append]; exact hown', hb.grown hgrow hbs (fun k hk => (hown.lt k hk).1), HY.out, by rw [List.length_append]; show _ + 2 + _ ≤ _; omega⟩
              case measure => simp [intOf]; omega
            · have hY := line_some HXl.out Hfin.out (sep := []) (by
                rw [← Hsoft.out, List.drop_eq_nil_of_le (by omega)]; rfl)
              rw [List.append_nil] at hY
              have HY := hid hY
              clear hY hsize
              go_wp2_with fail
              go_roundw
              case rel => exact ⟨k + 1, out2, by omega, by go_num, hown, hb, HY.out, by omega⟩
              case measure => simp [intOf]; omega
    · obtain rfl : k = ls.length := by omega
      have hres : resT (unquote s.data.toList) = .tuple #[.string ⟨out.toArray⟩, .nilIface] := by
        rw [← HX.out, List.drop_length]
        simp [dts, unqLines, resT]
      have Hres := hid hres
      clear hres
      have hcv := conv_own hown
      go_wp2_with fail
      go_ret2
      exact ⟨by rw [Hres.out]; rfl, hb1.trans (hb.mono (by omega))⟩
end Go.Proofs.YtignjjnflcpiiaaGreatDoor
