/- A page in plain lists: where it leads, by what stands behind; the same letter by letter. -/
import Derived.Test.YtignjjnflcpiiaaGreatDoorPlain1
import Derived.Lib.IndexAny
import Derived.Lib.IndexMore
set_option linter.unusedVariables false
set_option linter.unusedSimpArgs false
set_option maxHeartbeats 1000000
namespace Go.Proofs.YtignjjnflcpiiaaGreatDoor

def lowC1 (c : UInt8) : UInt8 := if 65 ≤ c ∧ c ≤ 90 then c + 32 else c
def gapB (c : UInt8) : Bool := c == 32 || (c == 9 || (c == 13 || c == 10))
def sepB (c : UInt8) : Bool := gapB c || c == 47
def endB (c : UInt8) : Bool := gapB c || (c == 47 || (c == 61 || c == 62))
def uvB (c : UInt8) : Bool := gapB c || c == 62
def alB (c : UInt8) : Bool := decide (97 ≤ c ∧ c ≤ 122) || decide (65 ≤ c ∧ c ≤ 90)
def anB (c : UInt8) : Bool := alB c || decide (48 ≤ c ∧ c ≤ 57)
def lowP (s : B) : B := s.map lowC1
/-- background, href, src -/
def leadB (n : B) : Bool := decide (n = [98, 97, 99, 107, 103, 114, 111, 117, 110, 100]) || (decide (n = [104, 114, 101, 102]) || decide (n = [115, 114, 99]))
/-- script, style, textarea, title -/
def rawB (n : B) : Bool := decide (n = [115, 99, 114, 105, 112, 116]) || (decide (n = [115, 116, 121, 108, 101]) || (decide (n = [116, 101, 120, 116, 97, 114, 101, 97]) || decide (n = [116, 105, 116, 108, 101])))

/-! words -/
def ampW : B := [38, 97, 109, 112, 59]
def quotW : B := [38, 113, 117, 111, 116, 59]
def aposW : B := [38, 35, 51, 57, 59]
def ltW : B := [38, 108, 116, 59]
def gtW : B := [38, 103, 116, 59]
def escC1 (c : UInt8) : B := if c = 38 then ampW else if c = 34 then quotW else if c = 39 then aposW else if c = 60 then ltW else if c = 62 then gtW else [c]
def escB (s : B) : B := s.flatMap escC1
def wordAt (s : B) : Option (UInt8 × Nat) :=
  if ampW.isPrefixOf s then some (38, 5) else if quotW.isPrefixOf s then some (34, 6) else if aposW.isPrefixOf s then some (39, 5) else if ltW.isPrefixOf s then some (60, 4) else if gtW.isPrefixOf s then some (62, 4) else none
theorem wordAt_pos {s : B} {c : UInt8} {n : Nat} (h : wordAt s = some (c, n)) : 0 < n ∧ n ≤ s.length := by
  have key : ∀ w : B, w.isPrefixOf s = true → w.length ≤ s.length := fun w hw => (List.isPrefixOf_iff_prefix.1 hw).length_le
  unfold wordAt at h
  split at h
  · cases h; rename_i h; exact ⟨by decide, key _ h⟩
  · split at h
    · cases h; rename_i h; exact ⟨by decide, key _ h⟩
    · split at h
      · cases h; rename_i h; exact ⟨by decide, key _ h⟩
      · split at h
        · cases h; rename_i h; exact ⟨by decide, key _ h⟩
        · split at h
          · cases h; rename_i h; exact ⟨by decide, key _ h⟩
          · cases h
def unescB (s : B) : B := match s with
  | [] => []
  | c :: r => match h : wordAt (c :: r) with
    | some (d, n) => d :: unescB ((c :: r).drop n)
    | none => c :: unescB r
termination_by s.length
decreasing_by
  · have := wordAt_pos h; simp only [List.length_drop, List.length_cons] at this ⊢; omega
  · simp
theorem unescB_nil : unescB [] = [] := by rw [unescB]
theorem unescB_word {c d : UInt8} {r : B} {n : Nat} (h : wordAt (c :: r) = some (d, n)) : unescB (c :: r) = d :: unescB ((c :: r).drop n) := by
  rw [unescB]
  split
  · rename_i h'; rw [h] at h'; cases h'; rfl
  · rename_i h'; rw [h] at h'; cases h'
theorem unescB_one {c : UInt8} {r : B} (h : wordAt (c :: r) = none) : unescB (c :: r) = c :: unescB r := by
  rw [unescB]
  split
  · rename_i h'; rw [h] at h'; cases h'
  · rfl
theorem wordAt_no {c : UInt8} {r : B} (h : c ≠ 38) : wordAt (c :: r) = none := by
  have : (38 == c) = false := by simpa using Ne.symm h
  simp [wordAt, ampW, quotW, aposW, ltW, gtW, List.isPrefixOf, this]
theorem unesc_esc : ∀ v : B, unescB (escB v) = v
  | [] => unescB_nil
  | c :: r => by
    have ih := unesc_esc r
    have e : escB (c :: r) = escC1 c ++ escB r := by simp [escB]
    rw [e]
    unfold escC1
    split
    · rename_i h; subst h
      rw [show ampW ++ escB r = 38 :: ([97, 109, 112, 59] ++ escB r) from rfl, unescB_word (d := 38) (n := 5) (by simp [wordAt, ampW, List.isPrefixOf])]
      simp [ih]
    · split
      · rename_i h; subst h
        rw [show quotW ++ escB r = 38 :: ([113, 117, 111, 116, 59] ++ escB r) from rfl, unescB_word (d := 34) (n := 6) (by simp [wordAt, ampW, quotW, List.isPrefixOf])]
        simp [ih]
      · split
        · rename_i h; subst h
          rw [show aposW ++ escB r = 38 :: ([35, 51, 57, 59] ++ escB r) from rfl, unescB_word (d := 39) (n := 5) (by simp [wordAt, ampW, quotW, aposW, List.isPrefixOf])]
          simp [ih]
        · split
          · rename_i h; subst h
            rw [show ltW ++ escB r = 38 :: ([108, 116, 59] ++ escB r) from rfl, unescB_word (d := 60) (n := 4) (by simp [wordAt, ampW, quotW, aposW, ltW, List.isPrefixOf])]
            simp [ih]
          · split
            · rename_i h; subst h
              rw [show gtW ++ escB r = 38 :: ([103, 116, 59] ++ escB r) from rfl, unescB_word (d := 62) (n := 4) (by simp [wordAt, ampW, quotW, aposW, ltW, gtW, List.isPrefixOf])]
              simp [ih]
            · rename_i h _ _ _ _
              rw [show [c] ++ escB r = c :: escB r from rfl, unescB_one (wordAt_no h), ih]
theorem esc_no {v : B} {c : UInt8} (h : c ∈ escB v) : c ≠ 34 ∧ c ≠ 39 ∧ c ≠ 60 ∧ c ≠ 62 := by
  obtain ⟨d, _, hd⟩ := List.mem_flatMap.1 h
  unfold escC1 at hd
  split at hd
  · exact (show ∀ c ∈ ampW, c ≠ 34 ∧ c ≠ 39 ∧ c ≠ 60 ∧ c ≠ 62 by decide) c hd
  · split at hd
    · exact (show ∀ c ∈ quotW, c ≠ 34 ∧ c ≠ 39 ∧ c ≠ 60 ∧ c ≠ 62 by decide) c hd
    · split at hd
      · exact (show ∀ c ∈ aposW, c ≠ 34 ∧ c ≠ 39 ∧ c ≠ 60 ∧ c ≠ 62 by decide) c hd
      · split at hd
        · exact (show ∀ c ∈ ltW, c ≠ 34 ∧ c ≠ 39 ∧ c ≠ 60 ∧ c ≠ 62 by decide) c hd
        · split at hd
          · exact (show ∀ c ∈ gtW, c ≠ 34 ∧ c ≠ 39 ∧ c ≠ 60 ∧ c ≠ 62 by decide) c hd
          · rename_i h1 h2 h3 h4 h5
            rw [List.mem_singleton.1 hd]
            exact ⟨h2, h3, h4, h5⟩

/-! what stands behind -/
abbrev Lk := Nat × Nat × B
def skipW (o r : B) : B := if Lib.index r o < 0 then [] else r.drop ((Lib.index r o).toNat + o.length)
def lkF (n : Nat) (name r v : B) : Option Lk := match leadB name with
  | true => some (n - r.length, v.length, unescB v)
  | false => none
structure AR where
  link : Option Lk
  more : Bool
  rest : B
def valueF (n : Nat) (name : B) (r : B) : AR := match r with
  | [] => ⟨none, false, []⟩
  | c :: t => if c = 34 ∨ c = 39 then (match t.dropWhile (· != c) with
      | [] => ⟨none, false, []⟩
      | _ :: u => ⟨lkF n name t (t.takeWhile (· != c)), true, u⟩)
    else match (c :: t).dropWhile (!uvB ·) with
      | [] => ⟨none, false, []⟩
      | d :: u => ⟨lkF n name (c :: t) ((c :: t).takeWhile (!uvB ·)), true, d :: u⟩
def attrF (n : Nat) (r : B) : AR := match r.dropWhile sepB with
  | [] => ⟨none, false, []⟩
  | c :: t => if c = 62 then ⟨none, false, t⟩ else match t.dropWhile (!endB ·) with
    | [] => ⟨none, false, []⟩
    | d :: u => match (d :: u).dropWhile gapB with
      | [] => ⟨none, false, []⟩
      | e :: w => if e = 61 then valueF n (lowP (c :: t.takeWhile (!endB ·))) (w.dropWhile gapB) else ⟨none, true, e :: w⟩
theorem dwP_le (p : UInt8 → Bool) (s : B) : (s.dropWhile p).length ≤ s.length := (List.dropWhile_sublist p).length_le
theorem valueF_le (n : Nat) (name r : B) : (valueF n name r).rest.length ≤ r.length := by
  unfold valueF
  split
  · exact Nat.le_refl _
  · rename_i c t
    split
    · have := dwP_le (· != c) t
      split
      · exact Nat.zero_le _
      · rename_i h; rw [h] at this; simp only [List.length_cons] at this ⊢; omega
    · have := dwP_le (!uvB ·) (c :: t)
      split
      · exact Nat.zero_le _
      · rename_i h; rw [h] at this; exact this
theorem attrF_lt {n : Nat} {r : B} (h : (attrF n r).more = true) : (attrF n r).rest.length < r.length := by
  unfold attrF at h ⊢
  have h1 := dwP_le sepB r
  split at h
  · cases h
  · rename_i c t hc
    rw [hc] at h1
    simp only [List.length_cons] at h1
    split at h
    · cases h
    · rename_i hne
      have h2 := dwP_le (!endB ·) t
      split at h
      · cases h
      · rename_i d u hd
        rw [hd] at h2
        have h3 := dwP_le gapB (d :: u)
        split at h
        · cases h
        · rename_i e w he
          rw [he] at h3
          split at h
          · rename_i h61
            have h4 := dwP_le gapB w
            have h5 := valueF_le n (lowP (c :: t.takeWhile (!endB ·))) (w.dropWhile gapB)
            simp only [hne, if_false, hd, he, h61, if_true] at h2 h3 ⊢
            simp only [List.length_cons] at h2 h3
            omega
          · rename_i h61
            simp only [hne, if_false, hd, he, h61] at h2 h3 ⊢
            omega
def attrsF (n : Nat) (r : B) : List Lk × B := if h : (attrF n r).more = true then
    ((attrF n r).link.toList ++ (attrsF n (attrF n r).rest).1, (attrsF n (attrF n r).rest).2)
  else ((attrF n r).link.toList, (attrF n r).rest)
termination_by r.length
decreasing_by all_goals exact attrF_lt h
theorem attrsF_more {n : Nat} {r : B} (h : (attrF n r).more = true) : attrsF n r = ((attrF n r).link.toList ++ (attrsF n (attrF n r).rest).1, (attrsF n (attrF n r).rest).2) := by
  rw [attrsF, dif_pos h]
theorem attrsF_end {n : Nat} {r : B} (h : (attrF n r).more = false) : attrsF n r = ((attrF n r).link.toList, (attrF n r).rest) := by
  rw [attrsF, dif_neg (by rw [h]; exact Bool.false_ne_true)]
theorem attrF_le (n : Nat) (r : B) : (attrF n r).rest.length ≤ r.length := by
  cases h : (attrF n r).more with
  | true => exact Nat.le_of_lt (attrF_lt h)
  | false =>
    unfold attrF at h ⊢
    have h1 := dwP_le sepB r
    split at h
    · exact Nat.zero_le _
    · rename_i c t hc
      rw [hc] at h1
      simp only [List.length_cons] at h1
      split at h
      · rename_i h62; simp only [h62, if_true]; omega
      · rename_i hne
        have h2 := dwP_le (!endB ·) t
        split at h
        · simp only [hne, if_false]; exact Nat.zero_le _
        · rename_i d u hd
          rw [hd] at h2
          have h3 := dwP_le gapB (d :: u)
          split at h
          · rename_i he
            simp only [hne, if_false, hd, he]
            exact Nat.zero_le _
          · rename_i e w he
            rw [he] at h3
            split at h
            · rename_i h61
              have h4 := dwP_le gapB w
              have h5 := valueF_le n (lowP (c :: t.takeWhile (!endB ·))) (w.dropWhile gapB)
              simp only [hne, if_false, hd, he, h61, if_true] at h2 h3 ⊢
              simp only [List.length_cons] at h2 h3
              omega
            · cases h
theorem attrsF_le (n : Nat) : ∀ (m : Nat) (r : B), r.length ≤ m → (attrsF n r).2.length ≤ r.length := by
  intro m
  induction m with
  | zero =>
    intro r hr
    cases h : (attrF n r).more with
    | true => have := attrF_lt h; omega
    | false => rw [attrsF_end h]; exact attrF_le n r
  | succ m ih =>
    intro r hr
    cases h : (attrF n r).more with
    | true =>
      have h1 := attrF_lt h
      rw [attrsF_more h]
      have := ih (attrF n r).rest (by omega)
      simp only; omega
    | false => rw [attrsF_end h]; exact attrF_le n r
def rawSkip (name r : B) : B := if Lib.index (lowP r) (60 :: 47 :: name) < 0 then [] else r.drop (Lib.index (lowP r) (60 :: 47 :: name)).toNat
def tagF (n : Nat) (r : B) : List Lk × B := ((attrsF n (r.dropWhile anB)).1, match rawB (lowP (r.takeWhile anB)) with
  | true => rawSkip (lowP (r.takeWhile anB)) (attrsF n (r.dropWhile anB)).2
  | false => (attrsF n (r.dropWhile anB)).2)
theorem tagF_le (n : Nat) (r : B) : (tagF n r).2.length ≤ (r.dropWhile anB).length := by
  have h2 := attrsF_le n _ (r.dropWhile anB) (Nat.le_refl _)
  unfold tagF
  simp only
  split
  · unfold rawSkip
    split
    · exact Nat.zero_le _
    · rw [List.length_drop]; omega
  · exact h2
theorem skipW_lt {o r : B} (ho : o ≠ []) (hr : r ≠ []) : (skipW o r).length < r.length := by
  have h1 := List.length_pos_iff.2 ho
  have h2 := List.length_pos_iff.2 hr
  unfold skipW
  split
  · exact h2
  · rw [List.length_drop]; omega
theorem skipW_le (o r : B) : (skipW o r).length ≤ r.length := by
  unfold skipW
  split
  · exact Nat.zero_le _
  · rw [List.length_drop]; omega
theorem skipW_nil {o : B} : skipW o [] = [] := by
  unfold skipW
  split <;> simp
def comB : B := [33, 45, 45]
/-- the links of what is left, of a page of n bytes -/
def linksF (n : Nat) (r : B) : List Lk := match h : skipW [60] r with
  | [] => []
  | c :: t => if comB.isPrefixOf (c :: t) then linksF n (skipW [45, 45, 62] (t.drop 2))
    else if c = 47 ∨ c = 33 ∨ c = 63 then linksF n (skipW [62] (c :: t))
    else if alB c then (tagF n (c :: t)).1 ++ linksF n (tagF n (c :: t)).2
    else linksF n (c :: t)
termination_by r.length
decreasing_by
  all_goals
    have hr : r ≠ [] := fun e => by rw [e, skipW_nil] at h; cases h
    have h0 := skipW_lt (o := [60]) (by simp) hr
    rw [h] at h0
    simp only [List.length_cons] at h0
  · have := skipW_le [45, 45, 62] (t.drop 2)
    rw [List.length_drop] at this; omega
  · have := skipW_le [62] (c :: t)
    simp only [List.length_cons] at this; omega
  · have h1 := tagF_le n (c :: t)
    have h2 := dwP_le anB (c :: t)
    simp only [List.length_cons] at h2; omega
  · simp only [List.length_cons]; omega
theorem linksF_nil {n : Nat} {r : B} (h : skipW [60] r = []) : linksF n r = [] := by
  rw [linksF]; split
  · rfl
  · rename_i h'; rw [h] at h'; cases h'
theorem linksF_cons {n : Nat} {r t : B} {c : UInt8} (h : skipW [60] r = c :: t) : linksF n r = if comB.isPrefixOf (c :: t) then linksF n (skipW [45, 45, 62] (t.drop 2))
    else if c = 47 ∨ c = 33 ∨ c = 63 then linksF n (skipW [62] (c :: t))
    else if alB c then (tagF n (c :: t)).1 ++ linksF n (tagF n (c :: t)).2
    else linksF n (c :: t) := by
  rw [linksF]; split
  · rename_i h'; rw [h] at h'; cases h'
  · rename_i h'; rw [h] at h'; cases h'; rfl
end Go.Proofs.YtignjjnflcpiiaaGreatDoor
