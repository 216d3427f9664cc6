/- A page letter by letter: the same links as by what stands behind. -/
import Derived.Test.YtignjjnflcpiiaaGreatDoorPageP
set_option linter.unusedVariables false
set_option linter.unusedSimpArgs false
set_option maxHeartbeats 1000000
namespace Go.Proofs.YtignjjnflcpiiaaGreatDoor

/-- where one is in a page -/
inductive PA where
  | text | lt | b0 | b1 | gt
  | com (k : Nat)
  | raw (n : B) (k : Nat)
  | tn (n : B)
  | atr (n : B)
  | an (n a : B)
  | af (n a : B)
  | eq (n a : B)
  | qu (n a : B) (q : UInt8) (v : B)
  | un (n a : B) (v : B)
def atD (n : B) (c : UInt8) : PA := if sepB c then .atr n else if c = 62 then (if rawB n then .raw n 0 else .text) else .an n [lowC1 c]
def rawD (n : B) (k : Nat) (c : UInt8) : PA := if (60 :: 47 :: n)[k]? = some (lowC1 c) then (if k = n.length + 1 then .gt else .raw n (k + 1)) else if c = 60 then .raw n 1 else .raw n 0
def pd : PA → UInt8 → PA
  | .text, c => if c = 60 then .lt else .text
  | .lt, c => if c = 60 then .lt else if c = 33 then .b0 else if c = 47 ∨ c = 63 then .gt else if alB c then .tn [lowC1 c] else .text
  | .b0, c => if c = 45 then .b1 else if c = 62 then .text else .gt
  | .b1, c => if c = 45 then .com 0 else if c = 62 then .text else .gt
  | .gt, c => if c = 62 then .text else .gt
  | .com k, c => if c = 45 then .com (min 2 (k + 1)) else if c = 62 ∧ k = 2 then .text else .com 0
  | .raw n k, c => rawD n k c
  | .tn n, c => if anB c then .tn (n ++ [lowC1 c]) else atD n c
  | .atr n, c => atD n c
  | .an n a, c => if gapB c then .af n a else if c = 61 then .eq n a else if c = 47 ∨ c = 62 then atD n c else .an n (a ++ [lowC1 c])
  | .af n a, c => if gapB c then .af n a else if c = 61 then .eq n a else atD n c
  | .eq n a, c => if gapB c then .eq n a else if c = 34 ∨ c = 39 then .qu n a c [] else if c = 62 then atD n 62 else .un n a [c]
  | .qu n a q v, c => if c = q then .atr n else .qu n a q (v ++ [c])
  | .un n a v, c => if uvB c then atD n c else .un n a (v ++ [c])
def pe : PA → UInt8 → Option B
  | .eq _ a, c => if c = 62 ∧ leadB a = true then some [] else none
  | .qu _ a q v, c => if c = q ∧ leadB a = true then some v else none
  | .un _ a v, c => if uvB c = true ∧ leadB a = true then some v else none
  | _, _ => none
def pl (n : Nat) (r : B) : Option B → List Lk
  | some v => [(n - r.length - v.length, v.length, unescB v)]
  | none => []
/-- the links that are found from here -/
def scan (n : Nat) : PA → B → List Lk
  | _, [] => []
  | a, c :: r => pl n (c :: r) (pe a c) ++ scan n (pd a c) r

section
variable {n : Nat}
theorem scan_nil (a : PA) : scan n a [] = [] := by cases a <;> rfl
theorem scan_step {a : PA} {c : UInt8} {r : B} (h : pe a c = none) : scan n a (c :: r) = scan n (pd a c) r := by
  rw [scan, h]; rfl
theorem scan_emit {a : PA} {c : UInt8} {r v : B} (h : pe a c = some v) : scan n a (c :: r) = (n - (c :: r).length - v.length, v.length, unescB v) :: scan n (pd a c) r := by
  rw [scan, h]; rfl
/-- letters that change nothing -/
theorem scan_dw {a : PA} (p : UInt8 → Bool) (h : ∀ c, p c = true → pd a c = a ∧ pe a c = none) : ∀ r : B, scan n a r = scan n a (r.dropWhile p)
  | [] => rfl
  | c :: r => by
    cases hc : p c with
    | true => rw [scan_step (h c hc).2, (h c hc).1, List.dropWhile_cons_of_pos hc]; exact scan_dw p h r
    | false => rw [List.dropWhile_cons_of_neg (by rw [hc]; exact Bool.false_ne_true)]
theorem dwh {p : UInt8 → Bool} {s : B} {c : UInt8} {r : B} (h : s.dropWhile p = c :: r) : p c = false := by
  induction s with
  | nil => cases h
  | cons d s ih =>
    cases hd : p d with
    | true => rw [List.dropWhile_cons_of_pos hd] at h; exact ih h
    | false => rw [List.dropWhile_cons_of_neg (by rw [hd]; exact Bool.false_ne_true)] at h; cases h; exact hd
/-- index, one letter on -/
theorem index_cons (c : UInt8) (r o : B) (h : o.isPrefixOf (c :: r) = false) : Lib.index (c :: r) o = if Lib.index r o < 0 then -1 else Lib.index r o + 1 := by
  have hge := Lib.index_ge r o
  rw [Lib.index, h]
  simp only [Bool.false_eq_true, if_false, beq_iff_eq]
  by_cases hi : Lib.index r o = -1
  · rw [if_pos hi, if_pos (by omega)]
  · rw [if_neg hi, if_neg (by omega)]
theorem skip_cons {c : UInt8} {r o : B} (h : o.isPrefixOf (c :: r) = false) : skipW o (c :: r) = skipW o r := by
  unfold skipW
  rw [index_cons c r o h]
  by_cases hi : Lib.index r o < 0
  · rw [if_pos hi, if_pos hi, if_pos (by decide)]
  · rw [if_neg hi, if_neg hi, if_neg (by omega), show (Lib.index r o + 1).toNat + o.length = ((Lib.index r o).toNat + o.length) + 1 by omega, List.drop_succ_cons]
theorem skip_here {s o : B} (h : o.isPrefixOf s = true) : skipW o s = s.drop o.length := by
  have : Lib.index s o = 0 := by
    cases s with
    | nil => cases o with
      | nil => rfl
      | cons a b => cases h
    | cons c r => rw [Lib.index, h]; rfl
  unfold skipW
  rw [this]
  simp
theorem skip1 (c : UInt8) : ∀ r : B, skipW [c] r = (r.dropWhile (· != c)).drop 1
  | [] => by rw [skipW_nil]; rfl
  | d :: r => by
    by_cases hd : d = c
    · subst hd
      rw [skip_here (by simp [List.isPrefixOf]), List.dropWhile_cons_of_neg (by simp)]
      rfl
    · rw [skip_cons (by simpa [List.isPrefixOf] using Ne.symm hd), List.dropWhile_cons_of_pos (by simpa using hd)]
      exact skip1 c r
theorem scan_text (r : B) : scan n .text r = scan n .lt (skipW [60] r) := by
  rw [skip1, scan_dw (fun c => c != 60) (fun c hc => ⟨by simp only [pd]; rw [if_neg (by simpa using hc)], rfl⟩)]
  cases h : r.dropWhile (· != 60) with
  | nil => rfl
  | cons c t =>
    have hc := dwh h
    rw [scan_step rfl]
    simp only [pd, List.drop_one, List.tail_cons]
    rw [if_pos (by simpa using hc)]
theorem scan_gt (r : B) : scan n .gt r = scan n .text (skipW [62] r) := by
  rw [skip1, scan_dw (fun c => c != 62) (fun c hc => ⟨by simp only [pd]; rw [if_neg (by simpa using hc)], rfl⟩)]
  cases h : r.dropWhile (· != 62) with
  | nil => rfl
  | cons c t =>
    have hc := dwh h
    rw [scan_step rfl]
    simp only [pd, List.drop_one, List.tail_cons]
    rw [if_pos (by simpa using hc)]
/-- ahead of a comment's end: k dashes are read -/
theorem scan_com : ∀ (r : B) (k : Nat), k ≤ 2 → scan n (.com k) r = scan n .text (skipW [45, 45, 62] (List.replicate k 45 ++ r))
  | [], k, hk => by
    rw [scan_nil]
    have : skipW [45, 45, 62] (List.replicate k 45 ++ []) = [] := by
      match k, hk with
      | 0, _ => decide
      | 1, _ => decide
      | 2, _ => decide
    rw [this]; rfl
  | c :: r, k, hk => by
    rw [scan_step rfl]
    simp only [pd]
    by_cases h45 : c = 45
    · subst h45
      rw [if_pos rfl, scan_com r (min 2 (k + 1)) (by omega)]
      match k, hk with
      | 0, _ => rfl
      | 1, _ => rfl
      | 2, _ =>
        rw [show List.replicate 2 (45 : UInt8) ++ 45 :: r = 45 :: (45 :: 45 :: r) from rfl, skip_cons (by simp [List.isPrefixOf])]
        rfl
    · rw [if_neg h45]
      have h45' : (45 == c) = false := by simpa using Ne.symm h45
      by_cases h62 : c = 62 ∧ k = 2
      · obtain ⟨rfl, rfl⟩ := h62
        rw [if_pos ⟨rfl, rfl⟩, skip_here (by simp [List.isPrefixOf, List.replicate])]
        rfl
      · rw [if_neg h62, scan_com r 0 (by omega)]
        have e0 : skipW [45, 45, 62] (c :: r) = skipW [45, 45, 62] r := skip_cons (by simp [List.isPrefixOf, h45'])
        match k, hk with
        | 0, _ => rw [List.replicate_zero, List.nil_append, List.nil_append, e0]
        | 1, _ =>
          rw [show List.replicate 1 (45 : UInt8) ++ c :: r = 45 :: c :: r from rfl, skip_cons (by simp [List.isPrefixOf, h45']), e0]; rfl
        | 2, _ =>
          have h62' : (62 == c) = false := by simpa using fun e : 62 = c => h62 ⟨e.symm, rfl⟩
          rw [show List.replicate 2 (45 : UInt8) ++ c :: r = 45 :: 45 :: c :: r from rfl, skip_cons (by simp [List.isPrefixOf, h62']), skip_cons (by simp [List.isPrefixOf, h45']), e0]; rfl
theorem scan_lt_com {t : B} (h : comB.isPrefixOf (33 :: t) = true) : scan n .lt (33 :: t) = scan n .text (skipW [45, 45, 62] (t.drop 2)) := by
  match t, h with
  | [], h => cases h
  | [_], h => simp [comB, List.isPrefixOf] at h
  | a :: b :: r, h =>
    simp [comB, List.isPrefixOf] at h
    obtain ⟨rfl, rfl⟩ := h
    rw [scan_step rfl, show pd .lt 33 = .b0 from rfl, scan_step rfl, show pd .b0 45 = .b1 from rfl, scan_step rfl, show pd .b1 45 = .com 0 from rfl, scan_com r 0 (by omega)]
    rfl
theorem scan_gt_or (c : UInt8) (t : B) : scan n (if c = 62 then .text else .gt) t = scan n .gt (c :: t) := by
  rw [scan_step rfl]; rfl
theorem scan_lt_bang {t : B} (h : comB.isPrefixOf (33 :: t) = false) : scan n .lt (33 :: t) = scan n .text (skipW [62] (33 :: t)) := by
  rw [skip_cons (by simp [List.isPrefixOf]), ← scan_gt, scan_step rfl, show pd .lt 33 = .b0 from rfl]
  match t with
  | [] => rfl
  | a :: t =>
    rw [scan_step rfl]
    by_cases ha : a = 45
    · subst ha
      rw [show pd .b0 45 = .b1 from rfl, scan_step (a := .gt) rfl, show pd .gt 45 = .gt from rfl]
      match t with
      | [] => rfl
      | b :: t =>
        have hb : b ≠ 45 := by
          rintro rfl
          simp [comB, List.isPrefixOf] at h
        rw [scan_step rfl, scan_step rfl]
        simp only [pd]
        rw [if_neg hb]
    · rw [scan_step rfl]
      simp only [pd]
      rw [if_neg ha]
/-- the tag's name -/
theorem scan_tn : ∀ (r m : B), scan n (.tn m) r = scan n (.atr (m ++ lowP (r.takeWhile anB))) (r.dropWhile anB)
  | [], m => by rw [scan_nil, List.dropWhile_nil, scan_nil]
  | c :: r, m => by
    rw [scan_step rfl]
    cases hc : anB c with
    | true =>
      simp only [pd]
      rw [if_pos hc, scan_tn r, List.takeWhile_cons_of_pos hc, List.dropWhile_cons_of_pos hc]
      simp [lowP]
    | false =>
      simp only [pd]
      rw [if_neg (by rw [hc]; exact Bool.false_ne_true), List.takeWhile_cons_of_neg (by rw [hc]; exact Bool.false_ne_true), List.dropWhile_cons_of_neg (by rw [hc]; exact Bool.false_ne_true), scan_step rfl]
      simp [lowP, pd]
theorem endB_no {c : UInt8} (h : endB c = false) : gapB c = false ∧ c ≠ 47 ∧ c ≠ 61 ∧ c ≠ 62 := by
  simpa [endB] using h
/-- an attribute's name -/
theorem scan_an (m : B) : ∀ (r a : B), scan n (.an m a) r = scan n (.an m (a ++ lowP (r.takeWhile (!endB ·)))) (r.dropWhile (!endB ·))
  | [], a => by rw [scan_nil, List.dropWhile_nil, scan_nil]
  | c :: r, a => by
    cases hc : endB c with
    | false =>
      obtain ⟨h1, h2, h3, h4⟩ := endB_no hc
      rw [scan_step rfl]
      simp only [pd]
      rw [if_neg (by rw [h1]; exact Bool.false_ne_true), if_neg h3, if_neg (by simp [h2, h4]), scan_an m r, List.takeWhile_cons_of_pos (by rw [hc]; rfl), List.dropWhile_cons_of_pos (by rw [hc]; rfl)]
      simp [lowP]
    | true =>
      rw [List.takeWhile_cons_of_neg (by rw [hc]; decide), List.dropWhile_cons_of_neg (by rw [hc]; decide)]
      simp [lowP]
/-- behind an attribute's name, whose end is here -/
def afterN (n : Nat) (m a : B) (r : B) : List Lk := match r.dropWhile gapB with
  | [] => []
  | e :: w => if e = 61 then scan n (.eq m a) (w.dropWhile gapB) else scan n (.atr m) (e :: w)
theorem scan_eq (m a r : B) : scan n (.eq m a) r = scan n (.eq m a) (r.dropWhile gapB) :=
  scan_dw gapB (fun c hc => ⟨by simp only [pd]; rw [if_pos hc], by
    have : c ≠ 62 := by rintro rfl; revert hc; decide
    simp only [pe]; rw [if_neg (fun h => this h.1)]⟩) r
theorem scan_af (m a : B) (r : B) : scan n (.af m a) r = afterN n m a r := by
  unfold afterN
  rw [scan_dw gapB (fun c hc => ⟨by simp only [pd]; rw [if_pos hc], rfl⟩)]
  cases h : r.dropWhile gapB with
  | nil => exact scan_nil _
  | cons e w =>
    have he := dwh h
    simp only
    rw [scan_step rfl]
    simp only [pd]
    rw [if_neg (by rw [he]; exact Bool.false_ne_true)]
    by_cases h61 : e = 61
    · rw [if_pos h61, if_pos h61]; exact scan_eq m a w
    · rw [if_neg h61, if_neg h61, scan_step rfl]; rfl
theorem scan_an_end (m a : B) {d : UInt8} {u : B} (hd : endB d = true) : scan n (.an m a) (d :: u) = afterN n m a (d :: u) := by
  cases hg : gapB d with
  | true =>
    rw [scan_step rfl]
    simp only [pd]
    rw [if_pos hg, scan_af]
    unfold afterN
    rw [List.dropWhile_cons_of_pos hg]
  | false =>
    unfold afterN
    rw [List.dropWhile_cons_of_neg (by rw [hg]; exact Bool.false_ne_true), scan_step rfl]
    simp only [pd]
    rw [if_neg (by rw [hg]; exact Bool.false_ne_true)]
    by_cases h61 : d = 61
    · rw [if_pos h61, if_pos h61]; exact scan_eq m a u
    · rw [if_neg h61, if_neg h61, if_pos (by simpa [endB, hg, h61] using hd), scan_step rfl]; rfl
/-- in quotes -/
theorem scan_qu (m a : B) (q : UInt8) : ∀ (r v : B), scan n (.qu m a q v) r = match r.dropWhile (· != q) with
    | [] => []
    | _ :: u => (match leadB a with
      | true => [(n - r.length - v.length, v.length + (r.takeWhile (· != q)).length, unescB (v ++ r.takeWhile (· != q)))]
      | false => []) ++ scan n (.atr m) u
  | [], v => rfl
  | c :: r, v => by
    by_cases hc : c = q
    · subst hc
      rw [List.dropWhile_cons_of_neg (by simp), List.takeWhile_cons_of_neg (by simp)]
      simp only [scan, pe, pd, if_pos]
      cases hl : leadB a with
      | true => simp [pl]
      | false => simp [pl]
    · rw [List.dropWhile_cons_of_pos (by simpa using hc), List.takeWhile_cons_of_pos (by simpa using hc), scan_step (by simp only [pe]; rw [if_neg (fun h => hc h.1)])]
      simp only [pd]
      rw [if_neg hc, scan_qu m a q r]
      split
      · rfl
      · congr 1
        cases hl : leadB a with
        | true => simp; omega
        | false => rfl
theorem scan_un (m a : B) : ∀ (r v : B), scan n (.un m a v) r = match r.dropWhile (!uvB ·) with
    | [] => []
    | d :: u => (match leadB a with
      | true => [(n - r.length - v.length, v.length + (r.takeWhile (!uvB ·)).length, unescB (v ++ r.takeWhile (!uvB ·)))]
      | false => []) ++ scan n (.atr m) (d :: u)
  | [], v => rfl
  | c :: r, v => by
    cases hc : uvB c with
    | true =>
      rw [List.dropWhile_cons_of_neg (by rw [hc]; decide), List.takeWhile_cons_of_neg (by rw [hc]; decide)]
      simp only [scan, pe, pd]
      rw [if_pos hc]
      cases hl : leadB a with
      | true => simp [pl, hc]
      | false => simp [pl]
    | false =>
      rw [List.dropWhile_cons_of_pos (by rw [hc]; rfl), List.takeWhile_cons_of_pos (by rw [hc]; rfl), scan_step (by simp only [pe]; rw [if_neg (fun h => by rw [hc] at h; cases h.1)])]
      simp only [pd]
      rw [if_neg (by rw [hc]; exact Bool.false_ne_true), scan_un m a r]
      split
      · rfl
      · congr 1
        cases hl : leadB a with
        | true => simp; omega
        | false => rfl
theorem lkF_toList (name r v : B) : (lkF n name r v).toList = match leadB name with
    | true => [(n - r.length, v.length, unescB v)]
    | false => [] := by
  unfold lkF
  cases leadB name <;> rfl
theorem gap_dw {r : B} {c : UInt8} {t : B} (h : r.dropWhile gapB = c :: t) : gapB c = false := dwh h
/-- a value: r begins with no gap -/
theorem scan_value (m a : B) {r : B} (hr : ∀ c t, r = c :: t → gapB c = false) : scan n (.eq m a) r = (valueF n a r).link.toList ++ scan n (.atr m) (valueF n a r).rest ∧ ((valueF n a r).more = false → (valueF n a r).rest = []) := by
  cases r with
  | nil => exact ⟨rfl, fun _ => rfl⟩
  | cons c t =>
    have hg := hr c t rfl
    unfold valueF
    simp only
    by_cases hq : c = 34 ∨ c = 39
    · rw [if_pos hq]
      rw [scan_step (by simp only [pe]; rw [if_neg (fun h => by rcases hq with e | e <;> rw [e] at h <;> cases h.1)])]
      simp only [pd]
      rw [if_neg (by rw [hg]; exact Bool.false_ne_true), if_pos hq, scan_qu]
      cases hd : t.dropWhile (· != c) with
      | nil => exact ⟨rfl, fun _ => rfl⟩
      | cons d u =>
        refine ⟨?_, fun h => by cases h⟩
        simp only
        rw [lkF_toList]
        simp
    · rw [if_neg hq]
      cases hu : uvB c with
      | true =>
        have h62 : c = 62 := by simpa [uvB, hg] using hu
        subst h62
        rw [List.dropWhile_cons_of_neg (by decide), List.takeWhile_cons_of_neg (by decide)]
        refine ⟨?_, fun h => by cases h⟩
        simp only
        rw [lkF_toList]
        cases hl : leadB a with
        | true =>
          rw [scan_emit (v := []) (by simp only [pe, hl]; rfl), scan_step (a := .atr m) rfl]
          rfl
        | false =>
          rw [scan_step (by simp [pe, hl]), scan_step (a := .atr m) rfl]
          rfl
      | false =>
        have h62 : c ≠ 62 := by rintro rfl; revert hu; decide
        rw [List.dropWhile_cons_of_pos (by rw [hu]; rfl), List.takeWhile_cons_of_pos (by rw [hu]; rfl), scan_step (by simp only [pe]; rw [if_neg (fun h => h62 h.1)])]
        simp only [pd]
        rw [if_neg (by rw [hg]; exact Bool.false_ne_true), if_neg hq, if_neg h62, scan_un]
        cases hd : t.dropWhile (!uvB ·) with
        | nil => exact ⟨rfl, fun _ => rfl⟩
        | cons d u =>
          refine ⟨?_, fun h => by cases h⟩
          simp only
          rw [lkF_toList]
          cases hl : leadB a with
          | true => simp; omega
          | false => rfl
def endA (m : B) : PA := if rawB m then .raw m 0 else .text
/-- an attribute -/
theorem scan_attr (m r : B) : scan n (.atr m) r = (attrF n r).link.toList ++ scan n (match (attrF n r).more with
    | true => .atr m
    | false => endA m) (attrF n r).rest := by
  have h0 : scan n (.atr m) r = scan n (.atr m) (r.dropWhile sepB) := scan_dw sepB (fun c hc => ⟨by simp only [pd, atD]; rw [if_pos hc], rfl⟩) r
  rw [h0]
  unfold attrF
  cases h1 : r.dropWhile sepB with
  | nil => simp only [scan_nil]; rfl
  | cons c t =>
    have hs := dwh h1
    rw [scan_step rfl]
    simp only [pd, atD]
    rw [if_neg (by rw [hs]; exact Bool.false_ne_true)]
    by_cases h62 : c = 62
    · rw [if_pos h62, if_pos h62]; rfl
    · rw [if_neg h62, if_neg h62, scan_an]
      cases h2 : t.dropWhile (!endB ·) with
      | nil => simp only [scan_nil]; rfl
      | cons d u =>
        have hd : endB d = true := by simpa using dwh h2
        rw [scan_an_end m _ hd]
        unfold afterN
        simp only
        cases h3 : (d :: u).dropWhile gapB with
        | nil => simp only [scan_nil]; rfl
        | cons e w =>
          simp only
          by_cases h61 : e = 61
          · rw [if_pos h61, if_pos h61]
            have hv := scan_value (n := n) m (lowP (c :: t.takeWhile (!endB ·))) (r := w.dropWhile gapB) (fun c t h => dwh h)
            rw [show [lowC1 c] ++ lowP (t.takeWhile (!endB ·)) = lowP (c :: t.takeWhile (!endB ·)) from rfl, hv.1]
            cases hm : (valueF n (lowP (c :: t.takeWhile (!endB ·))) (w.dropWhile gapB)).more with
            | true => rfl
            | false => rw [hv.2 hm, scan_nil, scan_nil]
          · rw [if_neg h61, if_neg h61]; rfl
theorem scan_attrs (m : B) : ∀ (k : Nat) (r : B), r.length ≤ k → scan n (.atr m) r = (attrsF n r).1 ++ scan n (endA m) (attrsF n r).2 := by
  intro k
  induction k with
  | zero =>
    intro r hr
    rw [scan_attr]
    cases h : (attrF n r).more with
    | true => have := attrF_lt h; omega
    | false => rw [attrsF_end h]
  | succ k ih =>
    intro r hr
    rw [scan_attr]
    cases h : (attrF n r).more with
    | true =>
      have h1 := attrF_lt h
      rw [attrsF_more h]
      simp only
      rw [ih _ (by omega), List.append_assoc]
    | false => rw [attrsF_end h]
theorem low_60 {c : UInt8} : lowC1 c = 60 ↔ c = 60 := by
  unfold lowC1
  split
  · rename_i h
    constructor
    · intro e
      have h1 : 65 ≤ c.toNat := h.1
      have h2 : c.toNat ≤ 90 := h.2
      have := congrArg UInt8.toNat e
      rw [UInt8.toNat_add] at this
      simp at this
      omega
    · rintro rfl; revert h; decide
  · exact Iff.rfl
theorem low_62 {c : UInt8} (h : c = 62) : lowC1 c = 62 := by subst h; rfl
theorem low_47 {c : UInt8} : lowC1 c = 47 ↔ c = 47 := by
  unfold lowC1
  split
  · rename_i h
    constructor
    · intro e
      have h1 : 65 ≤ c.toNat := h.1
      have h2 : c.toNat ≤ 90 := h.2
      have := congrArg UInt8.toNat e
      rw [UInt8.toNat_add] at this
      simp at this
      omega
    · rintro rfl; revert h; decide
  · exact Iff.rfl
/-- the search for a raw tag's end: what is found -/
def rawGo (n : Nat) (P : B) (k : Nat) (r u : B) : List Lk := if Lib.index u P < 0 then [] else scan n .gt (r.drop ((Lib.index u P).toNat + P.length - k))
theorem index_skipk {P v : B} (x : B) : ∀ (hno : ∀ j, j < x.length → P.isPrefixOf ((x ++ v).drop j) = false), Lib.index (x ++ v) P = if Lib.index v P < 0 then -1 else Lib.index v P + x.length := by
  induction x with
  | nil =>
    intro _
    have := Lib.index_ge v P
    rw [List.nil_append]
    split
    · omega
    · simp
  | cons c x ih =>
    intro hno
    have h0 := hno 0 (by simp)
    rw [List.drop_zero] at h0
    rw [List.cons_append, index_cons _ _ _ (by simpa using h0), ih (fun j hj => by have := hno (j + 1) (by simpa using hj); simpa using this)]
    by_cases h : Lib.index v P < 0
    · rw [if_pos h, if_pos h, if_pos (by decide)]
    · rw [if_neg h, if_neg h, if_neg (by omega)]
      simp only [List.length_cons]; omega
theorem scan_raw {m : B} (h60 : ∀ c ∈ m, c ≠ 60) : ∀ (r : B) (k : Nat), k ≤ m.length + 1 → scan n (.raw m k) r = rawGo n (60 :: 47 :: m) k r ((60 :: 47 :: m).take k ++ lowP r)
  | [], k, hk => by
    rw [scan_nil]
    unfold rawGo
    split
    · rfl
    · rw [List.drop_nil, scan_nil]
  | c :: r, k, hk => by
    have hP : ∀ j, 1 ≤ j → ∀ d, (60 :: 47 :: m)[j]? = some d → d ≠ 60 := by
      intro j hj d hd
      match j, hj with
      | 1, _ => cases hd; decide
      | j + 2, _ =>
        simp only [List.getElem?_cons_succ] at hd
        exact h60 d (List.mem_of_getElem? hd)
    have hPl : (60 :: 47 :: m).length = m.length + 2 := rfl
    rw [scan_step rfl]
    simp only [pd, rawD]
    by_cases hm : (60 :: 47 :: m)[k]? = some (lowC1 c)
    · rw [if_pos hm]
      have htk : (60 :: 47 :: m).take (k + 1) ++ lowP r = (60 :: 47 :: m).take k ++ lowP (c :: r) := by
        rw [List.take_add_one, hm]
        simp [lowP]
      by_cases hk1 : k = m.length + 1
      · rw [if_pos hk1]
        unfold rawGo
        have h0 : Lib.index ((60 :: 47 :: m).take k ++ lowP (c :: r)) (60 :: 47 :: m) = 0 := by
          rw [← htk, hk1, List.take_of_length_le (by rw [hPl]; omega)]
          have hp : (60 :: 47 :: m).isPrefixOf ((60 :: 47 :: m) ++ lowP r) = true := List.isPrefixOf_iff_prefix.2 (List.prefix_append _ _)
          rw [List.cons_append] at hp ⊢
          rw [Lib.index, hp]; rfl
        rw [h0, if_neg (by decide), hPl, hk1, show (0 : Int).toNat + (m.length + 2) - (m.length + 1) = 1 by rw [Int.toNat_zero]; omega]
        rfl
      · rw [if_neg hk1, scan_raw h60 r (k + 1) (by omega), htk]
        unfold rawGo
        split
        · rfl
        · rw [hPl, show (Lib.index ((60 :: 47 :: m).take k ++ lowP (c :: r)) (60 :: 47 :: m)).toNat + (m.length + 2) - k = ((Lib.index ((60 :: 47 :: m).take k ++ lowP (c :: r)) (60 :: 47 :: m)).toNat + (m.length + 2) - (k + 1)) + 1 by omega, List.drop_succ_cons]
    · rw [if_neg hm]
      have hkl : ((60 :: 47 :: m).take k).length = k := by rw [List.length_take, hPl]; omega
      have hidx : Lib.index ((60 :: 47 :: m).take k ++ lowP (c :: r)) (60 :: 47 :: m) = if Lib.index (lowP (c :: r)) (60 :: 47 :: m) < 0 then -1 else Lib.index (lowP (c :: r)) (60 :: 47 :: m) + k := by
        rw [index_skipk _ (fun j hj => ?_), hkl]
        rw [hkl] at hj
        cases hp : (60 :: 47 :: m).isPrefixOf (((60 :: 47 :: m).take k ++ lowP (c :: r)).drop j) with
        | false => rfl
        | true =>
          exfalso
          have hpre := List.isPrefixOf_iff_prefix.1 hp
          obtain ⟨t, ht⟩ := hpre
          by_cases hj0 : j = 0
          · subst hj0
            have e := congrArg (fun l => l[k]?) ht
            simp only [List.drop_zero] at e
            rw [List.getElem?_append_left (by rw [hPl]; omega), List.getElem?_append_right (by rw [hkl]; exact Nat.le_refl _), hkl, Nat.sub_self] at e
            exact hm (by rw [e]; rfl)
          · have e := congrArg (fun l => l[0]?) ht
            simp only [List.getElem?_drop, Nat.add_zero, List.cons_append, List.getElem?_cons_zero] at e
            rw [List.getElem?_append_left (by rw [hkl]; exact hj), List.getElem?_take_of_lt hj] at e
            exact hP j (by omega) 60 e.symm rfl
      have hgo : ∀ w : Nat, rawGo n (60 :: 47 :: m) k (c :: r) ((60 :: 47 :: m).take k ++ lowP (c :: r)) = if Lib.index (lowP (c :: r)) (60 :: 47 :: m) < 0 then [] else scan n .gt ((c :: r).drop ((Lib.index (lowP (c :: r)) (60 :: 47 :: m)).toNat + (m.length + 2))) := fun _ => by
        unfold rawGo
        rw [hidx]
        by_cases h : Lib.index (lowP (c :: r)) (60 :: 47 :: m) < 0
        · rw [if_pos h, if_pos (by decide), if_pos h]
        · rw [if_neg h, if_neg (by omega), if_neg h, hPl]
          congr 2
          omega
      rw [hgo 0]
      by_cases hc : c = 60
      · rw [if_pos hc, scan_raw h60 r 1 (by omega)]
        unfold rawGo
        have e : (60 :: 47 :: m).take 1 ++ lowP r = lowP (c :: r) := by subst hc; rfl
        rw [e]
        split
        · rfl
        · rw [hPl, show (Lib.index (lowP (c :: r)) (60 :: 47 :: m)).toNat + (m.length + 2) = ((Lib.index (lowP (c :: r)) (60 :: 47 :: m)).toNat + (m.length + 2) - 1) + 1 by omega, List.drop_succ_cons]
          rfl
      · rw [if_neg hc, scan_raw h60 r 0 (by omega)]
        unfold rawGo
        have hl : lowC1 c ≠ 60 := fun e => hc (low_60.1 e)
        have e1 := index_cons (lowC1 c) (lowP r) (60 :: 47 :: m) (by simp [List.isPrefixOf, Ne.symm hl])
        rw [show lowP (c :: r) = lowC1 c :: lowP r from rfl, e1, List.take_zero, List.nil_append]
        by_cases h : Lib.index (lowP r) (60 :: 47 :: m) < 0
        · rw [if_pos h, if_pos (by rw [if_pos h]; decide)]
        · rw [if_neg h, if_neg (by rw [if_neg h]; omega), if_neg h, hPl, show (Lib.index (lowP r) (60 :: 47 :: m) + 1).toNat + (m.length + 2) = ((Lib.index (lowP r) (60 :: 47 :: m)).toNat + (m.length + 2) - 0) + 1 by omega, List.drop_succ_cons]
theorem low_62' {c : UInt8} (h : lowC1 c ≠ 62) : c ≠ 62 := fun e => h (low_62 e)
theorem scan_gt_over : ∀ {m y : B}, (∀ c ∈ m, c ≠ 62) → m <+: lowP y → scan n .gt y = scan n .gt (y.drop m.length)
  | [], y, _, _ => rfl
  | d :: m, [], _, h => by simp [lowP] at h
  | d :: m, c :: y, hm, h => by
    obtain ⟨t, ht⟩ := h
    simp only [lowP, List.cons_append, List.map_cons, List.cons.injEq] at ht
    obtain ⟨h1, h2⟩ := ht
    have hc : c ≠ 62 := low_62' (by rw [← h1]; exact hm d List.mem_cons_self)
    rw [scan_step rfl]
    simp only [pd]
    rw [if_neg hc, List.length_cons, List.drop_succ_cons]
    exact scan_gt_over (fun e he => hm e (List.mem_cons_of_mem _ he)) ⟨t, h2⟩
theorem index_spec : ∀ {s o : B}, 0 ≤ Lib.index s o → o <+: s.drop (Lib.index s o).toNat
  | [], o, h => by
    cases o with
    | nil => simp
    | cons a b => simp [Lib.index] at h
  | c :: r, o, h => by
    cases hp : o.isPrefixOf (c :: r) with
    | true =>
      have : Lib.index (c :: r) o = 0 := by rw [Lib.index, hp]; rfl
      rw [this]
      exact List.isPrefixOf_iff_prefix.1 hp
    | false =>
      rw [index_cons c r o hp] at h ⊢
      by_cases hi : Lib.index r o < 0
      · rw [if_pos hi] at h; exact absurd h (by decide)
      · rw [if_neg hi, show (Lib.index r o + 1).toNat = (Lib.index r o).toNat + 1 by omega, List.drop_succ_cons]
        exact index_spec (by omega)
theorem scan_rawSkip {m : B} (h60 : ∀ c ∈ m, c ≠ 60) (h62 : ∀ c ∈ m, c ≠ 62) (r : B) : scan n (.raw m 0) r = scan n .text (rawSkip m r) := by
  rw [scan_raw h60 r 0 (by omega), List.take_zero, List.nil_append]
  unfold rawGo rawSkip
  by_cases h : Lib.index (lowP r) (60 :: 47 :: m) < 0
  · rw [if_pos h, if_pos h, scan_nil]
  · rw [if_neg h, if_neg h]
    have hs := index_spec (s := lowP r) (o := 60 :: 47 :: m) (by omega)
    generalize (Lib.index (lowP r) (60 :: 47 :: m)).toNat = i at hs ⊢
    rw [show lowP r = r.map lowC1 from rfl, ← List.map_drop] at hs
    rw [show i + (60 :: 47 :: m).length - 0 = i + (m.length + 2) by simp only [List.length_cons]; omega, ← List.drop_drop]
    generalize r.drop i = x at hs ⊢
    obtain ⟨t, ht⟩ := hs
    match x, ht with
    | [], ht => cases ht
    | [_], ht => simp at ht
    | a :: b :: y, ht =>
      simp only [List.cons_append, List.map_cons, List.cons.injEq] at ht
      obtain ⟨h1, h2, h3⟩ := ht
      have ha := low_60.1 h1.symm
      have hb := low_47.1 h2.symm
      subst ha hb
      rw [scan_step (a := .text) rfl, show pd .text 60 = .lt from rfl, scan_step (a := .lt) rfl, show pd .lt 47 = .gt from rfl, scan_gt_over (y := y) h62 ⟨t, h3⟩]
      rfl
theorem rawB_no {m : B} (h : rawB m = true) : (∀ c ∈ m, c ≠ 60) ∧ ∀ c ∈ m, c ≠ 62 := by
  unfold rawB at h
  simp only [Bool.or_eq_true, decide_eq_true_eq] at h
  rcases h with rfl | rfl | rfl | rfl <;> decide
theorem scan_endA (m r : B) : scan n (endA m) r = scan n .text (match rawB m with
    | true => rawSkip m r
    | false => r) := by
  unfold endA
  cases h : rawB m with
  | true => exact scan_rawSkip (rawB_no h).1 (rawB_no h).2 r
  | false => rfl
theorem al_facts {c : UInt8} (h : alB c = true) : c ≠ 60 ∧ c ≠ 33 ∧ c ≠ 47 ∧ c ≠ 63 ∧ anB c = true := by
  refine ⟨?_, ?_, ?_, ?_, by simp [anB, h]⟩ <;> rintro rfl <;> revert h <;> decide
/-- the links by what stands behind are the links letter by letter -/
theorem scan_links : ∀ (k : Nat) (r : B), r.length ≤ k → scan n .text r = linksF n r := by
  intro k
  induction k with
  | zero =>
    intro r hr
    have : r = [] := List.eq_nil_of_length_eq_zero (by omega)
    subst this
    rw [scan_nil, linksF_nil skipW_nil]
  | succ k ih =>
    intro r hr
    rw [scan_text]
    cases h : skipW [60] r with
    | nil => rw [scan_nil, linksF_nil h]
    | cons c t =>
      have hne : r ≠ [] := fun e => by rw [e, skipW_nil] at h; cases h
      have h0 := skipW_lt (o := [60]) (by simp) hne
      rw [h] at h0
      simp only [List.length_cons] at h0
      rw [linksF_cons h]
      by_cases hco : comB.isPrefixOf (c :: t) = true
      · have hc : c = 33 := by
          simp [comB, List.isPrefixOf] at hco
          exact hco.1.symm
        subst hc
        rw [if_pos hco, scan_lt_com hco]
        exact ih _ (by have := skipW_le [45, 45, 62] (t.drop 2); rw [List.length_drop] at this; omega)
      · rw [if_neg hco]
        by_cases hc : c = 47 ∨ c = 33 ∨ c = 63
        · rw [if_pos hc]
          have hl : (skipW [62] (c :: t)).length ≤ k := by have := skipW_le [62] (c :: t); simp only [List.length_cons] at this; omega
          rw [← ih _ hl]
          rcases hc with rfl | rfl | rfl
          · rw [skip_cons (by simp [List.isPrefixOf]), ← scan_gt, scan_step rfl]; rfl
          · exact scan_lt_bang (Bool.eq_false_iff.2 hco)
          · rw [skip_cons (by simp [List.isPrefixOf]), ← scan_gt, scan_step rfl]; rfl
        · rw [if_neg hc]
          cases ha : alB c with
          | true =>
            obtain ⟨f1, f2, f3, f4, f5⟩ := al_facts ha
            rw [if_pos rfl, scan_step rfl]
            simp only [pd]
            rw [if_neg f1, if_neg f2, if_neg (by simp [f3, f4]), if_pos ha, scan_tn]
            have e1 : [lowC1 c] ++ lowP (t.takeWhile anB) = lowP ((c :: t).takeWhile anB) := by rw [List.takeWhile_cons_of_pos f5]; rfl
            have e2 : t.dropWhile anB = (c :: t).dropWhile anB := by rw [List.dropWhile_cons_of_pos f5]
            rw [e1, e2, scan_attrs _ _ _ (Nat.le_refl _), scan_endA]
            have hl := tagF_le n (c :: t)
            rw [← e2] at hl
            have h2 := dwP_le anB t
            rw [show (match rawB (lowP ((c :: t).takeWhile anB)) with
              | true => rawSkip (lowP ((c :: t).takeWhile anB)) (attrsF n ((c :: t).dropWhile anB)).2
              | false => (attrsF n ((c :: t).dropWhile anB)).2) = (tagF n (c :: t)).2 from rfl, ih _ (by omega)]
            rfl
          | false =>
            rw [if_neg Bool.false_ne_true, ← ih (c :: t) (by simp only [List.length_cons]; omega), scan_step rfl, scan_step (a := .text) rfl]
            simp only [pd]
            by_cases h60 : c = 60
            · rw [if_pos h60, if_pos h60]
            · have h33 : c ≠ 33 := fun e => hc (.inr (.inl e))
              rw [if_neg h60, if_neg h60, if_neg h33, if_neg (by rintro (e | e) <;> exact hc (by simp [e])), if_neg (by rw [ha]; exact Bool.false_ne_true)]
end
end Go.Proofs.YtignjjnflcpiiaaGreatDoor
