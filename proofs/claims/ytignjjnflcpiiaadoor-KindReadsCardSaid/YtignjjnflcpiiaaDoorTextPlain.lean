import Derived.Lib.Split
import Derived.Lib.SlTrimSet
set_option linter.unusedVariables false
set_option linter.unusedSimpArgs false
namespace Go.Proofs.YtignjjnflcpiiaaDoor
abbrev B := List UInt8
def crlf : B := [13, 10]

/-! ## lines -/
def splitC : B → List B
  | [] => [[]]
  | [c] => [[c]]
  | c :: d :: r => if c = 13 ∧ d = 10 then [] :: splitC r else (splitC (d :: r)).modifyHead (c :: ·)

theorem splitC_ne (s : B) : splitC s ≠ [] := by
  fun_induction splitC s with
  | case1 => simp
  | case2 => simp
  | case3 c d r h ih => simp
  | case4 c d r h ih => cases hs : splitC (d :: r) <;> simp_all

theorem splitC_cons (c : UInt8) (r : B) (h : c ≠ 13) : splitC (c :: r) = (splitC r).modifyHead (c :: ·) := by
  cases r with
  | nil => simp [splitC]
  | cons d r => rw [splitC, if_neg (by intro h'; exact h h'.1)]

theorem splitC_crlf (r : B) : splitC (13 :: 10 :: r) = [] :: splitC r := by simp [splitC]

theorem modifyHead_modifyHead' (f g : B → B) (l : List B) : (l.modifyHead f).modifyHead g = l.modifyHead (g ∘ f) := by
  cases l <;> rfl

theorem splitC_pre (x : B) (h : ∀ c ∈ x, c ≠ 13) (y : B) : splitC (x ++ y) = (splitC y).modifyHead (x ++ ·) := by
  induction x with
  | nil => cases hs : splitC y <;> simp [hs]
  | cons c r ih =>
    rw [List.cons_append, splitC_cons _ _ (h c (List.mem_cons_self ..)), ih fun d hd => h d (List.mem_cons_of_mem _ hd), modifyHead_modifyHead']
    rfl

theorem splitC_line (x : B) (h : ∀ c ∈ x, c ≠ 13) (y : B) : splitC (x ++ 13 :: 10 :: y) = x :: splitC y := by
  rw [splitC_pre x h, splitC_crlf]; simp

theorem splitC_one (x : B) (h : ∀ c ∈ x, c ≠ 13) : splitC x = [x] := by
  have := splitC_pre x h []
  simpa [splitC] using this

def okCh (c : UInt8) : Bool := (32 ≤ c && c ≤ 126) || c == 9
def goodLine (l : B) : Bool := decide (l.length ≤ 76) && !(l.getLast? == some 32 || l.getLast? == some 9) && l.all okCh
def linesOk (s : B) : Bool := (splitC s).all goodLine

theorem okCh_ne (c : UInt8) (h : okCh c = true) : c ≠ 13 := by rintro rfl; simp [okCh] at h

theorem linesOk_line (x y : B) (hx : goodLine x = true) : linesOk (x ++ 13 :: 10 :: y) = linesOk y := by
  have h : ∀ c ∈ x, c ≠ 13 := by
    intro c hc
    simp only [goodLine, Bool.and_eq_true, List.all_eq_true] at hx
    exact okCh_ne c (hx.2 c hc)
  simp [linesOk, splitC_line x h, hx]

theorem linesOk_one (x : B) (hx : goodLine x = true) : linesOk x = true := by
  have h : ∀ c ∈ x, c ≠ 13 := by
    intro c hc
    simp only [goodLine, Bool.and_eq_true, List.all_eq_true] at hx
    exact okCh_ne c (hx.2 c hc)
  simp [linesOk, splitC_one x h, hx]

/-! ## quoted-printable -/
def isPlain (c : UInt8) : Bool := 33 ≤ c && c ≤ 126 && c != 61
def isBl (c : UInt8) : Bool := c == 32 || c == 9
def hexd (n : Nat) : UInt8 := UInt8.ofNat (if n < 10 then 48 + n else 55 + n)
def hexs (c : UInt8) : B := [61, hexd (c.toNat / 16), hexd (c.toNat % 16)]

def enc1 (c : UInt8) (last : Bool) : B := if !isPlain c && (!isBl c || last) then hexs c else [c]

def roomOf (r : B) : Nat := if r.isEmpty then 76 else 75

def quoteGo : Nat → B → B
  | _, [] => []
  | line, c :: r =>
    if line + (enc1 c r.isEmpty).length > roomOf r then 61 :: 13 :: 10 :: (enc1 c r.isEmpty ++ quoteGo (enc1 c r.isEmpty).length r)
    else enc1 c r.isEmpty ++ quoteGo (line + (enc1 c r.isEmpty).length) r
def quote (b : B) : B := quoteGo 0 b

def digit (c : UInt8) : Int :=
  if 48 ≤ c ∧ c ≤ 57 then (c.toNat : Int) - 48 else if 65 ≤ c ∧ c ≤ 70 then (c.toNat : Int) - 65 + 10 else if 97 ≤ c ∧ c ≤ 102 then (c.toNat : Int) - 97 + 10 else -1

def isLit (c : UInt8) : Bool := isPlain c || c == 32 || c == 9

def dec : B → Option B
  | [] => some []
  | [c] => if isLit c then some [c] else none
  | [c, d] => if isLit c then (dec [d]).map (c :: ·) else none
  | c :: d :: e :: r =>
    if c = 61 ∧ 0 ≤ digit d ∧ 0 ≤ digit e then (dec r).map (UInt8.ofNat ((digit d).toNat * 16 + (digit e).toNat) :: ·)
    else if isLit c then (dec (d :: e :: r)).map (c :: ·) else none

def trimR (l : B) : B := Lib.trimRightS l [32, 9]

def softOf (l : B) : Bool := (trimR l).getLast? == some 61
def bodyOf (l : B) : B := if softOf l then (trimR l).dropLast else trimR l

def unqLines : List B → Option B
  | [] => some []
  | l :: rest => (dec (bodyOf l)).bind fun x => (unqLines rest).map fun y => x ++ (if !softOf l && !rest.isEmpty then crlf else []) ++ y

def unquote (s : B) : Option B := unqLines (splitC s)

/-! ### tokens -/
inductive Tok where
  | soft
  | raw (c : UInt8)
  | hex (c : UInt8)

def Tok.text : Tok → B
  | .soft => [61, 13, 10]
  | .raw c => [c]
  | .hex c => hexs c
def Tok.bytes : Tok → B
  | .soft => []
  | .raw c => [c]
  | .hex c => [c]
def Tok.ok : Tok → Bool
  | .raw c => isLit c
  | _ => true
def Tok.isSoft : Tok → Bool
  | .soft => true
  | _ => false
def Tok.isBlank : Tok → Bool
  | .raw c => isBl c
  | _ => false

def flat (l : List Tok) : B := l.flatMap Tok.text
def tbytes (l : List Tok) : B := l.flatMap Tok.bytes

theorem hexd_facts : ∀ n : Fin 16, digit (hexd n.val) = (n.val : Int) ∧ okCh (hexd n.val) = true ∧ isBl (hexd n.val) = false ∧ hexd n.val ≠ 61 ∧ hexd n.val ≠ 13 := by decide +kernel

theorem lit_facts : ∀ c : UInt8, isLit c = true → okCh c = true ∧ c ≠ 61 ∧ c ≠ 13 := by
  intro c h
  simp only [isLit, isPlain, Bool.or_eq_true, Bool.and_eq_true, decide_eq_true_eq, bne_iff_ne, ne_eq, beq_iff_eq] at h
  refine ⟨?_, ?_, ?_⟩
  · simp only [okCh, Bool.or_eq_true, Bool.and_eq_true, decide_eq_true_eq, beq_iff_eq]
    rcases h with (⟨⟨h1, h2⟩, h3⟩ | rfl) | rfl
    · exact .inl ⟨UInt8.le_trans (by decide) h1, h2⟩
    · exact .inl ⟨by decide, by decide⟩
    · exact .inr rfl
  · rintro rfl; revert h; decide
  · rintro rfl; revert h; decide

theorem dec_lit (c : UInt8) (r : B) (h : isLit c = true) : dec (c :: r) = (dec r).map (c :: ·) := by
  have hc : c ≠ 61 := (lit_facts c h).2.1
  match r with
  | [] => simp [dec, h]
  | [d] => simp [dec, h]
  | d :: e :: r => rw [dec, if_neg (by intro h'; exact hc h'.1), if_pos h]

theorem dec_hex (c : UInt8) (r : B) : dec (hexs c ++ r) = (dec r).map (c :: ·) := by
  have hc := c.toNat_lt
  have h1 := hexd_facts ⟨c.toNat / 16, by omega⟩
  have h2 := hexd_facts ⟨c.toNat % 16, by omega⟩
  simp only at h1 h2
  simp only [hexs, List.cons_append, List.nil_append]
  rw [dec, if_pos ⟨rfl, by rw [h1.1]; omega, by rw [h2.1]; omega⟩, h1.1, h2.1]
  have : UInt8.ofNat (((c.toNat / 16 : Nat) : Int).toNat * 16 + ((c.toNat % 16 : Nat) : Int).toNat) = c := by
    apply UInt8.toNat_inj.1
    rw [UInt8.toNat_ofNat']
    omega
  rw [this]

theorem dec_toks (l : List Tok) (hok : ∀ t ∈ l, t.ok = true) (hs : ∀ t ∈ l, t.isSoft = false) : dec (flat l) = some (tbytes l) := by
  induction l with
  | nil => rfl
  | cons t r ih =>
    have ih' := ih (fun t h => hok t (List.mem_cons_of_mem _ h)) (fun t h => hs t (List.mem_cons_of_mem _ h))
    have h1 := hok t (List.mem_cons_self ..)
    have h2 := hs t (List.mem_cons_self ..)
    simp only [flat, List.flatMap_cons, tbytes] at ih' ⊢
    cases t with
    | soft => simp [Tok.isSoft] at h2
    | raw c => simp only [Tok.text, Tok.bytes, List.cons_append, List.nil_append]; rw [dec_lit c _ h1, ih']; rfl
    | hex c => simp only [Tok.text, Tok.bytes, List.cons_append, List.nil_append]; rw [dec_hex c, ih']; rfl

theorem flat_no13 (l : List Tok) (hok : ∀ t ∈ l, t.ok = true) (hs : ∀ t ∈ l, t.isSoft = false) : ∀ c ∈ flat l, c ≠ 13 := by
  intro c hc
  simp only [flat, List.mem_flatMap] at hc
  obtain ⟨t, ht, hc⟩ := hc
  have h1 := hok t ht
  have h2 := hs t ht
  cases t with
  | soft => simp [Tok.isSoft] at h2
  | raw d => simp only [Tok.text, List.mem_singleton] at hc; subst hc; exact (lit_facts _ h1).2.2
  | hex d =>
    have hd := d.toNat_lt
    have g1 := hexd_facts ⟨d.toNat / 16, by omega⟩
    have g2 := hexd_facts ⟨d.toNat % 16, by omega⟩
    simp only [Tok.text, hexs, List.mem_cons, List.not_mem_nil, or_false] at hc
    rcases hc with rfl | rfl | rfl
    · decide
    · exact g1.2.2.2.2
    · exact g2.2.2.2.2

theorem trimR_id (l : B) (h : ∀ c, l.getLast? = some c → isBl c = false) : trimR l = l := by
  have := Lib.trimRightS_take l [32, 9] l.length (Nat.le_refl _) (fun j b hj hb => by
    have := (List.getElem?_eq_some_iff.1 hb).1; omega) (fun b hb hl => by
      rw [List.getLast?_eq_getElem?] at h
      have := h b hl
      simp only [isBl, Bool.or_eq_false_iff, beq_eq_false_iff_ne] at this
      simp [this])
  rw [trimR, this, List.take_length]

theorem getLast?_flat (l : List Tok) (t : Tok) : (flat (l ++ [t])).getLast? = t.text.getLast? := by
  have : t.text ≠ [] := by cases t <;> simp [Tok.text, hexs]
  simp [flat, List.flatMap_append, List.getLast?_append, List.getLast?_eq_some_getLast this]

theorem text_last (t : Tok) (h1 : t.ok = true) : ∀ c, t.text.getLast? = some c → c ≠ 61 ∧ c ≠ 13 ∧ (t.isBlank = false → isBl c = false) := by
  intro c hc
  cases t with
  | soft => simp [Tok.text] at hc; subst hc; decide
  | raw d => simp [Tok.text] at hc; subst hc; exact ⟨(lit_facts _ h1).2.1, (lit_facts _ h1).2.2, fun h => h⟩
  | hex d =>
    have hd := d.toNat_lt
    have g2 := hexd_facts ⟨d.toNat % 16, by omega⟩
    simp [Tok.text, hexs] at hc; subst hc
    exact ⟨g2.2.2.2.1, g2.2.2.2.2, fun _ => g2.2.2.1⟩

theorem flat_append (x y : List Tok) : flat (x ++ y) = flat x ++ flat y := by simp [flat]
theorem tbytes_append (x y : List Tok) : tbytes (x ++ y) = tbytes x ++ tbytes y := by simp [tbytes]

theorem snoc_all {α : Type} {p : α → Prop} {l : List α} {x : α} (h : ∀ t ∈ l, p t) (hx : p x) : ∀ t ∈ l ++ [x], p t := by
  intro t ht
  rw [List.mem_append, List.mem_singleton] at ht
  rcases ht with ht | rfl
  · exact h t ht
  · exact hx

theorem unq_toks (l : List Tok) : ∀ pre : List Tok, (∀ t ∈ pre, t.ok = true) → (∀ t ∈ pre, t.isSoft = false) → (∀ t ∈ l, t.ok = true) →
    (∀ t, (pre ++ l).getLast? = some t → t.isBlank = false) → unquote (flat (pre ++ l)) = some (tbytes (pre ++ l)) := by
  induction l with
  | nil =>
    intro pre h1 h2 _ h4
    rw [List.append_nil] at *
    rw [unquote, splitC_one _ (flat_no13 pre h1 h2)]
    have hlast : ∀ c, (flat pre).getLast? = some c → c ≠ 61 ∧ isBl c = false := by
      rcases List.eq_nil_or_concat pre with rfl | ⟨p, t, rfl⟩
      · simp [flat]
      · rw [List.concat_eq_append] at *
        intro c hc
        rw [getLast?_flat] at hc
        have := text_last t (h1 t (by simp)) c hc
        exact ⟨this.1, this.2.2 (h4 t (by simp))⟩
    have ht : trimR (flat pre) = flat pre := trimR_id _ fun c hc => (hlast c hc).2
    have hs : softOf (flat pre) = false := by
      rw [softOf, ht]
      cases hg : (flat pre).getLast? with
      | none => rfl
      | some c => simp [(hlast c hg).1]
    simp only [unqLines, bodyOf, hs, ht, Bool.false_eq_true, if_false, dec_toks pre h1 h2]
    simp
  | cons t r ih =>
    intro pre h1 h2 h3 h4
    cases t with
    | soft =>
      have hf : flat (pre ++ .soft :: r) = (flat pre ++ [61]) ++ 13 :: 10 :: flat r := by simp [flat, Tok.text]
      rw [hf, unquote, splitC_line _ (by
        intro c hc
        rw [List.mem_append] at hc
        rcases hc with hc | hc
        · exact flat_no13 pre h1 h2 c hc
        · simp only [List.mem_singleton] at hc; subst hc; decide)]
      have ht : trimR (flat pre ++ [61]) = flat pre ++ [61] := trimR_id _ (by intro c hc; simp at hc; subst hc; decide)
      have hs : softOf (flat pre ++ [61]) = true := by rw [softOf, ht]; simp
      have ih' := ih [] (by simp) (by simp) (fun t h => h3 t (List.mem_cons_of_mem _ h)) (by
        intro t ht
        rw [List.nil_append] at ht
        apply h4 t
        cases r with
        | nil => simp at ht
        | cons a r => simp [List.getLast?_append, List.getLast?_cons] at ht ⊢; exact ht)
      rw [List.nil_append, unquote] at ih'
      simp only [unqLines, bodyOf, hs, ht, if_true, List.dropLast_concat, dec_toks pre h1 h2, ih', Option.bind_some, Option.map_some]
      simp [tbytes, Tok.bytes]
    | raw c =>
      have := ih (pre ++ [.raw c]) (snoc_all h1 (h3 _ (List.mem_cons_self ..))) (snoc_all h2 rfl) (fun t h => h3 t (List.mem_cons_of_mem _ h)) (by simpa using h4)
      simpa using this
    | hex c =>
      have := ih (pre ++ [.hex c]) (snoc_all h1 (h3 _ (List.mem_cons_self ..))) (snoc_all h2 rfl) (fun t h => h3 t (List.mem_cons_of_mem _ h)) (by simpa using h4)
      simpa using this

/-! ### what Quote writes -/
def encT (c : UInt8) (last : Bool) : Tok := if !isPlain c && (!isBl c || last) then .hex c else .raw c

def quoteT : Nat → B → List Tok
  | _, [] => []
  | line, c :: r =>
    if line + (enc1 c r.isEmpty).length > roomOf r then .soft :: encT c r.isEmpty :: quoteT (enc1 c r.isEmpty).length r
    else encT c r.isEmpty :: quoteT (line + (enc1 c r.isEmpty).length) r

theorem encT_text (c : UInt8) (last : Bool) : (encT c last).text = enc1 c last := by
  unfold encT enc1; split <;> rfl
theorem encT_bytes (c : UInt8) (last : Bool) : (encT c last).bytes = [c] := by
  unfold encT; split <;> rfl
theorem encT_ok (c : UInt8) (last : Bool) : (encT c last).ok = true := by
  unfold encT
  split
  · rfl
  · rename_i h
    simp only [Tok.ok, isLit, isBl] at *
    cases hp : isPlain c
    · rw [hp] at h
      simp only [Bool.not_false, Bool.true_and, Bool.or_eq_true, Bool.not_eq_true', not_or, Bool.not_eq_false, Bool.not_eq_true] at h
      simpa using h.1
    · rfl
theorem encT_last (c : UInt8) : (encT c true).isBlank = false := by
  unfold encT
  split
  · rfl
  · rename_i h
    simp only [Tok.isBlank, isBl, isPlain] at *
    simp at h
    cases hb : (c == 32 || c == 9)
    · rfl
    · exfalso
      simp only [Bool.or_eq_true, beq_iff_eq] at hb
      rcases hb with rfl | rfl <;> revert h <;> decide
theorem encT_soft (c : UInt8) (last : Bool) : (encT c last).isSoft = false := by
  unfold encT; split <;> rfl

theorem quoteT_text (b : B) : ∀ line, flat (quoteT line b) = quoteGo line b := by
  induction b with
  | nil => intro line; rfl
  | cons c r ih =>
    intro line
    simp only [quoteT, quoteGo]
    split
    · have := ih (enc1 c r.isEmpty).length
      simp only [flat, List.flatMap_cons] at this ⊢
      rw [this, encT_text]; simp [Tok.text]
    · have := ih (line + (enc1 c r.isEmpty).length)
      simp only [flat, List.flatMap_cons] at this ⊢
      rw [this, encT_text]

theorem quoteT_bytes (b : B) : ∀ line, tbytes (quoteT line b) = b := by
  induction b with
  | nil => intro line; rfl
  | cons c r ih =>
    intro line
    simp only [quoteT]
    split
    · have := ih (enc1 c r.isEmpty).length
      simp only [tbytes, List.flatMap_cons] at this ⊢
      rw [this, encT_bytes]; simp [Tok.bytes]
    · have := ih (line + (enc1 c r.isEmpty).length)
      simp only [tbytes, List.flatMap_cons] at this ⊢
      rw [this, encT_bytes]; rfl

theorem quoteT_ok (b : B) : ∀ line, ∀ t ∈ quoteT line b, t.ok = true := by
  induction b with
  | nil => intro line t h; simp [quoteT] at h
  | cons c r ih =>
    intro line t h
    simp only [quoteT] at h
    split at h
    · simp only [List.mem_cons] at h
      rcases h with rfl | rfl | h
      · rfl
      · exact encT_ok _ _
      · exact ih _ t h
    · simp only [List.mem_cons] at h
      rcases h with rfl | h
      · exact encT_ok _ _
      · exact ih _ t h

theorem quoteT_last (b : B) : ∀ line, ∀ t, (quoteT line b).getLast? = some t → t.isBlank = false ∧ t.isSoft = false := by
  induction b with
  | nil => intro line t h; simp [quoteT] at h
  | cons c r ih =>
    intro line t h
    cases r with
    | nil =>
      simp only [quoteT] at h
      split at h
      · simp at h; subst h; exact ⟨encT_last c, encT_soft _ _⟩
      · simp at h; subst h; exact ⟨encT_last c, encT_soft _ _⟩
    | cons d r =>
      have hne : ∀ line, quoteT line (d :: r) ≠ [] := by intro line; simp only [quoteT]; split <;> simp
      simp only [quoteT.eq_def line (c :: d :: r)] at h
      split at h
      · rw [List.getLast?_cons, List.getLast?_cons, Option.getD_some] at h
        apply ih (enc1 c (d :: r).isEmpty).length
        rw [← h]
        cases hq : (quoteT (enc1 c (d :: r).isEmpty).length (d :: r)).getLast? with
        | none => exact absurd (List.getLast?_eq_none_iff.1 hq) (hne _)
        | some x => rfl
      · rw [List.getLast?_cons] at h
        apply ih (line + (enc1 c (d :: r).isEmpty).length)
        rw [← h]
        cases hq : (quoteT (line + (enc1 c (d :: r).isEmpty).length) (d :: r)).getLast? with
        | none => exact absurd (List.getLast?_eq_none_iff.1 hq) (hne _)
        | some x => rfl

theorem unquote_quote (b : B) : unquote (quote b) = some b := by
  have := unq_toks (quoteT 0 b) [] (by simp) (by simp) (quoteT_ok b 0) (fun t h => (quoteT_last b 0 t h).1)
  rwa [List.nil_append, quoteT_text, quoteT_bytes] at this

/-! ### a cut put in at the edge of a token -/
theorem getLast?_append_ne {α : Type} (a b : List α) (h : b ≠ []) : (a ++ b).getLast? = b.getLast? := by
  rw [List.getLast?_append]
  cases hb : b.getLast? with
  | none => exact absurd (List.getLast?_eq_none_iff.1 hb) h
  | some x => rfl

theorem unq_cut (x y : List Tok) (hok : ∀ t ∈ x ++ y, t.ok = true) (hl : ∀ t, (x ++ y).getLast? = some t → t.isBlank = false) :
    unquote (flat x ++ [61, 13, 10] ++ flat y) = some (tbytes (x ++ y)) := by
  have h := unq_toks (x ++ .soft :: y) [] (by simp) (by simp) (by
    intro t ht
    rw [List.mem_append, List.mem_cons] at ht
    rcases ht with h | rfl | h
    · exact hok t (List.mem_append_left _ h)
    · rfl
    · exact hok t (List.mem_append_right _ h)) (by
    intro t ht
    rw [List.nil_append] at ht
    cases y with
    | nil => simp at ht; subst ht; rfl
    | cons a y =>
      rw [getLast?_append_ne _ _ (by simp), List.getLast?_cons_cons] at ht
      exact hl t (by rw [getLast?_append_ne _ _ (by simp)]; exact ht))
  simp only [List.nil_append, flat, List.flatMap_append, List.flatMap_cons, tbytes] at h
  simpa [flat, tbytes, Tok.text, Tok.bytes] using h

/-- where in a text of tokens a place is -/
theorem locate (l : List Tok) : ∀ k, k ≤ (flat l).length → ∃ a b o, l = a ++ b ∧ k = (flat a).length + o ∧ (o = 0 ∨ ∃ t r, b = t :: r ∧ o < t.text.length) := by
  induction l with
  | nil => intro k hk; exact ⟨[], [], 0, rfl, by simp [flat] at hk ⊢; exact hk, .inl rfl⟩
  | cons t r ih =>
    intro k hk
    by_cases h : k < t.text.length
    · exact ⟨[], t :: r, k, rfl, by simp [flat], .inr ⟨t, r, rfl, h⟩⟩
    · have hf : (flat (t :: r)).length = t.text.length + (flat r).length := by simp [flat]
      obtain ⟨a, b, o, h1, h2, h3⟩ := ih (k - t.text.length) (by omega)
      refine ⟨t :: a, b, o, by rw [h1]; rfl, ?_, h3⟩
      have : (flat (t :: a)).length = t.text.length + (flat a).length := by simp [flat]
      clear h3
      omega

/-- where the cut is put -/
def adj1 (t : B) (k : Nat) : Nat := if 1 ≤ k ∧ t[k - 1]? = some 61 then k - 1 else k
def adj2 (t : B) (k : Nat) : Nat := if 2 ≤ k ∧ t[k - 2]? = some 61 then k - 2 else k
def adj3 (t : B) (k : Nat) : Nat := if 0 < k ∧ t[k - 1]? = some 13 then k - 1 else k
def adj4 (t : B) (k : Nat) : Nat := if 0 < k ∧ t[k - 1]? = some 61 then k - 1 else k
def adj (t : B) (k : Nat) : Nat := adj4 t (adj3 t (adj2 t (adj1 t k)))

theorem text_shape (t : Tok) (h : t.ok = true) : (∃ c, t.text = [c] ∧ c ≠ 61 ∧ c ≠ 13) ∨ (∃ x y, t.text = [61, x, y] ∧ x ≠ 61 ∧ y ≠ 61 ∧ y ≠ 13) := by
  cases t with
  | soft => exact .inr ⟨13, 10, rfl, by decide, by decide, by decide⟩
  | raw c => exact .inl ⟨c, rfl, (lit_facts c h).2⟩
  | hex c =>
    have hc := c.toNat_lt
    have h1 := hexd_facts ⟨c.toNat / 16, by omega⟩
    have h2 := hexd_facts ⟨c.toNat % 16, by omega⟩
    exact .inr ⟨_, _, rfl, h1.2.2.2.1, h2.2.2.2⟩

theorem flat_end (a : List Tok) (h : ∀ t ∈ a, t.ok = true) : ∀ c, (flat a).getLast? = some c → c ≠ 61 ∧ c ≠ 13 := by
  rcases List.eq_nil_or_concat a with rfl | ⟨p, t, rfl⟩
  · intro c hc; simp [flat] at hc
  · rw [List.concat_eq_append] at *
    intro c hc
    rw [getLast?_flat] at hc
    rcases text_shape t (h t (by simp)) with ⟨d, e, h1, h2⟩ | ⟨x, y, e, h1, h2, h3⟩
    · rw [e] at hc; simp at hc; subst hc; exact ⟨h1, h2⟩
    · rw [e] at hc; simp at hc; subst hc; exact ⟨h2, h3⟩

theorem flat_end2 (a : List Tok) (h : ∀ t ∈ a, t.ok = true) (h2 : 2 ≤ (flat a).length) : (flat a)[(flat a).length - 2]? ≠ some 61 := by
  rcases List.eq_nil_or_concat a with rfl | ⟨p, t, rfl⟩
  · simp [flat] at h2
  · rw [List.concat_eq_append] at *
    have hp : ∀ t ∈ p, t.ok = true := fun t ht => h t (List.mem_append_left _ ht)
    have hf : flat (p ++ [t]) = flat p ++ t.text := by simp [flat]
    rw [hf] at h2 ⊢
    rcases text_shape t (h t (by simp)) with ⟨d, e, h1, h3⟩ | ⟨x, y, e, h1, h3, h4⟩
    · rw [e] at h2 ⊢
      simp only [List.length_append, List.length_cons, List.length_nil] at h2 ⊢
      rw [List.getElem?_append_left (by omega)]
      intro hc
      have := (flat_end p hp 61 (by rw [List.getLast?_eq_getElem?]; rw [← hc]; congr 1)).1
      exact this rfl
    · rw [e]
      simp only [List.length_append, List.length_cons, List.length_nil]
      rw [List.getElem?_append_right (by omega)]
      have : (flat p).length + (0 + 1 + 1 + 1) - 2 - (flat p).length = 1 := by omega
      rw [this]
      simp [h1]

theorem adj_edge (a : List Tok) (y : B) (h : ∀ t ∈ a, t.ok = true) :
    adj1 (flat a ++ y) (flat a).length = (flat a).length ∧ adj2 (flat a ++ y) (flat a).length = (flat a).length ∧ adj3 (flat a ++ y) (flat a).length = (flat a).length ∧ adj4 (flat a ++ y) (flat a).length = (flat a).length := by
  have hl : 1 ≤ (flat a).length → (flat a ++ y)[(flat a).length - 1]? ≠ some 61 ∧ (flat a ++ y)[(flat a).length - 1]? ≠ some 13 := by
    intro h1
    rw [List.getElem?_append_left (by omega), ← List.getLast?_eq_getElem?]
    exact ⟨fun hc => (flat_end a h _ hc).1 rfl, fun hc => (flat_end a h _ hc).2 rfl⟩
  have hl2 : 2 ≤ (flat a).length → (flat a ++ y)[(flat a).length - 2]? ≠ some 61 := by
    intro h1
    rw [List.getElem?_append_left (by omega)]
    exact flat_end2 a h h1
  refine ⟨?_, ?_, ?_, ?_⟩
  · rw [adj1, if_neg (fun hc => (hl hc.1).1 hc.2)]
  · rw [adj2, if_neg (fun hc => hl2 hc.1 hc.2)]
  · rw [adj3, if_neg (fun hc => (hl hc.1).2 hc.2)]
  · rw [adj4, if_neg (fun hc => (hl hc.1).1 hc.2)]

theorem adj_ok (l : List Tok) (h : ∀ t ∈ l, t.ok = true) (k : Nat) (hk : k ≤ (flat l).length) : ∃ a b, l = a ++ b ∧ adj (flat l) k = (flat a).length := by
  obtain ⟨a, b, o, rfl, hk', h3⟩ := locate l k hk
  have ha : ∀ t ∈ a, t.ok = true := fun t ht => h t (List.mem_append_left _ ht)
  refine ⟨a, b, rfl, ?_⟩
  rw [flat_append]
  obtain ⟨e1, e2, e3, e4⟩ := adj_edge a (flat b) ha
  rcases h3 with h0 | ⟨t, r, hb, ho⟩
  · have hk0 : k = (flat a).length := by omega
    rw [hk0, adj, e1, e2, e3, e4]
  · have ht := text_shape t (h t (by rw [hb]; simp))
    have hfb : flat b = t.text ++ flat r := by rw [hb]; rfl
    rcases ht with ⟨c, e, hc1, hc2⟩ | ⟨x, y, e, hx, hy, hz⟩
    · have hk0 : k = (flat a).length := by rw [e] at ho; simp at ho; omega
      rw [hk0, adj, e1, e2, e3, e4]
    · have g0 : (flat a ++ flat b)[(flat a).length]? = some 61 := by rw [List.getElem?_append_right (by omega), hfb, e]; simp
      have g1 : (flat a ++ flat b)[(flat a).length + 1]? = some x := by rw [List.getElem?_append_right (by omega), hfb, e]; simp
      have ho3 : o < 3 := by rw [e] at ho; simpa using ho
      have hcases : o = 0 ∨ o = 1 ∨ o = 2 := by clear h hk' hb; omega
      rcases hcases with rfl | rfl | rfl
      · rw [show k = (flat a).length from hk', adj, e1, e2, e3, e4]
      · have f1 : adj1 (flat a ++ flat b) k = (flat a).length := by
          rw [hk', adj1, if_pos ⟨by omega, by rw [Nat.add_sub_cancel]; exact g0⟩, Nat.add_sub_cancel]
        rw [adj, f1, e2, e3, e4]
      · have f1 : adj1 (flat a ++ flat b) k = k := by
          rw [adj1, if_neg]
          rintro ⟨_, hc⟩
          rw [hk', show (flat a).length + 2 - 1 = (flat a).length + 1 from rfl, g1] at hc
          exact hx (Option.some.inj hc)
        have f2 : adj2 (flat a ++ flat b) k = (flat a).length := by
          rw [hk', adj2, if_pos ⟨by omega, by rw [Nat.add_sub_cancel]; exact g0⟩, Nat.add_sub_cancel]
        rw [adj, f1, f2, e3, e4]

/-- what is quoted comes through with one more cut, too -/
theorem unquote_cut (b : B) (k : Nat) (hk : k ≤ (quote b).length) :
    unquote ((quote b).take (adj (quote b) k) ++ [61, 13, 10] ++ (quote b).drop (adj (quote b) k)) = some b := by
  have ht : flat (quoteT 0 b) = quote b := quoteT_text b 0
  obtain ⟨x, y, he, ha⟩ := adj_ok (quoteT 0 b) (quoteT_ok b 0) k (by rw [ht]; exact hk)
  rw [ht] at ha
  have hf : quote b = flat x ++ flat y := by rw [← ht, he, flat_append]
  rw [ha]
  have h1 : (quote b).take (flat x).length = flat x := by rw [hf]; simp
  have h2 : (quote b).drop (flat x).length = flat y := by rw [hf]; simp
  rw [h1, h2]
  have := unq_cut x y (by rw [← he]; exact quoteT_ok b 0) (by rw [← he]; exact fun t h => (quoteT_last b 0 t h).1)
  rw [this, ← he, quoteT_bytes]

/-! ### lines -/
theorem goodLine_mk (l : B) (h1 : l.length ≤ 76) (h2 : ∀ c, l.getLast? = some c → isBl c = false) (h3 : ∀ c ∈ l, okCh c = true) : goodLine l = true := by
  simp only [goodLine, Bool.and_eq_true, decide_eq_true_eq, Bool.not_eq_true', Bool.or_eq_false_iff, List.all_eq_true]
  refine ⟨⟨h1, ?_⟩, h3⟩
  cases hl : l.getLast? with
  | none => simp
  | some c =>
    have := h2 c hl
    simp only [isBl, Bool.or_eq_false_iff] at this
    exact ⟨by simpa using this.1, by simpa using this.2⟩

theorem enc1_ok (c : UInt8) (last : Bool) : (∀ d ∈ enc1 c last, okCh d = true) ∧ (enc1 c last).length ≤ 3 ∧ 1 ≤ (enc1 c last).length ∧ (last = true → ∀ d, (enc1 c last).getLast? = some d → isBl d = false) := by
  have hok := encT_ok c last
  have htx := encT_text c last
  have hsoft := encT_soft c last
  refine ⟨?_, ?_, ?_, ?_⟩
  · intro d hd
    rw [← htx] at hd
    cases ht : encT c last with
    | soft => rw [ht] at hsoft; simp [Tok.isSoft] at hsoft
    | raw e => rw [ht] at hd hok; simp [Tok.text] at hd; subst hd; exact (lit_facts _ hok).1
    | hex e =>
      have he := e.toNat_lt
      have h1 := hexd_facts ⟨e.toNat / 16, by omega⟩
      have h2 := hexd_facts ⟨e.toNat % 16, by omega⟩
      rw [ht] at hd
      simp only [Tok.text, hexs, List.mem_cons, List.not_mem_nil, or_false] at hd
      rcases hd with rfl | rfl | rfl
      · decide
      · exact h1.2.1
      · exact h2.2.1
  · unfold enc1 hexs; split <;> simp
  · unfold enc1 hexs; split <;> simp
  · rintro rfl d hd
    rw [← htx] at hd
    exact (text_last _ hok d hd).2.2 (encT_last c)

theorem lines_quoteGo (b : B) : ∀ (line : Nat) (pre : B), pre.length = line → line ≤ 75 → (∀ c ∈ pre, okCh c = true) → (b = [] → pre = []) → linesOk (pre ++ quoteGo line b) = true := by
  induction b with
  | nil => intro line pre h1 h2 h3 h4; rw [h4 rfl]; rfl
  | cons c r ih =>
    intro line pre h1 h2 h3 _
    obtain ⟨g1, g2, g3, g4⟩ := enc1_ok c r.isEmpty
    simp only [quoteGo]
    split
    · have e : pre ++ 61 :: 13 :: 10 :: (enc1 c r.isEmpty ++ quoteGo (enc1 c r.isEmpty).length r) = (pre ++ [61]) ++ 13 :: 10 :: (enc1 c r.isEmpty ++ quoteGo (enc1 c r.isEmpty).length r) := by simp
      rw [e, linesOk_line _ _ (goodLine_mk _ (by simp; omega) (by intro d hd; simp at hd; subst hd; decide) (snoc_all h3 (by decide)))]
      cases r with
      | nil =>
        simp only [quoteGo, List.append_nil]
        exact linesOk_one _ (goodLine_mk _ (by omega) (g4 rfl) g1)
      | cons d r => exact ih _ _ rfl (by omega) g1 (by simp)
    · rename_i hle
      cases r with
      | nil =>
        simp only [quoteGo, List.append_nil, roomOf, List.isEmpty_nil, if_true] at hle ⊢
        simp only [List.isEmpty_nil] at g1 g2 g3 g4
        refine linesOk_one _ (goodLine_mk _ (by simp; omega) ?_ ?_)
        · intro d hd
          rw [getLast?_append_ne _ _ (by intro h; rw [h] at g3; simp at g3)] at hd
          exact g4 trivial d hd
        · intro d hd
          rw [List.mem_append] at hd
          exact hd.elim (h3 d) (g1 d)
      | cons d r =>
        have hroom : roomOf (d :: r) = 75 := rfl
        rw [← List.append_assoc]
        refine ih _ _ (by simp [h1]) (by omega) ?_ (by simp)
        intro e he
        rw [List.mem_append] at he
        exact he.elim (h3 e) (g1 e)

theorem lines_quote (b : B) : linesOk (quote b) = true := by
  exact lines_quoteGo b 0 [] rfl (by omega) (by simp) (by simp)



/-! ## base64, as the program's text writes it -/
def alpha : B := [65,66,67,68,69,70,71,72,73,74,75,76,77,78,79,80,81,82,83,84,85,86,87,88,89,90,97,98,99,100,101,102,103,104,105,106,107,108,109,110,111,112,113,114,115,116,117,118,119,120,121,122,48,49,50,51,52,53,54,55,56,57,43,47]
def letter (k : Nat) : UInt8 := alpha.getD k 0


/-- what one group of three bytes (two, one) is written as -/
def quad : B → B
  | [a] => [letter (a.toNat / 4), letter (a.toNat % 4 * 16), 61, 61]
  | [a, b] => [letter (a.toNat / 4), letter (a.toNat % 4 * 16 + b.toNat / 16), letter (b.toNat % 16 * 4), 61]
  | a :: b :: c :: _ => [letter (a.toNat / 4), letter (a.toNat % 4 * 16 + b.toNat / 16), letter (b.toNat % 16 * 4 + c.toNat / 64), letter (c.toNat % 64)]
  | [] => []

def packGo : Nat → B → B
  | _, [] => []
  | _, [a] => quad [a] ++ crlf
  | _, [a, b] => quad [a, b] ++ crlf
  | line, a :: b :: c :: r =>
    if line + 4 = 76 ∨ r = [] then quad [a, b, c] ++ crlf ++ packGo 0 r else quad [a, b, c] ++ packGo (line + 4) r

def pack (b : B) : B := packGo 0 b

/-- is a byte one that Unpack passes over? -/
def isWs (c : UInt8) : Bool := c == 13 || c == 10 || c == 32 || c == 9

/-- the state of Unpack's loop: v, n, pads, out; none: ErrForm -/
structure US where
  v : Nat
  n : Nat
  pads : Nat
  out : B

def ustep (s : US) (c : UInt8) : Option US :=
  if isWs c then some s else
  let k := alpha.idxOf c
  if c == 61 && decide (2 ≤ s.n % 4) then ufin { s with pads := s.pads + 1 } 0
  else if k = 64 ∨ 0 < s.pads then none
  else ufin s k
where
  ufin (s : US) (k : Nat) : Option US :=
    let v := s.v * 64 + k
    let n := s.n + 1
    if 0 < n % 4 then some { s with v := v, n := n }
    else if s.pads = 1 ∧ v % 256 ≠ 0 ∨ s.pads = 2 ∧ v % 65536 ≠ 0 then none
    else some { s with v := 0, n := n, out := s.out ++ ([UInt8.ofNat (v / 65536), UInt8.ofNat (v / 256), UInt8.ofNat v].take (3 - s.pads)) }

def urun : US → B → Option US
  | s, [] => some s
  | s, c :: r => (ustep s c).bind fun s' => urun s' r

def unpack (s : B) : Option B :=
  (urun ⟨0, 0, 0, []⟩ s).bind fun u => if 0 < u.n % 4 then none else some u.out


theorem alpha_facts : ∀ k : Fin 64, alpha.idxOf (letter k.val) = k.val ∧ (letter k.val == 61) = false ∧ isWs (letter k.val) = false := by decide +kernel

theorem ustep_letter (v n : Nat) (out : B) (k : Nat) (hk : k < 64) : ustep ⟨v, n, 0, out⟩ (letter k) = ustep.ufin ⟨v, n, 0, out⟩ k := by
  obtain ⟨h1, h2, h3⟩ := alpha_facts ⟨k, hk⟩
  simp only at h1 h2 h3
  simp only [ustep, h1, h2, h3, Bool.false_and, Bool.false_eq_true, if_false, Nat.lt_irrefl, or_false]
  rw [if_neg (by omega)]

theorem ustep_pad (v n p : Nat) (out : B) (h : 2 ≤ n % 4) : ustep ⟨v, n, p, out⟩ 61 = ustep.ufin ⟨v, n, p + 1, out⟩ 0 := by
  simp [ustep, isWs, h]

theorem ufin_mid (v n p : Nat) (out : B) (k : Nat) (h : n % 4 ≠ 3) : ustep.ufin ⟨v, n, p, out⟩ k = some ⟨v * 64 + k, n + 1, p, out⟩ := by
  simp only [ustep.ufin]
  rw [if_pos (by omega)]

theorem urun_append (s : US) (x y : B) : urun s (x ++ y) = (urun s x).bind fun s' => urun s' y := by
  induction x generalizing s with
  | nil => rfl
  | cons c r ih =>
    simp only [List.cons_append, urun, Option.bind_assoc]
    congr 1
    funext s'
    exact ih s'

theorem ofNat_back (a : UInt8) (v : Nat) (h : v % 256 = a.toNat) : UInt8.ofNat v = a := by
  apply UInt8.toNat_inj.1
  rw [UInt8.toNat_ofNat']
  exact h

theorem urun3 (n : Nat) (out : B) (a b c : UInt8) (hn : n % 4 = 0) :
    urun ⟨0, n, 0, out⟩ (quad [a, b, c]) = some ⟨0, n + 4, 0, out ++ [a, b, c]⟩ := by
  have ha := a.toNat_lt; have hb := b.toNat_lt; have hc := c.toNat_lt
  simp only [quad, urun]
  rw [ustep_letter _ _ _ _ (by omega), ufin_mid _ _ _ _ _ (by omega), Option.bind_some]
  rw [ustep_letter _ _ _ _ (by omega), ufin_mid _ _ _ _ _ (by omega), Option.bind_some]
  rw [ustep_letter _ _ _ _ (by omega), ufin_mid _ _ _ _ _ (by omega), Option.bind_some]
  rw [ustep_letter _ _ _ _ (by omega)]
  simp only [ustep.ufin]
  rw [if_neg (by omega), if_neg (by omega), Option.bind_some]
  rw [ofNat_back a _ (by omega), ofNat_back b _ (by omega), ofNat_back c _ (by omega)]
  rfl

theorem urun2 (n : Nat) (out : B) (a b : UInt8) (hn : n % 4 = 0) :
    urun ⟨0, n, 0, out⟩ (quad [a, b]) = some ⟨0, n + 4, 1, out ++ [a, b]⟩ := by
  have ha := a.toNat_lt; have hb := b.toNat_lt
  simp only [quad, urun]
  rw [ustep_letter _ _ _ _ (by omega), ufin_mid _ _ _ _ _ (by omega), Option.bind_some]
  rw [ustep_letter _ _ _ _ (by omega), ufin_mid _ _ _ _ _ (by omega), Option.bind_some]
  rw [ustep_letter _ _ _ _ (by omega), ufin_mid _ _ _ _ _ (by omega), Option.bind_some]
  rw [ustep_pad _ _ _ _ (by omega)]
  simp only [ustep.ufin]
  rw [if_neg (by omega), if_neg (by omega), Option.bind_some]
  rw [ofNat_back a _ (by omega), ofNat_back b _ (by omega)]
  rfl

theorem urun1 (n : Nat) (out : B) (a : UInt8) (hn : n % 4 = 0) :
    urun ⟨0, n, 0, out⟩ (quad [a]) = some ⟨0, n + 4, 2, out ++ [a]⟩ := by
  have ha := a.toNat_lt
  simp only [quad, urun]
  rw [ustep_letter _ _ _ _ (by omega), ufin_mid _ _ _ _ _ (by omega), Option.bind_some]
  rw [ustep_letter _ _ _ _ (by omega), ufin_mid _ _ _ _ _ (by omega), Option.bind_some]
  rw [ustep_pad _ _ _ _ (by omega), ufin_mid _ _ _ _ _ (by omega), Option.bind_some]
  rw [ustep_pad _ _ _ _ (by omega)]
  simp only [ustep.ufin]
  rw [if_neg (by omega), if_neg (by omega), Option.bind_some]
  rw [ofNat_back a _ (by omega)]
  rfl

theorem urun_ws (s : US) (x : B) (h : ∀ c ∈ x, isWs c = true) : urun s x = some s := by
  induction x with
  | nil => rfl
  | cons c r ih =>
    simp only [urun, ustep, h c (List.mem_cons_self ..), if_true, Option.bind_some]
    exact ih fun d hd => h d (List.mem_cons_of_mem _ hd)

theorem urun_crlf (s : US) : urun s crlf = some s := urun_ws s crlf (by decide)

theorem urun_packGo : ∀ (k : Nat) (b : B), b.length ≤ k → ∀ (line n : Nat) (out : B), n % 4 = 0 →
    ∃ m p, (n + m) % 4 = 0 ∧ urun ⟨0, n, 0, out⟩ (packGo line b) = some ⟨0, n + m, p, out ++ b⟩
  | _, [], _, line, n, out, hn => ⟨0, 0, by omega, by simp [packGo, urun]⟩
  | _, [a], _, line, n, out, hn => ⟨4, 2, by omega, by simp [packGo, urun_append, urun1 n out a hn, urun_crlf]⟩
  | _, [a, b], _, line, n, out, hn => ⟨4, 1, by omega, by simp [packGo, urun_append, urun2 n out a b hn, urun_crlf]⟩
  | 0, a :: b :: c :: r, hk, line, n, out, hn => by simp at hk
  | k + 1, a :: b :: c :: r, hk, line, n, out, hn => by
    simp only [List.length_cons] at hk
    simp only [packGo]
    split
    · obtain ⟨m, p, hm, h⟩ := urun_packGo k r (by omega) 0 (n + 4) (out ++ [a, b, c]) (by omega)
      refine ⟨4 + m, p, by omega, ?_⟩
      rw [urun_append, urun_append, urun3 n out a b c hn, Option.bind_some, urun_crlf, Option.bind_some, h]
      simp [Nat.add_assoc]
    · obtain ⟨m, p, hm, h⟩ := urun_packGo k r (by omega) (line + 4) (n + 4) (out ++ [a, b, c]) (by omega)
      refine ⟨4 + m, p, by omega, ?_⟩
      rw [urun_append, urun3 n out a b c hn, Option.bind_some, h]
      simp [Nat.add_assoc]

theorem unpack_pack (b : B) : unpack (pack b) = some b := by
  obtain ⟨m, p, hm, h⟩ := urun_packGo _ b (Nat.le_refl _) 0 0 [] rfl
  simp only [Nat.zero_add, List.nil_append] at h hm
  simp only [unpack, pack, h, Option.bind_some]
  rw [if_neg (by omega)]

/-- what counts for nothing may stand anywhere -/
theorem unpack_ws (x ws y : B) (h : ∀ c ∈ ws, isWs c = true) : unpack (x ++ ws ++ y) = unpack (x ++ y) := by
  simp only [unpack, urun_append, Option.bind_assoc]
  congr 1
  funext s
  rw [urun_ws s ws h, Option.bind_some]


theorem alpha_ok : ∀ k : Fin 64, okCh (letter k.val) = true ∧ isBl (letter k.val) = false := by decide +kernel

def Good (l : B) : Prop := ∀ c ∈ l, okCh c = true ∧ isBl c = false
theorem Good.append {x y : B} (h : Good x) (k : Good y) : Good (x ++ y) := by
  intro c hc
  rw [List.mem_append] at hc
  exact hc.elim (h c) (k c)
theorem Good.line {x : B} (h : Good x) (hl : x.length ≤ 76) : goodLine x = true :=
  goodLine_mk x hl (fun c hc => (h c (List.mem_of_getLast? hc)).2) (fun c hc => (h c hc).1)

theorem quad_good1 (a : UInt8) : Good (quad [a]) := by
  have ha := a.toNat_lt
  intro c hc
  simp only [quad, List.mem_cons, List.not_mem_nil, or_false] at hc
  rcases hc with rfl | rfl | rfl | rfl
  · exact alpha_ok ⟨_, by omega⟩
  · exact alpha_ok ⟨_, by omega⟩
  · decide
  · decide
theorem quad_good2 (a b : UInt8) : Good (quad [a, b]) := by
  have ha := a.toNat_lt; have hb := b.toNat_lt
  intro c hc
  simp only [quad, List.mem_cons, List.not_mem_nil, or_false] at hc
  rcases hc with rfl | rfl | rfl | rfl
  · exact alpha_ok ⟨_, by omega⟩
  · exact alpha_ok ⟨_, by omega⟩
  · exact alpha_ok ⟨_, by omega⟩
  · decide
theorem quad_good3 (a b d : UInt8) : Good (quad [a, b, d]) := by
  have ha := a.toNat_lt; have hb := b.toNat_lt; have hd := d.toNat_lt
  intro c hc
  simp only [quad, List.mem_cons, List.not_mem_nil, or_false] at hc
  rcases hc with rfl | rfl | rfl | rfl
  · exact alpha_ok ⟨_, by omega⟩
  · exact alpha_ok ⟨_, by omega⟩
  · exact alpha_ok ⟨_, by omega⟩
  · exact alpha_ok ⟨_, by omega⟩

theorem lines_packGo : ∀ (k : Nat) (b : B), b.length ≤ k → ∀ (line : Nat) (pre : B), pre.length = line → line ≤ 72 → line % 4 = 0 → Good pre → (b = [] → pre = []) →
    linesOk (pre ++ packGo line b) = true
  | _, [], _, line, pre, _, _, _, _, h => by rw [h rfl]; rfl
  | _, [a], _, line, pre, h1, h2, _, h3, _ => by
    have e : pre ++ packGo line [a] = (pre ++ quad [a]) ++ 13 :: 10 :: [] := by simp [packGo, crlf]
    rw [e, linesOk_line _ _ ((h3.append (quad_good1 a)).line (by simp [quad]; omega))]
    rfl
  | _, [a, b], _, line, pre, h1, h2, _, h3, _ => by
    have e : pre ++ packGo line [a, b] = (pre ++ quad [a, b]) ++ 13 :: 10 :: [] := by simp [packGo, crlf]
    rw [e, linesOk_line _ _ ((h3.append (quad_good2 a b)).line (by simp [quad]; omega))]
    rfl
  | 0, a :: b :: c :: r, hk, line, pre, _, _, _, _, _ => by simp at hk
  | k + 1, a :: b :: c :: r, hk, line, pre, h1, h2, h4, h3, _ => by
    simp only [List.length_cons] at hk
    simp only [packGo]
    split
    · have e : pre ++ (quad [a, b, c] ++ crlf ++ packGo 0 r) = (pre ++ quad [a, b, c]) ++ 13 :: 10 :: packGo 0 r := by simp [crlf]
      rw [e, linesOk_line _ _ ((h3.append (quad_good3 a b c)).line (by simp [quad]; omega))]
      exact lines_packGo k r (by omega) 0 [] rfl (by omega) rfl (by intro c hc; simp at hc) (fun _ => rfl)
    · rename_i hn
      rw [← List.append_assoc]
      refine lines_packGo k r (by omega) (line + 4) (pre ++ quad [a, b, c]) (by simp [quad, h1]) (by omega) (by omega) (h3.append (quad_good3 a b c)) ?_
      intro hr
      exact absurd (.inr hr) hn

theorem lines_pack (b : B) : linesOk (pack b) = true :=
  lines_packGo _ b (Nat.le_refl _) 0 [] rfl (by omega) rfl (by intro c hc; simp at hc) (fun _ => rfl)

end Go.Proofs.YtignjjnflcpiiaaDoor
