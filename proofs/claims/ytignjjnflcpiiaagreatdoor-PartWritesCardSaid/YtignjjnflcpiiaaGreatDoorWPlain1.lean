import Derived.Lib.Split
import Derived.Lib.SlTrimSet
import Derived.Lib.SplitLaws
import Derived.Lib.IndexAny
set_option linter.unusedVariables false
set_option linter.unusedSimpArgs false
set_option maxHeartbeats 1000000
namespace Go.Proofs.YtignjjnflcpiiaaGreatDoor
abbrev B := List UInt8
def crlf : B := [13, 10]
def splitC : B → List B
  | [] => [[]]
  | [c] => [[c]]
  | c :: d :: r => if c = 13 ∧ d = 10 then [] :: splitC r else (splitC (d :: r)).modifyHead (c :: ·)
theorem splitC_ne (s : B) : splitC s ≠ [] := by
  fun_induction splitC s with
  | case1 => simp
  | case2 => simp
  | case3 c d r h ih => simp
  | case4 c d r h ih => cases hs : splitC (d :: r) <;> simp_all
def okCh (c : UInt8) : Bool := (32 ≤ c && c ≤ 126) || c == 9
def goodLine (l : B) : Bool := decide (l.length ≤ 76) && !(l.getLast? == some 32 || l.getLast? == some 9) && l.all okCh
def isPlain (c : UInt8) : Bool := 33 ≤ c && c ≤ 126 && c != 61
def isBl (c : UInt8) : Bool := c == 32 || c == 9
def hexd (n : Nat) : UInt8 := UInt8.ofNat (if n < 10 then 48 + n else 55 + n)
def hexs (c : UInt8) : B := [61, hexd (c.toNat / 16), hexd (c.toNat % 16)]
def enc1 (c : UInt8) (last : Bool) : B := if !isPlain c && (!isBl c || last) then hexs c else [c]
def roomOf (r : B) : Nat := if r.isEmpty then 76 else 75
def quoteGo : Nat → B → B
  | _, [] => []
  | line, c :: r =>
    if line + (enc1 c r.isEmpty).length > roomOf r then 61 :: 13 :: 10 :: (enc1 c r.isEmpty ++ quoteGo (enc1 c r.isEmpty).length r)
    else enc1 c r.isEmpty ++ quoteGo (line + (enc1 c r.isEmpty).length) r
def quote (b : B) : B := quoteGo 0 b
def digit (c : UInt8) : Int :=
  if 48 ≤ c ∧ c ≤ 57 then (c.toNat : Int) - 48 else if 65 ≤ c ∧ c ≤ 70 then (c.toNat : Int) - 65 + 10 else if 97 ≤ c ∧ c ≤ 102 then (c.toNat : Int) - 97 + 10 else -1
def isLit (c : UInt8) : Bool := isPlain c || c == 32 || c == 9
def dec : B → Option B
  | [] => some []
  | [c] => if isLit c then some [c] else none
  | [c, d] => if isLit c then (dec [d]).map (c :: ·) else none
  | c :: d :: e :: r =>
    if c = 61 ∧ 0 ≤ digit d ∧ 0 ≤ digit e then (dec r).map (UInt8.ofNat ((digit d).toNat * 16 + (digit e).toNat) :: ·)
    else if isLit c then (dec (d :: e :: r)).map (c :: ·) else none
def trimR (l : B) : B := Lib.trimRightS l [32, 9]
def softOf (l : B) : Bool := (trimR l).getLast? == some 61
def bodyOf (l : B) : B := if softOf l then (trimR l).dropLast else trimR l
def unqLines : List B → Option B
  | [] => some []
  | l :: rest => (dec (bodyOf l)).bind fun x => (unqLines rest).map fun y => x ++ (if !softOf l && !rest.isEmpty then crlf else []) ++ y
def unquote (s : B) : Option B := unqLines (splitC s)
inductive Tok where
  | soft
  | raw (c : UInt8)
  | hex (c : UInt8)
def Tok.text : Tok → B
  | .soft => [61, 13, 10]
  | .raw c => [c]
  | .hex c => hexs c
def Tok.bytes : Tok → B
  | .soft => []
  | .raw c => [c]
  | .hex c => [c]
def Tok.ok : Tok → Bool
  | .raw c => isLit c
  | _ => true
def Tok.isSoft : Tok → Bool
  | .soft => true
  | _ => false
def Tok.isBlank : Tok → Bool
  | .raw c => isBl c
  | _ => false
def flat (l : List Tok) : B := l.flatMap Tok.text
theorem hexd_facts : ∀ n : Fin 16, digit (hexd n.val) = (n.val : Int) ∧ okCh (hexd n.val) = true ∧ isBl (hexd n.val) = false ∧ hexd n.val ≠ 61 ∧ hexd n.val ≠ 13 := by decide +kernel
theorem lit_facts : ∀ c : UInt8, isLit c = true → okCh c = true ∧ c ≠ 61 ∧ c ≠ 13 := by
  intro c h
  simp only [isLit, isPlain, Bool.or_eq_true, Bool.and_eq_true, decide_eq_true_eq, bne_iff_ne, ne_eq, beq_iff_eq] at h
  refine ⟨?_, ?_, ?_⟩
  · simp only [okCh, Bool.or_eq_true, Bool.and_eq_true, decide_eq_true_eq, beq_iff_eq]
    rcases h with (⟨⟨h1, h2⟩, h3⟩ | rfl) | rfl
    · exact .inl ⟨UInt8.le_trans (by decide) h1, h2⟩
    · exact .inl ⟨by decide, by decide⟩
    · exact .inr rfl
  · rintro rfl; revert h; decide
  · rintro rfl; revert h; decide
theorem text_last (t : Tok) (h1 : t.ok = true) : ∀ c, t.text.getLast? = some c → c ≠ 61 ∧ c ≠ 13 ∧ (t.isBlank = false → isBl c = false) := by
  intro c hc
  cases t with
  | soft => simp [Tok.text] at hc; subst hc; decide
  | raw d => simp [Tok.text] at hc; subst hc; exact ⟨(lit_facts _ h1).2.1, (lit_facts _ h1).2.2, fun h => h⟩
  | hex d =>
    have hd := d.toNat_lt
    have g2 := hexd_facts ⟨d.toNat % 16, by omega⟩
    simp [Tok.text, hexs] at hc; subst hc
    exact ⟨g2.2.2.2.1, g2.2.2.2.2, fun _ => g2.2.2.1⟩
def encT (c : UInt8) (last : Bool) : Tok := if !isPlain c && (!isBl c || last) then .hex c else .raw c
theorem encT_text (c : UInt8) (last : Bool) : (encT c last).text = enc1 c last := by
  unfold encT enc1; split <;> rfl
theorem encT_ok (c : UInt8) (last : Bool) : (encT c last).ok = true := by
  unfold encT
  split
  · rfl
  · rename_i h
    simp only [Tok.ok, isLit, isBl] at *
    cases hp : isPlain c
    · rw [hp] at h
      simp only [Bool.not_false, Bool.true_and, Bool.or_eq_true, Bool.not_eq_true', not_or, Bool.not_eq_false, Bool.not_eq_true] at h
      simpa using h.1
    · rfl
theorem encT_last (c : UInt8) : (encT c true).isBlank = false := by
  unfold encT
  split
  · rfl
  · rename_i h
    simp only [Tok.isBlank, isBl, isPlain] at *
    simp at h
    cases hb : (c == 32 || c == 9)
    · rfl
    · exfalso
      simp only [Bool.or_eq_true, beq_iff_eq] at hb
      rcases hb with rfl | rfl <;> revert h <;> decide
theorem encT_soft (c : UInt8) (last : Bool) : (encT c last).isSoft = false := by
  unfold encT; split <;> rfl
theorem goodLine_mk (l : B) (h1 : l.length ≤ 76) (h2 : ∀ c, l.getLast? = some c → isBl c = false) (h3 : ∀ c ∈ l, okCh c = true) : goodLine l = true := by
  simp only [goodLine, Bool.and_eq_true, decide_eq_true_eq, Bool.not_eq_true', Bool.or_eq_false_iff, List.all_eq_true]
  refine ⟨⟨h1, ?_⟩, h3⟩
  cases hl : l.getLast? with
  | none => simp
  | some c =>
    have := h2 c hl
    simp only [isBl, Bool.or_eq_false_iff] at this
    exact ⟨by simpa using this.1, by simpa using this.2⟩
theorem enc1_ok (c : UInt8) (last : Bool) : (∀ d ∈ enc1 c last, okCh d = true) ∧ (enc1 c last).length ≤ 3 ∧ 1 ≤ (enc1 c last).length ∧ (last = true → ∀ d, (enc1 c last).getLast? = some d → isBl d = false) := by
  have hok := encT_ok c last
  have htx := encT_text c last
  have hsoft := encT_soft c last
  refine ⟨?_, ?_, ?_, ?_⟩
  · intro d hd
    rw [← htx] at hd
    cases ht : encT c last with
    | soft => rw [ht] at hsoft; simp [Tok.isSoft] at hsoft
    | raw e => rw [ht] at hd hok; simp [Tok.text] at hd; subst hd; exact (lit_facts _ hok).1
    | hex e =>
      have he := e.toNat_lt
      have h1 := hexd_facts ⟨e.toNat / 16, by omega⟩
      have h2 := hexd_facts ⟨e.toNat % 16, by omega⟩
      rw [ht] at hd
      simp only [Tok.text, hexs, List.mem_cons, List.not_mem_nil, or_false] at hd
      rcases hd with rfl | rfl | rfl
      · decide
      · exact h1.2.1
      · exact h2.2.1
  · unfold enc1 hexs; split <;> simp
  · unfold enc1 hexs; split <;> simp
  · rintro rfl d hd
    rw [← htx] at hd
    exact (text_last _ hok d hd).2.2 (encT_last c)
def alpha : B := [65,66,67,68,69,70,71,72,73,74,75,76,77,78,79,80,81,82,83,84,85,86,87,88,89,90,97,98,99,100,101,102,103,104,105,106,107,108,109,110,111,112,113,114,115,116,117,118,119,120,121,122,48,49,50,51,52,53,54,55,56,57,43,47]
def letter (k : Nat) : UInt8 := alpha.getD k 0
def quad : B → B
  | [a] => [letter (a.toNat / 4), letter (a.toNat % 4 * 16), 61, 61]
  | [a, b] => [letter (a.toNat / 4), letter (a.toNat % 4 * 16 + b.toNat / 16), letter (b.toNat % 16 * 4), 61]
  | a :: b :: c :: _ => [letter (a.toNat / 4), letter (a.toNat % 4 * 16 + b.toNat / 16), letter (b.toNat % 16 * 4 + c.toNat / 64), letter (c.toNat % 64)]
  | [] => []
def packGo : Nat → B → B
  | _, [] => []
  | _, [a] => quad [a] ++ crlf
  | _, [a, b] => quad [a, b] ++ crlf
  | line, a :: b :: c :: r =>
    if line + 4 = 76 ∨ r = [] then quad [a, b, c] ++ crlf ++ packGo 0 r else quad [a, b, c] ++ packGo (line + 4) r
def pack (b : B) : B := packGo 0 b
def isWs (c : UInt8) : Bool := c == 13 || c == 10 || c == 32 || c == 9
structure US where
  v : Nat
  n : Nat
  pads : Nat
  out : B
def ustep (s : US) (c : UInt8) : Option US :=
  if isWs c then some s else
  let k := alpha.idxOf c
  if c == 61 && decide (2 ≤ s.n % 4) then ufin { s with pads := s.pads + 1 } 0
  else if k = 64 ∨ 0 < s.pads then none
  else ufin s k
where
  ufin (s : US) (k : Nat) : Option US :=
    let v := s.v * 64 + k
    let n := s.n + 1
    if 0 < n % 4 then some { s with v := v, n := n }
    else if s.pads = 1 ∧ v % 256 ≠ 0 ∨ s.pads = 2 ∧ v % 65536 ≠ 0 then none
    else some { s with v := 0, n := n, out := s.out ++ ([UInt8.ofNat (v / 65536), UInt8.ofNat (v / 256), UInt8.ofNat v].take (3 - s.pads)) }
def urun : US → B → Option US
  | s, [] => some s
  | s, c :: r => (ustep s c).bind fun s' => urun s' r
def unpack (s : B) : Option B :=
  (urun ⟨0, 0, 0, []⟩ s).bind fun u => if 0 < u.n % 4 then none else some u.out
def Good (l : B) : Prop := ∀ c ∈ l, okCh c = true ∧ isBl c = false
theorem Good.append {x y : B} (h : Good x) (k : Good y) : Good (x ++ y) := by
  intro c hc
  rw [List.mem_append] at hc
  exact hc.elim (h c) (k c)
theorem Good.line {x : B} (h : Good x) (hl : x.length ≤ 76) : goodLine x = true :=
  goodLine_mk x hl (fun c hc => (h c (List.mem_of_getLast? hc)).2) (fun c hc => (h c hc).1)
end Go.Proofs.YtignjjnflcpiiaaGreatDoor
/- strings.Split at CR LF is the plain 'splitC'. -/
namespace Go.Proofs.YtignjjnflcpiiaaGreatDoor
theorem isPrefix_two (a b : UInt8) (s : B) : ([a, b] : B).isPrefixOf s = true ↔ ∃ r, s = a :: b :: r := by
  match s with
  | [] => simp
  | [c] => simp [List.isPrefixOf]
  | c :: d :: r =>
    simp only [List.isPrefixOf, Bool.and_true, Bool.and_eq_true, beq_iff_eq, List.cons.injEq]
    constructor
    · rintro ⟨rfl, rfl⟩; exact ⟨r, rfl, rfl, rfl⟩
    · rintro ⟨_, rfl, rfl, _⟩; exact ⟨rfl, rfl⟩
theorem splitC_index (s : B) : (Lib.index s [13, 10] = -1 → splitC s = [s]) ∧ ∀ i : Nat, Lib.index s [13, 10] = i → splitC s = s.take i :: splitC (s.drop (i + 2)) := by
  fun_induction splitC s with
  | case1 => exact ⟨fun _ => rfl, fun i h => by simp [Lib.index] at h⟩
  | case2 c =>
    have h0 : Lib.index [c] [13, 10] = -1 := by simp [Lib.index, List.isPrefixOf]
    exact ⟨fun _ => rfl, fun i h => by rw [h0] at h; omega⟩
  | case3 c d r h ih =>
    obtain ⟨rfl, rfl⟩ := h
    have h0 : Lib.index (13 :: 10 :: r) [13, 10] = 0 := by simp [Lib.index, List.isPrefixOf]
    refine ⟨fun h => by rw [h0] at h; omega, fun i h => ?_⟩
    rw [h0] at h
    obtain rfl : i = 0 := by omega
    rfl
  | case4 c d r h ih =>
    have hp : ([13, 10] : B).isPrefixOf (c :: d :: r) = false := by
      cases hb : ([13, 10] : B).isPrefixOf (c :: d :: r) with
      | false => rfl
      | true =>
        obtain ⟨_, hr⟩ := (isPrefix_two _ _ _).1 hb
        simp only [List.cons.injEq] at hr
        exact absurd ⟨hr.1, hr.2.1⟩ h
    have hge := Lib.index_ge (d :: r) [13, 10]
    have hi : Lib.index (c :: d :: r) [13, 10] = if Lib.index (d :: r) [13, 10] == -1 then -1 else Lib.index (d :: r) [13, 10] + 1 := by
      rw [Lib.index, hp]; rfl
    constructor
    · intro h1
      rw [hi] at h1
      split at h1
      · rename_i h2
        rw [ih.1 (by simpa using h2)]
        rfl
      · omega
    · intro i h1
      rw [hi] at h1
      split at h1
      · omega
      · rename_i h2
        have h2' : Lib.index (d :: r) [13, 10] ≠ -1 := by simpa using h2
        obtain ⟨j, rfl⟩ : ∃ j, i = j + 1 := ⟨i - 1, by omega⟩
        rw [ih.2 j (by omega)]
        simp
theorem splitK_C : ∀ (fuel : Nat) (s : B), s.length < fuel → ∀ k, Lib.countFrom [13, 10] fuel s ≤ k → Lib.splitK [13, 10] 0 k s = splitC s
  | 0, s, h, _, _ => by omega
  | fuel + 1, s, h, k, hk => by
    have hge := Lib.index_ge s [13, 10]
    by_cases hi : Lib.index s [13, 10] = -1
    · rw [(splitC_index s).1 hi]
      cases k with
      | zero => rfl
      | succ k => rw [Lib.splitK, if_pos (by simp [hi])]
    · obtain ⟨i, hi'⟩ : ∃ i : Nat, Lib.index s [13, 10] = i := ⟨(Lib.index s [13, 10]).toNat, by omega⟩
      rw [Lib.countFrom, if_neg (by simp [hi])] at hk
      obtain ⟨k, rfl⟩ : ∃ j, k = j + 1 := ⟨k - 1, by omega⟩
      rw [(splitC_index s).2 i hi', Lib.splitK, if_neg (by simp [hi]), hi']
      simp only [Int.toNat_natCast, Nat.add_zero, List.length_cons, List.length_nil, Nat.zero_add, Nat.reduceAdd]
      rw [hi'] at hk
      simp only [Int.toNat_natCast, List.length_cons, List.length_nil, Nat.zero_add, Nat.reduceAdd] at hk
      rw [splitK_C fuel (s.drop (i + 2)) ?_ k (by omega)]
      rw [List.length_drop]
      cases s with
      | nil => simp [Lib.index] at hi
      | cons a l => simp only [List.length_cons] at h ⊢; omega
end Go.Proofs.YtignjjnflcpiiaaGreatDoor
/- A value with parameters, in plain lists: the program's way and the document's come to one function. -/
namespace Go.Proofs.YtignjjnflcpiiaaGreatDoor
theorem cut1 (c : UInt8) : ∀ s : B, Lib.cut s [c] = (s.takeWhile (· != c), (s.dropWhile (· != c)).drop 1, s.any (· == c))
  | [] => by simp [Lib.cut, Lib.index]
  | b :: l => by
    have ih := cut1 c l
    have hge := Lib.index_ge l [c]
    by_cases hb : b = c
    · subst hb
      simp [Lib.cut, Lib.index, List.isPrefixOf]
    · have h1 : ([c] : B).isPrefixOf (b :: l) = false := by simp [List.isPrefixOf, Ne.symm hb]
      have h2 : (b != c) = true := by simpa using hb
      have h3 : (b == c) = false := by simpa using hb
      have hi : Lib.index (b :: l) [c] = if Lib.index l [c] == -1 then -1 else Lib.index l [c] + 1 := by rw [Lib.index, h1]; rfl
      unfold Lib.cut at ih ⊢
      rw [List.takeWhile_cons, if_pos h2, List.dropWhile_cons, if_pos h2, List.any_cons, h3, Bool.false_or]
      by_cases h4 : Lib.index l [c] = -1
      · rw [if_pos (by simp [h4])] at hi
        rw [hi, if_neg (by omega)]
        rw [h4, if_neg (by omega)] at ih
        simp only [Prod.mk.injEq] at ih ⊢
        exact ⟨by rw [← ih.1], ih.2.1, ih.2.2⟩
      · rw [if_neg (by simpa using h4)] at hi
        rw [hi, if_pos (by omega)]
        rw [if_pos (by omega)] at ih
        simp only [Prod.mk.injEq, List.length_cons, List.length_nil] at ih ⊢
        have e : (Lib.index l [c] + 1).toNat = (Lib.index l [c]).toNat + 1 := by omega
        rw [e, List.take_succ_cons]
        refine ⟨by rw [ih.1], ?_, ih.2.2⟩
        rw [← ih.2.1]
        rfl
section
variable (T K : UInt8 → Bool)
def rtrim (s : B) : B := (s.reverse.dropWhile K).reverse
def tokQ (s : B) : Bool := s.all T && !s.isEmpty
structure TK : Prop where
  t59 : T 59 = false
  t61 : T 61 = false
  t34 : T 34 = false
  t47 : T 47 = false
  k : ∀ c, K c = decide (c = 32 ∨ c = 9)
  t32 : T 32 = false
  t9 : T 9 = false
def nameP (s : B) : Option (B × B) := if (Lib.cut s [61]).2.2 = true ∧ tokQ T (rtrim K (Lib.cut s [61]).1) = true then some (rtrim K (Lib.cut s [61]).1, (Lib.cut s [61]).2.1) else none
def nameR (s : B) : Option (B × B) := match (s.dropWhile T).dropWhile K with
  | 61 :: r => if (s.takeWhile T).isEmpty then none else some (s.takeWhile T, r)
  | _ => none
def quo (out : B) : B → Option (B × B)
  | [] => none
  | c :: r => if c = 34 then some (out, r) else
    match c, r with
    | 92, d :: r' => if 32 ≤ d.toNat ∧ d.toNat ≤ 126 then quo (out ++ [d]) r' else none
    | c, r => if 32 ≤ c.toNat ∧ c.toNat ≤ 126 then quo (out ++ [c]) r else none
def saidP (s : B) : Option (B × B) := match s with
  | 34 :: r => quo [] r
  | s => if tokQ T (s.take (if Lib.indexAny s [59, 32, 9] < 0 then s.length else (Lib.indexAny s [59, 32, 9]).toNat)) = true then
      some (s.take (if Lib.indexAny s [59, 32, 9] < 0 then s.length else (Lib.indexAny s [59, 32, 9]).toNat), s.drop (if Lib.indexAny s [59, 32, 9] < 0 then s.length else (Lib.indexAny s [59, 32, 9]).toNat)) else none
def saidR (s : B) : Option (B × B) := match s with
  | 34 :: r => quo [] r
  | s => if (s.takeWhile T).isEmpty then none else some (s.takeWhile T, s.dropWhile T)
def ends (s : B) : Bool := match s with
  | [] => true
  | c :: _ => c == 59
def thenEnd : Option (B × B) → Option (B × B)
  | none => none
  | some (v, r) => if ends (r.dropWhile K) = true then some (v, r.dropWhile K) else none
def parP (s : B) : Option ((B × B) × B) := match nameP T K (s.dropWhile K) with
  | none => none
  | some (n, left) => match thenEnd K (saidP T (left.dropWhile K)) with
    | none => none
    | some (v, r) => some ((n, v), r)
def parR (s : B) : Option ((B × B) × B) := match nameR T K (s.dropWhile K) with
  | none => none
  | some (n, left) => match thenEnd K (saidR T (left.dropWhile K)) with
    | none => none
    | some (v, r) => some ((n, v), r)
theorem indexAny_span (cs : B) : ∀ s : B, (if Lib.indexAny s cs < 0 then s.length else (Lib.indexAny s cs).toNat) = (s.takeWhile (fun c => !cs.contains c)).length
  | [] => by simp [Lib.indexAny]
  | b :: l => by
    have ih := indexAny_span cs l
    have hge := Lib.indexAny_ge cs l
    cases hb : cs.contains b with
    | true =>
      rw [List.takeWhile_cons, hb]
      have hi : Lib.indexAny (b :: l) cs = 0 := by rw [Lib.indexAny, if_pos hb]
      rw [hi]; rfl
    | false =>
      rw [List.takeWhile_cons, hb]
      have hi : Lib.indexAny (b :: l) cs = if Lib.indexAny l cs == -1 then -1 else Lib.indexAny l cs + 1 := by rw [Lib.indexAny, hb]; rfl
      rw [Bool.not_false, if_pos rfl, List.length_cons, List.length_cons, ← ih]
      by_cases h : Lib.indexAny l cs = -1
      · rw [if_pos (by simp [h])] at hi
        rw [hi, h]; rfl
      · rw [if_neg (by simpa using h)] at hi
        rw [hi, if_neg (by omega), if_neg (by omega)]
        omega
theorem take_span (p : UInt8 → Bool) : ∀ s : B, s.take (s.takeWhile p).length = s.takeWhile p ∧ s.drop (s.takeWhile p).length = s.dropWhile p
  | [] => ⟨rfl, rfl⟩
  | b :: l => by
    have ih := take_span p l
    rw [List.takeWhile_cons, List.dropWhile_cons]
    cases p b <;> simp [ih]
theorem dw_head_not (p : UInt8 → Bool) : ∀ (s : B) (c : UInt8) (r : B), s.dropWhile p = c :: r → p c = false
  | b :: l, c, r, h => by
    rw [List.dropWhile_cons] at h
    cases hb : p b with
    | true => rw [hb] at h; exact dw_head_not p l c r h
    | false => rw [hb] at h; simp only [Bool.false_eq_true, if_false, List.cons.injEq] at h; rw [← h.1]; exact hb
theorem span_of (p : UInt8 → Bool) (a : B) (ha : ∀ c ∈ a, p c = true) : ∀ q : B, (∀ c r, q = c :: r → p c = false) → (a ++ q).takeWhile p = a ∧ (a ++ q).dropWhile p = q := by
  induction a with
  | nil =>
    intro q hq
    cases q with
    | nil => exact ⟨rfl, rfl⟩
    | cons c r => simp [hq c r rfl]
  | cons b a ih =>
    intro q hq
    have hb := ha b List.mem_cons_self
    have := ih (fun c hc => ha c (List.mem_cons_of_mem _ hc)) q hq
    simp [hb, this]
theorem rtrim_of {t k : B} (hk : ∀ c ∈ k, K c = true) (ht : ∀ c ∈ t, K c = false) : rtrim K (t ++ k) = t := by
  unfold rtrim
  rw [List.reverse_append, (span_of K k.reverse (fun c hc => hk c (List.mem_reverse.1 hc)) t.reverse (fun c r h => ht c (List.mem_reverse.1 (h ▸ List.mem_cons_self)))).2, List.reverse_reverse]
theorem rtrim_split (s : B) : ∃ k, s = rtrim K s ++ k ∧ ∀ c ∈ k, K c = true := by
  refine ⟨(s.reverse.takeWhile K).reverse, ?_, fun c hc => ?_⟩
  · unfold rtrim
    rw [← List.reverse_append, List.takeWhile_append_dropWhile, List.reverse_reverse]
  · have := List.mem_reverse.1 hc
    exact (List.all_eq_true.1 (List.all_takeWhile (p := K) (l := s.reverse))) c this
end
section
variable {T K : UInt8 → Bool}
theorem TK.kT (h : TK T K) {c : UInt8} (hc : K c = true) : T c = false := by
  rw [h.k] at hc
  rcases of_decide_eq_true hc with rfl | rfl
  · exact h.t32
  · exact h.t9
theorem TK.k61 (h : TK T K) : K 61 = false := by rw [h.k]; decide
theorem TK.k59 (h : TK T K) : K 59 = false := by rw [h.k]; decide
theorem tokQ_iff {s : B} : tokQ T s = true ↔ s ≠ [] ∧ ∀ c ∈ s, T c = true := by
  unfold tokQ
  cases s <;> simp
theorem name_eq (h : TK T K) (s : B) : nameP T K s = nameR T K s := by
  unfold nameP nameR
  rw [cut1]
  simp only
  have hs := List.takeWhile_append_dropWhile (p := (· != (61 : UInt8))) (l := s)
  have ha : ∀ c ∈ s.takeWhile (· != (61 : UInt8)), c ≠ 61 := fun c hc => by
    have := (List.all_eq_true.1 (List.all_takeWhile (p := (· != (61 : UInt8))) (l := s))) c hc
    simpa using this
  generalize hA : s.takeWhile (· != (61 : UInt8)) = a at hs ha
  cases hd : s.dropWhile (· != (61 : UInt8)) with
  | nil =>
    rw [hd, List.append_nil] at hs
    subst hs
    have h1 : (a.any fun x => x == 61) = false := by
      rw [List.any_eq_false]
      intro c hc
      simpa using ha c hc
    rw [h1]
    simp only [Bool.false_eq_true, false_and, if_false]
    split
    · rename_i r hr
      exfalso
      have : (61 : UInt8) ∈ a := (List.dropWhile_sublist T).subset ((List.dropWhile_sublist K).subset (hr ▸ List.mem_cons_self))
      exact ha _ this rfl
    · rfl
  | cons c d =>
    have hc := dw_head_not _ _ _ _ hd
    have hc : c = 61 := by simpa using hc
    subst hc
    rw [hd] at hs
    have h1 : (s.any fun x => x == 61) = true := by
      rw [← hs]; simp
    rw [h1]
    simp only [true_and, List.drop_succ_cons, List.drop_zero]
    obtain ⟨k, hk, hkk⟩ := rtrim_split K a
    by_cases ht : tokQ T (rtrim K a) = true
    · rw [if_pos ht]
      obtain ⟨t0, t1⟩ := tokQ_iff.1 ht
      have e : s = rtrim K a ++ (k ++ 61 :: d) := by rw [← List.append_assoc, ← hk, hs]
      obtain ⟨e1, e2⟩ := span_of T (rtrim K a) t1 (k ++ 61 :: d) (fun c r he => by
        cases k with
        | nil => simp only [List.nil_append, List.cons.injEq] at he; rw [← he.1]; exact h.t61
        | cons x k => simp only [List.cons_append, List.cons.injEq] at he; rw [← he.1]; exact h.kT (hkk x List.mem_cons_self))
      have e3 := (span_of K k hkk (61 :: d) (fun c r he => by simp only [List.cons.injEq] at he; rw [← he.1]; exact h.k61)).2
      rw [← e] at e1 e2
      rw [e2, e3, e1]
      simp [t0]
    · rw [if_neg ht]
      split
      · rename_i r hr
        split
        · rfl
        · rename_i hne
          exfalso
          apply ht
          -- s = t ++ k' ++ 61 :: r
          have p1 := List.takeWhile_append_dropWhile (p := T) (l := s)
          have p2 := List.takeWhile_append_dropWhile (p := K) (l := s.dropWhile T)
          rw [hr] at p2
          rw [← p2] at p1
          have q1 : ∀ c ∈ s.takeWhile T, T c = true := fun c hc => (List.all_eq_true.1 (List.all_takeWhile (p := T) (l := s))) c hc
          have q2 : ∀ c ∈ (s.dropWhile T).takeWhile K, K c = true := fun c hc => (List.all_eq_true.1 (List.all_takeWhile (p := K) (l := s.dropWhile T))) c hc
          generalize s.takeWhile T = t at p1 q1 hne
          generalize (s.dropWhile T).takeWhile K = k' at p1 q2
          have e1 : a = t ++ k' := by
            have := (span_of (· != (61 : UInt8)) (t ++ k') (fun c hc => by
              rcases List.mem_append.1 hc with hc | hc
              · have := q1 c hc
                simp only [bne_iff_ne, ne_eq]
                rintro rfl
                rw [h.t61] at this; cases this
              · have := q2 c hc
                simp only [bne_iff_ne, ne_eq]
                rintro rfl
                rw [h.k61] at this; cases this) (61 :: r) (fun c r he => by simp only [List.cons.injEq] at he; rw [← he.1]; rfl)).1
            rw [List.append_assoc, p1, hA] at this
            exact this
          have e2 : rtrim K a = t := by
            rw [e1]
            exact rtrim_of K q2 (fun c hc => by
              cases hkc : K c with
              | false => rfl
              | true =>
                have := h.kT hkc
                rw [q1 c hc] at this; cases this)
          rw [e2, tokQ_iff]
          exact ⟨fun he => by rw [he] at hne; exact hne rfl, q1⟩
      · rfl
theorem said_eq (h : TK T K) (s : B) : thenEnd K (saidP T s) = thenEnd K (saidR T s) := by
  unfold saidP saidR
  split
  · rfl
  · rw [indexAny_span, (take_span _ s).1, (take_span _ s).2]
    have hs := List.takeWhile_append_dropWhile (p := fun c => !([59, 32, 9] : B).contains c) (l := s)
    have hp : ∀ c ∈ s.takeWhile (fun c => !([59, 32, 9] : B).contains c), c ≠ 59 ∧ K c = false := fun c hc => by
      have := (List.all_eq_true.1 (List.all_takeWhile (p := fun c => !([59, 32, 9] : B).contains c) (l := s))) c hc
      rw [h.k]
      simpa using this
    have hq : ∀ c r, s.dropWhile (fun c => !([59, 32, 9] : B).contains c) = c :: r → T c = false := fun c r he => by
      have := dw_head_not _ _ _ _ he
      have : c = 59 ∨ c = 32 ∨ c = 9 := by
        have h5 : ¬ c = 59 → ¬ c = 32 → c = 9 := by simpa using this
        by_cases e1 : c = 59
        · exact .inl e1
        by_cases e2 : c = 32
        · exact .inr (.inl e2)
        · exact .inr (.inr (h5 e1 e2))
      rcases this with rfl | rfl | rfl
      · exact h.t59
      · exact h.t32
      · exact h.t9
    generalize s.takeWhile (fun c => !([59, 32, 9] : B).contains c) = p at hs hp
    generalize s.dropWhile (fun c => !([59, 32, 9] : B).contains c) = q at hs hq
    subst hs
    by_cases ht : tokQ T p = true
    · obtain ⟨t0, t1⟩ := tokQ_iff.1 ht
      obtain ⟨e1, e2⟩ := span_of T p t1 q hq
      rw [if_pos ht, e1, e2]
      cases p with
      | nil => exact absurd rfl t0
      | cons x p => rfl
    · rw [if_neg ht]
      split
      · rfl
      · rename_i hne
        have p1 := List.takeWhile_append_dropWhile (p := T) (l := p)
        have q1 : ∀ c ∈ p.takeWhile T, T c = true := fun c hc => (List.all_eq_true.1 (List.all_takeWhile (p := T) (l := p))) c hc
        cases hd : p.dropWhile T with
        | nil =>
          exfalso
          rw [hd, List.append_nil] at p1
          rw [p1] at q1
          have := (span_of T p q1 q hq).1
          rw [this] at hne
          exact ht (tokQ_iff.2 ⟨fun e => hne (by rw [e]; rfl), q1⟩)
        | cons x r =>
          have hx := dw_head_not _ _ _ _ hd
          rw [hd] at p1
          obtain ⟨e1, e2⟩ := span_of T (p.takeWhile T) q1 (x :: r ++ q) (fun c r' he => by simp only [List.cons_append, List.cons.injEq] at he; rw [← he.1]; exact hx)
          rw [← List.append_assoc, p1] at e1 e2
          have hxm : x ∈ p := by rw [← p1]; simp
          obtain ⟨n1, n2⟩ := hp x hxm
          rw [e2]
          unfold thenEnd
          have e3 : (x :: r ++ q).dropWhile K = x :: r ++ q := by simp [n2]
          simp only
          rw [e3, if_neg]
          simp [ends, n1]
theorem par_eq (h : TK T K) (s : B) : parP T K s = parR T K s := by
  unfold parP parR
  rw [name_eq h]
  cases nameR T K (s.dropWhile K) with
  | none => rfl
  | some x => simp only; rw [said_eq h]
theorem dw_le (p : UInt8 → Bool) (s : B) : (s.dropWhile p).length ≤ s.length := (List.dropWhile_sublist p).length_le
theorem nameR_lt {s : B} {n left : B} (h : nameR T K s = some (n, left)) : left.length < s.length ∧ n.length ≤ s.length := by
  unfold nameR at h
  split at h
  · rename_i r hr
    split at h
    · cases h
    · cases h
      have h1 := dw_le K (s.dropWhile T)
      have h2 := dw_le T s
      rw [hr] at h1
      simp only [List.length_cons] at h1
      exact ⟨by omega, (List.takeWhile_sublist T).length_le⟩
  · cases h
theorem quo_len (out : B) (s : B) : ∀ v r, quo out s = some (v, r) → r.length < s.length ∧ v.length + r.length < out.length + s.length := by
  fun_induction quo out s with
  | case1 => intro v r h; cases h
  | case2 => intro v r' h; cases h; simp only [List.length_cons]; omega
  | case3 out d r hc hd ih =>
    intro v r' h
    have := ih v r' h
    simp only [List.length_append, List.length_cons, List.length_nil] at this ⊢
    omega
  | case4 => intro v r h; cases h
  | case5 out c r hc hne hd ih =>
    intro v r' h
    have := ih v r' h
    simp only [List.length_append, List.length_cons, List.length_nil] at this ⊢
    omega
  | case6 => intro v r h; cases h
theorem saidR_len {s v r : B} (h : saidR T s = some (v, r)) : v.length + r.length ≤ s.length := by
  unfold saidR at h
  split at h
  · have := quo_len _ _ _ _ h
    simp at this ⊢; omega
  · split at h
    · cases h
    · cases h
      have := congrArg List.length (List.takeWhile_append_dropWhile (p := T) (l := s))
      rw [List.length_append] at this
      omega
theorem parR_len {s n v r : B} (h : parR T K s = some ((n, v), r)) : r.length < s.length ∧ n.length ≤ s.length ∧ v.length + r.length ≤ s.length ∧ ends r = true := by
  unfold parR at h
  have h0 := dw_le K s
  split at h
  · cases h
  · rename_i n' left hn
    have h1 := nameR_lt hn
    have h2 := dw_le K left
    split at h
    · cases h
    · rename_i v' r' hv
      cases h
      unfold thenEnd at hv
      split at hv
      · cases hv
      · rename_i v2 r2 hs
        split at hv
        · cases hv
          have h3 := saidR_len hs
          have h4 := dw_le K r2
          exact ⟨by omega, by omega, by omega, ‹_›⟩
        · cases hv
end
end Go.Proofs.YtignjjnflcpiiaaGreatDoor
/- A value with parameters, in plain lists: the main value, the whole reading and writing, and that what is written reads as it was. -/
namespace Go.Proofs.YtignjjnflcpiiaaGreatDoor
theorem quo_q (out r : B) : quo out (34 :: r) = some (out, r) := by rw [quo.eq_def]; simp
theorem quo_e (out : B) (d : UInt8) (r : B) : quo out (92 :: d :: r) = if 32 ≤ d.toNat ∧ d.toNat ≤ 126 then quo (out ++ [d]) r else none := by rw [quo.eq_def]; simp
theorem quo_c (out : B) (c : UInt8) (r : B) (h : c ≠ 34) (h2 : c = 92 → r = []) : quo out (c :: r) = if 32 ≤ c.toNat ∧ c.toNat ≤ 126 then quo (out ++ [c]) r else none := by
  rw [quo.eq_def]
  simp only [h, if_false]
  split
  · exact absurd (h2 rfl) (by simp)
  · rfl
section
variable (T K : UInt8 → Bool) (f : UInt8 → UInt8)
def mainOk (m : B) : Bool := tokQ T (Lib.cut m [47]).1 && (!(Lib.cut m [47]).2.2 || tokQ T (Lib.cut m [47]).2.1)
def parsGo (out : List (B × B)) (s : B) : Option (List (B × B)) :=
  match s with
  | [] => some out
  | _ :: r => match h : parR T K r with
    | none => none
    | some ((n, v), r') => parsGo (out ++ [(n.map f, v)]) r'
termination_by s.length
decreasing_by
  have := (parR_len h).1
  simp only [List.length_cons]; omega
theorem parsGo_nil (out : List (B × B)) : parsGo T K f out [] = some out := by rw [parsGo]
theorem parsGo_none {out : List (B × B)} {c : UInt8} {r : B} (h : parR T K r = none) : parsGo T K f out (c :: r) = none := by
  rw [parsGo]; split
  · rfl
  · rename_i h'; rw [h] at h'; cases h'
theorem parsGo_some {out : List (B × B)} {c : UInt8} {r n v r' : B} (h : parR T K r = some ((n, v), r')) : parsGo T K f out (c :: r) = parsGo T K f (out ++ [(n.map f, v)]) r' := by
  rw [parsGo]; split
  · rename_i h'; rw [h] at h'; cases h'
  · rename_i h'; rw [h] at h'; cases h'; rfl
def restOf (s : B) : B := s.dropWhile (· != 59)
def mainOf (s : B) : B := (Lib.trimS (s.takeWhile (· != 59)) [32, 9]).map f
def readK (s : B) : Option (B × List (B × B)) :=
  if mainOk T (mainOf f s) = true then
    match parsGo T K f [] (restOf s) with
    | none => none
    | some l => some (mainOf f s, l)
  else none
def okV (v : B) : Bool := v.all fun c => decide (32 ≤ c.toNat ∧ c.toNat ≤ 126)
def escC (c : UInt8) : B := if c = 34 ∨ c = 92 then [92, c] else [c]
def escV (v : B) : B := v.flatMap escC
def valW (v : B) : B := if tokQ T v = true then v else 34 :: (escV v ++ [34])
def okP (p : B × B) : Bool := tokQ T p.1 && (decide (p.1.map f = p.1) && okV p.2)
def parW (p : B × B) : B := 59 :: 32 :: (p.1 ++ 61 :: valW T p.2)
inductive KRes where
  | ok (s : B)
  | bad (n : Int)
def writeKGo (n : Nat) (out : B) : List (B × B) → KRes
  | [] => .ok out
  | p :: r => match okP T f p with
    | true => writeKGo (n + 1) (out ++ parW T p) r
    | false => .bad n
def writeK (m : B) (l : List (B × B)) : KRes := match mainOk T m && decide (m.map f = m) with
  | true => writeKGo T f 0 m l
  | false => .bad (-1)
end
theorem index_cut (s : B) (c : UInt8) : (s.any (· == c) = true → Lib.index s [c] = ((s.takeWhile (· != c)).length : Int)) ∧ (s.any (· == c) = false → Lib.index s [c] = -1) := by
  have h := cut1 c s
  unfold Lib.cut at h
  have hge := Lib.index_ge s [c]
  constructor
  · intro ha
    rw [ha] at h
    split at h
    · rename_i h0
      simp only [Prod.mk.injEq] at h
      have h1 := congrArg List.length h.1
      have h2 := Lib.index_le s [c]
      rw [List.length_take] at h1
      omega
    · simp at h
  · intro ha
    rw [ha] at h
    split at h
    · simp at h
    · omega
theorem splitK_one (c : UInt8) : ∀ (fuel : Nat) (s : B), s.length < fuel → ∀ k, Lib.countFrom [c] fuel s ≤ k → Lib.splitK [c] 0 k s = if s.any (· == c) = true then s.takeWhile (· != c) :: Lib.splitK [c] 0 k ((s.dropWhile (· != c)).drop 1) else [s]
  | fuel, s, hf, k, hk => by
    cases ha : s.any (· == c) with
    | false =>
      rw [if_neg (by simp)]
      have h1 := (index_cut s c).2 ha
      cases k with
      | zero => rfl
      | succ k => rw [Lib.splitK, if_pos (by simp [h1])]
    | true =>
      rw [if_pos rfl]
      have h1 := (index_cut s c).1 ha
      have hsub : (s.dropWhile (· != c)).drop 1 = s.drop ((s.takeWhile (· != c)).length + 1) := by
        rw [← (take_span (· != c) s).2, List.drop_drop]
      have hlen : (s.takeWhile (· != c)).length < s.length := by
        have h2 := congrArg List.length (List.takeWhile_append_dropWhile (p := (· != c)) (l := s))
        rw [List.length_append] at h2
        have h3 : s.dropWhile (· != c) ≠ [] := by
          intro h4
          have h5 := (List.takeWhile_append_dropWhile (p := (· != c)) (l := s))
          rw [h4, List.append_nil] at h5
          obtain ⟨x, hx, hxc⟩ := List.any_eq_true.1 ha
          rw [← h5] at hx
          have := (List.all_eq_true.1 (List.all_takeWhile (p := (· != c)) (l := s))) x hx
          simp at this hxc
          exact this hxc
        have := List.length_pos_iff.2 h3
        omega
      cases fuel with
      | zero => omega
      | succ fuel =>
        rw [Lib.countFrom, if_neg (by rw [h1]; simp), h1] at hk
        simp only [Int.toNat_natCast, List.length_cons, List.length_nil, Nat.zero_add] at hk
        cases k with
        | zero => omega
        | succ k =>
          rw [Lib.splitK, if_neg (by rw [h1]; simp), h1]
          simp only [Int.toNat_natCast, List.length_cons, List.length_nil, Nat.zero_add, Nat.add_zero, (take_span (· != c) s).1, hsub]
          congr 1
          -- one more cut allowed changes nothing
          have key : ∀ (fuel : Nat) (s : B), s.length < fuel → ∀ k, Lib.countFrom [c] fuel s ≤ k → Lib.splitK [c] 0 k s = Lib.splitK [c] 0 (k + 1) s := by
            intro fuel
            induction fuel with
            | zero => intro s h; omega
            | succ fuel ih =>
              intro s hs k hk
              have hge := Lib.index_ge s [c]
              rw [Lib.countFrom] at hk
              by_cases hi : Lib.index s [c] = -1
              · rw [Lib.splitK, if_pos (by simp [hi])]
                cases k with
                | zero => rfl
                | succ k => rw [Lib.splitK, if_pos (by simp [hi])]
              · rw [if_neg (by simpa using hi)] at hk
                cases k with
                | zero => omega
                | succ k =>
                  rw [Lib.splitK, if_neg (by simpa using hi), Lib.splitK, if_neg (by simpa using hi)]
                  congr 1
                  refine ih _ ?_ k (by omega)
                  rw [List.length_drop]
                  cases s with
                  | nil => simp [Lib.index] at hi
                  | cons a l => simp only [List.length_cons] at hs ⊢; omega
          refine key fuel _ ?_ k (by omega)
          rw [List.length_drop]; omega
theorem split_one (c : UInt8) (s : B) : Lib.split s [c] = if s.any (· == c) = true then s.takeWhile (· != c) :: Lib.split ((s.dropWhile (· != c)).drop 1) [c] else [s] := by
  unfold Lib.split Lib.count
  rw [splitK_one c (s.length + 1) s (by omega) _ (Nat.le_refl _)]
  split
  · congr 1
    rename_i ha
    -- the counts agree with any that is enough
    have key : ∀ (fuel : Nat) (s : B), s.length < fuel → ∀ k k', Lib.countFrom [c] fuel s ≤ k → Lib.countFrom [c] fuel s ≤ k' → Lib.splitK [c] 0 k s = Lib.splitK [c] 0 k' s := by
      intro fuel
      induction fuel with
      | zero => intro s h; omega
      | succ fuel ih =>
        intro s hs k k' hk hk'
        have hge := Lib.index_ge s [c]
        rw [Lib.countFrom] at hk hk'
        by_cases hi : Lib.index s [c] = -1
        · cases k <;> cases k' <;> simp [Lib.splitK, hi]
        · rw [if_neg (by simpa using hi)] at hk hk'
          cases k with
          | zero => omega
          | succ k =>
            cases k' with
            | zero => omega
            | succ k' =>
              rw [Lib.splitK, if_neg (by simpa using hi), Lib.splitK, if_neg (by simpa using hi)]
              congr 1
              refine ih _ ?_ k k' (by omega) (by omega)
              rw [List.length_drop]
              cases s with
              | nil => simp [Lib.index] at hi
              | cons a l => simp only [List.length_cons] at hs ⊢; omega
    have hcount : Lib.countFrom [c] (((s.dropWhile (· != c)).drop 1).length + 1) ((s.dropWhile (· != c)).drop 1) ≤ Lib.countFrom [c] (s.length + 1) s := by
      have h1 := (index_cut s c).1 ha
      have hsub : (s.dropWhile (· != c)).drop 1 = s.drop ((s.takeWhile (· != c)).length + 1) := by
        rw [← (take_span (· != c) s).2, List.drop_drop]
      have mono : ∀ (f1 f2 : Nat) (x : B), x.length < f1 → x.length < f2 → Lib.countFrom [c] f1 x = Lib.countFrom [c] f2 x := by
        intro f1
        induction f1 with
        | zero => intro f2 x h; omega
        | succ f1 ih =>
          intro f2 x h h'
          cases f2 with
          | zero => omega
          | succ f2 =>
            rw [Lib.countFrom, Lib.countFrom]
            split
            · rfl
            · rename_i hi
              congr 1
              refine ih f2 _ ?_ ?_
              all_goals
                rw [List.length_drop]
                cases x with
                | nil => simp [Lib.index] at hi
                | cons a l => simp only [List.length_cons] at h h' ⊢; omega
      rw [Lib.countFrom.eq_2 (fuel := s.length), if_neg (by rw [h1]; simp), h1]
      simp only [Int.toNat_natCast, List.length_cons, List.length_nil, Nat.zero_add, ← hsub]
      have hl : ((s.dropWhile (· != c)).drop 1).length < s.length := by
        obtain ⟨x, hx, _⟩ := List.any_eq_true.1 ha
        have h0 : 0 < s.length := List.length_pos_iff.2 (List.ne_nil_of_mem hx)
        rw [hsub, List.length_drop]; omega
      rw [mono _ s.length ((s.dropWhile (· != c)).drop 1) (by omega) hl]
      omega
    refine key (((s.dropWhile (· != c)).drop 1).length + 1) _ (by omega) _ _ hcount (Nat.le_refl _)
  · rfl
theorem split_ne (c : UInt8) (s : B) : Lib.split s [c] ≠ [] := by
  rw [split_one]; split <;> simp
section
variable {T K : UInt8 → Bool} {f : UInt8 → UInt8}
theorem main_split (h : TK T K) (m : B) : mainOk T m = (decide ((Lib.split m [47]).length ≤ 2) && (tokQ T ((Lib.split m [47]).getD 0 []) && tokQ T ((Lib.split m [47]).getD ((Lib.split m [47]).length - 1) []))) := by
  unfold mainOk
  rw [split_one, cut1]
  cases ha : m.any (· == 47) with
  | false =>
    have e : m.takeWhile (· != 47) = m := by
      have h5 := (List.takeWhile_append_dropWhile (p := (· != (47 : UInt8))) (l := m))
      cases hd : m.dropWhile (· != 47) with
      | nil => rw [hd, List.append_nil] at h5; exact h5
      | cons x r =>
        have := dw_head_not _ _ _ _ hd
        exfalso
        rw [List.any_eq_false] at ha
        have hx := ha x (by rw [← h5, hd]; simp)
        simp at this hx
        exact hx this
    rw [e]
    simp
  | true =>
    simp only [if_pos, Bool.not_true, Bool.false_or]
    rw [split_one 47 ((m.dropWhile (· != 47)).drop 1)]
    generalize (m.dropWhile (· != 47)).drop 1 = b
    cases hb : b.any (· == 47) with
    | false => simp
    | true =>
      have : tokQ T b = false := by
        cases ht : tokQ T b with
        | false => rfl
        | true =>
          obtain ⟨x, hx, hx2⟩ := List.any_eq_true.1 hb
          have := (tokQ_iff.1 ht).2 x hx
          have e : x = 47 := by simpa using hx2
          rw [e, h.t47] at this
          cases this
      rw [this, Bool.and_false]
      have hn := split_ne 47 ((b.dropWhile (· != 47)).drop 1)
      have hp := List.length_pos_iff.2 hn
      simp only [if_pos, List.length_cons]
      rw [decide_eq_false (by omega)]
      rfl
structure TF (T : UInt8 → Bool) (f : UInt8 → UInt8) : Prop where
  tok : ∀ c, T c = true → T (f c) = true
  idem : ∀ c, f (f c) = f c
  vis : ∀ c, T c = true → 32 ≤ c.toNat ∧ c.toNat ≤ 126
  f47 : ∀ c, f c = 47 ↔ c = 47
theorem map_idem (hf : TF T f) (s : B) : (s.map f).map f = s.map f := by
  rw [List.map_map]
  exact List.map_congr_left fun c _ => hf.idem c
theorem tokQ_map (hf : TF T f) {s : B} (h : tokQ T s = true) : tokQ T (s.map f) = true := by
  obtain ⟨h1, h2⟩ := tokQ_iff.1 h
  refine tokQ_iff.2 ⟨by simpa using h1, fun c hc => ?_⟩
  obtain ⟨d, hd, rfl⟩ := List.mem_map.1 hc
  exact hf.tok d (h2 d hd)
theorem okV_tok (hf : TF T f) {s : B} (h : ∀ c ∈ s, T c = true) : okV s = true := List.all_eq_true.2 fun c hc => decide_eq_true (hf.vis c (h c hc))
theorem quo_vis (out s : B) : ∀ v r, okV out = true → quo out s = some (v, r) → okV v = true := by
  fun_induction quo out s with
  | case1 => intro v r ho h; cases h
  | case2 => intro v r' ho h; cases h; exact ho
  | case3 out d r hc hd ih =>
    intro v r' ho h
    exact ih v r' (by rw [okV, List.all_append, Bool.and_eq_true]; refine ⟨ho, ?_⟩; simp only [List.all_cons, List.all_nil, Bool.and_true, decide_eq_true_eq]; omega) h
  | case4 => intro v r ho h; cases h
  | case5 out c r hc hne hd ih =>
    intro v r' ho h
    exact ih v r' (by rw [okV, List.all_append, Bool.and_eq_true]; refine ⟨ho, ?_⟩; simp only [List.all_cons, List.all_nil, Bool.and_true, decide_eq_true_eq]; omega) h
  | case6 => intro v r ho h; cases h
theorem takeW_all (p : UInt8 → Bool) (s : B) : ∀ c ∈ s.takeWhile p, p c = true := fun c hc => (List.all_eq_true.1 (List.all_takeWhile (p := p) (l := s))) c hc
theorem parR_ok (hf : TF T f) {s n v r : B} (h : parR T K s = some ((n, v), r)) : okP T f (n.map f, v) = true := by
  unfold parR at h
  split at h
  · cases h
  · rename_i n' left hn
    split at h
    · cases h
    · rename_i v' r' hv
      cases h
      have h1 : tokQ T n = true := by
        unfold nameR at hn
        split at hn
        · split at hn
          · cases hn
          · rename_i hne
            cases hn
            exact tokQ_iff.2 ⟨fun e => hne (by rw [e]; rfl), takeW_all T _⟩
        · cases hn
      have h2 : okV v = true := by
        unfold thenEnd at hv
        split at hv
        · cases hv
        · rename_i v2 r2 hs
          split at hv
          · cases hv
            unfold saidR at hs
            split at hs
            · exact quo_vis _ _ _ _ rfl hs
            · split at hs
              · cases hs
              · cases hs
                exact okV_tok hf (takeW_all T _)
          · cases hv
      unfold okP
      rw [tokQ_map hf h1, map_idem hf]
      simp [h2]
theorem parsGo_ok (hf : TF T f) : ∀ (k : Nat) (s : B), s.length ≤ k → ∀ (out l : List (B × B)), (∀ p ∈ out, okP T f p = true) → parsGo T K f out s = some l → ∀ p ∈ l, okP T f p = true
  | k, [], _, out, l, ho, h => by rw [parsGo_nil] at h; cases h; exact ho
  | 0, c :: r, hk, _, _, _, _ => absurd hk (by simp)
  | k + 1, c :: r, hk, out, l, ho, h => by
    cases hp : parR T K r with
    | none => rw [parsGo_none T K f hp] at h; cases h
    | some x =>
      obtain ⟨⟨n, v⟩, r'⟩ := x
      rw [parsGo_some T K f hp] at h
      refine parsGo_ok hf k r' (by have := (parR_len hp).1; simp only [List.length_cons] at hk; omega) _ l (fun p hp' => ?_) h
      rcases List.mem_append.1 hp' with h1 | h1
      · exact ho p h1
      · rw [List.mem_singleton.1 h1]; exact parR_ok hf hp
theorem writeKGo_ok : ∀ (l : List (B × B)) (n : Nat) (out : B), (∀ p ∈ l, okP T f p = true) → writeKGo T f n out l = .ok (out ++ (l.map (parW T)).flatten)
  | [], n, out, _ => by simp [writeKGo]
  | p :: l, n, out, h => by
    rw [writeKGo, h p List.mem_cons_self, writeKGo_ok l (n + 1) _ (fun q hq => h q (List.mem_cons_of_mem _ hq))]
    simp
theorem writeKGo_inv : ∀ (l : List (B × B)) (n : Nat) (out t : B), writeKGo T f n out l = .ok t → (∀ p ∈ l, okP T f p = true) ∧ t = out ++ (l.map (parW T)).flatten
  | [], n, out, t, h => by cases h; simp
  | p :: l, n, out, t, h => by
    rw [writeKGo] at h
    cases hp : okP T f p with
    | false => rw [hp] at h; cases h
    | true =>
      rw [hp] at h
      obtain ⟨h1, h2⟩ := writeKGo_inv l (n + 1) _ t h
      refine ⟨fun q hq => ?_, by rw [h2]; simp⟩
      rcases List.mem_cons.1 hq with rfl | hq
      · exact hp
      · exact h1 q hq
theorem write_read (hf : TF T f) {s m : B} {l : List (B × B)} (h : readK T K f s = some (m, l)) : ∃ t, writeK T f m l = .ok t := by
  unfold readK at h
  split at h
  · rename_i hm
    split at h
    · cases h
    · rename_i l' hl
      cases h
      unfold writeK
      have : (mainOf f s).map f = mainOf f s := map_idem hf _
      rw [hm, this]
      simp only [decide_true, Bool.and_self]
      exact ⟨_, writeKGo_ok l 0 _ (parsGo_ok hf _ _ (Nat.le_refl _) [] l (fun p hp => by cases hp) hl)⟩
  · cases h
theorem quo_esc : ∀ (v out tail : B), okV v = true → quo out (escV v ++ 34 :: tail) = some (out ++ v, tail)
  | [], out, tail, _ => by rw [List.append_nil]; exact quo_q _ _
  | c :: v, out, tail, h => by
    rw [okV, List.all_cons, Bool.and_eq_true] at h
    have hc := of_decide_eq_true h.1
    have hv : okV v = true := h.2
    unfold escV
    rw [List.flatMap_cons, List.append_assoc]
    unfold escC
    by_cases he : c = 34 ∨ c = 92
    · rw [if_pos he]
      show quo out (92 :: c :: (escV v ++ 34 :: tail)) = _
      rw [quo_e, if_pos hc, quo_esc v (out ++ [c]) tail hv, List.append_assoc]
      rfl
    · rw [if_neg he]
      show quo out (c :: (escV v ++ 34 :: tail)) = _
      rw [quo_c out c _ (fun e => he (.inl e)) (fun e => absurd (.inr e) he), if_pos hc, quo_esc v (out ++ [c]) tail hv, List.append_assoc]
      rfl
theorem par_back (h : TK T K) {p : B × B} (hp : okP T f p = true) (tail : B) (ht : ends tail = true) : parR T K (32 :: (p.1 ++ 61 :: valW T p.2) ++ tail) = some (p, tail) := by
  obtain ⟨n, v⟩ := p
  simp only [okP, Bool.and_eq_true, decide_eq_true_eq] at hp
  obtain ⟨h1, h2, h3⟩ := hp
  obtain ⟨n0, n1⟩ := tokQ_iff.1 h1
  have hTK : ∀ c, T c = true → K c = false := fun c hc => by
    cases hk : K c with
    | false => rfl
    | true => have := h.kT hk; rw [hc] at this; cases this
  have htK : tail.dropWhile K = tail := by
    cases tail with
    | nil => rfl
    | cons c r =>
      have e : c = 59 := by simpa [ends] using ht
      rw [List.dropWhile_cons, e, h.k59]; rfl
  have hk32 : K 32 = true := by rw [h.k]; decide
  have e0 : (32 :: (n ++ 61 :: valW T v) ++ tail).dropWhile K = n ++ 61 :: (valW T v ++ tail) := by
    rw [List.cons_append, List.dropWhile_cons, if_pos hk32, List.append_assoc, List.cons_append]
    cases n with
    | nil => exact absurd rfl n0
    | cons c n => rw [List.cons_append, List.dropWhile_cons, hTK c (n1 c List.mem_cons_self)]; rfl
  have e1 : nameR T K (n ++ 61 :: (valW T v ++ tail)) = some (n, valW T v ++ tail) := by
    unfold nameR
    obtain ⟨a1, a2⟩ := span_of T n n1 (61 :: (valW T v ++ tail)) (fun c r he => by simp only [List.cons.injEq] at he; rw [← he.1]; exact h.t61)
    rw [a2, a1, List.dropWhile_cons, h.k61]
    simp [n0]
  have e2 : (valW T v ++ tail).dropWhile K = valW T v ++ tail ∧ saidR T (valW T v ++ tail) = some (v, tail) := by
    unfold valW
    by_cases hv : tokQ T v = true
    · rw [if_pos hv]
      obtain ⟨v0, v1⟩ := tokQ_iff.1 hv
      obtain ⟨b1, b2⟩ := span_of T v v1 tail (fun c r he => by
        subst he
        have e : c = 59 := by simpa [ends] using ht
        rw [e]; exact h.t59)
      cases v with
      | nil => exact absurd rfl v0
      | cons c v =>
        have hc := v1 c List.mem_cons_self
        refine ⟨by rw [List.cons_append, List.dropWhile_cons, hTK c hc]; rfl, ?_⟩
        unfold saidR
        split
        · rename_i r hr
          simp only [List.cons_append, List.cons.injEq] at hr
          rw [hr.1, h.t34] at hc; cases hc
        · rw [b1, b2]; rfl
    · rw [if_neg hv]
      have hk34 : K 34 = false := by rw [h.k]; decide
      refine ⟨by rw [List.cons_append, List.dropWhile_cons, hk34]; rfl, ?_⟩
      show quo [] (escV v ++ [34] ++ tail) = _
      rw [List.append_assoc]
      exact quo_esc v [] tail h3
  unfold parR
  rw [e0, e1]
  simp only
  rw [e2.1, e2.2]
  simp only [thenEnd]
  rw [htK, if_pos ht]
theorem pars_back (h : TK T K) : ∀ (l out : List (B × B)), (∀ p ∈ l, okP T f p = true) → parsGo T K f out ((l.map (parW T)).flatten) = some (out ++ l)
  | [], out, _ => by simp [parsGo_nil]
  | p :: l, out, hl => by
    have hp := hl p List.mem_cons_self
    have ht : ends ((l.map (parW T)).flatten) = true := by
      cases l with
      | nil => rfl
      | cons q l => rfl
    have hb := par_back h hp _ ht
    have e : ((p :: l).map (parW T)).flatten = 59 :: (32 :: (p.1 ++ 61 :: valW T p.2) ++ (l.map (parW T)).flatten) := by
      simp [parW]
    rw [e, parsGo_some T K f hb, pars_back h l _ (fun q hq => hl q (List.mem_cons_of_mem _ hq))]
    simp only [okP, Bool.and_eq_true, decide_eq_true_eq] at hp
    rw [hp.2.1]
    simp
theorem mainOk_no (h : TK T K) {m : B} (hm : mainOk T m = true) : ∀ c ∈ m, c ≠ 59 ∧ K c = false := by
  unfold mainOk at hm
  rw [cut1] at hm
  simp only [Bool.and_eq_true, Bool.or_eq_true, Bool.not_eq_true'] at hm
  obtain ⟨h1, h2⟩ := hm
  have hT : ∀ c, T c = true → c ≠ 59 ∧ K c = false := fun c hc => by
    refine ⟨fun e => ?_, ?_⟩
    · rw [e, h.t59] at hc; cases hc
    · cases hk : K c with
      | false => rfl
      | true => have := h.kT hk; rw [hc] at this; cases this
  have e := List.takeWhile_append_dropWhile (p := (· != (47 : UInt8))) (l := m)
  intro c hc
  rw [← e] at hc
  rcases List.mem_append.1 hc with hc | hc
  · exact hT c ((tokQ_iff.1 h1).2 c hc)
  · cases hd : m.dropWhile (· != 47) with
    | nil => rw [hd] at hc; cases hc
    | cons x r =>
      have hx := dw_head_not _ _ _ _ hd
      have hx : x = 47 := by simpa using hx
      rw [hd] at hc h2
      have ha : m.any (· == 47) = true := by
        rw [List.any_eq_true]
        exact ⟨x, by rw [← e, hd]; simp, by simp [hx]⟩
      rw [ha] at h2
      have h2 : tokQ T r = true := by simpa using h2
      rcases List.mem_cons.1 hc with hc | hc
      · rw [hc, hx]
        exact ⟨by decide, by rw [h.k]; decide⟩
      · exact hT c ((tokQ_iff.1 h2).2 c hc)
theorem trimS_none (h : TK T K) {m : B} (hm : ∀ c ∈ m, K c = false) : Lib.trimS m [32, 9] = m := by
  have hk : ∀ c, (([32, 9] : B).contains c) = K c := fun c => by
    rw [h.k, Bool.eq_iff_iff]; simp
  have key : ∀ l : B, (∀ c ∈ l, K c = false) → l.dropWhile (([32, 9] : B).contains ·) = l := by
    intro l hl
    cases l with
    | nil => rfl
    | cons c l => rw [List.dropWhile_cons, hk, hl c List.mem_cons_self]; rfl
  unfold Lib.trimS Lib.trimLeftS Lib.trimRightS
  rw [key m.reverse (fun c hc => hm c (List.mem_reverse.1 hc)), List.reverse_reverse, key m hm]
theorem read_write (h : TK T K) {m t : B} {l : List (B × B)} (hw : writeK T f m l = .ok t) : readK T K f t = some (m, l) := by
  unfold writeK at hw
  split at hw
  · rename_i hm
    rw [Bool.and_eq_true, decide_eq_true_eq] at hm
    obtain ⟨h1, h2⟩ := hm
    obtain ⟨h3, rfl⟩ := writeKGo_inv l 0 m t hw
    have hn := mainOk_no h h1
    obtain ⟨a1, a2⟩ := span_of (· != (59 : UInt8)) m (fun c hc => by simpa using (hn c hc).1) ((l.map (parW T)).flatten) (fun c r he => by
      cases l with
      | nil => cases he
      | cons p l =>
        have : c = 59 := by
          have := congrArg (fun x => x.getD 0 0) he
          simpa [parW] using this.symm
        simp [this])
    have e1 : mainOf f (m ++ (l.map (parW T)).flatten) = m := by
      unfold mainOf
      rw [a1, trimS_none h (fun c hc => (hn c hc).2), h2]
    unfold readK
    rw [e1, if_pos h1]
    unfold restOf
    rw [a2, pars_back h l [] h3]
    rfl
  · cases hw
end
end Go.Proofs.YtignjjnflcpiiaaGreatDoor
