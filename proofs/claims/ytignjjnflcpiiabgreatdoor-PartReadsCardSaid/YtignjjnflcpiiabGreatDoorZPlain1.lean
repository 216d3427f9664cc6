import Derived.Lib.Split
import Derived.Lib.SlTrimSet
import Derived.Lib.SplitLaws
import Derived.Lib.IndexAny
set_option linter.unusedVariables false
set_option linter.unusedSimpArgs false
set_option maxHeartbeats 1000000
namespace Go.Proofs.YtignjjnflcpiiabGreatDoor
abbrev B := List UInt8
def crlf : B := [13, 10]
def splitC : B → List B
  | [] => [[]]
  | [c] => [[c]]
  | c :: d :: r => if c = 13 ∧ d = 10 then [] :: splitC r else (splitC (d :: r)).modifyHead (c :: ·)
theorem splitC_ne (s : B) : splitC s ≠ [] := by
  fun_induction splitC s with
  | case1 => simp
  | case2 => simp
  | case3 c d r h ih => simp
  | case4 c d r h ih => cases hs : splitC (d :: r) <;> simp_all
def okCh (c : UInt8) : Bool := (32 ≤ c && c ≤ 126) || c == 9
def isPlain (c : UInt8) : Bool := 33 ≤ c && c ≤ 126 && c != 61
def isBl (c : UInt8) : Bool := c == 32 || c == 9
def hexd (n : Nat) : UInt8 := UInt8.ofNat (if n < 10 then 48 + n else 55 + n)
def hexs (c : UInt8) : B := [61, hexd (c.toNat / 16), hexd (c.toNat % 16)]
def digit (c : UInt8) : Int :=
  if 48 ≤ c ∧ c ≤ 57 then (c.toNat : Int) - 48 else if 65 ≤ c ∧ c ≤ 70 then (c.toNat : Int) - 65 + 10 else if 97 ≤ c ∧ c ≤ 102 then (c.toNat : Int) - 97 + 10 else -1
def isLit (c : UInt8) : Bool := isPlain c || c == 32 || c == 9
def dec : B → Option B
  | [] => some []
  | [c] => if isLit c then some [c] else none
  | [c, d] => if isLit c then (dec [d]).map (c :: ·) else none
  | c :: d :: e :: r =>
    if c = 61 ∧ 0 ≤ digit d ∧ 0 ≤ digit e then (dec r).map (UInt8.ofNat ((digit d).toNat * 16 + (digit e).toNat) :: ·)
    else if isLit c then (dec (d :: e :: r)).map (c :: ·) else none
def trimR (l : B) : B := Lib.trimRightS l [32, 9]
def softOf (l : B) : Bool := (trimR l).getLast? == some 61
def bodyOf (l : B) : B := if softOf l then (trimR l).dropLast else trimR l
def unqLines : List B → Option B
  | [] => some []
  | l :: rest => (dec (bodyOf l)).bind fun x => (unqLines rest).map fun y => x ++ (if !softOf l && !rest.isEmpty then crlf else []) ++ y
def unquote (s : B) : Option B := unqLines (splitC s)
inductive Tok where
  | soft
  | raw (c : UInt8)
  | hex (c : UInt8)
def Tok.text : Tok → B
  | .soft => [61, 13, 10]
  | .raw c => [c]
  | .hex c => hexs c
def Tok.bytes : Tok → B
  | .soft => []
  | .raw c => [c]
  | .hex c => [c]
def Tok.ok : Tok → Bool
  | .raw c => isLit c
  | _ => true
def flat (l : List Tok) : B := l.flatMap Tok.text
theorem lit_facts : ∀ c : UInt8, isLit c = true → okCh c = true ∧ c ≠ 61 ∧ c ≠ 13 := by
  intro c h
  simp only [isLit, isPlain, Bool.or_eq_true, Bool.and_eq_true, decide_eq_true_eq, bne_iff_ne, ne_eq, beq_iff_eq] at h
  refine ⟨?_, ?_, ?_⟩
  · simp only [okCh, Bool.or_eq_true, Bool.and_eq_true, decide_eq_true_eq, beq_iff_eq]
    rcases h with (⟨⟨h1, h2⟩, h3⟩ | rfl) | rfl
    · exact .inl ⟨UInt8.le_trans (by decide) h1, h2⟩
    · exact .inl ⟨by decide, by decide⟩
    · exact .inr rfl
  · rintro rfl; revert h; decide
  · rintro rfl; revert h; decide
theorem dec_lit (c : UInt8) (r : B) (h : isLit c = true) : dec (c :: r) = (dec r).map (c :: ·) := by
  have hc : c ≠ 61 := (lit_facts c h).2.1
  match r with
  | [] => simp [dec, h]
  | [d] => simp [dec, h]
  | d :: e :: r => rw [dec, if_neg (by intro h'; exact hc h'.1), if_pos h]
def alpha : B := [65,66,67,68,69,70,71,72,73,74,75,76,77,78,79,80,81,82,83,84,85,86,87,88,89,90,97,98,99,100,101,102,103,104,105,106,107,108,109,110,111,112,113,114,115,116,117,118,119,120,121,122,48,49,50,51,52,53,54,55,56,57,43,47]
def letter (k : Nat) : UInt8 := alpha.getD k 0
def isWs (c : UInt8) : Bool := c == 13 || c == 10 || c == 32 || c == 9
structure US where
  v : Nat
  n : Nat
  pads : Nat
  out : B
def ustep (s : US) (c : UInt8) : Option US :=
  if isWs c then some s else
  let k := alpha.idxOf c
  if c == 61 && decide (2 ≤ s.n % 4) then ufin { s with pads := s.pads + 1 } 0
  else if k = 64 ∨ 0 < s.pads then none
  else ufin s k
where
  ufin (s : US) (k : Nat) : Option US :=
    let v := s.v * 64 + k
    let n := s.n + 1
    if 0 < n % 4 then some { s with v := v, n := n }
    else if s.pads = 1 ∧ v % 256 ≠ 0 ∨ s.pads = 2 ∧ v % 65536 ≠ 0 then none
    else some { s with v := 0, n := n, out := s.out ++ ([UInt8.ofNat (v / 65536), UInt8.ofNat (v / 256), UInt8.ofNat v].take (3 - s.pads)) }
def urun : US → B → Option US
  | s, [] => some s
  | s, c :: r => (ustep s c).bind fun s' => urun s' r
def unpack (s : B) : Option B :=
  (urun ⟨0, 0, 0, []⟩ s).bind fun u => if 0 < u.n % 4 then none else some u.out
theorem alpha_facts : ∀ k : Fin 64, alpha.idxOf (letter k.val) = k.val ∧ (letter k.val == 61) = false ∧ isWs (letter k.val) = false := by decide +kernel
theorem ustep_letter (v n : Nat) (out : B) (k : Nat) (hk : k < 64) : ustep ⟨v, n, 0, out⟩ (letter k) = ustep.ufin ⟨v, n, 0, out⟩ k := by
  obtain ⟨h1, h2, h3⟩ := alpha_facts ⟨k, hk⟩
  simp only at h1 h2 h3
  simp only [ustep, h1, h2, h3, Bool.false_and, Bool.false_eq_true, if_false, Nat.lt_irrefl, or_false]
  rw [if_neg (by omega)]
theorem ustep_pad (v n p : Nat) (out : B) (h : 2 ≤ n % 4) : ustep ⟨v, n, p, out⟩ 61 = ustep.ufin ⟨v, n, p + 1, out⟩ 0 := by
  simp [ustep, isWs, h]
theorem ufin_mid (v n p : Nat) (out : B) (k : Nat) (h : n % 4 ≠ 3) : ustep.ufin ⟨v, n, p, out⟩ k = some ⟨v * 64 + k, n + 1, p, out⟩ := by
  simp only [ustep.ufin]
  rw [if_pos (by omega)]
def Good (l : B) : Prop := ∀ c ∈ l, okCh c = true ∧ isBl c = false
theorem Good.append {x y : B} (h : Good x) (k : Good y) : Good (x ++ y) := by
  intro c hc
  rw [List.mem_append] at hc
  exact hc.elim (h c) (k c)
end Go.Proofs.YtignjjnflcpiiabGreatDoor
/- strings.Split at CR LF is the plain 'splitC'. -/
namespace Go.Proofs.YtignjjnflcpiiabGreatDoor
theorem isPrefix_two (a b : UInt8) (s : B) : ([a, b] : B).isPrefixOf s = true ↔ ∃ r, s = a :: b :: r := by
  match s with
  | [] => simp
  | [c] => simp [List.isPrefixOf]
  | c :: d :: r =>
    simp only [List.isPrefixOf, Bool.and_true, Bool.and_eq_true, beq_iff_eq, List.cons.injEq]
    constructor
    · rintro ⟨rfl, rfl⟩; exact ⟨r, rfl, rfl, rfl⟩
    · rintro ⟨_, rfl, rfl, _⟩; exact ⟨rfl, rfl⟩
theorem splitC_index (s : B) : (Lib.index s [13, 10] = -1 → splitC s = [s]) ∧ ∀ i : Nat, Lib.index s [13, 10] = i → splitC s = s.take i :: splitC (s.drop (i + 2)) := by
  fun_induction splitC s with
  | case1 => exact ⟨fun _ => rfl, fun i h => by simp [Lib.index] at h⟩
  | case2 c =>
    have h0 : Lib.index [c] [13, 10] = -1 := by simp [Lib.index, List.isPrefixOf]
    exact ⟨fun _ => rfl, fun i h => by rw [h0] at h; omega⟩
  | case3 c d r h ih =>
    obtain ⟨rfl, rfl⟩ := h
    have h0 : Lib.index (13 :: 10 :: r) [13, 10] = 0 := by simp [Lib.index, List.isPrefixOf]
    refine ⟨fun h => by rw [h0] at h; omega, fun i h => ?_⟩
    rw [h0] at h
    obtain rfl : i = 0 := by omega
    rfl
  | case4 c d r h ih =>
    have hp : ([13, 10] : B).isPrefixOf (c :: d :: r) = false := by
      cases hb : ([13, 10] : B).isPrefixOf (c :: d :: r) with
      | false => rfl
      | true =>
        obtain ⟨_, hr⟩ := (isPrefix_two _ _ _).1 hb
        simp only [List.cons.injEq] at hr
        exact absurd ⟨hr.1, hr.2.1⟩ h
    have hge := Lib.index_ge (d :: r) [13, 10]
    have hi : Lib.index (c :: d :: r) [13, 10] = if Lib.index (d :: r) [13, 10] == -1 then -1 else Lib.index (d :: r) [13, 10] + 1 := by
      rw [Lib.index, hp]; rfl
    constructor
    · intro h1
      rw [hi] at h1
      split at h1
      · rename_i h2
        rw [ih.1 (by simpa using h2)]
        rfl
      · omega
    · intro i h1
      rw [hi] at h1
      split at h1
      · omega
      · rename_i h2
        have h2' : Lib.index (d :: r) [13, 10] ≠ -1 := by simpa using h2
        obtain ⟨j, rfl⟩ : ∃ j, i = j + 1 := ⟨i - 1, by omega⟩
        rw [ih.2 j (by omega)]
        simp
theorem splitK_C : ∀ (fuel : Nat) (s : B), s.length < fuel → ∀ k, Lib.countFrom [13, 10] fuel s ≤ k → Lib.splitK [13, 10] 0 k s = splitC s
  | 0, s, h, _, _ => by omega
  | fuel + 1, s, h, k, hk => by
    have hge := Lib.index_ge s [13, 10]
    by_cases hi : Lib.index s [13, 10] = -1
    · rw [(splitC_index s).1 hi]
      cases k with
      | zero => rfl
      | succ k => rw [Lib.splitK, if_pos (by simp [hi])]
    · obtain ⟨i, hi'⟩ : ∃ i : Nat, Lib.index s [13, 10] = i := ⟨(Lib.index s [13, 10]).toNat, by omega⟩
      rw [Lib.countFrom, if_neg (by simp [hi])] at hk
      obtain ⟨k, rfl⟩ : ∃ j, k = j + 1 := ⟨k - 1, by omega⟩
      rw [(splitC_index s).2 i hi', Lib.splitK, if_neg (by simp [hi]), hi']
      simp only [Int.toNat_natCast, Nat.add_zero, List.length_cons, List.length_nil, Nat.zero_add, Nat.reduceAdd]
      rw [hi'] at hk
      simp only [Int.toNat_natCast, List.length_cons, List.length_nil, Nat.zero_add, Nat.reduceAdd] at hk
      rw [splitK_C fuel (s.drop (i + 2)) ?_ k (by omega)]
      rw [List.length_drop]
      cases s with
      | nil => simp [Lib.index] at hi
      | cons a l => simp only [List.length_cons] at h ⊢; omega
theorem split_crlf (s : ByteArray) : (Lib.splitB ⟨#[13, 10]⟩ 0 (Lib.countB s ⟨#[13, 10]⟩) s).map (·.data.toList) = splitC s.data.toList := by
  rw [Lib.splitB_data]
  exact splitK_C _ _ (Nat.lt_succ_self _) _ (Nat.le_refl _)
theorem splitC_sum : ∀ s : B, ((splitC s).map List.length).sum + 2 * ((splitC s).length - 1) = s.length := by
  intro s
  fun_induction splitC s with
  | case1 => rfl
  | case2 => rfl
  | case3 c d r h ih =>
    have hne := splitC_ne r
    cases hs : splitC r with
    | nil => exact absurd hs hne
    | cons l ls => rw [hs] at ih; simp at ih ⊢; omega
  | case4 c d r h ih =>
    cases hs : splitC (d :: r) with
    | nil => exact absurd hs (splitC_ne _)
    | cons l ls => rw [hs] at ih; simp at ih ⊢; omega
end Go.Proofs.YtignjjnflcpiiabGreatDoor
/- A value with parameters, in plain lists: the program's way and the document's come to one function. -/
namespace Go.Proofs.YtignjjnflcpiiabGreatDoor
theorem cut1 (c : UInt8) : ∀ s : B, Lib.cut s [c] = (s.takeWhile (· != c), (s.dropWhile (· != c)).drop 1, s.any (· == c))
  | [] => by simp [Lib.cut, Lib.index]
  | b :: l => by
    have ih := cut1 c l
    have hge := Lib.index_ge l [c]
    by_cases hb : b = c
    · subst hb
      simp [Lib.cut, Lib.index, List.isPrefixOf]
    · have h1 : ([c] : B).isPrefixOf (b :: l) = false := by simp [List.isPrefixOf, Ne.symm hb]
      have h2 : (b != c) = true := by simpa using hb
      have h3 : (b == c) = false := by simpa using hb
      have hi : Lib.index (b :: l) [c] = if Lib.index l [c] == -1 then -1 else Lib.index l [c] + 1 := by rw [Lib.index, h1]; rfl
      unfold Lib.cut at ih ⊢
      rw [List.takeWhile_cons, if_pos h2, List.dropWhile_cons, if_pos h2, List.any_cons, h3, Bool.false_or]
      by_cases h4 : Lib.index l [c] = -1
      · rw [if_pos (by simp [h4])] at hi
        rw [hi, if_neg (by omega)]
        rw [h4, if_neg (by omega)] at ih
        simp only [Prod.mk.injEq] at ih ⊢
        exact ⟨by rw [← ih.1], ih.2.1, ih.2.2⟩
      · rw [if_neg (by simpa using h4)] at hi
        rw [hi, if_pos (by omega)]
        rw [if_pos (by omega)] at ih
        simp only [Prod.mk.injEq, List.length_cons, List.length_nil] at ih ⊢
        have e : (Lib.index l [c] + 1).toNat = (Lib.index l [c]).toNat + 1 := by omega
        rw [e, List.take_succ_cons]
        refine ⟨by rw [ih.1], ?_, ih.2.2⟩
        rw [← ih.2.1]
        rfl
section
variable (T K : UInt8 → Bool)
def rtrim (s : B) : B := (s.reverse.dropWhile K).reverse
def tokQ (s : B) : Bool := s.all T && !s.isEmpty
structure TK : Prop where
  t59 : T 59 = false
  t61 : T 61 = false
  t34 : T 34 = false
  t47 : T 47 = false
  k : ∀ c, K c = decide (c = 32 ∨ c = 9)
  t32 : T 32 = false
  t9 : T 9 = false
def nameP (s : B) : Option (B × B) := if (Lib.cut s [61]).2.2 = true ∧ tokQ T (rtrim K (Lib.cut s [61]).1) = true then some (rtrim K (Lib.cut s [61]).1, (Lib.cut s [61]).2.1) else none
def nameR (s : B) : Option (B × B) := match (s.dropWhile T).dropWhile K with
  | 61 :: r => if (s.takeWhile T).isEmpty then none else some (s.takeWhile T, r)
  | _ => none
def quo (out : B) : B → Option (B × B)
  | [] => none
  | c :: r => if c = 34 then some (out, r) else
    match c, r with
    | 92, d :: r' => if 32 ≤ d.toNat ∧ d.toNat ≤ 126 then quo (out ++ [d]) r' else none
    | c, r => if 32 ≤ c.toNat ∧ c.toNat ≤ 126 then quo (out ++ [c]) r else none
def saidP (s : B) : Option (B × B) := match s with
  | 34 :: r => quo [] r
  | s => if tokQ T (s.take (if Lib.indexAny s [59, 32, 9] < 0 then s.length else (Lib.indexAny s [59, 32, 9]).toNat)) = true then
      some (s.take (if Lib.indexAny s [59, 32, 9] < 0 then s.length else (Lib.indexAny s [59, 32, 9]).toNat), s.drop (if Lib.indexAny s [59, 32, 9] < 0 then s.length else (Lib.indexAny s [59, 32, 9]).toNat)) else none
def saidR (s : B) : Option (B × B) := match s with
  | 34 :: r => quo [] r
  | s => if (s.takeWhile T).isEmpty then none else some (s.takeWhile T, s.dropWhile T)
def ends (s : B) : Bool := match s with
  | [] => true
  | c :: _ => c == 59
def thenEnd : Option (B × B) → Option (B × B)
  | none => none
  | some (v, r) => if ends (r.dropWhile K) = true then some (v, r.dropWhile K) else none
def parP (s : B) : Option ((B × B) × B) := match nameP T K (s.dropWhile K) with
  | none => none
  | some (n, left) => match thenEnd K (saidP T (left.dropWhile K)) with
    | none => none
    | some (v, r) => some ((n, v), r)
def parR (s : B) : Option ((B × B) × B) := match nameR T K (s.dropWhile K) with
  | none => none
  | some (n, left) => match thenEnd K (saidR T (left.dropWhile K)) with
    | none => none
    | some (v, r) => some ((n, v), r)
theorem indexAny_span (cs : B) : ∀ s : B, (if Lib.indexAny s cs < 0 then s.length else (Lib.indexAny s cs).toNat) = (s.takeWhile (fun c => !cs.contains c)).length
  | [] => by simp [Lib.indexAny]
  | b :: l => by
    have ih := indexAny_span cs l
    have hge := Lib.indexAny_ge cs l
    cases hb : cs.contains b with
    | true =>
      rw [List.takeWhile_cons, hb]
      have hi : Lib.indexAny (b :: l) cs = 0 := by rw [Lib.indexAny, if_pos hb]
      rw [hi]; rfl
    | false =>
      rw [List.takeWhile_cons, hb]
      have hi : Lib.indexAny (b :: l) cs = if Lib.indexAny l cs == -1 then -1 else Lib.indexAny l cs + 1 := by rw [Lib.indexAny, hb]; rfl
      rw [Bool.not_false, if_pos rfl, List.length_cons, List.length_cons, ← ih]
      by_cases h : Lib.indexAny l cs = -1
      · rw [if_pos (by simp [h])] at hi
        rw [hi, h]; rfl
      · rw [if_neg (by simpa using h)] at hi
        rw [hi, if_neg (by omega), if_neg (by omega)]
        omega
theorem take_span (p : UInt8 → Bool) : ∀ s : B, s.take (s.takeWhile p).length = s.takeWhile p ∧ s.drop (s.takeWhile p).length = s.dropWhile p
  | [] => ⟨rfl, rfl⟩
  | b :: l => by
    have ih := take_span p l
    rw [List.takeWhile_cons, List.dropWhile_cons]
    cases p b <;> simp [ih]
theorem dw_head_not (p : UInt8 → Bool) : ∀ (s : B) (c : UInt8) (r : B), s.dropWhile p = c :: r → p c = false
  | b :: l, c, r, h => by
    rw [List.dropWhile_cons] at h
    cases hb : p b with
    | true => rw [hb] at h; exact dw_head_not p l c r h
    | false => rw [hb] at h; simp only [Bool.false_eq_true, if_false, List.cons.injEq] at h; rw [← h.1]; exact hb
theorem span_of (p : UInt8 → Bool) (a : B) (ha : ∀ c ∈ a, p c = true) : ∀ q : B, (∀ c r, q = c :: r → p c = false) → (a ++ q).takeWhile p = a ∧ (a ++ q).dropWhile p = q := by
  induction a with
  | nil =>
    intro q hq
    cases q with
    | nil => exact ⟨rfl, rfl⟩
    | cons c r => simp [hq c r rfl]
  | cons b a ih =>
    intro q hq
    have hb := ha b List.mem_cons_self
    have := ih (fun c hc => ha c (List.mem_cons_of_mem _ hc)) q hq
    simp [hb, this]
theorem rtrim_of {t k : B} (hk : ∀ c ∈ k, K c = true) (ht : ∀ c ∈ t, K c = false) : rtrim K (t ++ k) = t := by
  unfold rtrim
  rw [List.reverse_append, (span_of K k.reverse (fun c hc => hk c (List.mem_reverse.1 hc)) t.reverse (fun c r h => ht c (List.mem_reverse.1 (h ▸ List.mem_cons_self)))).2, List.reverse_reverse]
theorem rtrim_split (s : B) : ∃ k, s = rtrim K s ++ k ∧ ∀ c ∈ k, K c = true := by
  refine ⟨(s.reverse.takeWhile K).reverse, ?_, fun c hc => ?_⟩
  · unfold rtrim
    rw [← List.reverse_append, List.takeWhile_append_dropWhile, List.reverse_reverse]
  · have := List.mem_reverse.1 hc
    exact (List.all_eq_true.1 (List.all_takeWhile (p := K) (l := s.reverse))) c this
end
section
variable {T K : UInt8 → Bool}
theorem TK.kT (h : TK T K) {c : UInt8} (hc : K c = true) : T c = false := by
  rw [h.k] at hc
  rcases of_decide_eq_true hc with rfl | rfl
  · exact h.t32
  · exact h.t9
theorem TK.k61 (h : TK T K) : K 61 = false := by rw [h.k]; decide
theorem tokQ_iff {s : B} : tokQ T s = true ↔ s ≠ [] ∧ ∀ c ∈ s, T c = true := by
  unfold tokQ
  cases s <;> simp
theorem name_eq (h : TK T K) (s : B) : nameP T K s = nameR T K s := by
  unfold nameP nameR
  rw [cut1]
  simp only
  have hs := List.takeWhile_append_dropWhile (p := (· != (61 : UInt8))) (l := s)
  have ha : ∀ c ∈ s.takeWhile (· != (61 : UInt8)), c ≠ 61 := fun c hc => by
    have := (List.all_eq_true.1 (List.all_takeWhile (p := (· != (61 : UInt8))) (l := s))) c hc
    simpa using this
  generalize hA : s.takeWhile (· != (61 : UInt8)) = a at hs ha
  cases hd : s.dropWhile (· != (61 : UInt8)) with
  | nil =>
    rw [hd, List.append_nil] at hs
    subst hs
    have h1 : (a.any fun x => x == 61) = false := by
      rw [List.any_eq_false]
      intro c hc
      simpa using ha c hc
    rw [h1]
    simp only [Bool.false_eq_true, false_and, if_false]
    split
    · rename_i r hr
      exfalso
      have : (61 : UInt8) ∈ a := (List.dropWhile_sublist T).subset ((List.dropWhile_sublist K).subset (hr ▸ List.mem_cons_self))
      exact ha _ this rfl
    · rfl
  | cons c d =>
    have hc := dw_head_not _ _ _ _ hd
    have hc : c = 61 := by simpa using hc
    subst hc
    rw [hd] at hs
    have h1 : (s.any fun x => x == 61) = true := by
      rw [← hs]; simp
    rw [h1]
    simp only [true_and, List.drop_succ_cons, List.drop_zero]
    obtain ⟨k, hk, hkk⟩ := rtrim_split K a
    by_cases ht : tokQ T (rtrim K a) = true
    · rw [if_pos ht]
      obtain ⟨t0, t1⟩ := tokQ_iff.1 ht
      have e : s = rtrim K a ++ (k ++ 61 :: d) := by rw [← List.append_assoc, ← hk, hs]
      obtain ⟨e1, e2⟩ := span_of T (rtrim K a) t1 (k ++ 61 :: d) (fun c r he => by
        cases k with
        | nil => simp only [List.nil_append, List.cons.injEq] at he; rw [← he.1]; exact h.t61
        | cons x k => simp only [List.cons_append, List.cons.injEq] at he; rw [← he.1]; exact h.kT (hkk x List.mem_cons_self))
      have e3 := (span_of K k hkk (61 :: d) (fun c r he => by simp only [List.cons.injEq] at he; rw [← he.1]; exact h.k61)).2
      rw [← e] at e1 e2
      rw [e2, e3, e1]
      simp [t0]
    · rw [if_neg ht]
      split
      · rename_i r hr
        split
        · rfl
        · rename_i hne
          exfalso
          apply ht
          -- s = t ++ k' ++ 61 :: r
          have p1 := List.takeWhile_append_dropWhile (p := T) (l := s)
          have p2 := List.takeWhile_append_dropWhile (p := K) (l := s.dropWhile T)
          rw [hr] at p2
          rw [← p2] at p1
          have q1 : ∀ c ∈ s.takeWhile T, T c = true := fun c hc => (List.all_eq_true.1 (List.all_takeWhile (p := T) (l := s))) c hc
          have q2 : ∀ c ∈ (s.dropWhile T).takeWhile K, K c = true := fun c hc => (List.all_eq_true.1 (List.all_takeWhile (p := K) (l := s.dropWhile T))) c hc
          generalize s.takeWhile T = t at p1 q1 hne
          generalize (s.dropWhile T).takeWhile K = k' at p1 q2
          have e1 : a = t ++ k' := by
            have := (span_of (· != (61 : UInt8)) (t ++ k') (fun c hc => by
              rcases List.mem_append.1 hc with hc | hc
              · have := q1 c hc
                simp only [bne_iff_ne, ne_eq]
                rintro rfl
                rw [h.t61] at this; cases this
              · have := q2 c hc
                simp only [bne_iff_ne, ne_eq]
                rintro rfl
                rw [h.k61] at this; cases this) (61 :: r) (fun c r he => by simp only [List.cons.injEq] at he; rw [← he.1]; rfl)).1
            rw [List.append_assoc, p1, hA] at this
            exact this
          have e2 : rtrim K a = t := by
            rw [e1]
            exact rtrim_of K q2 (fun c hc => by
              cases hkc : K c with
              | false => rfl
              | true =>
                have := h.kT hkc
                rw [q1 c hc] at this; cases this)
          rw [e2, tokQ_iff]
          exact ⟨fun he => by rw [he] at hne; exact hne rfl, q1⟩
      · rfl
theorem said_eq (h : TK T K) (s : B) : thenEnd K (saidP T s) = thenEnd K (saidR T s) := by
  unfold saidP saidR
  split
  · rfl
  · rw [indexAny_span, (take_span _ s).1, (take_span _ s).2]
    have hs := List.takeWhile_append_dropWhile (p := fun c => !([59, 32, 9] : B).contains c) (l := s)
    have hp : ∀ c ∈ s.takeWhile (fun c => !([59, 32, 9] : B).contains c), c ≠ 59 ∧ K c = false := fun c hc => by
      have := (List.all_eq_true.1 (List.all_takeWhile (p := fun c => !([59, 32, 9] : B).contains c) (l := s))) c hc
      rw [h.k]
      simpa using this
    have hq : ∀ c r, s.dropWhile (fun c => !([59, 32, 9] : B).contains c) = c :: r → T c = false := fun c r he => by
      have := dw_head_not _ _ _ _ he
      have : c = 59 ∨ c = 32 ∨ c = 9 := by
        have h5 : ¬ c = 59 → ¬ c = 32 → c = 9 := by simpa using this
        by_cases e1 : c = 59
        · exact .inl e1
        by_cases e2 : c = 32
        · exact .inr (.inl e2)
        · exact .inr (.inr (h5 e1 e2))
      rcases this with rfl | rfl | rfl
      · exact h.t59
      · exact h.t32
      · exact h.t9
    generalize s.takeWhile (fun c => !([59, 32, 9] : B).contains c) = p at hs hp
    generalize s.dropWhile (fun c => !([59, 32, 9] : B).contains c) = q at hs hq
    subst hs
    by_cases ht : tokQ T p = true
    · obtain ⟨t0, t1⟩ := tokQ_iff.1 ht
      obtain ⟨e1, e2⟩ := span_of T p t1 q hq
      rw [if_pos ht, e1, e2]
      cases p with
      | nil => exact absurd rfl t0
      | cons x p => rfl
    · rw [if_neg ht]
      split
      · rfl
      · rename_i hne
        have p1 := List.takeWhile_append_dropWhile (p := T) (l := p)
        have q1 : ∀ c ∈ p.takeWhile T, T c = true := fun c hc => (List.all_eq_true.1 (List.all_takeWhile (p := T) (l := p))) c hc
        cases hd : p.dropWhile T with
        | nil =>
          exfalso
          rw [hd, List.append_nil] at p1
          rw [p1] at q1
          have := (span_of T p q1 q hq).1
          rw [this] at hne
          exact ht (tokQ_iff.2 ⟨fun e => hne (by rw [e]; rfl), q1⟩)
        | cons x r =>
          have hx := dw_head_not _ _ _ _ hd
          rw [hd] at p1
          obtain ⟨e1, e2⟩ := span_of T (p.takeWhile T) q1 (x :: r ++ q) (fun c r' he => by simp only [List.cons_append, List.cons.injEq] at he; rw [← he.1]; exact hx)
          rw [← List.append_assoc, p1] at e1 e2
          have hxm : x ∈ p := by rw [← p1]; simp
          obtain ⟨n1, n2⟩ := hp x hxm
          rw [e2]
          unfold thenEnd
          have e3 : (x :: r ++ q).dropWhile K = x :: r ++ q := by simp [n2]
          simp only
          rw [e3, if_neg]
          simp [ends, n1]
theorem par_eq (h : TK T K) (s : B) : parP T K s = parR T K s := by
  unfold parP parR
  rw [name_eq h]
  cases nameR T K (s.dropWhile K) with
  | none => rfl
  | some x => simp only; rw [said_eq h]
theorem dw_le (p : UInt8 → Bool) (s : B) : (s.dropWhile p).length ≤ s.length := (List.dropWhile_sublist p).length_le
theorem nameR_lt {s : B} {n left : B} (h : nameR T K s = some (n, left)) : left.length < s.length ∧ n.length ≤ s.length := by
  unfold nameR at h
  split at h
  · rename_i r hr
    split at h
    · cases h
    · cases h
      have h1 := dw_le K (s.dropWhile T)
      have h2 := dw_le T s
      rw [hr] at h1
      simp only [List.length_cons] at h1
      exact ⟨by omega, (List.takeWhile_sublist T).length_le⟩
  · cases h
theorem quo_len (out : B) (s : B) : ∀ v r, quo out s = some (v, r) → r.length < s.length ∧ v.length + r.length < out.length + s.length := by
  fun_induction quo out s with
  | case1 => intro v r h; cases h
  | case2 => intro v r' h; cases h; simp only [List.length_cons]; omega
  | case3 out d r hc hd ih =>
    intro v r' h
    have := ih v r' h
    simp only [List.length_append, List.length_cons, List.length_nil] at this ⊢
    omega
  | case4 => intro v r h; cases h
  | case5 out c r hc hne hd ih =>
    intro v r' h
    have := ih v r' h
    simp only [List.length_append, List.length_cons, List.length_nil] at this ⊢
    omega
  | case6 => intro v r h; cases h
theorem saidR_len {s v r : B} (h : saidR T s = some (v, r)) : v.length + r.length ≤ s.length := by
  unfold saidR at h
  split at h
  · have := quo_len _ _ _ _ h
    simp at this ⊢; omega
  · split at h
    · cases h
    · cases h
      have := congrArg List.length (List.takeWhile_append_dropWhile (p := T) (l := s))
      rw [List.length_append] at this
      omega
theorem parR_len {s n v r : B} (h : parR T K s = some ((n, v), r)) : r.length < s.length ∧ n.length ≤ s.length ∧ v.length + r.length ≤ s.length ∧ ends r = true := by
  unfold parR at h
  have h0 := dw_le K s
  split at h
  · cases h
  · rename_i n' left hn
    have h1 := nameR_lt hn
    have h2 := dw_le K left
    split at h
    · cases h
    · rename_i v' r' hv
      cases h
      unfold thenEnd at hv
      split at hv
      · cases hv
      · rename_i v2 r2 hs
        split at hv
        · cases hv
          have h3 := saidR_len hs
          have h4 := dw_le K r2
          exact ⟨by omega, by omega, by omega, ‹_›⟩
        · cases hv
end
end Go.Proofs.YtignjjnflcpiiabGreatDoor
/- A value with parameters, in plain lists: the main value, the whole reading and writing, and that what is written reads as it was. -/
namespace Go.Proofs.YtignjjnflcpiiabGreatDoor
theorem quo_q (out r : B) : quo out (34 :: r) = some (out, r) := by rw [quo.eq_def]; simp
theorem quo_e (out : B) (d : UInt8) (r : B) : quo out (92 :: d :: r) = if 32 ≤ d.toNat ∧ d.toNat ≤ 126 then quo (out ++ [d]) r else none := by rw [quo.eq_def]; simp
theorem quo_c (out : B) (c : UInt8) (r : B) (h : c ≠ 34) (h2 : c = 92 → r = []) : quo out (c :: r) = if 32 ≤ c.toNat ∧ c.toNat ≤ 126 then quo (out ++ [c]) r else none := by
  rw [quo.eq_def]
  simp only [h, if_false]
  split
  · exact absurd (h2 rfl) (by simp)
  · rfl
section
variable (T K : UInt8 → Bool) (f : UInt8 → UInt8)
def mainOk (m : B) : Bool := tokQ T (Lib.cut m [47]).1 && (!(Lib.cut m [47]).2.2 || tokQ T (Lib.cut m [47]).2.1)
def parsGo (out : List (B × B)) (s : B) : Option (List (B × B)) :=
  match s with
  | [] => some out
  | _ :: r => match h : parR T K r with
    | none => none
    | some ((n, v), r') => parsGo (out ++ [(n.map f, v)]) r'
termination_by s.length
decreasing_by
  have := (parR_len h).1
  simp only [List.length_cons]; omega
theorem parsGo_nil (out : List (B × B)) : parsGo T K f out [] = some out := by rw [parsGo]
theorem parsGo_none {out : List (B × B)} {c : UInt8} {r : B} (h : parR T K r = none) : parsGo T K f out (c :: r) = none := by
  rw [parsGo]; split
  · rfl
  · rename_i h'; rw [h] at h'; cases h'
theorem parsGo_some {out : List (B × B)} {c : UInt8} {r n v r' : B} (h : parR T K r = some ((n, v), r')) : parsGo T K f out (c :: r) = parsGo T K f (out ++ [(n.map f, v)]) r' := by
  rw [parsGo]; split
  · rename_i h'; rw [h] at h'; cases h'
  · rename_i h'; rw [h] at h'; cases h'; rfl
def restOf (s : B) : B := s.dropWhile (· != 59)
def mainOf (s : B) : B := (Lib.trimS (s.takeWhile (· != 59)) [32, 9]).map f
def readK (s : B) : Option (B × List (B × B)) :=
  if mainOk T (mainOf f s) = true then
    match parsGo T K f [] (restOf s) with
    | none => none
    | some l => some (mainOf f s, l)
  else none
inductive KRes where
  | ok (s : B)
  | bad (n : Int)
end
theorem index_cut (s : B) (c : UInt8) : (s.any (· == c) = true → Lib.index s [c] = ((s.takeWhile (· != c)).length : Int)) ∧ (s.any (· == c) = false → Lib.index s [c] = -1) := by
  have h := cut1 c s
  unfold Lib.cut at h
  have hge := Lib.index_ge s [c]
  constructor
  · intro ha
    rw [ha] at h
    split at h
    · rename_i h0
      simp only [Prod.mk.injEq] at h
      have h1 := congrArg List.length h.1
      have h2 := Lib.index_le s [c]
      rw [List.length_take] at h1
      omega
    · simp at h
  · intro ha
    rw [ha] at h
    split at h
    · simp at h
    · omega
theorem splitK_one (c : UInt8) : ∀ (fuel : Nat) (s : B), s.length < fuel → ∀ k, Lib.countFrom [c] fuel s ≤ k → Lib.splitK [c] 0 k s = if s.any (· == c) = true then s.takeWhile (· != c) :: Lib.splitK [c] 0 k ((s.dropWhile (· != c)).drop 1) else [s]
  | fuel, s, hf, k, hk => by
    cases ha : s.any (· == c) with
    | false =>
      rw [if_neg (by simp)]
      have h1 := (index_cut s c).2 ha
      cases k with
      | zero => rfl
      | succ k => rw [Lib.splitK, if_pos (by simp [h1])]
    | true =>
      rw [if_pos rfl]
      have h1 := (index_cut s c).1 ha
      have hsub : (s.dropWhile (· != c)).drop 1 = s.drop ((s.takeWhile (· != c)).length + 1) := by
        rw [← (take_span (· != c) s).2, List.drop_drop]
      have hlen : (s.takeWhile (· != c)).length < s.length := by
        have h2 := congrArg List.length (List.takeWhile_append_dropWhile (p := (· != c)) (l := s))
        rw [List.length_append] at h2
        have h3 : s.dropWhile (· != c) ≠ [] := by
          intro h4
          have h5 := (List.takeWhile_append_dropWhile (p := (· != c)) (l := s))
          rw [h4, List.append_nil] at h5
          obtain ⟨x, hx, hxc⟩ := List.any_eq_true.1 ha
          rw [← h5] at hx
          have := (List.all_eq_true.1 (List.all_takeWhile (p := (· != c)) (l := s))) x hx
          simp at this hxc
          exact this hxc
        have := List.length_pos_iff.2 h3
        omega
      cases fuel with
      | zero => omega
      | succ fuel =>
        rw [Lib.countFrom, if_neg (by rw [h1]; simp), h1] at hk
        simp only [Int.toNat_natCast, List.length_cons, List.length_nil, Nat.zero_add] at hk
        cases k with
        | zero => omega
        | succ k =>
          rw [Lib.splitK, if_neg (by rw [h1]; simp), h1]
          simp only [Int.toNat_natCast, List.length_cons, List.length_nil, Nat.zero_add, Nat.add_zero, (take_span (· != c) s).1, hsub]
          congr 1
          -- one more cut allowed changes nothing
          have key : ∀ (fuel : Nat) (s : B), s.length < fuel → ∀ k, Lib.countFrom [c] fuel s ≤ k → Lib.splitK [c] 0 k s = Lib.splitK [c] 0 (k + 1) s := by
            intro fuel
            induction fuel with
            | zero => intro s h; omega
            | succ fuel ih =>
              intro s hs k hk
              have hge := Lib.index_ge s [c]
              rw [Lib.countFrom] at hk
              by_cases hi : Lib.index s [c] = -1
              · rw [Lib.splitK, if_pos (by simp [hi])]
                cases k with
                | zero => rfl
                | succ k => rw [Lib.splitK, if_pos (by simp [hi])]
              · rw [if_neg (by simpa using hi)] at hk
                cases k with
                | zero => omega
                | succ k =>
                  rw [Lib.splitK, if_neg (by simpa using hi), Lib.splitK, if_neg (by simpa using hi)]
                  congr 1
                  refine ih _ ?_ k (by omega)
                  rw [List.length_drop]
                  cases s with
                  | nil => simp [Lib.index] at hi
                  | cons a l => simp only [List.length_cons] at hs ⊢; omega
          refine key fuel _ ?_ k (by omega)
          rw [List.length_drop]; omega
theorem split_one (c : UInt8) (s : B) : Lib.split s [c] = if s.any (· == c) = true then s.takeWhile (· != c) :: Lib.split ((s.dropWhile (· != c)).drop 1) [c] else [s] := by
  unfold Lib.split Lib.count
  rw [splitK_one c (s.length + 1) s (by omega) _ (Nat.le_refl _)]
  split
  · congr 1
    rename_i ha
    -- the counts agree with any that is enough
    have key : ∀ (fuel : Nat) (s : B), s.length < fuel → ∀ k k', Lib.countFrom [c] fuel s ≤ k → Lib.countFrom [c] fuel s ≤ k' → Lib.splitK [c] 0 k s = Lib.splitK [c] 0 k' s := by
      intro fuel
      induction fuel with
      | zero => intro s h; omega
      | succ fuel ih =>
        intro s hs k k' hk hk'
        have hge := Lib.index_ge s [c]
        rw [Lib.countFrom] at hk hk'
        by_cases hi : Lib.index s [c] = -1
        · cases k <;> cases k' <;> simp [Lib.splitK, hi]
        · rw [if_neg (by simpa using hi)] at hk hk'
          cases k with
          | zero => omega
          | succ k =>
            cases k' with
            | zero => omega
            | succ k' =>
              rw [Lib.splitK, if_neg (by simpa using hi), Lib.splitK, if_neg (by simpa using hi)]
              congr 1
              refine ih _ ?_ k k' (by omega) (by omega)
              rw [List.length_drop]
              cases s with
              | nil => simp [Lib.index] at hi
              | cons a l => simp only [List.length_cons] at hs ⊢; omega
    have hcount : Lib.countFrom [c] (((s.dropWhile (· != c)).drop 1).length + 1) ((s.dropWhile (· != c)).drop 1) ≤ Lib.countFrom [c] (s.length + 1) s := by
      have h1 := (index_cut s c).1 ha
      have hsub : (s.dropWhile (· != c)).drop 1 = s.drop ((s.takeWhile (· != c)).length + 1) := by
        rw [← (take_span (· != c) s).2, List.drop_drop]
      have mono : ∀ (f1 f2 : Nat) (x : B), x.length < f1 → x.length < f2 → Lib.countFrom [c] f1 x = Lib.countFrom [c] f2 x := by
        intro f1
        induction f1 with
        | zero => intro f2 x h; omega
        | succ f1 ih =>
          intro f2 x h h'
          cases f2 with
          | zero => omega
          | succ f2 =>
            rw [Lib.countFrom, Lib.countFrom]
            split
            · rfl
            · rename_i hi
              congr 1
              refine ih f2 _ ?_ ?_
              all_goals
                rw [List.length_drop]
                cases x with
                | nil => simp [Lib.index] at hi
                | cons a l => simp only [List.length_cons] at h h' ⊢; omega
      rw [Lib.countFrom.eq_2 (fuel := s.length), if_neg (by rw [h1]; simp), h1]
      simp only [Int.toNat_natCast, List.length_cons, List.length_nil, Nat.zero_add, ← hsub]
      have hl : ((s.dropWhile (· != c)).drop 1).length < s.length := by
        obtain ⟨x, hx, _⟩ := List.any_eq_true.1 ha
        have h0 : 0 < s.length := List.length_pos_iff.2 (List.ne_nil_of_mem hx)
        rw [hsub, List.length_drop]; omega
      rw [mono _ s.length ((s.dropWhile (· != c)).drop 1) (by omega) hl]
      omega
    refine key (((s.dropWhile (· != c)).drop 1).length + 1) _ (by omega) _ _ hcount (Nat.le_refl _)
  · rfl
theorem split_ne (c : UInt8) (s : B) : Lib.split s [c] ≠ [] := by
  rw [split_one]; split <;> simp
section
variable {T K : UInt8 → Bool} {f : UInt8 → UInt8}
theorem main_split (h : TK T K) (m : B) : mainOk T m = (decide ((Lib.split m [47]).length ≤ 2) && (tokQ T ((Lib.split m [47]).getD 0 []) && tokQ T ((Lib.split m [47]).getD ((Lib.split m [47]).length - 1) []))) := by
  unfold mainOk
  rw [split_one, cut1]
  cases ha : m.any (· == 47) with
  | false =>
    have e : m.takeWhile (· != 47) = m := by
      have h5 := (List.takeWhile_append_dropWhile (p := (· != (47 : UInt8))) (l := m))
      cases hd : m.dropWhile (· != 47) with
      | nil => rw [hd, List.append_nil] at h5; exact h5
      | cons x r =>
        have := dw_head_not _ _ _ _ hd
        exfalso
        rw [List.any_eq_false] at ha
        have hx := ha x (by rw [← h5, hd]; simp)
        simp at this hx
        exact hx this
    rw [e]
    simp
  | true =>
    simp only [if_pos, Bool.not_true, Bool.false_or]
    rw [split_one 47 ((m.dropWhile (· != 47)).drop 1)]
    generalize (m.dropWhile (· != 47)).drop 1 = b
    cases hb : b.any (· == 47) with
    | false => simp
    | true =>
      have : tokQ T b = false := by
        cases ht : tokQ T b with
        | false => rfl
        | true =>
          obtain ⟨x, hx, hx2⟩ := List.any_eq_true.1 hb
          have := (tokQ_iff.1 ht).2 x hx
          have e : x = 47 := by simpa using hx2
          rw [e, h.t47] at this
          cases this
      rw [this, Bool.and_false]
      have hn := split_ne 47 ((b.dropWhile (· != 47)).drop 1)
      have hp := List.length_pos_iff.2 hn
      simp only [if_pos, List.length_cons]
      rw [decide_eq_false (by omega)]
      rfl
structure TF (T : UInt8 → Bool) (f : UInt8 → UInt8) : Prop where
  tok : ∀ c, T c = true → T (f c) = true
  idem : ∀ c, f (f c) = f c
  vis : ∀ c, T c = true → 32 ≤ c.toNat ∧ c.toNat ≤ 126
  f47 : ∀ c, f c = 47 ↔ c = 47
end
end Go.Proofs.YtignjjnflcpiiabGreatDoor
