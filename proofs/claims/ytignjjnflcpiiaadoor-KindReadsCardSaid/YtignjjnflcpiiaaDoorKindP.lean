/- A value with parameters, in plain lists: the program's way and the document's come to one function. -/
import Derived.Test.YtignjjnflcpiiaaDoorTextPlain
import Derived.Lib.IndexAny
set_option linter.unusedVariables false
set_option linter.unusedSimpArgs false
namespace Go.Proofs.YtignjjnflcpiiaaDoor

theorem cut1 (c : UInt8) : ∀ s : B, Lib.cut s [c] = (s.takeWhile (· != c), (s.dropWhile (· != c)).drop 1, s.any (· == c))
  | [] => by simp [Lib.cut, Lib.index]
  | b :: l => by
    have ih := cut1 c l
    have hge := Lib.index_ge l [c]
    by_cases hb : b = c
    · subst hb
      simp [Lib.cut, Lib.index, List.isPrefixOf]
    · have h1 : ([c] : B).isPrefixOf (b :: l) = false := by simp [List.isPrefixOf, Ne.symm hb]
      have h2 : (b != c) = true := by simpa using hb
      have h3 : (b == c) = false := by simpa using hb
      have hi : Lib.index (b :: l) [c] = if Lib.index l [c] == -1 then -1 else Lib.index l [c] + 1 := by rw [Lib.index, h1]; rfl
      unfold Lib.cut at ih ⊢
      rw [List.takeWhile_cons, if_pos h2, List.dropWhile_cons, if_pos h2, List.any_cons, h3, Bool.false_or]
      by_cases h4 : Lib.index l [c] = -1
      · rw [if_pos (by simp [h4])] at hi
        rw [hi, if_neg (by omega)]
        rw [h4, if_neg (by omega)] at ih
        simp only [Prod.mk.injEq] at ih ⊢
        exact ⟨by rw [← ih.1], ih.2.1, ih.2.2⟩
      · rw [if_neg (by simpa using h4)] at hi
        rw [hi, if_pos (by omega)]
        rw [if_pos (by omega)] at ih
        simp only [Prod.mk.injEq, List.length_cons, List.length_nil] at ih ⊢
        have e : (Lib.index l [c] + 1).toNat = (Lib.index l [c]).toNat + 1 := by omega
        rw [e, List.take_succ_cons]
        refine ⟨by rw [ih.1], ?_, ih.2.2⟩
        rw [← ih.2.1]
        rfl

section
variable (T K : UInt8 → Bool)
def rtrim (s : B) : B := (s.reverse.dropWhile K).reverse
def tokQ (s : B) : Bool := s.all T && !s.isEmpty
structure TK : Prop where
  t59 : T 59 = false
  t61 : T 61 = false
  t34 : T 34 = false
  t47 : T 47 = false
  k : ∀ c, K c = decide (c = 32 ∨ c = 9)
  t32 : T 32 = false
  t9 : T 9 = false
/-- a name, and what stands behind = -/
def nameP (s : B) : Option (B × B) := if (Lib.cut s [61]).2.2 = true ∧ tokQ T (rtrim K (Lib.cut s [61]).1) = true then some (rtrim K (Lib.cut s [61]).1, (Lib.cut s [61]).2.1) else none
def nameR (s : B) : Option (B × B) := match (s.dropWhile T).dropWhile K with
  | 61 :: r => if (s.takeWhile T).isEmpty then none else some (s.takeWhile T, r)
  | _ => none
/-- what stands in quotes, behind the first one -/
def quo (out : B) : B → Option (B × B)
  | [] => none
  | c :: r => if c = 34 then some (out, r) else
    match c, r with
    | 92, d :: r' => if 32 ≤ d.toNat ∧ d.toNat ≤ 126 then quo (out ++ [d]) r' else none
    | c, r => if 32 ≤ c.toNat ∧ c.toNat ≤ 126 then quo (out ++ [c]) r else none
/-- what is said: a token, or what stands in quotes; and the rest -/
def saidP (s : B) : Option (B × B) := match s with
  | 34 :: r => quo [] r
  | s => if tokQ T (s.take (if Lib.indexAny s [59, 32, 9] < 0 then s.length else (Lib.indexAny s [59, 32, 9]).toNat)) = true then
      some (s.take (if Lib.indexAny s [59, 32, 9] < 0 then s.length else (Lib.indexAny s [59, 32, 9]).toNat), s.drop (if Lib.indexAny s [59, 32, 9] < 0 then s.length else (Lib.indexAny s [59, 32, 9]).toNat)) else none
def saidR (s : B) : Option (B × B) := match s with
  | 34 :: r => quo [] r
  | s => if (s.takeWhile T).isEmpty then none else some (s.takeWhile T, s.dropWhile T)
def ends (s : B) : Bool := match s with
  | [] => true
  | c :: _ => c == 59
def thenEnd : Option (B × B) → Option (B × B)
  | none => none
  | some (v, r) => if ends (r.dropWhile K) = true then some (v, r.dropWhile K) else none
/-- a parameter behind its ; and the rest, which is empty or begins with ; -/
def parP (s : B) : Option ((B × B) × B) := match nameP T K (s.dropWhile K) with
  | none => none
  | some (n, left) => match thenEnd K (saidP T (left.dropWhile K)) with
    | none => none
    | some (v, r) => some ((n, v), r)
def parR (s : B) : Option ((B × B) × B) := match nameR T K (s.dropWhile K) with
  | none => none
  | some (n, left) => match thenEnd K (saidR T (left.dropWhile K)) with
    | none => none
    | some (v, r) => some ((n, v), r)

theorem indexAny_span (cs : B) : ∀ s : B, (if Lib.indexAny s cs < 0 then s.length else (Lib.indexAny s cs).toNat) = (s.takeWhile (fun c => !cs.contains c)).length
  | [] => by simp [Lib.indexAny]
  | b :: l => by
    have ih := indexAny_span cs l
    have hge := Lib.indexAny_ge cs l
    cases hb : cs.contains b with
    | true =>
      rw [List.takeWhile_cons, hb]
      have hi : Lib.indexAny (b :: l) cs = 0 := by rw [Lib.indexAny, if_pos hb]
      rw [hi]; rfl
    | false =>
      rw [List.takeWhile_cons, hb]
      have hi : Lib.indexAny (b :: l) cs = if Lib.indexAny l cs == -1 then -1 else Lib.indexAny l cs + 1 := by rw [Lib.indexAny, hb]; rfl
      rw [Bool.not_false, if_pos rfl, List.length_cons, List.length_cons, ← ih]
      by_cases h : Lib.indexAny l cs = -1
      · rw [if_pos (by simp [h])] at hi
        rw [hi, h]; rfl
      · rw [if_neg (by simpa using h)] at hi
        rw [hi, if_neg (by omega), if_neg (by omega)]
        omega
theorem take_span (p : UInt8 → Bool) : ∀ s : B, s.take (s.takeWhile p).length = s.takeWhile p ∧ s.drop (s.takeWhile p).length = s.dropWhile p
  | [] => ⟨rfl, rfl⟩
  | b :: l => by
    have ih := take_span p l
    rw [List.takeWhile_cons, List.dropWhile_cons]
    cases p b <;> simp [ih]
theorem dw_head_not (p : UInt8 → Bool) : ∀ (s : B) (c : UInt8) (r : B), s.dropWhile p = c :: r → p c = false
  | b :: l, c, r, h => by
    rw [List.dropWhile_cons] at h
    cases hb : p b with
    | true => rw [hb] at h; exact dw_head_not p l c r h
    | false => rw [hb] at h; simp only [Bool.false_eq_true, if_false, List.cons.injEq] at h; rw [← h.1]; exact hb
theorem span_of (p : UInt8 → Bool) (a : B) (ha : ∀ c ∈ a, p c = true) : ∀ q : B, (∀ c r, q = c :: r → p c = false) → (a ++ q).takeWhile p = a ∧ (a ++ q).dropWhile p = q := by
  induction a with
  | nil =>
    intro q hq
    cases q with
    | nil => exact ⟨rfl, rfl⟩
    | cons c r => simp [hq c r rfl]
  | cons b a ih =>
    intro q hq
    have hb := ha b List.mem_cons_self
    have := ih (fun c hc => ha c (List.mem_cons_of_mem _ hc)) q hq
    simp [hb, this]
theorem rtrim_of {t k : B} (hk : ∀ c ∈ k, K c = true) (ht : ∀ c ∈ t, K c = false) : rtrim K (t ++ k) = t := by
  unfold rtrim
  rw [List.reverse_append, (span_of K k.reverse (fun c hc => hk c (List.mem_reverse.1 hc)) t.reverse (fun c r h => ht c (List.mem_reverse.1 (h ▸ List.mem_cons_self)))).2, List.reverse_reverse]
theorem rtrim_split (s : B) : ∃ k, s = rtrim K s ++ k ∧ ∀ c ∈ k, K c = true := by
  refine ⟨(s.reverse.takeWhile K).reverse, ?_, fun c hc => ?_⟩
  · unfold rtrim
    rw [← List.reverse_append, List.takeWhile_append_dropWhile, List.reverse_reverse]
  · have := List.mem_reverse.1 hc
    exact (List.all_eq_true.1 (List.all_takeWhile (p := K) (l := s.reverse))) c this
end

section
variable {T K : UInt8 → Bool}
theorem TK.kT (h : TK T K) {c : UInt8} (hc : K c = true) : T c = false := by
  rw [h.k] at hc
  rcases of_decide_eq_true hc with rfl | rfl
  · exact h.t32
  · exact h.t9
theorem TK.k61 (h : TK T K) : K 61 = false := by rw [h.k]; decide
theorem TK.k59 (h : TK T K) : K 59 = false := by rw [h.k]; decide
theorem tokQ_iff {s : B} : tokQ T s = true ↔ s ≠ [] ∧ ∀ c ∈ s, T c = true := by
  unfold tokQ
  cases s <;> simp
theorem name_eq (h : TK T K) (s : B) : nameP T K s = nameR T K s := by
  unfold nameP nameR
  rw [cut1]
  simp only
  have hs := List.takeWhile_append_dropWhile (p := (· != (61 : UInt8))) (l := s)
  have ha : ∀ c ∈ s.takeWhile (· != (61 : UInt8)), c ≠ 61 := fun c hc => by
    have := (List.all_eq_true.1 (List.all_takeWhile (p := (· != (61 : UInt8))) (l := s))) c hc
    simpa using this
  generalize hA : s.takeWhile (· != (61 : UInt8)) = a at hs ha
  cases hd : s.dropWhile (· != (61 : UInt8)) with
  | nil =>
    rw [hd, List.append_nil] at hs
    subst hs
    have h1 : (a.any fun x => x == 61) = false := by
      rw [List.any_eq_false]
      intro c hc
      simpa using ha c hc
    rw [h1]
    simp only [Bool.false_eq_true, false_and, if_false]
    split
    · rename_i r hr
      exfalso
      have : (61 : UInt8) ∈ a := (List.dropWhile_sublist T).subset ((List.dropWhile_sublist K).subset (hr ▸ List.mem_cons_self))
      exact ha _ this rfl
    · rfl
  | cons c d =>
    have hc := dw_head_not _ _ _ _ hd
    have hc : c = 61 := by simpa using hc
    subst hc
    rw [hd] at hs
    have h1 : (s.any fun x => x == 61) = true := by
      rw [← hs]; simp
    rw [h1]
    simp only [true_and, List.drop_succ_cons, List.drop_zero]
    obtain ⟨k, hk, hkk⟩ := rtrim_split K a
    by_cases ht : tokQ T (rtrim K a) = true
    · rw [if_pos ht]
      obtain ⟨t0, t1⟩ := tokQ_iff.1 ht
      have e : s = rtrim K a ++ (k ++ 61 :: d) := by rw [← List.append_assoc, ← hk, hs]
      obtain ⟨e1, e2⟩ := span_of T (rtrim K a) t1 (k ++ 61 :: d) (fun c r he => by
        cases k with
        | nil => simp only [List.nil_append, List.cons.injEq] at he; rw [← he.1]; exact h.t61
        | cons x k => simp only [List.cons_append, List.cons.injEq] at he; rw [← he.1]; exact h.kT (hkk x List.mem_cons_self))
      have e3 := (span_of K k hkk (61 :: d) (fun c r he => by simp only [List.cons.injEq] at he; rw [← he.1]; exact h.k61)).2
      rw [← e] at e1 e2
      rw [e2, e3, e1]
      simp [t0]
    · rw [if_neg ht]
      split
      · rename_i r hr
        split
        · rfl
        · rename_i hne
          exfalso
          apply ht
          -- s = t ++ k' ++ 61 :: r
          have p1 := List.takeWhile_append_dropWhile (p := T) (l := s)
          have p2 := List.takeWhile_append_dropWhile (p := K) (l := s.dropWhile T)
          rw [hr] at p2
          rw [← p2] at p1
          have q1 : ∀ c ∈ s.takeWhile T, T c = true := fun c hc => (List.all_eq_true.1 (List.all_takeWhile (p := T) (l := s))) c hc
          have q2 : ∀ c ∈ (s.dropWhile T).takeWhile K, K c = true := fun c hc => (List.all_eq_true.1 (List.all_takeWhile (p := K) (l := s.dropWhile T))) c hc
          generalize s.takeWhile T = t at p1 q1 hne
          generalize (s.dropWhile T).takeWhile K = k' at p1 q2
          have e1 : a = t ++ k' := by
            have := (span_of (· != (61 : UInt8)) (t ++ k') (fun c hc => by
              rcases List.mem_append.1 hc with hc | hc
              · have := q1 c hc
                simp only [bne_iff_ne, ne_eq]
                rintro rfl
                rw [h.t61] at this; cases this
              · have := q2 c hc
                simp only [bne_iff_ne, ne_eq]
                rintro rfl
                rw [h.k61] at this; cases this) (61 :: r) (fun c r he => by simp only [List.cons.injEq] at he; rw [← he.1]; rfl)).1
            rw [List.append_assoc, p1, hA] at this
            exact this
          have e2 : rtrim K a = t := by
            rw [e1]
            exact rtrim_of K q2 (fun c hc => by
              cases hkc : K c with
              | false => rfl
              | true =>
                have := h.kT hkc
                rw [q1 c hc] at this; cases this)
          rw [e2, tokQ_iff]
          exact ⟨fun he => by rw [he] at hne; exact hne rfl, q1⟩
      · rfl
theorem said_eq (h : TK T K) (s : B) : thenEnd K (saidP T s) = thenEnd K (saidR T s) := by
  unfold saidP saidR
  split
  · rfl
  · rw [indexAny_span, (take_span _ s).1, (take_span _ s).2]
    have hs := List.takeWhile_append_dropWhile (p := fun c => !([59, 32, 9] : B).contains c) (l := s)
    have hp : ∀ c ∈ s.takeWhile (fun c => !([59, 32, 9] : B).contains c), c ≠ 59 ∧ K c = false := fun c hc => by
      have := (List.all_eq_true.1 (List.all_takeWhile (p := fun c => !([59, 32, 9] : B).contains c) (l := s))) c hc
      rw [h.k]
      simpa using this
    have hq : ∀ c r, s.dropWhile (fun c => !([59, 32, 9] : B).contains c) = c :: r → T c = false := fun c r he => by
      have := dw_head_not _ _ _ _ he
      have : c = 59 ∨ c = 32 ∨ c = 9 := by
        have h5 : ¬ c = 59 → ¬ c = 32 → c = 9 := by simpa using this
        by_cases e1 : c = 59
        · exact .inl e1
        by_cases e2 : c = 32
        · exact .inr (.inl e2)
        · exact .inr (.inr (h5 e1 e2))
      rcases this with rfl | rfl | rfl
      · exact h.t59
      · exact h.t32
      · exact h.t9
    generalize s.takeWhile (fun c => !([59, 32, 9] : B).contains c) = p at hs hp
    generalize s.dropWhile (fun c => !([59, 32, 9] : B).contains c) = q at hs hq
    subst hs
    by_cases ht : tokQ T p = true
    · obtain ⟨t0, t1⟩ := tokQ_iff.1 ht
      obtain ⟨e1, e2⟩ := span_of T p t1 q hq
      rw [if_pos ht, e1, e2]
      cases p with
      | nil => exact absurd rfl t0
      | cons x p => rfl
    · rw [if_neg ht]
      split
      · rfl
      · rename_i hne
        have p1 := List.takeWhile_append_dropWhile (p := T) (l := p)
        have q1 : ∀ c ∈ p.takeWhile T, T c = true := fun c hc => (List.all_eq_true.1 (List.all_takeWhile (p := T) (l := p))) c hc
        cases hd : p.dropWhile T with
        | nil =>
          exfalso
          rw [hd, List.append_nil] at p1
          rw [p1] at q1
          have := (span_of T p q1 q hq).1
          rw [this] at hne
          exact ht (tokQ_iff.2 ⟨fun e => hne (by rw [e]; rfl), q1⟩)
        | cons x r =>
          have hx := dw_head_not _ _ _ _ hd
          rw [hd] at p1
          obtain ⟨e1, e2⟩ := span_of T (p.takeWhile T) q1 (x :: r ++ q) (fun c r' he => by simp only [List.cons_append, List.cons.injEq] at he; rw [← he.1]; exact hx)
          rw [← List.append_assoc, p1] at e1 e2
          have hxm : x ∈ p := by rw [← p1]; simp
          obtain ⟨n1, n2⟩ := hp x hxm
          rw [e2]
          unfold thenEnd
          have e3 : (x :: r ++ q).dropWhile K = x :: r ++ q := by simp [n2]
          simp only
          rw [e3, if_neg]
          simp [ends, n1]
theorem par_eq (h : TK T K) (s : B) : parP T K s = parR T K s := by
  unfold parP parR
  rw [name_eq h]
  cases nameR T K (s.dropWhile K) with
  | none => rfl
  | some x => simp only; rw [said_eq h]
theorem dw_le (p : UInt8 → Bool) (s : B) : (s.dropWhile p).length ≤ s.length := (List.dropWhile_sublist p).length_le
theorem nameR_lt {s : B} {n left : B} (h : nameR T K s = some (n, left)) : left.length < s.length ∧ n.length ≤ s.length := by
  unfold nameR at h
  split at h
  · rename_i r hr
    split at h
    · cases h
    · cases h
      have h1 := dw_le K (s.dropWhile T)
      have h2 := dw_le T s
      rw [hr] at h1
      simp only [List.length_cons] at h1
      exact ⟨by omega, (List.takeWhile_sublist T).length_le⟩
  · cases h
theorem quo_len (out : B) (s : B) : ∀ v r, quo out s = some (v, r) → r.length < s.length ∧ v.length + r.length < out.length + s.length := by
  fun_induction quo out s with
  | case1 => intro v r h; cases h
  | case2 => intro v r' h; cases h; simp only [List.length_cons]; omega
  | case3 out d r hc hd ih =>
    intro v r' h
    have := ih v r' h
    simp only [List.length_append, List.length_cons, List.length_nil] at this ⊢
    omega
  | case4 => intro v r h; cases h
  | case5 out c r hc hne hd ih =>
    intro v r' h
    have := ih v r' h
    simp only [List.length_append, List.length_cons, List.length_nil] at this ⊢
    omega
  | case6 => intro v r h; cases h
theorem saidR_len {s v r : B} (h : saidR T s = some (v, r)) : v.length + r.length ≤ s.length := by
  unfold saidR at h
  split at h
  · have := quo_len _ _ _ _ h
    simp at this ⊢; omega
  · split at h
    · cases h
    · cases h
      have := congrArg List.length (List.takeWhile_append_dropWhile (p := T) (l := s))
      rw [List.length_append] at this
      omega
theorem parR_len {s n v r : B} (h : parR T K s = some ((n, v), r)) : r.length < s.length ∧ n.length ≤ s.length ∧ v.length + r.length ≤ s.length ∧ ends r = true := by
  unfold parR at h
  have h0 := dw_le K s
  split at h
  · cases h
  · rename_i n' left hn
    have h1 := nameR_lt hn
    have h2 := dw_le K left
    split at h
    · cases h
    · rename_i v' r' hv
      cases h
      unfold thenEnd at hv
      split at hv
      · cases hv
      · rename_i v2 r2 hs
        split at hv
        · cases hv
          have h3 := saidR_len hs
          have h4 := dw_le K r2
          exact ⟨by omega, by omega, by omega, ‹_›⟩
        · cases hv
end
end Go.Proofs.YtignjjnflcpiiaaDoor
