/- A value with parameters, in plain lists: the main value, the whole reading and writing, and that what is written reads as it was. -/
import Derived.Test.YtignjjnflcpiiaaDoorKindP
import Derived.Lib.SplitLaws
set_option linter.unusedVariables false
set_option linter.unusedSimpArgs false
namespace Go.Proofs.YtignjjnflcpiiaaDoor

theorem quo_q (out r : B) : quo out (34 :: r) = some (out, r) := by rw [quo.eq_def]; simp
theorem quo_e (out : B) (d : UInt8) (r : B) : quo out (92 :: d :: r) = if 32 ≤ d.toNat ∧ d.toNat ≤ 126 then quo (out ++ [d]) r else none := by rw [quo.eq_def]; simp
theorem quo_c (out : B) (c : UInt8) (r : B) (h : c ≠ 34) (h2 : c = 92 → r = []) : quo out (c :: r) = if 32 ≤ c.toNat ∧ c.toNat ≤ 126 then quo (out ++ [c]) r else none := by
  rw [quo.eq_def]
  simp only [h, if_false]
  split
  · exact absurd (h2 rfl) (by simp)
  · rfl

section
variable (T K : UInt8 → Bool) (f : UInt8 → UInt8)
/-- a token, or two with / between -/
def mainOk (m : B) : Bool := tokQ T (Lib.cut m [47]).1 && (!(Lib.cut m [47]).2.2 || tokQ T (Lib.cut m [47]).2.1)
/-- the parameters: out what is read, s what is left, empty or from a ; on -/
def parsGo (out : List (B × B)) (s : B) : Option (List (B × B)) :=
  match s with
  | [] => some out
  | _ :: r => match h : parR T K r with
    | none => none
    | some ((n, v), r') => parsGo (out ++ [(n.map f, v)]) r'
termination_by s.length
decreasing_by
  have := (parR_len h).1
  simp only [List.length_cons]; omega
theorem parsGo_nil (out : List (B × B)) : parsGo T K f out [] = some out := by rw [parsGo]
theorem parsGo_none {out : List (B × B)} {c : UInt8} {r : B} (h : parR T K r = none) : parsGo T K f out (c :: r) = none := by
  rw [parsGo]; split
  · rfl
  · rename_i h'; rw [h] at h'; cases h'
theorem parsGo_some {out : List (B × B)} {c : UInt8} {r n v r' : B} (h : parR T K r = some ((n, v), r')) : parsGo T K f out (c :: r) = parsGo T K f (out ++ [(n.map f, v)]) r' := by
  rw [parsGo]; split
  · rename_i h'; rw [h] at h'; cases h'
  · rename_i h'; rw [h] at h'; cases h'; rfl
def restOf (s : B) : B := s.dropWhile (· != 59)
def mainOf (s : B) : B := (Lib.trimS (s.takeWhile (· != 59)) [32, 9]).map f
def readK (s : B) : Option (B × List (B × B)) :=
  if mainOk T (mainOf f s) = true then
    match parsGo T K f [] (restOf s) with
    | none => none
    | some l => some (mainOf f s, l)
  else none

def okV (v : B) : Bool := v.all fun c => decide (32 ≤ c.toNat ∧ c.toNat ≤ 126)
def escC (c : UInt8) : B := if c = 34 ∨ c = 92 then [92, c] else [c]
def escV (v : B) : B := v.flatMap escC
def valW (v : B) : B := if tokQ T v = true then v else 34 :: (escV v ++ [34])
def okP (p : B × B) : Bool := tokQ T p.1 && (decide (p.1.map f = p.1) && okV p.2)
def parW (p : B × B) : B := 59 :: 32 :: (p.1 ++ 61 :: valW T p.2)
/-- what writing comes to: a text, or the number of the parameter that may not be (-1: the value) -/
inductive KRes where
  | ok (s : B)
  | bad (n : Int)
def writeKGo (n : Nat) (out : B) : List (B × B) → KRes
  | [] => .ok out
  | p :: r => match okP T f p with
    | true => writeKGo (n + 1) (out ++ parW T p) r
    | false => .bad n
def writeK (m : B) (l : List (B × B)) : KRes := match mainOk T m && decide (m.map f = m) with
  | true => writeKGo T f 0 m l
  | false => .bad (-1)
end

theorem countFrom_none {s : B} {c : UInt8} (h : Lib.index s [c] = -1) (fuel : Nat) : Lib.countFrom [c] fuel s = 0 := by
  cases fuel with
  | zero => rfl
  | succ k => rw [Lib.countFrom, if_pos (by simp [h])]
theorem index_cut (s : B) (c : UInt8) : (s.any (· == c) = true → Lib.index s [c] = ((s.takeWhile (· != c)).length : Int)) ∧ (s.any (· == c) = false → Lib.index s [c] = -1) := by
  have h := cut1 c s
  unfold Lib.cut at h
  have hge := Lib.index_ge s [c]
  constructor
  · intro ha
    rw [ha] at h
    split at h
    · rename_i h0
      simp only [Prod.mk.injEq] at h
      have h1 := congrArg List.length h.1
      have h2 := Lib.index_le s [c]
      rw [List.length_take] at h1
      omega
    · simp at h
  · intro ha
    rw [ha] at h
    split at h
    · simp at h
    · omega
theorem splitK_one (c : UInt8) : ∀ (fuel : Nat) (s : B), s.length < fuel → ∀ k, Lib.countFrom [c] fuel s ≤ k → Lib.splitK [c] 0 k s = if s.any (· == c) = true then s.takeWhile (· != c) :: Lib.splitK [c] 0 k ((s.dropWhile (· != c)).drop 1) else [s]
  | fuel, s, hf, k, hk => by
    cases ha : s.any (· == c) with
    | false =>
      rw [if_neg (by simp)]
      have h1 := (index_cut s c).2 ha
      cases k with
      | zero => rfl
      | succ k => rw [Lib.splitK, if_pos (by simp [h1])]
    | true =>
      rw [if_pos rfl]
      have h1 := (index_cut s c).1 ha
      have hsub : (s.dropWhile (· != c)).drop 1 = s.drop ((s.takeWhile (· != c)).length + 1) := by
        rw [← (take_span (· != c) s).2, List.drop_drop]
      have hlen : (s.takeWhile (· != c)).length < s.length := by
        have h2 := congrArg List.length (List.takeWhile_append_dropWhile (p := (· != c)) (l := s))
        rw [List.length_append] at h2
        have h3 : s.dropWhile (· != c) ≠ [] := by
          intro h4
          have h5 := (List.takeWhile_append_dropWhile (p := (· != c)) (l := s))
          rw [h4, List.append_nil] at h5
          obtain ⟨x, hx, hxc⟩ := List.any_eq_true.1 ha
          rw [← h5] at hx
          have := (List.all_eq_true.1 (List.all_takeWhile (p := (· != c)) (l := s))) x hx
          simp at this hxc
          exact this hxc
        have := List.length_pos_iff.2 h3
        omega
      cases fuel with
      | zero => omega
      | succ fuel =>
        rw [Lib.countFrom, if_neg (by rw [h1]; simp), h1] at hk
        simp only [Int.toNat_natCast, List.length_cons, List.length_nil, Nat.zero_add] at hk
        cases k with
        | zero => omega
        | succ k =>
          rw [Lib.splitK, if_neg (by rw [h1]; simp), h1]
          simp only [Int.toNat_natCast, List.length_cons, List.length_nil, Nat.zero_add, Nat.add_zero, (take_span (· != c) s).1, hsub]
          congr 1
          -- one more cut allowed changes nothing
          have key : ∀ (fuel : Nat) (s : B), s.length < fuel → ∀ k, Lib.countFrom [c] fuel s ≤ k → Lib.splitK [c] 0 k s = Lib.splitK [c] 0 (k + 1) s := by
            intro fuel
            induction fuel with
            | zero => intro s h; omega
            | succ fuel ih =>
              intro s hs k hk
              have hge := Lib.index_ge s [c]
              rw [Lib.countFrom] at hk
              by_cases hi : Lib.index s [c] = -1
              · rw [Lib.splitK, if_pos (by simp [hi])]
                cases k with
                | zero => rfl
                | succ k => rw [Lib.splitK, if_pos (by simp [hi])]
              · rw [if_neg (by simpa using hi)] at hk
                cases k with
                | zero => omega
                | succ k =>
                  rw [Lib.splitK, if_neg (by simpa using hi), Lib.splitK, if_neg (by simpa using hi)]
                  congr 1
                  refine ih _ ?_ k (by omega)
                  rw [List.length_drop]
                  cases s with
                  | nil => simp [Lib.index] at hi
                  | cons a l => simp only [List.length_cons] at hs ⊢; omega
          refine key fuel _ ?_ k (by omega)
          rw [List.length_drop]; omega
theorem split_one (c : UInt8) (s : B) : Lib.split s [c] = if s.any (· == c) = true then s.takeWhile (· != c) :: Lib.split ((s.dropWhile (· != c)).drop 1) [c] else [s] := by
  unfold Lib.split Lib.count
  rw [splitK_one c (s.length + 1) s (by omega) _ (Nat.le_refl _)]
  split
  · congr 1
    rename_i ha
    -- the counts agree with any that is enough
    have key : ∀ (fuel : Nat) (s : B), s.length < fuel → ∀ k k', Lib.countFrom [c] fuel s ≤ k → Lib.countFrom [c] fuel s ≤ k' → Lib.splitK [c] 0 k s = Lib.splitK [c] 0 k' s := by
      intro fuel
      induction fuel with
      | zero => intro s h; omega
      | succ fuel ih =>
        intro s hs k k' hk hk'
        have hge := Lib.index_ge s [c]
        rw [Lib.countFrom] at hk hk'
        by_cases hi : Lib.index s [c] = -1
        · cases k <;> cases k' <;> simp [Lib.splitK, hi]
        · rw [if_neg (by simpa using hi)] at hk hk'
          cases k with
          | zero => omega
          | succ k =>
            cases k' with
            | zero => omega
            | succ k' =>
              rw [Lib.splitK, if_neg (by simpa using hi), Lib.splitK, if_neg (by simpa using hi)]
              congr 1
              refine ih _ ?_ k k' (by omega) (by omega)
              rw [List.length_drop]
              cases s with
              | nil => simp [Lib.index] at hi
              | cons a l => simp only [List.length_cons] at hs ⊢; omega
    have hcount : Lib.countFrom [c] (((s.dropWhile (· != c)).drop 1).length + 1) ((s.dropWhile (· != c)).drop 1) ≤ Lib.countFrom [c] (s.length + 1) s := by
      have h1 := (index_cut s c).1 ha
      have hsub : (s.dropWhile (· != c)).drop 1 = s.drop ((s.takeWhile (· != c)).length + 1) := by
        rw [← (take_span (· != c) s).2, List.drop_drop]
      have mono : ∀ (f1 f2 : Nat) (x : B), x.length < f1 → x.length < f2 → Lib.countFrom [c] f1 x = Lib.countFrom [c] f2 x := by
        intro f1
        induction f1 with
        | zero => intro f2 x h; omega
        | succ f1 ih =>
          intro f2 x h h'
          cases f2 with
          | zero => omega
          | succ f2 =>
            rw [Lib.countFrom, Lib.countFrom]
            split
            · rfl
            · rename_i hi
              congr 1
              refine ih f2 _ ?_ ?_
              all_goals
                rw [List.length_drop]
                cases x with
                | nil => simp [Lib.index] at hi
                | cons a l => simp only [List.length_cons] at h h' ⊢; omega
      rw [Lib.countFrom.eq_2 (fuel := s.length), if_neg (by rw [h1]; simp), h1]
      simp only [Int.toNat_natCast, List.length_cons, List.length_nil, Nat.zero_add, ← hsub]
      have hl : ((s.dropWhile (· != c)).drop 1).length < s.length := by
        obtain ⟨x, hx, _⟩ := List.any_eq_true.1 ha
        have h0 : 0 < s.length := List.length_pos_iff.2 (List.ne_nil_of_mem hx)
        rw [hsub, List.length_drop]; omega
      rw [mono _ s.length ((s.dropWhile (· != c)).drop 1) (by omega) hl]
      omega
    refine key (((s.dropWhile (· != c)).drop 1).length + 1) _ (by omega) _ _ hcount (Nat.le_refl _)
  · rfl
theorem split_ne (c : UInt8) (s : B) : Lib.split s [c] ≠ [] := by
  rw [split_one]; split <;> simp

section
variable {T K : UInt8 → Bool} {f : UInt8 → UInt8}
/-- the document's way -/
theorem main_split (h : TK T K) (m : B) : mainOk T m = (decide ((Lib.split m [47]).length ≤ 2) && (tokQ T ((Lib.split m [47]).getD 0 []) && tokQ T ((Lib.split m [47]).getD ((Lib.split m [47]).length - 1) []))) := by
  unfold mainOk
  rw [split_one, cut1]
  cases ha : m.any (· == 47) with
  | false =>
    have e : m.takeWhile (· != 47) = m := by
      have h5 := (List.takeWhile_append_dropWhile (p := (· != (47 : UInt8))) (l := m))
      cases hd : m.dropWhile (· != 47) with
      | nil => rw [hd, List.append_nil] at h5; exact h5
      | cons x r =>
        have := dw_head_not _ _ _ _ hd
        exfalso
        rw [List.any_eq_false] at ha
        have hx := ha x (by rw [← h5, hd]; simp)
        simp at this hx
        exact hx this
    rw [e]
    simp
  | true =>
    simp only [if_pos, Bool.not_true, Bool.false_or]
    rw [split_one 47 ((m.dropWhile (· != 47)).drop 1)]
    generalize (m.dropWhile (· != 47)).drop 1 = b
    cases hb : b.any (· == 47) with
    | false => simp
    | true =>
      have : tokQ T b = false := by
        cases ht : tokQ T b with
        | false => rfl
        | true =>
          obtain ⟨x, hx, hx2⟩ := List.any_eq_true.1 hb
          have := (tokQ_iff.1 ht).2 x hx
          have e : x = 47 := by simpa using hx2
          rw [e, h.t47] at this
          cases this
      rw [this, Bool.and_false]
      have hn := split_ne 47 ((b.dropWhile (· != 47)).drop 1)
      have hp := List.length_pos_iff.2 hn
      simp only [if_pos, List.length_cons]
      rw [decide_eq_false (by omega)]
      rfl

structure TF (T : UInt8 → Bool) (f : UInt8 → UInt8) : Prop where
  tok : ∀ c, T c = true → T (f c) = true
  idem : ∀ c, f (f c) = f c
  vis : ∀ c, T c = true → 32 ≤ c.toNat ∧ c.toNat ≤ 126
  f47 : ∀ c, f c = 47 ↔ c = 47
theorem map_idem (hf : TF T f) (s : B) : (s.map f).map f = s.map f := by
  rw [List.map_map]
  exact List.map_congr_left fun c _ => hf.idem c
theorem tokQ_map (hf : TF T f) {s : B} (h : tokQ T s = true) : tokQ T (s.map f) = true := by
  obtain ⟨h1, h2⟩ := tokQ_iff.1 h
  refine tokQ_iff.2 ⟨by simpa using h1, fun c hc => ?_⟩
  obtain ⟨d, hd, rfl⟩ := List.mem_map.1 hc
  exact hf.tok d (h2 d hd)
theorem okV_tok (hf : TF T f) {s : B} (h : ∀ c ∈ s, T c = true) : okV s = true := List.all_eq_true.2 fun c hc => decide_eq_true (hf.vis c (h c hc))
theorem quo_vis (out s : B) : ∀ v r, okV out = true → quo out s = some (v, r) → okV v = true := by
  fun_induction quo out s with
  | case1 => intro v r ho h; cases h
  | case2 => intro v r' ho h; cases h; exact ho
  | case3 out d r hc hd ih =>
    intro v r' ho h
    exact ih v r' (by rw [okV, List.all_append, Bool.and_eq_true]; refine ⟨ho, ?_⟩; simp only [List.all_cons, List.all_nil, Bool.and_true, decide_eq_true_eq]; omega) h
  | case4 => intro v r ho h; cases h
  | case5 out c r hc hne hd ih =>
    intro v r' ho h
    exact ih v r' (by rw [okV, List.all_append, Bool.and_eq_true]; refine ⟨ho, ?_⟩; simp only [List.all_cons, List.all_nil, Bool.and_true, decide_eq_true_eq]; omega) h
  | case6 => intro v r ho h; cases h
theorem takeW_all (p : UInt8 → Bool) (s : B) : ∀ c ∈ s.takeWhile p, p c = true := fun c hc => (List.all_eq_true.1 (List.all_takeWhile (p := p) (l := s))) c hc
theorem parR_ok (hf : TF T f) {s n v r : B} (h : parR T K s = some ((n, v), r)) : okP T f (n.map f, v) = true := by
  unfold parR at h
  split at h
  · cases h
  · rename_i n' left hn
    split at h
    · cases h
    · rename_i v' r' hv
      cases h
      have h1 : tokQ T n = true := by
        unfold nameR at hn
        split at hn
        · split at hn
          · cases hn
          · rename_i hne
            cases hn
            exact tokQ_iff.2 ⟨fun e => hne (by rw [e]; rfl), takeW_all T _⟩
        · cases hn
      have h2 : okV v = true := by
        unfold thenEnd at hv
        split at hv
        · cases hv
        · rename_i v2 r2 hs
          split at hv
          · cases hv
            unfold saidR at hs
            split at hs
            · exact quo_vis _ _ _ _ rfl hs
            · split at hs
              · cases hs
              · cases hs
                exact okV_tok hf (takeW_all T _)
          · cases hv
      unfold okP
      rw [tokQ_map hf h1, map_idem hf]
      simp [h2]
theorem parsGo_ok (hf : TF T f) : ∀ (k : Nat) (s : B), s.length ≤ k → ∀ (out l : List (B × B)), (∀ p ∈ out, okP T f p = true) → parsGo T K f out s = some l → ∀ p ∈ l, okP T f p = true
  | k, [], _, out, l, ho, h => by rw [parsGo_nil] at h; cases h; exact ho
  | 0, c :: r, hk, _, _, _, _ => absurd hk (by simp)
  | k + 1, c :: r, hk, out, l, ho, h => by
    cases hp : parR T K r with
    | none => rw [parsGo_none T K f hp] at h; cases h
    | some x =>
      obtain ⟨⟨n, v⟩, r'⟩ := x
      rw [parsGo_some T K f hp] at h
      refine parsGo_ok hf k r' (by have := (parR_len hp).1; simp only [List.length_cons] at hk; omega) _ l (fun p hp' => ?_) h
      rcases List.mem_append.1 hp' with h1 | h1
      · exact ho p h1
      · rw [List.mem_singleton.1 h1]; exact parR_ok hf hp
theorem writeKGo_ok : ∀ (l : List (B × B)) (n : Nat) (out : B), (∀ p ∈ l, okP T f p = true) → writeKGo T f n out l = .ok (out ++ (l.map (parW T)).flatten)
  | [], n, out, _ => by simp [writeKGo]
  | p :: l, n, out, h => by
    rw [writeKGo, h p List.mem_cons_self, writeKGo_ok l (n + 1) _ (fun q hq => h q (List.mem_cons_of_mem _ hq))]
    simp
theorem writeKGo_inv : ∀ (l : List (B × B)) (n : Nat) (out t : B), writeKGo T f n out l = .ok t → (∀ p ∈ l, okP T f p = true) ∧ t = out ++ (l.map (parW T)).flatten
  | [], n, out, t, h => by cases h; simp
  | p :: l, n, out, t, h => by
    rw [writeKGo] at h
    cases hp : okP T f p with
    | false => rw [hp] at h; cases h
    | true =>
      rw [hp] at h
      obtain ⟨h1, h2⟩ := writeKGo_inv l (n + 1) _ t h
      refine ⟨fun q hq => ?_, by rw [h2]; simp⟩
      rcases List.mem_cons.1 hq with rfl | hq
      · exact hp
      · exact h1 q hq
/-- what reads, writes -/
theorem write_read (hf : TF T f) {s m : B} {l : List (B × B)} (h : readK T K f s = some (m, l)) : ∃ t, writeK T f m l = .ok t := by
  unfold readK at h
  split at h
  · rename_i hm
    split at h
    · cases h
    · rename_i l' hl
      cases h
      unfold writeK
      have : (mainOf f s).map f = mainOf f s := map_idem hf _
      rw [hm, this]
      simp only [decide_true, Bool.and_self]
      exact ⟨_, writeKGo_ok l 0 _ (parsGo_ok hf _ _ (Nat.le_refl _) [] l (fun p hp => by cases hp) hl)⟩
  · cases h
theorem quo_esc : ∀ (v out tail : B), okV v = true → quo out (escV v ++ 34 :: tail) = some (out ++ v, tail)
  | [], out, tail, _ => by rw [List.append_nil]; exact quo_q _ _
  | c :: v, out, tail, h => by
    rw [okV, List.all_cons, Bool.and_eq_true] at h
    have hc := of_decide_eq_true h.1
    have hv : okV v = true := h.2
    unfold escV
    rw [List.flatMap_cons, List.append_assoc]
    unfold escC
    by_cases he : c = 34 ∨ c = 92
    · rw [if_pos he]
      show quo out (92 :: c :: (escV v ++ 34 :: tail)) = _
      rw [quo_e, if_pos hc, quo_esc v (out ++ [c]) tail hv, List.append_assoc]
      rfl
    · rw [if_neg he]
      show quo out (c :: (escV v ++ 34 :: tail)) = _
      rw [quo_c out c _ (fun e => he (.inl e)) (fun e => absurd (.inr e) he), if_pos hc, quo_esc v (out ++ [c]) tail hv, List.append_assoc]
      rfl
theorem par_back (h : TK T K) {p : B × B} (hp : okP T f p = true) (tail : B) (ht : ends tail = true) : parR T K (32 :: (p.1 ++ 61 :: valW T p.2) ++ tail) = some (p, tail) := by
  obtain ⟨n, v⟩ := p
  simp only [okP, Bool.and_eq_true, decide_eq_true_eq] at hp
  obtain ⟨h1, h2, h3⟩ := hp
  obtain ⟨n0, n1⟩ := tokQ_iff.1 h1
  have hTK : ∀ c, T c = true → K c = false := fun c hc => by
    cases hk : K c with
    | false => rfl
    | true => have := h.kT hk; rw [hc] at this; cases this
  have htK : tail.dropWhile K = tail := by
    cases tail with
    | nil => rfl
    | cons c r =>
      have e : c = 59 := by simpa [ends] using ht
      rw [List.dropWhile_cons, e, h.k59]; rfl
  have hk32 : K 32 = true := by rw [h.k]; decide
  have e0 : (32 :: (n ++ 61 :: valW T v) ++ tail).dropWhile K = n ++ 61 :: (valW T v ++ tail) := by
    rw [List.cons_append, List.dropWhile_cons, if_pos hk32, List.append_assoc, List.cons_append]
    cases n with
    | nil => exact absurd rfl n0
    | cons c n => rw [List.cons_append, List.dropWhile_cons, hTK c (n1 c List.mem_cons_self)]; rfl
  have e1 : nameR T K (n ++ 61 :: (valW T v ++ tail)) = some (n, valW T v ++ tail) := by
    unfold nameR
    obtain ⟨a1, a2⟩ := span_of T n n1 (61 :: (valW T v ++ tail)) (fun c r he => by simp only [List.cons.injEq] at he; rw [← he.1]; exact h.t61)
    rw [a2, a1, List.dropWhile_cons, h.k61]
    simp [n0]
  have e2 : (valW T v ++ tail).dropWhile K = valW T v ++ tail ∧ saidR T (valW T v ++ tail) = some (v, tail) := by
    unfold valW
    by_cases hv : tokQ T v = true
    · rw [if_pos hv]
      obtain ⟨v0, v1⟩ := tokQ_iff.1 hv
      obtain ⟨b1, b2⟩ := span_of T v v1 tail (fun c r he => by
        subst he
        have e : c = 59 := by simpa [ends] using ht
        rw [e]; exact h.t59)
      cases v with
      | nil => exact absurd rfl v0
      | cons c v =>
        have hc := v1 c List.mem_cons_self
        refine ⟨by rw [List.cons_append, List.dropWhile_cons, hTK c hc]; rfl, ?_⟩
        unfold saidR
        split
        · rename_i r hr
          simp only [List.cons_append, List.cons.injEq] at hr
          rw [hr.1, h.t34] at hc; cases hc
        · rw [b1, b2]; rfl
    · rw [if_neg hv]
      have hk34 : K 34 = false := by rw [h.k]; decide
      refine ⟨by rw [List.cons_append, List.dropWhile_cons, hk34]; rfl, ?_⟩
      show quo [] (escV v ++ [34] ++ tail) = _
      rw [List.append_assoc]
      exact quo_esc v [] tail h3
  unfold parR
  rw [e0, e1]
  simp only
  rw [e2.1, e2.2]
  simp only [thenEnd]
  rw [htK, if_pos ht]
theorem pars_back (h : TK T K) : ∀ (l out : List (B × B)), (∀ p ∈ l, okP T f p = true) → parsGo T K f out ((l.map (parW T)).flatten) = some (out ++ l)
  | [], out, _ => by simp [parsGo_nil]
  | p :: l, out, hl => by
    have hp := hl p List.mem_cons_self
    have ht : ends ((l.map (parW T)).flatten) = true := by
      cases l with
      | nil => rfl
      | cons q l => rfl
    have hb := par_back h hp _ ht
    have e : ((p :: l).map (parW T)).flatten = 59 :: (32 :: (p.1 ++ 61 :: valW T p.2) ++ (l.map (parW T)).flatten) := by
      simp [parW]
    rw [e, parsGo_some T K f hb, pars_back h l _ (fun q hq => hl q (List.mem_cons_of_mem _ hq))]
    simp only [okP, Bool.and_eq_true, decide_eq_true_eq] at hp
    rw [hp.2.1]
    simp
theorem mainOk_no (h : TK T K) {m : B} (hm : mainOk T m = true) : ∀ c ∈ m, c ≠ 59 ∧ K c = false := by
  unfold mainOk at hm
  rw [cut1] at hm
  simp only [Bool.and_eq_true, Bool.or_eq_true, Bool.not_eq_true'] at hm
  obtain ⟨h1, h2⟩ := hm
  have hT : ∀ c, T c = true → c ≠ 59 ∧ K c = false := fun c hc => by
    refine ⟨fun e => ?_, ?_⟩
    · rw [e, h.t59] at hc; cases hc
    · cases hk : K c with
      | false => rfl
      | true => have := h.kT hk; rw [hc] at this; cases this
  have e := List.takeWhile_append_dropWhile (p := (· != (47 : UInt8))) (l := m)
  intro c hc
  rw [← e] at hc
  rcases List.mem_append.1 hc with hc | hc
  · exact hT c ((tokQ_iff.1 h1).2 c hc)
  · cases hd : m.dropWhile (· != 47) with
    | nil => rw [hd] at hc; cases hc
    | cons x r =>
      have hx := dw_head_not _ _ _ _ hd
      have hx : x = 47 := by simpa using hx
      rw [hd] at hc h2
      have ha : m.any (· == 47) = true := by
        rw [List.any_eq_true]
        exact ⟨x, by rw [← e, hd]; simp, by simp [hx]⟩
      rw [ha] at h2
      have h2 : tokQ T r = true := by simpa using h2
      rcases List.mem_cons.1 hc with hc | hc
      · rw [hc, hx]
        exact ⟨by decide, by rw [h.k]; decide⟩
      · exact hT c ((tokQ_iff.1 h2).2 c hc)
theorem trimS_none (h : TK T K) {m : B} (hm : ∀ c ∈ m, K c = false) : Lib.trimS m [32, 9] = m := by
  have hk : ∀ c, (([32, 9] : B).contains c) = K c := fun c => by
    rw [h.k, Bool.eq_iff_iff]; simp
  have key : ∀ l : B, (∀ c ∈ l, K c = false) → l.dropWhile (([32, 9] : B).contains ·) = l := by
    intro l hl
    cases l with
    | nil => rfl
    | cons c l => rw [List.dropWhile_cons, hk, hl c List.mem_cons_self]; rfl
  unfold Lib.trimS Lib.trimLeftS Lib.trimRightS
  rw [key m.reverse (fun c hc => hm c (List.mem_reverse.1 hc)), List.reverse_reverse, key m hm]
/-- what is written, reads as it was -/
theorem read_write (h : TK T K) {m t : B} {l : List (B × B)} (hw : writeK T f m l = .ok t) : readK T K f t = some (m, l) := by
  unfold writeK at hw
  split at hw
  · rename_i hm
    rw [Bool.and_eq_true, decide_eq_true_eq] at hm
    obtain ⟨h1, h2⟩ := hm
    obtain ⟨h3, rfl⟩ := writeKGo_inv l 0 m t hw
    have hn := mainOk_no h h1
    obtain ⟨a1, a2⟩ := span_of (· != (59 : UInt8)) m (fun c hc => by simpa using (hn c hc).1) ((l.map (parW T)).flatten) (fun c r he => by
      cases l with
      | nil => cases he
      | cons p l =>
        have : c = 59 := by
          have := congrArg (fun x => x.getD 0 0) he
          simpa [parW] using this.symm
        simp [this])
    have e1 : mainOf f (m ++ (l.map (parW T)).flatten) = m := by
      unfold mainOf
      rw [a1, trimS_none h (fun c hc => (hn c hc).2), h2]
    unfold readK
    rw [e1, if_pos h1]
    unfold restOf
    rw [a2, pars_back h l [] h3]
    rfl
  · cases hw
end
end Go.Proofs.YtignjjnflcpiiaaDoor
