import Derived.Test.YtignjjnflcpiiaaGreatDoorKG12
import Derived.Test.YtignjjnflcpiiaaGreatDoorKPlain1
set_option linter.unusedVariables false
set_option linter.unusedSimpArgs false
set_option maxHeartbeats 1000000
namespace Go.Proofs.YtignjjnflcpiiaaGreatDoor
open Go.RowKit
def nb (c : UInt8) : Bool := c != 32
def bl (c : UInt8) : Bool := c == 32
def wordLen (r : B) : Nat := (r.takeWhile bl).length + ((r.dropWhile bl).takeWhile nb).length
theorem wordLen_le (r : B) : wordLen r ≤ r.length := by
  unfold wordLen
  have h1 := congrArg List.length (List.takeWhile_append_dropWhile (p := bl) (l := r))
  have h2 := congrArg List.length (List.takeWhile_append_dropWhile (p := nb) (l := r.dropWhile bl))
  rw [List.length_append] at h1 h2
  omega
theorem wordLen_pos {r : B} (h : r ≠ []) : 0 < wordLen r := by
  cases r with
  | nil => exact absurd rfl h
  | cons c r =>
    unfold wordLen
    cases hc : bl c with
    | true => rw [List.takeWhile_cons, if_pos hc]; simp only [List.length_cons]; omega
    | false =>
      have : nb c = true := by have hc' : (c == 32) = false := hc; simp [nb, bne, hc']
      rw [List.takeWhile_cons, List.dropWhile_cons, if_neg (by simp [hc]), if_neg (by simp [hc]), List.takeWhile_cons, if_pos this]
      simp
def lineGo (head rest : B) : B :=
  if h : rest = [] then head ++ [13, 10]
  else if 76 < head.length + wordLen rest then head ++ [13, 10] ++ lineGo (rest.take (wordLen rest)) (rest.drop (wordLen rest))
  else lineGo (head ++ rest.take (wordLen rest)) (rest.drop (wordLen rest))
termination_by rest.length
decreasing_by all_goals (have := wordLen_pos h; have := wordLen_le rest; simp only [List.length_drop]; omega)
theorem lineGo_nil (head : B) : lineGo head [] = head ++ [13, 10] := by rw [lineGo, dif_pos rfl]
theorem lineGo_cut {head rest : B} (h : rest ≠ []) (h1 : 76 < head.length + wordLen rest) : lineGo head rest = head ++ [13, 10] ++ lineGo (rest.take (wordLen rest)) (rest.drop (wordLen rest)) := by rw [lineGo, dif_neg h, if_pos h1]
theorem lineGo_go {head rest : B} (h : rest ≠ []) (h1 : ¬ 76 < head.length + wordLen rest) : lineGo head rest = lineGo (head ++ rest.take (wordLen rest)) (rest.drop (wordLen rest)) := by rw [lineGo, dif_neg h, if_neg h1]
def firstW (v : B) : B := v.takeWhile nb
def writeF (f : B × B) : B := lineGo (f.1 ++ [58, 32] ++ firstW f.2) (f.2.drop (firstW f.2).length)
def refGo (s line word : B) (first pb : Bool) : B → B
  | [] => if first = false ∧ word ≠ [] ∧ 76 < line.length + word.length then s ++ (line ++ [13, 10]) ++ word ++ [13, 10] else s ++ (line ++ word) ++ [13, 10]
  | c :: r => if c = 32 ∧ pb = false then
      (if first = false ∧ word ≠ [] ∧ 76 < line.length + word.length then refGo (s ++ (line ++ [13, 10])) word [c] false true r else refGo s (line ++ word) [c] false true r)
    else refGo s line (word ++ [c]) first (c == 32) r
theorem wordLen_word {b n r : B} (hb : ∀ c ∈ b, c = 32) (hn : ∀ c ∈ n, c ≠ 32) (hne : n ≠ []) (hr : ∀ c, r.head? = some c → c = 32) : wordLen (b ++ n ++ r) = (b ++ n).length := by
  have hb' : ∀ c ∈ b, bl c = true := fun c hc => by simp [bl, hb c hc]
  have hn' : ∀ c ∈ n, nb c = true := fun c hc => by simp [nb, hn c hc]
  have e1 : (b ++ n ++ r).takeWhile bl = b := by
    rw [List.append_assoc, List.takeWhile_append_of_pos hb']
    cases n with
    | nil => exact absurd rfl hne
    | cons c n =>
      have : bl c = false := by simp [bl, hn c List.mem_cons_self]
      simp [this]
  have e2 : (b ++ n ++ r).dropWhile bl = n ++ r := by
    rw [List.append_assoc, List.dropWhile_append_of_pos hb']
    cases n with
    | nil => exact absurd rfl hne
    | cons c n =>
      have : bl c = false := by simp [bl, hn c List.mem_cons_self]
      simp [this]
  have e3 : (n ++ r).takeWhile nb = n := by
    rw [List.takeWhile_append_of_pos hn']
    cases r with
    | nil => simp
    | cons c r =>
      have : nb c = false := by simp [nb, hr c rfl]
      simp [this]
  unfold wordLen
  rw [e1, e2, e3, List.length_append]
theorem wordLen_blank {b : B} (hb : ∀ c ∈ b, c = 32) : wordLen b = b.length := by
  have hb' : ∀ c ∈ b, bl c = true := fun c hc => by simp [bl, hb c hc]
  have e1 : b.takeWhile bl = b := by have := List.takeWhile_append_of_pos (l₂ := []) hb'; simpa using this
  have e2 : b.dropWhile bl = [] := by have := List.dropWhile_append_of_pos (l₂ := []) hb'; simpa using this
  unfold wordLen
  rw [e1, e2]
  simp
def Open (word : B) (pb : Bool) : Prop := ∃ b n : B, word = b ++ n ∧ (∀ c ∈ b, c = 32) ∧ (∀ c ∈ n, c ≠ 32) ∧ (pb = true → n = []) ∧ (pb = false → n ≠ [])
theorem Open.whole {word r : B} {pb : Bool} (h : Open word pb) (hr : r = [] ∨ pb = false ∧ ∃ r', r = 32 :: r') : wordLen (word ++ r) = word.length := by
  obtain ⟨b, n, rfl, hb, hn, h1, h2⟩ := h
  cases pb with
  | true =>
    rcases hr with rfl | ⟨h, _⟩
    · rw [h1 rfl]; simpa using wordLen_blank hb
    · cases h
  | false =>
    refine wordLen_word hb hn (h2 rfl) (fun c hc => ?_)
    rcases hr with rfl | ⟨_, r', rfl⟩
    · cases hc
    · simpa using hc.symm
inductive WRes where
  | ok (s : B)
  | bad (n : Nat)
def writeGo : Nat → B → Fs → WRes
  | _, out, [] => .ok (out ++ [13, 10])
  | n, out, f :: r => match okF f with
    | true => writeGo (n + 1) (out ++ writeF f) r
    | false => .bad n
def writeH (l : Fs) : WRes := writeGo 0 [] l
theorem lineGo_len : ∀ (m : Nat) (head rest : B), rest.length ≤ m → (lineGo head rest).length ≤ head.length + 3 * rest.length + 2
  | m, head, [], _ => by rw [lineGo_nil]; simp
  | 0, head, c :: r, h => by simp at h
  | m + 1, head, c :: r, h => by
    have h1 := wordLen_pos (r := c :: r) (by simp)
    have h2 := wordLen_le (c :: r)
    have h3 : ((c :: r).drop (wordLen (c :: r))).length = (c :: r).length - wordLen (c :: r) := List.length_drop
    have h4 : ((c :: r).take (wordLen (c :: r))).length = wordLen (c :: r) := by rw [List.length_take]; omega
    by_cases h76 : 76 < head.length + wordLen (c :: r)
    · rw [lineGo_cut (by simp) h76]
      have := lineGo_len m ((c :: r).take (wordLen (c :: r))) ((c :: r).drop (wordLen (c :: r))) (by omega)
      simp only [List.length_append, List.length_cons, List.length_nil] at *
      omega
    · rw [lineGo_go (by simp) h76]
      have := lineGo_len m (head ++ (c :: r).take (wordLen (c :: r))) ((c :: r).drop (wordLen (c :: r))) (by omega)
      simp only [List.length_append, List.length_cons, List.length_nil] at *
      omega
theorem firstW_len (v : B) : (firstW v).length ≤ v.length := (List.takeWhile_sublist _).length_le
theorem writeF_len (f : B × B) : (writeF f).length ≤ f.1.length + 3 * f.2.length + 4 := by
  unfold writeF
  have h1 := lineGo_len _ (f.1 ++ [58, 32] ++ firstW f.2) (f.2.drop (firstW f.2).length) (Nat.le_refl _)
  have h2 := firstW_len f.2
  simp only [List.length_append, List.length_cons, List.length_nil, List.length_drop] at h1
  omega
theorem index_skip {x y sub : B} {a : UInt8} {t : B} (hs : sub = a :: t) (hx : ∀ c ∈ x, c ≠ a) (h : 0 ≤ Lib.index y sub) : Lib.index (x ++ y) sub = x.length + Lib.index y sub := by
  induction x with
  | nil => simp
  | cons c x ih =>
    have ih := ih (fun d hd => hx d (List.mem_cons_of_mem _ hd))
    subst hs
    have hc : c ≠ a := hx c List.mem_cons_self
    have hp : (a :: t).isPrefixOf (c :: x ++ y) = false := by
      simp only [List.cons_append, List.isPrefixOf, Bool.and_eq_false_iff]
      exact .inl (by simpa using fun e => hc e.symm)
    rw [List.cons_append] at hp ⊢
    rw [Lib.index, hp, ih]
    simp only [List.length_cons]
    rw [if_neg (by simp), if_neg (by simp; omega)]
    omega
theorem index_none {x sub : B} {a : UInt8} {t : B} (hs : sub = a :: t) (hx : ∀ c ∈ x, c ≠ a) : Lib.index x sub = -1 := by
  induction x with
  | nil => subst hs; rfl
  | cons c x ih =>
    have ih := ih (fun d hd => hx d (List.mem_cons_of_mem _ hd))
    subst hs
    have hc : c ≠ a := hx c List.mem_cons_self
    have hp : (a :: t).isPrefixOf (c :: x) = false := by
      simp only [List.isPrefixOf, Bool.and_eq_false_iff]
      exact .inl (by simpa using fun e => hc e.symm)
    rw [Lib.index, hp, ih]
    rfl
theorem index_self (sub y : B) : Lib.index (sub ++ y) sub = 0 := by
  cases h : sub ++ y with
  | nil =>
    have : sub = [] := (List.append_eq_nil_iff.1 h).1
    subst this; rfl
  | cons c r =>
    rw [Lib.index, ← h, if_pos (by simp)]
theorem cut_here {x y sub : B} {a : UInt8} {t : B} (hs : sub = a :: t) (hx : ∀ c ∈ x, c ≠ a) : Lib.cut (x ++ (sub ++ y)) sub = (x, y, true) := by
  have h1 := index_skip (y := sub ++ y) hs hx (by rw [index_self]; exact Int.le_refl _)
  rw [index_self] at h1
  unfold Lib.cut
  rw [h1, if_pos (by omega)]
  simp
theorem cut_no {x sub : B} {a : UInt8} {t : B} (hs : sub = a :: t) (hx : ∀ c ∈ x, c ≠ a) : Lib.cut x sub = (x, [], false) := by
  unfold Lib.cut
  rw [index_none hs hx, if_neg (by omega)]
end Go.Proofs.YtignjjnflcpiiaaGreatDoor
namespace Go.Proofs.YtignjjnflcpiiaaGreatDoor
open Go.RowKit
theorem lastF_app (out : Fs) (f : B × B) : lastF (out ++ [f]) = f := by
  simp [lastF, List.getD_eq_getElem?_getD]
theorem set_app (out : Fs) (f g : B × B) : (out ++ [f]).set ((out ++ [f]).length - 1) g = out ++ [g] := by
  simp
def N13 (s : B) : Prop := ∀ c ∈ s, c ≠ 13
theorem N13.left {x y : B} (h : N13 (x ++ y)) : N13 x := fun c hc => h c (List.mem_append_left _ hc)
theorem N13.right {x y : B} (h : N13 (x ++ y)) : N13 y := fun c hc => h c (List.mem_append_right _ hc)
def Bl0 (r : B) : Prop := r = [] ∨ ∃ t, r = 32 :: t
theorem split_take {r p s : B} (h : p ++ s = r) : r.take p.length = p := by subst h; simp
theorem split_drop {r p s : B} (h : p ++ s = r) : r.drop p.length = s := by subst h; simp
theorem word_split (r : B) : (r.takeWhile bl ++ (r.dropWhile bl).takeWhile nb) ++ (r.dropWhile bl).dropWhile nb = r := by
  rw [List.append_assoc, List.takeWhile_append_dropWhile, List.takeWhile_append_dropWhile]
theorem word_len (r : B) : wordLen r = (r.takeWhile bl ++ (r.dropWhile bl).takeWhile nb).length := by rw [wordLen, List.length_append]
theorem bl_all (r : B) : ∀ c ∈ r.takeWhile bl, c = 32 := fun c hc => by
  have := List.all_eq_true.1 (List.all_takeWhile (p := bl) (l := r)) c hc
  simpa [bl] using this
theorem nb_all (r : B) : ∀ c ∈ r.takeWhile nb, c ≠ 32 := fun c hc => by
  have := List.all_eq_true.1 (List.all_takeWhile (p := nb) (l := r)) c hc
  simpa [nb] using this
theorem dropW_bl (r : B) : Bl0 (r.dropWhile nb) := by
  cases hd : r.dropWhile nb with
  | nil => exact .inl rfl
  | cons c t =>
    have := List.head?_dropWhile_not nb r
    rw [hd] at this
    have hc : c = 32 := by simpa [nb] using this
    exact .inr ⟨t, by rw [hc]⟩
theorem take_word {r : B} (h : Bl0 r) (hne : r ≠ []) : ∃ b n, r.take (wordLen r) = b ++ n ∧ (∀ c ∈ b, c = 32) ∧ (∀ c ∈ n, c ≠ 32) ∧ ∃ t, b = 32 :: t := by
  refine ⟨r.takeWhile bl, (r.dropWhile bl).takeWhile nb, ?_, bl_all r, nb_all _, ?_⟩
  · rw [word_len]; exact split_take (word_split r)
  · rcases h with h | ⟨t, rfl⟩
    · exact absurd h hne
    · have hb : bl 32 = true := rfl
      exact ⟨t.takeWhile bl, by rw [List.takeWhile_cons, if_pos hb]⟩
theorem drop_word (r : B) : Bl0 (r.drop (wordLen r)) := by
  rw [word_len, split_drop (word_split r)]
  exact dropW_bl _
theorem firstW_split (v : B) : firstW v ++ v.drop (firstW v).length = v := by
  have h2 : firstW v ++ v.dropWhile nb = v := List.takeWhile_append_dropWhile (p := nb) (l := v)
  rw [split_drop h2, h2]
theorem firstW_bl (v : B) : Bl0 (v.drop (firstW v).length) := by
  have h2 : firstW v ++ v.dropWhile nb = v := List.takeWhile_append_dropWhile (p := nb) (l := v)
  rw [split_drop h2]
  exact dropW_bl v
theorem readGo_line {out o : Fs} {n : Nat} {ln t : B} (h13 : N13 ln) (hne : ln ≠ []) (h : readStep out ln = some o) : readGo out n (ln ++ ([13, 10] ++ t)) = readGo o (n + 1) t := by
  have hc := cut_here (x := ln) (y := t) (sub := [13, 10]) rfl h13
  have hs : ln ++ ([13, 10] ++ t) ≠ [] := by simp
  rw [readGo_go (o := o) hs (by rw [hc]; exact hne) (by rw [hc]; exact h), hc]
theorem goes_step {a b head : B} (out : Fs) (hh : ∃ t, head = 32 :: t) : readStep (out ++ [(a, b)]) head = some (out ++ [(a, b ++ head)]) := by
  obtain ⟨t, ht⟩ := hh
  rw [readStep_eq, if_pos (by rw [ht]; rfl), if_neg (by simp), lastF_app, set_app]
theorem read_goes {a : B} (tail : B) : ∀ (m : Nat) (b head rest : B) (out : Fs) (n : Nat), rest.length ≤ m → N13 (head ++ rest) → Bl0 rest → (∃ t, head = 32 :: t) → ∃ n', readGo (out ++ [(a, b)]) n (lineGo head rest ++ tail) = readGo (out ++ [(a, b ++ head ++ rest)]) n' tail := by
  intro m
  induction m with
  | zero =>
    intro b head rest out n hm h13 _ hh
    have : rest = [] := List.eq_nil_of_length_eq_zero (by omega)
    subst this
    refine ⟨n + 1, ?_⟩
    rw [lineGo_nil, List.append_assoc, readGo_line h13.left (by obtain ⟨t, ht⟩ := hh; rw [ht]; simp) (goes_step out hh), List.append_nil]
  | succ m ih =>
    intro b head rest out n hm h13 hb hh
    by_cases hr : rest = []
    · subst hr
      refine ⟨n + 1, ?_⟩
      rw [lineGo_nil, List.append_assoc, readGo_line h13.left (by obtain ⟨t, ht⟩ := hh; rw [ht]; simp) (goes_step out hh), List.append_nil]
    · have hp := wordLen_pos hr
      have hle := wordLen_le rest
      have hdl : (rest.drop (wordLen rest)).length ≤ m := by rw [List.length_drop]; omega
      have hsplit := List.take_append_drop (wordLen rest) rest
      obtain ⟨b1, n1, hw, _, _, t1, ht1⟩ := take_word hb hr
      by_cases h76 : 76 < head.length + wordLen rest
      · rw [lineGo_cut hr h76]
        obtain ⟨n', h⟩ := ih (b ++ head) (rest.take (wordLen rest)) (rest.drop (wordLen rest)) out (n + 1) hdl (by rw [hsplit]; exact h13.right) (drop_word rest) ⟨t1 ++ n1, by rw [hw, ht1]; rfl⟩
        refine ⟨n', ?_⟩
        rw [show head ++ [13, 10] ++ lineGo (rest.take (wordLen rest)) (rest.drop (wordLen rest)) ++ tail = head ++ ([13, 10] ++ (lineGo (rest.take (wordLen rest)) (rest.drop (wordLen rest)) ++ tail)) by simp,
          readGo_line h13.left (by obtain ⟨t, ht⟩ := hh; rw [ht]; simp) (goes_step out hh), h, List.append_assoc (b ++ head), hsplit]
      · rw [lineGo_go hr h76]
        obtain ⟨t, ht⟩ := hh
        obtain ⟨n', h⟩ := ih b (head ++ rest.take (wordLen rest)) (rest.drop (wordLen rest)) out n hdl (by rw [List.append_assoc, hsplit]; exact h13) (drop_word rest) ⟨t ++ rest.take (wordLen rest), by rw [ht]; rfl⟩
        refine ⟨n', ?_⟩
        rw [h, show b ++ (head ++ rest.take (wordLen rest)) ++ rest.drop (wordLen rest) = b ++ head ++ (rest.take (wordLen rest) ++ rest.drop (wordLen rest)) by simp, hsplit]
theorem nameB_facts {a : B} (h : nameB a = true) : (∀ c ∈ a, c ≠ 58 ∧ c ≠ 13 ∧ c ≠ 32 ∧ c ≠ 9) ∧ a ≠ [] := by
  simp only [nameB, Bool.and_eq_true, Bool.not_eq_true', List.all_eq_true] at h
  refine ⟨fun c hc => ?_, fun e => by rw [e] at h; simp at h⟩
  have := h.1 c hc
  simp only [nameC, decide_eq_true_eq] at this
  refine ⟨?_, ?_, ?_, ?_⟩ <;> rintro rfl <;> revert this <;> decide
theorem first_step {a b0 : B} (out : Fs) (ha : nameB a = true) : readStep out (a ++ 58 :: b0) = some (out ++ [(a, b0)]) := by
  obtain ⟨h1, h2⟩ := nameB_facts ha
  have hc : Lib.cut (a ++ 58 :: b0) [58] = (a, b0, true) := cut_here (sub := [58]) rfl (fun c hc => (h1 c hc).1)
  have hb : ¬ blk ((a ++ 58 :: b0).getD 0 0) = true := by
    cases a with
    | nil => exact absurd rfl h2
    | cons c a =>
      have := h1 c List.mem_cons_self
      simp [blk, this.2.2.1, this.2.2.2]
  rw [readStep_eq, if_neg hb, hc, if_pos ⟨rfl, ha⟩]
theorem N13.name {a b : B} (ha : nameB a = true) (h : N13 b) : N13 (a ++ 58 :: b) := fun c hc => by
  rcases List.mem_append.1 hc with h' | h'
  · exact ((nameB_facts ha).1 c h').2.1
  · rcases List.mem_cons.1 h' with rfl | h'
    · decide
    · exact h c h'
theorem read_first {a : B} (tail : B) (ha : nameB a = true) : ∀ (m : Nat) (b0 rest : B) (out : Fs) (n : Nat), rest.length ≤ m → N13 (b0 ++ rest) → Bl0 rest → ∃ n', readGo out n (lineGo (a ++ 58 :: b0) rest ++ tail) = readGo (out ++ [(a, b0 ++ rest)]) n' tail := by
  intro m
  induction m with
  | zero =>
    intro b0 rest out n hm h13 _
    have : rest = [] := List.eq_nil_of_length_eq_zero (by omega)
    subst this
    refine ⟨n + 1, ?_⟩
    rw [lineGo_nil, List.append_assoc, readGo_line (.name ha h13.left) (by simp) (first_step out ha), List.append_nil]
  | succ m ih =>
    intro b0 rest out n hm h13 hb
    by_cases hr : rest = []
    · subst hr
      refine ⟨n + 1, ?_⟩
      rw [lineGo_nil, List.append_assoc, readGo_line (.name ha h13.left) (by simp) (first_step out ha), List.append_nil]
    · have hp := wordLen_pos hr
      have hle := wordLen_le rest
      have hdl : (rest.drop (wordLen rest)).length ≤ m := by rw [List.length_drop]; omega
      have hsplit := List.take_append_drop (wordLen rest) rest
      obtain ⟨b1, n1, hw, _, _, t1, ht1⟩ := take_word hb hr
      by_cases h76 : 76 < (a ++ 58 :: b0).length + wordLen rest
      · rw [lineGo_cut hr h76]
        obtain ⟨n', h⟩ := read_goes tail m b0 (rest.take (wordLen rest)) (rest.drop (wordLen rest)) out (n + 1) hdl (by rw [hsplit]; exact h13.right) (drop_word rest) ⟨t1 ++ n1, by rw [hw, ht1]; rfl⟩
        refine ⟨n', ?_⟩
        rw [show (a ++ 58 :: b0) ++ [13, 10] ++ lineGo (rest.take (wordLen rest)) (rest.drop (wordLen rest)) ++ tail = (a ++ 58 :: b0) ++ ([13, 10] ++ (lineGo (rest.take (wordLen rest)) (rest.drop (wordLen rest)) ++ tail)) by simp,
          readGo_line (.name ha h13.left) (by simp) (first_step out ha), h, List.append_assoc b0, hsplit]
      · rw [lineGo_go hr h76]
        obtain ⟨n', h⟩ := ih (b0 ++ rest.take (wordLen rest)) (rest.drop (wordLen rest)) out n hdl (by rw [List.append_assoc, hsplit]; exact h13) (drop_word rest)
        refine ⟨n', ?_⟩
        rw [show a ++ 58 :: b0 ++ rest.take (wordLen rest) = a ++ 58 :: (b0 ++ rest.take (wordLen rest)) by simp, h, List.append_assoc b0, hsplit]
theorem valueB_N13 {v : B} (h : valueB v = true) : N13 v ∧ trimB v = v := by
  simp only [valueB, Bool.and_eq_true, List.all_eq_true, decide_eq_true_eq] at h
  refine ⟨fun c hc => ?_, h.2⟩
  have := h.1 c hc
  simp only [valC, decide_eq_true_eq] at this
  rintro rfl
  revert this
  decide
theorem read_writeF (f : B × B) (hf : okF f = true) (out : Fs) (n : Nat) (tail : B) : ∃ n', readGo out n (writeF f ++ tail) = readGo (out ++ [(f.1, 32 :: f.2)]) n' tail := by
  simp only [okF, Bool.and_eq_true] at hf
  obtain ⟨h13, _⟩ := valueB_N13 hf.2
  have hs := firstW_split f.2
  have h13' : N13 (32 :: firstW f.2 ++ f.2.drop (firstW f.2).length) := by
    rw [List.cons_append, hs]
    exact fun c hc => by
      rcases List.mem_cons.1 hc with rfl | hc
      · decide
      · exact h13 c hc
  obtain ⟨n', h⟩ := read_first tail hf.1 _ (32 :: firstW f.2) (f.2.drop (firstW f.2).length) out n (Nat.le_refl _) h13' (firstW_bl f.2)
  refine ⟨n', ?_⟩
  rw [writeF, show f.1 ++ [58, 32] ++ firstW f.2 = f.1 ++ 58 :: (32 :: firstW f.2) by simp, h, List.cons_append, hs]
def writeAll (l : Fs) : B := (l.map writeF).flatten
theorem writeGo_ok : ∀ (l : Fs) (n : Nat) (out : B), rightB l = true → writeGo n out l = .ok (out ++ writeAll l ++ [13, 10])
  | [], n, out, _ => by simp [writeGo, writeAll]
  | f :: r, n, out, h => by
    simp only [rightB, List.all_cons, Bool.and_eq_true] at h
    rw [writeGo, h.1]
    simp only
    rw [writeGo_ok r (n + 1) (out ++ writeF f) h.2]
    simp [writeAll]
theorem read_all (rest : B) : ∀ (l out : Fs) (n : Nat), rightB l = true → readGo out n (writeAll l ++ ([13, 10] ++ rest)) = .ok (out ++ l.map fun f => (f.1, 32 :: f.2)) rest
  | [], out, n, _ => by
    have hc := cut_here (x := []) (y := rest) (sub := [13, 10]) rfl (fun c h => by cases h)
    rw [List.nil_append] at hc
    show readGo out n ([] ++ ([13, 10] ++ rest)) = _
    rw [List.nil_append, readGo_end (by simp) (by rw [hc]), hc]
    simp
  | f :: r, out, n, h => by
    simp only [rightB, List.all_cons, Bool.and_eq_true] at h
    have e : writeAll (f :: r) = writeF f ++ writeAll r := rfl
    obtain ⟨n', hr⟩ := read_writeF f h.1 out n (writeAll r ++ ([13, 10] ++ rest))
    rw [e, List.append_assoc, hr, read_all rest r _ n' h.2]
    simp
theorem trimB_blank (v : B) : trimB (32 :: v) = trimB v := by
  unfold trimB Lib.trimS Lib.trimRightS Lib.trimLeftS
  rw [List.reverse_cons, List.dropWhile_append]
  cases hd : v.reverse.dropWhile (fun c => ([32, 9] : B).contains c) with
  | nil => simp
  | cons c t => simp
theorem clean_back : ∀ (l out : Fs) (n : Nat), rightB l = true → cleanGo n out (l.map fun f => (f.1, 32 :: f.2)) = .ok (out ++ l)
  | [], out, n, _ => by simp [cleanGo]
  | f :: r, out, n, h => by
    simp only [rightB, List.all_cons, Bool.and_eq_true] at h
    have hf := h.1
    simp only [okF, Bool.and_eq_true] at hf
    have ht := (valueB_N13 hf.2).2
    rw [List.map_cons, cleanGo]
    simp only
    rw [trimB_blank, ht, hf.2]
    simp only
    rw [clean_back r _ _ h.2]
    simp
def longB (x : B) : Bool := Lib.contains (Lib.trimLeftS (x.drop (Lib.index x [58] + 1).toNat) [32]) [32]
def lineOk (x : B) : Prop := ¬ (76 < x.length ∧ longB x = true ∧ x.getD 0 0 = 32)
def headOk (x : B) : Prop := x.getD 0 0 ≠ 32 ∨ x.length ≤ 76 ∨ longB x = false
theorem headOk.line {x : B} (h : headOk x) : lineOk x := fun ⟨h1, h2, h3⟩ => by
  rcases h with h | h | h
  · exact h h3
  · omega
  · rw [h] at h2; cases h2
end Go.Proofs.YtignjjnflcpiiaaGreatDoor
