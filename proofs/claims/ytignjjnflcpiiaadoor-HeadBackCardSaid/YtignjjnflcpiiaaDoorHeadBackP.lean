/- A head's lines read back, and no line longer than it must be: in plain words. -/
import Derived.Test.YtignjjnflcpiiaaDoorHeadP
import Derived.Test.YtignjjnflcpiiaaDoorSplitPlain
set_option linter.unusedVariables false
set_option linter.unusedSimpArgs false
namespace Go.Proofs.YtignjjnflcpiiaaDoor
open Go.RowKit

theorem lastF_app (out : Fs) (f : B × B) : lastF (out ++ [f]) = f := by
  simp [lastF, List.getD_eq_getElem?_getD]
theorem set_app (out : Fs) (f g : B × B) : (out ++ [f]).set ((out ++ [f]).length - 1) g = out ++ [g] := by
  simp
def N13 (s : B) : Prop := ∀ c ∈ s, c ≠ 13
theorem N13.app {x y : B} (h : N13 x) (k : N13 y) : N13 (x ++ y) := fun c hc => by
  rcases List.mem_append.1 hc with h' | h'
  · exact h c h'
  · exact k c h'
theorem N13.left {x y : B} (h : N13 (x ++ y)) : N13 x := fun c hc => h c (List.mem_append_left _ hc)
theorem N13.right {x y : B} (h : N13 (x ++ y)) : N13 y := fun c hc => h c (List.mem_append_right _ hc)
/-- nothing, or a blank first -/
def Bl0 (r : B) : Prop := r = [] ∨ ∃ t, r = 32 :: t
theorem split_take {r p s : B} (h : p ++ s = r) : r.take p.length = p := by subst h; simp
theorem split_drop {r p s : B} (h : p ++ s = r) : r.drop p.length = s := by subst h; simp
theorem word_split (r : B) : (r.takeWhile bl ++ (r.dropWhile bl).takeWhile nb) ++ (r.dropWhile bl).dropWhile nb = r := by
  rw [List.append_assoc, List.takeWhile_append_dropWhile, List.takeWhile_append_dropWhile]
theorem word_len (r : B) : wordLen r = (r.takeWhile bl ++ (r.dropWhile bl).takeWhile nb).length := by rw [wordLen, List.length_append]
theorem bl_all (r : B) : ∀ c ∈ r.takeWhile bl, c = 32 := fun c hc => by
  have := List.all_eq_true.1 (List.all_takeWhile (p := bl) (l := r)) c hc
  simpa [bl] using this
theorem nb_all (r : B) : ∀ c ∈ r.takeWhile nb, c ≠ 32 := fun c hc => by
  have := List.all_eq_true.1 (List.all_takeWhile (p := nb) (l := r)) c hc
  simpa [nb] using this
theorem dropW_bl (r : B) : Bl0 (r.dropWhile nb) := by
  cases hd : r.dropWhile nb with
  | nil => exact .inl rfl
  | cons c t =>
    have := List.head?_dropWhile_not nb r
    rw [hd] at this
    have hc : c = 32 := by simpa [nb] using this
    exact .inr ⟨t, by rw [hc]⟩
theorem take_word {r : B} (h : Bl0 r) (hne : r ≠ []) : ∃ b n, r.take (wordLen r) = b ++ n ∧ (∀ c ∈ b, c = 32) ∧ (∀ c ∈ n, c ≠ 32) ∧ ∃ t, b = 32 :: t := by
  refine ⟨r.takeWhile bl, (r.dropWhile bl).takeWhile nb, ?_, bl_all r, nb_all _, ?_⟩
  · rw [word_len]; exact split_take (word_split r)
  · rcases h with h | ⟨t, rfl⟩
    · exact absurd h hne
    · have hb : bl 32 = true := rfl
      exact ⟨t.takeWhile bl, by rw [List.takeWhile_cons, if_pos hb]⟩
theorem drop_word (r : B) : Bl0 (r.drop (wordLen r)) := by
  rw [word_len, split_drop (word_split r)]
  exact dropW_bl _
theorem firstW_split (v : B) : firstW v ++ v.drop (firstW v).length = v := by
  have h2 : firstW v ++ v.dropWhile nb = v := List.takeWhile_append_dropWhile (p := nb) (l := v)
  rw [split_drop h2, h2]
theorem firstW_bl (v : B) : Bl0 (v.drop (firstW v).length) := by
  have h2 : firstW v ++ v.dropWhile nb = v := List.takeWhile_append_dropWhile (p := nb) (l := v)
  rw [split_drop h2]
  exact dropW_bl v

/-- one line is read -/
theorem readGo_line {out o : Fs} {n : Nat} {ln t : B} (h13 : N13 ln) (hne : ln ≠ []) (h : readStep out ln = some o) : readGo out n (ln ++ ([13, 10] ++ t)) = readGo o (n + 1) t := by
  have hc := cut_here (x := ln) (y := t) (sub := [13, 10]) rfl h13
  have hs : ln ++ ([13, 10] ++ t) ≠ [] := by simp
  rw [readGo_go (o := o) hs (by rw [hc]; exact hne) (by rw [hc]; exact h), hc]
theorem goes_step {a b head : B} (out : Fs) (hh : ∃ t, head = 32 :: t) : readStep (out ++ [(a, b)]) head = some (out ++ [(a, b ++ head)]) := by
  obtain ⟨t, ht⟩ := hh
  rw [readStep_eq, if_pos (by rw [ht]; rfl), if_neg (by simp), lastF_app, set_app]
/-- lines that go on -/
theorem read_goes {a : B} (tail : B) : ∀ (m : Nat) (b head rest : B) (out : Fs) (n : Nat), rest.length ≤ m → N13 (head ++ rest) → Bl0 rest → (∃ t, head = 32 :: t) → ∃ n', readGo (out ++ [(a, b)]) n (lineGo head rest ++ tail) = readGo (out ++ [(a, b ++ head ++ rest)]) n' tail := by
  intro m
  induction m with
  | zero =>
    intro b head rest out n hm h13 _ hh
    have : rest = [] := List.eq_nil_of_length_eq_zero (by omega)
    subst this
    refine ⟨n + 1, ?_⟩
    rw [lineGo_nil, List.append_assoc, readGo_line h13.left (by obtain ⟨t, ht⟩ := hh; rw [ht]; simp) (goes_step out hh), List.append_nil]
  | succ m ih =>
    intro b head rest out n hm h13 hb hh
    by_cases hr : rest = []
    · subst hr
      refine ⟨n + 1, ?_⟩
      rw [lineGo_nil, List.append_assoc, readGo_line h13.left (by obtain ⟨t, ht⟩ := hh; rw [ht]; simp) (goes_step out hh), List.append_nil]
    · have hp := wordLen_pos hr
      have hle := wordLen_le rest
      have hdl : (rest.drop (wordLen rest)).length ≤ m := by rw [List.length_drop]; omega
      have hsplit := List.take_append_drop (wordLen rest) rest
      obtain ⟨b1, n1, hw, _, _, t1, ht1⟩ := take_word hb hr
      by_cases h76 : 76 < head.length + wordLen rest
      · rw [lineGo_cut hr h76]
        obtain ⟨n', h⟩ := ih (b ++ head) (rest.take (wordLen rest)) (rest.drop (wordLen rest)) out (n + 1) hdl (by rw [hsplit]; exact h13.right) (drop_word rest) ⟨t1 ++ n1, by rw [hw, ht1]; rfl⟩
        refine ⟨n', ?_⟩
        rw [show head ++ [13, 10] ++ lineGo (rest.take (wordLen rest)) (rest.drop (wordLen rest)) ++ tail = head ++ ([13, 10] ++ (lineGo (rest.take (wordLen rest)) (rest.drop (wordLen rest)) ++ tail)) by simp,
          readGo_line h13.left (by obtain ⟨t, ht⟩ := hh; rw [ht]; simp) (goes_step out hh), h, List.append_assoc (b ++ head), hsplit]
      · rw [lineGo_go hr h76]
        obtain ⟨t, ht⟩ := hh
        obtain ⟨n', h⟩ := ih b (head ++ rest.take (wordLen rest)) (rest.drop (wordLen rest)) out n hdl (by rw [List.append_assoc, hsplit]; exact h13) (drop_word rest) ⟨t ++ rest.take (wordLen rest), by rw [ht]; rfl⟩
        refine ⟨n', ?_⟩
        rw [h, show b ++ (head ++ rest.take (wordLen rest)) ++ rest.drop (wordLen rest) = b ++ head ++ (rest.take (wordLen rest) ++ rest.drop (wordLen rest)) by simp, hsplit]
theorem nameB_facts {a : B} (h : nameB a = true) : (∀ c ∈ a, c ≠ 58 ∧ c ≠ 13 ∧ c ≠ 32 ∧ c ≠ 9) ∧ a ≠ [] := by
  simp only [nameB, Bool.and_eq_true, Bool.not_eq_true', List.all_eq_true] at h
  refine ⟨fun c hc => ?_, fun e => by rw [e] at h; simp at h⟩
  have := h.1 c hc
  simp only [nameC, decide_eq_true_eq] at this
  refine ⟨?_, ?_, ?_, ?_⟩ <;> rintro rfl <;> revert this <;> decide
theorem first_step {a b0 : B} (out : Fs) (ha : nameB a = true) : readStep out (a ++ 58 :: b0) = some (out ++ [(a, b0)]) := by
  obtain ⟨h1, h2⟩ := nameB_facts ha
  have hc : Lib.cut (a ++ 58 :: b0) [58] = (a, b0, true) := cut_here (sub := [58]) rfl (fun c hc => (h1 c hc).1)
  have hb : ¬ blk ((a ++ 58 :: b0).getD 0 0) = true := by
    cases a with
    | nil => exact absurd rfl h2
    | cons c a =>
      have := h1 c List.mem_cons_self
      simp [blk, this.2.2.1, this.2.2.2]
  rw [readStep_eq, if_neg hb, hc, if_pos ⟨rfl, ha⟩]
theorem N13.name {a b : B} (ha : nameB a = true) (h : N13 b) : N13 (a ++ 58 :: b) := fun c hc => by
  rcases List.mem_append.1 hc with h' | h'
  · exact ((nameB_facts ha).1 c h').2.1
  · rcases List.mem_cons.1 h' with rfl | h'
    · decide
    · exact h c h'
/-- a field's lines -/
theorem read_first {a : B} (tail : B) (ha : nameB a = true) : ∀ (m : Nat) (b0 rest : B) (out : Fs) (n : Nat), rest.length ≤ m → N13 (b0 ++ rest) → Bl0 rest → ∃ n', readGo out n (lineGo (a ++ 58 :: b0) rest ++ tail) = readGo (out ++ [(a, b0 ++ rest)]) n' tail := by
  intro m
  induction m with
  | zero =>
    intro b0 rest out n hm h13 _
    have : rest = [] := List.eq_nil_of_length_eq_zero (by omega)
    subst this
    refine ⟨n + 1, ?_⟩
    rw [lineGo_nil, List.append_assoc, readGo_line (.name ha h13.left) (by simp) (first_step out ha), List.append_nil]
  | succ m ih =>
    intro b0 rest out n hm h13 hb
    by_cases hr : rest = []
    · subst hr
      refine ⟨n + 1, ?_⟩
      rw [lineGo_nil, List.append_assoc, readGo_line (.name ha h13.left) (by simp) (first_step out ha), List.append_nil]
    · have hp := wordLen_pos hr
      have hle := wordLen_le rest
      have hdl : (rest.drop (wordLen rest)).length ≤ m := by rw [List.length_drop]; omega
      have hsplit := List.take_append_drop (wordLen rest) rest
      obtain ⟨b1, n1, hw, _, _, t1, ht1⟩ := take_word hb hr
      by_cases h76 : 76 < (a ++ 58 :: b0).length + wordLen rest
      · rw [lineGo_cut hr h76]
        obtain ⟨n', h⟩ := read_goes tail m b0 (rest.take (wordLen rest)) (rest.drop (wordLen rest)) out (n + 1) hdl (by rw [hsplit]; exact h13.right) (drop_word rest) ⟨t1 ++ n1, by rw [hw, ht1]; rfl⟩
        refine ⟨n', ?_⟩
        rw [show (a ++ 58 :: b0) ++ [13, 10] ++ lineGo (rest.take (wordLen rest)) (rest.drop (wordLen rest)) ++ tail = (a ++ 58 :: b0) ++ ([13, 10] ++ (lineGo (rest.take (wordLen rest)) (rest.drop (wordLen rest)) ++ tail)) by simp,
          readGo_line (.name ha h13.left) (by simp) (first_step out ha), h, List.append_assoc b0, hsplit]
      · rw [lineGo_go hr h76]
        obtain ⟨n', h⟩ := ih (b0 ++ rest.take (wordLen rest)) (rest.drop (wordLen rest)) out n hdl (by rw [List.append_assoc, hsplit]; exact h13) (drop_word rest)
        refine ⟨n', ?_⟩
        rw [show a ++ 58 :: b0 ++ rest.take (wordLen rest) = a ++ 58 :: (b0 ++ rest.take (wordLen rest)) by simp, h, List.append_assoc b0, hsplit]
theorem valueB_N13 {v : B} (h : valueB v = true) : N13 v ∧ trimB v = v := by
  simp only [valueB, Bool.and_eq_true, List.all_eq_true, decide_eq_true_eq] at h
  refine ⟨fun c hc => ?_, h.2⟩
  have := h.1 c hc
  simp only [valC, decide_eq_true_eq] at this
  rintro rfl
  revert this
  decide
theorem read_writeF (f : B × B) (hf : okF f = true) (out : Fs) (n : Nat) (tail : B) : ∃ n', readGo out n (writeF f ++ tail) = readGo (out ++ [(f.1, 32 :: f.2)]) n' tail := by
  simp only [okF, Bool.and_eq_true] at hf
  obtain ⟨h13, _⟩ := valueB_N13 hf.2
  have hs := firstW_split f.2
  have h13' : N13 (32 :: firstW f.2 ++ f.2.drop (firstW f.2).length) := by
    rw [List.cons_append, hs]
    exact fun c hc => by
      rcases List.mem_cons.1 hc with rfl | hc
      · decide
      · exact h13 c hc
  obtain ⟨n', h⟩ := read_first tail hf.1 _ (32 :: firstW f.2) (f.2.drop (firstW f.2).length) out n (Nat.le_refl _) h13' (firstW_bl f.2)
  refine ⟨n', ?_⟩
  rw [writeF, show f.1 ++ [58, 32] ++ firstW f.2 = f.1 ++ 58 :: (32 :: firstW f.2) by simp, h, List.cons_append, hs]
def writeAll (l : Fs) : B := (l.map writeF).flatten
theorem writeGo_ok : ∀ (l : Fs) (n : Nat) (out : B), rightB l = true → writeGo n out l = .ok (out ++ writeAll l ++ [13, 10])
  | [], n, out, _ => by simp [writeGo, writeAll]
  | f :: r, n, out, h => by
    simp only [rightB, List.all_cons, Bool.and_eq_true] at h
    rw [writeGo, h.1]
    simp only
    rw [writeGo_ok r (n + 1) (out ++ writeF f) h.2]
    simp [writeAll]
theorem writeGo_bad : ∀ (l : Fs) (n : Nat) (out : B), rightB l = false → ∃ k, writeGo n out l = .bad k
  | [], n, out, h => by simp [rightB] at h
  | f :: r, n, out, h => by
    rw [writeGo]
    cases hf : okF f with
    | false => exact ⟨n, rfl⟩
    | true =>
      simp only [rightB, List.all_cons, hf, Bool.true_and] at h
      exact writeGo_bad r _ _ h
theorem read_all (rest : B) : ∀ (l out : Fs) (n : Nat), rightB l = true → readGo out n (writeAll l ++ ([13, 10] ++ rest)) = .ok (out ++ l.map fun f => (f.1, 32 :: f.2)) rest
  | [], out, n, _ => by
    have hc := cut_here (x := []) (y := rest) (sub := [13, 10]) rfl (fun c h => by cases h)
    rw [List.nil_append] at hc
    show readGo out n ([] ++ ([13, 10] ++ rest)) = _
    rw [List.nil_append, readGo_end (by simp) (by rw [hc]), hc]
    simp
  | f :: r, out, n, h => by
    simp only [rightB, List.all_cons, Bool.and_eq_true] at h
    have e : writeAll (f :: r) = writeF f ++ writeAll r := rfl
    obtain ⟨n', hr⟩ := read_writeF f h.1 out n (writeAll r ++ ([13, 10] ++ rest))
    rw [e, List.append_assoc, hr, read_all rest r _ n' h.2]
    simp
theorem trimB_blank (v : B) : trimB (32 :: v) = trimB v := by
  unfold trimB Lib.trimS Lib.trimRightS Lib.trimLeftS
  rw [List.reverse_cons, List.dropWhile_append]
  cases hd : v.reverse.dropWhile (fun c => ([32, 9] : B).contains c) with
  | nil => simp
  | cons c t => simp
theorem clean_back : ∀ (l out : Fs) (n : Nat), rightB l = true → cleanGo n out (l.map fun f => (f.1, 32 :: f.2)) = .ok (out ++ l)
  | [], out, n, _ => by simp [cleanGo]
  | f :: r, out, n, h => by
    simp only [rightB, List.all_cons, Bool.and_eq_true] at h
    have hf := h.1
    simp only [okF, Bool.and_eq_true] at hf
    have ht := (valueB_N13 hf.2).2
    rw [List.map_cons, cleanGo]
    simp only
    rw [trimB_blank, ht, hf.2]
    simp only
    rw [clean_back r _ _ h.2]
    simp
/-- no line is longer than it must be: what the law asks of a line -/
def longB (x : B) : Bool := Lib.contains (Lib.trimLeftS (x.drop (Lib.index x [58] + 1).toNat) [32]) [32]
def lineOk (x : B) : Prop := ¬ (76 < x.length ∧ longB x = true ∧ x.getD 0 0 = 32)
theorem contains_no {n : B} (h : ∀ c ∈ n, c ≠ 32) : Lib.contains n [32] = false := by
  unfold Lib.contains
  rw [index_none (sub := [32]) rfl h]
  rfl
theorem trimL_word {b n : B} (hb : ∀ c ∈ b, c = 32) (hn : ∀ c ∈ n, c ≠ 32) : Lib.trimLeftS (b ++ n) [32] = n := by
  unfold Lib.trimLeftS
  rw [List.dropWhile_append_of_pos (fun c hc => by rw [hb c hc]; rfl)]
  cases n with
  | nil => rfl
  | cons c n =>
    rw [List.dropWhile_cons, if_neg]
    have := hn c List.mem_cons_self
    simpa using this
theorem one_word {b n : B} (hb : ∀ c ∈ b, c = 32) (hn : ∀ c ∈ n, c ≠ 32) : longB (b ++ n) = false := by
  have key : ∀ k, ∃ b' n', (b ++ n).drop k = b' ++ n' ∧ (∀ c ∈ b', c = 32) ∧ (∀ c ∈ n', c ≠ 32) := fun k =>
    ⟨b.drop k, n.drop (k - b.length), List.drop_append, fun c hc => hb c (List.mem_of_mem_drop hc), fun c hc => hn c (List.mem_of_mem_drop hc)⟩
  obtain ⟨b', n', h1, h2, h3⟩ := key (Lib.index (b ++ n) [58] + 1).toNat
  unfold longB
  rw [h1, trimL_word h2 h3]
  exact contains_no h3
def headOk (x : B) : Prop := x.getD 0 0 ≠ 32 ∨ x.length ≤ 76 ∨ longB x = false
theorem headOk.line {x : B} (h : headOk x) : lineOk x := fun ⟨h1, h2, h3⟩ => by
  rcases h with h | h | h
  · exact h h3
  · omega
  · rw [h] at h2; cases h2
theorem lines_go (tail : B) (ht : ∀ x ∈ splitC tail, lineOk x) : ∀ (m : Nat) (head rest : B), rest.length ≤ m → N13 (head ++ rest) → Bl0 rest → headOk head → ∀ x ∈ splitC (lineGo head rest ++ tail), lineOk x := by
  intro m
  have fin : ∀ head : B, N13 head → headOk head → ∀ x ∈ splitC (lineGo head [] ++ tail), lineOk x := fun head h13 hh x hx => by
    rw [lineGo_nil, show head ++ [13, 10] ++ tail = head ++ 13 :: 10 :: tail by simp, splitC_line head h13] at hx
    rcases List.mem_cons.1 hx with rfl | hx
    · exact hh.line
    · exact ht x hx
  induction m with
  | zero =>
    intro head rest hm h13 _ hh
    have : rest = [] := List.eq_nil_of_length_eq_zero (by omega)
    subst this
    exact fin head h13.left hh
  | succ m ih =>
    intro head rest hm h13 hb hh
    by_cases hr : rest = []
    · subst hr
      exact fin head h13.left hh
    · have hp := wordLen_pos hr
      have hle := wordLen_le rest
      have hdl : (rest.drop (wordLen rest)).length ≤ m := by rw [List.length_drop]; omega
      have hsplit := List.take_append_drop (wordLen rest) rest
      obtain ⟨b1, n1, hw, hb1, hn1, t1, ht1⟩ := take_word hb hr
      by_cases h76 : 76 < head.length + wordLen rest
      · rw [lineGo_cut hr h76]
        intro x hx
        rw [show head ++ [13, 10] ++ lineGo (rest.take (wordLen rest)) (rest.drop (wordLen rest)) ++ tail = head ++ 13 :: 10 :: (lineGo (rest.take (wordLen rest)) (rest.drop (wordLen rest)) ++ tail) by simp, splitC_line head h13.left] at hx
        rcases List.mem_cons.1 hx with rfl | hx
        · exact hh.line
        · exact ih _ _ hdl (by rw [hsplit]; exact h13.right) (drop_word rest) (.inr (.inr (by rw [hw]; exact one_word hb1 hn1))) x hx
      · rw [lineGo_go hr h76]
        have hl : (head ++ rest.take (wordLen rest)).length ≤ 76 := by rw [List.length_append, List.length_take]; omega
        exact ih _ _ hdl (by rw [List.append_assoc, hsplit]; exact h13) (drop_word rest) (.inr (.inl hl))
theorem lines_all : ∀ (l : Fs), rightB l = true → ∀ x ∈ splitC (writeAll l ++ [13, 10]), lineOk x
  | [], _ => by
    intro x hx
    have : splitC (writeAll [] ++ [13, 10]) = [[], []] := by rfl
    rw [this] at hx
    have : x = [] := by simpa using hx
    subst this
    exact fun h => absurd h.1 (by decide)
  | f :: r, h => by
    simp only [rightB, List.all_cons, Bool.and_eq_true] at h
    have hf := h.1
    simp only [okF, Bool.and_eq_true] at hf
    obtain ⟨h13, _⟩ := valueB_N13 hf.2
    have hs := firstW_split f.2
    have e : writeAll (f :: r) = writeF f ++ writeAll r := rfl
    rw [e, List.append_assoc, writeF]
    refine lines_go _ (lines_all r h.2) _ _ _ (Nat.le_refl _) ?_ (firstW_bl f.2) (.inl ?_)
    · rw [List.append_assoc, hs, show f.1 ++ [58, 32] ++ f.2 = f.1 ++ 58 :: (32 :: f.2) by simp]
      exact .name hf.1 (fun c hc => by
        rcases List.mem_cons.1 hc with rfl | hc
        · decide
        · exact h13 c hc)
    · obtain ⟨h1, h2⟩ := nameB_facts hf.1
      cases ha : f.1 with
      | nil => exact absurd ha h2
      | cons c a =>
        have := (h1 c (by rw [ha]; exact List.mem_cons_self)).2.2.1
        simpa using this
end Go.Proofs.YtignjjnflcpiiaaDoor
