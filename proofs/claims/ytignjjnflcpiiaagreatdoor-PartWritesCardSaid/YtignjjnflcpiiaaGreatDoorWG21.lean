import Derived.Test.YtignjjnflcpiiaaGreatDoorWG20
import Derived.Test.YtignjjnflcpiiaaGreatDoorWPlain1
import Derived.Test.YtignjjnflcpiiaaGreatDoorWKindB
import Derived.Lib.ItoaNum
import Derived.Lib.IndexMore
set_option linter.unusedVariables false
set_option linter.unusedSimpArgs false
set_option maxHeartbeats 1000000
namespace Go.Proofs.YtignjjnflcpiiaaGreatDoor
open Go.RowKit
def nb (c : UInt8) : Bool := c != 32
def bl (c : UInt8) : Bool := c == 32
def wordLen (r : B) : Nat := (r.takeWhile bl).length + ((r.dropWhile bl).takeWhile nb).length
theorem wordLen_le (r : B) : wordLen r ≤ r.length := by
  unfold wordLen
  have h1 := congrArg List.length (List.takeWhile_append_dropWhile (p := bl) (l := r))
  have h2 := congrArg List.length (List.takeWhile_append_dropWhile (p := nb) (l := r.dropWhile bl))
  rw [List.length_append] at h1 h2
  omega
theorem wordLen_pos {r : B} (h : r ≠ []) : 0 < wordLen r := by
  cases r with
  | nil => exact absurd rfl h
  | cons c r =>
    unfold wordLen
    cases hc : bl c with
    | true => rw [List.takeWhile_cons, if_pos hc]; simp only [List.length_cons]; omega
    | false =>
      have : nb c = true := by have hc' : (c == 32) = false := hc; simp [nb, bne, hc']
      rw [List.takeWhile_cons, List.dropWhile_cons, if_neg (by simp [hc]), if_neg (by simp [hc]), List.takeWhile_cons, if_pos this]
      simp
def lineGo (head rest : B) : B :=
  if h : rest = [] then head ++ [13, 10]
  else if 76 < head.length + wordLen rest then head ++ [13, 10] ++ lineGo (rest.take (wordLen rest)) (rest.drop (wordLen rest))
  else lineGo (head ++ rest.take (wordLen rest)) (rest.drop (wordLen rest))
termination_by rest.length
decreasing_by all_goals (have := wordLen_pos h; have := wordLen_le rest; simp only [List.length_drop]; omega)
theorem lineGo_nil (head : B) : lineGo head [] = head ++ [13, 10] := by rw [lineGo, dif_pos rfl]
theorem lineGo_cut {head rest : B} (h : rest ≠ []) (h1 : 76 < head.length + wordLen rest) : lineGo head rest = head ++ [13, 10] ++ lineGo (rest.take (wordLen rest)) (rest.drop (wordLen rest)) := by rw [lineGo, dif_neg h, if_pos h1]
theorem lineGo_go {head rest : B} (h : rest ≠ []) (h1 : ¬ 76 < head.length + wordLen rest) : lineGo head rest = lineGo (head ++ rest.take (wordLen rest)) (rest.drop (wordLen rest)) := by rw [lineGo, dif_neg h, if_neg h1]
def firstW (v : B) : B := v.takeWhile nb
def writeF (f : B × B) : B := lineGo (f.1 ++ [58, 32] ++ firstW f.2) (f.2.drop (firstW f.2).length)
def refGo (s line word : B) (first pb : Bool) : B → B
  | [] => if first = false ∧ word ≠ [] ∧ 76 < line.length + word.length then s ++ (line ++ [13, 10]) ++ word ++ [13, 10] else s ++ (line ++ word) ++ [13, 10]
  | c :: r => if c = 32 ∧ pb = false then
      (if first = false ∧ word ≠ [] ∧ 76 < line.length + word.length then refGo (s ++ (line ++ [13, 10])) word [c] false true r else refGo s (line ++ word) [c] false true r)
    else refGo s line (word ++ [c]) first (c == 32) r
theorem wordLen_word {b n r : B} (hb : ∀ c ∈ b, c = 32) (hn : ∀ c ∈ n, c ≠ 32) (hne : n ≠ []) (hr : ∀ c, r.head? = some c → c = 32) : wordLen (b ++ n ++ r) = (b ++ n).length := by
  have hb' : ∀ c ∈ b, bl c = true := fun c hc => by simp [bl, hb c hc]
  have hn' : ∀ c ∈ n, nb c = true := fun c hc => by simp [nb, hn c hc]
  have e1 : (b ++ n ++ r).takeWhile bl = b := by
    rw [List.append_assoc, List.takeWhile_append_of_pos hb']
    cases n with
    | nil => exact absurd rfl hne
    | cons c n =>
      have : bl c = false := by simp [bl, hn c List.mem_cons_self]
      simp [this]
  have e2 : (b ++ n ++ r).dropWhile bl = n ++ r := by
    rw [List.append_assoc, List.dropWhile_append_of_pos hb']
    cases n with
    | nil => exact absurd rfl hne
    | cons c n =>
      have : bl c = false := by simp [bl, hn c List.mem_cons_self]
      simp [this]
  have e3 : (n ++ r).takeWhile nb = n := by
    rw [List.takeWhile_append_of_pos hn']
    cases r with
    | nil => simp
    | cons c r =>
      have : nb c = false := by simp [nb, hr c rfl]
      simp [this]
  unfold wordLen
  rw [e1, e2, e3, List.length_append]
theorem wordLen_blank {b : B} (hb : ∀ c ∈ b, c = 32) : wordLen b = b.length := by
  have hb' : ∀ c ∈ b, bl c = true := fun c hc => by simp [bl, hb c hc]
  have e1 : b.takeWhile bl = b := by have := List.takeWhile_append_of_pos (l₂ := []) hb'; simpa using this
  have e2 : b.dropWhile bl = [] := by have := List.dropWhile_append_of_pos (l₂ := []) hb'; simpa using this
  unfold wordLen
  rw [e1, e2]
  simp
def Open (word : B) (pb : Bool) : Prop := ∃ b n : B, word = b ++ n ∧ (∀ c ∈ b, c = 32) ∧ (∀ c ∈ n, c ≠ 32) ∧ (pb = true → n = []) ∧ (pb = false → n ≠ [])
theorem Open.whole {word r : B} {pb : Bool} (h : Open word pb) (hr : r = [] ∨ pb = false ∧ ∃ r', r = 32 :: r') : wordLen (word ++ r) = word.length := by
  obtain ⟨b, n, rfl, hb, hn, h1, h2⟩ := h
  cases pb with
  | true =>
    rcases hr with rfl | ⟨h, _⟩
    · rw [h1 rfl]; simpa using wordLen_blank hb
    · cases h
  | false =>
    refine wordLen_word hb hn (h2 rfl) (fun c hc => ?_)
    rcases hr with rfl | ⟨_, r', rfl⟩
    · cases hc
    · simpa using hc.symm
theorem refGo_rest : ∀ (r s line word : B) (pb : Bool), word ≠ [] → Open word pb → refGo s line word false pb r = s ++ lineGo line (word ++ r)
  | [], s, line, word, pb, hw, ho => by
    have hl := ho.whole (.inl rfl)
    rw [List.append_nil] at hl ⊢
    rw [refGo]
    by_cases h : 76 < line.length + word.length
    · rw [if_pos ⟨rfl, hw, h⟩, lineGo_cut hw (by rw [hl]; exact h), hl, List.take_of_length_le (Nat.le_refl _), List.drop_of_length_le (Nat.le_refl _), lineGo_nil]
      simp
    · rw [if_neg (fun e => h e.2.2), lineGo_go hw (by rw [hl]; exact h), hl, List.take_of_length_le (Nat.le_refl _), List.drop_of_length_le (Nat.le_refl _), lineGo_nil]
      simp
  | c :: r, s, line, word, pb, hw, ho => by
    rw [refGo]
    by_cases hc : c = 32 ∧ pb = false
    · rw [if_pos hc]
      obtain ⟨rfl, rfl⟩ := hc
      have hl := ho.whole (r := 32 :: r) (.inr ⟨rfl, r, rfl⟩)
      have hne : word ++ 32 :: r ≠ [] := by simp
      have ho' : Open [32] true := ⟨[32], [], rfl, by simp, by simp, fun _ => rfl, fun h => by cases h⟩
      by_cases h : 76 < line.length + word.length
      · rw [if_pos ⟨rfl, hw, h⟩, refGo_rest r _ _ _ _ (by simp) ho', lineGo_cut hne (by rw [hl]; exact h), hl, List.take_left' rfl, List.drop_left' rfl]
        simp
      · rw [if_neg (fun e => h e.2.2), refGo_rest r _ _ _ _ (by simp) ho', lineGo_go hne (by rw [hl]; exact h), hl, List.take_left' rfl, List.drop_left' rfl]
        simp
    · rw [if_neg hc]
      have ho' : Open (word ++ [c]) (c == 32) := by
        obtain ⟨b, n, rfl, hb, hn, h1, h2⟩ := ho
        by_cases h32 : c = 32
        · subst h32
          have hp : pb = true := by cases pb <;> simp_all
          have := h1 hp
          subst this
          exact ⟨b ++ [32], [], by simp, fun c hc => by rcases List.mem_append.1 hc with h | h; exact hb c h; simpa using h, by simp, fun _ => rfl, fun h => by simp at h⟩
        · refine ⟨b, n ++ [c], by simp, hb, fun d hd => by rcases List.mem_append.1 hd with h | h; exact hn d h; rw [List.mem_singleton.1 h]; exact h32, fun h => absurd (by simpa using h) h32, fun _ => by simp⟩
      rw [refGo_rest r _ _ _ _ (by simp) ho']
      simp
theorem refGo_first : ∀ (r s line word : B), (∀ c ∈ word, c ≠ 32) → refGo s line word true false r = s ++ lineGo (line ++ word ++ firstW r) (r.drop (firstW r).length)
  | [], s, line, word, hw => by
    rw [refGo, if_neg (fun e => by cases e.1)]
    simp [firstW, lineGo_nil]
  | c :: r, s, line, word, hw => by
    rw [refGo]
    by_cases hc : c = 32
    · subst hc
      rw [if_pos ⟨rfl, rfl⟩, if_neg (fun e => by cases e.1), refGo_rest r s (line ++ word) [32] true (by simp) ⟨[32], [], rfl, by simp, by simp, fun _ => rfl, fun h => by cases h⟩]
      have : firstW (32 :: r) = [] := by simp [firstW, nb]
      rw [this]
      simp
    · rw [if_neg (fun e => hc e.1)]
      have e1 : (c == 32) = false := by simp [hc]
      have e2 : firstW (c :: r) = c :: firstW r := by
        have hn : nb c = true := by simp [nb, hc]
        rw [firstW, List.takeWhile_cons, if_pos hn]; rfl
      rw [e1, refGo_first r _ _ _ (fun d hd => by rcases List.mem_append.1 hd with h | h; exact hw d h; rw [List.mem_singleton.1 h]; exact hc), e2]
      simp
theorem refGo_field (s : B) (f : B × B) : refGo s (f.1 ++ [58, 32]) [] true false f.2 = s ++ writeF f := by
  rw [refGo_first _ _ _ _ (fun c h => by cases h), writeF]
  simp
inductive WRes where
  | ok (s : B)
  | bad (n : Nat)
def writeGo : Nat → B → Fs → WRes
  | _, out, [] => .ok (out ++ [13, 10])
  | n, out, f :: r => match okF f with
    | true => writeGo (n + 1) (out ++ writeF f) r
    | false => .bad n
def writeH (l : Fs) : WRes := writeGo 0 [] l
theorem lineGo_len : ∀ (m : Nat) (head rest : B), rest.length ≤ m → (lineGo head rest).length ≤ head.length + 3 * rest.length + 2
  | m, head, [], _ => by rw [lineGo_nil]; simp
  | 0, head, c :: r, h => by simp at h
  | m + 1, head, c :: r, h => by
    have h1 := wordLen_pos (r := c :: r) (by simp)
    have h2 := wordLen_le (c :: r)
    have h3 : ((c :: r).drop (wordLen (c :: r))).length = (c :: r).length - wordLen (c :: r) := List.length_drop
    have h4 : ((c :: r).take (wordLen (c :: r))).length = wordLen (c :: r) := by rw [List.length_take]; omega
    by_cases h76 : 76 < head.length + wordLen (c :: r)
    · rw [lineGo_cut (by simp) h76]
      have := lineGo_len m ((c :: r).take (wordLen (c :: r))) ((c :: r).drop (wordLen (c :: r))) (by omega)
      simp only [List.length_append, List.length_cons, List.length_nil] at *
      omega
    · rw [lineGo_go (by simp) h76]
      have := lineGo_len m (head ++ (c :: r).take (wordLen (c :: r))) ((c :: r).drop (wordLen (c :: r))) (by omega)
      simp only [List.length_append, List.length_cons, List.length_nil] at *
      omega
theorem firstW_len (v : B) : (firstW v).length ≤ v.length := (List.takeWhile_sublist _).length_le
theorem writeF_len (f : B × B) : (writeF f).length ≤ f.1.length + 3 * f.2.length + 4 := by
  unfold writeF
  have h1 := lineGo_len _ (f.1 ++ [58, 32] ++ firstW f.2) (f.2.drop (firstW f.2).length) (Nat.le_refl _)
  have h2 := firstW_len f.2
  simp only [List.length_append, List.length_cons, List.length_nil, List.length_drop] at h1
  omega
theorem index_skip {x y sub : B} {a : UInt8} {t : B} (hs : sub = a :: t) (hx : ∀ c ∈ x, c ≠ a) (h : 0 ≤ Lib.index y sub) : Lib.index (x ++ y) sub = x.length + Lib.index y sub := by
  induction x with
  | nil => simp
  | cons c x ih =>
    have ih := ih (fun d hd => hx d (List.mem_cons_of_mem _ hd))
    subst hs
    have hc : c ≠ a := hx c List.mem_cons_self
    have hp : (a :: t).isPrefixOf (c :: x ++ y) = false := by
      simp only [List.cons_append, List.isPrefixOf, Bool.and_eq_false_iff]
      exact .inl (by simpa using fun e => hc e.symm)
    rw [List.cons_append] at hp ⊢
    rw [Lib.index, hp, ih]
    simp only [List.length_cons]
    rw [if_neg (by simp), if_neg (by simp; omega)]
    omega
theorem index_none {x sub : B} {a : UInt8} {t : B} (hs : sub = a :: t) (hx : ∀ c ∈ x, c ≠ a) : Lib.index x sub = -1 := by
  induction x with
  | nil => subst hs; rfl
  | cons c x ih =>
    have ih := ih (fun d hd => hx d (List.mem_cons_of_mem _ hd))
    subst hs
    have hc : c ≠ a := hx c List.mem_cons_self
    have hp : (a :: t).isPrefixOf (c :: x) = false := by
      simp only [List.isPrefixOf, Bool.and_eq_false_iff]
      exact .inl (by simpa using fun e => hc e.symm)
    rw [Lib.index, hp, ih]
    rfl
theorem index_self (sub y : B) : Lib.index (sub ++ y) sub = 0 := by
  cases h : sub ++ y with
  | nil =>
    have : sub = [] := (List.append_eq_nil_iff.1 h).1
    subst this; rfl
  | cons c r =>
    rw [Lib.index, ← h, if_pos (by simp)]
theorem cut_here {x y sub : B} {a : UInt8} {t : B} (hs : sub = a :: t) (hx : ∀ c ∈ x, c ≠ a) : Lib.cut (x ++ (sub ++ y)) sub = (x, y, true) := by
  have h1 := index_skip (y := sub ++ y) hs hx (by rw [index_self]; exact Int.le_refl _)
  rw [index_self] at h1
  unfold Lib.cut
  rw [h1, if_pos (by omega)]
  simp
theorem cut_no {x sub : B} {a : UInt8} {t : B} (hs : sub = a :: t) (hx : ∀ c ∈ x, c ≠ a) : Lib.cut x sub = (x, [], false) := by
  unfold Lib.cut
  rw [index_none hs hx, if_neg (by omega)]
end Go.Proofs.YtignjjnflcpiiaaGreatDoor
namespace Go.Proofs.YtignjjnflcpiiaaGreatDoor
open Go.RowKit
def N13 (s : B) : Prop := ∀ c ∈ s, c ≠ 13
theorem N13.left {x y : B} (h : N13 (x ++ y)) : N13 x := fun c hc => h c (List.mem_append_left _ hc)
theorem nameB_facts {a : B} (h : nameB a = true) : (∀ c ∈ a, c ≠ 58 ∧ c ≠ 13 ∧ c ≠ 32 ∧ c ≠ 9) ∧ a ≠ [] := by
  simp only [nameB, Bool.and_eq_true, Bool.not_eq_true', List.all_eq_true] at h
  refine ⟨fun c hc => ?_, fun e => by rw [e] at h; simp at h⟩
  have := h.1 c hc
  simp only [nameC, decide_eq_true_eq] at this
  refine ⟨?_, ?_, ?_, ?_⟩ <;> rintro rfl <;> revert this <;> decide
theorem N13.name {a b : B} (ha : nameB a = true) (h : N13 b) : N13 (a ++ 58 :: b) := fun c hc => by
  rcases List.mem_append.1 hc with h' | h'
  · exact ((nameB_facts ha).1 c h').2.1
  · rcases List.mem_cons.1 h' with rfl | h'
    · decide
    · exact h c h'
def writeAll (l : Fs) : B := (l.map writeF).flatten
theorem writeGo_ok : ∀ (l : Fs) (n : Nat) (out : B), rightB l = true → writeGo n out l = .ok (out ++ writeAll l ++ [13, 10])
  | [], n, out, _ => by simp [writeGo, writeAll]
  | f :: r, n, out, h => by
    simp only [rightB, List.all_cons, Bool.and_eq_true] at h
    rw [writeGo, h.1]
    simp only
    rw [writeGo_ok r (n + 1) (out ++ writeF f) h.2]
    simp [writeAll]
def longB (x : B) : Bool := Lib.contains (Lib.trimLeftS (x.drop (Lib.index x [58] + 1).toNat) [32]) [32]
def lineOk (x : B) : Prop := ¬ (76 < x.length ∧ longB x = true ∧ x.getD 0 0 = 32)
def headOk (x : B) : Prop := x.getD 0 0 ≠ 32 ∨ x.length ≤ 76 ∨ longB x = false
theorem headOk.line {x : B} (h : headOk x) : lineOk x := fun ⟨h1, h2, h3⟩ => by
  rcases h with h | h | h
  · exact h h3
  · omega
  · rw [h] at h2; cases h2
end Go.Proofs.YtignjjnflcpiiaaGreatDoor
namespace Go.Proofs.YtignjjnflcpiiaaGreatDoor
def ctB : B := [99, 111, 110, 116, 101, 110, 116, 45, 116, 121, 112, 101]
def ceB : B := [99, 111, 110, 116, 101, 110, 116, 45, 116, 114, 97, 110, 115, 102, 101, 114, 45, 101, 110, 99, 111, 100, 105, 110, 103]
def bndN : B := [98, 111, 117, 110, 100, 97, 114, 121]
def mulB : B := [109, 117, 108, 116, 105, 112, 97, 114, 116, 47]
def ceN : B := [67, 111, 110, 116, 101, 110, 116, 45, 84, 114, 97, 110, 115, 102, 101, 114, 45, 69, 110, 99, 111, 100, 105, 110, 103]
def ctN : B := [67, 111, 110, 116, 101, 110, 116, 45, 84, 121, 112, 101]
def b7 : B := [55, 98, 105, 116]
def b64 : B := [98, 97, 115, 101, 54, 52]
def bQP : B := [113, 117, 111, 116, 101, 100, 45, 112, 114, 105, 110, 116, 97, 98, 108, 101]
def getF (l : List (B × B)) (n : B) : Option B := (l.find? (fun f => decide (lowB f.1 = n))).map (·.2)
def bndVal (ps : List (B × B)) : Option B := (ps.find? (fun p => decide (p.1 = bndN))).map (·.2)
def bndGood (b : B) : Bool := decide (1 ≤ b.length ∧ b.length ≤ 70) && !(b.getLast? == some 32)
def bndF (l : List (B × B)) : Option (Option B) := match getF l ctB with
  | none => some none
  | some v => match readK tokC blk lowC v with
    | none => none
    | some (m, ps) => match mulB.isPrefixOf m with
      | false => some none
      | true => match bndVal ps with
        | none => none
        | some b => match bndGood b with
          | true => some (some b)
          | false => none
def markF (b x : B) : Option Bool := match (45 :: 45 :: b).isPrefixOf x with
  | false => none
  | true => match trimB (x.drop (b.length + 2)) with
    | [] => some false
    | [45, 45] => some true
    | _ => none
def joinC : List B → B
  | [] => []
  | [x] => x
  | x :: y :: r => x ++ 13 :: 10 :: joinC (y :: r)
def cutGo (b : B) : Bool → List B → List B → List B → Option (List B)
  | _, _, _, [] => none
  | op, acc, out, x :: r => match markF b x with
    | none => cutGo b op (acc ++ [x]) out r
    | some e => match e, op with
      | true, true => some (out ++ [joinC acc])
      | true, false => some out
      | false, true => cutGo b true [] (out ++ [joinC acc]) r
      | false, false => cutGo b true [] out r
def cutF (b s : B) : Option (List B) := cutGo b false [] [] (splitC s)
inductive Res (α : Type) where
  | ok (a : α)
  | err (e : Nat)
def setBnd (b : B) : List (B × B) → List (B × B)
  | [] => []
  | p :: r => if p.1 = bndN then (p.1, b) :: r else p :: setBnd b r
def renameF (v b : B) : B := match readK tokC blk lowC v with
  | none => []
  | some (m, ps) => match writeK tokC lowC m (setBnd b ps) with
    | .ok t => t
    | .bad _ => []
def renHead (b : B) : List (B × B) → List (B × B)
  | [] => []
  | f :: r => if lowB f.1 = ctB then (f.1, renameF f.2 b) :: r else f :: renHead b r
def noEnc (l : List (B × B)) : List (B × B) := l.filter (fun f => !decide (lowB f.1 = ceB))
def numB (n : Nat) : B := 98 :: Lib.decDigits n
def free (l : List B) (n : Nat) : Bool := l.all fun s => !Lib.contains s (45 :: 45 :: numB n)
def chooseGo (l : List B) : Nat → Nat → Nat
  | 0, n => n
  | k + 1, n => match free l n with
    | true => n
    | false => chooseGo l k (n + 1)
def spots (l : List B) : Nat := (l.map fun s => s.length + 1).sum
def chooseN (l : List B) : Nat := chooseGo l (100 * (spots l + 1)) 0
def asIs : B → Bool
  | [] => true
  | [c] => okCh c
  | c :: d :: r => if c = 13 ∧ d = 10 then asIs r else okCh c && asIs (d :: r)
def shortF (s : B) : B × B := match asIs s with
  | true => (b7, s)
  | false => if (quote s).length ≤ (pack s).length then (bQP, quote s) else (b64, pack s)
def okPt (p : PT) : Bool := rightB p.head && match bndF p.head with
  | none => false
  | some none => !p.many && p.parts.isEmpty
  | some (some _) => p.many && p.body.isEmpty
def writeKids (f : Nat → PT → Res (B × Nat)) : Nat → List PT → Res (List B × Nat)
  | left, [] => .ok ([], left)
  | left, p :: r => match f left p with
    | .err e => .err e
    | .ok (x, n) => match writeKids f n r with
      | .err e => .err e
      | .ok (l, n') => .ok (x :: l, n')
def headW (l : List (B × B)) : B := writeAll l ++ [13, 10]
def kidsW (b : B) (xs : List B) : B := xs.flatMap fun x => 45 :: 45 :: (b ++ 13 :: 10 :: (x ++ [13, 10]))
def bodyW (b : B) (xs : List B) : B := kidsW b xs ++ 45 :: 45 :: (b ++ [45, 45, 13, 10])
def leafH (p : PT) : List (B × B) := noEnc p.head ++ [(ceN, (shortF p.body).1)]
def writePt : Nat → Nat → PT → Res (B × Nat)
  | 0, _, _ => .err 4
  | _ + 1, 0, _ => .err 4
  | d + 1, left + 1, p => match okPt p with
    | false => .err 1
    | true => match p.many with
      | false => .ok (headW (leafH p) ++ (shortF p.body).2, left)
      | true => match writeKids (writePt d) left p.parts with
        | .err e => .err e
        | .ok (xs, n) => .ok (headW (renHead (numB (chooseN xs)) (noEnc p.head)) ++ bodyW (numB (chooseN xs)) xs, n)
def writeTop (p : PT) : Res B := match writePt 4 40 p with
  | .err e => .err e
  | .ok (s, _) => if 20000 < s.length then .err 4 else .ok s
def oursF (many : Bool) : Bool → List (B × B) → List (B × B)
  | _, [] => []
  | first, f :: r => if lowB f.1 = ceB then oursF many first r else
    if lowB f.1 = ctB then (f.1, if (first && many) = true then [] else f.2) :: oursF many false r else f :: oursF many first r
mutual
def likesB : PT → PT → Bool
  | .mk h b m ps, .mk h' b' m' ps' => decide (b = b' ∧ m = m' ∧ ps.length = ps'.length ∧ oursF m true h = oursF m true h') && likesL ps ps'
def likesL : List PT → List PT → Bool
  | [], _ => true
  | _ :: _, [] => true
  | p :: r, q :: s => likesB p q && likesL r s
end
end Go.Proofs.YtignjjnflcpiiaaGreatDoor
