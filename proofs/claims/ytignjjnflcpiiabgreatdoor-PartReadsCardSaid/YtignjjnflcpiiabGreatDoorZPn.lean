import Derived.Test.YtignjjnflcpiiabGreatDoorZHeadG
import Derived.Test.YtignjjnflcpiiabGreatDoorZPlain1
import Derived.Test.YtignjjnflcpiiabGreatDoorZKindB
import Derived.Lib.ItoaNum
import Derived.Lib.IndexMore
import Derived.Lib.ItoaLen
set_option linter.unusedVariables false
set_option linter.unusedSimpArgs false
set_option maxHeartbeats 1000000
namespace Go.Proofs.YtignjjnflcpiiabGreatDoor
open Go.RowKit
attribute [local irreducible] Tri Steps Qd Wr Weak CPure CEff
set_option maxRecDepth 100000
end Go.Proofs.YtignjjnflcpiiabGreatDoor
namespace Go.Proofs.YtignjjnflcpiiabGreatDoor
open Go.RowKit
def nb (c : UInt8) : Bool := c != 32
def bl (c : UInt8) : Bool := c == 32
def wordLen (r : B) : Nat := (r.takeWhile bl).length + ((r.dropWhile bl).takeWhile nb).length
theorem wordLen_word {b n r : B} (hb : ∀ c ∈ b, c = 32) (hn : ∀ c ∈ n, c ≠ 32) (hne : n ≠ []) (hr : ∀ c, r.head? = some c → c = 32) : wordLen (b ++ n ++ r) = (b ++ n).length := by
  have hb' : ∀ c ∈ b, bl c = true := fun c hc => by simp [bl, hb c hc]
  have hn' : ∀ c ∈ n, nb c = true := fun c hc => by simp [nb, hn c hc]
  have e1 : (b ++ n ++ r).takeWhile bl = b := by
    rw [List.append_assoc, List.takeWhile_append_of_pos hb']
    cases n with
    | nil => exact absurd rfl hne
    | cons c n =>
      have : bl c = false := by simp [bl, hn c List.mem_cons_self]
      simp [this]
  have e2 : (b ++ n ++ r).dropWhile bl = n ++ r := by
    rw [List.append_assoc, List.dropWhile_append_of_pos hb']
    cases n with
    | nil => exact absurd rfl hne
    | cons c n =>
      have : bl c = false := by simp [bl, hn c List.mem_cons_self]
      simp [this]
  have e3 : (n ++ r).takeWhile nb = n := by
    rw [List.takeWhile_append_of_pos hn']
    cases r with
    | nil => simp
    | cons c r =>
      have : nb c = false := by simp [nb, hr c rfl]
      simp [this]
  unfold wordLen
  rw [e1, e2, e3, List.length_append]
theorem wordLen_blank {b : B} (hb : ∀ c ∈ b, c = 32) : wordLen b = b.length := by
  have hb' : ∀ c ∈ b, bl c = true := fun c hc => by simp [bl, hb c hc]
  have e1 : b.takeWhile bl = b := by have := List.takeWhile_append_of_pos (l₂ := []) hb'; simpa using this
  have e2 : b.dropWhile bl = [] := by have := List.dropWhile_append_of_pos (l₂ := []) hb'; simpa using this
  unfold wordLen
  rw [e1, e2]
  simp
def Open (word : B) (pb : Bool) : Prop := ∃ b n : B, word = b ++ n ∧ (∀ c ∈ b, c = 32) ∧ (∀ c ∈ n, c ≠ 32) ∧ (pb = true → n = []) ∧ (pb = false → n ≠ [])
theorem Open.whole {word r : B} {pb : Bool} (h : Open word pb) (hr : r = [] ∨ pb = false ∧ ∃ r', r = 32 :: r') : wordLen (word ++ r) = word.length := by
  obtain ⟨b, n, rfl, hb, hn, h1, h2⟩ := h
  cases pb with
  | true =>
    rcases hr with rfl | ⟨h, _⟩
    · rw [h1 rfl]; simpa using wordLen_blank hb
    · cases h
  | false =>
    refine wordLen_word hb hn (h2 rfl) (fun c hc => ?_)
    rcases hr with rfl | ⟨_, r', rfl⟩
    · cases hc
    · simpa using hc.symm
inductive WRes where
  | ok (s : B)
  | bad (n : Nat)
end Go.Proofs.YtignjjnflcpiiabGreatDoor
namespace Go.Proofs.YtignjjnflcpiiabGreatDoor
open Go.RowKit
def N13 (s : B) : Prop := ∀ c ∈ s, c ≠ 13
theorem N13.left {x y : B} (h : N13 (x ++ y)) : N13 x := fun c hc => h c (List.mem_append_left _ hc)
theorem N13.right {x y : B} (h : N13 (x ++ y)) : N13 y := fun c hc => h c (List.mem_append_right _ hc)
theorem nameB_facts {a : B} (h : nameB a = true) : (∀ c ∈ a, c ≠ 58 ∧ c ≠ 13 ∧ c ≠ 32 ∧ c ≠ 9) ∧ a ≠ [] := by
  simp only [nameB, Bool.and_eq_true, Bool.not_eq_true', List.all_eq_true] at h
  refine ⟨fun c hc => ?_, fun e => by rw [e] at h; simp at h⟩
  have := h.1 c hc
  simp only [nameC, decide_eq_true_eq] at this
  refine ⟨?_, ?_, ?_, ?_⟩ <;> rintro rfl <;> revert this <;> decide
theorem N13.name {a b : B} (ha : nameB a = true) (h : N13 b) : N13 (a ++ 58 :: b) := fun c hc => by
  rcases List.mem_append.1 hc with h' | h'
  · exact ((nameB_facts ha).1 c h').2.1
  · rcases List.mem_cons.1 h' with rfl | h'
    · decide
    · exact h c h'
end Go.Proofs.YtignjjnflcpiiabGreatDoor
namespace Go.Proofs.YtignjjnflcpiiabGreatDoor
def ctB : B := [99, 111, 110, 116, 101, 110, 116, 45, 116, 121, 112, 101]
def ceB : B := [99, 111, 110, 116, 101, 110, 116, 45, 116, 114, 97, 110, 115, 102, 101, 114, 45, 101, 110, 99, 111, 100, 105, 110, 103]
def bndN : B := [98, 111, 117, 110, 100, 97, 114, 121]
def mulB : B := [109, 117, 108, 116, 105, 112, 97, 114, 116, 47]
def ceN : B := [67, 111, 110, 116, 101, 110, 116, 45, 84, 114, 97, 110, 115, 102, 101, 114, 45, 69, 110, 99, 111, 100, 105, 110, 103]
def ctN : B := [67, 111, 110, 116, 101, 110, 116, 45, 84, 121, 112, 101]
def b7 : B := [55, 98, 105, 116]
def b8 : B := [56, 98, 105, 116]
def bBin : B := [98, 105, 110, 97, 114, 121]
def b64 : B := [98, 97, 115, 101, 54, 52]
def bQP : B := [113, 117, 111, 116, 101, 100, 45, 112, 114, 105, 110, 116, 97, 98, 108, 101]
def getF (l : List (B × B)) (n : B) : Option B := (l.find? (fun f => decide (lowB f.1 = n))).map (·.2)
def bndVal (ps : List (B × B)) : Option B := (ps.find? (fun p => decide (p.1 = bndN))).map (·.2)
def bndGood (b : B) : Bool := decide (1 ≤ b.length ∧ b.length ≤ 70) && !(b.getLast? == some 32)
def bndF (l : List (B × B)) : Option (Option B) := match getF l ctB with
  | none => some none
  | some v => match readK tokC blk lowC v with
    | none => none
    | some (m, ps) => match mulB.isPrefixOf m with
      | false => some none
      | true => match bndVal ps with
        | none => none
        | some b => match bndGood b with
          | true => some (some b)
          | false => none
def markF (b x : B) : Option Bool := match (45 :: 45 :: b).isPrefixOf x with
  | false => none
  | true => match trimB (x.drop (b.length + 2)) with
    | [] => some false
    | [45, 45] => some true
    | _ => none
def joinC : List B → B
  | [] => []
  | [x] => x
  | x :: y :: r => x ++ 13 :: 10 :: joinC (y :: r)
def cutGo (b : B) : Bool → List B → List B → List B → Option (List B)
  | _, _, _, [] => none
  | op, acc, out, x :: r => match markF b x with
    | none => cutGo b op (acc ++ [x]) out r
    | some e => match e, op with
      | true, true => some (out ++ [joinC acc])
      | true, false => some out
      | false, true => cutGo b true [] (out ++ [joinC acc]) r
      | false, false => cutGo b true [] out r
def cutF (b s : B) : Option (List B) := cutGo b false [] [] (splitC s)
inductive Res (α : Type) where
  | ok (a : α)
  | err (e : Nat)
def decodeF (l : List (B × B)) (s : B) : Res B := match getF l ceB with
  | none => .ok s
  | some v => if lowB v = b7 ∨ lowB v = b8 ∨ lowB v = bBin then .ok s
    else if lowB v = b64 then (match unpack s with | some x => .ok x | none => .err 3)
    else if lowB v = bQP then (match unquote s with | some x => .ok x | none => .err 3)
    else .err 5
def readKids (f : Nat → B → Res (PT × Nat)) : Nat → List B → Res (List PT × Nat)
  | left, [] => .ok ([], left)
  | left, x :: r => match f left x with
    | .err e => .err e
    | .ok (p, n) => match readKids f n r with
      | .err e => .err e
      | .ok (l, n') => .ok (p :: l, n')
def readPt : Nat → Nat → B → Res (PT × Nat)
  | 0, _, _ => .err 4
  | _ + 1, 0, _ => .err 4
  | d + 1, left + 1, s => match readH s with
    | .bad _ => .err 3
    | .ok l0 body => match cleanF l0 with
      | .bad _ => .err 1
      | .ok l => match bndF l with
        | none => .err 3
        | some none => match decodeF l body with
          | .err e => .err e
          | .ok x => .ok (.mk l x false [], left)
        | some (some b) => match cutF b body with
          | none => .err 3
          | some xs => match readKids (readPt d) left xs with
            | .err e => .err e
            | .ok (ps, n) => .ok (.mk l [] true ps, n)
def readTop (s : B) : Res PT := if 20000 < s.length then .err 4 else match readPt 4 40 s with
  | .ok (p, _) => .ok p
  | .err e => .err e
def oursF (many : Bool) : Bool → List (B × B) → List (B × B)
  | _, [] => []
  | first, f :: r => if lowB f.1 = ceB then oursF many first r else
    if lowB f.1 = ctB then (f.1, if (first && many) = true then [] else f.2) :: oursF many false r else f :: oursF many first r
mutual
def likesB : PT → PT → Bool
  | .mk h b m ps, .mk h' b' m' ps' => decide (b = b' ∧ m = m' ∧ ps.length = ps'.length ∧ oursF m true h = oursF m true h') && likesL ps ps'
def likesL : List PT → List PT → Bool
  | [], _ => true
  | _ :: _, [] => true
  | p :: r, q :: s => likesB p q && likesL r s
end
theorem joinC_cons (x : B) {l : List B} (h : l ≠ []) : joinC (x :: l) = x ++ 13 :: 10 :: joinC l := by
  cases l with
  | nil => exact absurd rfl h
  | cons y r => rfl
end Go.Proofs.YtignjjnflcpiiabGreatDoor
namespace Go.Proofs.YtignjjnflcpiiabGreatDoor
theorem getF_cons (f : B × B) (r : List (B × B)) (n : B) : getF (f :: r) n = if lowB f.1 = n then some f.2 else getF r n := by
  unfold getF
  rw [List.find?_cons]
  by_cases h : lowB f.1 = n
  · rw [if_pos h, decide_eq_true h]; rfl
  · rw [if_neg h, decide_eq_false h]
theorem getF_mem : ∀ {l : List (B × B)} {n v : B}, getF l n = some v → ∃ f ∈ l, lowB f.1 = n ∧ f.2 = v
  | [], n, v, h => by cases h
  | f :: r, n, v, h => by
    rw [getF_cons] at h
    split at h
    · rename_i hf
      exact ⟨f, List.mem_cons_self, hf, Option.some.inj h⟩
    · obtain ⟨g, h1, h2⟩ := getF_mem h
      exact ⟨g, List.mem_cons_of_mem _ h1, h2⟩
end Go.Proofs.YtignjjnflcpiiabGreatDoor
