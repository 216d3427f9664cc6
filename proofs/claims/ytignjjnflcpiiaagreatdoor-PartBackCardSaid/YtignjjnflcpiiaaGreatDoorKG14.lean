import Derived.Test.YtignjjnflcpiiaaGreatDoorKG8
import Derived.Test.YtignjjnflcpiiaaGreatDoorKPlain1
import Derived.Test.YtignjjnflcpiiaaGreatDoorKG10
import Derived.Test.YtignjjnflcpiiaaGreatDoorKVm4
import Derived.Test.YtignjjnflcpiiaaGreatDoorKG12
import Derived.Test.YtignjjnflcpiiaaGreatDoorKG13
import Derived.Lib.ItoaNum
import Derived.Lib.IndexMore
set_option linter.unusedVariables false
set_option linter.unusedSimpArgs false
set_option maxHeartbeats 1000000
namespace Go.Proofs.YtignjjnflcpiiaaGreatDoor
open Go.RowKit
def strRows (l : List (List UInt8)) : List (List AV) := l.map fun x => [.str x]
theorem sr_len (l : List (List UInt8)) : (strRows l).length = l.length := by simp [strRows]
theorem sr_at {l : List (List UInt8)} {i : Nat} (h : i < l.length) : ∃ x, l[i]? = some x ∧ x ∈ l ∧ l.drop i = x :: l.drop (i + 1) ∧ (strRows l)[(i : Int).toNat]? = some [.str x] := by
  refine ⟨l[i], List.getElem?_eq_getElem h, List.getElem_mem h, (List.drop_eq_getElem_cons h), ?_⟩
  simp [strRows, h]
theorem split_C (s : List UInt8) : Lib.split s [13, 10] = splitC s := splitK_C _ _ (Nat.lt_succ_self _) _ (Nat.le_refl _)
end Go.Proofs.YtignjjnflcpiiaaGreatDoor
namespace Go.Proofs.YtignjjnflcpiiaaGreatDoor
open Go.RowKit
attribute [local irreducible] Tri Steps Qd Wr Weak CPure CEff
set_option maxRecDepth 100000
def special : B := [40, 41, 60, 62, 64, 44, 59, 58, 92, 34, 47, 91, 93, 63, 61]
def tokP (x : Nat) : Bool := decide (x < 33) || (decide (126 < x) || decide (0 ≤ Lib.indexByte special x.toUInt8))
def tokC (c : UInt8) : Bool := !tokP c.toNat
def tokB (s : B) : Bool := s.all tokC && !s.isEmpty
theorem containsRune_c (s : B) (r : Nat) (h : r < 128) : CPure gx 106 [.str s, .int .i32 r] (.bool (decide (0 ≤ Lib.indexByte s r.toUInt8))) :=
  cpure_val rfl rfl fun w _ => (Tryz.strings_ContainsRune_ascii ⟨s.toArray⟩ (r : Int) w (by omega) (by omega)).mono fun e w' h => ⟨h.1, h.2 ▸ ext_refl w⟩
theorem tok1_c (x : Nat) (hx : x ≤ 1114111) : CPure gx 105 [.int .i32 x] (.bool (tokP x)) := by
  refine cpure_of Tryz.func105 rfl (Nat.le_of_ble_eq_true rfl) rfl (fun w hw => ?_)
  by_cases h1 : x < 33
  · repeat' (first | refine a_f ?_ | refine st_nil ?_ | refine tri_seq ?_ | refine tri_region rfl ?_ | refine a_draw ?_ | (apply st_r rfl; case hq => first | exact a_q) | (apply st_rif rfl; (case hq => first | exact a_i); all_goals (intro _; try (exfalso; first | omega | contradiction))) | (apply st_rw rfl rfl; case hq => first | exact a_store) | refine tri_true rfl ?_ | refine tri_false rfl ?_ | refine tri_block ?_ | refine tri_skip ?_ | refine tri_ret ?_ | refine tri_exit ?_)
    refine And.intro trivial ?_
    conv => lhs; whnf
    simp [tokP, h1]
  by_cases h2 : 126 < x
  · repeat' (first | refine a_f ?_ | refine st_nil ?_ | refine tri_seq ?_ | refine tri_region rfl ?_ | refine a_draw ?_ | (apply st_r rfl; case hq => first | exact a_q) | (apply st_rif rfl; (case hq => first | exact a_i); all_goals (intro _; try (exfalso; first | omega | contradiction))) | (apply st_rw rfl rfl; case hq => first | exact a_store) | refine tri_true rfl ?_ | refine tri_false rfl ?_ | refine tri_block ?_ | refine tri_skip ?_ | refine tri_ret ?_ | refine tri_exit ?_)
    refine And.intro trivial ?_
    conv => lhs; whnf
    simp [tokP, h2]
  have R1 := containsRune_c special x (by omega)
  repeat' (first | refine a_f ?_ | refine st_nil ?_ | refine tri_seq ?_ | refine tri_region rfl ?_ | refine a_draw ?_ | (apply st_r rfl; case hq => first | exact q_call R1 (hcf := Tryz.call106) rfl rfl | exact a_q) | (apply st_rif rfl; (case hq => first | exact a_i); all_goals (intro _; try (exfalso; first | omega | contradiction))) | (apply st_rw rfl rfl; case hq => first | exact a_store) | refine tri_true rfl ?_ | refine tri_false rfl ?_ | refine tri_block ?_ | refine tri_skip ?_ | refine tri_ret ?_ | refine tri_exit ?_)
  refine And.intro trivial ?_
  conv => lhs; whnf
  simp [tokP, h1, h2]
theorem decode_lo (s : B) (p : Nat) (h : p < s.length) (ha : (s[p]).toNat < 128) : Utf8.decode ⟨s.toArray⟩ p = ((s[p]).toNat, 1) := by
  have := decode_ascii ⟨s.toArray⟩ p (by rw [sizeMk]; exact h) (by exact ha)
  exact this
theorem decode_hi (s : ByteArray) (p : Nat) (h : ¬ (s.get! (p + 0)).toNat < 128) : 128 ≤ (Utf8.decode s p).1 := by
  unfold Utf8.decode
  simp only [Utf8.runeError]
  rw [if_neg h]
  repeat' split
  all_goals first
    | (simp only [ge_iff_le, Bool.and_eq_true, decide_eq_true_eq] at *; omega)
    | decide
theorem idxFrom_any {p : Nat → Bool} (hp : ∀ r, 128 ≤ r → p r = true) (s : B) : ∀ (f pos : Nat), s.length ≤ f + pos → decide (0 ≤ Lib.idxFuncFrom p true ⟨s.toArray⟩ f pos) = (s.drop pos).any (fun c => p c.toNat)
  | 0, pos, h => by
    rw [List.drop_eq_nil_of_le (by omega)]
    rfl
  | f + 1, pos, h => by
    by_cases hlt : pos < s.length
    · have hd : s.drop pos = s[pos] :: s.drop (pos + 1) := List.drop_eq_getElem_cons hlt
      rw [hd, List.any_cons]
      unfold Lib.idxFuncFrom
      rw [if_pos (by rw [sizeMk]; exact hlt)]
      by_cases ha : (s[pos]).toNat < 128
      · rw [decode_lo s pos hlt ha]
        cases hpc : p (s[pos]).toNat with
        | true => simp
        | false =>
          simp only [Bool.false_eq_true, if_false, Bool.false_or]
          exact idxFrom_any hp s f (pos + 1) (by omega)
      · have hb : ¬ ((⟨s.toArray⟩ : ByteArray).get! (pos + 0)).toNat < 128 := by
          have e : (⟨s.toArray⟩ : ByteArray).get! (pos + 0) = s[pos] := by simp [ByteArray.get!, hlt]
          rw [e]; exact ha
        rw [hp _ (decode_hi _ _ hb), hp _ (by omega)]
        simp
    · rw [List.drop_eq_nil_of_le (by omega)]
      unfold Lib.idxFuncFrom
      rw [if_neg (by rw [sizeMk]; exact hlt)]
      rfl
theorem idx_any {p : Nat → Bool} (hp : ∀ r, 128 ≤ r → p r = true) (s : B) : decide (0 ≤ Lib.idxFunc p true ⟨s.toArray⟩) = s.any (fun c => p c.toNat) := by
  have := idxFrom_any hp s (⟨s.toArray⟩ : ByteArray).size 0 (by rw [sizeMk]; omega)
  rw [List.drop_zero] at this
  exact this
theorem containsFunc_c {g : FuncId} {p : Nat → Bool} (s : B) (eg : ∀ args w, (callFunc g args).run Tryz.prog w = .ok (.enter g args) w) (hp : ∀ x : Nat, x ≤ 1114111 → CPure gx g [.int .i32 x] (.bool (p x))) (hh : ∀ r, 128 ≤ r → p r = true) : CPure gx 54 [.str s, .clo g []] (.bool (s.any (fun c => p c.toNat))) := by
  unfold CPure
  intro w vs hG hn hl hr
  obtain ⟨v0, v1, rfl⟩ : ∃ a b, vs = [a, b] := by
    match vs, hl with
    | [a, b], _ => exact ⟨a, b, rfl⟩
  have h0 := Rep.str_inv (hr 0 (by simp) (by simp))
  obtain ⟨xs, h1, hxl, _⟩ := Rep.clo_inv (hr 1 (by simp) (by simp))
  have : xs = [] := List.eq_nil_of_length_eq_zero hxl
  subst this
  simp only [List.getElem_cons_zero, List.getElem_cons_succ] at h0 h1
  subst h0 h1
  have hg : PredGrows Tryz.prog g #[] p w := by
    intro W x hx hb
    have hc := hp x hx
    unfold CPure at hc
    have := hc W [.int .i32 x] (gx.hG w W hG (fun k hk => hb.block k (by have : gx.nG ≤ w.heap.size := hn; omega))) (Nat.le_trans hn hb.size) rfl (fun i hi hi' => by
      match i, hi with
      | 0, _ => exact .int _ _ _)
    refine this.mono ?_
    rintro e w' ⟨v, rfl, h2, h3⟩
    rw [h3.bool_inv]
    exact ⟨rfl, h2⟩
  refine (Tryz.strings_ContainsFunc_grows g #[] eg p ⟨s.toArray⟩ w hg).mono ?_
  rintro e w' ⟨rfl, h2⟩
  rw [idx_any hh s]
  exact ⟨_, rfl, h2, .bool _ _⟩
theorem tokP_hi (r : Nat) (h : 128 ≤ r) : tokP r = true := by simp [tokP]; omega
theorem any_tokP (s : B) : s.any (fun c => tokP c.toNat) = !s.all tokC := by
  induction s with
  | nil => rfl
  | cons c s ih => simp [tokC, ih, List.any_cons, List.all_cons]
theorem token_c (s : B) : CPure gx 52 [.str s] (.bool (tokB s)) := by
  refine cpure_of Tryz.func52 rfl (Nat.le_of_ble_eq_true rfl) rfl (fun w hw => ?_)
  have F1 := containsFunc_c (g := 105) s Tryz.call105 tok1_c tokP_hi
  rw [any_tokP] at F1
  cases ha : s.all tokC <;> rw [ha] at F1
  all_goals
    repeat' (first | refine a_f ?_ | refine st_nil ?_ | refine tri_seq ?_ | refine tri_region rfl ?_ | refine a_draw ?_ | (apply st_r rfl; case hq => first | exact q_call F1 (hcf := Tryz.call54) rfl rfl | exact a_q) | (apply st_rif rfl; (case hq => first | exact a_i); all_goals (intro _; try (exfalso; first | omega | contradiction))) | (apply st_rw rfl rfl; case hq => first | exact a_store) | refine tri_true rfl ?_ | refine tri_false rfl ?_ | refine tri_block ?_ | refine tri_skip ?_ | refine tri_ret ?_ | refine tri_exit ?_)
  all_goals
    refine And.intro trivial ?_
    conv => lhs; whnf
    rw [tokB, ha]
    first | rfl | (rw [isE_f ‹_›]; rfl) | (rw [isE_t ‹_›]; rfl)
end Go.Proofs.YtignjjnflcpiiaaGreatDoor
namespace Go.Proofs.YtignjjnflcpiiaaGreatDoor
open Go.RowKit
attribute [local irreducible] Tri Steps Qd Wr Weak CPure CEff
set_option maxRecDepth 100000
theorem tkT : TK tokC blk where
  t59 := by decide
  t61 := by decide
  t34 := by decide
  t47 := by decide
  k := fun c => rfl
  t32 := by decide
  t9 := by decide
theorem u8_all {p : UInt8 → Prop} (h : ∀ n : Fin 256, p (UInt8.ofNat n.val)) : ∀ c, p c := fun c => by
  have := h ⟨c.toNat, c.toNat_lt⟩
  simpa using this
theorem tfT : TF tokC lowC where
  tok := u8_all (by decide +kernel)
  idem := u8_all (by decide +kernel)
  vis := u8_all (by decide +kernel)
  f47 := u8_all (by decide +kernel)
theorem tokQ_eq (s : B) : tokB s = tokQ tokC s := rfl
def getP (l : Fs) (s : B) : AV := match l.find? (fun f => decide (f.1 = s)) with
  | some f => .tup [.str f.2, .bool true]
  | none => .tup [.str [], .bool false]
set_option maxHeartbeats 2000000 in
theorem pget_c (l : Fs) (s : B) (hl : Small l) : CPure gx 134 [.ro false 2 (fieldRows l), .str s] (getP l s) := by
  refine cpure_of Tryz.func134 rfl (Nat.le_of_ble_eq_true rfl) rfl (fun w hw => ?_)
  have hfl := fr_len l
  have hll := hl.len
  repeat' (first | refine a_f ?_ | refine st_nil ?_ | refine tri_seq ?_ | refine tri_region rfl ?_ | refine a_draw ?_ | (apply st_r rfl; case hq => first | exact a_q) | (apply st_rif rfl; (case hq => first | exact a_i); all_goals (intro _; try (exfalso; first | omega | contradiction))) | (apply st_rw rfl rfl; case hq => first | exact a_store) | refine tri_true rfl ?_ | refine tri_false rfl ?_ | refine tri_block ?_ | refine tri_skip ?_ | refine tri_ret ?_ | refine tri_exit ?_)
  refine tri_loop (fun (i : Nat) => i ≤ l.length ∧ l.find? (fun f => decide (f.1 = s)) = (l.drop i).find? (fun f => decide (f.1 = s))) (fun i => st [(0, .ro false 2 (fieldRows l)), (1, .str s), (4, .str []), (5, .bool false), (8, .ro false 2 (fieldRows l)), (9, .int .i64 (fieldRows l).length), (10, .int .i64 i)] []) (fun i => l.length - i) 0 ⟨Nat.zero_le _, rfl⟩ ?hw (fun i hi => ?_)
  case hw => exact weak_st ⟨rfl, rfl, rfl, rfl, rfl, rfl, rfl, trivial⟩ trivial
  obtain ⟨hi, hf⟩ := hi
  by_cases hil : i < l.length
  · obtain ⟨f, hf1, hfm, hfd, hfr⟩ := fr_at hil
    rw [hfd, List.find?_cons] at hf
    repeat' (first | refine a_f ?_ | refine st_nil ?_ | refine tri_seq ?_ | refine tri_region rfl ?_ | refine a_draw ?_ | (apply st_r rfl; case hq => first | exact q_idxro (by conv => lhs; whnf) (by conv => lhs; whnf) (by first | exact Tryz.underlying22 | exact Tryz.underlying23 | exact Tryz.underlying43 | exact Tryz.underlying44 | exact Tryz.underlying51 | exact Tryz.underlying86 | exact Tryz.underlying191 | exact Tryz.underlying209 | exact Tryz.underlying234 | exact Tryz.underlying270 | exact Tryz.underlying281 | exact Tryz.underlying344) (by kernel_rfl) (by omega) hfr | exact q_loadar (n := 2) (by conv => lhs; whnf) (by conv => lhs; whnf) (by first | rfl | exact Nat.le_of_ble_eq_true rfl | exact Nat.succ_pos _ | decide) (by kernel_rfl) (fun _ => rfl) | exact a_q) | (apply st_rif rfl; (case hq => first | exact a_i); all_goals (intro _; try (exfalso; first | omega | contradiction))) | (apply st_rw rfl rfl; case hq => first | exact w_alloc 102 (by first | exact zAt | exact zFault | exact zField | exact zParam | exact zLink | exact zPart | exact zReader) rfl rfl rfl | exact a_store) | refine tri_true rfl ?_ | refine tri_false rfl ?_ | refine tri_block ?_ | refine tri_skip ?_ | refine tri_ret ?_ | refine tri_exit ?_)
    · refine And.intro trivial ?_
      conv => lhs; whnf
      rw [getP, hf, decide_eq_true ‹_›]
      rfl
    · exact loop_next (i + 1) ⟨by omega, by rw [hf, decide_eq_false ‹_›]⟩ (weak_st ⟨rfl, rfl, rfl, rfl, rfl, rfl, rfl, trivial⟩ trivial) (show l.length - (i + 1) < l.length - i by omega)
  · repeat' (first | refine a_f ?_ | refine st_nil ?_ | refine tri_seq ?_ | refine tri_region rfl ?_ | refine a_draw ?_ | (apply st_r rfl; case hq => first | exact a_q) | (apply st_rif rfl; (case hq => first | exact a_i); all_goals (intro _; try (exfalso; first | omega | contradiction))) | (apply st_rw rfl rfl; case hq => first | exact a_store) | refine tri_true rfl ?_ | refine tri_false rfl ?_ | refine tri_block ?_ | refine tri_skip ?_ | refine tri_ret ?_ | refine tri_exit ?_)
    refine And.intro trivial ?_
    conv => lhs; whnf
    rw [getP, hf, List.drop_eq_nil_of_le (by omega)]
    rfl
end Go.Proofs.YtignjjnflcpiiaaGreatDoor
namespace Go.Proofs.YtignjjnflcpiiaaGreatDoor
def ctB : B := [99, 111, 110, 116, 101, 110, 116, 45, 116, 121, 112, 101]
def ceB : B := [99, 111, 110, 116, 101, 110, 116, 45, 116, 114, 97, 110, 115, 102, 101, 114, 45, 101, 110, 99, 111, 100, 105, 110, 103]
def bndN : B := [98, 111, 117, 110, 100, 97, 114, 121]
def mulB : B := [109, 117, 108, 116, 105, 112, 97, 114, 116, 47]
def ceN : B := [67, 111, 110, 116, 101, 110, 116, 45, 84, 114, 97, 110, 115, 102, 101, 114, 45, 69, 110, 99, 111, 100, 105, 110, 103]
def ctN : B := [67, 111, 110, 116, 101, 110, 116, 45, 84, 121, 112, 101]
def b7 : B := [55, 98, 105, 116]
def b8 : B := [56, 98, 105, 116]
def bBin : B := [98, 105, 110, 97, 114, 121]
def b64 : B := [98, 97, 115, 101, 54, 52]
def bQP : B := [113, 117, 111, 116, 101, 100, 45, 112, 114, 105, 110, 116, 97, 98, 108, 101]
def getF (l : List (B × B)) (n : B) : Option B := (l.find? (fun f => decide (lowB f.1 = n))).map (·.2)
def bndVal (ps : List (B × B)) : Option B := (ps.find? (fun p => decide (p.1 = bndN))).map (·.2)
def bndGood (b : B) : Bool := decide (1 ≤ b.length ∧ b.length ≤ 70) && !(b.getLast? == some 32)
def bndF (l : List (B × B)) : Option (Option B) := match getF l ctB with
  | none => some none
  | some v => match readK tokC blk lowC v with
    | none => none
    | some (m, ps) => match mulB.isPrefixOf m with
      | false => some none
      | true => match bndVal ps with
        | none => none
        | some b => match bndGood b with
          | true => some (some b)
          | false => none
def markF (b x : B) : Option Bool := match (45 :: 45 :: b).isPrefixOf x with
  | false => none
  | true => match trimB (x.drop (b.length + 2)) with
    | [] => some false
    | [45, 45] => some true
    | _ => none
def joinC : List B → B
  | [] => []
  | [x] => x
  | x :: y :: r => x ++ 13 :: 10 :: joinC (y :: r)
def cutGo (b : B) : Bool → List B → List B → List B → Option (List B)
  | _, _, _, [] => none
  | op, acc, out, x :: r => match markF b x with
    | none => cutGo b op (acc ++ [x]) out r
    | some e => match e, op with
      | true, true => some (out ++ [joinC acc])
      | true, false => some out
      | false, true => cutGo b true [] (out ++ [joinC acc]) r
      | false, false => cutGo b true [] out r
def cutF (b s : B) : Option (List B) := cutGo b false [] [] (splitC s)
inductive Res (α : Type) where
  | ok (a : α)
  | err (e : Nat)
def decodeF (l : List (B × B)) (s : B) : Res B := match getF l ceB with
  | none => .ok s
  | some v => if lowB v = b7 ∨ lowB v = b8 ∨ lowB v = bBin then .ok s
    else if lowB v = b64 then (match unpack s with | some x => .ok x | none => .err 3)
    else if lowB v = bQP then (match unquote s with | some x => .ok x | none => .err 3)
    else .err 5
def readKids (f : Nat → B → Res (PT × Nat)) : Nat → List B → Res (List PT × Nat)
  | left, [] => .ok ([], left)
  | left, x :: r => match f left x with
    | .err e => .err e
    | .ok (p, n) => match readKids f n r with
      | .err e => .err e
      | .ok (l, n') => .ok (p :: l, n')
def readPt : Nat → Nat → B → Res (PT × Nat)
  | 0, _, _ => .err 4
  | _ + 1, 0, _ => .err 4
  | d + 1, left + 1, s => match readH s with
    | .bad _ => .err 3
    | .ok l0 body => match cleanF l0 with
      | .bad _ => .err 1
      | .ok l => match bndF l with
        | none => .err 3
        | some none => match decodeF l body with
          | .err e => .err e
          | .ok x => .ok (.mk l x false [], left)
        | some (some b) => match cutF b body with
          | none => .err 3
          | some xs => match readKids (readPt d) left xs with
            | .err e => .err e
            | .ok (ps, n) => .ok (.mk l [] true ps, n)
def readTop (s : B) : Res PT := if 20000 < s.length then .err 4 else match readPt 4 40 s with
  | .ok (p, _) => .ok p
  | .err e => .err e
def setBnd (b : B) : List (B × B) → List (B × B)
  | [] => []
  | p :: r => if p.1 = bndN then (p.1, b) :: r else p :: setBnd b r
def renameF (v b : B) : B := match readK tokC blk lowC v with
  | none => []
  | some (m, ps) => match writeK tokC lowC m (setBnd b ps) with
    | .ok t => t
    | .bad _ => []
def renHead (b : B) : List (B × B) → List (B × B)
  | [] => []
  | f :: r => if lowB f.1 = ctB then (f.1, renameF f.2 b) :: r else f :: renHead b r
def noEnc (l : List (B × B)) : List (B × B) := l.filter (fun f => !decide (lowB f.1 = ceB))
def numB (n : Nat) : B := 98 :: Lib.decDigits n
def free (l : List B) (n : Nat) : Bool := l.all fun s => !Lib.contains s (45 :: 45 :: numB n)
def chooseGo (l : List B) : Nat → Nat → Nat
  | 0, n => n
  | k + 1, n => match free l n with
    | true => n
    | false => chooseGo l k (n + 1)
def spots (l : List B) : Nat := (l.map fun s => s.length + 1).sum
def chooseN (l : List B) : Nat := chooseGo l (100 * (spots l + 1)) 0
def asIs : B → Bool
  | [] => true
  | [c] => okCh c
  | c :: d :: r => if c = 13 ∧ d = 10 then asIs r else okCh c && asIs (d :: r)
def shortF (s : B) : B × B := match asIs s with
  | true => (b7, s)
  | false => if (quote s).length ≤ (pack s).length then (bQP, quote s) else (b64, pack s)
def okPt (p : PT) : Bool := rightB p.head && match bndF p.head with
  | none => false
  | some none => !p.many && p.parts.isEmpty
  | some (some _) => p.many && p.body.isEmpty
def writeKids (f : Nat → PT → Res (B × Nat)) : Nat → List PT → Res (List B × Nat)
  | left, [] => .ok ([], left)
  | left, p :: r => match f left p with
    | .err e => .err e
    | .ok (x, n) => match writeKids f n r with
      | .err e => .err e
      | .ok (l, n') => .ok (x :: l, n')
def headW (l : List (B × B)) : B := writeAll l ++ [13, 10]
def kidsW (b : B) (xs : List B) : B := xs.flatMap fun x => 45 :: 45 :: (b ++ 13 :: 10 :: (x ++ [13, 10]))
def bodyW (b : B) (xs : List B) : B := kidsW b xs ++ 45 :: 45 :: (b ++ [45, 45, 13, 10])
def leafH (p : PT) : List (B × B) := noEnc p.head ++ [(ceN, (shortF p.body).1)]
def writePt : Nat → Nat → PT → Res (B × Nat)
  | 0, _, _ => .err 4
  | _ + 1, 0, _ => .err 4
  | d + 1, left + 1, p => match okPt p with
    | false => .err 1
    | true => match p.many with
      | false => .ok (headW (leafH p) ++ (shortF p.body).2, left)
      | true => match writeKids (writePt d) left p.parts with
        | .err e => .err e
        | .ok (xs, n) => .ok (headW (renHead (numB (chooseN xs)) (noEnc p.head)) ++ bodyW (numB (chooseN xs)) xs, n)
def writeTop (p : PT) : Res B := match writePt 4 40 p with
  | .err e => .err e
  | .ok (s, _) => if 20000 < s.length then .err 4 else .ok s
def oursF (many : Bool) : Bool → List (B × B) → List (B × B)
  | _, [] => []
  | first, f :: r => if lowB f.1 = ceB then oursF many first r else
    if lowB f.1 = ctB then (f.1, if (first && many) = true then [] else f.2) :: oursF many false r else f :: oursF many first r
mutual
def likesB : PT → PT → Bool
  | .mk h b m ps, .mk h' b' m' ps' => decide (b = b' ∧ m = m' ∧ ps.length = ps'.length ∧ oursF m true h = oursF m true h') && likesL ps ps'
def likesL : List PT → List PT → Bool
  | [], _ => true
  | _ :: _, [] => true
  | p :: r, q :: s => likesB p q && likesL r s
end
theorem splitC_app : ∀ x y : B, splitC (x ++ 13 :: 10 :: y) = splitC x ++ splitC y
  | [], y => by rw [List.nil_append, splitC_crlf]; rfl
  | [c], y => by
    by_cases h : c = 13
    · subst h
      have e : splitC (13 :: 13 :: 10 :: y) = (splitC (13 :: 10 :: y)).modifyHead (13 :: ·) := by rw [splitC.eq_3, if_neg (by simp)]
      show splitC (13 :: 13 :: 10 :: y) = _
      rw [e, splitC_crlf]
      rfl
    · rw [List.cons_append, List.nil_append, splitC_cons c _ h, splitC_crlf]; rfl
  | c :: d :: r, y => by
    show splitC (c :: d :: (r ++ 13 :: 10 :: y)) = _
    rw [splitC, splitC]
    by_cases h : c = 13 ∧ d = 10
    · rw [if_pos h, if_pos h, splitC_app r y]; rfl
    · rw [if_neg h, if_neg h]
      have := splitC_app (d :: r) y
      rw [List.cons_append] at this
      rw [this]
      have hne := splitC_ne (d :: r)
      cases hs : splitC (d :: r) with
      | nil => exact absurd hs hne
      | cons a b => rfl
theorem joinC_cons (x : B) {l : List B} (h : l ≠ []) : joinC (x :: l) = x ++ 13 :: 10 :: joinC l := by
  cases l with
  | nil => exact absurd rfl h
  | cons y r => rfl
theorem joinC_head (c : UInt8) {l : List B} (h : l ≠ []) : joinC (l.modifyHead (c :: ·)) = c :: joinC l := by
  match l, h with
  | [x], _ => rfl
  | x :: y :: r, _ => rfl
theorem joinC_split : ∀ x : B, joinC (splitC x) = x
  | [] => rfl
  | [c] => rfl
  | c :: d :: r => by
    rw [splitC]
    by_cases h : c = 13 ∧ d = 10
    · rw [if_pos h, joinC_cons _ (splitC_ne r), joinC_split r, h.1, h.2]; rfl
    · rw [if_neg h, joinC_head _ (splitC_ne _), joinC_split (d :: r)]
theorem line_in : ∀ {s : B} {x : B}, x ∈ splitC s → ∃ a b, s = a ++ x ++ b
  | [], x, h => by rw [show splitC [] = [[]] from rfl, List.mem_singleton] at h; exact ⟨[], [], by rw [h]; rfl⟩
  | [c], x, h => by rw [show splitC [c] = [[c]] from rfl, List.mem_singleton] at h; exact ⟨[], [], by rw [h]; rfl⟩
  | c :: d :: r, x, h => by
    rw [splitC] at h
    by_cases hc : c = 13 ∧ d = 10
    · rw [if_pos hc] at h
      rcases List.mem_cons.1 h with rfl | h
      · exact ⟨[], c :: d :: r, rfl⟩
      · obtain ⟨a, b, e⟩ := line_in h
        exact ⟨c :: d :: a, b, by rw [e]; rfl⟩
    · rw [if_neg hc] at h
      have hne := splitC_ne (d :: r)
      cases hs : splitC (d :: r) with
      | nil => exact absurd hs hne
      | cons y l =>
        rw [hs] at h
        rcases List.mem_cons.1 h with rfl | h
        · have e : joinC (y :: l) = d :: r := by rw [← hs]; exact joinC_split _
          cases l with
          | nil => exact ⟨[], [], by simpa [joinC] using e.symm⟩
          | cons z l => exact ⟨[], 13 :: 10 :: joinC (z :: l), by
              have : d :: r = y ++ 13 :: 10 :: joinC (z :: l) := e.symm
              rw [this]; rfl⟩
        · obtain ⟨a, b, e⟩ := line_in (s := d :: r) (x := x) (by rw [hs]; exact List.mem_cons_of_mem _ h)
          exact ⟨c :: a, b, by rw [e]; rfl⟩
theorem contains_mid (a x b : B) : Lib.contains (a ++ x ++ b) x = true := by
  rcases Lib.index_spec (a ++ x ++ b) x with ⟨_, h⟩ | ⟨i, h, _⟩
  · have := h a.length (by simp)
    rw [Lib.occAt, List.append_assoc, List.drop_left' rfl] at this
    have hp : x.isPrefixOf (x ++ b) = true := List.isPrefixOf_iff_prefix.2 ⟨b, rfl⟩
    rw [hp] at this; cases this
  · rw [Lib.contains, h]; exact decide_eq_true (Int.natCast_nonneg i)
theorem mark_none {b s x : B} (hf : Lib.contains s (45 :: 45 :: b) = false) (hx : x ∈ splitC s) : markF b x = none := by
  unfold markF
  cases hp : (45 :: 45 :: b).isPrefixOf x with
  | false => rfl
  | true =>
    exfalso
    obtain ⟨t, ht⟩ := List.isPrefixOf_iff_prefix.1 hp
    obtain ⟨a, c, e⟩ := line_in hx
    have := contains_mid a (45 :: 45 :: b) (t ++ c)
    rw [show a ++ 45 :: 45 :: b ++ (t ++ c) = s by rw [e, ← ht]; simp] at this
    rw [this] at hf; cases hf
theorem cutGo_acc {b : B} : ∀ (ls : List B) (op : Bool) (acc out r : List B), (∀ x ∈ ls, markF b x = none) → cutGo b op acc out (ls ++ r) = cutGo b op (acc ++ ls) out r
  | [], op, acc, out, r, _ => by simp
  | x :: ls, op, acc, out, r, h => by
    rw [List.cons_append, cutGo, h x List.mem_cons_self]
    simp only
    rw [cutGo_acc ls op (acc ++ [x]) out r (fun y hy => h y (List.mem_cons_of_mem _ hy))]
    simp
theorem mark_open (b : B) : markF b (45 :: 45 :: b) = some false := by
  unfold markF
  rw [show (45 :: 45 :: b).isPrefixOf (45 :: 45 :: b) = true from List.isPrefixOf_iff_prefix.2 ⟨[], by simp⟩]
  simp only
  rw [List.drop_eq_nil_of_le (by simp)]
  rfl
theorem mark_end (b : B) : markF b (45 :: 45 :: (b ++ [45, 45])) = some true := by
  unfold markF
  rw [show (45 :: 45 :: b).isPrefixOf (45 :: 45 :: (b ++ [45, 45])) = true from List.isPrefixOf_iff_prefix.2 ⟨[45, 45], by simp⟩]
  simp only
  rw [show (45 :: 45 :: (b ++ [45, 45])).drop (b.length + 2) = [45, 45] by
    rw [show 45 :: 45 :: (b ++ [45, 45]) = (45 :: 45 :: b) ++ [45, 45] by simp]
    exact List.drop_left' (by simp)]
  rfl
theorem cut_body {b : B} (h13 : ∀ c ∈ b, c ≠ 13) (r : B) : ∀ (xs out : List B), (∀ x ∈ xs, Lib.contains x (45 :: 45 :: b) = false) → ∀ (acc : List B), acc ≠ [] →
    cutGo b true acc out (splitC (kidsW b xs ++ 45 :: 45 :: (b ++ [45, 45, 13, 10]) ++ r)) = some (out ++ joinC acc :: xs)
  | [], out, _, acc, _ => by
    rw [show kidsW b [] ++ 45 :: 45 :: (b ++ [45, 45, 13, 10]) ++ r = (45 :: 45 :: (b ++ [45, 45])) ++ 13 :: 10 :: r by simp [kidsW]]
    rw [splitC_line _ (fun c hc => by
      simp only [List.mem_cons, List.mem_append, List.not_mem_nil, or_false] at hc
      rcases hc with rfl | rfl | hc | rfl | rfl <;> first | decide | exact h13 c hc), cutGo, mark_end]
  | x :: xs, out, hx, acc, _ => by
    rw [show kidsW b (x :: xs) ++ 45 :: 45 :: (b ++ [45, 45, 13, 10]) ++ r = (45 :: 45 :: b) ++ 13 :: 10 :: (x ++ 13 :: 10 :: (kidsW b xs ++ 45 :: 45 :: (b ++ [45, 45, 13, 10]) ++ r)) by simp [kidsW]]
    rw [splitC_line _ (fun c hc => by
      simp only [List.mem_cons] at hc
      rcases hc with rfl | rfl | hc <;> first | decide | exact h13 c hc), splitC_app, cutGo, mark_open]
    simp only
    rw [cutGo_acc _ _ _ _ _ (fun y hy => mark_none (hx x List.mem_cons_self) hy), List.nil_append, cut_body h13 r xs _ (fun y hy => hx y (List.mem_cons_of_mem _ hy)) _ (splitC_ne x), joinC_split]
    simp
theorem cut_back {b : B} (h13 : ∀ c ∈ b, c ≠ 13) (xs : List B) (hx : ∀ x ∈ xs, Lib.contains x (45 :: 45 :: b) = false) : cutF b (bodyW b xs) = some xs := by
  unfold cutF bodyW
  cases xs with
  | nil =>
    rw [show kidsW b [] ++ 45 :: 45 :: (b ++ [45, 45, 13, 10]) = (45 :: 45 :: (b ++ [45, 45])) ++ 13 :: 10 :: [] by simp [kidsW]]
    rw [splitC_line _ (fun c hc => by
      simp only [List.mem_cons, List.mem_append, List.not_mem_nil, or_false] at hc
      rcases hc with rfl | rfl | hc | rfl | rfl <;> first | decide | exact h13 c hc), cutGo, mark_end]
  | cons x xs =>
    rw [show kidsW b (x :: xs) ++ 45 :: 45 :: (b ++ [45, 45, 13, 10]) = (45 :: 45 :: b) ++ 13 :: 10 :: (x ++ 13 :: 10 :: (kidsW b xs ++ 45 :: 45 :: (b ++ [45, 45, 13, 10]) ++ [])) by simp [kidsW]]
    rw [splitC_line _ (fun c hc => by
      simp only [List.mem_cons] at hc
      rcases hc with rfl | rfl | hc <;> first | decide | exact h13 c hc), splitC_app, cutGo, mark_open]
    simp only
    rw [cutGo_acc _ _ _ _ _ (fun y hy => mark_none (hx x List.mem_cons_self) hy), List.nil_append, cut_body h13 [] xs _ (fun y hy => hx y (List.mem_cons_of_mem _ hy)) _ (splitC_ne x), joinC_split]
    rfl
end Go.Proofs.YtignjjnflcpiiaaGreatDoor
