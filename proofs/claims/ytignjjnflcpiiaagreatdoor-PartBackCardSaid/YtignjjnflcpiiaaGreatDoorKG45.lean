import Derived.Test.YtignjjnflcpiiaaGreatDoorKWrtF
import Derived.Test.YtignjjnflcpiiaaGreatDoorKPartK
import Derived.Test.YtignjjnflcpiiaaGreatDoorKPartS
import Derived.Test.YtignjjnflcpiiaaGreatDoorKG38
import Derived.Test.YtignjjnflcpiiaaGreatDoorKG3
set_option linter.unusedVariables false
set_option linter.unusedSimpArgs false
set_option maxHeartbeats 1000000
namespace Go.Proofs.YtignjjnflcpiiaaGreatDoor
open Go.RowKit
attribute [local irreducible] Tri Steps Qd Wr Weak CPure CEff
set_option maxRecDepth 100000
set_option linter.unusedSectionVars false
def wcat (out : List B) : Res (List B × Nat) → Res (List B × Nat)
  | .ok (l, n) => .ok (out ++ l, n)
  | .err e => .err e
theorem wcat_step {f : Nat → PT → Res (B × Nat)} {out : List B} {lf n : Nat} {p : PT} {ps : List PT} {s : B} (h : f lf p = .ok (s, n)) : wcat out (writeKids f lf (p :: ps)) = wcat (out ++ [s]) (writeKids f n ps) := by
  rw [writeKids, h]
  simp only
  cases writeKids f n ps with
  | ok r => obtain ⟨l, m⟩ := r; simp [wcat]
  | err e => rfl
theorem wcat_err {f : Nat → PT → Res (B × Nat)} {out : List B} {lf e : Nat} {p : PT} {ps : List PT} (h : f lf p = .err e) : wcat out (writeKids f lf (p :: ps)) = .err e := by
  rw [writeKids, h]; rfl
theorem writeKids_le {f : Nat → PT → Res (B × Nat)} (hf : ∀ left p s n, f left p = .ok (s, n) → n ≤ left) : ∀ (ps : List PT) (left : Nat) (l : List B) (n : Nat), writeKids f left ps = .ok (l, n) → n ≤ left
  | [], left, l, n, h => by rw [writeKids] at h; cases h; exact Nat.le_refl _
  | p :: ps, left, l, n, h => by
    rw [writeKids] at h
    split at h
    · cases h
    · rename_i s k hp
      split at h
      · cases h
      · rename_i qs n' hq
        cases h
        exact Nat.le_trans (writeKids_le hf ps k qs _ hq) (hf left p s k hp)
theorem writePt_le : ∀ (d left : Nat) (p : PT) (s : B) (n : Nat), writePt d left p = .ok (s, n) → n ≤ left
  | 0, left, p, s, n, h => by rw [writePt] at h; cases h
  | d + 1, 0, p, s, n, h => by rw [writePt] at h; cases h
  | d + 1, left + 1, p, s, n, h => by
    rw [writePt] at h
    split at h
    · cases h
    · split at h
      · cases h; exact Nat.le_succ _
      · split at h
        · cases h
        · rename_i xs k hk
          cases h
          exact Nat.le_succ_of_le (writeKids_le (writePt_le d) _ left _ _ hk)
theorem pt_at {ps : List PT} {i : Nat} (h : i < ps.length) : ∃ q, ps[i]? = some q ∧ q ∈ ps ∧ ps.drop i = q :: ps.drop (i + 1) ∧ ps[(i : Int).toNat]? = some q :=
  ⟨ps[i], List.getElem?_eq_getElem h, List.getElem_mem h, List.drop_eq_getElem_cons h, by rw [Int.toNat_natCast]; exact List.getElem?_eq_getElem h⟩
def WOk (d left : Nat) (p : PT) : Prop := ∀ dep : Int, dep = 5 - (d : Int) → CEff gxp 34 (.box [.int .i64 (left : Int)]) [.ptr 0 0, .agg [.ro false 2 (fieldRows p.head), .str p.body, .bool p.many, .pts false p.parts], .int .i64 dep] (some (.box [wCell (writePt d left p)])) (wAV (writePt d left p))
abbrev WKidS (dep : Int) (nl : Fs) (ps : List PT) (x : Nat × Nat × List B) : St := st [(0, .ptr 0 0), (2, .int .i64 dep), (11, .sl 111), (12, .str []), (14, .sl 114), (103, .pts false ps), (104, .int .i64 ps.length), (105, .int .i64 x.1)] [(0, .box [.int .i64 (x.2.1 : Int)]), (111, .rows 75 2 (fieldRows nl)), (114, .rows 9 1 (strRows x.2.2))]
noncomputable abbrev WrC (w : World) (γ : Gh) (hw : gxp.nG ≤ w.heap.size) (hM : ∀ b, Blk γ 0 b → gxp.nG ≤ b) : Cx := cxe gxp Tryz.f34.ntmps w γ hw hM
section
variable {w : World} {γ : Gh} (hw : gxp.nG ≤ w.heap.size) (hM : ∀ b, Blk γ 0 b → gxp.nG ≤ b) (I : Nat × Nat × List B → Prop) (Q : Exit → St → Prop) (dep : Int) (nl : Fs) (ps : List PT) (i lf : Nat) (out : List B) (qh : Fs) (qb : B) (qm : Bool) (qp : List PT)
  (hdep : 0 ≤ dep ∧ dep ≤ 5) (hi : i < ps.length) (hpl : ps.length ≤ 2000000) (hol : out.length ≤ i) (hqr : ps[(i : Int).toNat]? = some (.mk qh qb qm qp))
include hdep hi hpl hol hqr
set_option maxHeartbeats 8000000 in
theorem wkid_ok (s : B) (n : Nat) (E : CEff gxp 34 (.box [.int .i64 (lf : Int)]) [.ptr 0 0, .agg [.ro false 2 (fieldRows qh), .str qb, .bool qm, .pts false qp], .int .i64 (dep + 1)] (some (.box [.int .i64 (n : Int)])) (.tup [.str s, .nili])) (hI : I (i + 1, n, out ++ [s])) :
    Tri (WrC w γ hw hM) (loopN Tryz.f34 0) (WKidS dep nl ps (i, lf, out)) (loopQ (WrC w γ hw hM) I (WKidS dep nl ps) (fun x => ps.length - x.1) (ps.length - i) Q) := by
  have hsl := sr_len out
  have e1 := sr_app out s
  change Tri _ _ (st [(0, .ptr 0 0), (2, .int .i64 dep), (11, .sl 111), (12, .str []), (14, .sl 114), (103, .pts false ps), (104, .int .i64 ps.length), (105, .int .i64 i)] [(0, .box [.int .i64 (lf : Int)]), (111, .rows 75 2 (fieldRows nl)), (114, .rows 9 1 (strRows out))]) _
  repeat' (first | refine a_f ?_ | refine st_nil ?_ | refine tri_seq ?_ | refine tri_region rfl ?_ | refine a_draw ?_ | (apply st_r rfl; case hq => first | exact q_idxpts (p := .mk qh qb qm qp) (by conv => lhs; whnf) (by conv => lhs; whnf) Tryz.underlying23 (by kernel_rfl) (by omega) hqr | exact q_loadar (n := 4) (by conv => lhs; whnf) (by conv => lhs; whnf) (by first | rfl | exact Nat.le_of_ble_eq_true rfl | exact Nat.succ_pos _ | decide) (by kernel_rfl) (fun _ => rfl) | exact q_loada (n := 4) (by conv => lhs; whnf) (by conv => lhs; whnf; arg 1; whnf) (by conv => lhs; whnf) (by first | rfl | exact Nat.le_of_ble_eq_true rfl | exact Nat.succ_pos _ | decide) (by show aggB Tryz.prog _ _ = true; decide +kernel) | exact q_nenil (by rfl) Tryz.underlying32 | exact a_q) | (apply st_rif rfl; (case hq => first | exact a_i); all_goals (intro _; try (exfalso; first | omega | contradiction))) | (apply st_rw rfl rfl; case hq => first | exact w_alloc (d := 16) 116 (by exact zPartK) rfl rfl rfl | exact w_call (id := 0) E (hcf := Tryz.call34) (by rfl) rfl rfl rfl rfl rfl | exact w_append (id := 114) (by conv => lhs; whnf) (by conv => lhs; whnf; arg 1; whnf) (by conv => lhs; whnf) (by first | exact Tryz.underlying22 | exact Tryz.underlying23 | exact Tryz.underlying43 | exact Tryz.underlying44 | exact Tryz.underlying51 | exact Tryz.underlying86 | exact Tryz.underlying191 | exact Tryz.underlying209 | exact Tryz.underlying234 | exact Tryz.underlying270 | exact Tryz.underlying281 | exact Tryz.underlying344) (by kernel_rfl) (by simp) rfl (by simp only [List.length_cons, List.length_nil]; omega) rfl rfl | exact a_store) | refine tri_true rfl ?_ | refine tri_false rfl ?_ | refine tri_block ?_ | refine tri_skip ?_ | refine tri_ret ?_ | refine tri_exit ?_)
  exact nextR (i + 1, n, out ++ [s]) hI (weak_st ⟨rfl, rfl, rfl, rfl, rfl, rfl, rfl, rfl, trivial⟩ ⟨rfl, rfl, congrArg (fun r => some (AObj.rows 9 1 r)) e1, trivial⟩) (show ps.length - (i + 1) < ps.length - i by omega)
set_option maxHeartbeats 8000000 in
theorem wkid_err (e : Nat) (E : CEff gxp 34 (.box [.int .i64 (lf : Int)]) [.ptr 0 0, .agg [.ro false 2 (fieldRows qh), .str qb, .bool qm, .pts false qp], .int .i64 (dep + 1)] (some (.box [.any])) (.tup [.str [], .iface 28 (.int .i64 (e : Int))]))
    (hQ : ∀ σ, (∃ σ', Weak (WrC w γ hw hM) σ σ' ∧ RetQB gxp.P Tryz.f34.results.toList (.tup [.str [], .iface 28 (.int .i64 (e : Int))]) (some (.box [.any])) .ret σ') → Q .ret σ) :
    Tri (WrC w γ hw hM) (loopN Tryz.f34 0) (WKidS dep nl ps (i, lf, out)) (loopQ (WrC w γ hw hM) I (WKidS dep nl ps) (fun x => ps.length - x.1) (ps.length - i) Q) := by
  have hsl := sr_len out
  change Tri _ _ (st [(0, .ptr 0 0), (2, .int .i64 dep), (11, .sl 111), (12, .str []), (14, .sl 114), (103, .pts false ps), (104, .int .i64 ps.length), (105, .int .i64 i)] [(0, .box [.int .i64 (lf : Int)]), (111, .rows 75 2 (fieldRows nl)), (114, .rows 9 1 (strRows out))]) _
  repeat' (first | refine a_f ?_ | refine st_nil ?_ | refine tri_seq ?_ | refine tri_region rfl ?_ | refine a_draw ?_ | (apply st_r rfl; case hq => first | exact q_idxpts (p := .mk qh qb qm qp) (by conv => lhs; whnf) (by conv => lhs; whnf) Tryz.underlying23 (by kernel_rfl) (by omega) hqr | exact q_loadar (n := 4) (by conv => lhs; whnf) (by conv => lhs; whnf) (by first | rfl | exact Nat.le_of_ble_eq_true rfl | exact Nat.succ_pos _ | decide) (by kernel_rfl) (fun _ => rfl) | exact q_loada (n := 4) (by conv => lhs; whnf) (by conv => lhs; whnf; arg 1; whnf) (by conv => lhs; whnf) (by first | rfl | exact Nat.le_of_ble_eq_true rfl | exact Nat.succ_pos _ | decide) (by show aggB Tryz.prog _ _ = true; decide +kernel) | exact q_neif (by conv => lhs; whnf) Tryz.underlying32 | exact a_q) | (apply st_rif rfl; (case hq => first | exact a_i); all_goals (intro _; try (exfalso; first | omega | contradiction))) | (apply st_rw rfl rfl; case hq => first | exact w_alloc (d := 16) 116 (by exact zPartK) rfl rfl rfl | exact w_call (id := 0) E (hcf := Tryz.call34) (by rfl) rfl rfl rfl rfl rfl | exact a_store) | refine tri_true rfl ?_ | refine tri_false rfl ?_ | refine tri_block ?_ | refine tri_skip ?_ | refine tri_ret ?_ | refine tri_exit ?_)
  exact hQ _ ⟨_, Weak.refl _ _, ⟨trivial, by (conv => lhs; whnf); rfl, rfl⟩⟩
end
end Go.Proofs.YtignjjnflcpiiaaGreatDoor
namespace Go.Proofs.YtignjjnflcpiiaaGreatDoor
open Go.RowKit
attribute [local irreducible] Tri Steps Qd Wr Weak CPure CEff AllB Behind
set_option maxRecDepth 100000
set_option linter.unusedSectionVars false
def smallKids (f : Nat → PT → Option Nat) : Nat → List PT → Option Nat
  | left, [] => some left
  | left, p :: r => match f left p with
    | none => none
    | some n => smallKids f n r
def smallF : Nat → Nat → PT → Option Nat
  | 0, _, _ => none
  | k + 1, left, .mk h b _ ps => if left < 1 + b.length / 50 then none else match shortB h with
    | false => none
    | true => smallKids (smallF k) (left - (1 + b.length / 50)) ps
theorem short_tot {l : Fs} (h : shortB l = true) : htot l ≤ 8020 := by
  unfold shortB at h
  rw [Bool.and_eq_true] at h
  have h1 := of_decide_eq_true h.1
  have key : ∀ l : Fs, l.all fitF = true → htot l ≤ 401 * l.length := by
    intro l
    induction l with
    | nil => intro _; exact Nat.le_refl _
    | cons f r ih =>
      intro h
      rw [List.all_cons, Bool.and_eq_true] at h
      have h2 := ih h.2
      have h3 := of_decide_eq_true h.1
      rw [htot_cons, List.length_cons]; omega
  have := key l h.2
  omega
theorem smallKids_le {k : Nat} (ih : ∀ left p n, smallF k left p = some n → n ≤ left ∧ ms p + 8120 * n ≤ 8120 * left ∧ mh p ≤ 8020) : ∀ (ps : List PT) (left n : Nat), smallKids (smallF k) left ps = some n → n ≤ left ∧ msL ps + 8120 * n ≤ 8120 * left ∧ mhL ps ≤ 8020
  | [], left, n, h => by rw [smallKids] at h; cases h; exact ⟨Nat.le_refl _, by rw [msL]; omega, by rw [mhL]; omega⟩
  | p :: r, left, n, h => by
    rw [smallKids] at h
    split at h
    · cases h
    · rename_i c hc
      obtain ⟨a1, a2, a3⟩ := ih _ _ _ hc
      obtain ⟨b1, b2, b3⟩ := smallKids_le ih r c n h
      rw [msL, mhL]
      exact ⟨by omega, by omega, by omega⟩
theorem smallF_le : ∀ (k left : Nat) (p : PT) (n : Nat), smallF k left p = some n → n ≤ left ∧ ms p + 8120 * n ≤ 8120 * left ∧ mh p ≤ 8020
  | 0, left, p, n, h => by rw [smallF] at h; cases h
  | k + 1, left, .mk hd b m ps, n, h => by
    rw [smallF] at h
    split at h
    · cases h
    · rename_i hlt
      split at h
      · cases h
      · rename_i hs
        obtain ⟨a1, a2, a3⟩ := smallKids_le (smallF_le k) ps _ n h
        have ht := short_tot hs
        rw [ms, mh]
        exact ⟨by omega, by omega, by omega⟩
theorem small_fit {p : PT} {n : Nat} (h : smallF 7 60 p = some n) : Fit p := by
  obtain ⟨_, h2, h3⟩ := smallF_le 7 60 p n h
  exact ⟨by omega, by omega⟩
def smCell : Option Nat → AV
  | some n => .int .i64 (n : Int)
  | none => .any
end Go.Proofs.YtignjjnflcpiiaaGreatDoor
namespace Go.Proofs.YtignjjnflcpiiaaGreatDoor
open Go.RowKit
attribute [local irreducible] Tri Steps Qd Wr Weak CPure CEff AllB Behind
set_option maxRecDepth 100000
set_option linter.unusedSectionVars false
theorem quo50 {n : Nat} (h : n ≤ 140737488355328) : IntKind.i64.wrap ((n : Int).tdiv 50) = (n : Int) / 50 := by
  rw [Int.tdiv_eq_ediv_of_nonneg (by omega)]
  exact IntWalk.i64_in _ (by omega)
section
variable {hd : Fs} {bd : B} {m : Bool} {ps : List PT} {left : Nat} (hl : left ≤ 60) (hb : bd.length ≤ 140737488355328)
include hl hb
variable {k : Nat} (hk7 : k + 1 ≤ 7)
include hk7
variable (hh : hd.length ≤ 140737488355328 ∧ ∀ f ∈ hd, f.1.length ≤ 140737488355328 ∧ f.2.length ≤ 140737488355328)
include hh
end
end Go.Proofs.YtignjjnflcpiiaaGreatDoor
