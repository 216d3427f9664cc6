import Derived.Test.YtignjjnflcpiiaaGreatDoorWWrtE
import Derived.Test.YtignjjnflcpiiaaGreatDoorWG39
import Derived.Test.YtignjjnflcpiiaaGreatDoorWG20
import Derived.Test.YtignjjnflcpiiaaGreatDoorWHeadX
import Derived.Test.YtignjjnflcpiiaaGreatDoorWG41
set_option linter.unusedVariables false
set_option linter.unusedSimpArgs false
set_option maxHeartbeats 1000000
namespace Go.Proofs.YtignjjnflcpiiaaGreatDoor
open Go.RowKit
attribute [local irreducible] Tri Steps Qd Wr Weak CPure CEff
set_option maxRecDepth 100000
set_option linter.unusedSectionVars false
theorem CMod.p {f : FuncId} {e : TypeId} {sz : Nat} {rows rows' : List (List AV)} {az : List AV} (h : CMod gxo f e sz rows az rows') : CMod gxp f e sz rows az rows' := by
  intro w γ vs hn hM hr hl hrep
  have hr' : HR (cxm gxo 0 w γ hn hM) γ (heap1 (some (.rows e sz rows))) w := { obj := hr.obj, disj := hr.disj, two := hr.two, lt := hr.lt, chg := hr.chg, glob := hr.glob.1, pins := hr.pins }
  refine (h w γ vs hn hM hr' hl hrep).mono ?_
  rintro en w' ⟨γ', he, h2⟩
  refine ⟨γ', he, { obj := h2.obj, disj := h2.disj, two := h2.two, lt := h2.lt, chg := h2.chg, glob := ?_, pins := h2.pins }⟩
  have hgl : gxp.G w := hr.glob
  exact gxp.hG w w' hgl (fun k hk => h2.chg.block k (by have : gxp.nG ≤ w.heap.size := hn; show k < w.heap.size; omega) (fun hb => by have := hM k hb; have h3 : gxp.nG ≤ k := this; omega))
theorem CNewR.q {f : FuncId} {e : TypeId} {sz : Nat} {rows : List (List AV)} {az : List AV} (h : CNewR gx f az e sz rows) : CNewR gxp f az e sz rows := fun w vs hG hn hl hr => h w vs hG.1.1.1 hn hl hr
theorem ours0p : ∀ w, gxp.G w → w.cell? ⟨1, 0, none⟩ = some (.string ⟨ctN.toArray⟩) := fun w h => h.1.2.1
theorem ours1p : ∀ w, gxp.G w → w.cell? ⟨1, 1, none⟩ = some (.string ⟨ceN.toArray⟩) := fun w h => h.1.2.2
def wCell : Res (B × Nat) → AV
  | .ok (_, n) => .int .i64 (n : Int)
  | .err _ => .any
def wAV : Res (B × Nat) → AV
  | .ok (s, _) => .tup [.str s, .nili]
  | .err e => .tup [.str [], .iface 28 (.int .i64 (e : Int))]
theorem writeH_ok {l : Fs} (h : rightB l = true) : writeH l = .ok (headW l) := by
  unfold writeH
  rw [writeGo_ok l 0 [] h, List.nil_append]
  rfl
section
variable {hd : Fs} {bd : B} {m : Bool} {ps : List PT}
set_option maxHeartbeats 8000000 in
theorem pw_lim {d left : Nat} (hz : d = 0 ∨ left = 0) (hd4 : d ≤ 4) (hl : left ≤ 40) : ∀ dep : Int, dep = 5 - (d : Int) → CEff gxp 34 (.box [.int .i64 (left : Int)]) [.ptr 0 0, .agg [.ro false 2 (fieldRows hd), .str bd, .bool m, .pts false ps], .int .i64 dep] (some (.box [.any])) (wAV (.err 4)) := by
  intro dep hdep
  refine ceff_ofb Tryz.func34 rfl (Nat.le_of_ble_eq_true rfl) (fun w γ hw hM => ?_)
  refine tri_postE ?_
  rcases hz with hz | hz
  · by_cases h0 : left = 0
    all_goals
      repeat' (first | refine a_f ?_ | refine st_nil ?_ | refine tri_seq ?_ | refine tri_region rfl ?_ | refine a_draw ?_ | (apply st_r rfl; case hq => first | exact a_q) | (apply st_rif rfl; (case hq => first | exact a_i); all_goals (intro _; try (exfalso; first | omega | contradiction))) | (apply st_rw rfl rfl; case hq => first | exact w_box (d := 4) 104 (by conv => lhs; whnf) rfl (by conv => lhs; whnf) rfl rfl rfl | exact a_store) | refine tri_true rfl ?_ | refine tri_false rfl ?_ | refine tri_block ?_ | refine tri_skip ?_ | refine tri_ret ?_ | refine tri_exit ?_)
      exact ⟨_, weak_boxany 0 rfl, ⟨trivial, by (conv => lhs; whnf); rfl, rfl⟩⟩
  · repeat' (first | refine a_f ?_ | refine st_nil ?_ | refine tri_seq ?_ | refine tri_region rfl ?_ | refine a_draw ?_ | (apply st_r rfl; case hq => first | exact a_q) | (apply st_rif rfl; (case hq => first | exact a_i); all_goals (intro _; try (exfalso; first | omega | contradiction))) | (apply st_rw rfl rfl; case hq => first | exact w_box (d := 4) 104 (by conv => lhs; whnf) rfl (by conv => lhs; whnf) rfl rfl rfl | exact a_store) | refine tri_true rfl ?_ | refine tri_false rfl ?_ | refine tri_block ?_ | refine tri_skip ?_ | refine tri_ret ?_ | refine tri_exit ?_)
    exact ⟨_, weak_boxany 0 rfl, ⟨trivial, by (conv => lhs; whnf); rfl, rfl⟩⟩
variable {d left : Nat} (hd4 : d + 1 ≤ 4) (hl : left + 1 ≤ 40) (hf : Fit (.mk hd bd m ps))
include hd4 hl hf
set_option maxHeartbeats 8000000 in
theorem pw_right (h : rightB hd = false) : ∀ dep : Int, dep = 5 - ((d + 1 : Nat) : Int) → CEff gxp 34 (.box [.int .i64 ((left + 1 : Nat) : Int)]) [.ptr 0 0, .agg [.ro false 2 (fieldRows hd), .str bd, .bool m, .pts false ps], .int .i64 dep] (some (.box [.any])) (wAV (.err 1)) := by
  intro dep hdep
  refine ceff_ofb Tryz.func34 rfl (Nat.le_of_ble_eq_true rfl) (fun w γ hw hM => ?_)
  refine tri_postE ?_
  obtain ⟨_, hsm, _, hpl⟩ := hf.head
  have R1 : CPure gxp 74 [.ro false 2 (fieldRows hd)] (.bool false) := by
    have := (right_c hd hsm).q
    rw [h] at this
    exact this
  repeat' (first | refine a_f ?_ | refine st_nil ?_ | refine tri_seq ?_ | refine tri_region rfl ?_ | refine a_draw ?_ | (apply st_r rfl; case hq => first | exact q_call R1 (hcf := Tryz.call74) rfl rfl | exact a_q) | (apply st_rif rfl; (case hq => first | exact a_i); all_goals (intro _; try (exfalso; first | omega | contradiction))) | (apply st_rw rfl rfl; case hq => first | exact w_box (d := 4) 104 (by conv => lhs; whnf) rfl (by conv => lhs; whnf) rfl rfl rfl | exact a_store) | refine tri_true rfl ?_ | refine tri_false rfl ?_ | refine tri_block ?_ | refine tri_skip ?_ | refine tri_ret ?_ | refine tri_exit ?_)
  exact ⟨_, weak_boxany 0 rfl, ⟨trivial, by (conv => lhs; whnf); rfl, rfl⟩⟩
variable (hr : rightB hd = true)
include hr
set_option maxHeartbeats 8000000 in
theorem pw_bnd (h : bndF hd = none) : ∀ dep : Int, dep = 5 - ((d + 1 : Nat) : Int) → CEff gxp 34 (.box [.int .i64 ((left + 1 : Nat) : Int)]) [.ptr 0 0, .agg [.ro false 2 (fieldRows hd), .str bd, .bool m, .pts false ps], .int .i64 dep] (some (.box [.any])) (wAV (.err 1)) := by
  intro dep hdep
  refine ceff_ofb Tryz.func34 rfl (Nat.le_of_ble_eq_true rfl) (fun w γ hw hM => ?_)
  refine tri_postE ?_
  obtain ⟨_, hsm, _, hpl⟩ := hf.head
  have R1 : CPure gxp 74 [.ro false 2 (fieldRows hd)] (.bool true) := by
    have := (right_c hd hsm).q
    rw [hr] at this
    exact this
  have B1 : CPure gxp 75 [.ro false 2 (fieldRows hd)] (.tup [.str [], .bool false, .iface 28 (.int .i64 3)]) := by
    have := (boundary_c hd hsm).p
    rw [h] at this
    exact this
  repeat' (first | refine a_f ?_ | refine st_nil ?_ | refine tri_seq ?_ | refine tri_region rfl ?_ | refine a_draw ?_ | (apply st_r rfl; case hq => first | exact q_call R1 (hcf := Tryz.call74) rfl rfl | exact q_call B1 (hcf := Tryz.call75) rfl rfl | exact q_neif (by conv => lhs; whnf) Tryz.underlying32 | exact a_q) | (apply st_rif rfl; (case hq => first | exact a_i); all_goals (intro _; try (exfalso; first | omega | contradiction))) | (apply st_rw rfl rfl; case hq => first | exact w_box (d := 4) 104 (by conv => lhs; whnf) rfl (by conv => lhs; whnf) rfl rfl rfl | exact a_store) | refine tri_true rfl ?_ | refine tri_false rfl ?_ | refine tri_block ?_ | refine tri_skip ?_ | refine tri_ret ?_ | refine tri_exit ?_)
  exact ⟨_, weak_boxany 0 rfl, ⟨trivial, by (conv => lhs; whnf); rfl, rfl⟩⟩
omit hd4 hl hf hr in
theorem q_nebL {C : Cx} {σ : St} {ty t t' : TypeId} {pos : String} {af : Array Edge} {g : Option (Nat × Bool)} {x y : Operand} {d : Option Nat} {p q r : Bool} (hx : σ.ev x = .bool p) (hy : σ.ev y = .bool q) (hr : (!(p == q)) = r) (ht : C.P.underlying t = some .bool) : Qd C ⟨d, .binOp .neq t x y t', ty, pos, af, g⟩ σ (.bool r) := by
  subst hr
  exact q_neqb hx hy ht
set_option maxHeartbeats 8000000 in
theorem pw_bad1 (h : bndF hd = some none) (hm : m = true) : ∀ dep : Int, dep = 5 - ((d + 1 : Nat) : Int) → CEff gxp 34 (.box [.int .i64 ((left + 1 : Nat) : Int)]) [.ptr 0 0, .agg [.ro false 2 (fieldRows hd), .str bd, .bool m, .pts false ps], .int .i64 dep] (some (.box [.any])) (wAV (.err 1)) := by
  intro dep hdep
  refine ceff_ofb Tryz.func34 rfl (Nat.le_of_ble_eq_true rfl) (fun w γ hw hM => ?_)
  refine tri_postE ?_
  subst hm
  obtain ⟨_, hsm, _, hpl⟩ := hf.head
  have R1 : CPure gxp 74 [.ro false 2 (fieldRows hd)] (.bool true) := by
    have := (right_c hd hsm).q
    rw [hr] at this
    exact this
  have B1 : CPure gxp 75 [.ro false 2 (fieldRows hd)] (.tup [.str [], .bool false, .nili]) := by
    have := (boundary_c hd hsm).p
    rw [h] at this
    exact this
  repeat' (first | refine a_f ?_ | refine st_nil ?_ | refine tri_seq ?_ | refine tri_region rfl ?_ | refine a_draw ?_ | (apply st_r rfl; case hq => first | exact q_call R1 (hcf := Tryz.call74) rfl rfl | exact q_call B1 (hcf := Tryz.call75) rfl rfl | exact q_nenil (by rfl) Tryz.underlying32 | exact q_nebL (by conv => lhs; whnf) (by conv => lhs; whnf) (by rfl) (by kernel_rfl) | exact a_q) | (apply st_rif rfl; (case hq => first | exact a_i); all_goals (intro _; try (exfalso; first | omega | contradiction))) | (apply st_rw rfl rfl; case hq => first | exact w_box (d := 4) 104 (by conv => lhs; whnf) rfl (by conv => lhs; whnf) rfl rfl rfl | exact a_store) | refine tri_true rfl ?_ | refine tri_false rfl ?_ | refine tri_block ?_ | refine tri_skip ?_ | refine tri_ret ?_ | refine tri_exit ?_)
  exact ⟨_, weak_boxany 0 rfl, ⟨trivial, by (conv => lhs; whnf); rfl, rfl⟩⟩
set_option maxHeartbeats 8000000 in
theorem pw_bad2 (h : bndF hd = some none) (hm : m = false) (hp : 0 < ps.length) : ∀ dep : Int, dep = 5 - ((d + 1 : Nat) : Int) → CEff gxp 34 (.box [.int .i64 ((left + 1 : Nat) : Int)]) [.ptr 0 0, .agg [.ro false 2 (fieldRows hd), .str bd, .bool m, .pts false ps], .int .i64 dep] (some (.box [.any])) (wAV (.err 1)) := by
  intro dep hdep
  refine ceff_ofb Tryz.func34 rfl (Nat.le_of_ble_eq_true rfl) (fun w γ hw hM => ?_)
  refine tri_postE ?_
  subst hm
  obtain ⟨_, hsm, _, hpl⟩ := hf.head
  have R1 : CPure gxp 74 [.ro false 2 (fieldRows hd)] (.bool true) := by
    have := (right_c hd hsm).q
    rw [hr] at this
    exact this
  have B1 : CPure gxp 75 [.ro false 2 (fieldRows hd)] (.tup [.str [], .bool false, .nili]) := by
    have := (boundary_c hd hsm).p
    rw [h] at this
    exact this
  repeat' (first | refine a_f ?_ | refine st_nil ?_ | refine tri_seq ?_ | refine tri_region rfl ?_ | refine a_draw ?_ | (apply st_r rfl; case hq => first | exact q_call R1 (hcf := Tryz.call74) rfl rfl | exact q_call B1 (hcf := Tryz.call75) rfl rfl | exact q_nenil (by rfl) Tryz.underlying32 | exact q_nebL (by conv => lhs; whnf) (by conv => lhs; whnf) (by rfl) (by kernel_rfl) | exact q_lenpts (fr := false) (l := ps) (by rfl) Tryz.underlying23 | exact a_q) | (apply st_rif rfl; (case hq => first | exact a_i); all_goals (intro _; try (exfalso; first | omega | contradiction))) | (apply st_rw rfl rfl; case hq => first | exact w_box (d := 4) 104 (by conv => lhs; whnf) rfl (by conv => lhs; whnf) rfl rfl rfl | exact a_store) | refine tri_true rfl ?_ | refine tri_false rfl ?_ | refine tri_block ?_ | refine tri_skip ?_ | refine tri_ret ?_ | refine tri_exit ?_)
  exact ⟨_, weak_boxany 0 rfl, ⟨trivial, by (conv => lhs; whnf); rfl, rfl⟩⟩
set_option maxHeartbeats 8000000 in
theorem pw_bad3 {b : B} (h : bndF hd = some (some b)) (hm : m = false) : ∀ dep : Int, dep = 5 - ((d + 1 : Nat) : Int) → CEff gxp 34 (.box [.int .i64 ((left + 1 : Nat) : Int)]) [.ptr 0 0, .agg [.ro false 2 (fieldRows hd), .str bd, .bool m, .pts false ps], .int .i64 dep] (some (.box [.any])) (wAV (.err 1)) := by
  intro dep hdep
  refine ceff_ofb Tryz.func34 rfl (Nat.le_of_ble_eq_true rfl) (fun w γ hw hM => ?_)
  refine tri_postE ?_
  subst hm
  obtain ⟨_, hsm, _, hpl⟩ := hf.head
  have R1 : CPure gxp 74 [.ro false 2 (fieldRows hd)] (.bool true) := by
    have := (right_c hd hsm).q
    rw [hr] at this
    exact this
  have B1 : CPure gxp 75 [.ro false 2 (fieldRows hd)] (.tup [.str b, .bool true, .nili]) := by
    have := (boundary_c hd hsm).p
    rw [h] at this
    exact this
  repeat' (first | refine a_f ?_ | refine st_nil ?_ | refine tri_seq ?_ | refine tri_region rfl ?_ | refine a_draw ?_ | (apply st_r rfl; case hq => first | exact q_call R1 (hcf := Tryz.call74) rfl rfl | exact q_call B1 (hcf := Tryz.call75) rfl rfl | exact q_nenil (by rfl) Tryz.underlying32 | exact q_nebL (by conv => lhs; whnf) (by conv => lhs; whnf) (by rfl) (by kernel_rfl) | exact a_q) | (apply st_rif rfl; (case hq => first | exact a_i); all_goals (intro _; try (exfalso; first | omega | contradiction))) | (apply st_rw rfl rfl; case hq => first | exact w_box (d := 4) 104 (by conv => lhs; whnf) rfl (by conv => lhs; whnf) rfl rfl rfl | exact a_store) | refine tri_true rfl ?_ | refine tri_false rfl ?_ | refine tri_block ?_ | refine tri_skip ?_ | refine tri_ret ?_ | refine tri_exit ?_)
  exact ⟨_, weak_boxany 0 rfl, ⟨trivial, by (conv => lhs; whnf); rfl, rfl⟩⟩
set_option maxHeartbeats 8000000 in
theorem pw_bad4 {b : B} (h : bndF hd = some (some b)) (hm : m = true) (hb : bd ≠ []) : ∀ dep : Int, dep = 5 - ((d + 1 : Nat) : Int) → CEff gxp 34 (.box [.int .i64 ((left + 1 : Nat) : Int)]) [.ptr 0 0, .agg [.ro false 2 (fieldRows hd), .str bd, .bool m, .pts false ps], .int .i64 dep] (some (.box [.any])) (wAV (.err 1)) := by
  intro dep hdep
  refine ceff_ofb Tryz.func34 rfl (Nat.le_of_ble_eq_true rfl) (fun w γ hw hM => ?_)
  refine tri_postE ?_
  subst hm
  obtain ⟨_, hsm, _, hpl⟩ := hf.head
  have R1 : CPure gxp 74 [.ro false 2 (fieldRows hd)] (.bool true) := by
    have := (right_c hd hsm).q
    rw [hr] at this
    exact this
  have B1 : CPure gxp 75 [.ro false 2 (fieldRows hd)] (.tup [.str b, .bool true, .nili]) := by
    have := (boundary_c hd hsm).p
    rw [h] at this
    exact this
  repeat' (first | refine a_f ?_ | refine st_nil ?_ | refine tri_seq ?_ | refine tri_region rfl ?_ | refine a_draw ?_ | (apply st_r rfl; case hq => first | exact q_call R1 (hcf := Tryz.call74) rfl rfl | exact q_call B1 (hcf := Tryz.call75) rfl rfl | exact q_nenil (by rfl) Tryz.underlying32 | exact q_nebL (by conv => lhs; whnf) (by conv => lhs; whnf) (by rfl) (by kernel_rfl) | exact a_q) | (apply st_rif rfl; (case hq => first | exact a_i); all_goals (intro _; try (exfalso; first | omega | contradiction))) | (apply st_rw rfl rfl; case hq => first | exact w_box (d := 4) 104 (by conv => lhs; whnf) rfl (by conv => lhs; whnf) rfl rfl rfl | exact a_store) | refine tri_true rfl ?_ | refine tri_false rfl ?_ | refine tri_block ?_ | refine tri_skip ?_ | refine tri_ret ?_ | refine tri_exit ?_)
  exact ⟨_, weak_boxany 0 rfl, ⟨trivial, by (conv => lhs; whnf); rfl, rfl⟩⟩
end
end Go.Proofs.YtignjjnflcpiiaaGreatDoor
namespace Go.Proofs.YtignjjnflcpiiaaGreatDoor
open Go.RowKit
attribute [local irreducible] Tri Steps Qd Wr Weak CPure CEff
set_option maxRecDepth 100000
theorem zInt : zeroL Tryz.prog 3 = some [.int .i64 0] := by kernel_rfl
theorem zPartK : zeroL Tryz.prog 25 = some [.nils, .str [], .bool false, .nils] := by kernel_rfl
section
variable {d left : Nat} {s : B} (hd4 : d + 1 ≤ 4) (hl : left + 1 ≤ 40) (hs : s.length ≤ 1000000)
include hd4 hl hs
variable {l0 : Fs} {body : B} (h1 : readH s = .ok l0 body)
include h1
variable {l : Fs} (h2 : cleanF l0 = .ok l)
include h2
end
end Go.Proofs.YtignjjnflcpiiaaGreatDoor
namespace Go.Proofs.YtignjjnflcpiiaaGreatDoor
open Go.RowKit
attribute [local irreducible] Tri Steps Qd Wr Weak CPure CEff
set_option maxRecDepth 100000
set_option linter.unusedSectionVars false
def wcat (out : List B) : Res (List B × Nat) → Res (List B × Nat)
  | .ok (l, n) => .ok (out ++ l, n)
  | .err e => .err e
theorem wcat_step {f : Nat → PT → Res (B × Nat)} {out : List B} {lf n : Nat} {p : PT} {ps : List PT} {s : B} (h : f lf p = .ok (s, n)) : wcat out (writeKids f lf (p :: ps)) = wcat (out ++ [s]) (writeKids f n ps) := by
  rw [writeKids, h]
  simp only
  cases writeKids f n ps with
  | ok r => obtain ⟨l, m⟩ := r; simp [wcat]
  | err e => rfl
theorem wcat_err {f : Nat → PT → Res (B × Nat)} {out : List B} {lf e : Nat} {p : PT} {ps : List PT} (h : f lf p = .err e) : wcat out (writeKids f lf (p :: ps)) = .err e := by
  rw [writeKids, h]; rfl
theorem writeKids_le {f : Nat → PT → Res (B × Nat)} (hf : ∀ left p s n, f left p = .ok (s, n) → n ≤ left) : ∀ (ps : List PT) (left : Nat) (l : List B) (n : Nat), writeKids f left ps = .ok (l, n) → n ≤ left
  | [], left, l, n, h => by rw [writeKids] at h; cases h; exact Nat.le_refl _
  | p :: ps, left, l, n, h => by
    rw [writeKids] at h
    split at h
    · cases h
    · rename_i s k hp
      split at h
      · cases h
      · rename_i qs n' hq
        cases h
        exact Nat.le_trans (writeKids_le hf ps k qs _ hq) (hf left p s k hp)
theorem writePt_le : ∀ (d left : Nat) (p : PT) (s : B) (n : Nat), writePt d left p = .ok (s, n) → n ≤ left
  | 0, left, p, s, n, h => by rw [writePt] at h; cases h
  | d + 1, 0, p, s, n, h => by rw [writePt] at h; cases h
  | d + 1, left + 1, p, s, n, h => by
    rw [writePt] at h
    split at h
    · cases h
    · split at h
      · cases h; exact Nat.le_succ _
      · split at h
        · cases h
        · rename_i xs k hk
          cases h
          exact Nat.le_succ_of_le (writeKids_le (writePt_le d) _ left _ _ hk)
theorem writeKids_err {f : Nat → PT → Res (B × Nat)} (hf : ∀ left s e, f left s = .err e → 1 ≤ e) : ∀ (xs : List PT) (left e : Nat), writeKids f left xs = .err e → 1 ≤ e
  | [], left, e, h => by rw [writeKids] at h; cases h
  | x :: xs, left, e, h => by
    rw [writeKids] at h
    split at h
    · rename_i e' hp
      cases h
      exact hf _ _ _ hp
    · rename_i p k hp
      split at h
      · rename_i e' hq
        cases h
        exact writeKids_err hf xs k _ hq
      · cases h
theorem writePt_err : ∀ (d left : Nat) (p : PT) (e : Nat), writePt d left p = .err e → 1 ≤ e
  | 0, left, p, e, h => by rw [writePt] at h; cases h; decide
  | d + 1, 0, p, e, h => by rw [writePt] at h; cases h; decide
  | d + 1, left + 1, p, e, h => by
    rw [writePt] at h
    split at h
    · cases h; decide
    · split at h
      · cases h
      · split at h
        · rename_i e' hk
          cases h
          exact writeKids_err (writePt_err d) _ left _ hk
        · cases h
theorem pt_at {ps : List PT} {i : Nat} (h : i < ps.length) : ∃ q, ps[i]? = some q ∧ q ∈ ps ∧ ps.drop i = q :: ps.drop (i + 1) ∧ ps[(i : Int).toNat]? = some q :=
  ⟨ps[i], List.getElem?_eq_getElem h, List.getElem_mem h, List.drop_eq_getElem_cons h, by rw [Int.toNat_natCast]; exact List.getElem?_eq_getElem h⟩
def WOk (d left : Nat) (p : PT) : Prop := ∀ dep : Int, dep = 5 - (d : Int) → CEff gxp 34 (.box [.int .i64 (left : Int)]) [.ptr 0 0, .agg [.ro false 2 (fieldRows p.head), .str p.body, .bool p.many, .pts false p.parts], .int .i64 dep] (some (.box [wCell (writePt d left p)])) (wAV (writePt d left p))
abbrev WKidS (dep : Int) (nl : Fs) (ps : List PT) (x : Nat × Nat × List B) : St := st [(0, .ptr 0 0), (2, .int .i64 dep), (11, .sl 111), (12, .str []), (14, .sl 114), (103, .pts false ps), (104, .int .i64 ps.length), (105, .int .i64 x.1)] [(0, .box [.int .i64 (x.2.1 : Int)]), (111, .rows 75 2 (fieldRows nl)), (114, .rows 9 1 (strRows x.2.2))]
noncomputable abbrev WrC (w : World) (γ : Gh) (hw : gxp.nG ≤ w.heap.size) (hM : ∀ b, Blk γ 0 b → gxp.nG ≤ b) : Cx := cxe gxp Tryz.f34.ntmps w γ hw hM
section
variable {w : World} {γ : Gh} (hw : gxp.nG ≤ w.heap.size) (hM : ∀ b, Blk γ 0 b → gxp.nG ≤ b) (I : Nat × Nat × List B → Prop) (Q : Exit → St → Prop) (dep : Int) (nl : Fs) (ps : List PT) (i lf : Nat) (out : List B) (qh : Fs) (qb : B) (qm : Bool) (qp : List PT)
  (hdep : 0 ≤ dep ∧ dep ≤ 5) (hi : i < ps.length) (hpl : ps.length ≤ 2000000) (hol : out.length ≤ i) (hqr : ps[(i : Int).toNat]? = some (.mk qh qb qm qp))
include hdep hi hpl hol hqr
set_option maxHeartbeats 8000000 in
theorem wkid_ok (s : B) (n : Nat) (E : CEff gxp 34 (.box [.int .i64 (lf : Int)]) [.ptr 0 0, .agg [.ro false 2 (fieldRows qh), .str qb, .bool qm, .pts false qp], .int .i64 (dep + 1)] (some (.box [.int .i64 (n : Int)])) (.tup [.str s, .nili])) (hI : I (i + 1, n, out ++ [s])) :
    Tri (WrC w γ hw hM) (loopN Tryz.f34 0) (WKidS dep nl ps (i, lf, out)) (loopQ (WrC w γ hw hM) I (WKidS dep nl ps) (fun x => ps.length - x.1) (ps.length - i) Q) := by
  have hsl := sr_len out
  have e1 := sr_app out s
  change Tri _ _ (st [(0, .ptr 0 0), (2, .int .i64 dep), (11, .sl 111), (12, .str []), (14, .sl 114), (103, .pts false ps), (104, .int .i64 ps.length), (105, .int .i64 i)] [(0, .box [.int .i64 (lf : Int)]), (111, .rows 75 2 (fieldRows nl)), (114, .rows 9 1 (strRows out))]) _
  repeat' (first | refine a_f ?_ | refine st_nil ?_ | refine tri_seq ?_ | refine tri_region rfl ?_ | refine a_draw ?_ | (apply st_r rfl; case hq => first | exact q_idxpts (p := .mk qh qb qm qp) (by conv => lhs; whnf) (by conv => lhs; whnf) Tryz.underlying23 (by kernel_rfl) (by omega) hqr | exact q_loadar (n := 4) (by conv => lhs; whnf) (by conv => lhs; whnf) (by first | rfl | exact Nat.le_of_ble_eq_true rfl | exact Nat.succ_pos _ | decide) (by kernel_rfl) (fun _ => rfl) | exact q_loada (n := 4) (by conv => lhs; whnf) (by conv => lhs; whnf; arg 1; whnf) (by conv => lhs; whnf) (by first | rfl | exact Nat.le_of_ble_eq_true rfl | exact Nat.succ_pos _ | decide) (by show aggB Tryz.prog _ _ = true; decide +kernel) | exact q_nenil (by rfl) Tryz.underlying32 | exact a_q) | (apply st_rif rfl; (case hq => first | exact a_i); all_goals (intro _; try (exfalso; first | omega | contradiction))) | (apply st_rw rfl rfl; case hq => first | exact w_alloc (d := 16) 116 (by exact zPartK) rfl rfl rfl | exact w_call (id := 0) E (hcf := Tryz.call34) (by rfl) rfl rfl rfl rfl rfl | exact w_append (id := 114) (by conv => lhs; whnf) (by conv => lhs; whnf; arg 1; whnf) (by conv => lhs; whnf) (by first | exact Tryz.underlying22 | exact Tryz.underlying23 | exact Tryz.underlying43 | exact Tryz.underlying44 | exact Tryz.underlying51 | exact Tryz.underlying86 | exact Tryz.underlying191 | exact Tryz.underlying209 | exact Tryz.underlying234 | exact Tryz.underlying270 | exact Tryz.underlying281 | exact Tryz.underlying344) (by kernel_rfl) (by simp) rfl (by simp only [List.length_cons, List.length_nil]; omega) rfl rfl | exact a_store) | refine tri_true rfl ?_ | refine tri_false rfl ?_ | refine tri_block ?_ | refine tri_skip ?_ | refine tri_ret ?_ | refine tri_exit ?_)
  exact nextR (i + 1, n, out ++ [s]) hI (weak_st ⟨rfl, rfl, rfl, rfl, rfl, rfl, rfl, rfl, trivial⟩ ⟨rfl, rfl, congrArg (fun r => some (AObj.rows 9 1 r)) e1, trivial⟩) (show ps.length - (i + 1) < ps.length - i by omega)
set_option maxHeartbeats 8000000 in
theorem wkid_err (e : Nat) (E : CEff gxp 34 (.box [.int .i64 (lf : Int)]) [.ptr 0 0, .agg [.ro false 2 (fieldRows qh), .str qb, .bool qm, .pts false qp], .int .i64 (dep + 1)] (some (.box [.any])) (.tup [.str [], .iface 28 (.int .i64 (e : Int))]))
    (hQ : ∀ σ, (∃ σ', Weak (WrC w γ hw hM) σ σ' ∧ RetQB gxp.P Tryz.f34.results.toList (.tup [.str [], .iface 28 (.int .i64 (e : Int))]) (some (.box [.any])) .ret σ') → Q .ret σ) :
    Tri (WrC w γ hw hM) (loopN Tryz.f34 0) (WKidS dep nl ps (i, lf, out)) (loopQ (WrC w γ hw hM) I (WKidS dep nl ps) (fun x => ps.length - x.1) (ps.length - i) Q) := by
  have hsl := sr_len out
  change Tri _ _ (st [(0, .ptr 0 0), (2, .int .i64 dep), (11, .sl 111), (12, .str []), (14, .sl 114), (103, .pts false ps), (104, .int .i64 ps.length), (105, .int .i64 i)] [(0, .box [.int .i64 (lf : Int)]), (111, .rows 75 2 (fieldRows nl)), (114, .rows 9 1 (strRows out))]) _
  repeat' (first | refine a_f ?_ | refine st_nil ?_ | refine tri_seq ?_ | refine tri_region rfl ?_ | refine a_draw ?_ | (apply st_r rfl; case hq => first | exact q_idxpts (p := .mk qh qb qm qp) (by conv => lhs; whnf) (by conv => lhs; whnf) Tryz.underlying23 (by kernel_rfl) (by omega) hqr | exact q_loadar (n := 4) (by conv => lhs; whnf) (by conv => lhs; whnf) (by first | rfl | exact Nat.le_of_ble_eq_true rfl | exact Nat.succ_pos _ | decide) (by kernel_rfl) (fun _ => rfl) | exact q_loada (n := 4) (by conv => lhs; whnf) (by conv => lhs; whnf; arg 1; whnf) (by conv => lhs; whnf) (by first | rfl | exact Nat.le_of_ble_eq_true rfl | exact Nat.succ_pos _ | decide) (by show aggB Tryz.prog _ _ = true; decide +kernel) | exact q_neif (by conv => lhs; whnf) Tryz.underlying32 | exact a_q) | (apply st_rif rfl; (case hq => first | exact a_i); all_goals (intro _; try (exfalso; first | omega | contradiction))) | (apply st_rw rfl rfl; case hq => first | exact w_alloc (d := 16) 116 (by exact zPartK) rfl rfl rfl | exact w_call (id := 0) E (hcf := Tryz.call34) (by rfl) rfl rfl rfl rfl rfl | exact a_store) | refine tri_true rfl ?_ | refine tri_false rfl ?_ | refine tri_block ?_ | refine tri_skip ?_ | refine tri_ret ?_ | refine tri_exit ?_)
  exact hQ _ ⟨_, Weak.refl _ _, ⟨trivial, by (conv => lhs; whnf); rfl, rfl⟩⟩
end
end Go.Proofs.YtignjjnflcpiiaaGreatDoor
