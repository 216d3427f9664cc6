import Derived.Test.YtignjjnflcpiiaaGreatDoorKBackP
import Derived.Test.YtignjjnflcpiiaaGreatDoorKG35
import Derived.Test.YtignjjnflcpiiaaGreatDoorKPartL
import Derived.Test.YtignjjnflcpiiaaGreatDoorKWrtF
set_option linter.unusedVariables false
set_option linter.unusedSimpArgs false
set_option maxHeartbeats 1000000
namespace Go.Proofs.YtignjjnflcpiiaaGreatDoor
open Go.RowKit
attribute [local irreducible] Tri Steps Qd Wr Weak CPure CEff
set_option maxRecDepth 100000
def partedB : B := [67, 111, 110, 116, 101, 110, 116, 45, 84, 121, 112, 101, 58, 32, 109, 117, 108, 116, 105, 112, 97, 114, 116, 47, 109, 105, 120, 101, 100, 59, 32, 98, 111, 117, 110, 100, 97, 114, 121, 61, 120, 13, 10, 13, 10, 45, 45, 120, 13, 10, 13, 10, 97, 98, 13, 10, 45, 45, 120, 13, 10, 65, 58, 32, 98, 13, 10, 67, 111, 110, 116, 101, 110, 116, 45, 84, 114, 97, 110, 115, 102, 101, 114, 45, 69, 110, 99, 111, 100, 105, 110, 103, 58, 32, 98, 97, 115, 101, 54, 52, 13, 10, 13, 10, 84, 87, 70, 117, 13, 10, 45, 45, 120, 45, 45]
def partedP1 : PT := .mk [] [97, 98] false []
def partedP2 : PT := .mk [([65], [98]), ([67, 111, 110, 116, 101, 110, 116, 45, 84, 114, 97, 110, 115, 102, 101, 114, 45, 69, 110, 99, 111, 100, 105, 110, 103], [98, 97, 115, 101, 54, 52])] [77, 97, 110] false []
def partedH : Fs := [([67, 111, 110, 116, 101, 110, 116, 45, 84, 121, 112, 101], [109, 117, 108, 116, 105, 112, 97, 114, 116, 47, 109, 105, 120, 101, 100, 59, 32, 98, 111, 117, 110, 100, 97, 114, 121, 61, 120])]
theorem readPt_leaf {d left : Nat} {s body x : B} {l0 l : Fs} (h1 : readH s = .ok l0 body) (h2 : cleanF l0 = .ok l) (h3 : bndF l = some none) (h4 : decodeF l body = .ok x) : readPt (d + 1) (left + 1) s = .ok (.mk l x false [], left) := by
  rw [readPt, h1]
  simp only [h2, h3, h4]
theorem readPt_many {d left n : Nat} {s body b : B} {l0 l : Fs} {xs : List B} {ps : List PT} (h1 : readH s = .ok l0 body) (h2 : cleanF l0 = .ok l) (h3 : bndF l = some (some b)) (h4 : cutF b body = some xs) (h5 : readKids (readPt d) left xs = .ok (ps, n)) : readPt (d + 1) (left + 1) s = .ok (.mk l [] true ps, n) := by
  rw [readPt, h1]
  simp only [h2, h3, h4, h5]
def partedR : B := [45, 45, 120, 13, 10, 13, 10, 97, 98, 13, 10, 45, 45, 120, 13, 10, 65, 58, 32, 98, 13, 10, 67, 111, 110, 116, 101, 110, 116, 45, 84, 114, 97, 110, 115, 102, 101, 114, 45, 69, 110, 99, 111, 100, 105, 110, 103, 58, 32, 98, 97, 115, 101, 54, 52, 13, 10, 13, 10, 84, 87, 70, 117, 13, 10, 45, 45, 120, 45, 45]
def partedX : B := [65, 58, 32, 98, 13, 10, 67, 111, 110, 116, 101, 110, 116, 45, 84, 114, 97, 110, 115, 102, 101, 114, 45, 69, 110, 99, 111, 100, 105, 110, 103, 58, 32, 98, 97, 115, 101, 54, 52, 13, 10, 13, 10, 84, 87, 70, 117]
theorem parted_k : readK tokC blk lowC [109, 117, 108, 116, 105, 112, 97, 114, 116, 47, 109, 105, 120, 101, 100, 59, 32, 98, 111, 117, 110, 100, 97, 114, 121, 61, 120] = some ([109, 117, 108, 116, 105, 112, 97, 114, 116, 47, 109, 105, 120, 101, 100], [(bndN, [120])]) := by
  have h1 : mainOf lowC [109, 117, 108, 116, 105, 112, 97, 114, 116, 47, 109, 105, 120, 101, 100, 59, 32, 98, 111, 117, 110, 100, 97, 114, 121, 61, 120] = [109, 117, 108, 116, 105, 112, 97, 114, 116, 47, 109, 105, 120, 101, 100] := by decide +kernel
  have h2 : restOf [109, 117, 108, 116, 105, 112, 97, 114, 116, 47, 109, 105, 120, 101, 100, 59, 32, 98, 111, 117, 110, 100, 97, 114, 121, 61, 120] = [59, 32, 98, 111, 117, 110, 100, 97, 114, 121, 61, 120] := by decide +kernel
  have h3 : mainOk tokC [109, 117, 108, 116, 105, 112, 97, 114, 116, 47, 109, 105, 120, 101, 100] = true := by decide +kernel
  have p1 : parR tokC blk [32, 98, 111, 117, 110, 100, 97, 114, 121, 61, 120] = some ((bndN, [120]), []) := by decide +kernel
  unfold readK
  rw [h1, h2, h3, if_pos rfl, parsGo_some tokC blk lowC p1, parsGo_nil]
  decide +kernel
theorem parted_b : bndF partedH = some (some [120]) := by
  have h1 : getF partedH ctB = some [109, 117, 108, 116, 105, 112, 97, 114, 116, 47, 109, 105, 120, 101, 100, 59, 32, 98, 111, 117, 110, 100, 97, 114, 121, 61, 120] := by decide +kernel
  unfold bndF
  rw [h1]
  simp only [parted_k]
  decide +kernel
theorem parted_read : readTop partedB = .ok (.mk partedH [] true [partedP1, partedP2]) := by
  have e0 : partedB = headW partedH ++ partedR := by decide +kernel
  have e1 : ([13, 10, 97, 98] : B) = headW [] ++ [97, 98] := by decide +kernel
  have e2 : partedX = headW partedP2.head ++ [84, 87, 70, 117] := by decide +kernel
  have r0 : rightB partedH = true := by decide +kernel
  have r1 : rightB [] = true := rfl
  have r2 : rightB partedP2.head = true := by decide +kernel
  have c0 : cutF [120] partedR = some [[13, 10, 97, 98], partedX] := by decide +kernel
  have b1 : bndF [] = some none := rfl
  have b2 : bndF partedP2.head = some none := by
    have h : getF partedP2.head ctB = none := by decide +kernel
    unfold bndF
    rw [h]
  have d1 : decodeF [] [97, 98] = .ok [97, 98] := rfl
  have d2 : decodeF partedP2.head [84, 87, 70, 117] = .ok [77, 97, 110] := by
    have h : getF partedP2.head ceB = some b64 := by decide +kernel
    have hu : unpack [84, 87, 70, 117] = some [77, 97, 110] := by decide +kernel
    unfold decodeF
    rw [h]
    simp only
    rw [if_neg (by decide +kernel), if_pos (by decide +kernel), hu]
  obtain ⟨k0, f0, g0⟩ := headW_read r0 partedR
  obtain ⟨k1, f1, g1⟩ := headW_read r1 [97, 98]
  obtain ⟨k2, f2, g2⟩ := headW_read r2 [84, 87, 70, 117]
  rw [← e0] at f0
  rw [← e1] at f1
  rw [← e2] at f2
  have kids : readKids (readPt 3) 39 [[13, 10, 97, 98], partedX] = .ok ([partedP1, partedP2], 37) := by
    rw [readKids, readPt_leaf (d := 2) (left := 38) f1 g1 b1 d1]
    simp only
    rw [readKids, readPt_leaf (d := 2) (left := 37) f2 g2 b2 d2]
    simp only
    rw [readKids]
    rfl
  unfold readTop
  rw [if_neg (by decide), readPt_many (d := 3) (left := 39) f0 g0 parted_b c0 kids]
theorem q_eqie {C : Cx} {σ : St} {ty t t' : TypeId} {pos : String} {af : Array Edge} {g : Option (Nat × Bool)} {x y : Operand} {d : Option Nat} {k : IntKind} {n n' : Int} (hx : σ.ev x = .int k n) (hy : σ.ev y = .int k n') (he : n = n') : Qd C ⟨d, .binOp .eql t x y t', ty, pos, af, g⟩ σ (.bool true) := by
  subst he
  have := q_eql (C := C) (d := d) (t := t) (t' := t') (ty := ty) (pos := pos) (af := af) (g := g) hx hy
  simpa using this
set_option maxHeartbeats 8000000 in
theorem parted_c : CPure gxo 14 [] (.bool true) := by
  refine cpure_of Tryz.func14 rfl (Nat.le_of_ble_eq_true rfl) rfl (fun w hw => ?_)
  have R1 := partRead_c partedB (by decide)
  rw [parted_read] at R1
  have R1 : CPure gxo 15 [.str partedB] (.tup [.agg [.ro true 2 (fieldRows partedH), .str [], .bool true, .pts true [partedP1, partedP2]], .nili]) := R1
  repeat' (first | refine a_f ?_ | refine st_nil ?_ | refine tri_seq ?_ | refine tri_region rfl ?_ | refine a_draw ?_ | (apply st_r rfl; case hq => first | exact q_loada (n := 4) (by conv => lhs; whnf) (by conv => lhs; whnf; arg 1; whnf) (by conv => lhs; whnf) (by first | rfl | exact Nat.le_of_ble_eq_true rfl | exact Nat.succ_pos _ | decide) (by show aggB Tryz.prog _ _ = true; decide +kernel) | exact q_call R1 (hcf := Tryz.call15) rfl rfl | exact q_eqnil (by rfl) Tryz.underlying32 | exact q_lenpts (fr := true) (l := [partedP1, partedP2]) (by rfl) Tryz.underlying23 | exact q_eqie (k := .i64) (n := 2) (n' := 2) (by rfl) (by rfl) rfl | exact q_eqss (by conv => lhs; whnf) (by rfl) | exact q_idxpts (fr := true) (l := [partedP1, partedP2]) (k := .i64) (i := 0) (p := partedP1) (by rfl) (by rfl) Tryz.underlying23 (by kernel_rfl) (by decide) rfl | exact q_idxpts (fr := true) (l := [partedP1, partedP2]) (k := .i64) (i := 1) (p := partedP2) (by rfl) (by rfl) Tryz.underlying23 (by kernel_rfl) (by decide) rfl | exact q_loadr (by conv => lhs; whnf) (by conv => lhs; whnf) (by show scalB Tryz.prog _ = true; decide +kernel) (fun _ => rfl) | exact a_q) | (apply st_rif rfl; (case hq => first | exact a_i); all_goals (intro _; try (exfalso; first | omega | contradiction))) | (apply st_rw rfl rfl; case hq => first | exact w_alloc (d := 1) 101 (by exact zPartK) rfl rfl rfl | exact a_store) | refine tri_true rfl ?_ | refine tri_false rfl ?_ | refine tri_block ?_ | refine tri_skip ?_ | refine tri_ret ?_ | refine tri_exit ?_)
  refine And.intro trivial ?_
  conv => lhs; whnf
  try rfl
end Go.Proofs.YtignjjnflcpiiaaGreatDoor
namespace Go.Proofs.YtignjjnflcpiiaaGreatDoor
open Go.RowKit
attribute [local irreducible] Tri Steps Qd Wr Weak CPure CEff
set_option maxRecDepth 100000
set_option linter.unusedSectionVars false
section
variable {hd : Fs} {bd : B} {m : Bool} {ps : List PT}
variable {d left : Nat} (hd4 : d + 1 ≤ 4) (hl : left + 1 ≤ 40) (hf : Fit (.mk hd bd m ps))
include hd4 hl hf
variable (hr : rightB hd = true)
include hr
set_option maxHeartbeats 16000000 in
theorem pw_leaf (h : bndF hd = some none) (hm : m = false) (hp : ps = []) : ∀ dep : Int, dep = 5 - ((d + 1 : Nat) : Int) → CEff gxp 34 (.box [.int .i64 ((left + 1 : Nat) : Int)]) [.ptr 0 0, .agg [.ro false 2 (fieldRows hd), .str bd, .bool m, .pts false ps], .int .i64 dep] (some (.box [.int .i64 (left : Int)])) (wAV (.ok (headW (noEnc hd ++ [(ceN, (shortF bd).1)]) ++ (shortF bd).2, left))) := by
  intro dep hdep
  refine ceff_ofb Tryz.func34 rfl (Nat.le_of_ble_eq_true rfl) (fun w γ hw hM => ?_)
  subst hm hp
  obtain ⟨hht, hsm, hbl, _⟩ := hf.head
  have R1 : CPure gxp 74 [.ro false 2 (fieldRows hd)] (.bool true) := by
    have := (right_c hd hsm).q
    rw [hr] at this
    exact this
  have B1 : CPure gxp 75 [.ro false 2 (fieldRows hd)] (.tup [.str [], .bool false, .nili]) := by
    have := (boundary_c hd hsm).p
    rw [h] at this
    exact this
  have N1 := (clone_c hd hsm.len).q
  have M1 := (delete_m hd hsm).p
  have S1 := (shortest_c bd (by omega)).q
  obtain ⟨hs2, hs1⟩ := short_len bd
  have hsv := short_value bd
  have hnt := noEnc_tot hd
  have hrn := right_noEnc hr
  have hnl := htot_len (noEnc hd)
  have hnf := fr_len (noEnc hd)
  clear hr h
  generalize noEnc hd = nl at M1 hnt hrn hnl hnf ⊢
  generalize (shortF bd).1 = how at S1 hs1 hsv ⊢
  generalize (shortF bd).2 = body at S1 hs2 ⊢
  have htl : htot (nl ++ [(ceN, how)]) ≤ 100100 := by
    rw [htot_app, htot_cons, show htot [] = 0 from rfl, show (ceN, how).1.length = 25 from rfl]
    simp only
    omega
  have hwl := writeAll_len (nl ++ [(ceN, how)])
  have hhw : (headW (nl ++ [(ceN, how)])).length ≤ 500000 := by
    unfold headW
    rw [List.length_append]
    simp only [List.length_cons, List.length_nil]
    omega
  have hright : rightB (nl ++ [(ceN, how)]) = true := by
    unfold rightB at hrn ⊢
    rw [List.all_append, hrn]
    simp only [List.all_cons, List.all_nil, Bool.and_true, Bool.true_and]
    show (nameB ceN && valueB how) = true
    rw [nameB_ce, hsv]; rfl
  have H1 : CPure gxp 82 [.ro false 2 (fieldRows (nl ++ [(ceN, how)]))] (.tup [.str (headW (nl ++ [(ceN, how)])), .nili]) := by
    have := (write_c (nl ++ [(ceN, how)]) (htot_small (by omega))).q
    rw [writeH_ok hright] at this
    exact this
  rw [← fr_app nl ceN how] at H1
  clear hright hrn hsv htl hwl
  generalize headW (nl ++ [(ceN, how)]) = hw1 at H1 hhw ⊢
  repeat' (first | refine a_f ?_ | refine st_nil ?_ | refine tri_seq ?_ | refine tri_region rfl ?_ | refine a_draw ?_ | (apply st_r rfl; case hq => first | exact q_call R1 (hcf := Tryz.call74) rfl rfl | exact q_call B1 (hcf := Tryz.call75) rfl rfl | exact q_nenil (by rfl) Tryz.underlying32 | exact q_nebL (by conv => lhs; whnf) (by conv => lhs; whnf) (by rfl) (by kernel_rfl) | exact q_lenpts (fr := false) (l := []) (by rfl) Tryz.underlying23 | exact q_call S1 (hcf := Tryz.call79) rfl rfl | exact q_call H1 (hcf := Tryz.call82) rfl rfl | exact q_idxg (sz := 1) (by conv => lhs; whnf) (by conv => lhs; whnf) Tryz.underlying109 (by kernel_rfl) (by omega) (by omega) | exact q_loadg (by rfl) ours1p (fun _ _ _ _ => .str _ _) (by show scalB Tryz.prog _ = true; decide +kernel) | exact a_q) | (apply st_rif rfl; (case hq => first | exact a_i); all_goals (intro _; try (exfalso; first | omega | contradiction))) | (apply st_rw rfl rfl; case hq => first | exact w_box (d := 4) 104 (by conv => lhs; whnf) rfl (by conv => lhs; whnf) rfl rfl rfl | exact w_newr 111 N1 Tryz.call77 rfl rfl rfl | exact w_mod (id := 111) M1 Tryz.call76 (by rfl) (by rfl) rfl rfl | exact w_append (id := 111) (by conv => lhs; whnf) (by conv => lhs; whnf; arg 1; whnf) (by conv => lhs; whnf) (by first | exact Tryz.underlying22 | exact Tryz.underlying23 | exact Tryz.underlying43 | exact Tryz.underlying44 | exact Tryz.underlying51 | exact Tryz.underlying86 | exact Tryz.underlying191 | exact Tryz.underlying209 | exact Tryz.underlying234 | exact Tryz.underlying270 | exact Tryz.underlying281 | exact Tryz.underlying344) (by kernel_rfl) (by simp) rfl (by simp only [List.length_cons, List.length_nil]; omega) rfl rfl | exact a_store) | refine tri_true rfl ?_ | refine tri_false rfl ?_ | refine tri_block ?_ | refine tri_skip ?_ | refine tri_ret ?_ | refine tri_exit ?_)
  exact ⟨trivial, by (conv => lhs; whnf); rfl, congrArg (fun z => some (AObj.box [AV.int .i64 z])) (by omega)⟩
end
end Go.Proofs.YtignjjnflcpiiaaGreatDoor
