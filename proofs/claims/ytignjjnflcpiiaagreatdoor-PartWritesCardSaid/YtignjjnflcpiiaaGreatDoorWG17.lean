import Derived.Test.YtignjjnflcpiiaaGreatDoorWG16
import Derived.Shelf.RegionOpenPlain
import Derived.Lib.UnsafeStr
import Derived.Test.YtignjjnflcpiiaaGreatDoorWG8
import Derived.Test.YtignjjnflcpiiaaGreatDoorWKindC
import Derived.Test.YtignjjnflcpiiaaGreatDoorWIdx
import Derived.Test.YtignjjnflcpiiaaGreatDoorWVm4
set_option linter.unusedVariables false
set_option linter.unusedSimpArgs false
set_option maxHeartbeats 1000000
namespace Go.Proofs.YtignjjnflcpiiaaGreatDoor
open Go.RowKit
structure Reads (w w' : World) (b : Nat) (v : Value) : Prop where
  os : w'.os = w.os
  tape : w'.tape = w.tape
  output : w'.output = w.output
  size : w.heap.size ≤ w'.heap.size
  block : ∀ k, k < w.heap.size → k ≠ b → v.ownBlock ≠ some k → w'.heap[k]? = w.heap[k]?
theorem freeze_other (w : World) (a : Addr) (n : Nat) {k : Nat} (h : k ≠ a.block) : (w.freeze a n).heap[k]? = w.heap[k]? := by
  unfold World.freeze
  split
  · rfl
  · simp [Array.getElem?_modify, Ne.symm h]
theorem freeze_size (w : World) (a : Addr) (n : Nat) : (w.freeze a n).heap.size = w.heap.size := by
  unfold World.freeze
  split <;> simp
theorem freeze_rest (w : World) (a : Addr) (n : Nat) : (w.freeze a n).os = w.os ∧ (w.freeze a n).tape = w.tape ∧ (w.freeze a n).output = w.output := by
  unfold World.freeze
  split <;> exact ⟨rfl, rfl, rfl⟩
theorem cellsByte : Tryz.prog.cellsOf 5 = 1 := by kernel_rfl
set_option maxHeartbeats 1000000 in
set_option maxRecDepth 100000 in
theorem string_x (b : Nat) (p v : Value) (l : List UInt8) (w : World) (h : BSt w b p v l) :
    Calls Tryz.prog 45 #[.pointer (some ⟨b, 0, none⟩)] w fun e w' => e = .returned (.string ⟨l.toArray⟩) ∧ Reads w w' b v := by
  have mixed : Tryz.prog.follows .mixedOrders = true := by kernel_rfl
  have hbk := h.heap
  have hlt := h.lt
  rcases h.own.2 with ⟨rfl, h0⟩ | ⟨g, cap, cur, rfl, hbg, hg, hnc, hcm, hcs, htake⟩
  · have hl : l = [] := List.eq_nil_of_length_eq_zero h0
    subst hl
    have hUS : ∀ W : World, (Builtin.unsafeString_ #[152, 3] 9 #[.pointer none, .int .i64 0]).run Tryz.prog W = .ok (.string .empty) W := fun W => Lib.run_unsafeString_none W _ _ _ none
    have c1 : w.drew.cell? ⟨b, 1, none⟩ = some (.slice none 0 0) := by
      have : w.drew.heap[b]? = some (.cells #[p, .slice none 0 0] BT (0, 0)) := hbk
      rw [Lib.cell_of_heap this]; rfl
    have hSD : (Builtin.unsafeSliceData_ #[86] 152 #[.slice none 0 0]).run Tryz.prog w.drew = .ok (.pointer none) w.drew := rfl
    go_enter Tryz.func45, Tryz.ntmps45
    go_wp2
    go_region_o
    all_goals (go_wp2; go_ret; exact ⟨rfl, ⟨rfl, rfl, rfl, Nat.le_refl _, fun _ _ _ _ => rfl⟩⟩)
  · by_cases hl0 : l.length = 0
    · have hl : l = [] := List.eq_nil_of_length_eq_zero hl0
      subst hl
      have hUS : ∀ (W : World) (q : Option Addr), (Builtin.unsafeString_ #[152, 3] 9 #[.pointer q, .int .i64 0]).run Tryz.prog W = .ok (.string .empty) W := fun W q => Lib.run_unsafeString_none W _ _ _ q
      have c1 : w.drew.cell? ⟨b, 1, none⟩ = some (.slice (some ⟨g, 0, none⟩) 0 cap) := by
        have : w.drew.heap[b]? = some (.cells #[p, .slice (some ⟨g, 0, none⟩) 0 cap] BT (0, 0)) := hbk
        rw [Lib.cell_of_heap this]; rfl
      by_cases hc0 : cap = 0
      · subst hc0
        have hSD : (Builtin.unsafeSliceData_ #[86] 152 #[.slice (some ⟨g, 0, none⟩) 0 0]).run Tryz.prog w.drew = .ok (.pointer (some ⟨w.drew.heap.size, 0, none⟩)) (w.drew.alloc (.view ⟨g, 0, none⟩ 5)) :=
          Lib.run_unsafeSliceData_zero w.drew _ _ 5 Tryz.underlying152 ⟨g, 0, none⟩ 0 (5, cur.size) (by have hg' : w.drew.heap[g]? = some (.cells cur 5 (0, 0)) := hg; simp [World.shape?, hg'])
        have c2 : (w.drew.alloc (.view ⟨g, 0, none⟩ 5)).cell? ⟨b, 1, none⟩ = some (.slice (some ⟨g, 0, none⟩) 0 0) := by
          have : (w.drew.alloc (.view ⟨g, 0, none⟩ 5)).heap[b]? = _ := (Lib.alloc_old w.drew _ b hlt).trans hbk
          rw [Lib.cell_of_heap this]; rfl
        have c3 : (w.alloc (.view ⟨g, 0, none⟩ 5)).drew.cell? ⟨b, 1, none⟩ = some (.slice (some ⟨g, 0, none⟩) 0 0) := c2
        have c0 : w.cell? ⟨b, 1, none⟩ = some (.slice (some ⟨g, 0, none⟩) 0 0) := c1
        go_enter Tryz.func45, Tryz.ntmps45
        go_wp2
        go_region_o
        all_goals (go_wp2; go_ret; exact ⟨rfl, ⟨rfl, rfl, rfl, by simp, fun k hk _ _ => Lib.alloc_old w.drew _ k hk⟩⟩)
      · have hSD : (Builtin.unsafeSliceData_ #[86] 152 #[.slice (some ⟨g, 0, none⟩) 0 cap]).run Tryz.prog w.drew = .ok (.pointer (some ⟨g, 0, none⟩)) w.drew :=
          Lib.run_unsafeSliceData_row _ _ _ _ _ _ hc0
        clear hc0
        go_enter Tryz.func45, Tryz.ntmps45
        go_wp2
        go_region_o
        all_goals (go_wp2; go_ret; exact ⟨rfl, ⟨rfl, rfl, rfl, Nat.le_refl _, fun _ _ _ _ => rfl⟩⟩)
    · have c1 : w.drew.cell? ⟨b, 1, none⟩ = some (.slice (some ⟨g, 0, none⟩) l.length cap) := by
        have : w.drew.heap[b]? = some (.cells #[p, .slice (some ⟨g, 0, none⟩) l.length cap] BT (0, 0)) := hbk
        rw [Lib.cell_of_heap this]; rfl
      have hSD : (Builtin.unsafeSliceData_ #[86] 152 #[.slice (some ⟨g, 0, none⟩) l.length cap]).run Tryz.prog w.drew = .ok (.pointer (some ⟨g, 0, none⟩)) w.drew :=
        Lib.run_unsafeSliceData_row _ _ _ _ _ _ (by omega)
      have hUS : (Builtin.unsafeString_ #[152, 3] 9 #[.pointer (some ⟨g, 0, none⟩), .int .i64 l.length]).run Tryz.prog w.drew = .ok (.string ⟨l.toArray⟩) (w.drew.freeze ⟨g, 0, none⟩ l.length) := by
        refine Lib.run_unsafeString_row w.drew 152 3 9 5 Tryz.underlying152 cellsByte g cur.size (by have hg' : w.drew.heap[g]? = some (.cells cur 5 (0, 0)) := hg; simp [World.shape?, hg']) l (fun e => hl0 (by rw [e]; rfl)) (by omega) (by unfold maxLen at hcm; omega) ?_
        intro j x hx
        exact h.own.cells (g := g) rfl j (.int .u8 x.toNat) (by simp [bytesV, hx])
      go_enter Tryz.func45, Tryz.ntmps45
      go_wp2
      go_region_o
      all_goals (go_wp2; go_ret; exact ⟨rfl, ⟨(freeze_rest _ _ _).1, (freeze_rest _ _ _).2.1, (freeze_rest _ _ _).2.2, by rw [freeze_size]; exact Nat.le_refl _, fun k _ _ hk => freeze_other _ _ _ (fun e => hk (by rw [e]; rfl))⟩⟩)
end Go.Proofs.YtignjjnflcpiiaaGreatDoor
namespace Go.Proofs.YtignjjnflcpiiaaGreatDoor
open Go.RowKit
section
variable {X : Gx} {w w' : World} {γ : Gh} {hn : X.nG ≤ w.heap.size} {hM : ∀ b, Blk γ 0 b → X.nG ≤ b} {b : Nat} {p v v' : Value} {l l' : List UInt8}
theorem bld_of (hr : HR (cxe X 0 w γ hn hM) γ (heap1 (some (.bld ByT BT l))) w) : ∃ b p v, γ 0 = (.pointer (some ⟨b, 0, none⟩), v) ∧ BSt w b p v l := by
  obtain ⟨b, v, cs, p, hg, hh, hp, hown, hcs⟩ := hr.obj 0 _ rfl
  subst hcs
  refine ⟨b, p, v, hg, hh, hp, hown, fun h => ?_⟩
  have := hr.two 0 _ b rfl (by rw [hg]; rfl)
  rw [hg] at this
  exact this ((ownV hown).trans h)
theorem blk_bld (hg : γ 0 = (.pointer (some ⟨b, 0, none⟩), v)) (h : BSt w b p v l) {k : Nat} : Blk γ 0 k ↔ k = b ∨ v.ownBlock = some k := by
  unfold Blk
  rw [hg, ownV h.own]
  show some b = some k ∨ _ ↔ _
  simp [eq_comm]
theorem bld_hr (hr : HR (cxe X 0 w γ hn hM) γ (heap1 (some (.bld ByT BT l))) w) (hg : γ 0 = (.pointer (some ⟨b, 0, none⟩), v)) (h : BSt w b p v l) (h' : BSt w' b (.pointer (some ⟨b, 0, none⟩)) v' l') (hw : Wrote w w' b v v') :
    HR (cxe X 0 w γ hn hM) (upd γ 0 (.pointer (some ⟨b, 0, none⟩), v')) (heap1 (some (.bld ByT BT l'))) w' := by
  have hg' : upd γ 0 (.pointer (some ⟨b, 0, none⟩), v') 0 = (.pointer (some ⟨b, 0, none⟩), v') := upd_same _ _ _
  have only : ∀ {id : Nat} {o : AObj} {q : Option AObj}, heap1 q id = some o → id = 0 ∧ q = some o := fun {id} {o} {q} h => by
    cases id with
    | zero => exact ⟨rfl, h⟩
    | succ i => cases h
  have keep : ∀ k, k < w.heap.size → ¬ Blk γ 0 k → w'.heap[k]? = w.heap[k]? := fun k hk hb => hw.block k hk (fun e => hb ((blk_bld hg h).2 (.inl e))) (fun e => hb ((blk_bld hg h).2 (.inr e)))
  exact {
    obj := fun id o ho => by
      obtain ⟨rfl, ho⟩ := only ho
      cases ho
      exact ⟨b, v', _, _, hg', h'.heap, h'.ptr, h'.own, rfl⟩
    disj := fun id id' o o' k ho ho' _ _ => by rw [(only ho).1, (only ho').1]
    two := fun id o k ho hk hk2 => by
      obtain ⟨rfl, _⟩ := only ho
      rw [hg'] at hk hk2
      cases hk
      exact h'.ne ((ownV h'.own).symm.trans hk2)
    lt := fun id o k ho hk => by
      obtain ⟨rfl, _⟩ := only ho
      rcases (blk_bld hg' h').1 hk with rfl | hk
      · exact ⟨h'.lt, .inl ((blk_bld hg h).2 (.inl rfl))⟩
      · refine ⟨(h'.own.lt k hk).2, ?_⟩
        rcases hw.fresh k hk with e | e
        · exact .inl ((blk_bld hg h).2 (.inr e))
        · exact .inr e
    chg := ⟨hw.os, hw.tape, hw.output, hw.size, fun k hk hb => keep k hk hb⟩
    glob := X.hG w w' hr.glob (fun k hk => keep k (by have := hn; omega) (fun hb => by have := hM k hb; omega))
    pins := fun id o x hp ho => by
      obtain ⟨rfl, _⟩ := only ho
      rw [hg']
      have e : some (γ 0).1 = some x := hp
      rw [hg] at e
      exact Option.some.inj e }
theorem args2 {as1 : AV} {vs : List Value} {x : Value} {N : Nat} {M : Nat → Prop} (hg : γ 0 = (.pointer (some ⟨b, 0, none⟩), v)) (hx : as1.val = some x) (hl : vs.length = 2) (hr : ∀ i (h : i < [AV.ptr 0 0, as1].length) (h' : i < vs.length), Rep w N M (fun i => (γ i).1) [AV.ptr 0 0, as1][i] vs[i]) : vs = [.pointer (some ⟨b, 0, none⟩), x] := by
  match vs, hl with
  | [a, c], _ =>
    obtain ⟨b', e, e2⟩ := Rep.ptr_inv (hr 0 (by simp) (by simp))
    have e3 := (hr 1 (by simp) (by simp)).val_of hx
    rw [hg] at e
    cases e
    simp only [List.getElem_cons_zero, List.getElem_cons_succ] at e2 e3
    rw [e2, e3]
end
theorem writeString_e (l s : List UInt8) (hl : l.length + s.length ≤ 140737488355328) : CEff gx 44 (.bld ByT BT l) [.ptr 0 0, .str s] (some (.bld ByT BT (l ++ s))) (.tup [.int .i64 s.length, .nili]) := by
  intro w γ vs hn hM hr hlen hrep
  obtain ⟨b, p, v, hg, h⟩ := bld_of hr
  rw [args2 hg rfl hlen hrep]
  refine (writeString_x b p v l ⟨s.toArray⟩ w h (by rw [sizeMk]; exact hl)).mono ?_
  rintro e w' ⟨rfl, v', h', hw⟩
  refine ⟨_, _, rfl, bld_hr hr hg h h' hw, ?_⟩
  rw [sizeMk]
  exact .tup _ _ [.int .i64 s.length, .nilIface] rfl (fun i hi hx => by
    match i, hi with
    | 0, _ => exact .int _ _ _
    | 1, _ => exact .nili _)
theorem writeByte_e (l : List UInt8) (c : UInt8) (hl : l.length + 1 ≤ 140737488355328) : CEff gx 92 (.bld ByT BT l) [.ptr 0 0, .int .u8 c.toNat] (some (.bld ByT BT (l ++ [c]))) .nili := by
  intro w γ vs hn hM hr hlen hrep
  obtain ⟨b, p, v, hg, h⟩ := bld_of hr
  rw [args2 hg rfl hlen hrep]
  refine (writeByte_x b p v l c w h hl).mono ?_
  rintro e w' ⟨rfl, v', h', hw⟩
  exact ⟨_, _, rfl, bld_hr hr hg h h' hw, .nili _⟩
theorem string_e (l : List UInt8) : CEff gx 45 (.bld ByT BT l) [.ptr 0 0] none (.str l) := by
  intro w γ vs hn hM hr hlen hrep
  obtain ⟨b, p, v, hg, h⟩ := bld_of hr
  have ev : vs = [.pointer (some ⟨b, 0, none⟩)] := by
    match vs, hlen with
    | [a], _ =>
      obtain ⟨b', e, e2⟩ := Rep.ptr_inv (hrep 0 (by simp) (by simp))
      rw [hg] at e
      cases e
      simp only [List.getElem_cons_zero] at e2
      rw [e2]
  rw [ev]
  refine (string_x b p v l w h).mono ?_
  rintro e w' ⟨rfl, hw⟩
  have keep : ∀ k, k < w.heap.size → ¬ Blk γ 0 k → w'.heap[k]? = w.heap[k]? := fun k hk hb => hw.block k hk (fun e => hb ((blk_bld hg h).2 (.inl e))) (fun e => hb ((blk_bld hg h).2 (.inr e)))
  have no : ∀ {id : Nat} {o : AObj}, heap1 none id = some o → False := fun {id} {o} h => by cases id <;> cases h
  refine ⟨_, γ, rfl, ?_, .str _ _⟩
  exact {
    obj := fun id o ho => (no ho).elim
    disj := fun id id' o o' k ho _ _ _ => (no ho).elim
    two := fun id o k ho _ _ => (no ho).elim
    lt := fun id o k ho _ => (no ho).elim
    chg := ⟨hw.os, hw.tape, hw.output, hw.size, fun k hk hb => keep k hk hb⟩
    glob := gx.hG w w' hr.glob (fun k hk => keep k (by have := hn; omega) (fun hb => by have := hM k hb; omega))
    pins := fun id o x _ ho => (no ho).elim }
end Go.Proofs.YtignjjnflcpiiaaGreatDoor
namespace Go.Proofs.YtignjjnflcpiiaaGreatDoor
open Go.RowKit
attribute [local irreducible] Tri Steps Qd Wr Weak CPure CEff Tree TreeW TreeQ
set_option maxRecDepth 100000
def wrG (f : Nat) (o : Oper) : Bool := wrB o || match o.op with
  | .call c => match c.callee with
    | .value (.func g) => Nat.beq g f
    | _ => false
  | _ => false
theorem zBld : zeroL Tryz.prog BT = some [.nilp, .nils] := by kernel_rfl
theorem hasPrefix_c (s p : B) : CPure gx 41 [.str s, .str p] (.bool (Lib.hasPrefix s p)) :=
  cpure_val rfl rfl fun w _ => (Tryz.strings_HasPrefix ⟨s.toArray⟩ ⟨p.toArray⟩ w).mono fun e w' h => ⟨h.1, h.2 ▸ ext_refl w⟩
theorem pre1 (s : B) (c : UInt8) : Lib.hasPrefix s [c] = hd s c := by
  cases s with
  | nil => rfl
  | cons x r =>
    show ([c] : B).isPrefixOf (x :: r) = (x == c)
    simp only [List.isPrefixOf, Bool.and_true]
    rw [Bool.eq_iff_iff, beq_iff_eq, beq_iff_eq]
    exact eq_comm
def kOf (s : B) : Nat := if Lib.indexAny s [59, 32, 9] < 0 then s.length else (Lib.indexAny s [59, 32, 9]).toNat
theorem kOf_le (s : B) : kOf s ≤ s.length := by
  rw [kOf, indexAny_span]
  exact (List.takeWhile_sublist _).length_le
def saidF (s : B) : Bool × B × B := if hd s 34 = true then (if (quoF [] (s.drop 1)).1 = true then quoF [] (s.drop 1) else (false, [], [])) else (tokQ tokC (s.take (kOf s)), s.take (kOf s), s.drop (kOf s))
theorem saidF_eq (s : B) : saidP tokC s = match (saidF s).1 with
    | true => some (saidF s).2
    | false => none := by
  unfold saidP saidF
  cases s with
  | nil => rfl
  | cons c r =>
    by_cases hc : c = 34
    · subst hc
      show quo [] r = _
      rw [quoF_eq _ r (Nat.le_refl _)]
      rw [show hd (34 :: r) 34 = true from rfl, if_pos rfl, show (34 :: r).drop 1 = r from rfl]
      cases h : (quoF [] r).1 <;> simp [h]
    · rw [show hd (c :: r) 34 = false by show (c == 34) = false; simpa using hc]
      split
      · rename_i h; simp only [List.cons.injEq] at h; exact absurd h.1 hc
      · unfold kOf
        cases ht : tokQ tokC ((c :: r).take (if Lib.indexAny (c :: r) [59, 32, 9] < 0 then (c :: r).length else (Lib.indexAny (c :: r) [59, 32, 9]).toNat)) <;> simp [ht]
theorem quoI_q {out s : B} {i : Nat} (h : i < s.length) (hc : s.getD (i : Int).toNat 0 = 34) : quoF out (s.drop i) = (true, out, s.drop (i + 1)) := by
  rw [quoF_q' (List.length_pos_iff.1 (by simp; omega)) (by rw [List.getD_eq_getElem?_getD, List.getElem?_drop, ← List.getD_eq_getElem?_getD]; simpa using hc), List.drop_drop]
theorem getD_drop (s : B) (i k : Nat) : (s.drop i).getD k 0 = s.getD (i + k) 0 := by
  rw [List.getD_eq_getElem?_getD, List.getElem?_drop, ← List.getD_eq_getElem?_getD]
theorem quoI_e {out s : B} {i : Nat} (h : i + 1 < s.length) (hc : s.getD (i : Int).toNat 0 = 92) : quoF out (s.drop i) = if vis (s.getD ((i : Int) + 1).toNat 0) = true then quoF (out ++ [s.getD ((i : Int) + 1).toNat 0]) (s.drop (i + 2)) else (false, [], s.drop (i + 1)) := by
  have e : ((s.drop i).drop 1).getD (Int.toNat 0) 0 = s.getD ((i : Int) + 1).toNat 0 := by
    rw [List.drop_drop, getD_drop]; rfl
  rw [quoF_e' (by simp; omega) (by rw [getD_drop]; simpa using hc), e, List.drop_drop, List.drop_drop, List.drop_drop]
theorem quoI_c {out s : B} {i : Nat} (h : i < s.length) (hc : s.getD (i : Int).toNat 0 ≠ 34) (h9 : s.getD (i : Int).toNat 0 = 92 → ¬ i + 1 < s.length) : quoF out (s.drop i) = if vis (s.getD (i : Int).toNat 0) = true then quoF (out ++ [s.getD (i : Int).toNat 0]) (s.drop (i + 1)) else (false, [], s.drop i) := by
  have e : (s.drop i).getD (Int.toNat 0) 0 = s.getD (i : Int).toNat 0 := by rw [getD_drop]; simp
  rw [quoF_c' (List.length_pos_iff.1 (by simp; omega)) (by rw [e]; exact hc) (by rw [e]; intro h'; have := h9 h'; simp; omega), e, List.drop_drop]
theorem quoI_n {out s : B} {i : Nat} (h : ¬ i < s.length) : quoF out (s.drop i) = (false, [], []) := by
  rw [List.drop_eq_nil_of_le (by omega), quoF.eq_def]
def saAV (x : Bool × B × B) : AV := .tup [.str x.2.1, .str x.2.2, .bool x.1]
theorem low3 : low7 [59, 32, 9] := fun j => by
  match j with
  | 0 => decide
  | 1 => decide
  | 2 => decide
  | j + 3 => simp
set_option maxHeartbeats 8000000 in
theorem said_c (s : B) (hs : s.length ≤ 1000000) : CPure gx 63 [.str s] (saAV (saidF s)) := by
  refine cpure_of Tryz.func63 rfl (Nat.le_of_ble_eq_true rfl) rfl (fun w hw => ?_)
  have P1 := hasPrefix_c s [34]
  rw [pre1] at P1
  cases hq : hd s 34 <;> rw [hq] at P1
  · have I1 := indexAny_c s [59, 32, 9] (by omega) (by decide) (by decide) low3
    have T1 := token_c (s.take (kOf s))
    rw [tokQ_eq] at T1
    have hk := kOf_le s
    have hge := Lib.indexAny_ge [59, 32, 9] s
    have hsf : saidF s = (tokQ tokC (s.take (kOf s)), s.take (kOf s), s.drop (kOf s)) := by rw [saidF, hq]; rfl
    by_cases hn : Lib.indexAny s [59, 32, 9] < 0
    · have hk' : kOf s = s.length := by rw [kOf, if_pos hn]
      have ek : ((s.length : Int)).toNat = kOf s := by omega
      rw [← ek] at T1
      repeat' (first | refine a_f ?_ | refine st_nil ?_ | refine tri_seq ?_ | refine tri_region rfl ?_ | refine a_draw ?_ | (apply st_r rfl; case hq => first | exact q_call P1 (hcf := Tryz.call41) rfl rfl | exact q_call I1 (hcf := Tryz.call117) rfl rfl | exact q_call T1 (hcf := Tryz.call52) rfl rfl | exact a_q) | (apply st_rif rfl; (case hq => first | exact a_i); all_goals (intro _; try (exfalso; first | omega | contradiction))) | (apply st_rw rfl rfl; case hq => first | exact a_store) | refine tri_true rfl ?_ | refine tri_false rfl ?_ | refine tri_block ?_ | refine tri_skip ?_ | refine tri_ret ?_ | refine tri_exit ?_)
      refine And.intro trivial ?_
      conv => lhs; whnf
      rw [hsf, ← ek]; rfl
    · obtain ⟨k, hk1⟩ := Int.eq_ofNat_of_zero_le (Int.not_lt.1 hn)
      have hk' : kOf s = k := by rw [kOf, if_neg hn, hk1]; rfl
      rw [hk1] at I1
      have ek : ((k : Int)).toNat = kOf s := by omega
      rw [← ek] at T1
      repeat' (first | refine a_f ?_ | refine st_nil ?_ | refine tri_seq ?_ | refine tri_region rfl ?_ | refine a_draw ?_ | (apply st_r rfl; case hq => first | exact q_call P1 (hcf := Tryz.call41) rfl rfl | exact q_call I1 (hcf := Tryz.call117) rfl rfl | exact q_call T1 (hcf := Tryz.call52) rfl rfl | exact a_q) | (apply st_rif rfl; (case hq => first | exact a_i); all_goals (intro _; try (exfalso; first | omega | contradiction))) | (apply st_rw rfl rfl; case hq => first | exact a_store) | refine tri_true rfl ?_ | refine tri_false rfl ?_ | refine tri_block ?_ | refine tri_skip ?_ | refine tri_ret ?_ | refine tri_exit ?_)
      refine And.intro trivial ?_
      conv => lhs; whnf
      rw [hsf, ← ek]; rfl
  · have hsf : saidF s = if (quoF [] (s.drop 1)).1 = true then quoF [] (s.drop 1) else (false, [], []) := by rw [saidF, hq]; rfl
    have hl1 : 1 ≤ s.length := by
      cases s with
      | nil => cases hq
      | cons c r => simp
    clear hq
    repeat' (first | refine a_f ?_ | refine st_nil ?_ | refine tri_seq ?_ | refine tri_region rfl ?_ | refine a_draw ?_ | (apply st_r rfl; case hq => first | exact q_call P1 (hcf := Tryz.call41) rfl rfl | exact a_q) | (apply st_rif rfl; (case hq => first | exact a_i); all_goals (intro _; try (exfalso; first | omega | contradiction))) | (apply st_rw rfl rfl; case hq => first | exact w_allocb 101 ByT zBld rfl rfl | exact a_store) | refine tri_true rfl ?_ | refine tri_false rfl ?_ | refine tri_block ?_ | refine tri_skip ?_ | refine tri_ret ?_ | refine tri_exit ?_)
    refine tri_loop_to (fun (x : Nat × B) => 1 ≤ x.1 ∧ x.1 ≤ s.length ∧ quoF x.2 (s.drop x.1) = quoF [] (s.drop 1) ∧ x.2.length ≤ x.1) (fun x => st [(0, .str s), (2, .str []), (3, .str []), (4, .bool false), (6, .ptr 101 0), (7, .int .i64 x.1)] [(101, .bld ByT BT x.2)]) (fun x => s.length - x.1) (fun (_ : Unit) => (quoF [] (s.drop 1)).1 = false) (fun _ => st [(0, .str s)] []) (1, []) ⟨Nat.le_refl _, hl1, rfl, by simp⟩ ?hw weak_tri (fun x hx => ?_) (fun _ hr => ?_)
    case hw => exact weak_st ⟨rfl, rfl, rfl, rfl, rfl, rfl, trivial⟩ ⟨rfl, trivial⟩
    · obtain ⟨i, out⟩ := x
      change Tri _ _ (st [(0, .str s), (2, .str []), (3, .str []), (4, .bool false), (6, .ptr 101 0), (7, .int .i64 i)] [(101, .bld ByT BT out)]) _
      obtain ⟨hi1, hi, hx, hl⟩ := hx
      simp only at hi1 hi hx hl
      by_cases hil : i < s.length
      · have i34 : ∀ k : UInt8, s.getD (i : Int).toNat 0 = k ↔ ((s.getD (i : Int).toNat 0).toNat : Int) = (k.toNat : Int) := fun k => by rw [← UInt8.toNat_inj]; omega
        by_cases h34 : s.getD (i : Int).toNat 0 = 34
        · have g34 : ((s.getD (i : Int).toNat 0).toNat : Int) = 34 := (i34 34).1 h34
          rw [quoI_q hil h34] at hx
          have S1 := string_e out
          clear i34
          repeat' (first | refine a_f ?_ | refine st_nil ?_ | refine tri_seq ?_ | refine tri_region rfl ?_ | refine tri_draw1 (wrG 45) 0 7 rfl rfl (by kernel_rfl) rfl ?_ | refine tree_s ?_ ?_ | refine tree_0 ?_ | refine tw_t ?_ | exact tw_f | refine tq_c ?_ ?_ | exact tq_n | refine a_draw ?_ | (apply st_r rfl; case hq => first | exact a_q) | (apply st_rif rfl; (case hq => first | exact a_i); all_goals (intro _; try (exfalso; first | omega | contradiction))) | (apply st_rw rfl rfl; case hq => first | exact w_call (id := 101) S1 (hcf := Tryz.call45) (by conv => lhs; whnf; arg 1; whnf) rfl rfl rfl rfl rfl | exact a_store) | refine tri_true rfl ?_ | refine tri_false rfl ?_ | refine tri_block ?_ | refine tri_skip ?_ | refine tri_ret ?_ | refine tri_exit ?_)
          all_goals
            refine And.intro trivial ?_
            conv => lhs; whnf
            rw [hsf, ← hx]; rfl
        have g34 : ¬ ((s.getD (i : Int).toNat 0).toNat : Int) = 34 := fun e => h34 ((i34 34).2 e)
        by_cases h92 : s.getD (i : Int).toNat 0 = 92 ∧ i + 1 < s.length
        · obtain ⟨h92, h1⟩ := h92
          have g92 : ((s.getD (i : Int).toNat 0).toNat : Int) = 92 := (i34 92).1 h92
          rw [quoI_e h1 h92] at hx
          have W1 := writeByte_e out (s.getD ((i : Int) + 1).toNat 0) (by omega)
          have hvi : vis (s.getD ((i : Int) + 1).toNat 0) = decide ((32 : Int) ≤ ((s.getD ((i : Int) + 1).toNat 0).toNat : Int) ∧ ((s.getD ((i : Int) + 1).toNat 0).toNat : Int) ≤ 126) := rfl
          clear i34
          cases hv : vis (s.getD ((i : Int) + 1).toNat 0) <;> rw [hv] at hx hvi
          · have hv2 := of_decide_eq_false hvi.symm
            repeat' (first | refine a_f ?_ | refine st_nil ?_ | refine tri_seq ?_ | refine tri_region rfl ?_ | refine a_draw ?_ | (apply st_r rfl; case hq => first | exact a_q) | (apply st_rif rfl; (case hq => first | exact a_i); all_goals (intro _; try (exfalso; first | omega | contradiction))) | (apply st_rw rfl rfl; case hq => first | exact a_store) | refine tri_true rfl ?_ | refine tri_false rfl ?_ | refine tri_block ?_ | refine tri_skip ?_ | refine tri_ret ?_ | refine tri_exit ?_)
            all_goals
              refine And.intro trivial ?_
              conv => lhs; whnf
              rw [hsf, ← hx]; rfl
          · have hv2 := of_decide_eq_true hvi.symm
            repeat' (first | refine a_f ?_ | refine st_nil ?_ | refine tri_seq ?_ | refine tri_region rfl ?_ | refine a_draw ?_ | (apply st_r rfl; case hq => first | exact a_q) | (apply st_rif rfl; (case hq => first | exact a_i); all_goals (intro _; try (exfalso; first | omega | contradiction))) | (apply st_rw rfl rfl; case hq => first | exact w_call (id := 101) W1 (hcf := Tryz.call92) (by conv => lhs; whnf; arg 1; whnf) rfl rfl rfl rfl rfl | exact a_store) | refine tri_true rfl ?_ | refine tri_false rfl ?_ | refine tri_block ?_ | refine tri_skip ?_ | refine tri_ret ?_ | refine tri_exit ?_)
            exact nextR (i + 2, out ++ [s.getD ((i : Int) + 1).toNat 0]) ⟨by simp only; omega, by simp only; omega, hx, by simp only [List.length_append, List.length_cons, List.length_nil]; omega⟩ (weak_st ⟨rfl, rfl, rfl, rfl, rfl, congrArg (AV.int .i64) (by simp only; omega), trivial⟩ ⟨rfl, trivial⟩) (show s.length - (i + 2) < s.length - i by omega)
        · have g92 : ((s.getD (i : Int).toNat 0).toNat : Int) = 92 → ¬ (i : Int) + 1 < s.length := fun e => fun h => h92 ⟨(i34 92).2 e, by omega⟩
          rw [quoI_c hil h34 (fun e h => h92 ⟨e, h⟩)] at hx
          have W1 := writeByte_e out (s.getD (i : Int).toNat 0) (by omega)
          have hvi : vis (s.getD (i : Int).toNat 0) = decide ((32 : Int) ≤ ((s.getD (i : Int).toNat 0).toNat : Int) ∧ ((s.getD (i : Int).toNat 0).toNat : Int) ≤ 126) := rfl
          clear i34
          cases hv : vis (s.getD (i : Int).toNat 0) <;> rw [hv] at hx hvi
          · have hv2 := of_decide_eq_false hvi.symm
            repeat' (first | refine a_f ?_ | refine st_nil ?_ | refine tri_seq ?_ | refine tri_region rfl ?_ | refine a_draw ?_ | (apply st_r rfl; case hq => first | exact a_q) | (apply st_rif rfl; (case hq => first | exact a_i); all_goals (intro _; try (exfalso; first | omega | contradiction))) | (apply st_rw rfl rfl; case hq => first | exact a_store) | refine tri_true rfl ?_ | refine tri_false rfl ?_ | refine tri_block ?_ | refine tri_skip ?_ | refine tri_ret ?_ | refine tri_exit ?_)
            all_goals
              refine And.intro trivial ?_
              conv => lhs; whnf
              rw [hsf, ← hx]; rfl
          · have hv2 := of_decide_eq_true hvi.symm
            repeat' (first | refine a_f ?_ | refine st_nil ?_ | refine tri_seq ?_ | refine tri_region rfl ?_ | refine a_draw ?_ | (apply st_r rfl; case hq => first | exact a_q) | (apply st_rif rfl; (case hq => first | exact a_i); all_goals (intro _; try (exfalso; first | omega | contradiction))) | (apply st_rw rfl rfl; case hq => first | exact w_call (id := 101) W1 (hcf := Tryz.call92) (by conv => lhs; whnf; arg 1; whnf) rfl rfl rfl rfl rfl | exact a_store) | refine tri_true rfl ?_ | refine tri_false rfl ?_ | refine tri_block ?_ | refine tri_skip ?_ | refine tri_ret ?_ | refine tri_exit ?_)
            all_goals exact nextR (i + 1, out ++ [s.getD (i : Int).toNat 0]) ⟨by simp only; omega, by simp only; omega, hx, by simp only [List.length_append, List.length_cons, List.length_nil]; omega⟩ (weak_st ⟨rfl, rfl, rfl, rfl, rfl, congrArg (AV.int .i64) (by simp only; omega), trivial⟩ ⟨rfl, trivial⟩) (show s.length - (i + 1) < s.length - i by omega)
      · rw [quoI_n hil] at hx
        repeat' (first | refine a_f ?_ | refine st_nil ?_ | refine tri_seq ?_ | refine tri_region rfl ?_ | refine a_draw ?_ | (apply st_r rfl; case hq => first | exact a_q) | (apply st_rif rfl; (case hq => first | exact a_i); all_goals (intro _; try (exfalso; first | omega | contradiction))) | (apply st_rw rfl rfl; case hq => first | exact a_store) | refine tri_true rfl ?_ | refine tri_false rfl ?_ | refine tri_block ?_ | refine tri_skip ?_ | refine tri_ret ?_ | refine tri_exit ?_)
        exact outR () (by rw [← hx]) (weak_st ⟨rfl, trivial⟩ trivial)
    · repeat' (first | refine a_f ?_ | refine st_nil ?_ | refine tri_seq ?_ | refine tri_region rfl ?_ | refine a_draw ?_ | (apply st_r rfl; case hq => first | exact a_q) | (apply st_rif rfl; (case hq => first | exact a_i); all_goals (intro _; try (exfalso; first | omega | contradiction))) | (apply st_rw rfl rfl; case hq => first | exact a_store) | refine tri_true rfl ?_ | refine tri_false rfl ?_ | refine tri_block ?_ | refine tri_skip ?_ | refine tri_ret ?_ | refine tri_exit ?_)
      refine And.intro trivial ?_
      conv => lhs; whnf
      rw [hsf, hr]; rfl
end Go.Proofs.YtignjjnflcpiiaaGreatDoor
