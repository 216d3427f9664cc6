/- strings.Builder's methods as contracts that write one object. -/
import Derived.Test.YtignjjnflcpiiaaGreatDoorBldS
import Derived.Test.YtignjjnflcpiiaaGreatDoorGx
set_option linter.unusedVariables false
set_option linter.unusedSimpArgs false
set_option maxHeartbeats 1000000
namespace Go.Proofs.YtignjjnflcpiiaaGreatDoor
open Go.RowKit

section
variable {X : Gx} {w w' : World} {γ : Gh} {hn : X.nG ≤ w.heap.size} {hM : ∀ b, Blk γ 0 b → X.nG ≤ b} {b : Nat} {p v v' : Value} {l l' : List UInt8}
theorem bld_of (hr : HR (cxe X 0 w γ hn hM) γ (heap1 (some (.bld ByT BT l))) w) : ∃ b p v, γ 0 = (.pointer (some ⟨b, 0, none⟩), v) ∧ BSt w b p v l := by
  obtain ⟨b, v, cs, p, hg, hh, hp, hown, hcs⟩ := hr.obj 0 _ rfl
  subst hcs
  refine ⟨b, p, v, hg, hh, hp, hown, fun h => ?_⟩
  have := hr.two 0 _ b rfl (by rw [hg]; rfl)
  rw [hg] at this
  exact this ((ownV hown).trans h)
theorem blk_bld (hg : γ 0 = (.pointer (some ⟨b, 0, none⟩), v)) (h : BSt w b p v l) {k : Nat} : Blk γ 0 k ↔ k = b ∨ v.ownBlock = some k := by
  unfold Blk
  rw [hg, ownV h.own]
  show some b = some k ∨ _ ↔ _
  simp [eq_comm]
theorem bld_hr (hr : HR (cxe X 0 w γ hn hM) γ (heap1 (some (.bld ByT BT l))) w) (hg : γ 0 = (.pointer (some ⟨b, 0, none⟩), v)) (h : BSt w b p v l) (h' : BSt w' b (.pointer (some ⟨b, 0, none⟩)) v' l') (hw : Wrote w w' b v v') :
    HR (cxe X 0 w γ hn hM) (upd γ 0 (.pointer (some ⟨b, 0, none⟩), v')) (heap1 (some (.bld ByT BT l'))) w' := by
  have hg' : upd γ 0 (.pointer (some ⟨b, 0, none⟩), v') 0 = (.pointer (some ⟨b, 0, none⟩), v') := upd_same _ _ _
  have only : ∀ {id : Nat} {o : AObj} {q : Option AObj}, heap1 q id = some o → id = 0 ∧ q = some o := fun {id} {o} {q} h => by
    cases id with
    | zero => exact ⟨rfl, h⟩
    | succ i => cases h
  have keep : ∀ k, k < w.heap.size → ¬ Blk γ 0 k → w'.heap[k]? = w.heap[k]? := fun k hk hb => hw.block k hk (fun e => hb ((blk_bld hg h).2 (.inl e))) (fun e => hb ((blk_bld hg h).2 (.inr e)))
  exact {
    obj := fun id o ho => by
      obtain ⟨rfl, ho⟩ := only ho
      cases ho
      exact ⟨b, v', _, _, hg', h'.heap, h'.ptr, h'.own, rfl⟩
    disj := fun id id' o o' k ho ho' _ _ => by rw [(only ho).1, (only ho').1]
    two := fun id o k ho hk hk2 => by
      obtain ⟨rfl, _⟩ := only ho
      rw [hg'] at hk hk2
      cases hk
      exact h'.ne ((ownV h'.own).symm.trans hk2)
    lt := fun id o k ho hk => by
      obtain ⟨rfl, _⟩ := only ho
      rcases (blk_bld hg' h').1 hk with rfl | hk
      · exact ⟨h'.lt, .inl ((blk_bld hg h).2 (.inl rfl))⟩
      · refine ⟨(h'.own.lt k hk).2, ?_⟩
        rcases hw.fresh k hk with e | e
        · exact .inl ((blk_bld hg h).2 (.inr e))
        · exact .inr e
    chg := ⟨hw.os, hw.tape, hw.output, hw.size, fun k hk hb => keep k hk hb⟩
    glob := X.hG w w' hr.glob (fun k hk => keep k (by have := hn; omega) (fun hb => by have := hM k hb; omega))
    pins := fun id o x hp ho => by
      obtain ⟨rfl, _⟩ := only ho
      rw [hg']
      have e : some (γ 0).1 = some x := hp
      rw [hg] at e
      exact Option.some.inj e }
theorem args2 {as1 : AV} {vs : List Value} {x : Value} {N : Nat} {M : Nat → Prop} (hg : γ 0 = (.pointer (some ⟨b, 0, none⟩), v)) (hx : as1.val = some x) (hl : vs.length = 2) (hr : ∀ i (h : i < [AV.ptr 0 0, as1].length) (h' : i < vs.length), Rep w N M (fun i => (γ i).1) [AV.ptr 0 0, as1][i] vs[i]) : vs = [.pointer (some ⟨b, 0, none⟩), x] := by
  match vs, hl with
  | [a, c], _ =>
    obtain ⟨b', e, e2⟩ := Rep.ptr_inv (hr 0 (by simp) (by simp))
    have e3 := (hr 1 (by simp) (by simp)).val_of hx
    rw [hg] at e
    cases e
    simp only [List.getElem_cons_zero, List.getElem_cons_succ] at e2 e3
    rw [e2, e3]
end
theorem writeString_e (l s : List UInt8) (hl : l.length + s.length ≤ 140737488355328) : CEff gx 44 (.bld ByT BT l) [.ptr 0 0, .str s] (some (.bld ByT BT (l ++ s))) (.tup [.int .i64 s.length, .nili]) := by
  intro w γ vs hn hM hr hlen hrep
  obtain ⟨b, p, v, hg, h⟩ := bld_of hr
  rw [args2 hg rfl hlen hrep]
  refine (writeString_x b p v l ⟨s.toArray⟩ w h (by rw [sizeMk]; exact hl)).mono ?_
  rintro e w' ⟨rfl, v', h', hw⟩
  refine ⟨_, _, rfl, bld_hr hr hg h h' hw, ?_⟩
  rw [sizeMk]
  exact .tup _ _ [.int .i64 s.length, .nilIface] rfl (fun i hi hx => by
    match i, hi with
    | 0, _ => exact .int _ _ _
    | 1, _ => exact .nili _)
theorem writeByte_e (l : List UInt8) (c : UInt8) (hl : l.length + 1 ≤ 140737488355328) : CEff gx 92 (.bld ByT BT l) [.ptr 0 0, .int .u8 c.toNat] (some (.bld ByT BT (l ++ [c]))) .nili := by
  intro w γ vs hn hM hr hlen hrep
  obtain ⟨b, p, v, hg, h⟩ := bld_of hr
  rw [args2 hg rfl hlen hrep]
  refine (writeByte_x b p v l c w h hl).mono ?_
  rintro e w' ⟨rfl, v', h', hw⟩
  exact ⟨_, _, rfl, bld_hr hr hg h h' hw, .nili _⟩
theorem string_e (l : List UInt8) : CEff gx 45 (.bld ByT BT l) [.ptr 0 0] none (.str l) := by
  intro w γ vs hn hM hr hlen hrep
  obtain ⟨b, p, v, hg, h⟩ := bld_of hr
  have ev : vs = [.pointer (some ⟨b, 0, none⟩)] := by
    match vs, hlen with
    | [a], _ =>
      obtain ⟨b', e, e2⟩ := Rep.ptr_inv (hrep 0 (by simp) (by simp))
      rw [hg] at e
      cases e
      simp only [List.getElem_cons_zero] at e2
      rw [e2]
  rw [ev]
  refine (string_x b p v l w h).mono ?_
  rintro e w' ⟨rfl, hw⟩
  have keep : ∀ k, k < w.heap.size → ¬ Blk γ 0 k → w'.heap[k]? = w.heap[k]? := fun k hk hb => hw.block k hk (fun e => hb ((blk_bld hg h).2 (.inl e))) (fun e => hb ((blk_bld hg h).2 (.inr e)))
  have no : ∀ {id : Nat} {o : AObj}, heap1 none id = some o → False := fun {id} {o} h => by cases id <;> cases h
  refine ⟨_, γ, rfl, ?_, .str _ _⟩
  exact {
    obj := fun id o ho => (no ho).elim
    disj := fun id id' o o' k ho _ _ _ => (no ho).elim
    two := fun id o k ho _ _ => (no ho).elim
    lt := fun id o k ho _ => (no ho).elim
    chg := ⟨hw.os, hw.tape, hw.output, hw.size, fun k hk hb => keep k hk hb⟩
    glob := gx.hG w w' hr.glob (fun k hk => keep k (by have := hn; omega) (fun hb => by have := hM k hb; omega))
    pins := fun id o x _ ho => (no ho).elim }
end Go.Proofs.YtignjjnflcpiiaaGreatDoor
