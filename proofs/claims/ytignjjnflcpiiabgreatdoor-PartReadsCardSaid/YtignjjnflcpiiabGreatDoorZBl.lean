import Derived.Test.YtignjjnflcpiiabGreatDoorZEr
import Derived.Lib.Builder
import Derived.Lib.FrozenHead2
import Derived.Lib.OthersKept
import Derived.Lib.UnsafeStr
import Derived.Lib.MakeNoZero
import Derived.Lib.Strings
import Derived.WalkKit
import Derived.Lib.AppendStr
import Derived.Test.YtignjjnflcpiiabGreatDoorZVm3
import Derived.Shelf.RegionOpenPlain
import Derived.Test.YtignjjnflcpiiabGreatDoorZGx
set_option linter.unusedVariables false
set_option linter.unusedSimpArgs false
set_option maxHeartbeats 1000000
namespace Go.Proofs.YtignjjnflcpiiabGreatDoor
open Go.RowKit
abbrev BT : TypeId := 112
theorem sizeBuilder : (Tryz.prog.info? 112).map (·.size) = some 2 := by kernel_rfl
theorem liesBuilder : liesAt Tryz.prog Tryz.prog.depth 112 (2 / Tryz.prog.cellsOf 112) 0 112 1 = true := by kernel_rfl
set_option maxHeartbeats 1000000 in
set_option maxRecDepth 100000 in
theorem copyCheck_used (b : Nat) (w : World) (h0 : w.cell? ⟨b, 0, none⟩ = some (.pointer (some ⟨b, 0, none⟩))) :
    Calls Tryz.prog 98 #[.pointer (some ⟨b, 0, none⟩)] w fun e w' => e = .returned (.tuple #[]) ∧ w' = w := by
  obtain ⟨j, hj, _⟩ := Option.map_eq_some_iff.1 sizeBuilder
  go_enter Tryz.func98, Tryz.ntmps98
  go_wp2
  rw [Lib.run_neq_ptr_same w _ Tryz.underlying110 hj]
  go_wp2
  go_end0
  exact ⟨rfl, rfl⟩
set_option maxHeartbeats 1000000 in
set_option maxRecDepth 100000 in
theorem copyCheck_fresh (b : Nat) (w : World) (h0 : w.cell? ⟨b, 0, none⟩ = some (.pointer none)) (hsh : w.shape? b = some (112, 2)) (hfz : w.frozen? ⟨b, 0, none⟩ = false) :
    Calls Tryz.prog 98 #[.pointer (some ⟨b, 0, none⟩)] w fun e w' => e = .returned (.tuple #[]) ∧ w' = w.setCell ⟨b, 0, none⟩ (.pointer (some ⟨b, 0, none⟩)) := by
  obtain ⟨j, hj, hjs⟩ := Option.map_eq_some_iff.1 sizeBuilder
  go_enter Tryz.func98, Tryz.ntmps98
  go_wp2
  rw [Lib.run_to_unsafe w ⟨b, 0, none⟩ Tryz.underlying110 Tryz.underlying123 hj (by rw [hjs]; decide) hsh (Nat.zero_lt_succ 1)]
  simp only [Result.andThen]
  rw [Oper.upon_value]
  go_wp2
  rw [run_callFunc_extern Tryz.func119 (by kernel_rfl) (by kernel_rfl) (by kernel_rfl) (e := Extern.AbiNoEscape.same) (by kernel_rfl)]
  rw [Lib.run_noEscape]
  simp only [Result.andThen]
  rw [Oper.upon_value]
  go_wp2
  rw [Lib.run_from_unsafe w ⟨b, 0, none⟩ Tryz.underlying123 Tryz.underlying110 hj hsh liesBuilder]
  simp only [Result.andThen]
  rw [Oper.upon_value]
  go_wp2
  go_end0
  exact ⟨rfl, rfl⟩
end Go.Proofs.YtignjjnflcpiiabGreatDoor
namespace Go.Proofs.YtignjjnflcpiiabGreatDoor
open Go.RowKit
abbrev bytesV (l : List UInt8) : List Value := l.map fun c => Value.int .u8 c.toNat
structure BSt (w : World) (b : Nat) (p v : Value) (l : List UInt8) : Prop where
  heap : w.heap[b]? = some (.cells #[p, v] BT (0, 0))
  ptr : p = .pointer none ∨ p = .pointer (some ⟨b, 0, none⟩)
  own : w.ownsRow 0 ByT 1 v l.length (bytesV l)
  ne : v.ownBlock ≠ some b
structure Wrote (w w' : World) (b : Nat) (v v' : Value) : Prop where
  os : w'.os = w.os
  tape : w'.tape = w.tape
  output : w'.output = w.output
  size : w.heap.size ≤ w'.heap.size
  block : ∀ k, k < w.heap.size → k ≠ b → v.ownBlock ≠ some k → w'.heap[k]? = w.heap[k]?
  fresh : ∀ k, v'.ownBlock = some k → v.ownBlock = some k ∨ w.heap.size ≤ k
theorem BSt.lt {w : World} {b : Nat} {p v : Value} {l : List UInt8} (h : BSt w b p v l) : b < w.heap.size := by
  rcases Nat.lt_or_ge b w.heap.size with h' | h'
  · exact h'
  · have := h.heap; rw [Array.getElem?_eq_none h'] at this; cases this
theorem heap_setCell_ne (w : World) (a : Addr) (v : Value) {k : Nat} (h : k ≠ a.block) : (w.setCell a v).heap[k]? = w.heap[k]? := by
  simp [World.setCell, Array.getElem?_modify, Ne.symm h]
theorem heap_setCell_at {w : World} {b o : Nat} {c : Array Value} {e : TypeId} {fz : Nat × Nat} (v : Value) (h : w.heap[b]? = some (.cells c e fz)) : (w.setCell ⟨b, o, none⟩ v).heap[b]? = some (.cells (c.setIfInBounds o v) e fz) := by
  simp [World.setCell, Array.getElem?_modify, h]
theorem ownsRow_keep {w w' : World} {base e size : Nat} {v : Value} {n : Nat} {xs : List Value} (h : w.ownsRow base e size v n xs) (hk : ∀ k, v.ownBlock = some k → w'.heap[k]? = w.heap[k]?) : w'.ownsRow base e size v n xs := by
  refine ⟨h.1, ?_⟩
  rcases h.2 with ⟨h1, h2⟩ | ⟨g, cap, cur, hv, h1, h2, r⟩
  · exact .inl ⟨h1, h2⟩
  · exact .inr ⟨g, cap, cur, hv, h1, by rw [hk g (by rw [hv]; rfl)]; exact h2, r⟩
theorem copyCheck_x (b : Nat) (p v : Value) (l : List UInt8) (w : World) (h : BSt w b p v l) :
    Calls Tryz.prog 98 #[.pointer (some ⟨b, 0, none⟩)] w fun e w' => e = .returned (.tuple #[]) ∧ BSt w' b (.pointer (some ⟨b, 0, none⟩)) v l ∧ Wrote w w' b v v := by
  have c0 : w.cell? ⟨b, 0, none⟩ = some p := by rw [Lib.cell_of_heap h.heap]; rfl
  rcases h.ptr with rfl | rfl
  · refine (copyCheck_fresh b w c0 (by simp [World.shape?, h.heap]) (Lib.frozen_of_heap h.heap 0)).mono ?_
    rintro e w' ⟨rfl, rfl⟩
    refine ⟨rfl, ⟨?_, .inr rfl, ownsRow_keep h.own (fun k hk => heap_setCell_ne _ _ _ (fun e => h.ne (by rw [hk, e]))), h.ne⟩, ⟨rfl, rfl, rfl, by simp [World.setCell], fun k _ hk _ => heap_setCell_ne _ _ _ hk, fun k hk => .inl hk⟩⟩
    rw [heap_setCell_at _ h.heap]; rfl
  · refine (copyCheck_used b w c0).mono ?_
    rintro e w' ⟨rfl, rfl⟩
    exact ⟨rfl, h, ⟨rfl, rfl, rfl, Nat.le_refl _, fun k _ _ _ => rfl, fun k hk => .inl hk⟩⟩
theorem wpList_app_x {P : Program} {w : World} {ops : Array Oper} {rest : List Oper} {o : Oper} {a : Act} {Q : Exit → Act → World → Prop} (hgd : o.guard = none) (sl x : Operand) (t : TypeId) (ho : o.op = .call { callee := .builtin .append, args := #[sl, x], argTypes := #[t, t] })
    (e : TypeId) (i : TypeInfo) (ht : P.underlying t = some (.slice e)) (hi : P.info? e = some i) (hz : i.zero = some (.int .u8 0)) (hsize : i.size = 1) (hby : i.bytes = 1)
    (v : Value) (n : Nat) (xs : List Value) (hs : a.eval sl = v) (hown : w.ownsRow 0 e 1 v n xs) (ad : Addr) (m c : Nat) (news : List Value) (hx : a.eval x = .slice (some ad) m c) (hl : news.length = m) (hnews : ∀ j u, news[j]? = some u → w.cell? (ad.add j) = some u) (h1 : ∀ u ∈ news, u.oneCell' = true) (hm : 0 < m)
    (h63 : n + m ≤ maxLen) (hbytes : n + m ≤ 140737488355328)
    (h : ∀ v' w', w'.ownsRow 0 e 1 v' (n + m) (xs ++ news) → w.grownBy w' v.ownBlock → (∀ k, vblock v' = some k → vblock v = some k ∨ w.heap.size ≤ k) → wpList P ops Q rest (a.put o.dst v') w') : wpList P ops Q (o :: rest) a w := by
  refine wpList_plain hgd fun K hK => ?_
  obtain ⟨v', w', hr, h2, h3, h4⟩ := run_append_at (P := P) w t o.type e i (.int .u8 0) 1 1 ht hi hz hsize hby rfl (by decide) v n xs hown ad m c news (by omega) hnews h1 hm h63 (by omega)
  unfold Oper.wp execOp
  simp only [ho, resolve, invoke, builtin, Sem.run_bind, Sem.run_pure, Result.andThen_ok, List.map_toArray, List.map_cons, List.map_nil, hs, hx, hr]
  rw [Oper.upon_value]
  exact hK _ _ (h v' w' h2 h3 (fun k hk => (h4 k hk).2.symm))
theorem ownV {w : World} {base e size : Nat} {v : Value} {n : Nat} {xs : List Value} (h : w.ownsRow base e size v n xs) : vblock v = v.ownBlock := by
  rcases h.2 with ⟨h1, _⟩ | ⟨g, cap, cur, h1, _⟩ <;> rw [h1] <;> rfl
set_option maxHeartbeats 2000000 in
set_option maxRecDepth 100000 in
theorem writeByte_x (b : Nat) (p v : Value) (l : List UInt8) (c : UInt8) (w : World) (h : BSt w b p v l) (hlen : l.length + 1 ≤ 140737488355328) :
    Calls Tryz.prog 95 #[.pointer (some ⟨b, 0, none⟩), .int .u8 c.toNat] w fun e w' => e = .returned .nilIface ∧ ∃ v', BSt w' b (.pointer (some ⟨b, 0, none⟩)) v' (l ++ [c]) ∧ Wrote w w' b v v' := by
  obtain ⟨i0, hi, hz0, hz1, hz2⟩ := info_parts infoByte
  go_enter Tryz.func95, Tryz.ntmps95
  go_wp2_with (go_at_call 98; refine (copyCheck_x b p v l _ h).mono ?_)
  rintro e w1 ⟨rfl, h1, hw1⟩
  have hbk := h1.heap
  have hown := h1.own
  have hlt := h1.lt
  have hvb := ownV hown
  have c0 : w1.cell? ⟨b, 0, none⟩ = some (.pointer (some ⟨b, 0, none⟩)) := by rw [Lib.cell_of_heap hbk]; rfl
  have c1 : w1.cell? ⟨b, 1, none⟩ = some v := by rw [Lib.cell_of_heap hbk]; rfl
  go_wp2_with (at_builtin; refine wpList_app_x rfl _ _ 80 rfl ByT i0 Tryz.underlying80 hi hz0 hz1 hz2 _ _ _ rfl (hown.alloc _) ⟨w1.heap.size, 0, none⟩ 1 1 [.int .u8 c.toNat] rfl rfl ?c1 ?c2 (by decide) ?c3 ?c4 ?_)
  case c1 =>
    intro j u hj
    match j, hj with
    | 0, hj => simp at hj; subst hj; simp [Addr.add]
  case c2 => intro u hu; simp at hu; subst hu; rfl
  case c3 => unfold maxLen; omega
  case c4 => omega
  intro v' w2 hown' hgrow hfr0
  have hsz1 : (w1.alloc (.cells #[.int .u8 c.toNat] ByT)).heap.size = w1.heap.size + 1 := by simp
  have hb2 : w2.heap[b]? = some (.cells #[.pointer (some ⟨b, 0, none⟩), v] BT (0, 0)) := by
    rw [hgrow.block b (by simp; omega) (fun e => h1.ne e.symm), Lib.alloc_old w1 _ b hlt]
    exact hbk
  have d0 : w2.cell? ⟨b, 0, none⟩ = some (.pointer (some ⟨b, 0, none⟩)) := by rw [Lib.cell_of_heap hb2]; rfl
  have d1 : w2.cell? ⟨b, 1, none⟩ = some v := by rw [Lib.cell_of_heap hb2]; rfl
  have f1 : w2.frozen? ⟨b, 1, none⟩ = false := Lib.frozen_of_heap hb2 1
  have hfr : ∀ k, v'.ownBlock = some k → v.ownBlock = some k ∨ w1.heap.size ≤ k := fun k hk => by
    rw [← ownV hown'] at hk
    rcases hfr0 k hk with h' | h'
    · first | exact .inl h' | exact .inl (by rw [← hvb]; exact h')
    · exact .inr (by first | omega | (rw [hsz1] at h'; omega))
  have hne' : v'.ownBlock ≠ some b := fun e => by
    rcases hfr b e with h' | h'
    · exact h1.ne h'
    · omega
  have Hne := hid hne'
  have Hfr := hid hfr
  clear hne' hfr hfr0
  obtain ⟨ao, n', cap, rfl⟩ : ∃ ao n' cap, v' = .slice ao n' cap := by
    rcases hown'.2 with ⟨hv, _⟩ | ⟨g, cap, cur, hv, _⟩
    · exact ⟨_, _, _, hv⟩
    · exact ⟨_, _, _, hv⟩
  go_wp2
  go_ret
  refine ⟨rfl, _, ⟨by rw [heap_setCell_at _ hb2]; rfl, .inr rfl, ?_, Hne.out⟩, ⟨?_, ?_, ?_, ?_, fun k hk hkb hkv => ?_, fun k hk => ?_⟩⟩
  · have e : bytesV (l ++ [c]) = bytesV l ++ [.int .u8 c.toNat] := by simp [bytesV]
    rw [e, List.length_append]
    exact ownsRow_keep hown' (fun k hk => heap_setCell_ne _ _ _ (fun e => Hne.out (by rw [hk, e])))
  · exact hgrow.os.trans hw1.os
  · exact hgrow.tape.trans hw1.tape
  · exact hgrow.output.trans hw1.output
  · have := hgrow.size; have := hw1.size; simp [World.setCell] at *; omega
  · rw [heap_setCell_ne _ _ _ hkb, hgrow.block k (by have := hw1.size; simp; omega) (fun e => hkv e.symm), Lib.alloc_old w1 _ k (by have := hw1.size; omega)]
    exact hw1.block k hk hkb hkv
  · rcases Hfr.out k hk with h' | h'
    · exact .inl h'
    · exact .inr (by have := hw1.size; omega)
end Go.Proofs.YtignjjnflcpiiabGreatDoor
namespace Go.Proofs.YtignjjnflcpiiabGreatDoor
open Go.RowKit
structure Reads (w w' : World) (b : Nat) (v : Value) : Prop where
  os : w'.os = w.os
  tape : w'.tape = w.tape
  output : w'.output = w.output
  size : w.heap.size ≤ w'.heap.size
  block : ∀ k, k < w.heap.size → k ≠ b → v.ownBlock ≠ some k → w'.heap[k]? = w.heap[k]?
theorem freeze_other (w : World) (a : Addr) (n : Nat) {k : Nat} (h : k ≠ a.block) : (w.freeze a n).heap[k]? = w.heap[k]? := by
  unfold World.freeze
  split
  · rfl
  · simp [Array.getElem?_modify, Ne.symm h]
theorem freeze_size (w : World) (a : Addr) (n : Nat) : (w.freeze a n).heap.size = w.heap.size := by
  unfold World.freeze
  split <;> simp
theorem freeze_rest (w : World) (a : Addr) (n : Nat) : (w.freeze a n).os = w.os ∧ (w.freeze a n).tape = w.tape ∧ (w.freeze a n).output = w.output := by
  unfold World.freeze
  split <;> exact ⟨rfl, rfl, rfl⟩
theorem cellsByte : Tryz.prog.cellsOf 5 = 1 := by kernel_rfl
set_option maxHeartbeats 1000000 in
set_option maxRecDepth 100000 in
theorem string_x (b : Nat) (p v : Value) (l : List UInt8) (w : World) (h : BSt w b p v l) :
    Calls Tryz.prog 65 #[.pointer (some ⟨b, 0, none⟩)] w fun e w' => e = .returned (.string ⟨l.toArray⟩) ∧ Reads w w' b v := by
  have mixed : Tryz.prog.follows .mixedOrders = true := by kernel_rfl
  have hbk := h.heap
  have hlt := h.lt
  rcases h.own.2 with ⟨rfl, h0⟩ | ⟨g, cap, cur, rfl, hbg, hg, hnc, hcm, hcs, htake⟩
  · have hl : l = [] := List.eq_nil_of_length_eq_zero h0
    subst hl
    have hUS : ∀ W : World, (Builtin.unsafeString_ #[143, 3] 9 #[.pointer none, .int .i64 0]).run Tryz.prog W = .ok (.string .empty) W := fun W => Lib.run_unsafeString_none W _ _ _ none
    have c1 : w.drew.cell? ⟨b, 1, none⟩ = some (.slice none 0 0) := by
      have : w.drew.heap[b]? = some (.cells #[p, .slice none 0 0] BT (0, 0)) := hbk
      rw [Lib.cell_of_heap this]; rfl
    have hSD : (Builtin.unsafeSliceData_ #[80] 143 #[.slice none 0 0]).run Tryz.prog w.drew = .ok (.pointer none) w.drew := rfl
    go_enter Tryz.func65, Tryz.ntmps65
    go_wp2
    go_region_o
    all_goals (go_wp2; go_ret; exact ⟨rfl, ⟨rfl, rfl, rfl, Nat.le_refl _, fun _ _ _ _ => rfl⟩⟩)
  · by_cases hl0 : l.length = 0
    · have hl : l = [] := List.eq_nil_of_length_eq_zero hl0
      subst hl
      have hUS : ∀ (W : World) (q : Option Addr), (Builtin.unsafeString_ #[143, 3] 9 #[.pointer q, .int .i64 0]).run Tryz.prog W = .ok (.string .empty) W := fun W q => Lib.run_unsafeString_none W _ _ _ q
      have c1 : w.drew.cell? ⟨b, 1, none⟩ = some (.slice (some ⟨g, 0, none⟩) 0 cap) := by
        have : w.drew.heap[b]? = some (.cells #[p, .slice (some ⟨g, 0, none⟩) 0 cap] BT (0, 0)) := hbk
        rw [Lib.cell_of_heap this]; rfl
      by_cases hc0 : cap = 0
      · subst hc0
        have hSD : (Builtin.unsafeSliceData_ #[80] 143 #[.slice (some ⟨g, 0, none⟩) 0 0]).run Tryz.prog w.drew = .ok (.pointer (some ⟨w.drew.heap.size, 0, none⟩)) (w.drew.alloc (.view ⟨g, 0, none⟩ 5)) :=
          Lib.run_unsafeSliceData_zero w.drew _ _ 5 Tryz.underlying143 ⟨g, 0, none⟩ 0 (5, cur.size) (by have hg' : w.drew.heap[g]? = some (.cells cur 5 (0, 0)) := hg; simp [World.shape?, hg'])
        have c2 : (w.drew.alloc (.view ⟨g, 0, none⟩ 5)).cell? ⟨b, 1, none⟩ = some (.slice (some ⟨g, 0, none⟩) 0 0) := by
          have : (w.drew.alloc (.view ⟨g, 0, none⟩ 5)).heap[b]? = _ := (Lib.alloc_old w.drew _ b hlt).trans hbk
          rw [Lib.cell_of_heap this]; rfl
        have c3 : (w.alloc (.view ⟨g, 0, none⟩ 5)).drew.cell? ⟨b, 1, none⟩ = some (.slice (some ⟨g, 0, none⟩) 0 0) := c2
        have c0 : w.cell? ⟨b, 1, none⟩ = some (.slice (some ⟨g, 0, none⟩) 0 0) := c1
        go_enter Tryz.func65, Tryz.ntmps65
        go_wp2
        go_region_o
        all_goals (go_wp2; go_ret; exact ⟨rfl, ⟨rfl, rfl, rfl, by simp, fun k hk _ _ => Lib.alloc_old w.drew _ k hk⟩⟩)
      · have hSD : (Builtin.unsafeSliceData_ #[80] 143 #[.slice (some ⟨g, 0, none⟩) 0 cap]).run Tryz.prog w.drew = .ok (.pointer (some ⟨g, 0, none⟩)) w.drew :=
          Lib.run_unsafeSliceData_row _ _ _ _ _ _ hc0
        clear hc0
        go_enter Tryz.func65, Tryz.ntmps65
        go_wp2
        go_region_o
        all_goals (go_wp2; go_ret; exact ⟨rfl, ⟨rfl, rfl, rfl, Nat.le_refl _, fun _ _ _ _ => rfl⟩⟩)
    · have c1 : w.drew.cell? ⟨b, 1, none⟩ = some (.slice (some ⟨g, 0, none⟩) l.length cap) := by
        have : w.drew.heap[b]? = some (.cells #[p, .slice (some ⟨g, 0, none⟩) l.length cap] BT (0, 0)) := hbk
        rw [Lib.cell_of_heap this]; rfl
      have hSD : (Builtin.unsafeSliceData_ #[80] 143 #[.slice (some ⟨g, 0, none⟩) l.length cap]).run Tryz.prog w.drew = .ok (.pointer (some ⟨g, 0, none⟩)) w.drew :=
        Lib.run_unsafeSliceData_row _ _ _ _ _ _ (by omega)
      have hUS : (Builtin.unsafeString_ #[143, 3] 9 #[.pointer (some ⟨g, 0, none⟩), .int .i64 l.length]).run Tryz.prog w.drew = .ok (.string ⟨l.toArray⟩) (w.drew.freeze ⟨g, 0, none⟩ l.length) := by
        refine Lib.run_unsafeString_row w.drew 143 3 9 5 Tryz.underlying143 cellsByte g cur.size (by have hg' : w.drew.heap[g]? = some (.cells cur 5 (0, 0)) := hg; simp [World.shape?, hg']) l (fun e => hl0 (by rw [e]; rfl)) (by omega) (by unfold maxLen at hcm; omega) ?_
        intro j x hx
        exact h.own.cells (g := g) rfl j (.int .u8 x.toNat) (by simp [bytesV, hx])
      go_enter Tryz.func65, Tryz.ntmps65
      go_wp2
      go_region_o
      all_goals (go_wp2; go_ret; exact ⟨rfl, ⟨(freeze_rest _ _ _).1, (freeze_rest _ _ _).2.1, (freeze_rest _ _ _).2.2, by rw [freeze_size]; exact Nat.le_refl _, fun k _ _ hk => freeze_other _ _ _ (fun e => hk (by rw [e]; rfl))⟩⟩)
end Go.Proofs.YtignjjnflcpiiabGreatDoor
namespace Go.Proofs.YtignjjnflcpiiabGreatDoor
open Go.RowKit
section
variable {X : Gx} {w w' : World} {γ : Gh} {hn : X.nG ≤ w.heap.size} {hM : ∀ b, Blk γ 0 b → X.nG ≤ b} {b : Nat} {p v v' : Value} {l l' : List UInt8}
theorem bld_of (hr : HR (cxe X 0 w γ hn hM) γ (heap1 (some (.bld ByT BT l))) w) : ∃ b p v, γ 0 = (.pointer (some ⟨b, 0, none⟩), v) ∧ BSt w b p v l := by
  obtain ⟨b, v, cs, p, hg, hh, hp, hown, hcs⟩ := hr.obj 0 _ rfl
  subst hcs
  refine ⟨b, p, v, hg, hh, hp, hown, fun h => ?_⟩
  have := hr.two 0 _ b rfl (by rw [hg]; rfl)
  rw [hg] at this
  exact this ((ownV hown).trans h)
theorem blk_bld (hg : γ 0 = (.pointer (some ⟨b, 0, none⟩), v)) (h : BSt w b p v l) {k : Nat} : Blk γ 0 k ↔ k = b ∨ v.ownBlock = some k := by
  unfold Blk
  rw [hg, ownV h.own]
  show some b = some k ∨ _ ↔ _
  simp [eq_comm]
theorem bld_hr (hr : HR (cxe X 0 w γ hn hM) γ (heap1 (some (.bld ByT BT l))) w) (hg : γ 0 = (.pointer (some ⟨b, 0, none⟩), v)) (h : BSt w b p v l) (h' : BSt w' b (.pointer (some ⟨b, 0, none⟩)) v' l') (hw : Wrote w w' b v v') :
    HR (cxe X 0 w γ hn hM) (upd γ 0 (.pointer (some ⟨b, 0, none⟩), v')) (heap1 (some (.bld ByT BT l'))) w' := by
  have hg' : upd γ 0 (.pointer (some ⟨b, 0, none⟩), v') 0 = (.pointer (some ⟨b, 0, none⟩), v') := upd_same _ _ _
  have only : ∀ {id : Nat} {o : AObj} {q : Option AObj}, heap1 q id = some o → id = 0 ∧ q = some o := fun {id} {o} {q} h => by
    cases id with
    | zero => exact ⟨rfl, h⟩
    | succ i => cases h
  have keep : ∀ k, k < w.heap.size → ¬ Blk γ 0 k → w'.heap[k]? = w.heap[k]? := fun k hk hb => hw.block k hk (fun e => hb ((blk_bld hg h).2 (.inl e))) (fun e => hb ((blk_bld hg h).2 (.inr e)))
  exact {
    obj := fun id o ho => by
      obtain ⟨rfl, ho⟩ := only ho
      cases ho
      exact ⟨b, v', _, _, hg', h'.heap, h'.ptr, h'.own, rfl⟩
    disj := fun id id' o o' k ho ho' _ _ => by rw [(only ho).1, (only ho').1]
    two := fun id o k ho hk hk2 => by
      obtain ⟨rfl, _⟩ := only ho
      rw [hg'] at hk hk2
      cases hk
      exact h'.ne ((ownV h'.own).symm.trans hk2)
    lt := fun id o k ho hk => by
      obtain ⟨rfl, _⟩ := only ho
      rcases (blk_bld hg' h').1 hk with rfl | hk
      · exact ⟨h'.lt, .inl ((blk_bld hg h).2 (.inl rfl))⟩
      · refine ⟨(h'.own.lt k hk).2, ?_⟩
        rcases hw.fresh k hk with e | e
        · exact .inl ((blk_bld hg h).2 (.inr e))
        · exact .inr e
    chg := ⟨hw.os, hw.tape, hw.output, hw.size, fun k hk hb => keep k hk hb⟩
    glob := X.hG w w' hr.glob (fun k hk => keep k (by have := hn; omega) (fun hb => by have := hM k hb; omega))
    pins := fun id o x hp ho => by
      obtain ⟨rfl, _⟩ := only ho
      rw [hg']
      have e : some (γ 0).1 = some x := hp
      rw [hg] at e
      exact Option.some.inj e }
theorem args2 {as1 : AV} {vs : List Value} {x : Value} {N : Nat} {M : Nat → Prop} (hg : γ 0 = (.pointer (some ⟨b, 0, none⟩), v)) (hx : as1.val = some x) (hl : vs.length = 2) (hr : ∀ i (h : i < [AV.ptr 0 0, as1].length) (h' : i < vs.length), Rep w N M (fun i => (γ i).1) [AV.ptr 0 0, as1][i] vs[i]) : vs = [.pointer (some ⟨b, 0, none⟩), x] := by
  match vs, hl with
  | [a, c], _ =>
    obtain ⟨b', e, e2⟩ := Rep.ptr_inv (hr 0 (by simp) (by simp))
    have e3 := (hr 1 (by simp) (by simp)).val_of hx
    rw [hg] at e
    cases e
    simp only [List.getElem_cons_zero, List.getElem_cons_succ] at e2 e3
    rw [e2, e3]
end
theorem writeByte_e (l : List UInt8) (c : UInt8) (hl : l.length + 1 ≤ 140737488355328) : CEff gx 95 (.bld ByT BT l) [.ptr 0 0, .int .u8 c.toNat] (some (.bld ByT BT (l ++ [c]))) .nili := by
  intro w γ vs hn hM hr hlen hrep
  obtain ⟨b, p, v, hg, h⟩ := bld_of hr
  rw [args2 hg rfl hlen hrep]
  refine (writeByte_x b p v l c w h hl).mono ?_
  rintro e w' ⟨rfl, v', h', hw⟩
  exact ⟨_, _, rfl, bld_hr hr hg h h' hw, .nili _⟩
theorem string_e (l : List UInt8) : CEff gx 65 (.bld ByT BT l) [.ptr 0 0] none (.str l) := by
  intro w γ vs hn hM hr hlen hrep
  obtain ⟨b, p, v, hg, h⟩ := bld_of hr
  have ev : vs = [.pointer (some ⟨b, 0, none⟩)] := by
    match vs, hlen with
    | [a], _ =>
      obtain ⟨b', e, e2⟩ := Rep.ptr_inv (hrep 0 (by simp) (by simp))
      rw [hg] at e
      cases e
      simp only [List.getElem_cons_zero] at e2
      rw [e2]
  rw [ev]
  refine (string_x b p v l w h).mono ?_
  rintro e w' ⟨rfl, hw⟩
  have keep : ∀ k, k < w.heap.size → ¬ Blk γ 0 k → w'.heap[k]? = w.heap[k]? := fun k hk hb => hw.block k hk (fun e => hb ((blk_bld hg h).2 (.inl e))) (fun e => hb ((blk_bld hg h).2 (.inr e)))
  have no : ∀ {id : Nat} {o : AObj}, heap1 none id = some o → False := fun {id} {o} h => by cases id <;> cases h
  refine ⟨_, γ, rfl, ?_, .str _ _⟩
  exact {
    obj := fun id o ho => (no ho).elim
    disj := fun id id' o o' k ho _ _ _ => (no ho).elim
    two := fun id o k ho _ _ => (no ho).elim
    lt := fun id o k ho _ => (no ho).elim
    chg := ⟨hw.os, hw.tape, hw.output, hw.size, fun k hk hb => keep k hk hb⟩
    glob := gx.hG w w' hr.glob (fun k hk => keep k (by have := hn; omega) (fun hb => by have := hM k hb; omega))
    pins := fun id o x _ ho => (no ho).elim }
end Go.Proofs.YtignjjnflcpiiabGreatDoor
