/- More rules: slices of what nobody writes; what is no longer written; a struct with a slice of its own, apart and together; walks over texts; variables of the program; closures. -/
import Derived.Test.YtignjjnflcpiiaaDoorVmL
import Derived.Laws.RangeString
import Derived.Lib.OthersKept
set_option linter.unusedVariables false
set_option linter.unusedSimpArgs false
namespace Go.Proofs.YtignjjnflcpiiaaDoor
open Go.RowKit

theorem elem_of {P : Program} {t e : TypeId} (ht : P.underlying t = some (.slice e)) : P.underlying t = some (.slice (P.elem t)) := by
  have : P.elem t = e := by simp [Program.elem, ht]
  rw [this]; exact ht
theorem elem_eq {P : Program} {t e : TypeId} (ht : P.underlying t = some (.slice e)) : P.elem t = e := by simp [Program.elem, ht]
theorem rows_cut {w : World} {ok : Nat → Prop} {sz : Nat} {rows : List (List AV)} {a : Option Addr} {n cap : Nat} (h : RowsAt w ok sz rows (.slice a n cap)) (l hi : Nat) (h1 : l ≤ hi) (h2 : hi ≤ rows.length) :
    RowsAt w ok sz ((rows.take hi).drop l) (sliced a l hi cap sz) := by
  unfold sliced
  have hlen : ((rows.take hi).drop l).length = hi - l := by simp; omega
  rcases h with ⟨hr, a', cap', hv, hn⟩ | ⟨b, o, cap', cs, hv, hok, h0, hs, hcap, hc, hl, hr⟩
  · cases hv
    subst hr
    have : hi = 0 := by simpa using h2
    subst this
    obtain rfl : l = 0 := by omega
    refine .inl ⟨by simp, _, _, rfl, fun h => ?_⟩
    by_cases hc : cap = 0
    · simp [hc]
    · rw [if_neg hc] at h
      cases a with
      | none => simp [hn rfl]
      | some a => cases h
  · cases hv
    by_cases he : l = hi
    · subst he
      refine .inl ⟨List.eq_nil_of_length_eq_zero (by omega), _, _, by rw [Nat.sub_self], fun h => ?_⟩
      split at h <;> cases h
    · have hcl : ¬ cap = l := by omega
      rw [if_neg hcl]
      refine .inr ⟨b, o + l * sz, cap - l, fun i j => cs (i + l) j, ?_, hok, by omega, hs, by omega, fun i hi' j hj => ?_, fun i hi' => ?_, fun i hi' j hj => ?_⟩
      · rw [hlen]
        simp [Addr.add_lit]
      · have := hc (i + l) (by omega) j hj
        rw [← this]
        congr 2
        rw [Nat.add_mul]; omega
      · have : ((rows.take hi).drop l)[i] = rows[i + l]'(by omega) := by simp [Nat.add_comm]
        rw [this]; exact hl _ _
      · have e : ((rows.take hi).drop l)[i] = rows[i + l]'(by omega) := by simp [Nat.add_comm]
        have hj' : j < (rows[i + l]'(by omega)).length := by rw [← e]; exact hj
        have := hr (i + l) (by omega) j hj'
        simp only [e]
        exact this
theorem RowsAt.slice {w : World} {ok : Nat → Prop} {sz : Nat} {rows : List (List AV)} {v : Value} (h : RowsAt w ok sz rows v) : ∃ a cap, v = .slice a rows.length cap ∧ rows.length ≤ cap := by
  rcases h with ⟨rfl, a, c, hv, _⟩ | ⟨b, o, cap, cs, hv, _, _, _, hcap, _⟩
  · exact ⟨a, c, hv, Nat.zero_le _⟩
  · exact ⟨_, _, hv, hcap⟩
section
variable {C : Cx} {σ : St} {d : Option Nat} {x y z : Operand} {t ty : TypeId} {pos : String} {af : Array Edge} {g : Option (Nat × Bool)} {k k' : IntKind} {m n : Int}
theorem q_slro_lo {e sz : Nat} {fr : Bool} {rows rows' : List (List AV)} (hx : σ.ev x = .ro fr sz rows) (hy : σ.ev y = .int k m) (ht : C.P.underlying t = some (.slice e)) (hs : sizeB C.P e sz = true) (h0 : 0 ≤ m) (h1 : m.toNat ≤ rows.length) (hr : rows.drop m.toNat = rows') : Qd C ⟨d, .slice t x (some y) none none, ty, pos, af, g⟩ σ (.ro fr sz rows') := qd_of fun γ a w hh he => by
  have e1 := he x (by simp [Op.operands])
  have e2 := he y (by simp [Op.operands])
  rw [hx] at e1; rw [hy] at e2
  have e2 := e2.int_inv
  obtain ⟨ad, cap, hv, hcap⟩ := e1.ro_inv.slice
  have hsz := sizeB_spec hs
  refine ⟨sliced ad m.toNat rows.length cap sz, w, ?_, ext_refl w, .ro _ _ _ _ _ ?_⟩
  · simp only [execOp, hv, e2, Option.map_some, Option.map_none, Sem.run_bind, run_sliceAt_slice w t _ _ _ _ (elem_of ht), run_slice_l w t ad rows.length cap (elem_of ht) k m h0 (by omega), elem_eq ht, hsz w, Result.andThen_ok, Sem.run_pure]
  · have h := e1.ro_inv
    rw [hv] at h
    have := rows_cut h m.toNat rows.length h1 (Nat.le_refl _)
    rw [List.take_of_length_le (Nat.le_refl _), hr] at this
    exact this
theorem q_slro_hi {e sz : Nat} {fr : Bool} {rows rows' : List (List AV)} (hx : σ.ev x = .ro fr sz rows) (hy : σ.ev y = .int k m) (ht : C.P.underlying t = some (.slice e)) (hs : sizeB C.P e sz = true) (h0 : 0 ≤ m) (h1 : m.toNat ≤ rows.length) (hr : rows.take m.toNat = rows') : Qd C ⟨d, .slice t x none (some y) none, ty, pos, af, g⟩ σ (.ro fr sz rows') := qd_of fun γ a w hh he => by
  have e1 := he x (by simp [Op.operands])
  have e2 := he y (by simp [Op.operands])
  rw [hx] at e1; rw [hy] at e2
  have e2 := e2.int_inv
  obtain ⟨ad, cap, hv, hcap⟩ := e1.ro_inv.slice
  have hsz := sizeB_spec hs
  refine ⟨sliced ad 0 m.toNat cap sz, w, ?_, ext_refl w, .ro _ _ _ _ _ ?_⟩
  · simp only [execOp, hv, e2, Option.map_some, Option.map_none, Sem.run_bind, run_sliceAt_slice w t _ _ _ _ (elem_of ht), run_slice_h w t ad rows.length cap (elem_of ht) k m h0 (by omega), elem_eq ht, hsz w, Result.andThen_ok, Sem.run_pure]
  · have h := e1.ro_inv
    rw [hv] at h
    have := rows_cut h 0 m.toNat (Nat.zero_le _) h1
    rw [List.drop_zero, hr] at this
    exact this
theorem q_slro_lh {e sz : Nat} {fr : Bool} {rows rows' : List (List AV)} (hx : σ.ev x = .ro fr sz rows) (hy : σ.ev y = .int k m) (hz : σ.ev z = .int k' n) (ht : C.P.underlying t = some (.slice e)) (hs : sizeB C.P e sz = true) (h0 : 0 ≤ m) (h1 : m ≤ n) (h2 : n.toNat ≤ rows.length) (hr : (rows.take n.toNat).drop m.toNat = rows') : Qd C ⟨d, .slice t x (some y) (some z) none, ty, pos, af, g⟩ σ (.ro fr sz rows') := qd_of fun γ a w hh he => by
  have e1 := he x (by simp [Op.operands])
  have e2 := he y (by simp [Op.operands])
  have e3 := he z (by simp [Op.operands])
  rw [hx] at e1; rw [hy] at e2; rw [hz] at e3
  have e2 := e2.int_inv
  have e3 := e3.int_inv
  obtain ⟨ad, cap, hv, hcap⟩ := e1.ro_inv.slice
  have hsz := sizeB_spec hs
  refine ⟨sliced ad m.toNat n.toNat cap sz, w, ?_, ext_refl w, .ro _ _ _ _ _ ?_⟩
  · simp only [execOp, hv, e2, e3, Option.map_some, Option.map_none, Sem.run_bind, run_sliceAt_slice w t _ _ _ _ (elem_of ht), run_slice_lh w t ad rows.length cap (elem_of ht) k k' m n h0 h1 (by omega), elem_eq ht, hsz w, Result.andThen_ok, Sem.run_pure]
  · have h := e1.ro_inv
    rw [hv] at h
    have := rows_cut h m.toNat n.toNat (by omega) h2
    rw [hr] at this
    exact this

/-! variables of the program -/
theorem q_loadg {b o : Nat} {v : Value} {av : AV} (hx : σ.ev x = .gptr b o) (hG : ∀ w, C.G w → w.cell? ⟨b, o, none⟩ = some v) (hv : ∀ (w : World) N M γ, Rep w N M γ av v) (ht : scalB C.P t = true) : Qd C ⟨d, .load t x, ty, pos, af, g⟩ σ av := qd_of fun γ a w hh he => by
  have e1 := he x (by simp [Op.operands])
  rw [hx] at e1
  have h2 := e1.gptr_inv
  exact ⟨v, w, by simp [execOp, h2, Instr.loadAt, Instr.sureAddr, run_load_scal ht (hG w hh.glob)], ext_refl w, hv _ _ _ _⟩
theorem q_loadga {b o n : Nat} {vs : List Value} {avs : List AV} (hx : σ.ev x = .gptr b o) (hl : vs.length = n) (hG : ∀ w, C.G w → ∀ j v, vs[j]? = some v → w.cell? ⟨b, o + j, none⟩ = some v) (hal : vs.length = avs.length) (hv : ∀ (w : World) N M γ i (hi : i < avs.length) (hx : i < vs.length), Rep w N M γ avs[i] vs[i]) (ht : aggB C.P t n = true) :
    Qd C ⟨d, .load t x, ty, pos, af, g⟩ σ (.agg avs) := qd_of fun γ a w hh he => by
  have e1 := he x (by simp [Op.operands])
  rw [hx] at e1
  have h2 := e1.gptr_inv
  exact ⟨.agg vs.toArray, w, by simp [execOp, h2, Instr.loadAt, Instr.sureAddr, run_load_agg ht hl (hG w hh.glob)], ext_refl w, .agg _ _ _ hal (fun i hi hx => hv _ _ _ _ i hi hx)⟩

/-! closures -/
theorem q_mkfunc {f : FuncId} {cs : Array Operand} {l : List AV} (hl : cs.toList.map σ.ev = l) : Qd C ⟨d, .makeFunc (.func f) #[] cs, ty, pos, af, g⟩ σ (.clo f l) := qd_of fun γ a w hh he => by
  subst hl
  refine ⟨.func (.func f) #[] (cs.map a.eval), w, by simp [execOp, Instr.makeFunc], ext_refl w, ?_⟩
  have := Rep.clo (w := w) (N := C.N) (M := Mut γ σ.heap) (fun i => (γ i).1) f (cs.toList.map σ.ev) (cs.toList.map a.eval) (by simp) (fun i hi hx => by
    simp only [List.getElem_map]
    exact he _ (by simp [Op.operands]))
  have e : (cs.toList.map a.eval).toArray = cs.map a.eval := by apply Array.ext'; simp
  rw [e] at this
  exact this
theorem q_callclo {f : FuncId} {xs : Array Operand} {ts : Array TypeId} {caps as : List AV} {res : AV} (hx : σ.ev x = .clo f caps) (hc : CPure C.toGx f as res) (hcf : ∀ args w, (callFunc f args).run C.P w = .ok (.enter f args) w)
    (ha : AV.fzL σ.heap false (xs.toList.map σ.ev ++ caps) = as) (hfr : res.allFr = true) : Qd C ⟨d, .call { callee := .value x, args := xs, argTypes := ts }, ty, pos, af, g⟩ σ res := by
  intro γ σ1 a w s hh he
  have hhr : HR C γ σ.heap w := by rw [← hh]; exact s.toHR
  have hcl := s.ev x
  rw [he x (by simp [Op.operands, Call.operands]), hh, hx] at hcl
  obtain ⟨cv, hcv, hcll, hcr⟩ := hcl.clo_inv
  have hargs : ∀ y ∈ xs, Rep w C.N (Mut γ σ.heap) (fun i => (γ i).1) (σ.ev y) (a.eval y) := fun y hy => by
    have := s.ev y
    rw [he y (by simp only [Op.operands, Call.operands]; exact Array.mem_append.2 (.inr hy)), hh] at this
    exact this
  have hall : ∀ i (h : i < (xs.toList.map σ.ev ++ caps).length) (h' : i < ((xs.map a.eval).toList ++ cv).length), Rep w C.N (Mut γ σ.heap) (fun i => (γ i).1) (xs.toList.map σ.ev ++ caps)[i] ((xs.map a.eval).toList ++ cv)[i] := fun i h h' => by
    by_cases hi : i < xs.size
    · rw [List.getElem_append_left (by simpa using hi), List.getElem_append_left (by simpa using hi)]
      simpa using hargs _ (Array.getElem_mem hi)
    · have e1 : (xs.toList.map σ.ev).length = xs.size := by simp
      have e2 : (xs.map a.eval).toList.length = xs.size := by simp
      rw [List.getElem_append_right (by omega), List.getElem_append_right (by omega)]
      simp only [e1, e2]
      exact hcr _ _ _
  have hlen : ((xs.map a.eval).toList ++ cv).length = as.length := by rw [← ha, fzL_length]; simp [hcll]
  have hcall := hc w ((xs.map a.eval).toList ++ cv) hhr.glob (Nat.le_trans C.hn hhr.chg.size) hlen (fun i hi hi' => by
    subst ha
    have hi2 : i < (xs.toList.map σ.ev ++ caps).length := by rw [fzL_length] at hi; exact hi
    rw [fzL_get _ _ _ _ hi hi2]
    exact (hall i hi2 hi').frz hhr false (fun h => by cases h) (fun h => by cases h))
  unfold Oper.wp
  have hr : (execOp a.eval ⟨d, .call { callee := .value x, args := xs, argTypes := ts }, ty, pos, af, g⟩).run C.P w = .ok (.enter f ((xs.map a.eval) ++ cv.toArray)) w := by
    simp [execOp, resolve, hcv, Deferred.ofValue, invoke, hcf]
  rw [hr, Oper.upon_enter]
  have e3 : ((xs.map a.eval).toList ++ cv).toArray = (xs.map a.eval) ++ cv.toArray := by apply Array.ext'; simp
  rw [e3] at hcall
  refine hcall.mono ?_
  rintro e w' ⟨v, rfl, hx', hv⟩
  refine ⟨v, rfl, hx', ?_⟩
  exact hv.fresh hfr hhr.chg.size (fun b hb hm => by
    have := Mut.lt (C := C) (σ := σ) hhr hm
    omega) _
end

/-! walks over texts -/
def runeAt (u : List UInt8) (p : Nat) : Nat := (Utf8.decode ⟨u.toArray⟩ p).1
def runeLen (u : List UInt8) (p : Nat) : Nat := (Utf8.decode ⟨u.toArray⟩ p).2
section
variable {C : Cx} {σ : St} {ty : TypeId} {pos : String} {af : Array Edge} {g : Option (Nat × Bool)} {x y : Operand} {t : TypeId} {d : Nat}
theorem w_range (id : Nat) {u : List UInt8} (hx : σ.ev x = .str u) (ht : C.P.underlying t = some .string) (hd : Nat.blt d C.n = true) (hpin : C.pin id = none) : Wr C ⟨some d, .range t x, ty, pos, af, g⟩ σ (((σ.kill id).set id (some (.iter u 0))).put d (.ptr id 0)) := wr_of fun γ a w s => by
  have e1 := s.ev x
  rw [hx] at e1
  have e1 := e1.str_inv
  have hrun : (execOp a.eval ⟨some d, .range t x, ty, pos, af, g⟩).run C.P w = .ok (.value (.pointer (some ⟨w.heap.size, 0, none⟩))) (w.alloc (.stringIter ⟨u.toArray⟩ 0)) := by
    simp [execOp, e1, run_range_string w t _ ht, World.iter]
  refine ⟨_, _, hrun, .inl ⟨_, rfl, upd γ id (.pointer (some ⟨w.heap.size, 0, none⟩), undef), ?_⟩⟩
  have he : Ext w (w.alloc (.stringIter ⟨u.toArray⟩ 0)) := (Below.refl _ w).alloc (Nat.le_refl _) _
  have s' := s.renew (w' := w.alloc (.stringIter ⟨u.toArray⟩ 0)) none id (.pointer (some ⟨w.heap.size, 0, none⟩), undef) (.iter u 0) hpin (fun i h => by cases h) rfl rfl rfl (by simp) (fun b hb _ => he.block b hb) (fun b hb => by
    unfold Blk at hb
    rw [upd_same] at hb
    rcases hb with hb | hb
    · simp [vblock] at hb; subst hb; exact ⟨by simp, .inl (Nat.le_refl _)⟩
    · cases hb) (fun b _ h => by cases h) (fun M' _ => ⟨w.heap.size, by rw [upd_same], heap_alloc_new w _⟩)
  exact s'.put (some d) (fun k hk => by cases hk; exact blt_lt hd) (.ptr _ _ _ _ (by simp only [upd_same]))
theorem w_next {id p : Nat} {u : List UInt8} (hx : σ.ev x = .ptr id 0) (ho : σ.heap id = some (.iter u p)) (hp : p < u.length) (hd : Nat.blt d C.n = true) : Wr C ⟨some d, .next x true, ty, pos, af, g⟩ σ ((σ.set id (some (.iter u (p + runeLen u p)))).put d (.tup [.bool true, .int .i64 p, .int .i32 (runeAt u p)])) := wr_of fun γ a w s => by
  have e1 := s.ev x
  rw [hx] at e1
  obtain ⟨b, h1, h2⟩ := e1.ptr_inv
  obtain ⟨b', hg, hh⟩ := s.obj id _ ho
  rw [hg] at h1
  cases h1
  have hrun : (execOp a.eval ⟨some d, .next x true, ty, pos, af, g⟩).run C.P w = .ok (.value (.tuple #[.bool true, .int .i64 p, .int .i32 (runeAt u p)])) (w.iterAt b ⟨u.toArray⟩ (p + runeLen u p)) := by
    simp only [execOp, h2, Sem.run_bind, Lib.run_next_any_at w b ⟨u.toArray⟩ p _ hh (by rw [sizeMk]; exact hp), Result.andThen_ok, Sem.run_pure]
    rfl
  have hne : ∀ k, k ≠ b → (w.iterAt b ⟨u.toArray⟩ (p + runeLen u p)).heap[k]? = w.heap[k]? := fun k hk => Array.getElem?_setIfInBounds_ne (Ne.symm hk)
  refine ⟨_, _, hrun, .inl ⟨_, rfl, γ, ?_⟩⟩
  have s' := s.update (w' := w.iterAt b ⟨u.toArray⟩ (p + runeLen u p)) ho (.iter u (p + runeLen u p)) rfl rfl rfl (by simp [World.iterAt]) (fun k _ hk => hne k (fun e => hk (.inl (by rw [e, hg]; rfl)))) ⟨b, hg, Lib.iterAt_heap w b _ _ _ hh⟩
  refine s'.put (some d) (fun k hk => by cases hk; exact blt_lt hd) (.tup _ _ [.bool true, .int .i64 p, .int .i32 (runeAt u p)] rfl (fun i hi hx => ?_))
  match i, hi with
  | 0, _ => exact .bool _ _
  | 1, _ => exact .int _ _ _
  | 2, _ => exact .int _ _ _
theorem q_nextend {d : Option Nat} {id p : Nat} {u : List UInt8} (hx : σ.ev x = .ptr id 0) (ho : σ.heap id = some (.iter u p)) (hp : ¬ p < u.length) : Qd C ⟨d, .next x true, ty, pos, af, g⟩ σ (.tup [.bool false]) := qd_of fun γ a w hh he => by
  have e1 := he x (by simp [Op.operands])
  rw [hx] at e1
  obtain ⟨b, h1, h2⟩ := e1.ptr_inv
  obtain ⟨b', hg, hhp⟩ := hh.obj id _ ho
  rw [hg] at h1
  cases h1
  refine ⟨.tuple #[.bool false], w, ?_, ext_refl w, .tup _ _ [.bool false] rfl (fun i hi hx => ?_)⟩
  · simp only [execOp, h2, Sem.run_bind, Lib.run_next_end_at w b ⟨u.toArray⟩ p _ hhp (by rw [sizeMk]; exact hp), Result.andThen_ok, Sem.run_pure]
  · match i, hi with
    | 0, _ => exact .bool _ _
end

/-! what is no longer written -/
section
variable {C : Cx}
theorem SR.drop1 {γ : Gh} {σ : St} {a : Act} {w : World} (s : SR C γ σ a w) (id : Nat) : SR C γ ((σ.kill id).set id none) a w ∧ ∀ b, Mut γ ((σ.kill id).set id none).heap b → Mut γ σ.heap b := by
  have live : ∀ {i : Nat} {p : AObj}, ((σ.kill id).set id none).heap i = some p → i ≠ id ∧ ∃ p', σ.heap i = some p' ∧ p = p'.kill id := fun h => by
    rcases set_heap h with ⟨_, h⟩ | ⟨h1, h2⟩
    · cases h
    · obtain ⟨_, o', h4, h5⟩ := kill_heap h2
      exact ⟨h1, o', h4, h5⟩
  have sub : ∀ b, Mut γ ((σ.kill id).set id none).heap b → Mut γ σ.heap b := fun b ⟨i, p, h1, h2⟩ => by
    obtain ⟨_, p', h3, _⟩ := live h1
    exact ⟨i, p', h3, h2⟩
  have same : upd γ id (γ id) = γ := by
    funext i
    by_cases h : i = id
    · rw [h, upd_same]
    · rw [upd_ne _ _ h]
  refine ⟨{ obj := fun i p h => ?_, disj := fun i i' p p' b h h' hb hb' => ?_, two := fun i p b h => ?_, lt := fun i p b h => ?_, chg := s.chg, glob := s.glob, pins := fun i p v hp h => ?_, env := fun k => ?_, size := s.size, defers := s.defers }, sub⟩
  · obtain ⟨hne, p', h3, rfl⟩ := live h
    have := (s.obj i p' h3).killed (t := id) (u := γ id) hne (fun _ _ _ => rfl) (fun b _ h => sub b h) (fun _ _ => rfl)
    rw [same] at this
    exact this
  · obtain ⟨_, q, h3, _⟩ := live h
    obtain ⟨_, q', h3', _⟩ := live h'
    exact s.disj i i' q q' b h3 h3' hb hb'
  · obtain ⟨_, q, h3, _⟩ := live h
    exact s.two i q b h3
  · obtain ⟨_, q, h3, _⟩ := live h
    exact s.lt i q b h3
  · obtain ⟨_, q, h3, _⟩ := live h
    exact s.pins i q v hp h3
  · have := kill_rep (t := id) (u := γ id) (s.env k) (fun _ _ _ => rfl) (fun b _ h => sub b h)
    rw [same] at this
    exact this
/-- a slice that is no longer written -/
theorem weak_freezeF {σ : St} (fr : Bool) (slot id : Nat) {e sz : Nat} {rows : List (List AV)} (hx : σ.env slot = .sl id) (ho : σ.heap id = some (.rows e sz rows)) (hn : Nat.blt slot C.n = true) (hM0 : fr = true → ∀ b, ¬ C.M0 b) : Weak C σ (((σ.kill id).set id none).put slot (.ro fr sz rows)) := fun γ a w s => by
  obtain ⟨s', sub⟩ := s.drop1 id
  refine ⟨γ, ?_⟩
  have e1 := s.env slot
  rw [hx] at e1
  have h2 := e1.frzM (M' := Mut γ ((σ.kill id).set id none).heap) (N' := C.N) s.toHR (HS := fun i => if i = id then σ.heap id else none) (fun i o h => by
    by_cases hi : i = id
    · simp only [hi, if_true] at h ⊢; exact h
    · simp only [hi, if_false] at h; cases h) sub (fun i o b h hb hm => by
    by_cases hi : i = id
    · subst hi
      obtain ⟨j, p, h1, h3⟩ := hm
      rcases set_heap h1 with ⟨_, h1⟩ | ⟨hne, h1⟩
      · cases h1
      · obtain ⟨_, o', h4, _⟩ := kill_heap h1
        exact hne (s.disj j i o' _ b h4 ho h3 (.inl hb))
    · simp only [hi, if_false] at h; cases h) fr (fun _ => Nat.le_refl _) (fun hf i o b _ _ => hM0 hf b)
  have h3 : (AV.sl id).fz (fun i => if i = id then σ.heap id else none) fr = .ro fr sz rows := by
    rw [AV.fz]; simp only [if_true, ho]
  rw [h3] at h2
  have hlt := blt_lt hn
  have hput : a = a.put (some slot) (a.tmps.getD slot undef) := by
    have h2 : a.tmps.setIfInBounds slot (a.tmps.getD slot undef) = a.tmps := by
      apply Array.ext (by simp)
      intro i h1 h2
      rw [Array.getElem_setIfInBounds h2]
      split
      · rename_i h; subst h
        rw [Array.getD_eq_getD_getElem?, Array.getElem?_eq_getElem h2]; rfl
      · rfl
    show a = { a with tmps := a.tmps.setIfInBounds slot (a.tmps.getD slot undef) }
    rw [h2]
  rw [hput]
  refine s'.put (some slot) (fun k hk => by cases hk; exact hlt) ?_
  exact h2.mono (fun _ _ _ => rfl) (fun _ _ h => h) (Nat.le_refl _) _ (fun i hi => by cases hi)
theorem weak_freeze {σ : St} (slot id : Nat) {e sz : Nat} {rows : List (List AV)} (hx : σ.env slot = .sl id) (ho : σ.heap id = some (.rows e sz rows)) (hn : Nat.blt slot C.n = true) : Weak C σ (((σ.kill id).set id none).put slot (.ro false sz rows)) := weak_freezeF false slot id hx ho hn (fun h => by cases h)

/-! a struct with a slice of its own: apart, together -/
theorem ObjRep.turn {w : World} {N : Nat} {M M' : Nat → Prop} {γ γ' : Gh} {id t : Nat} {o : AObj} (h : ObjRep w N M γ id o) (hid : γ' id = γ id) (hne : ∀ i, i ≠ t → (γ' i).1 = (γ i).1) (hM : ∀ b, b < w.heap.size → M' b → M b) : ObjRep w N M' γ' id (o.kill t) := by
  cases o with
  | box cells =>
    obtain ⟨b, c, e, h1, h2, h3, h4⟩ := h
    refine ⟨b, c, e, hid.trans h1, h2, by rw [List.length_map]; exact h3, fun j hj => ?_⟩
    obtain ⟨v, hv, hr⟩ := h4 j (by simpa using hj)
    refine ⟨v, hv, ?_⟩
    rw [List.getElem_map]
    unfold AV.kill
    cases hm : (cells[j]'(by simpa using hj)).ment t with
    | true => exact .any _ _
    | false => exact hr.mono (fun _ _ _ => rfl) hM (Nat.le_refl _) _ (fun i hi => hne i (fun e => by rw [e, hm] at hi; cases hi))
  | rows e sz rows =>
    obtain ⟨v, cs, h1, r⟩ := h
    exact ⟨v, cs, hid.trans h1, r⟩
  | pts e l =>
    obtain ⟨v, cs, h1, h2, r⟩ := h
    refine ⟨v, cs, hid.trans h1, h2, fun i hi => ?_⟩
    obtain ⟨hv, pv, a1, a2, a3, a4, a5, a6⟩ := r i hi
    exact ⟨hv, pv, a1, a2, a3, a4, a5.mono (fun b o v hok hc => still_mono hM (fun _ _ _ => rfl) (Nat.le_refl _) hok hc), a6.mono (fun b o v hok hc => still_mono hM (fun _ _ _ => rfl) (Nat.le_refl _) hok hc)⟩
  | bld e eb l =>
    obtain ⟨b, v, cs, p, h1, r⟩ := h
    exact ⟨b, v, cs, p, hid.trans h1, r⟩
  | iter s p =>
    obtain ⟨b, h1, r⟩ := h
    exact ⟨b, hid.trans h1, r⟩
  | nest cells k e sz rows =>
    obtain ⟨b, c, t', v, cs, h1, r⟩ := h
    exact ⟨b, c, t', v, cs, hid.trans h1, r⟩
theorem kill_turn {w : World} {N : Nat} {M M' : Nat → Prop} {γ γ' : Gh} {t : Nat} {v : AV} {x : Value} (h : Rep w N M (fun i => (γ i).1) v x) (hne : ∀ i, i ≠ t → (γ' i).1 = (γ i).1) (hM : ∀ b, b < w.heap.size → M' b → M b) : Rep w N M' (fun i => (γ' i).1) (v.kill t) x := by
  unfold AV.kill
  cases hm : v.ment t with
  | true => exact .any _ _
  | false => exact h.mono (fun _ _ _ => rfl) hM (Nat.le_refl _) _ (fun i hi => hne i (fun e => by rw [e, hm] at hi; cases hi))
def AV.flatA : AV → Bool
  | .any | .bool _ | .int _ _ | .str _ => true
  | _ => false
theorem Rep.flatA {w : World} {N : Nat} {M : Nat → Prop} {γ : Nat → Value} {v : AV} {x : Value} (h : Rep w N M γ v x) (h1 : v.flatA = true) : FRep v x := by
  cases h with
  | any => exact .any _
  | bool => exact .bool _
  | int => exact .int _ _
  | str => exact .str _
  | _ => cases h1
theorem weak_unnest {σ : St} (id id' : Nat) {cells : List AV} {k e sz : Nat} {rows : List (List AV)} (ho : σ.heap id = some (.nest cells k e sz rows)) (hne : id ≠ id') (hpin : C.pin id' = none) :
    Weak C σ (((σ.kill id').set id' (some (.rows e sz rows))).set id (some (.box (cells.set k (.sl id'))))) := fun γ a w s => by
  obtain ⟨b, c, t, v, cs, hg, hh, hcs, hck, hcr, hown, hs, hl, hr⟩ := s.obj id _ ho
  let γ' : Gh := upd (upd γ id (.pointer (some ⟨b, 0, none⟩), undef)) id' (v, undef)
  have g1 : γ' id = (.pointer (some ⟨b, 0, none⟩), undef) := by show upd _ _ _ _ = _; rw [upd_ne _ _ hne, upd_same]
  have g2 : γ' id' = (v, undef) := upd_same _ _ _
  have g3 : ∀ i, i ≠ id → i ≠ id' → γ' i = γ i := fun i h1 h2 => by show upd _ _ _ _ = _; rw [upd_ne _ _ h2, upd_ne _ _ h1]
  have g4 : ∀ i, i ≠ id' → (γ' i).1 = (γ i).1 := fun i h => by
    by_cases hi : i = id
    · subst hi; rw [g1, hg]
    · rw [g3 i hi h]
  have bid : ∀ {x : Nat}, Blk γ' id x → x = b ∧ Blk γ id x := fun h => by
    unfold Blk at h ⊢
    rw [g1] at h
    rcases h with h | h
    · cases h; exact ⟨rfl, .inl (by rw [hg]; rfl)⟩
    · cases h
  have bid' : ∀ {x : Nat}, Blk γ' id' x → vblock v = some x ∧ Blk γ id x := fun h => by
    unfold Blk at h ⊢
    rw [g2] at h
    rcases h with h | h
    · exact ⟨h, .inr (by rw [hg]; exact h)⟩
    · cases h
  have hbv : ∀ x, vblock v = some x → x ≠ b := fun x hx e => s.two id _ b ho (by rw [hg]; rfl) (by rw [hg, ← e]; exact hx)
  have live : ∀ {i : Nat} {p : AObj}, (((σ.kill id').set id' (some (.rows e sz rows))).set id (some (.box (cells.set k (.sl id'))))).heap i = some p → (i = id ∧ p = .box (cells.set k (.sl id'))) ∨ (i ≠ id ∧ i = id' ∧ p = .rows e sz rows) ∨ (i ≠ id ∧ i ≠ id' ∧ ∃ p', σ.heap i = some p' ∧ p = p'.kill id') := fun h => by
    rcases set_heap h with ⟨h1, h2⟩ | ⟨h1, h2⟩
    · cases h2; exact .inl ⟨h1, rfl⟩
    · rcases set_heap h2 with ⟨h3, h4⟩ | ⟨h3, h4⟩
      · cases h4; exact .inr (.inl ⟨h1, h3, rfl⟩)
      · obtain ⟨_, o', h5, h6⟩ := kill_heap h4
        exact .inr (.inr ⟨h1, h3, o', h5, h6⟩)
  have back : ∀ {i : Nat} {p : AObj}, (((σ.kill id').set id' (some (.rows e sz rows))).set id (some (.box (cells.set k (.sl id'))))).heap i = some p → ∀ {x : Nat}, Blk γ' i x → ∃ j q, σ.heap j = some q ∧ Blk γ j x ∧ (j = i ∨ (i = id' ∧ j = id)) := fun {i p} h {x} hb => by
    rcases live h with ⟨rfl, _⟩ | ⟨_, rfl, _⟩ | ⟨h1, h2, p', hp', _⟩
    · exact ⟨_, _, ho, (bid hb).2, .inl rfl⟩
    · exact ⟨_, _, ho, (bid' hb).2, .inr ⟨rfl, rfl⟩⟩
    · refine ⟨_, _, hp', ?_, .inl rfl⟩
      unfold Blk at hb ⊢
      rw [g3 _ h1 h2] at hb
      exact hb
  have sub : ∀ x, Mut γ' (((σ.kill id').set id' (some (.rows e sz rows))).set id (some (.box (cells.set k (.sl id'))))).heap x → Mut γ σ.heap x := fun x ⟨i, p, h1, h2⟩ => by
    obtain ⟨j, q, h3, h4, _⟩ := back h1 h2
    exact ⟨j, q, h3, h4⟩
  refine ⟨γ', { obj := fun i p h => ?_, disj := fun i i' p p' x h h' hb hb' => ?_, two := fun i p x h hx => ?_, lt := fun i p x h hb => ?_, chg := s.chg, glob := s.glob, pins := fun i p u hp h => ?_, env := fun j => kill_turn (s.env j) g4 (fun x _ h => sub x h), size := s.size, defers := s.defers }⟩
  · rcases live h with ⟨rfl, rfl⟩ | ⟨_, rfl, rfl⟩ | ⟨h1, h2, p', hp', rfl⟩
    · refine ⟨b, c, t, g1, hh, by simpa using hcs, fun j hj => ?_⟩
      simp only [List.length_set] at hj
      obtain ⟨u, hu, hur⟩ := hcr j hj
      by_cases hjk : k = j
      · subst hjk
        refine ⟨v, hck, ?_⟩
        rw [List.getElem_set_self]
        have := Rep.sl (w := w) (N := C.N) (M := Mut γ' (((σ.kill id').set id' (some (.rows e sz rows))).set i (some (.box (cells.set k (.sl id'))))).heap) (fun i => (γ' i).1) id'
        simp only [g2] at this
        exact this
      · refine ⟨u, hu, ?_⟩
        rw [List.getElem_set_ne hjk]
        exact hur.rep
    · exact ⟨v, cs, g2, hown, hs, hl, hr⟩
    · exact (s.obj i p' hp').turn (g3 i h1 h2) g4 (fun x _ h => sub x h)
  · obtain ⟨j, q, h3, h4, h5⟩ := back h hb
    obtain ⟨j', q', h3', h4', h5'⟩ := back h' hb'
    have hj := s.disj j j' q q' x h3 h3' h4 h4'
    rcases live h with ⟨rfl, _⟩ | ⟨_, rfl, _⟩ | ⟨h1, h2, _⟩ <;> rcases live h' with ⟨rfl, _⟩ | ⟨_, rfl, _⟩ | ⟨h1', h2', _⟩
    · rfl
    · exact absurd (bid hb).1 (hbv x (bid' hb').1)
    · rcases h5 with rfl | ⟨h5, _⟩
      · rcases h5' with rfl | ⟨h5', _⟩
        · exact hj
        · exact absurd h5' h2'
      · exact absurd h5 hne
    · exact absurd (bid hb').1 (hbv x (bid' hb).1)
    · rfl
    · rcases h5' with rfl | ⟨h5', _⟩
      · rcases h5 with rfl | ⟨_, rfl⟩
        · exact hj
        · exact absurd hj.symm h1'
      · exact absurd h5' h2'
    · rcases h5 with rfl | ⟨h5, _⟩
      · rcases h5' with rfl | ⟨h5', _⟩
        · exact hj
        · exact absurd h5' hne
      · exact absurd h5 h2
    · rcases h5 with rfl | ⟨h5, _⟩
      · rcases h5' with rfl | ⟨_, rfl⟩
        · exact hj
        · exact absurd hj h1
      · exact absurd h5 h2
    · rcases h5 with rfl | ⟨h5, _⟩
      · rcases h5' with rfl | ⟨h5', _⟩
        · exact hj
        · exact absurd h5' h2'
      · exact absurd h5 h2
  · rcases live h with ⟨rfl, _⟩ | ⟨_, rfl, _⟩ | ⟨h1, h2, p', hp', _⟩
    · rw [g1]; exact fun h => by cases h
    · rw [g2]; exact fun h => by cases h
    · rw [g3 i h1 h2] at hx ⊢; exact s.two i p' x hp' hx
  · obtain ⟨j, q, h3, h4, _⟩ := back h hb
    exact s.lt j q x h3 h4
  · rcases live h with ⟨rfl, _⟩ | ⟨_, rfl, _⟩ | ⟨h1, h2, p', hp', _⟩
    · rw [g4 _ hne]; exact s.pins _ _ u hp ho
    · rw [hpin] at hp; cases hp
    · rw [g3 i h1 h2]; exact s.pins i p' u hp hp'
theorem weak_nest {σ : St} (id id' k : Nat) {cells : List AV} {e sz : Nat} {rows : List (List AV)} (ho : σ.heap id = some (.box cells)) (hk : cells[k]? = some (.sl id')) (ho' : σ.heap id' = some (.rows e sz rows)) (hne : id ≠ id') (hf : (cells.set k .any).all AV.flatA = true) :
    Weak C σ (((σ.kill id').set id (some (.nest (cells.set k .any) k e sz rows)))) := fun γ a w s => by
  obtain ⟨b, c, t, hg, hh, hcs, hcr⟩ := s.obj id _ ho
  obtain ⟨v, cs, hg', hown, hs, hl, hr⟩ := s.obj id' _ ho'
  obtain ⟨hkl, hke⟩ := List.getElem?_eq_some_iff.1 hk
  let γ' : Gh := upd γ id (.pointer (some ⟨b, 0, none⟩), v)
  have g1 : γ' id = (.pointer (some ⟨b, 0, none⟩), v) := upd_same _ _ _
  have g3 : ∀ i, i ≠ id → γ' i = γ i := fun i h1 => upd_ne _ _ h1
  have g4 : ∀ i, i ≠ id' → (γ' i).1 = (γ i).1 := fun i h => by
    by_cases hi : i = id
    · subst hi; rw [g1, hg]
    · rw [g3 i hi]
  have bid : ∀ {x : Nat}, Blk γ' id x → (x = b ∧ Blk γ id x) ∨ (vblock v = some x ∧ Blk γ id' x) := fun h => by
    unfold Blk at h ⊢
    rw [g1] at h
    rcases h with h | h
    · cases h; exact .inl ⟨rfl, .inl (by rw [hg]; rfl)⟩
    · exact .inr ⟨h, .inl (by rw [hg']; exact h)⟩
  have live : ∀ {i : Nat} {p : AObj}, (((σ.kill id').set id (some (.nest (cells.set k .any) k e sz rows)))).heap i = some p → (i = id ∧ p = .nest (cells.set k .any) k e sz rows) ∨ (i ≠ id ∧ i ≠ id' ∧ ∃ p', σ.heap i = some p' ∧ p = p'.kill id') := fun h => by
    rcases set_heap h with ⟨h1, h2⟩ | ⟨h1, h2⟩
    · cases h2; exact .inl ⟨h1, rfl⟩
    · obtain ⟨h3, o', h5, h6⟩ := kill_heap h2
      exact .inr ⟨h1, h3, o', h5, h6⟩
  have back : ∀ {i : Nat} {p : AObj}, (((σ.kill id').set id (some (.nest (cells.set k .any) k e sz rows)))).heap i = some p → ∀ {x : Nat}, Blk γ' i x → ∃ j q, σ.heap j = some q ∧ Blk γ j x ∧ (j = i ∨ (i = id ∧ j = id')) ∧ (i ≠ id → j ≠ id') := fun {i p} h {x} hb => by
    rcases live h with ⟨rfl, _⟩ | ⟨h1, h2, p', hp', _⟩
    · rcases bid hb with ⟨_, h⟩ | ⟨_, h⟩
      · exact ⟨_, _, ho, h, .inl rfl, fun h => absurd rfl h⟩
      · exact ⟨_, _, ho', h, .inr ⟨rfl, rfl⟩, fun h => absurd rfl h⟩
    · refine ⟨_, _, hp', ?_, .inl rfl, fun _ => h2⟩
      unfold Blk at hb ⊢
      rw [g3 _ h1] at hb
      exact hb
  have sub : ∀ x, Mut γ' (((σ.kill id').set id (some (.nest (cells.set k .any) k e sz rows)))).heap x → Mut γ σ.heap x := fun x ⟨i, p, h1, h2⟩ => by
    obtain ⟨j, q, h3, h4, _⟩ := back h1 h2
    exact ⟨j, q, h3, h4⟩
  have hck : c[k]? = some v := by
    obtain ⟨u, hu, hur⟩ := hcr k hkl
    rw [hke] at hur
    have := hur.sl_inv
    rw [hg'] at this
    rw [hu, this]
  refine ⟨γ', { obj := fun i p h => ?_, disj := fun i i' p p' x h h' hb hb' => ?_, two := fun i p x h hx => ?_, lt := fun i p x h hb => ?_, chg := s.chg, glob := s.glob, pins := fun i p u hp h => ?_, env := fun j => kill_turn (s.env j) g4 (fun x _ h => sub x h), size := s.size, defers := s.defers }⟩
  · rcases live h with ⟨rfl, rfl⟩ | ⟨h1, h2, p', hp', rfl⟩
    · refine ⟨b, c, t, v, cs, g1, hh, by simpa using hcs, hck, fun j hj => ?_, hown, hs, hl, hr⟩
      simp only [List.length_set] at hj
      obtain ⟨u, hu, hur⟩ := hcr j hj
      have hfj := List.all_eq_true.1 hf _ (List.getElem_mem (l := cells.set k .any) (by simpa using hj))
      refine ⟨u, hu, ?_⟩
      by_cases hjk : k = j
      · subst hjk
        rw [List.getElem_set_self]; exact .any _
      · rw [List.getElem_set_ne hjk] at hfj ⊢
        exact hur.flatA hfj
    · exact (s.obj i p' hp').turn (g3 i h1) g4 (fun x _ h => sub x h)
  · obtain ⟨j, q, h3, h4, h5, h6⟩ := back h hb
    obtain ⟨j', q', h3', h4', h5', h6'⟩ := back h' hb'
    have hj := s.disj j j' q q' x h3 h3' h4 h4'
    by_cases hi : i = id <;> by_cases hi' : i' = id
    · rw [hi, hi']
    · have := h6' hi'
      rcases h5 with rfl | ⟨_, rfl⟩
      · rcases h5' with rfl | ⟨h5', _⟩
        · exact hj
        · exact absurd h5' hi'
      · exact absurd hj.symm this
    · have := h6 hi
      rcases h5' with rfl | ⟨_, rfl⟩
      · rcases h5 with rfl | ⟨h5, _⟩
        · exact hj
        · exact absurd h5 hi
      · exact absurd hj this
    · rcases h5 with rfl | ⟨h5, _⟩
      · rcases h5' with rfl | ⟨h5', _⟩
        · exact hj
        · exact absurd h5' hi'
      · exact absurd h5 hi
  · rcases live h with ⟨rfl, _⟩ | ⟨h1, h2, p', hp', _⟩
    · rw [g1] at hx ⊢
      cases hx
      intro h
      exact hne (s.disj _ _ _ _ b ho ho' (.inl (by rw [hg]; rfl)) (.inl (by rw [hg']; exact h)))
    · rw [g3 i h1] at hx ⊢; exact s.two i p' x hp' hx
  · obtain ⟨j, q, h3, h4, _⟩ := back h hb
    exact s.lt j q x h3 h4
  · rcases live h with ⟨rfl, _⟩ | ⟨h1, h2, p', hp', _⟩
    · rw [g4 _ hne]; exact s.pins _ _ u hp ho
    · rw [g3 i h1]; exact s.pins i p' u hp hp'
end
end Go.Proofs.YtignjjnflcpiiaaDoor
