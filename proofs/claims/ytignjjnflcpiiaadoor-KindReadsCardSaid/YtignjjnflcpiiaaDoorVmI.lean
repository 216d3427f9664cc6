/- The writing operations, one rule each. -/
import Derived.Test.YtignjjnflcpiiaaDoorVmH
set_option linter.unusedVariables false
set_option linter.unusedSimpArgs false
namespace Go.Proofs.YtignjjnflcpiiaaDoor
open Go.RowKit

def AV.cl : AV → List AV
  | .agg l => l
  | v => [v]
def storable (H : Heap) : AV → Bool
  | .sl id => match H id with
    | some (.rows _ _ _) | some (.pts _ _) => true
    | _ => false
  | .agg l => l.all AV.one
  | v => v.one
theorem cl_one {v : AV} (h : v.one = true) : v.cl = [v] := by cases v <;> first | rfl | cases h
theorem Rep.cellsOf {C : Cx} {γ : Gh} {H : Heap} {w : World} (hh : HR C γ H w) {v : AV} {x : Value} (h : Rep w C.N (Mut γ H) (fun i => (γ i).1) v x) (hs : storable H v = true) :
    ∃ xs : List Value, x.cells = xs.toArray ∧ xs.length = v.cl.length ∧ (∀ i (h : i < v.cl.length) (h' : i < xs.length), Rep w C.N (Mut γ H) (fun i => (γ i).1) v.cl[i] xs[i]) ∧ ∀ y ∈ xs, y.oneCell' = true := by
  have one : v.one = true → ∃ xs : List Value, x.cells = xs.toArray ∧ xs.length = v.cl.length ∧ (∀ i (h : i < v.cl.length) (h' : i < xs.length), Rep w C.N (Mut γ H) (fun i => (γ i).1) v.cl[i] xs[i]) ∧ ∀ y ∈ xs, y.oneCell' = true := by
    intro h1
    obtain ⟨h2, h3⟩ := h.one h1
    refine ⟨[x], h2, by rw [cl_one h1]; rfl, fun i hi hx => ?_, fun y hy => by simp at hy; rw [hy]; exact h3⟩
    have : i = 0 := by simpa using hx
    subst this
    simp only [cl_one h1, List.getElem_cons_zero]
    exact h
  cases v with
  | agg l =>
    obtain ⟨xs, hx, hl, hr⟩ := h.agg_inv
    subst hx
    refine ⟨xs, rfl, hl, hr, fun y hy => ?_⟩
    obtain ⟨i, hi, rfl⟩ := List.mem_iff_getElem.1 hy
    exact ((hr i (by omega) hi).one (List.all_eq_true.1 hs _ (List.getElem_mem _))).2
  | sl id =>
    have hx := h.sl_inv
    have : ∃ b n c, x = .slice b n c := by
      simp only [storable] at hs
      cases ho : H id with
      | none => rw [ho] at hs; cases hs
      | some o =>
        rw [ho] at hs
        cases o with
        | rows e sz rows =>
          obtain ⟨u, cs, hg, hown, _⟩ := hh.obj id _ ho
          rcases hown.2 with ⟨rfl, h0⟩ | ⟨g, cap, cur, rfl, _⟩ <;> exact ⟨_, _, _, by rw [hx, hg]⟩
        | pts e l =>
          obtain ⟨u, cs, hg, hown, _⟩ := hh.obj id _ ho
          rcases hown.2 with ⟨rfl, h0⟩ | ⟨g, cap, cur, rfl, _⟩ <;> exact ⟨_, _, _, by rw [hx, hg]⟩
        | _ => cases hs
    obtain ⟨b, n, c, rfl⟩ := this
    refine ⟨[.slice b n c], rfl, rfl, fun i hi hx' => ?_, fun y hy => by simp at hy; rw [hy]; rfl⟩
    have : i = 0 := by simpa using hx'
    subst this
    exact h
  | _ => exact one hs

section
variable {C : Cx} {σ : St} {ty : TypeId} {pos : String} {af : Array Edge} {g : Option (Nat × Bool)} {x y : Operand} {t : TypeId} {d : Nat}
theorem wr_of {o : Oper} {σ' : St} (h : ∀ γ (a : Act) (w : World), SR C γ σ a w → ∃ n w', (execOp a.eval o).run C.P w = .ok n w' ∧ ((∃ v, n = .value v ∧ ∃ γ', SR C γ' σ' (a.put o.dst v) w') ∨ (n = .skip ∧ ∃ γ', SR C γ' σ' (a.put o.dst undef) w'))) : Wr C o σ σ' := by
  intro γ a w s
  obtain ⟨n, w', hr, h⟩ := h γ a w s
  unfold Oper.wp
  rw [hr]
  rcases h with ⟨v, rfl, γ', s'⟩ | ⟨rfl, γ', s'⟩
  · exact ⟨γ', s'⟩
  · exact ⟨γ', s'⟩

/-- a new block of the frame's own -/
theorem SR.box {γ : Gh} {a : Act} {w : World} (s : SR C γ σ a w) (id : Nat) (cells : List AV) (xs : List Value) (e : TypeId) (hl : xs.length = cells.length) (hm : AV.mentL id cells = false) (hpin : C.pin id = none)
    (hr : ∀ i (h : i < cells.length) (h' : i < xs.length), Rep w C.N (Mut γ σ.heap) (fun i => (γ i).1) cells[i] xs[i]) :
    SR C (upd γ id (.pointer (some ⟨w.heap.size, 0, none⟩), undef)) ((σ.kill id).set id (some (.box cells))) a (w.alloc (.cells xs.toArray e)) := by
  have he : Ext w (w.alloc (.cells xs.toArray e)) := (Below.refl _ w).alloc (Nat.le_refl _) _
  refine s.renew none id (.pointer (some ⟨w.heap.size, 0, none⟩), undef) (.box cells) hpin (fun i h => by cases h) rfl rfl rfl (by simp) (fun b hb _ => he.block b hb) (fun b hb => ?_) (fun b _ h => by cases h) (fun M' hM' => ?_)
  · unfold Blk at hb
    rw [upd_same] at hb
    rcases hb with hb | hb
    · simp [vblock] at hb; subst hb; exact ⟨by simp, .inl (Nat.le_refl _)⟩
    · cases hb
  · refine ⟨w.heap.size, xs.toArray, e, by rw [upd_same], heap_alloc_new w _, by simpa using hl, fun j hj => ⟨xs[j]'(by omega), by simp [show j < xs.length by omega], ?_⟩⟩
    refine (hr j hj (by omega)).mono (fun b hb _ => he.block b hb) hM' (Nat.le_refl _) _ (fun i hi => ?_)
    have : i ≠ id := fun e => by
      subst e
      have := AV.mentL_mem (List.getElem_mem hj) hi
      rw [hm] at this
      cases this
    simp only [upd_ne γ _ this]
theorem w_alloc (id : Nat) {cells : List AV} (hz : zeroL C.P t = some cells) (hd : Nat.blt d C.n = true) (hm : AV.mentL id cells = false) (hpin : C.pin id = none) : Wr C ⟨some d, .alloc t, ty, pos, af, g⟩ σ (((σ.kill id).set id (some (.box cells))).put d (.ptr id 0)) := wr_of fun γ a w s => by
  obtain ⟨it, z, hi, hz0, hzc⟩ := zeroL_spec hz
  have hrun : (execOp a.eval ⟨some d, .alloc t, ty, pos, af, g⟩).run C.P w = .ok (.value (.pointer (some ⟨w.heap.size, 0, none⟩))) (w.alloc (.cells z.cells t)) := by
    simp [execOp, Instr.alloc, zeroValue, typeInfo, hi, hz0, newVar, newRow]
  refine ⟨_, _, hrun, .inl ⟨_, rfl, upd γ id (.pointer (some ⟨w.heap.size, 0, none⟩), undef), ?_⟩⟩
  have s' := s.box id cells z.cells.toList t (by rw [← hzc]; simp) hm hpin (fun i h h' => by subst hzc; simp only [List.getElem_map]; exact ofConst_rep _)
  simp only [Array.toArray_toList] at s'
  exact s'.put (some d) (fun k hk => by cases hk; exact blt_lt hd) (.ptr _ _ _ _ (by simp only [upd_same]))
theorem w_box (id : Nat) {v : AV} {cells : List AV} (hx : σ.ev x = v) (hv : storable σ.heap v = true) (hc : v.cl = cells) (hd : Nat.blt d C.n = true) (hm : AV.mentL id cells = false) (hpin : C.pin id = none) : Wr C ⟨some d, .box t x, ty, pos, af, g⟩ σ (((σ.kill id).set id (some (.box cells))).put d (.ptr id 0)) := wr_of fun γ a w s => by
  have e1 := s.ev x
  rw [hx] at e1
  obtain ⟨xs, h1, h2, h3, h4⟩ := e1.cellsOf s.toHR hv
  have hrun : (execOp a.eval ⟨some d, .box t x, ty, pos, af, g⟩).run C.P w = .ok (.value (.pointer (some ⟨w.heap.size, 0, none⟩))) (w.alloc (.cells xs.toArray t)) := by
    simp [execOp, Instr.box, newVar, newRow, h1]
  refine ⟨_, _, hrun, .inl ⟨_, rfl, upd γ id (.pointer (some ⟨w.heap.size, 0, none⟩), undef), ?_⟩⟩
  subst hc
  exact (s.box id v.cl xs t h2 hm hpin h3).put (some d) (fun k hk => by cases hk; exact blt_lt hd) (.ptr _ _ _ _ (by simp only [upd_same]))
/-- a strings.Builder -/
theorem w_allocb (id e : Nat) (hz : zeroL C.P t = some [.nilp, .nils]) (hd : Nat.blt d C.n = true) (hpin : C.pin id = none) : Wr C ⟨some d, .alloc t, ty, pos, af, g⟩ σ (((σ.kill id).set id (some (.bld e t []))).put d (.ptr id 0)) := wr_of fun γ a w s => by
  obtain ⟨it, z, hi, hz0, hzc⟩ := zeroL_spec hz
  have hcells : z.cells = #[.pointer none, .slice none 0 0] := by
    have hl : z.cells.toList.length = 2 := by have := congrArg List.length hzc; simpa using this
    match hzl : z.cells.toList, hl with
    | [p, q], _ =>
      rw [hzl] at hzc
      simp only [List.map_cons, List.map_nil, List.cons.injEq, and_true] at hzc
      have hp : p = .pointer none := by
        have := hzc.1
        unfold ofConst at this
        split at this <;> first | rfl | cases this
      have hq : q = .slice none 0 0 := by
        have := hzc.2
        unfold ofConst at this
        split at this <;> first | rfl | cases this
      rw [← Array.toArray_toList (xs := z.cells), hzl, hp, hq]
  have hrun : (execOp a.eval ⟨some d, .alloc t, ty, pos, af, g⟩).run C.P w = .ok (.value (.pointer (some ⟨w.heap.size, 0, none⟩))) (w.alloc (.cells #[.pointer none, .slice none 0 0] t)) := by
    simp [execOp, Instr.alloc, zeroValue, typeInfo, hi, hz0, newVar, newRow, hcells]
  refine ⟨_, _, hrun, .inl ⟨_, rfl, upd γ id (.pointer (some ⟨w.heap.size, 0, none⟩), .slice none 0 0), ?_⟩⟩
  have he : Ext w (w.alloc (.cells #[.pointer none, .slice none 0 0] t)) := (Below.refl _ w).alloc (Nat.le_refl _) _
  have s' := s.renew (w' := w.alloc (.cells #[.pointer none, .slice none 0 0] t)) none id (.pointer (some ⟨w.heap.size, 0, none⟩), .slice none 0 0) (.bld e t []) hpin (fun i h => by cases h) rfl rfl rfl (by simp) (fun b hb _ => he.block b hb) (fun b hb => by
    unfold Blk at hb
    rw [upd_same] at hb
    rcases hb with hb | hb
    · simp [vblock] at hb; subst hb; exact ⟨by simp, .inl (Nat.le_refl _)⟩
    · cases hb) (fun b _ h => by cases h) (fun M' hM' => ⟨w.heap.size, .slice none 0 0, [], .pointer none, by rw [upd_same], heap_alloc_new w _, .inl rfl, World.ownsRow_nil _ _ _ _, rfl⟩)
  exact s'.put (some d) (fun k hk => by cases hk; exact blt_lt hd) (.ptr _ _ _ _ (by simp only [upd_same]))

/-! stores -/
theorem run_store_cells {P : Program} {w : World} {T n : Nat} (hs : sizeB P T n = true) {b o : Nat} {c : Array Value} {e : TypeId} (hb : w.heap[b]? = some (.cells c e (0, 0))) {v : Value} {xs : List Value} (hv : v.cells = xs.toArray) (hl : xs.length = n) (h1 : ∀ y ∈ xs, y.oneCell' = true) (hfit : o + n ≤ c.size) :
    (Instr.storeAt T (.pointer (some ⟨b, o, none⟩)) v).run P w = .ok () (w.setRow b (c.toList.take o ++ xs ++ c.toList.drop (o + xs.length)).toArray) := by
  have hst := run_storeCells_at P b o e xs 0 c w hb (by omega) h1
  simp only [Nat.add_zero] at hst
  simp [Instr.storeAt, Instr.sureAddr, storeVar, hv, sizeB_spec hs, hl, hst]
theorem setRow_facts (w : World) (b : Nat) (cs : Array Value) : (w.setRow b cs).os = w.os ∧ (w.setRow b cs).tape = w.tape ∧ (w.setRow b cs).output = w.output ∧ (w.setRow b cs).heap.size = w.heap.size := ⟨rfl, rfl, rfl, size_setRow w b cs⟩
theorem w_store {id fo : Nat} {cells : List AV} {v : AV} {n : Nat} {cells' : List AV} (hx : σ.ev x = .ptr id fo) (ho : σ.heap id = some (.box cells)) (hy : σ.ev y = v) (hv : storable σ.heap v = true) (hs : sizeB C.P t n = true) (hn : v.cl.length = n) (hfit : fo + n ≤ cells.length) (hc : cells.take fo ++ v.cl ++ cells.drop (fo + n) = cells') :
    Wr C ⟨none, .store t x y, ty, pos, af, g⟩ σ (σ.set id (some (.box cells'))) := wr_of fun γ a w s => by
  have e1 := s.ev x
  have e2 := s.ev y
  rw [hx] at e1; rw [hy] at e2
  obtain ⟨b, hb, hev⟩ := e1.ptr_inv
  obtain ⟨xs, h1, h2, h3, h4⟩ := e2.cellsOf s.toHR hv
  obtain ⟨b', c, e, hb', hh, hsz, hr⟩ := box_cells s.toHR ho
  obtain ⟨b'', c'', e'', hgg, _⟩ := s.obj id _ ho
  rw [hb] at hb'
  cases hb'
  have hrun := run_store_cells (P := C.P) hs (o := fo) hh h1 (by omega) h4 (by omega)
  refine ⟨.skip, w.setRow b (c.toList.take fo ++ xs ++ c.toList.drop (fo + xs.length)).toArray, by simp [execOp, hev, hrun], .inr ⟨rfl, γ, ?_⟩⟩
  obtain ⟨f1, f2, f3, f4⟩ := setRow_facts w b (c.toList.take fo ++ xs ++ c.toList.drop (fo + xs.length)).toArray
  have hne : ∀ k, k ≠ b → (w.setRow b (c.toList.take fo ++ xs ++ c.toList.drop (fo + xs.length)).toArray).heap[k]? = w.heap[k]? := fun k hk => setRow_other w b k _ hk
  have hMb : Mut γ σ.heap b := ⟨id, _, ho, .inl (by rw [hb]; rfl)⟩
  have hlen : cells'.length = cells.length := by subst hc; simp; omega
  refine s.update ho (.box cells') f1 f2 f3 (by omega) (fun k _ hk => hne k (fun e => hk (.inl (by rw [e, hb]; rfl)))) ?_
  refine ⟨b, _, e, ?_, setRow_heap w b c _ e _ hh, ?_, fun j hj => ?_⟩
  · have : (γ id).2 = undef := by rw [hgg]
    exact Prod.ext hb this
  · simp [hlen]; omega
  · have get : ∀ (v' : AV) (u : Value), Rep w C.N (Mut γ σ.heap) (fun i => (γ i).1) v' u → Rep (w.setRow b (c.toList.take fo ++ xs ++ c.toList.drop (fo + xs.length)).toArray) C.N (Mut γ σ.heap) (fun i => (γ i).1) v' u := fun v' u hu =>
      hu.mono (fun k _ hk => hne k (fun e => hk (by rw [e]; exact hMb))) (fun _ _ h => h) (Nat.le_refl _) _ (fun _ _ => rfl)
    subst hc
    rw [List.getElem?_toArray]
    by_cases hj1 : j < fo
    · obtain ⟨u, hu, hru⟩ := hr j (by omega)
      refine ⟨u, ?_, ?_⟩
      · rw [List.append_assoc, List.getElem?_append_left (by simp; omega), List.getElem?_take, if_pos hj1]
        simpa using hu
      · have : (cells.take fo ++ v.cl ++ cells.drop (fo + n))[j] = cells[j]'(by omega) := by
          rw [List.getElem_append_left (by simp; omega), List.getElem_append_left (by simp; omega), List.getElem_take]
        rw [this]
        exact get _ _ hru
    · by_cases hj2 : j < fo + n
      · refine ⟨xs[j - fo]'(by omega), ?_, ?_⟩
        · rw [List.append_assoc, List.getElem?_append_right (by simp; omega), List.getElem?_append_left (by simp; omega)]
          have : j - (c.toList.take fo).length = j - fo := by simp; omega
          rw [this, List.getElem?_eq_getElem]
        · have : (cells.take fo ++ v.cl ++ cells.drop (fo + n))[j] = v.cl[j - fo]'(by omega) := by
            rw [List.getElem_append_left (by simp; omega), List.getElem_append_right (by simp; omega)]
            congr 1
            simp; omega
          rw [this]
          exact get _ _ (h3 _ _ _)
      · have hjl : j < cells.length := by omega
        obtain ⟨u, hu, hru⟩ := hr j hjl
        refine ⟨u, ?_, ?_⟩
        · rw [List.getElem?_append_right (by simp; omega), List.getElem?_drop]
          have : fo + xs.length + (j - (c.toList.take fo ++ xs).length) = j := by simp; omega
          rw [this]
          simpa using hu
        · have : (cells.take fo ++ v.cl ++ cells.drop (fo + n))[j] = cells[j]'hjl := by
            rw [List.getElem_append_right (by simp; omega), List.getElem_drop]
            congr 1
            simp; omega
          rw [this]
          exact get _ _ hru

theorem splice_get {α : Type} (l xs : List α) (o : Nat) (h : o + xs.length ≤ l.length) (k : Nat) : (l.take o ++ xs ++ l.drop (o + xs.length))[k]? = if o ≤ k ∧ k < o + xs.length then xs[k - o]? else l[k]? := by
  by_cases h1 : k < o
  · rw [if_neg (by omega), List.append_assoc, List.getElem?_append_left (by simp; omega), List.getElem?_take, if_pos h1]
  · by_cases h2 : k < o + xs.length
    · rw [if_pos (by omega), List.append_assoc, List.getElem?_append_right (by simp; omega), List.getElem?_append_left (by simp; omega)]
      congr 1
      simp; omega
    · rw [if_neg (by omega), List.getElem?_append_right (by simp; omega), List.getElem?_drop]
      congr 1
      simp; omega
theorem in_row {i i' j sz fo n : Nat} (hj : j < sz) (hf : fo + n ≤ sz) (hn : 0 < n) : (i * sz + fo ≤ i' * sz + j ∧ i' * sz + j < i * sz + fo + n) ↔ (i' = i ∧ fo ≤ j ∧ j < fo + n) := by
  constructor
  · rintro ⟨h1, h2⟩
    have : i' = i := by
      rcases Nat.lt_trichotomy i' i with h | h | h
      · have : (i' + 1) * sz ≤ i * sz := Nat.mul_le_mul_right _ h
        rw [Nat.add_mul] at this; omega
      · exact h
      · have : (i + 1) * sz ≤ i' * sz := Nat.mul_le_mul_right _ h
        rw [Nat.add_mul] at this; omega
    subst this
    exact ⟨rfl, by omega, by omega⟩
  · rintro ⟨rfl, h1, h2⟩
    omega
theorem w_storee {id sz i fo n : Nat} {e' : TypeId} {rows : List (List AV)} {r r' : List AV} {v : AV} (hx : σ.ev x = .eptr id sz i fo) (ho : σ.heap id = some (.rows e' sz rows)) (hi : rows[i]? = some r) (hy : σ.ev y = v) (hv : v.cl.all AV.flat = true) (hs : sizeB C.P t n = true) (hn : v.cl.length = n) (hn0 : 0 < n) (hfit : fo + n ≤ sz)
    (hr' : r.take fo ++ v.cl ++ r.drop (fo + n) = r') : Wr C ⟨none, .store t x y, ty, pos, af, g⟩ σ (σ.set id (some (.rows e' sz (rows.set i r')))) := wr_of fun γ a w s => by
  have e1 := s.ev x
  have e2 := s.ev y
  rw [hx] at e1; rw [hy] at e2
  obtain ⟨b, n', cap, hb, hev⟩ := e1.eptr_inv
  have hst : storable σ.heap v = true := by
    cases v <;> first
      | rfl
      | (simp only [storable]; exact List.all_eq_true.2 (fun u hu => flat_one (List.all_eq_true.1 hv u hu)))
      | (simp [AV.cl, AV.flat] at hv)
  obtain ⟨xs, h1, h2, h3, h4⟩ := e2.cellsOf s.toHR hst
  obtain ⟨u, cs, hgg, hown, hsz0, hl, hr⟩ := s.obj id _ ho
  have hu : u = .slice (some ⟨b, 0, none⟩) n' cap := by rw [← hb, hgg]
  subst hu
  obtain ⟨hcl, h5⟩ := hown
  rcases h5 with ⟨h6, _⟩ | ⟨b', cap', cur, h6, _, hh, hnc, hcm, hcs, htk⟩
  · cases h6
  · cases h6
    obtain ⟨hil, hie⟩ := List.getElem?_eq_some_iff.1 hi
    have hrl : r.length = sz := by rw [← hie]; exact hl i hil
    have hpos : i * sz + fo + n ≤ rows.length * sz := by
      have : (i + 1) * sz ≤ rows.length * sz := Nat.mul_le_mul_right _ hil
      rw [Nat.add_mul] at this; omega
    have hcur : rows.length * sz ≤ cur.size := by rw [hcs]; exact Nat.mul_le_mul_right _ hnc
    have hxl : xs.length = n := by omega
    have hrun := run_store_cells (P := C.P) hs (o := i * sz + fo) hh h1 hxl h4 (by omega)
    refine ⟨.skip, w.setRow b (cur.toList.take (i * sz + fo) ++ xs ++ cur.toList.drop (i * sz + fo + xs.length)).toArray, by simp [execOp, hev, hrun], .inr ⟨rfl, γ, ?_⟩⟩
    obtain ⟨f1, f2, f3, f4⟩ := setRow_facts w b (cur.toList.take (i * sz + fo) ++ xs ++ cur.toList.drop (i * sz + fo + xs.length)).toArray
    have hne : ∀ k, k ≠ b → (w.setRow b (cur.toList.take (i * sz + fo) ++ xs ++ cur.toList.drop (i * sz + fo + xs.length)).toArray).heap[k]? = w.heap[k]? := fun k hk => setRow_other w b k _ hk
    refine s.update ho _ f1 f2 f3 (by omega) (fun k _ hk => hne k (fun e => hk (.inl (by rw [e, hgg]; rfl)))) ?_
    have hcsl : cs.length = rows.length * sz := hcl
    refine ⟨.slice (some ⟨b, 0, none⟩) rows.length cap, cs.take (i * sz + fo) ++ xs ++ cs.drop (i * sz + fo + xs.length), hgg, ?_, hsz0, fun k hk => ?_, fun k hk j hj => ?_⟩
    · refine ⟨by simp [hcsl]; omega, .inr ⟨b, cap, _, by simp, Nat.zero_le _, setRow_heap w b cur _ e' _ hh, by simpa using hnc, hcm, by simp; omega, ?_⟩⟩
      rw [← htk]
      simp only [List.length_set]
      apply List.ext_getElem?
      intro k
      rw [List.getElem?_take, splice_get _ _ _ (by simp; omega), splice_get _ _ _ (by simp; omega), List.getElem?_take]
      by_cases hk : k < rows.length * sz
      · rw [if_pos hk, if_pos hk]
      · rw [if_neg hk, if_neg (by omega), if_neg hk]
    · simp only [List.length_set] at hk
      rw [List.getElem_set]
      by_cases hik : i = k
      · rw [if_pos hik, ← hr']; simp; omega
      · rw [if_neg hik]; exact hl k hk
    · simp only [List.length_set] at hk
      rw [splice_get _ _ _ (by omega), hxl]
      have hrow : (rows.set i r')[k]'(by simpa using hk) = if i = k then r' else rows[k] := by rw [List.getElem_set]
      have hjs : j < sz := by
        rw [hrow] at hj
        by_cases hik : i = k
        · rw [if_pos hik, ← hr'] at hj; simp at hj; omega
        · rw [if_neg hik, hl k hk] at hj; exact hj
      have hin := in_row (i := i) (i' := k) hjs hfit hn0
      have hget : ∀ (q : List AV) (hq : q = (rows.set i r')[k]'(by simpa using hk)) (z : AV), q[j]? = some z → (rows.set i r')[k][j] = z := by
        intro q hq z hz
        subst hq
        exact (List.getElem?_eq_some_iff.1 hz).2
      by_cases hc : i * sz + fo ≤ k * sz + j ∧ k * sz + j < i * sz + fo + n
      · rw [if_pos hc]
        obtain ⟨rfl, hj1, hj2⟩ := hin.1 hc
        have hjx : k * sz + j - (k * sz + fo) = j - fo := by omega
        rw [hjx]
        refine ⟨xs[j - fo]'(by omega), List.getElem?_eq_getElem (by omega), ?_⟩
        have hvj : (rows.set k r')[k][j] = v.cl[j - fo]'(by omega) := by
          refine hget r' (by rw [hrow, if_pos rfl]) _ ?_
          have hs2 := splice_get r v.cl fo (by omega) j
          rw [hn, hr'] at hs2
          rw [hs2, if_pos ⟨hj1, hj2⟩, List.getElem?_eq_getElem]
        rw [hvj]
        exact (h3 _ _ _).flat (List.all_eq_true.1 hv _ (List.getElem_mem _))
      · rw [if_neg hc]
        have hjr : j < rows[k].length := by rw [hl k hk]; exact hjs
        obtain ⟨z, hz, hfz⟩ := hr k hk j hjr
        refine ⟨z, hz, ?_⟩
        have hvj : (rows.set i r')[k][j] = rows[k][j] := by
          by_cases hik : i = k
          · subst hik
            refine hget r' (by rw [hrow, if_pos rfl]) _ ?_
            have hnot : ¬ (fo ≤ j ∧ j < fo + n) := fun h => hc (hin.2 ⟨rfl, h⟩)
            have hs2 := splice_get r v.cl fo (by omega) j
            rw [hn, hr'] at hs2
            rw [hs2, if_neg hnot, ← hie, List.getElem?_eq_getElem]
          · exact hget rows[k] (by rw [hrow, if_neg hik]) _ (List.getElem?_eq_getElem hjr)
        rw [hvj]
        exact hfz
end
end Go.Proofs.YtignjjnflcpiiaaDoor
