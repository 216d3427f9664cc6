import Derived.Test.YtignjjnflcpiiaaGreatDoorWVm4
set_option linter.unusedVariables false
set_option linter.unusedSimpArgs false
set_option maxHeartbeats 1000000
namespace Go.Proofs.YtignjjnflcpiiaaGreatDoor
open Go.RowKit
section
variable {C : Cx} {wr : Oper → Bool} {ops : Array Oper} {σ : St} {K : St → Prop}
end
end Go.Proofs.YtignjjnflcpiiaaGreatDoor
/- More rules: results beside an object of the caller's; slices of parts of the frame's own; functions that make or change a slice of rows. -/
namespace Go.Proofs.YtignjjnflcpiiaaGreatDoor
open Go.RowKit
def restH (H : Heap) : Heap := fun i => match i with
  | 0 => none
  | i + 1 => H (i + 1)
def endO (o' : Option AObj) (H : Heap) : Prop := match o' with
  | none => (H 0).isSome = true
  | some p => H 0 = some p
def RetQB (P : Program) (rs : List ResultVar) (res : AV) (o' : Option AObj) : Exit → St → Prop
  | .normal, σ | .ret, σ => cellOk P σ rs ∧ retV (retLH (restH σ.heap) σ rs) = res ∧ endO o' σ.heap
  | _, _ => False
theorem ceff_ofb {X : Gx} {f : FuncId} {fn : Func} {c : Code} {cells : List AV} {as : List AV} {o' : Option AObj} {res : AV} (hf : X.P.funcs[f]? = some fn) (hb : fn.body = some c) (hn : as.length ≤ fn.ntmps)
    (h : ∀ w γ (hw : X.nG ≤ w.heap.size) (hM : ∀ b, Blk γ 0 b → X.nG ≤ b), Tri (cxe X fn.ntmps w γ hw hM) c (St.starte as (.box cells)) (RetQB X.P fn.results.toList res o')) : CEff X f (.box cells) as o' res := by
  intro w γ vs hw hM hr hl hrep
  refine calls_of_wp hf hb (wp_mono (h w γ hw hM γ _ w ?_) ?_)
  · refine { hr.cxn with env := fun t => ?_, size := ?_, defers := rfl }
    · show Rep w w.heap.size _ _ (as.getD t .any) _
      rcases Nat.lt_or_ge t as.length with ht | ht
      · have h1 : as.getD t .any = as[t] := by rw [List.getD_eq_getElem?_getD, List.getElem?_eq_getElem ht]; rfl
        have h2 : (vs.toArray ++ Array.replicate (fn.ntmps - vs.toArray.size) undef).getD t undef = vs[t]'(by omega) := by
          rw [Array.getD_eq_getD_getElem?, Array.getElem?_append_left (by simp; omega)]
          simp [show t < vs.length by omega]
        rw [h1, h2]
        exact hrep t ht (by omega)
      · have h1 : as.getD t .any = .any := by rw [List.getD_eq_getElem?_getD, List.getElem?_eq_none ht]; rfl
        rw [h1]
        exact .any _ _
    · show (vs.toArray ++ Array.replicate (fn.ntmps - vs.toArray.size) undef).size = fn.ntmps
      simp; omega
  · have fin : ∀ (a : Act) (w' : World) γ' σ, SR (cxe X fn.ntmps w γ hw hM) γ' σ a w' → (cellOk X.P σ fn.results.toList ∧ retV (retLH (restH σ.heap) σ fn.results.toList) = res ∧ endO o' σ.heap) →
        a.defers = [] ∧ ∃ v, (results fn a.tmps).run X.P w' = .ok v w' ∧ ∃ v' γ'', Ending.returned v = .returned v' ∧ HR (cxe X 0 w γ hw hM) γ'' (heap1 o') w' ∧ Rep w' w.heap.size (Mut γ'' (heap1 o')) g0 res v' := by
      intro a w' γ' σ s ⟨q1, q2, q3⟩
      have hsub : ∀ (id : Nat) (p : AObj), heap1 o' id = some p → σ.heap id = some p := fun id p hp => by
        cases id with
        | zero =>
          cases o' with
          | none => cases hp
          | some p' => cases hp; exact q3
        | succ id => cases hp
      have hmut : ∀ b, Mut γ' (heap1 o') b → Mut γ' σ.heap b := fun b ⟨id, p, h1, h2⟩ => ⟨id, p, hsub id p h1, h2⟩
      obtain ⟨p0, hp0⟩ : ∃ p, σ.heap 0 = some p := by
        cases o' with
        | none => exact Option.isSome_iff_exists.1 q3
        | some p => exact ⟨p, q3⟩
      have hb0 : ∀ b, Blk γ 0 b → Blk γ' 0 b := fun b hb => by
        obtain ⟨b0, c, e, hg, _⟩ := hr.obj 0 _ rfl
        have hpin := s.pins 0 p0 (γ 0).1 rfl hp0
        unfold Blk at hb
        rcases hb with hb | hb
        · exact .inl (by rw [hpin]; exact hb)
        · rw [hg] at hb; cases hb
      have hs1 : ∀ (id : Nat) (o : AObj), restH σ.heap id = some o → σ.heap id = some o ∧ id ≠ 0 := fun id o ho => by
        cases id with
        | zero => cases ho
        | succ id => exact ⟨ho, Nat.succ_ne_zero _⟩
      obtain ⟨v, h1, h2⟩ := run_resultsH (C := cxe X fn.ntmps w γ hw hM) (fn := fn) (restH σ.heap) (Mut γ' (heap1 o')) s (fun v x hv => hv.frzM s.toHR (fun id o ho => (hs1 id o ho).1) hmut (fun id o b ho hv' hm => by
          obtain ⟨j, p, h1, h2⟩ := hm
          cases j with
          | succ j => cases h1
          | zero => exact (hs1 id o ho).2 (s.disj id 0 o p b (hs1 id o ho).1 (hsub 0 p h1) (.inl hv') h2)) true (fun _ => Nat.le_refl _) (fun _ id o b ho hv' hm => (hs1 id o ho).2 (s.disj id 0 o p0 b (hs1 id o ho).1 hp0 (.inl hv') (hb0 b hm)))) q1
      rw [q2] at h2
      refine ⟨s.defers, v, h1, v, γ', rfl, ?_, h2⟩
      exact { obj := fun id p hp => (s.obj id p (hsub id p hp)).mono (fun _ _ _ => rfl) (fun b _ => hmut b) (fun _ _ => rfl), disj := fun id id' p p' b h h' => s.disj id id' p p' b (hsub _ _ h) (hsub _ _ h'), two := fun id p b h => s.two id p b (hsub _ _ h), lt := fun id p b h => s.lt id p b (hsub _ _ h), chg := s.chg, glob := s.glob, pins := fun id p v hp h => s.pins id p v hp (hsub _ _ h) }
    rintro e a w' ⟨γ', σ, q, s⟩
    cases e with
    | normal => exact fin a w' γ' σ s q
    | ret => exact fin a w' γ' σ s q
    | _ => exact q.elim
theorem UpL.refl : ∀ l : List AV, UpL l l
  | [] => .nil
  | a :: l => .cons (Up.refl a) (UpL.refl l)
theorem Up.agg {l r : List AV} (h : UpL l r) : Up (.agg l) (.agg r) := fun w N M γ v hv => by
  obtain ⟨hl, hg⟩ := h.get
  obtain ⟨xs, rfl, hxl, hx⟩ := hv.agg_inv
  exact .agg _ _ _ (by omega) (fun i hi hxi => hg i (by omega) hi w N M γ _ (hx i (by omega) hxi))
theorem CEff.up {X : Gx} {f : FuncId} {o : AObj} {l : List AV} {o' : Option AObj} {a b : AV} (h : CEff X f o l o' a) (hu : Up a b) : CEff X f o l o' b := by
  intro w γ vs hn hM hr hl hrep
  refine (h w γ vs hn hM hr hl hrep).mono ?_
  rintro e w' ⟨v, γ', he, h2, hv⟩
  exact ⟨v, γ', he, h2, hu _ _ _ _ _ hv⟩
theorem PtCells.mono {w w' : World} {ok ok' : Nat → Prop} (hk : ∀ b o v, ok b → w.cell? ⟨b, o, none⟩ = some v → ok' b ∧ w'.cell? ⟨b, o, none⟩ = some v) {p : PT} {c : Nat → Option Value} (h : PtCells w ok p c) : PtCells w' ok' p c := by
  obtain ⟨hv, pv, a1, a2, a3, a4, a5, a6⟩ := h
  exact ⟨hv, pv, a1, a2, a3, a4, a5.mono hk, a6.mono hk⟩
section
variable {C : Cx} {σ : St} {ty : TypeId} {pos : String} {af : Array Edge} {g : Option (Nat × Bool)} {x y : Operand} {t : TypeId} {d : Nat}
end
def CNewR (X : Gx) (f : FuncId) (as : List AV) (e : TypeId) (sz : Nat) (rows : List (List AV)) : Prop :=
  ∀ (w : World) (vs : List Value), X.G w → X.nG ≤ w.heap.size → vs.length = as.length → (∀ i (h : i < as.length) (h' : i < vs.length), Rep w 0 (fun _ => False) g0 as[i] vs[i]) →
    Calls X.P f vs.toArray w (fun en w' => ∃ v cs, en = .returned v ∧ Ext w w' ∧ w'.ownsRow w.heap.size e sz v rows.length cs ∧ 0 < sz ∧ (∀ i (h : i < rows.length), rows[i].length = sz) ∧
      ∀ i (h : i < rows.length) j (hj : j < rows[i].length), ∃ x, cs[i * sz + j]? = some x ∧ FRep rows[i][j] x)
theorem run_result1 {P : Program} {fn : Func} {a : Act} {w : World} {t : Nat} {v : Value} (h1 : fn.results.toList = [.tmp t]) (h2 : a.tmps.getD t undef = v) : (results fn a.tmps).run P w = .ok v w := by
  have hrun := mapM_results (P := P) (w := w) (tmps := a.tmps) fn.results.toList [v] (by rw [h1]; rfl) (fun i hi hx => by
    have hi0 : i = 0 := by simpa using hx
    subst hi0
    simp only [h1, List.getElem_cons_zero]
    rw [h2]; rfl)
  unfold results
  rw [Array.mapM_eq_mapM_toList]
  simp only [Sem.run_bind, Sem.run_map, Sem.run_pure]
  exact congrArg (fun r : Result (List Value) => (r.andThen fun a w' => .ok a.toArray w').andThen fun a w' => .ok (if h : a.size = 1 then a[0] else .tuple a) w') hrun
theorem ownsRow_from {w : World} {B e n size : Nat} {v : Value} {xs : List Value} (h : w.ownsRow 0 e size v n xs) (hb : ∀ b, vblock v = some b → B ≤ b) : w.ownsRow B e size v n xs := by
  refine ⟨h.1, ?_⟩
  rcases h.2 with h2 | ⟨g, cap, cur, hv, _, r⟩
  · exact .inl h2
  · exact .inr ⟨g, cap, cur, hv, hb g (by rw [hv]; rfl), r⟩
theorem ownsRow_low {w : World} {B e n size : Nat} {v : Value} {xs : List Value} (h : w.ownsRow B e size v n xs) : w.ownsRow 0 e size v n xs := by
  refine ⟨h.1, ?_⟩
  rcases h.2 with h2 | ⟨g, cap, cur, hv, _, r⟩
  · exact .inl h2
  · exact .inr ⟨g, cap, cur, hv, Nat.zero_le _, r⟩
theorem ownsRow_blk {w : World} {B e n size : Nat} {v : Value} {xs : List Value} (h : w.ownsRow B e size v n xs) {b : Nat} (hb : vblock v = some b) : B ≤ b ∧ b < w.heap.size := by
  rcases h.2 with ⟨rfl, _⟩ | ⟨g, cap, cur, rfl, h1, h2, _⟩
  · cases hb
  · cases hb
    exact ⟨h1, (Array.getElem?_eq_some_iff.1 h2).1⟩
section
variable {C : Cx} {σ : St} {d : Nat} {ty : TypeId} {pos : String} {af : Array Edge} {g : Option (Nat × Bool)}
theorem w_newr (t : Nat) {f : FuncId} {xs : Array Operand} {ts : Array TypeId} {as : List AV} {e : TypeId} {sz : Nat} {rows : List (List AV)} (hc : CNewR C.toGx f as e sz rows) (hcf : ∀ args w, (callFunc f args).run C.P w = .ok (.enter f args) w)
    (ha : AV.fzL σ.heap false (xs.toList.map σ.ev) = as) (hd : Nat.blt d C.n = true) (hpin : C.pin t = none) :
    Wr C ⟨some d, .call { callee := .value (.func f), args := xs, argTypes := ts }, ty, pos, af, g⟩ σ (((σ.kill t).set t (some (.rows e sz rows))).put d (.sl t)) := by
  intro γ a w s
  obtain ⟨h1, h2⟩ := args_rep (σ := σ) s.toHR (fun x _ => s.ev x) ha
  have hcall := hc w (xs.map a.eval).toList s.glob (Nat.le_trans C.hn s.chg.size) h1 h2
  unfold Oper.wp
  have hr : (execOp a.eval ⟨some d, .call { callee := .value (.func f), args := xs, argTypes := ts }, ty, pos, af, g⟩).run C.P w = .ok (.enter f (xs.map a.eval)) w := by
    simp [execOp, resolve, Act.eval, Deferred.ofValue, invoke, hcf]
  rw [hr, Oper.upon_enter]
  simp only [Array.toArray_toList] at hcall
  refine hcall.mono ?_
  rintro en w' ⟨v, cs, rfl, hx, hown, h3, h4, h5⟩
  refine ⟨upd γ t (v, undef), ?_⟩
  have s' := s.renew none t (v, undef) (.rows e sz rows) hpin (fun i h => by cases h) hx.os hx.tape hx.output hx.size (fun k hk _ => hx.block k hk) (fun k hk => by
    unfold Blk at hk
    rw [upd_same] at hk
    rcases hk with hk | hk
    · obtain ⟨a1, a2⟩ := ownsRow_blk hown hk
      exact ⟨a2, .inl a1⟩
    · cases hk) (fun k _ h => by cases h) (fun M' _ => ⟨v, cs, by rw [upd_same], ownsRow_low hown, h3, h4, h5⟩)
  refine s'.put (some d) (fun k hk => by cases hk; exact blt_lt hd) ?_
  have := Rep.sl (w := w') (N := C.N) (M := Mut (upd γ t (v, undef)) ((σ.kill t).set t (some (.rows e sz rows))).heap) (fun i => (upd γ t (v, undef) i).1) t
  simp only [upd_same] at this
  exact this
end
def cxm (X : Gx) (n : Nat) (w : World) (γ : Gh) (hn : X.nG ≤ w.heap.size) (hM : ∀ b, Blk γ 0 b → X.nG ≤ b) : Cx := { X with n := n, w0 := w, M0 := Blk γ 0, pin := fun _ => none, hn := hn, hM := hM }
def CMod (X : Gx) (f : FuncId) (e : TypeId) (sz : Nat) (rows : List (List AV)) (as : List AV) (rows' : List (List AV)) : Prop :=
  ∀ (w : World) (γ : Gh) (vs : List Value) (hn : X.nG ≤ w.heap.size) (hM : ∀ b, Blk γ 0 b → X.nG ≤ b), HR (cxm X 0 w γ hn hM) γ (heap1 (some (.rows e sz rows))) w → vs.length = as.length →
    (∀ i (h : i < as.length) (h' : i < vs.length), Rep w w.heap.size (Mut γ (heap1 (some (.rows e sz rows)))) (fun i => (γ i).1) as[i] vs[i]) →
    Calls X.P f vs.toArray w (fun en w' => ∃ γ', en = .returned (γ' 0).1 ∧ HR (cxm X 0 w γ hn hM) γ' (heap1 (some (.rows e sz rows'))) w')
def RetM (rs : List ResultVar) (e : TypeId) (sz : Nat) (rows : List (List AV)) : Exit → St → Prop
  | .normal, σ | .ret, σ => ∃ t, rs = [.tmp t] ∧ σ.env t = .sl 0 ∧ σ.heap 0 = some (.rows e sz rows)
  | _, _ => False
theorem cmod_of {X : Gx} {f : FuncId} {fn : Func} {c : Code} {as : List AV} {e : TypeId} {sz : Nat} {rows rows' : List (List AV)} (hf : X.P.funcs[f]? = some fn) (hb : fn.body = some c) (hn : as.length ≤ fn.ntmps)
    (h : ∀ w γ (hw : X.nG ≤ w.heap.size) (hM : ∀ b, Blk γ 0 b → X.nG ≤ b), Tri (cxm X fn.ntmps w γ hw hM) c (St.starte as (.rows e sz rows)) (RetM fn.results.toList e sz rows')) : CMod X f e sz rows as rows' := by
  intro w γ vs hw hM hr hl hrep
  refine calls_of_wp hf hb (wp_mono (h w γ hw hM γ _ w ?_) ?_)
  · refine { obj := hr.obj, disj := hr.disj, two := hr.two, lt := hr.lt, chg := hr.chg, glob := hr.glob, pins := fun id o v h => (by cases h), env := fun t => ?_, size := ?_, defers := rfl }
    · show Rep w w.heap.size _ _ (as.getD t .any) _
      rcases Nat.lt_or_ge t as.length with ht | ht
      · have h1 : as.getD t .any = as[t] := by rw [List.getD_eq_getElem?_getD, List.getElem?_eq_getElem ht]; rfl
        have h2 : (vs.toArray ++ Array.replicate (fn.ntmps - vs.toArray.size) undef).getD t undef = vs[t]'(by omega) := by
          rw [Array.getD_eq_getD_getElem?, Array.getElem?_append_left (by simp; omega)]
          simp [show t < vs.length by omega]
        rw [h1, h2]
        exact hrep t ht (by omega)
      · have h1 : as.getD t .any = .any := by rw [List.getD_eq_getElem?_getD, List.getElem?_eq_none ht]; rfl
        rw [h1]
        exact .any _ _
    · show (vs.toArray ++ Array.replicate (fn.ntmps - vs.toArray.size) undef).size = fn.ntmps
      simp; omega
  · have fin : ∀ (a : Act) (w' : World) γ' σ, SR (cxm X fn.ntmps w γ hw hM) γ' σ a w' → (∃ t, fn.results.toList = [.tmp t] ∧ σ.env t = .sl 0 ∧ σ.heap 0 = some (.rows e sz rows')) →
        a.defers = [] ∧ ∃ v, (results fn a.tmps).run X.P w' = .ok v w' ∧ ∃ γ'', Ending.returned v = .returned (γ'' 0).1 ∧ HR (cxm X 0 w γ hw hM) γ'' (heap1 (some (.rows e sz rows'))) w' := by
      rintro a w' γ' σ s ⟨t, h1, h2, h3⟩
      have ev := s.env t
      rw [h2] at ev
      have hsub : ∀ (id : Nat) (p : AObj), heap1 (some (.rows e sz rows')) id = some p → σ.heap id = some p := fun id p hp => by
        cases id with
        | zero => rw [h3]; exact hp
        | succ id => cases hp
      have hmut : ∀ b, Mut γ' (heap1 (some (.rows e sz rows'))) b → Mut γ' σ.heap b := fun b ⟨id, p, h1, h2⟩ => ⟨id, p, hsub id p h1, h2⟩
      refine ⟨s.defers, _, run_result1 h1 ev.sl_inv, γ', rfl, ?_⟩
      exact { obj := fun id p hp => (s.obj id p (hsub id p hp)).mono (fun _ _ _ => rfl) (fun b _ => hmut b) (fun _ _ => rfl), disj := fun id id' p p' b h h' => s.disj id id' p p' b (hsub _ _ h) (hsub _ _ h'), two := fun id p b h => s.two id p b (hsub _ _ h), lt := fun id p b h => s.lt id p b (hsub _ _ h), chg := s.chg, glob := s.glob, pins := fun id p v h => (by cases h) }
    rintro e a w' ⟨γ', σ, q, s⟩
    cases e with
    | normal => exact fin a w' γ' σ s q
    | ret => exact fin a w' γ' σ s q
    | _ => exact q.elim
def AV.fzs (id : Nat) (H : Heap) : AV → AV
  | .sl j => match Nat.beq j id with
    | true => .sl 0
    | false => (AV.sl j).fz H false
  | v => v.fz H false
section
variable {C : Cx} {σ : St} {d : Nat} {ty : TypeId} {pos : String} {af : Array Edge} {g : Option (Nat × Bool)}
theorem w_mod {id : Nat} {f : FuncId} {xs : Array Operand} {ts : Array TypeId} {as : List AV} {e : TypeId} {sz : Nat} {rows rows' : List (List AV)} (hc : CMod C.toGx f e sz rows as rows') (hcf : ∀ args w, (callFunc f args).run C.P w = .ok (.enter f args) w)
    (ho : σ.heap id = some (.rows e sz rows)) (ha : xs.toList.map (fun x => (σ.ev x).fzs id (σ.drop (some id)).heap) = as) (hd : Nat.blt d C.n = true) (hpin : C.pin id = none) :
    Wr C ⟨some d, .call { callee := .value (.func f), args := xs, argTypes := ts }, ty, pos, af, g⟩ σ ((((σ.drop (some id)).kill id).set id (some (.rows e sz rows'))).put d (.sl id)) := by
  intro γ a w s
  have hr : (execOp a.eval ⟨some d, .call { callee := .value (.func f), args := xs, argTypes := ts }, ty, pos, af, g⟩).run C.P w = .ok (.enter f (xs.map a.eval)) w := by
    simp [execOp, resolve, Act.eval, Deferred.ofValue, invoke, hcf]
  unfold Oper.wp
  rw [hr, Oper.upon_enter]
  let γl : Gh := fun i => match i with
    | 0 => γ id
    | _ + 1 => (undef, undef)
  have hMl : ∀ b, Blk γl 0 b → C.nG ≤ b := fun b hb => by
    have hn := C.hn
    rcases (s.lt id _ b ho hb).2 with h | h
    · exact C.hM b h
    · omega
  have hw : C.nG ≤ w.heap.size := Nat.le_trans C.hn s.chg.size
  have hmutl : ∀ b, Mut γl (heap1 (some (.rows e sz rows))) b → Blk γ id b := fun b ⟨i, p, h1, h2⟩ => by
    cases i with
    | zero => exact h2
    | succ i => cases h1
  have hrl : HR (cxm C.toGx 0 w γl hw hMl) γl (heap1 (some (.rows e sz rows))) w :=
    { obj := fun i p h => by
        cases i with
        | zero => cases h; exact s.obj id _ ho
        | succ i => cases h
      disj := fun i i' p p' b h h' _ _ => by
        cases i with
        | zero => cases i' with
          | zero => rfl
          | succ i' => cases h'
        | succ i => cases h
      two := fun i p b h => by
        cases i with
        | zero => exact s.two id _ b ho
        | succ i => cases h
      lt := fun i p b h hb => by
        cases i with
        | zero => exact ⟨(s.lt id _ b ho hb).1, .inl hb⟩
        | succ i => cases h
      chg := Chg.refl _ _
      glob := s.glob
      pins := fun i p v h => (by cases h) }
  have hsub : ∀ (i : Nat) (p : AObj), (σ.drop (some id)).heap i = some p → σ.heap i = some p := fun i p h => (drop_heap h).1
  have hM1 : ∀ b, Mut γl (heap1 (some (.rows e sz rows))) b → Mut γ σ.heap b := fun b hb => ⟨id, _, ho, hmutl b hb⟩
  have hM2 : ∀ (i : Nat) (p : AObj) b, (σ.drop (some id)).heap i = some p → vblock (γ i).1 = some b → ¬ Mut γl (heap1 (some (.rows e sz rows))) b := fun i p b h hb hm => by
    obtain ⟨h1, h2⟩ := drop_heap h
    have := s.disj i id p _ b h1 ho (.inl hb) (hmutl b hm)
    exact h2 (by rw [this])
  have hargs : ∀ x ∈ xs, Rep w w.heap.size (Mut γl (heap1 (some (.rows e sz rows)))) (fun i => (γl i).1) ((σ.ev x).fzs id (σ.drop (some id)).heap) (a.eval x) := fun x _ => by
    have e1 := s.ev x
    have gen : ∀ v, Rep w C.N (Mut γ σ.heap) (fun i => (γ i).1) v (a.eval x) → Rep w w.heap.size (Mut γl (heap1 (some (.rows e sz rows)))) (fun i => (γl i).1) (v.fz (σ.drop (some id)).heap false) (a.eval x) := fun v hv =>
      (hv.frzM s.toHR hsub hM1 hM2 false (fun h => by cases h) (fun h => by cases h)).mono (fun _ _ _ => rfl) (fun _ _ h => h) (Nat.le_refl _) _ (fun i hi => by rw [fz_noment] at hi; cases hi)
    cases hv : σ.ev x with
    | sl j =>
      rw [hv] at e1
      show Rep w w.heap.size _ _ (match Nat.beq j id with | true => .sl 0 | false => (AV.sl j).fz (σ.drop (some id)).heap false) _
      cases hb : Nat.beq j id with
      | true =>
        have := Nat.eq_of_beq_eq_true hb
        subst this
        rw [e1.sl_inv]
        exact .sl (fun i => (γl i).1) 0
      | false => exact gen _ e1
    | _ => rw [hv] at e1; exact gen _ e1
  subst ha
  have hcall := hc w γl (xs.map a.eval).toList hw hMl hrl (by simp) (fun i hi hi' => by
    have h1 : (xs.map a.eval).toList[i] = a.eval (xs[i]'(by simpa using hi)) := by simp
    have h2 : (xs.toList.map (fun x => (σ.ev x).fzs id (σ.drop (some id)).heap))[i] = (σ.ev (xs[i]'(by simpa using hi))).fzs id (σ.drop (some id)).heap := by simp
    rw [h1, h2]
    exact hargs _ (Array.getElem_mem _))
  simp only [Array.toArray_toList] at hcall
  refine hcall.mono ?_
  rintro en w' ⟨γ', rfl, hr'⟩
  obtain ⟨v, cs, g1, g2, g3, g4, g5⟩ := hr'.obj 0 _ rfl
  refine ⟨upd γ id (v, undef), ?_⟩
  have hblk : ∀ k, k < w.heap.size → ¬ Blk γ id k → w'.heap[k]? = w.heap[k]? := fun k hk hb => hr'.chg.block k hk hb
  have s' := s.renew (some id) id (v, undef) (.rows e sz rows') hpin (fun i h => by cases h; exact ⟨_, ho⟩) hr'.chg.os hr'.chg.tape hr'.chg.output hr'.chg.size (fun k hk hno => hblk k hk (hno id rfl)) (fun k hk => by
    unfold Blk at hk
    rw [upd_same] at hk
    rcases hk with hk | hk
    · obtain ⟨a1, a2⟩ := hr'.lt 0 _ k rfl (.inl (by rw [g1]; exact hk))
      refine ⟨a1, ?_⟩
      rcases a2 with a2 | a2
      · exact .inr ⟨id, rfl, a2⟩
      · exact .inl a2
    · cases hk) (fun k _ h => by cases h) (fun M' _ => ⟨v, cs, by rw [upd_same], g2, g3, g4, g5⟩)
  refine s'.put (some d) (fun k hk => by cases hk; exact blt_lt hd) ?_
  have := Rep.sl (w := w') (N := C.N) (M := Mut (upd γ id (v, undef)) (((σ.drop (some id)).kill id).set id (some (.rows e sz rows'))).heap) (fun i => (upd γ id (v, undef) i).1) id
  simp only [upd_same] at this
  rw [show (γ' 0).1 = v by rw [g1]]
  exact this
end
section
variable {C : Cx} {σ : St} {ty : TypeId} {pos : String} {af : Array Edge} {g : Option (Nat × Bool)} {x y : Operand} {t : TypeId} {d : Nat} {k : IntKind} {m : Int}
theorem w_shrink {id n : Nat} {e e' sz : Nat} {rows rows' : List (List AV)} (hx : σ.ev x = .sl id) (ho : σ.heap id = some (.rows e' sz rows)) (hy : σ.ev y = .int k m) (hm : m = (n : Int)) (hn : n ≤ rows.length) (ht : C.P.underlying t = some (.slice e)) (hs : sizeB C.P e sz = true) (hr' : rows.take n = rows') (hd : Nat.blt d C.n = true) (hpin : C.pin id = none) :
    Wr C ⟨some d, .slice t x none (some y) none, ty, pos, af, g⟩ σ ((((σ.drop (some id)).kill id).set id (some (.rows e' sz rows'))).put d (.sl id)) := wr_of fun γ a w s => by
  subst hr'
  have e1 := s.ev x
  have e2 := s.ev y
  rw [hx] at e1; rw [hy] at e2
  have e2 := e2.int_inv
  subst hm
  have e1 := e1.sl_inv
  obtain ⟨u, cs, hg, hown, hs', hl, hr⟩ := s.obj id _ ho
  obtain ⟨hcl, h2⟩ := hown
  have hsz := sizeB_spec hs
  have hlen : (rows.take n).length = n := by rw [List.length_take]; omega
  have hrows : ∀ (v : Value) (cur : List Value), w.ownsRow 0 e' sz v n (cs.take (n * sz)) → ∃ v' cs', (v, undef) = (v', undef) ∧ w.ownsRow 0 e' sz v' (rows.take n).length cs' ∧ 0 < sz ∧ (∀ i (h : i < (rows.take n).length), (rows.take n)[i].length = sz) ∧
      ∀ i (h : i < (rows.take n).length) j (hj : j < (rows.take n)[i].length), ∃ x, cs'[i * sz + j]? = some x ∧ FRep (rows.take n)[i][j] x := fun v cur ho => by
    refine ⟨v, cs.take (n * sz), rfl, by rw [hlen]; exact ho, hs', fun i hi => ?_, fun i hi j hj => ?_⟩
    · rw [List.getElem_take]; exact hl _ _
    · have hi2 : i < n := by omega
      have hj2 : j < (rows[i]'(by omega)).length := by rw [List.getElem_take] at hj; exact hj
      obtain ⟨x, hx, hf⟩ := hr i (by omega) j hj2
      refine ⟨x, ?_, ?_⟩
      · rw [hl i (by omega)] at hj2
        have : (i + 1) * sz ≤ n * sz := Nat.mul_le_mul_right _ hi2
        rw [Nat.add_mul] at this
        rw [List.getElem?_take, if_pos (by omega)]
        exact hx
      · simp only [List.getElem_take]; exact hf
  rcases h2 with ⟨rfl, h0'⟩ | ⟨b, cap, cur, rfl, _, hh', hnc, hmx, hcs, htk⟩
  · have hn0 : n = 0 := by omega
    subst hn0
    have hev : a.eval x = .slice none 0 0 := by rw [e1, hg]
    refine ⟨.value (.slice none 0 0), w, ?_, .inl ⟨_, rfl, upd γ id (.slice none 0 0, undef), ?_⟩⟩
    · simp only [execOp, hev, e2, Option.map_some, Option.map_none, Sem.run_bind, run_sliceAt_slice w t _ _ _ _ (elem_of ht), run_slice_h w t none 0 0 (elem_of ht) k ((0 : Nat) : Int) (by omega) (by omega), elem_eq ht, hsz w, Result.andThen_ok, Sem.run_pure, Int.toNat_natCast]
      rfl
    · have s' := s.renew (some id) id (.slice none 0 0, undef) (.rows e' sz (rows.take 0)) hpin (fun i h => by cases h; exact ⟨_, ho⟩) rfl rfl rfl (Nat.le_refl _) (fun _ _ _ => rfl) (fun b hb => by
        unfold Blk at hb
        rw [upd_same] at hb
        rcases hb with hb | hb <;> cases hb) (fun b h => by cases h) (fun M' _ => by
        obtain ⟨v', cs', h1, h2⟩ := hrows (.slice none 0 0) [] (by simpa using World.ownsRow_nil w 0 e' sz)
        exact ⟨v', cs', by rw [upd_same]; exact h1, h2⟩)
      refine s'.put (some d) (fun k hk => by cases hk; exact blt_lt hd) ?_
      have := Rep.sl (w := w) (N := C.N) (M := Mut (upd γ id (.slice none 0 0, undef)) (((σ.drop (some id)).kill id).set id (some (.rows e' sz (rows.take 0)))).heap) (fun i => (upd γ id (.slice none 0 0, undef) i).1) id
      simp only [upd_same] at this
      exact this
  · have hev : a.eval x = .slice (some ⟨b, 0, none⟩) rows.length cap := by rw [e1, hg]
    have hsl : sliced (some ⟨b, 0, none⟩) 0 n cap sz = .slice (some ⟨b, 0, none⟩) n cap := by
      unfold sliced
      by_cases hc : cap = 0
      · rw [if_pos hc]
        subst hc
        rfl
      · rw [if_neg hc]
        simp [Addr.add_lit]
    refine ⟨.value (.slice (some ⟨b, 0, none⟩) n cap), w, ?_, .inl ⟨_, rfl, upd γ id (.slice (some ⟨b, 0, none⟩) n cap, undef), ?_⟩⟩
    · simp only [execOp, hev, e2, Option.map_some, Option.map_none, Sem.run_bind, run_sliceAt_slice w t _ _ _ _ (elem_of ht), run_slice_h w t (some ⟨b, 0, none⟩) rows.length cap (elem_of ht) k (n : Int) (by omega) (by omega), elem_eq ht, hsz w, Result.andThen_ok, Sem.run_pure, Int.toNat_natCast, hsl]
    · have s' := s.renew (some id) id (.slice (some ⟨b, 0, none⟩) n cap, undef) (.rows e' sz (rows.take n)) hpin (fun i h => by cases h; exact ⟨_, ho⟩) rfl rfl rfl (Nat.le_refl _) (fun _ _ _ => rfl) (fun b' hb => by
        unfold Blk at hb
        rw [upd_same] at hb
        rcases hb with hb | hb
        · cases hb
          exact ⟨(s.lt id _ b ho (.inl (by rw [hg]; rfl))).1, .inr ⟨id, rfl, .inl (by rw [hg]; rfl)⟩⟩
        · cases hb) (fun b _ h => by cases h) (fun M' _ => by
        obtain ⟨v', cs', h1, h2⟩ := hrows (.slice (some ⟨b, 0, none⟩) n cap) [] ⟨by rw [List.length_take, hcl]; exact Nat.min_eq_left (Nat.mul_le_mul_right _ hn), .inr ⟨b, cap, cur, rfl, Nat.zero_le _, hh', by omega, hmx, hcs, by rw [← htk, List.take_take, Nat.min_eq_left (Nat.mul_le_mul_right _ hn)]⟩⟩
        exact ⟨v', cs', by rw [upd_same]; exact h1, h2⟩)
      refine s'.put (some d) (fun k hk => by cases hk; exact blt_lt hd) ?_
      have := Rep.sl (w := w) (N := C.N) (M := Mut (upd γ id (.slice (some ⟨b, 0, none⟩) n cap, undef)) (((σ.drop (some id)).kill id).set id (some (.rows e' sz (rows.take n)))).heap) (fun i => (upd γ id (.slice (some ⟨b, 0, none⟩) n cap, undef) i).1) id
      simp only [upd_same] at this
      exact this
end
end Go.Proofs.YtignjjnflcpiiaaGreatDoor
/- More rules: nothing appended; a slice without room, and what is appended to it; a slice's end cleared; calls that give back a slice of rows of their own beside other things. -/
namespace Go.Proofs.YtignjjnflcpiiaaGreatDoor
open Go.RowKit
section
variable {C : Cx} {σ : St} {ty : TypeId} {pos : String} {af : Array Edge} {g : Option (Nat × Bool)} {x y z : Operand} {t : TypeId} {d : Nat} {k k' k2 : IntKind} {m n : Int}
theorem w_clear {d : Option Nat} {id off m' sz : Nat} {e e' : TypeId} {rows : List (List AV)} {zc : List AV} (hx : σ.ev x = .sub id sz off m') (ho : σ.heap id = some (.rows e' sz rows)) (hm : off + m' = rows.length) (hm0 : 0 < m') (ht : C.P.underlying t = some (.slice e)) (hz : zeroL C.P e = some zc) (hzl : zc.length = sz) (hzf : zc.all AV.flat = true) (hd : dstOk C.n ⟨d, .call { callee := .builtin .clear, args := #[x], argTypes := #[t] }, ty, pos, af, g⟩ = true) :
    Wr C ⟨d, .call { callee := .builtin .clear, args := #[x], argTypes := #[t] }, ty, pos, af, g⟩ σ ((σ.set id (some (.rows e' sz (rows.take off ++ List.replicate m' (List.replicate sz .any))))).puto d (.tup [])) := wr_of fun γ a w s => by
  have e1 := s.ev x
  rw [hx] at e1
  obtain ⟨b, len, cap0, hb, hoff, hcap0, hev⟩ := e1.sub_inv
  obtain ⟨v, cs, hgg, ⟨hcl, hown⟩, hsz0, hl, hr⟩ := s.obj id _ ho
  rcases hown with ⟨rfl, hz0⟩ | ⟨b', cap, cur, rfl, _, hh, hnc, hcm, hcs, htk⟩
  · rw [hgg] at hb; cases hb
  have hb' : b' = b ∧ rows.length = len := by rw [hgg] at hb; cases hb; exact ⟨rfl, rfl⟩
  obtain ⟨rfl, rfl⟩ := hb'
  obtain ⟨it, z, hi, hz0, hzc⟩ := zeroL_spec hz
  have hzsz : z.cells.size = sz := by rw [← hzl, ← hzc]; simp
  have hone0 : ∀ u ∈ z.cells.toList, u.oneCell' = true := fun u hu => by
    have h1 : ofConst u ∈ zc := by rw [← hzc]; exact List.mem_map.2 ⟨u, hu, rfl⟩
    have h2 := List.all_eq_true.1 hzf _ h1
    have h3 := ofConst_rep (w := w) (N := 0) (M := fun _ => False) (γ := g0) u
    exact flat_cell (h3.flat h2) h2
  let news : List Value := (Builtin.zeroCells z.cells m').toList
  have hnl : news.length = m' * sz := by simp only [news, Array.length_toList, size_zeroCells, hzsz]
  have hone : ∀ u ∈ news, u.oneCell' = true := fun u hu => by
    simp only [news, Builtin.zeroCells, Array.toList_map, Array.toList_range] at hu
    obtain ⟨j, hj, rfl⟩ := List.mem_map.1 hu
    have hlt : j % z.cells.size < z.cells.size := Nat.mod_lt _ (by rw [hzsz]; exact hsz0)
    rw [getElem!_pos z.cells _ hlt]
    exact hone0 _ (Array.getElem_mem_toList _)
  have hms : off * sz + m' * sz = rows.length * sz := by rw [← Nat.add_mul, hm]
  have hcapsz : rows.length * sz ≤ cap * sz := Nat.mul_le_mul_right _ hnc
  have hst := run_storeCells_at C.P b' (off * sz) e' news 0 cur w hh (by rw [hnl, hcs]; omega) hone
  simp only [Nat.add_zero] at hst
  let row' := (cur.toList.take (off * sz) ++ news ++ cur.toList.drop (off * sz + news.length)).toArray
  obtain ⟨f1, f2, f3, f4⟩ := setRow_facts w b' row'
  have hne' : ∀ k, k ≠ b' → (w.setRow b' row').heap[k]? = w.heap[k]? := fun k hk => setRow_other w b' k _ hk
  have hrun : (Builtin.clear_ #[t] ty #[.slice (some ⟨b', off * sz, none⟩) m' (cap0 - off)]).run C.P w = .ok (.tuple #[]) (w.setRow b' row') := by
    obtain ⟨q, rfl⟩ : ∃ q, m' = q + 1 := ⟨m' - 1, by omega⟩
    simp only [news] at hst
    simp [Builtin.clear_, run_underlying ht, zeroValue, typeInfo, hi, hz0, hst, row', news]
  have hex : (execOp a.eval ⟨d, .call { callee := .builtin .clear, args := #[x], argTypes := #[t] }, ty, pos, af, g⟩).run C.P w = .ok (.value (.tuple #[])) (w.setRow b' row') := by
    simp [execOp, resolve, invoke, builtin, hev, hrun]
  refine ⟨_, _, hex, .inl ⟨_, rfl, γ, ?_⟩⟩
  have hlen : (rows.take off ++ List.replicate m' (List.replicate sz AV.any)).length = rows.length := by simp; omega
  have s' := s.update ho (.rows e' sz (rows.take off ++ List.replicate m' (List.replicate sz .any))) f1 f2 f3 (by omega) (fun k _ hk => hne' k (fun e => hk (.inl (by rw [e, hgg]; rfl)))) (by
    have hcst : (cs.take (off * sz) ++ news).length = rows.length * sz := by rw [List.length_append, List.length_take, hcl, hnl]; omega
    have hct : cur.toList.take (off * sz) = cs.take (off * sz) := by rw [← htk, List.take_take, Nat.min_eq_left (by omega)]
    refine ⟨.slice (some ⟨b', 0, none⟩) rows.length cap, cs.take (off * sz) ++ news, hgg, ⟨by rw [hlen]; exact hcst, .inr ⟨b', cap, row', by rw [hlen], Nat.zero_le _, setRow_heap w b' cur _ e' _ hh, by rw [hlen]; exact hnc, hcm, ?_, ?_⟩⟩, hsz0, fun i hi => ?_, fun i hi j hj => ?_⟩
    · simp only [row', List.size_toArray, List.length_append, List.length_take, List.length_drop, Array.length_toList, hnl, hcs]; omega
    · rw [hlen]
      simp only [row']
      rw [hct]
      exact List.take_left' hcst
    · by_cases hio : i < off
      · rw [List.getElem_append_left (by rw [List.length_take]; omega), List.getElem_take]; exact hl _ _
      · rw [List.getElem_append_right (by rw [List.length_take]; omega), List.getElem_replicate, List.length_replicate]
    · rw [hlen] at hi
      by_cases hio : i < off
      · have e1 : (rows.take off ++ List.replicate m' (List.replicate sz AV.any))[i]'(by rw [hlen]; exact hi) = rows[i]'hi := by
          rw [List.getElem_append_left (by rw [List.length_take]; omega), List.getElem_take]
        have hj' : j < (rows[i]'hi).length := by rw [e1] at hj; exact hj
        obtain ⟨u, hu, hf⟩ := hr i hi j hj'
        rw [hl i hi] at hj'
        have h2 : (i + 1) * sz ≤ off * sz := Nat.mul_le_mul_right _ hio
        rw [Nat.add_mul] at h2
        refine ⟨u, ?_, by simp only [e1]; exact hf⟩
        rw [List.getElem?_append_left (by rw [List.length_take, hcl]; omega), List.getElem?_take, if_pos (by omega)]
        exact hu
      · have e1 : (rows.take off ++ List.replicate m' (List.replicate sz AV.any))[i]'(by rw [hlen]; exact hi) = List.replicate sz AV.any := by
          rw [List.getElem_append_right (by rw [List.length_take]; omega), List.getElem_replicate]
        have hj' : j < sz := by rw [e1, List.length_replicate] at hj; exact hj
        have h2 : (i + 1) * sz ≤ rows.length * sz := Nat.mul_le_mul_right _ hi
        rw [Nat.add_mul] at h2
        refine ⟨(cs.take (off * sz) ++ news)[i * sz + j]'(by omega), List.getElem?_eq_getElem _, ?_⟩
        simp only [e1, List.getElem_replicate]
        exact .any _)
  exact s'.put d (dstOk_spec hd) (.tup _ [] [] rfl (fun i h => absurd h (Nat.not_lt_zero _)))
end
def CMake (X : Gx) (f : FuncId) (as : List AV) (e : TypeId) (sz : Nat) (rows : List (List AV)) (pre post : List AV) : Prop :=
  ∀ (w : World) (vs : List Value), X.G w → X.nG ≤ w.heap.size → vs.length = as.length → (∀ i (h : i < as.length) (h' : i < vs.length), Rep w 0 (fun _ => False) g0 as[i] vs[i]) →
    Calls X.P f vs.toArray w (fun en w' => ∃ u v cs, en = .returned u ∧ Ext w w' ∧ w'.ownsRow w.heap.size e sz v rows.length cs ∧ 0 < sz ∧ (∀ i (h : i < rows.length), rows[i].length = sz) ∧
      (∀ i (h : i < rows.length) j (hj : j < rows[i].length), ∃ x, cs[i * sz + j]? = some x ∧ FRep rows[i][j] x) ∧ ∀ (t : Nat) (γ : Nat → Value) (N : Nat) (M : Nat → Prop), γ t = v → Rep w' N M γ (.tup (pre ++ .sl t :: post)) u)
def RetMk (rs : List ResultVar) (e : TypeId) (sz : Nat) (rows : List (List AV)) (pre post : List AV) : Exit → St → Prop
  | .normal, σ | .ret, σ => ∃ (id : Nat) (ts : List Nat), rs = ts.map ResultVar.tmp ∧ ts.map σ.env = pre ++ .sl id :: post ∧ σ.heap id = some (.rows e sz rows)
  | _, _ => False
theorem run_resultT {P : Program} {fn : Func} {a : Act} {w : World} {ts : List Nat} (h1 : fn.results.toList = ts.map ResultVar.tmp) (h2 : 2 ≤ ts.length) : (results fn a.tmps).run P w = .ok (.tuple (ts.map (fun t => a.tmps.getD t undef)).toArray) w := by
  have hrun := mapM_results (P := P) (w := w) (tmps := a.tmps) fn.results.toList (ts.map (fun t => a.tmps.getD t undef)) (by rw [h1]; simp) (fun i hi hx => by
    simp only [h1, List.getElem_map]
    rfl)
  unfold results
  rw [Array.mapM_eq_mapM_toList]
  simp only [Sem.run_bind, Sem.run_map, Sem.run_pure]
  refine (congrArg (fun r : Result (List Value) => (r.andThen fun a w' => .ok a.toArray w').andThen fun a w' => .ok (if h : a.size = 1 then a[0] else .tuple a) w') hrun).trans ?_
  simp only [Result.andThen_ok]
  rw [dif_neg (by simp; omega)]
theorem cmake_of {X : Gx} {f : FuncId} {fn : Func} {c : Code} {as : List AV} {e : TypeId} {sz : Nat} {rows : List (List AV)} {pre post : List AV} (hf : X.P.funcs[f]? = some fn) (hb : fn.body = some c) (hn : as.length ≤ fn.ntmps) (ho : AV.noFrL as = true) (h2 : 2 ≤ (pre ++ AV.nili :: post).length) (hs1 : pre.all AV.scal = true) (hs2 : post.all AV.scal = true)
    (h : ∀ w (hw : X.nG ≤ w.heap.size), Tri (cx X fn.ntmps w hw) c (St.start as) (RetMk fn.results.toList e sz rows pre post)) : CMake X f as e sz rows pre post := by
  intro w vs hG hw hl hr
  refine calls_of_wp hf hb (wp_mono (h w hw (fun _ => (undef, undef)) _ w ?_) ?_)
  · refine { obj := fun id o h => (by cases h), disj := fun id id' o o' b h => (by cases h), two := fun id o b h => (by cases h), lt := fun id o b h => (by cases h), chg := Chg.refl _ _, glob := hG, pins := fun id o v h => (by cases h), env := fun t => ?_, size := ?_, defers := rfl }
    · show Rep w w.heap.size _ _ (as.getD t .any) _
      rcases Nat.lt_or_ge t as.length with ht | ht
      · have h1 : as.getD t .any = as[t] := by rw [List.getD_eq_getElem?_getD, List.getElem?_eq_getElem ht]; rfl
        have h2 : (vs.toArray ++ Array.replicate (fn.ntmps - vs.toArray.size) undef).getD t undef = vs[t]'(by omega) := by
          rw [Array.getD_eq_getD_getElem?, Array.getElem?_append_left (by simp; omega)]
          simp [show t < vs.length by omega]
        rw [h1, h2]
        exact ((hr t ht (by omega)).old (noFrL_get _ ho t ht)).mono (fun _ _ _ => rfl) (fun b hb h => by obtain ⟨_, _, h, _⟩ := h; cases h) (Nat.le_refl _) _ (fun _ _ => rfl)
      · have h1 : as.getD t .any = .any := by rw [List.getD_eq_getElem?_getD, List.getElem?_eq_none ht]; rfl
        rw [h1]
        exact .any _ _
    · show (vs.toArray ++ Array.replicate (fn.ntmps - vs.toArray.size) undef).size = fn.ntmps
      simp; omega
  · have fin : ∀ (a : Act) (w' : World) γ σ, SR (cx X fn.ntmps w hw) γ σ a w' → (∃ (id : Nat) (ts : List Nat), fn.results.toList = ts.map ResultVar.tmp ∧ ts.map σ.env = pre ++ .sl id :: post ∧ σ.heap id = some (.rows e sz rows)) →
        a.defers = [] ∧ ∃ v, (results fn a.tmps).run X.P w' = .ok v w' ∧ ∃ u v' cs, Ending.returned v = .returned u ∧ Ext w w' ∧ w'.ownsRow w.heap.size e sz v' rows.length cs ∧ 0 < sz ∧ (∀ i (h : i < rows.length), rows[i].length = sz) ∧
          (∀ i (h : i < rows.length) j (hj : j < rows[i].length), ∃ x, cs[i * sz + j]? = some x ∧ FRep rows[i][j] x) ∧ ∀ (t : Nat) (γ : Nat → Value) (N : Nat) (M : Nat → Prop), γ t = v' → Rep w' N M γ (.tup (pre ++ .sl t :: post)) u := by
      rintro a w' γ σ s ⟨id, ts, h1, h3, h4⟩
      obtain ⟨v, cs, g1, g2, g3, g4, g5⟩ := s.obj id _ h4
      have htl : ts.length = (pre ++ AV.nili :: post).length := by
        have := congrArg List.length h3
        simpa using this
      refine ⟨s.defers, _, run_resultT h1 (by omega), _, v, cs, rfl, Chg.ext s.chg, ownsRow_from g2 (fun b hb => ?_), g3, g4, g5, fun t δ N M hδ => ?_⟩
      · rcases (s.lt id _ b h4 (.inl (by rw [g1]; exact hb))).2 with h | h
        · exact h.elim
        · exact h
      · have hlen : (pre ++ AV.sl t :: post).length = ts.length := by rw [htl]; simp
        refine .tup _ _ _ (by rw [List.length_map]; exact hlen.symm) (fun i hi hx => ?_)
        rw [List.length_map] at hx
        have henv := s.env ts[i]
        have hei : σ.env ts[i] = (pre ++ AV.sl id :: post)[i]'(by rw [hlen.symm] at hx; simpa using hx) := by
          have := congrArg (fun l => l[i]?) h3
          simp only [List.getElem?_map] at this
          rw [List.getElem?_eq_getElem hx, List.getElem?_eq_getElem (by rw [hlen.symm] at hx; simpa using hx)] at this
          exact Option.some.inj this
        rw [List.getElem_map]
        rw [hei] at henv
        rcases Nat.lt_trichotomy i pre.length with hlt | heq | hgt
        · rw [List.getElem_append_left hlt] at henv ⊢
          exact henv.scal (List.all_eq_true.1 hs1 _ (List.getElem_mem _))
        · subst heq
          rw [List.getElem_append_right (Nat.le_refl _)] at henv ⊢
          simp only [Nat.sub_self, List.getElem_cons_zero] at henv ⊢
          have hv := henv.sl_inv
          simp only [g1] at hv
          rw [hv]
          have := Rep.sl (w := w') (N := N) (M := M) δ t
          rw [hδ] at this
          exact this
        · obtain ⟨q, hq⟩ : ∃ q, i = pre.length + (q + 1) := ⟨i - pre.length - 1, by omega⟩
          subst hq
          have hql : q < post.length := by simp at hi; omega
          have e1 : ∀ x : AV, (pre ++ x :: post)[pre.length + (q + 1)]'(by simp; omega) = post[q] := fun x => by
            rw [List.getElem_append_right (by omega)]
            simp
          rw [e1] at henv
          rw [e1]
          exact henv.scal (List.all_eq_true.1 hs2 _ (List.getElem_mem _))
    rintro e a w' ⟨γ, σ, q, s⟩
    cases e with
    | normal => exact fin a w' γ σ s q
    | ret => exact fin a w' γ σ s q
    | _ => exact q.elim
section
variable {C : Cx} {σ : St} {d : Nat} {ty : TypeId} {pos : String} {af : Array Edge} {g : Option (Nat × Bool)}
theorem w_make (t : Nat) {f : FuncId} {xs : Array Operand} {ts : Array TypeId} {as : List AV} {e : TypeId} {sz : Nat} {rows : List (List AV)} {pre post : List AV} (hc : CMake C.toGx f as e sz rows pre post) (hcf : ∀ args w, (callFunc f args).run C.P w = .ok (.enter f args) w)
    (ha : AV.fzL σ.heap false (xs.toList.map σ.ev) = as) (hd : Nat.blt d C.n = true) (hpin : C.pin t = none) :
    Wr C ⟨some d, .call { callee := .value (.func f), args := xs, argTypes := ts }, ty, pos, af, g⟩ σ (((σ.kill t).set t (some (.rows e sz rows))).put d (.tup (pre ++ .sl t :: post))) := by
  intro γ a w s
  obtain ⟨h1, h2⟩ := args_rep (σ := σ) s.toHR (fun x _ => s.ev x) ha
  have hcall := hc w (xs.map a.eval).toList s.glob (Nat.le_trans C.hn s.chg.size) h1 h2
  unfold Oper.wp
  have hr : (execOp a.eval ⟨some d, .call { callee := .value (.func f), args := xs, argTypes := ts }, ty, pos, af, g⟩).run C.P w = .ok (.enter f (xs.map a.eval)) w := by
    simp [execOp, resolve, Act.eval, Deferred.ofValue, invoke, hcf]
  rw [hr, Oper.upon_enter]
  simp only [Array.toArray_toList] at hcall
  refine hcall.mono ?_
  rintro en w' ⟨u, v, cs, rfl, hx, hown, h3, h4, h5, h6⟩
  refine ⟨upd γ t (v, undef), ?_⟩
  have s' := s.renew none t (v, undef) (.rows e sz rows) hpin (fun i h => by cases h) hx.os hx.tape hx.output hx.size (fun k hk _ => hx.block k hk) (fun k hk => by
    unfold Blk at hk
    rw [upd_same] at hk
    rcases hk with hk | hk
    · obtain ⟨a1, a2⟩ := ownsRow_blk hown hk
      exact ⟨a2, .inl a1⟩
    · cases hk) (fun k _ h => by cases h) (fun M' _ => ⟨v, cs, by rw [upd_same], ownsRow_low hown, h3, h4, h5⟩)
  exact s'.put (some d) (fun k hk => by cases hk; exact blt_lt hd) (h6 t _ _ _ (by simp only [upd_same]))
end
def loopsC : Code → List Code
  | .seq a b => loopsC a ++ loopsC b
  | .cond _ a b => loopsC a ++ loopsC b
  | .block _ c => loopsC c
  | .loop c => c :: loopsC c
  | .scope c => loopsC c
  | _ => []
def loopN (f : Func) (k : Nat) : Code := ((f.body.map loopsC).getD []).getD k .skip
end Go.Proofs.YtignjjnflcpiiaaGreatDoor
/- Comparisons of what is the same. -/
namespace Go.Proofs.YtignjjnflcpiiaaGreatDoor
open Go.RowKit
section
variable {C : Cx} {σ : St} {ty t t' : TypeId} {pos : String} {af : Array Edge} {g : Option (Nat × Bool)} {x y : Operand} {d : Option Nat}
theorem q_eqss {u : List UInt8} (hx : σ.ev x = .str u) (hy : σ.ev y = .str u) : Qd C ⟨d, .binOp .eql t x y t', ty, pos, af, g⟩ σ (.bool true) := by
  have := q_eqls (C := C) (d := d) (t := t) (t' := t') (ty := ty) (pos := pos) (af := af) (g := g) hx hy
  simpa using this
end
end Go.Proofs.YtignjjnflcpiiaaGreatDoor
