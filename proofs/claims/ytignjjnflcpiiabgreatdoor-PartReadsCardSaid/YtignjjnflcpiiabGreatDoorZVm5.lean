import Derived.Test.YtignjjnflcpiiabGreatDoorZVm4
set_option linter.unusedVariables false
set_option linter.unusedSimpArgs false
set_option maxHeartbeats 1000000
namespace Go.Proofs.YtignjjnflcpiiabGreatDoor
open Go.RowKit
section
variable {C : Cx} {wr : Oper → Bool} {ops : Array Oper} {σ : St} {K : St → Prop}
end
end Go.Proofs.YtignjjnflcpiiabGreatDoor
/- More rules: results beside an object of the caller's; slices of parts of the frame's own; functions that make or change a slice of rows. -/
namespace Go.Proofs.YtignjjnflcpiiabGreatDoor
open Go.RowKit
def restH (H : Heap) : Heap := fun i => match i with
  | 0 => none
  | i + 1 => H (i + 1)
def endO (o' : Option AObj) (H : Heap) : Prop := match o' with
  | none => (H 0).isSome = true
  | some p => H 0 = some p
def RetQB (P : Program) (rs : List ResultVar) (res : AV) (o' : Option AObj) : Exit → St → Prop
  | .normal, σ | .ret, σ => cellOk P σ rs ∧ retV (retLH (restH σ.heap) σ rs) = res ∧ endO o' σ.heap
  | _, _ => False
theorem ceff_ofb {X : Gx} {f : FuncId} {fn : Func} {c : Code} {cells : List AV} {as : List AV} {o' : Option AObj} {res : AV} (hf : X.P.funcs[f]? = some fn) (hb : fn.body = some c) (hn : as.length ≤ fn.ntmps)
    (h : ∀ w γ (hw : X.nG ≤ w.heap.size) (hM : ∀ b, Blk γ 0 b → X.nG ≤ b), Tri (cxe X fn.ntmps w γ hw hM) c (St.starte as (.box cells)) (RetQB X.P fn.results.toList res o')) : CEff X f (.box cells) as o' res := by
  intro w γ vs hw hM hr hl hrep
  refine calls_of_wp hf hb (wp_mono (h w γ hw hM γ _ w ?_) ?_)
  · refine { hr.cxn with env := fun t => ?_, size := ?_, defers := rfl }
    · show Rep w w.heap.size _ _ (as.getD t .any) _
      rcases Nat.lt_or_ge t as.length with ht | ht
      · have h1 : as.getD t .any = as[t] := by rw [List.getD_eq_getElem?_getD, List.getElem?_eq_getElem ht]; rfl
        have h2 : (vs.toArray ++ Array.replicate (fn.ntmps - vs.toArray.size) undef).getD t undef = vs[t]'(by omega) := by
          rw [Array.getD_eq_getD_getElem?, Array.getElem?_append_left (by simp; omega)]
          simp [show t < vs.length by omega]
        rw [h1, h2]
        exact hrep t ht (by omega)
      · have h1 : as.getD t .any = .any := by rw [List.getD_eq_getElem?_getD, List.getElem?_eq_none ht]; rfl
        rw [h1]
        exact .any _ _
    · show (vs.toArray ++ Array.replicate (fn.ntmps - vs.toArray.size) undef).size = fn.ntmps
      simp; omega
  · have fin : ∀ (a : Act) (w' : World) γ' σ, SR (cxe X fn.ntmps w γ hw hM) γ' σ a w' → (cellOk X.P σ fn.results.toList ∧ retV (retLH (restH σ.heap) σ fn.results.toList) = res ∧ endO o' σ.heap) →
        a.defers = [] ∧ ∃ v, (results fn a.tmps).run X.P w' = .ok v w' ∧ ∃ v' γ'', Ending.returned v = .returned v' ∧ HR (cxe X 0 w γ hw hM) γ'' (heap1 o') w' ∧ Rep w' w.heap.size (Mut γ'' (heap1 o')) g0 res v' := by
      intro a w' γ' σ s ⟨q1, q2, q3⟩
      have hsub : ∀ (id : Nat) (p : AObj), heap1 o' id = some p → σ.heap id = some p := fun id p hp => by
        cases id with
        | zero =>
          cases o' with
          | none => cases hp
          | some p' => cases hp; exact q3
        | succ id => cases hp
      have hmut : ∀ b, Mut γ' (heap1 o') b → Mut γ' σ.heap b := fun b ⟨id, p, h1, h2⟩ => ⟨id, p, hsub id p h1, h2⟩
      obtain ⟨p0, hp0⟩ : ∃ p, σ.heap 0 = some p := by
        cases o' with
        | none => exact Option.isSome_iff_exists.1 q3
        | some p => exact ⟨p, q3⟩
      have hb0 : ∀ b, Blk γ 0 b → Blk γ' 0 b := fun b hb => by
        obtain ⟨b0, c, e, hg, _⟩ := hr.obj 0 _ rfl
        have hpin := s.pins 0 p0 (γ 0).1 rfl hp0
        unfold Blk at hb
        rcases hb with hb | hb
        · exact .inl (by rw [hpin]; exact hb)
        · rw [hg] at hb; cases hb
      have hs1 : ∀ (id : Nat) (o : AObj), restH σ.heap id = some o → σ.heap id = some o ∧ id ≠ 0 := fun id o ho => by
        cases id with
        | zero => cases ho
        | succ id => exact ⟨ho, Nat.succ_ne_zero _⟩
      obtain ⟨v, h1, h2⟩ := run_resultsH (C := cxe X fn.ntmps w γ hw hM) (fn := fn) (restH σ.heap) (Mut γ' (heap1 o')) s (fun v x hv => hv.frzM s.toHR (fun id o ho => (hs1 id o ho).1) hmut (fun id o b ho hv' hm => by
          obtain ⟨j, p, h1, h2⟩ := hm
          cases j with
          | succ j => cases h1
          | zero => exact (hs1 id o ho).2 (s.disj id 0 o p b (hs1 id o ho).1 (hsub 0 p h1) (.inl hv') h2)) true (fun _ => Nat.le_refl _) (fun _ id o b ho hv' hm => (hs1 id o ho).2 (s.disj id 0 o p0 b (hs1 id o ho).1 hp0 (.inl hv') (hb0 b hm)))) q1
      rw [q2] at h2
      refine ⟨s.defers, v, h1, v, γ', rfl, ?_, h2⟩
      exact { obj := fun id p hp => (s.obj id p (hsub id p hp)).mono (fun _ _ _ => rfl) (fun b _ => hmut b) (fun _ _ => rfl), disj := fun id id' p p' b h h' => s.disj id id' p p' b (hsub _ _ h) (hsub _ _ h'), two := fun id p b h => s.two id p b (hsub _ _ h), lt := fun id p b h => s.lt id p b (hsub _ _ h), chg := s.chg, glob := s.glob, pins := fun id p v hp h => s.pins id p v hp (hsub _ _ h) }
    rintro e a w' ⟨γ', σ, q, s⟩
    cases e with
    | normal => exact fin a w' γ' σ s q
    | ret => exact fin a w' γ' σ s q
    | _ => exact q.elim
theorem UpL.refl : ∀ l : List AV, UpL l l
  | [] => .nil
  | a :: l => .cons (Up.refl a) (UpL.refl l)
theorem Up.agg {l r : List AV} (h : UpL l r) : Up (.agg l) (.agg r) := fun w N M γ v hv => by
  obtain ⟨hl, hg⟩ := h.get
  obtain ⟨xs, rfl, hxl, hx⟩ := hv.agg_inv
  exact .agg _ _ _ (by omega) (fun i hi hxi => hg i (by omega) hi w N M γ _ (hx i (by omega) hxi))
theorem CEff.up {X : Gx} {f : FuncId} {o : AObj} {l : List AV} {o' : Option AObj} {a b : AV} (h : CEff X f o l o' a) (hu : Up a b) : CEff X f o l o' b := by
  intro w γ vs hn hM hr hl hrep
  refine (h w γ vs hn hM hr hl hrep).mono ?_
  rintro e w' ⟨v, γ', he, h2, hv⟩
  exact ⟨v, γ', he, h2, hu _ _ _ _ _ hv⟩
theorem PtCells.mono {w w' : World} {ok ok' : Nat → Prop} (hk : ∀ b o v, ok b → w.cell? ⟨b, o, none⟩ = some v → ok' b ∧ w'.cell? ⟨b, o, none⟩ = some v) {p : PT} {c : Nat → Option Value} (h : PtCells w ok p c) : PtCells w' ok' p c := by
  obtain ⟨hv, pv, a1, a2, a3, a4, a5, a6⟩ := h
  exact ⟨hv, pv, a1, a2, a3, a4, a5.mono hk, a6.mono hk⟩
theorem rows_one {w : World} {ok : Nat → Prop} {sz : Nat} {rows : List (List AV)} {v : Value} (h : RowsAt w ok sz rows v) : v.oneCell' = true := by
  rcases h with ⟨_, a, c, rfl, _⟩ | ⟨b, o, cap, cs, rfl, _⟩ <;> rfl
theorem pts_one {w : World} {ok : Nat → Prop} {l : List PT} {v : Value} (h : PtsRep w ok l v) : v.oneCell' = true := by
  cases h <;> rfl
theorem pts_cells {w : World} {ok : Nat → Prop} {l : List PT} {v : Value} (h : PtsRep w ok l v) (hne : l ≠ []) :
    ∃ (a : Addr) (c : Nat) (news : List Value), v = .slice (some a) l.length c ∧ 0 < l.length ∧ news.length = l.length * 4 ∧ (∀ j u, news[j]? = some u → w.cell? (a.add j) = some u) ∧ (∀ u ∈ news, u.oneCell' = true) ∧
      ∀ i (h : i < l.length), PtCells w ok l[i] (fun j => news[i * 4 + j]?) := by
  cases h with
  | nil a cap ha => exact absurd rfl hne
  | mk l b o cap hv pv hok h0 hcap hc hh hp =>
    let cs : Nat → Nat → Value := fun i j => match j with
      | 0 => hv i
      | 1 => .string ⟨((l[i]?.map PT.body).getD []).toArray⟩
      | 2 => .bool ((l[i]?.map PT.many).getD false)
      | _ => pv i
    have hcs : ∀ i (h : i < l.length) j, j < 4 → w.cell? ⟨b, o + i * 4 + j, none⟩ = some (cs i j) := fun i hi j hj => by
      obtain ⟨h1, h2, h3, h4⟩ := hc i hi
      match j, hj with
      | 0, _ => exact h1
      | 1, _ => simp only [cs, List.getElem?_eq_getElem hi, Option.map_some, Option.getD_some]; exact h2
      | 2, _ => simp only [cs, List.getElem?_eq_getElem hi, Option.map_some, Option.getD_some]; exact h3
      | 3, _ => exact h4
    have hone : ∀ i, i < l.length → ∀ j, (cs i j).oneCell' = true := fun i hi j => by
      match j with
      | 0 => exact rows_one (hh i hi)
      | 1 => rfl
      | 2 => rfl
      | j + 3 => exact pts_one (hp i hi)
    have hget : ∀ i, i < l.length → ∀ j, j < 4 → ((List.range (l.length * 4)).map (fun k => cs (k / 4) (k % 4)))[i * 4 + j]? = some (cs i j) := fun i hi j hj => by
      rw [List.getElem?_map, List.getElem?_range (by omega)]
      have h2 : (i * 4 + j) / 4 = i := by omega
      have h3 : (i * 4 + j) % 4 = j := by omega
      simp only [h2, h3, Option.map_some]
    refine ⟨⟨b, o, none⟩, cap, (List.range (l.length * 4)).map (fun k => cs (k / 4) (k % 4)), rfl, h0, by simp, fun j u hj => ?_, fun u hu => ?_, fun i hi => ⟨hv i, pv i, ?_, ?_, ?_, ?_, hh i hi, hp i hi⟩⟩
    · obtain ⟨hjl, hje⟩ := List.getElem?_eq_some_iff.1 hj
      simp at hjl
      simp at hje
      subst hje
      have h2 := hcs (j / 4) (by omega) (j % 4) (by omega)
      rw [Addr.add_lit]
      have : o + j / 4 * 4 + j % 4 = o + j := by omega
      rw [this] at h2
      exact h2
    · obtain ⟨k, hk, rfl⟩ := List.mem_map.1 hu
      rw [List.mem_range] at hk
      exact hone _ (by omega) _
    · exact hget i hi 0 (by omega)
    · have := hget i hi 1 (by omega)
      simp only [cs, List.getElem?_eq_getElem hi, Option.map_some, Option.getD_some] at this
      exact this
    · have := hget i hi 2 (by omega)
      simp only [cs, List.getElem?_eq_getElem hi, Option.map_some, Option.getD_some] at this
      exact this
    · exact hget i hi 3 (by omega)
section
variable {C : Cx} {σ : St} {ty : TypeId} {pos : String} {af : Array Edge} {g : Option (Nat × Bool)} {x y : Operand} {t : TypeId} {d : Nat}
theorem appendp_core {old : Option Nat} {l l2 : List PT} {e : TypeId} {f fr : Bool} (id : Nat) (ht : C.P.underlying t = some (.slice e)) (he : elemB C.P e 4 = true) (hy : σ.ev y = .pts fr l2) (hne : l2 ≠ []) (hff : (!f || fr) = true)
    (hn : l.length + l2.length ≤ 100000000000) (hd : Nat.blt d C.n = true) (hpin : C.pin id = none)
    (hx : ∀ γ (a : Act) (w : World), SR C γ σ a w → ∃ v cs, a.eval x = v ∧ w.ownsRow 0 e 4 v l.length cs ∧ (∀ i (h : i < l.length), PtCells w (Still C.N (Mut γ σ.heap) f) l[i] (fun j => cs[i * 4 + j]?)) ∧
      (∀ i, old = some i → (∃ p, σ.heap i = some p) ∧ γ i = (v, undef)) ∧ (old = none → v = .slice none 0 0)) :
    Wr C ⟨some d, .call { callee := .builtin .append, args := #[x, y], argTypes := #[t, t] }, ty, pos, af, g⟩ σ ((((σ.drop old).kill id).set id (some (.pts f e (l ++ l2)))).put d (.sl id)) := wr_of fun γ a w s => by
  obtain ⟨v, cs, hv, hown, hr, hold, hnil⟩ := hx γ a w s
  have e2 := s.ev y
  rw [hy] at e2
  obtain ⟨ad, c, news, hyv, hm, hnl, hnews, hone, hr2⟩ := pts_cells e2.pts_inv hne
  obtain ⟨i, z, hi, hz, hsz, hby, hzs⟩ := elemB_spec he
  obtain ⟨v', w', h1, h2, h3, h4⟩ := run_append_at (P := C.P) w t ty e i z 4 i.bytes ht hi hz hsz rfl hzs (by decide) v l.length cs hown ad l2.length c news hnl hnews hone hm (by unfold maxLen; omega) (by
    have : (l.length + l2.length) * i.bytes ≤ 100000000000 * 1024 := Nat.mul_le_mul hn hby
    omega)
  have hrun : (execOp a.eval ⟨some d, .call { callee := .builtin .append, args := #[x, y], argTypes := #[t, t] }, ty, pos, af, g⟩).run C.P w = .ok (.value v') w' := by
    simp [execOp, resolve, invoke, builtin, hv, hyv, h1]
  refine ⟨.value v', w', hrun, .inl ⟨v', rfl, upd γ id (v', undef), ?_⟩⟩
  have hvb : ∀ b, v.ownBlock = some b → vblock v = some b := fun b hb => by
    rcases own_v (v := v) with h | ⟨a, rfl⟩
    · rw [← h]; exact hb
    · cases hb
  have hownb : ∀ b, v.ownBlock = some b → Mut γ σ.heap b := fun b hb => by
    cases ho : old with
    | none => rw [hnil ho] at hb; cases hb
    | some j =>
      obtain ⟨⟨p, hp⟩, hg⟩ := hold j ho
      exact ⟨j, p, hp, .inl (by rw [hg]; exact hvb b hb)⟩
  have s' := s.renew old id (v', undef) (.pts f e (l ++ l2)) hpin (fun i hi => (hold i hi).1) h3.os h3.tape h3.output h3.size (fun b hb hno => h3.block b hb (fun e => by
    cases ho : old with
    | none => rw [hnil ho] at e; cases e
    | some i => exact hno i ho (.inl (by rw [(hold i ho).2]; exact hvb b e.symm)))) (fun b hb => by
    unfold Blk at hb
    rw [upd_same] at hb
    rcases hb with hb | hb
    · obtain ⟨h5, h6⟩ := h4 b hb
      refine ⟨h5, ?_⟩
      rcases h6 with h6 | h6
      · exact .inl h6
      · cases ho : old with
        | none => rw [hnil ho] at h6; cases h6
        | some i => exact .inr ⟨i, rfl, .inl (by rw [(hold i ho).2]; exact h6)⟩
    · cases hb) (fun b _ h => by cases h) (fun M' hM' => by
    have mono : ∀ b o u, Still C.N (Mut γ σ.heap) f b → w.cell? ⟨b, o, none⟩ = some u → Still C.N M' f b ∧ w'.cell? ⟨b, o, none⟩ = some u := fun b o u hok hc =>
      still_mono hM' (fun b hb hm => h3.block b hb (fun e => hm (hownb b e.symm))) (Nat.le_refl _) hok hc
    have weak : ∀ b, Still C.N (Mut γ σ.heap) fr b → Still C.N (Mut γ σ.heap) f b := fun b hs => ⟨hs.1, fun hf => hs.2 (by rw [hf] at hff; exact hff)⟩
    refine ⟨v', cs ++ news, by rw [upd_same], by rw [List.length_append]; exact h2, fun k hk => ?_⟩
    rw [List.length_append] at hk
    have hcl : cs.length = l.length * 4 := hown.1
    by_cases hkr : k < l.length
    · have e1 : (l ++ l2)[k]'(by simpa using hk) = l[k] := List.getElem_append_left hkr
      rw [e1]
      obtain ⟨hv, pv, a1, a2, a3, a4, a5, a6⟩ := hr k hkr
      simp only at a1 a2 a3 a4
      refine ⟨hv, pv, ?_, ?_, ?_, ?_, a5.mono mono, a6.mono mono⟩ <;> simp only <;> rw [List.getElem?_append_left (by omega)] <;> assumption
    · have e1 : (l ++ l2)[k]'(by simpa using hk) = l2[k - l.length]'(by omega) := List.getElem_append_right (by omega)
      rw [e1]
      obtain ⟨hv, pv, a1, a2, a3, a4, a5, a6⟩ := hr2 (k - l.length) (by omega)
      simp only at a1 a2 a3 a4
      have idx : ∀ j, k * 4 + j - cs.length = (k - l.length) * 4 + j := fun j => by omega
      refine ⟨hv, pv, ?_, ?_, ?_, ?_, a5.mono (fun b o u hok hc => mono b o u (weak b hok) hc), a6.mono (fun b o u hok hc => mono b o u (weak b hok) hc)⟩ <;> simp only <;> rw [List.getElem?_append_right (by omega), idx] <;> assumption)
  refine s'.put (some d) (fun k hk => by cases hk; exact blt_lt hd) ?_
  have := Rep.sl (w := w') (N := C.N) (M := Mut (upd γ id (v', undef)) (((σ.drop old).kill id).set id (some (.pts f e (l ++ l2)))).heap) (fun i => (upd γ id (v', undef) i).1) id
  simp only [upd_same] at this
  exact this
theorem w_appendp {id : Nat} {l l2 : List PT} {e : TypeId} {f fr : Bool} (hx : σ.ev x = .sl id) (ho : σ.heap id = some (.pts f e l)) (hy : σ.ev y = .pts fr l2) (ht : C.P.underlying t = some (.slice e)) (he : elemB C.P e 4 = true) (hne : l2 ≠ []) (hff : (!f || fr) = true)
    (hn : l.length + l2.length ≤ 100000000000) (hd : Nat.blt d C.n = true) (hpin : C.pin id = none) :
    Wr C ⟨some d, .call { callee := .builtin .append, args := #[x, y], argTypes := #[t, t] }, ty, pos, af, g⟩ σ ((((σ.drop (some id)).kill id).set id (some (.pts f e (l ++ l2)))).put d (.sl id)) :=
  appendp_core id ht he hy hne hff hn hd hpin (fun γ a w s => by
    have e1 := s.ev x
    rw [hx] at e1
    obtain ⟨v, cs, hg, hown, hr⟩ := s.obj id _ ho
    exact ⟨v, cs, by rw [e1.sl_inv, hg], hown, hr, fun i hi => by cases hi; exact ⟨⟨_, ho⟩, hg⟩, fun h => by cases h⟩)
end
section
variable {C : Cx} {σ : St} {d : Nat} {ty : TypeId} {pos : String} {af : Array Edge} {g : Option (Nat × Bool)}
end
section
variable {C : Cx} {σ : St} {d : Nat} {ty : TypeId} {pos : String} {af : Array Edge} {g : Option (Nat × Bool)}
end
section
variable {C : Cx} {σ : St} {ty : TypeId} {pos : String} {af : Array Edge} {g : Option (Nat × Bool)} {x y : Operand} {t : TypeId} {d : Nat} {k : IntKind} {m : Int}
end
end Go.Proofs.YtignjjnflcpiiabGreatDoor
/- More rules: nothing appended; a slice without room, and what is appended to it; a slice's end cleared; calls that give back a slice of rows of their own beside other things. -/
namespace Go.Proofs.YtignjjnflcpiiabGreatDoor
open Go.RowKit
section
variable {C : Cx} {σ : St} {ty : TypeId} {pos : String} {af : Array Edge} {g : Option (Nat × Bool)} {x y z : Operand} {t : TypeId} {d : Nat} {k k' k2 : IntKind} {m n : Int}
end
section
variable {C : Cx} {σ : St} {d : Nat} {ty : TypeId} {pos : String} {af : Array Edge} {g : Option (Nat × Bool)}
end
def loopsC : Code → List Code
  | .seq a b => loopsC a ++ loopsC b
  | .cond _ a b => loopsC a ++ loopsC b
  | .block _ c => loopsC c
  | .loop c => c :: loopsC c
  | .scope c => loopsC c
  | _ => []
def loopN (f : Func) (k : Nat) : Code := ((f.body.map loopsC).getD []).getD k .skip
end Go.Proofs.YtignjjnflcpiiabGreatDoor
