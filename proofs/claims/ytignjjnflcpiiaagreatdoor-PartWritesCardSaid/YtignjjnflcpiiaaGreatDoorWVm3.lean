import Derived.Test.YtignjjnflcpiiaaGreatDoorWVm2
import Derived.Laws.RangeString
import Derived.Lib.OthersKept
set_option linter.unusedVariables false
set_option linter.unusedSimpArgs false
set_option maxHeartbeats 1000000
namespace Go.Proofs.YtignjjnflcpiiaaGreatDoor
open Go.RowKit
theorem own_v {v : Value} : v.ownBlock = vblock v ∨ ∃ a, v = .pointer (some a) := by
  cases v with
  | pointer a => cases a with
    | none => exact .inl rfl
    | some a => exact .inr ⟨a, rfl⟩
  | slice a n c => cases a <;> exact .inl rfl
  | _ => exact .inl rfl
theorem run_append_at {P : Program} (w : World) (t ty e : TypeId) (i : TypeInfo) (z : Value) (size bytes : Nat) (ht : P.underlying t = some (.slice e)) (hi : P.info? e = some i) (hz : i.zero = some z)
    (hsize : i.size = size) (hby : i.bytes = bytes) (hzs : z.cells.size = size) (hsz : 0 < size)
    (v : Value) (n : Nat) (xs : List Value) (hown : w.ownsRow 0 e size v n xs)
    (a : Addr) (m c : Nat) (news : List Value) (hl : news.length = m * size) (hnews : ∀ j u, news[j]? = some u → w.cell? (a.add j) = some u) (h1 : ∀ u ∈ news, u.oneCell' = true)
    (hm : 0 < m) (h63 : n + m ≤ maxLen) (hbytes : (n + m) * bytes ≤ 140737488355328) :
    ∃ v' w', (Builtin.append_ #[t, t] ty #[v, .slice (some a) m c]).run P w = .ok v' w' ∧ w'.ownsRow 0 e size v' (n + m) (xs ++ news) ∧ w.grownBy w' v.ownBlock ∧ (∀ b, vblock v' = some b → b < w'.heap.size ∧ (w.heap.size ≤ b ∨ vblock v = some b)) := by
  have hsmall : n + m ≤ 9223372036854775807 := by simp only [maxLen] at h63; omega
  have lt : ∀ {v' : Value} {w' : World}, w'.ownsRow 0 e size v' (n + m) (xs ++ news) → ∀ b, vblock v' = some b → b < w'.heap.size := by
    intro v' w' h b hb
    refine (h.lt b ?_).2
    rcases own_v (v := v') with h' | ⟨a, rfl⟩
    · rw [h']; exact hb
    · rcases h.2 with ⟨h3, _⟩ | ⟨g, cap, cur, h3, _⟩ <;> cases h3
  rcases hown.2 with ⟨rfl, rfl⟩ | ⟨g, cap, cur, rfl, _, hg, hnc, hcm, hcs, htake⟩
  · have hx : xs = [] := List.eq_nil_of_length_eq_zero (by simpa using hown.1)
    subst hx
    obtain ⟨v', w', h2, h3, h4, _⟩ := run_append_own (P := P) w w.heap.size t ty e i z size bytes ht hi hz hsize hby hzs hsz (.slice none 0 0) 0 [] (World.ownsRow_nil _ _ _ _) a m c news hl hnews h1 h63 hbytes (Nat.le_refl _)
    have h3' : w'.ownsRow 0 e size v' (0 + m) ([] ++ news) := by
      refine ⟨h3.1, ?_⟩
      rcases h3.2 with h | ⟨g, cap, cur, a1, a2, r⟩
      · exact .inl h
      · exact .inr ⟨g, cap, cur, a1, Nat.zero_le _, r⟩
    refine ⟨v', w', h2, h3', h4, fun b hb => ⟨lt h3' b hb, .inl ?_⟩⟩
    refine (h3.lt b ?_).1
    rcases own_v (v := v') with h' | ⟨a, rfl⟩
    · rw [h']; exact hb
    · rcases h3.2 with ⟨h3, _⟩ | ⟨g, cap, cur, h3, _⟩ <;> cases h3
  · obtain ⟨v', w', h2, h3, h4, _⟩ := run_append_own (P := P) w 0 t ty e i z size bytes ht hi hz hsize hby hzs hsz (.slice (some ⟨g, 0, none⟩) n cap) n xs hown a m c news hl hnews h1 h63 hbytes (Nat.zero_le _)
    refine ⟨v', w', h2, h3, h4, fun b hb => ⟨lt h3 b hb, ?_⟩⟩
    subst hsize hby
    by_cases hroom : n + m ≤ cap
    · have hfit : n * i.size + news.length ≤ cur.size := by rw [hl, hcs, ← Nat.add_mul]; exact Nat.mul_le_mul_right _ hroom
      have hr := run_append_room (P := P) w t ty e i ht hi g n cap cur hg a m c news hl hnews h1 hroom hfit
      rw [h2] at hr
      cases hr
      exact .inr hb
    · have holds : ∀ j u, xs[j]? = some u → w.cell? ((⟨g, 0, none⟩ : Addr).add j) = some u := hown.cells (g := g) rfl
      have hr := run_append_grow (P := P) w t ty e i z ht hi hz ⟨g, 0, none⟩ n cap xs hown.1 holds a m c news hl hnews (by omega) (by omega) (growslice_fits (by omega) hbytes)
      rw [h2] at hr
      cases hr
      simp only [vblock, Option.some.injEq] at hb
      exact .inl (by omega)
def elemB (P : Program) (e : TypeId) (sz : Nat) : Bool := match P.info? e with
  | some i => Nat.beq i.size sz && Nat.ble i.bytes 1024 && (match i.zero with
    | some z => Nat.beq z.cells.size sz
    | none => false)
  | none => false
theorem elemB_spec {P : Program} {e : TypeId} {sz : Nat} (h : elemB P e sz = true) : ∃ i z, P.info? e = some i ∧ i.zero = some z ∧ i.size = sz ∧ i.bytes ≤ 1024 ∧ z.cells.size = sz := by
  unfold elemB at h
  cases hi : P.info? e with
  | none => rw [hi] at h; cases h
  | some i =>
    rw [hi] at h
    simp only [Bool.and_eq_true] at h
    obtain ⟨⟨h1, h2⟩, h3⟩ := h
    cases hz : i.zero with
    | none => rw [hz] at h3; cases h3
    | some z => rw [hz] at h3; exact ⟨i, z, rfl, hz, Nat.eq_of_beq_eq_true h1, Nat.le_of_ble_eq_true h2, Nat.eq_of_beq_eq_true h3⟩
theorem flat_cell {v : AV} {x : Value} (h : FRep v x) (hf : v.flat = true) : x.oneCell' = true := by cases h <;> first | rfl | cases hf
section
variable {C : Cx} {σ : St} {ty : TypeId} {pos : String} {af : Array Edge} {g : Option (Nat × Bool)} {x y : Operand} {t : TypeId} {d : Nat}
theorem rows_cells {w : World} {ok : Nat → Prop} {sz : Nat} {rows : List (List AV)} {v : Value} (h : RowsAt w ok sz rows v) (hne : rows ≠ []) :
    ∃ (a : Addr) (c : Nat) (news : List Value), v = .slice (some a) rows.length c ∧ 0 < sz ∧ 0 < rows.length ∧ news.length = rows.length * sz ∧ (∀ j u, news[j]? = some u → w.cell? (a.add j) = some u) ∧ (∀ i (h : i < rows.length), rows[i].length = sz) ∧
      ∀ i (h : i < rows.length) j (hj : j < rows[i].length), ∃ u, news[i * sz + j]? = some u ∧ FRep rows[i][j] u := by
  rcases h with ⟨h, _⟩ | ⟨b, o, cap, cs, hv, hok, h0, hs, hcap, hc, hl, hr⟩
  · exact absurd h hne
  · refine ⟨⟨b, o, none⟩, cap, (List.range (rows.length * sz)).map (fun k => cs (k / sz) (k % sz)), hv, hs, h0, by simp, fun j u hj => ?_, hl, fun i hi j hj => ?_⟩
    · obtain ⟨hjl, hje⟩ := List.getElem?_eq_some_iff.1 hj
      simp at hjl
      simp at hje
      subst hje
      have h1 : j / sz < rows.length := Nat.div_lt_of_lt_mul (by rw [Nat.mul_comm]; exact hjl)
      have h2 := hc (j / sz) h1 (j % sz) (Nat.mod_lt _ hs)
      rw [Addr.add_lit]
      have : o + j / sz * sz + j % sz = o + j := by rw [Nat.add_assoc, Nat.div_add_mod']
      rw [this] at h2
      exact h2
    · have hjs : j < sz := by rw [hl i hi] at hj; exact hj
      have h1 : i * sz + j < rows.length * sz := by
        have : (i + 1) * sz ≤ rows.length * sz := Nat.mul_le_mul_right _ hi
        rw [Nat.add_mul] at this; omega
      refine ⟨cs i j, ?_, hr i hi j hj⟩
      rw [List.getElem?_map, List.getElem?_range h1]
      have h2 : (i * sz + j) / sz = i := by rw [Nat.mul_comm, Nat.mul_add_div hs, Nat.div_eq_of_lt hjs, Nat.add_zero]
      have h3 : (i * sz + j) % sz = j := by rw [Nat.mul_comm, Nat.mul_add_mod, Nat.mod_eq_of_lt hjs]
      simp [h2, h3]
theorem append_core {old : Option Nat} {rows rows2 : List (List AV)} {e sz : Nat} {fr : Bool} (id : Nat) (ht : C.P.underlying t = some (.slice e)) (he : elemB C.P e sz = true) (hy : σ.ev y = .ro fr sz rows2) (hne : rows2 ≠ [])
    (hf : (rows2.all fun r => r.all AV.flat) = true) (hn : rows.length + rows2.length ≤ 100000000000) (hd : Nat.blt d C.n = true) (hpin : C.pin id = none)
    (hx : ∀ γ (a : Act) (w : World), SR C γ σ a w → ∃ v cs, a.eval x = v ∧ w.ownsRow 0 e sz v rows.length cs ∧ (∀ i (h : i < rows.length), rows[i].length = sz) ∧ (∀ i (h : i < rows.length) j (hj : j < rows[i].length), ∃ u, cs[i * sz + j]? = some u ∧ FRep rows[i][j] u) ∧
      (∀ i, old = some i → (∃ p, σ.heap i = some p) ∧ γ i = (v, undef)) ∧ (old = none → v = .slice none 0 0)) :
    Wr C ⟨some d, .call { callee := .builtin .append, args := #[x, y], argTypes := #[t, t] }, ty, pos, af, g⟩ σ ((((σ.drop old).kill id).set id (some (.rows e sz (rows ++ rows2)))).put d (.sl id)) := wr_of fun γ a w s => by
  obtain ⟨v, cs, hv, hown, hl, hr, hold, hnil⟩ := hx γ a w s
  have e2 := s.ev y
  rw [hy] at e2
  obtain ⟨ad, c, news, hyv, hs, hm, hnl, hnews, hl2, hr2⟩ := rows_cells e2.ro_inv hne
  obtain ⟨i, z, hi, hz, hsz, hby, hzs⟩ := elemB_spec he
  have hone : ∀ u ∈ news, u.oneCell' = true := by
    intro u hu
    obtain ⟨k, hk, rfl⟩ := List.mem_iff_getElem.1 hu
    have hks : k / sz < rows2.length := Nat.div_lt_of_lt_mul (by rw [Nat.mul_comm, ← hnl]; exact hk)
    have hkm : k % sz < rows2[k / sz].length := by rw [hl2 _ hks]; exact Nat.mod_lt _ hs
    obtain ⟨u, hu, hfr⟩ := hr2 _ hks _ hkm
    rw [Nat.div_add_mod'] at hu
    obtain ⟨_, hue⟩ := List.getElem?_eq_some_iff.1 hu
    rw [hue]
    exact flat_cell hfr (List.all_eq_true.1 (List.all_eq_true.1 hf _ (List.getElem_mem hks)) _ (List.getElem_mem hkm))
  obtain ⟨v', w', h1, h2, h3, h4⟩ := run_append_at (P := C.P) w t ty e i z sz i.bytes ht hi hz hsz rfl hzs hs v rows.length cs hown ad rows2.length c news hnl hnews hone hm (by unfold maxLen; omega) (by
    have : (rows.length + rows2.length) * i.bytes ≤ 100000000000 * 1024 := Nat.mul_le_mul hn hby
    omega)
  have hrun : (execOp a.eval ⟨some d, .call { callee := .builtin .append, args := #[x, y], argTypes := #[t, t] }, ty, pos, af, g⟩).run C.P w = .ok (.value v') w' := by
    simp [execOp, resolve, invoke, builtin, hv, hyv, h1]
  refine ⟨.value v', w', hrun, .inl ⟨v', rfl, upd γ id (v', undef), ?_⟩⟩
  have hvb : ∀ b, v.ownBlock = some b → vblock v = some b := fun b hb => by
    rcases own_v (v := v) with h | ⟨a, rfl⟩
    · rw [← h]; exact hb
    · cases hb
  have s' := s.renew old id (v', undef) (.rows e sz (rows ++ rows2)) hpin (fun i hi => (hold i hi).1) h3.os h3.tape h3.output h3.size (fun b hb hno => h3.block b hb (fun e => by
    cases ho : old with
    | none => rw [hnil ho] at e; cases e
    | some i => exact hno i ho (.inl (by rw [(hold i ho).2]; exact hvb b e.symm)))) (fun b hb => by
    unfold Blk at hb
    rw [upd_same] at hb
    rcases hb with hb | hb
    · obtain ⟨h5, h6⟩ := h4 b hb
      refine ⟨h5, ?_⟩
      rcases h6 with h6 | h6
      · exact .inl h6
      · cases ho : old with
        | none => rw [hnil ho] at h6; cases h6
        | some i => exact .inr ⟨i, rfl, .inl (by rw [(hold i ho).2]; exact h6)⟩
    · cases hb) (fun b _ h => by cases h) (fun M' _ => by
    refine ⟨v', cs ++ news, by rw [upd_same], by rw [List.length_append]; exact h2, hs, fun k hk => ?_, fun k hk j hj => ?_⟩
    · rw [List.getElem_append]
      split
      · exact hl _ _
      · exact hl2 _ _
    · rw [List.length_append] at hk
      have hcl : cs.length = rows.length * sz := hown.1
      by_cases hkr : k < rows.length
      · have e1 : (rows ++ rows2)[k]'(by simpa using hk) = rows[k] := List.getElem_append_left hkr
        have hj' : j < rows[k].length := by rw [e1] at hj; exact hj
        obtain ⟨u, hu, hfr⟩ := hr k hkr j hj'
        refine ⟨u, ?_, ?_⟩
        · rw [List.getElem?_append_left (List.getElem?_eq_some_iff.1 hu).1]; exact hu
        · simp only [e1]; exact hfr
      · have e1 : (rows ++ rows2)[k]'(by simpa using hk) = rows2[k - rows.length]'(by omega) := List.getElem_append_right (by omega)
        have hj' : j < (rows2[k - rows.length]'(by omega)).length := by rw [e1] at hj; exact hj
        obtain ⟨u, hu, hfr⟩ := hr2 (k - rows.length) (by omega) j hj'
        refine ⟨u, ?_, ?_⟩
        · have : k * sz + j = rows.length * sz + ((k - rows.length) * sz + j) := by
            rw [← Nat.add_assoc, ← Nat.add_mul]; congr 2; omega
          rw [this, List.getElem?_append_right (by omega), hcl, Nat.add_sub_cancel_left]
          exact hu
        · simp only [e1]; exact hfr)
  refine s'.put (some d) (fun k hk => by cases hk; exact blt_lt hd) ?_
  have := Rep.sl (w := w') (N := C.N) (M := Mut (upd γ id (v', undef)) (((σ.drop old).kill id).set id (some (.rows e sz (rows ++ rows2)))).heap) (fun i => (upd γ id (v', undef) i).1) id
  simp only [upd_same] at this
  exact this
theorem w_append {id : Nat} {rows rows2 : List (List AV)} {e sz : Nat} {fr : Bool} (hx : σ.ev x = .sl id) (ho : σ.heap id = some (.rows e sz rows)) (hy : σ.ev y = .ro fr sz rows2) (ht : C.P.underlying t = some (.slice e)) (he : elemB C.P e sz = true) (hne : rows2 ≠ [])
    (hf : (rows2.all fun r => r.all AV.flat) = true) (hn : rows.length + rows2.length ≤ 100000000000) (hd : Nat.blt d C.n = true) (hpin : C.pin id = none) :
    Wr C ⟨some d, .call { callee := .builtin .append, args := #[x, y], argTypes := #[t, t] }, ty, pos, af, g⟩ σ ((((σ.drop (some id)).kill id).set id (some (.rows e sz (rows ++ rows2)))).put d (.sl id)) :=
  append_core id ht he hy hne hf hn hd hpin (fun γ a w s => by
    have e1 := s.ev x
    rw [hx] at e1
    obtain ⟨v, cs, hg, hown, hs, hl, hr⟩ := s.obj id _ ho
    exact ⟨v, cs, by rw [e1.sl_inv, hg], hown, hl, hr, fun i hi => by cases hi; exact ⟨⟨_, ho⟩, hg⟩, fun h => by cases h⟩)
theorem w_appendn (id : Nat) {rows2 : List (List AV)} {e sz : Nat} {fr : Bool} (hx : σ.ev x = .nils) (hy : σ.ev y = .ro fr sz rows2) (ht : C.P.underlying t = some (.slice e)) (he : elemB C.P e sz = true) (hne : rows2 ≠ [])
    (hf : (rows2.all fun r => r.all AV.flat) = true) (hn : rows2.length ≤ 100000000000) (hd : Nat.blt d C.n = true) (hpin : C.pin id = none) :
    Wr C ⟨some d, .call { callee := .builtin .append, args := #[x, y], argTypes := #[t, t] }, ty, pos, af, g⟩ σ (((σ.kill id).set id (some (.rows e sz rows2))).put d (.sl id)) :=
  append_core (old := none) (rows := []) id ht he hy hne hf (by simpa using hn) hd hpin (fun γ a w s => by
    have e1 := s.ev x
    rw [hx] at e1
    exact ⟨_, [], e1.nils_inv, World.ownsRow_nil _ _ _ _, fun i hi => absurd hi (Nat.not_lt_zero _), fun i hi => absurd hi (Nat.not_lt_zero _), fun i hi => (by cases hi), fun _ => rfl⟩)
theorem weak_nil {σ : St} (slot id e sz : Nat) (hx : σ.env slot = .nils) (hs : 0 < sz) (hn : Nat.blt slot C.n = true) (hpin : C.pin id = none) : Weak C σ (((σ.kill id).set id (some (.rows e sz []))).put slot (.sl id)) := fun γ a w s => by
  refine ⟨upd γ id (.slice none 0 0, undef), ?_⟩
  have s' := s.renew none id (.slice none 0 0, undef) (.rows e sz []) hpin (fun i h => by cases h) rfl rfl rfl (Nat.le_refl _) (fun _ _ _ => rfl) (fun b hb => by
    unfold Blk at hb
    rw [upd_same] at hb
    rcases hb with hb | hb <;> cases hb) (fun b h => by cases h) (fun M' _ => ⟨.slice none 0 0, [], by rw [upd_same], World.ownsRow_nil _ _ _ _, hs, fun i hi => absurd hi (Nat.not_lt_zero _), fun i hi => absurd hi (Nat.not_lt_zero _)⟩)
  have e1 := s.env slot
  rw [hx] at e1
  have hv := e1.nils_inv
  have hlt := blt_lt hn
  have : a = a.put (some slot) (.slice none 0 0) := by
    have h2 : a.tmps.setIfInBounds slot (.slice none 0 0) = a.tmps := by
      apply Array.ext (by simp)
      intro i h1 h2
      rw [Array.getElem_setIfInBounds h2]
      split
      · rename_i h; subst h
        rw [← hv, Array.getD_eq_getD_getElem?, Array.getElem?_eq_getElem h2]; rfl
      · rfl
    show a = { a with tmps := a.tmps.setIfInBounds slot (.slice none 0 0) }
    rw [h2]
  rw [this]
  refine s'.put (some slot) (fun k hk => by cases hk; exact hlt) ?_
  have := Rep.sl (w := w) (N := C.N) (M := Mut (upd γ id (.slice none 0 0, undef)) ((σ.kill id).set id (some (.rows e sz []))).heap) (fun i => (upd γ id (.slice none 0 0, undef) i).1) id
  simp only [upd_same] at this
  exact this
end
end Go.Proofs.YtignjjnflcpiiaaGreatDoor
/- Contracts of functions that write one object of their caller's: a builder, a struct behind a pointer. -/
namespace Go.Proofs.YtignjjnflcpiiaaGreatDoor
open Go.RowKit
def AV.scal : AV → Bool
  | .any | .bool _ | .int _ _ | .str _ | .nilp | .nils | .nili => true
  | _ => false
theorem Rep.scal {w w' : World} {N N' : Nat} {M M' : Nat → Prop} {γ γ' : Nat → Value} {v : AV} {x : Value} (h : Rep w N M γ v x) (hs : v.scal = true) : Rep w' N' M' γ' v x := by
  cases h <;> first
    | exact .any _ _
    | exact .bool _ _
    | exact .int _ _ _
    | exact .str _ _
    | exact .nilp _
    | exact .nils _
    | exact .nili _
    | cases hs
def AObj.plain : AObj → Bool
  | .box cells => cells.all AV.scal
  | .bld _ _ _ => true
  | .nest _ _ _ _ _ => true
  | _ => false
def heap1 (o : Option AObj) : Heap := fun i => match i with
  | 0 => o
  | _ + 1 => none
def pin1 (v : Value) : Nat → Option Value := fun i => match i with
  | 0 => some v
  | _ + 1 => none
def cxe (X : Gx) (n : Nat) (w : World) (γ : Gh) (hn : X.nG ≤ w.heap.size) (hM : ∀ b, Blk γ 0 b → X.nG ≤ b) : Cx := { X with n := n, w0 := w, M0 := Blk γ 0, pin := pin1 (γ 0).1, hn := hn, hM := hM }
theorem HR.cxn {X : Gx} {n m : Nat} {w w' : World} {γ γ' : Gh} {hn : X.nG ≤ w.heap.size} {hM : ∀ b, Blk γ 0 b → X.nG ≤ b} {H : Heap} (h : HR (cxe X n w γ hn hM) γ' H w') : HR (cxe X m w γ hn hM) γ' H w' :=
  { obj := h.obj, disj := h.disj, two := h.two, lt := h.lt, chg := h.chg, glob := h.glob, pins := h.pins }
def CEff (X : Gx) (f : FuncId) (o : AObj) (as : List AV) (o' : Option AObj) (res : AV) : Prop :=
  ∀ (w : World) (γ : Gh) (vs : List Value) (hn : X.nG ≤ w.heap.size) (hM : ∀ b, Blk γ 0 b → X.nG ≤ b), HR (cxe X 0 w γ hn hM) γ (heap1 (some o)) w → vs.length = as.length →
    (∀ i (h : i < as.length) (h' : i < vs.length), Rep w w.heap.size (Mut γ (heap1 (some o))) (fun i => (γ i).1) as[i] vs[i]) →
    Calls X.P f vs.toArray w (fun e w' => ∃ v γ', e = .returned v ∧ HR (cxe X 0 w γ hn hM) γ' (heap1 o') w' ∧ Rep w' w.heap.size (Mut γ' (heap1 o')) g0 res v)
mutual
theorem fz_noment (H : Heap) (fr : Bool) (t : Nat) : ∀ v : AV, (v.fz H fr).ment t = false
  | .any => rfl
  | .bool _ => rfl
  | .int _ _ => rfl
  | .str _ => rfl
  | .nilp => rfl
  | .gptr _ _ => rfl
  | .nils => rfl
  | .nocap => rfl
  | .nili => rfl
  | .ptr _ _ => by
    rw [AV.fz]
    split
    · unfold rptrOf; split <;> rfl
    · rfl
  | .sub _ _ _ _ => by rw [AV.fz]; rfl
  | .eptr _ _ _ _ => by rw [AV.fz]; rfl
  | .sl id => by
    rw [AV.fz]
    split <;> rfl
  | .ro _ _ _ => by rw [AV.fz]; rfl
  | .pts _ _ => by rw [AV.fz]; rfl
  | .rptr _ _ => by rw [AV.fz]; rfl
  | .iface _ v => by rw [AV.fz, AV.ment]; exact fz_noment H fr t v
  | .agg l => by rw [AV.fz, AV.ment]; exact fzL_noment H fr t l
  | .tup l => by rw [AV.fz, AV.ment]; exact fzL_noment H fr t l
  | .clo _ l => by rw [AV.fz, AV.ment]; exact fzL_noment H fr t l
theorem fzL_noment (H : Heap) (fr : Bool) (t : Nat) : ∀ l : List AV, AV.mentL t (AV.fzL H fr l) = false
  | [] => rfl
  | v :: r => by rw [AV.fzL, AV.mentL, fz_noment H fr t v]; exact fzL_noment H fr t r
end
def RetQE (P : Program) (rs : List ResultVar) (res : AV) (o' : Option AObj) : Exit → St → Prop
  | .normal, σ | .ret, σ => cellOk P σ rs ∧ retV (retLH (fun _ => none) σ rs) = res ∧ σ.heap 0 = o'
  | _, _ => False
def St.starte (as : List AV) (o : AObj) : St := ⟨fun i => as.getD i .any, heap1 (some o)⟩
theorem ceff_of {X : Gx} {f : FuncId} {fn : Func} {c : Code} {o : AObj} {as : List AV} {o' : Option AObj} {res : AV} (hf : X.P.funcs[f]? = some fn) (hb : fn.body = some c) (hn : as.length ≤ fn.ntmps) 
    (h : ∀ w γ (hw : X.nG ≤ w.heap.size) (hM : ∀ b, Blk γ 0 b → X.nG ≤ b), Tri (cxe X fn.ntmps w γ hw hM) c (St.starte as o) (RetQE X.P fn.results.toList res o')) : CEff X f o as o' res := by
  intro w γ vs hw hM hr hl hrep
  refine calls_of_wp hf hb (wp_mono (h w γ hw hM γ _ w ?_) ?_)
  · refine { hr.cxn with env := fun t => ?_, size := ?_, defers := rfl }
    · show Rep w w.heap.size _ _ (as.getD t .any) _
      rcases Nat.lt_or_ge t as.length with ht | ht
      · have h1 : as.getD t .any = as[t] := by rw [List.getD_eq_getElem?_getD, List.getElem?_eq_getElem ht]; rfl
        have h2 : (vs.toArray ++ Array.replicate (fn.ntmps - vs.toArray.size) undef).getD t undef = vs[t]'(by omega) := by
          rw [Array.getD_eq_getD_getElem?, Array.getElem?_append_left (by simp; omega)]
          simp [show t < vs.length by omega]
        rw [h1, h2]
        exact hrep t ht (by omega)
      · have h1 : as.getD t .any = .any := by rw [List.getD_eq_getElem?_getD, List.getElem?_eq_none ht]; rfl
        rw [h1]
        exact .any _ _
    · show (vs.toArray ++ Array.replicate (fn.ntmps - vs.toArray.size) undef).size = fn.ntmps
      simp; omega
  · have fin : ∀ (a : Act) (w' : World) γ' σ, SR (cxe X fn.ntmps w γ hw hM) γ' σ a w' → (cellOk X.P σ fn.results.toList ∧ retV (retLH (fun _ => none) σ fn.results.toList) = res ∧ σ.heap 0 = o') →
        a.defers = [] ∧ ∃ v, (results fn a.tmps).run X.P w' = .ok v w' ∧ ∃ v' γ'', Ending.returned v = .returned v' ∧ HR (cxe X 0 w γ hw hM) γ'' (heap1 o') w' ∧ Rep w' w.heap.size (Mut γ'' (heap1 o')) g0 res v' := by
      intro a w' γ' σ s ⟨q1, q2, q3⟩
      have hsub : ∀ (id : Nat) (p : AObj), heap1 o' id = some p → σ.heap id = some p := fun id p hp => by
        cases id with
        | zero => rw [q3]; exact hp
        | succ id => cases hp
      have hmut : ∀ b, Mut γ' (heap1 o') b → Mut γ' σ.heap b := fun b ⟨id, p, h1, h2⟩ => ⟨id, p, hsub id p h1, h2⟩
      obtain ⟨v, h1, h2⟩ := run_resultsH (C := cxe X fn.ntmps w γ hw hM) (fn := fn) (fun _ => none) (Mut γ' (heap1 o')) s (fun v x hv => hv.frzM s.toHR (fun _ _ h => by cases h) hmut (fun _ _ _ h => by cases h) true (fun _ => Nat.le_refl _) (fun _ _ _ _ h => by cases h)) q1
      rw [q2] at h2
      refine ⟨s.defers, v, h1, v, γ', rfl, ?_, h2⟩
      exact { obj := fun id p hp => (s.obj id p (hsub id p hp)).mono (fun _ _ _ => rfl) (fun b _ => hmut b) (fun _ _ => rfl), disj := fun id id' p p' b h h' => s.disj id id' p p' b (hsub _ _ h) (hsub _ _ h'), two := fun id p b h => s.two id p b (hsub _ _ h), lt := fun id p b h => s.lt id p b (hsub _ _ h), chg := s.chg, glob := s.glob, pins := fun id p v hp h => s.pins id p v hp (hsub _ _ h) }
    rintro e a w' ⟨γ', σ, q, s⟩
    cases e with
    | normal => exact fin a w' γ' σ s q
    | ret => exact fin a w' γ' σ s q
    | _ => exact q.elim
section
variable {C : Cx} {σ : St} {ty : TypeId} {pos : String} {af : Array Edge} {g : Option (Nat × Bool)} {d : Option Nat}
def AV.fzp (id : Nat) (H : Heap) : AV → AV
  | .ptr j f => match Nat.beq j id with
    | true => .ptr 0 f
    | false => .any
  | v => v.fz H false
theorem w_call {f : FuncId} {xs : Array Operand} {ts : Array TypeId} {id : Nat} {o : AObj} {o' : Option AObj} {as : List AV} {res : AV} (hc : CEff C.toGx f o as o' res) (hcf : ∀ args w, (callFunc f args).run C.P w = .ok (.enter f args) w) (ho : σ.heap id = some o)
    (hp : o.plain = true) (hp' : (match o' with | some o' => o'.plain | none => true) = true) (ha : xs.toList.map (fun x => (σ.ev x).fzp id (σ.drop (some id)).heap) = as) (hfr : res.allFr = true) (hd : dstOk C.n ⟨d, .call { callee := .value (.func f), args := xs, argTypes := ts }, ty, pos, af, g⟩ = true) :
    Wr C ⟨d, .call { callee := .value (.func f), args := xs, argTypes := ts }, ty, pos, af, g⟩ σ ((σ.set id o').puto d res) := by
  intro γ a w s
  have hr : (execOp a.eval ⟨d, .call { callee := .value (.func f), args := xs, argTypes := ts }, ty, pos, af, g⟩).run C.P w = .ok (.enter f (xs.map a.eval)) w := by
    simp [execOp, resolve, Act.eval, Deferred.ofValue, invoke, hcf]
  unfold Oper.wp
  rw [hr, Oper.upon_enter]
  -- the callee's view
  let γl : Gh := fun i => match i with
    | 0 => γ id
    | _ + 1 => (undef, undef)
  have hbl : ∀ b, Blk γl 0 b ↔ Blk γ id b := fun b => Iff.rfl
  have hMl : ∀ b, Blk γl 0 b → C.nG ≤ b := fun b hb => by
    have hn := C.hn
    rcases (s.lt id o b ho hb).2 with h | h
    · exact C.hM b h
    · omega
  have hw : C.nG ≤ w.heap.size := Nat.le_trans C.hn s.chg.size
  have hmutl : ∀ b, Mut γl (heap1 (some o)) b → Blk γ id b := fun b ⟨i, p, h1, h2⟩ => by
    cases i with
    | zero => exact h2
    | succ i => cases h1
  have hobj : ObjRep w w.heap.size (Mut γl (heap1 (some o))) γl 0 o := by
    have hob := s.obj id o ho
    cases o with
    | box cells =>
      obtain ⟨b, c, e, h1, h2, h3, h4⟩ := hob
      exact ⟨b, c, e, h1, h2, h3, fun j hj => by
        obtain ⟨v, hv, hrv⟩ := h4 j hj
        exact ⟨v, hv, hrv.scal (List.all_eq_true.1 hp _ (List.getElem_mem hj))⟩⟩
    | bld e eb l => exact hob
    | nest cells k e sz rows => exact hob
    | rows e sz rows => cases hp
    | pts f e l => cases hp
    | iter s pos => cases hp
  have hrl : HR (cxe C.toGx 0 w γl hw hMl) γl (heap1 (some o)) w :=
    { obj := fun i p h => by
        cases i with
        | zero => cases h; exact hobj
        | succ i => cases h
      disj := fun i i' p p' b h h' _ _ => by
        cases i with
        | zero => cases i' with
          | zero => rfl
          | succ i' => cases h'
        | succ i => cases h
      two := fun i p b h => by
        cases i with
        | zero => exact s.two id o b ho
        | succ i => cases h
      lt := fun i p b h hb => by
        cases i with
        | zero => exact ⟨(s.lt id o b ho hb).1, .inl hb⟩
        | succ i => cases h
      chg := Chg.refl _ _
      glob := s.glob
      pins := fun i p v h h' => by
        cases i with
        | zero => cases h; rfl
        | succ i => cases h' }
  have hsub : ∀ (i : Nat) (p : AObj), (σ.drop (some id)).heap i = some p → σ.heap i = some p := fun i p h => (drop_heap h).1
  have hM1 : ∀ b, Mut γl (heap1 (some o)) b → Mut γ σ.heap b := fun b hb => ⟨id, o, ho, hmutl b hb⟩
  have hM2 : ∀ (i : Nat) (p : AObj) b, (σ.drop (some id)).heap i = some p → vblock (γ i).1 = some b → ¬ Mut γl (heap1 (some o)) b := fun i p b h hb hm => by
    obtain ⟨h1, h2⟩ := drop_heap h
    have := s.disj i id p o b h1 ho (.inl hb) (hmutl b hm)
    exact h2 (by rw [this])
  have hargs : ∀ x ∈ xs, Rep w w.heap.size (Mut γl (heap1 (some o))) (fun i => (γl i).1) ((σ.ev x).fzp id (σ.drop (some id)).heap) (a.eval x) := fun x _ => by
    have e1 := s.ev x
    have gen : ∀ v, Rep w C.N (Mut γ σ.heap) (fun i => (γ i).1) v (a.eval x) → Rep w w.heap.size (Mut γl (heap1 (some o))) (fun i => (γl i).1) (v.fz (σ.drop (some id)).heap false) (a.eval x) := fun v hv =>
      (hv.frzM s.toHR hsub hM1 hM2 false (fun h => by cases h) (fun h => by cases h)).mono (fun _ _ _ => rfl) (fun _ _ h => h) (Nat.le_refl _) _ (fun i hi => by rw [fz_noment] at hi; cases hi)
    cases hv : σ.ev x with
    | ptr j fo =>
      rw [hv] at e1
      show Rep w w.heap.size _ _ (match Nat.beq j id with | true => .ptr 0 fo | false => .any) _
      cases hb : Nat.beq j id with
      | true =>
        have := Nat.eq_of_beq_eq_true hb
        subst this
        obtain ⟨b, h1, h2⟩ := e1.ptr_inv
        rw [h2]
        exact .ptr _ _ _ _ h1
      | false => exact .any _ _
    | _ => rw [hv] at e1; exact gen _ e1
  subst ha
  have hcall := hc w γl (xs.map a.eval).toList hw hMl hrl (by simp) (fun i hi hi' => by
    have h1 : (xs.map a.eval).toList[i] = a.eval (xs[i]'(by simpa using hi)) := by simp
    have h2 : (xs.toList.map (fun x => (σ.ev x).fzp id (σ.drop (some id)).heap))[i] = (σ.ev (xs[i]'(by simpa using hi))).fzp id (σ.drop (some id)).heap := by simp
    rw [h1, h2]
    exact hargs _ (Array.getElem_mem _))
  simp only [Array.toArray_toList] at hcall
  refine hcall.mono ?_
  rintro e w' ⟨v, γ', rfl, hr', hv⟩
  -- back in the caller
  have hblk : ∀ k, k < w.heap.size → ¬ Blk γ id k → w'.heap[k]? = w.heap[k]? := fun k hk hb => hr'.chg.block k hk hb
  cases o' with
  | none =>
    refine ⟨γ, ?_⟩
    have s1 : SR C γ (σ.set id none) a w := s.less (fun t => .inr rfl) (fun i p h => by
      rcases set_heap h with ⟨_, h⟩ | ⟨_, h⟩
      · cases h
      · exact h)
    have hlive : ∀ {i : Nat} {p : AObj}, (σ.set id none).heap i = some p → i ≠ id ∧ σ.heap i = some p := fun h => by
      rcases set_heap h with ⟨_, h⟩ | h
      · cases h
      · exact h
    have still : ∀ b, b < w.heap.size → ¬ Mut γ σ.heap b → w'.heap[b]? = w.heap[b]? := fun b hb hm => hblk b hb (fun h => hm ⟨id, o, ho, h⟩)
    have sub : ∀ b, b < w.heap.size → Mut γ (σ.set id none).heap b → Mut γ σ.heap b := fun b _ ⟨i, p, h1, h2⟩ => ⟨i, p, (hlive h1).2, h2⟩
    have s2 : SR C γ (σ.set id none) a w' :=
      { obj := fun i p h => by
          obtain ⟨h1, h2⟩ := hlive h
          exact (s.obj i p h2).mono still sub (fun b hb => hblk b (s.lt i p b h2 hb).1 (fun h => h1 (s.disj i id p o b h2 ho hb h)))
        disj := s1.disj
        two := s1.two
        lt := fun i p b h hb => ⟨Nat.lt_of_lt_of_le (s1.lt i p b h hb).1 hr'.chg.size, (s1.lt i p b h hb).2⟩
        chg := ⟨hr'.chg.os.trans s.chg.os, hr'.chg.tape.trans s.chg.tape, hr'.chg.output.trans s.chg.output, Nat.le_trans s.chg.size hr'.chg.size, fun k hk hm => by
          rw [hblk k (Nat.lt_of_lt_of_le hk s.chg.size) (fun h => by
            rcases (s.lt id o k ho h).2 with h1 | h1
            · exact hm h1
            · have : C.w0.heap.size ≤ k := h1
              omega)]
          exact s.chg.block k hk hm⟩
        glob := hr'.glob
        pins := s1.pins
        env := fun t => (s.env t).mono still sub (Nat.le_refl _) _ (fun _ _ => rfl)
        size := s.size
        defers := s.defers }
    exact s2.put d (dstOk_spec hd) (hv.freshM hfr s.chg.size (fun b hb _ hm => by
      obtain ⟨i, p, h1, h2⟩ := hm
      have h3 := (s1.lt i p b h1 h2).1
      omega) _)
  | some o' =>
    refine ⟨upd γ id (γ' 0), ?_⟩
    have hpin : (γ' 0).1 = (γ id).1 := hr'.pins 0 o' _ rfl rfl
    have hlive : ∀ {i : Nat} {p : AObj}, (σ.set id (some o')).heap i = some p → (i = id ∧ p = o') ∨ (i ≠ id ∧ σ.heap i = some p) := fun h => by
      rcases set_heap h with ⟨h1, h2⟩ | h
      · cases h2; exact .inl ⟨h1, rfl⟩
      · exact .inr h
    have still : ∀ b, b < w.heap.size → ¬ Mut γ σ.heap b → w'.heap[b]? = w.heap[b]? := fun b hb hm => hblk b hb (fun h => hm ⟨id, o, ho, h⟩)
    have blkid : ∀ {b : Nat}, Blk (upd γ id (γ' 0)) id b → Blk γ' 0 b := fun h => by unfold Blk at *; rw [upd_same] at h; exact h
    have blkne : ∀ {i b : Nat}, i ≠ id → Blk (upd γ id (γ' 0)) i b → Blk γ i b := fun hne h => by unfold Blk at *; rw [upd_ne _ _ hne] at h; exact h
    have new : ∀ {b : Nat}, Blk γ' 0 b → b < w'.heap.size ∧ (Blk γ id b ∨ w.heap.size ≤ b) := fun h => hr'.lt 0 o' _ rfl h
    have sub : ∀ b, b < w.heap.size → Mut (upd γ id (γ' 0)) (σ.set id (some o')).heap b → Mut γ σ.heap b := fun b hb ⟨i, p, h1, h2⟩ => by
      rcases hlive h1 with ⟨rfl, _⟩ | ⟨hne, hi⟩
      · rcases (new (blkid h2)).2 with h | h
        · exact ⟨i, o, ho, h⟩
        · omega
      · exact ⟨i, p, hi, blkne hne h2⟩
    have s2 : SR C (upd γ id (γ' 0)) (σ.set id (some o')) a w' :=
      { obj := fun i p h => by
          rcases hlive h with ⟨rfl, rfl⟩ | ⟨hne, hi⟩
          · have hob := hr'.obj 0 p rfl
            cases p with
            | box cells =>
              obtain ⟨b, c, e, h1, h2, h3, h4⟩ := hob
              exact ⟨b, c, e, by rw [upd_same]; exact h1, h2, h3, fun j hj => by
                obtain ⟨v, hv, hrv⟩ := h4 j hj
                exact ⟨v, hv, hrv.scal (List.all_eq_true.1 hp' _ (List.getElem_mem hj))⟩⟩
            | bld e eb l =>
              obtain ⟨b, v, cs, p, h1, r⟩ := hob
              exact ⟨b, v, cs, p, by rw [upd_same]; exact h1, r⟩
            | nest cells k e sz rows =>
              obtain ⟨b, c, t, v, cs, h1, r⟩ := hob
              exact ⟨b, c, t, v, cs, by rw [upd_same]; exact h1, r⟩
            | rows e sz rows => cases hp'
            | pts f e l => cases hp'
            | iter s pos => cases hp'
          · have hb1 := (s.obj i p hi).killed (t := id) (u := γ' 0) hne still sub (fun b hb => hblk b (s.lt i p b hi hb).1 (fun h => hne (s.disj i id p o b hi ho hb h)))
            have hb0 := (s.obj i p hi).mono still sub (fun b hb => hblk b (s.lt i p b hi hb).1 (fun h => hne (s.disj i id p o b hi ho hb h)))
            cases p with
            | box cells =>
              obtain ⟨b, c, e, h1, h2, h3, h4⟩ := hb0
              refine ⟨b, c, e, by rw [upd_ne _ _ hne]; exact h1, h2, h3, fun j hj => ?_⟩
              obtain ⟨v, hv, hrv⟩ := h4 j hj
              refine ⟨v, hv, hrv.mono (fun _ _ _ => rfl) (fun _ _ h => h) (Nat.le_refl _) _ (fun k hk => ?_)⟩
              by_cases hki : k = id
              · subst hki; simp only [upd_same]; exact hpin
              · simp only [upd_ne _ _ hki]
            | bld e eb l => exact hb1
            | nest cells k e sz rows => exact hb1
            | iter s pos => exact hb1
            | rows e sz rows => exact hb1
            | pts f e l => exact hb1
        disj := fun i i' p p' b h h' hb hb' => by
          rcases hlive h with ⟨rfl, _⟩ | ⟨hne, hi⟩
          · rcases hlive h' with ⟨rfl, _⟩ | ⟨hne', hi'⟩
            · rfl
            · have hb1 := blkne hne' hb'
              rcases (new (blkid hb)).2 with h1 | h1
              · exact s.disj i i' o p' b ho hi' h1 hb1
              · have := (s.lt i' p' b hi' hb1).1; omega
          · have hb0 := blkne hne hb
            rcases hlive h' with ⟨rfl, _⟩ | ⟨hne', hi'⟩
            · rcases (new (blkid hb')).2 with h1 | h1
              · exact s.disj i i' p o b hi ho hb0 h1
              · have := (s.lt i p b hi hb0).1; omega
            · exact s.disj i i' p p' b hi hi' hb0 (blkne hne' hb')
        two := fun i p b h => by
          rcases hlive h with ⟨rfl, _⟩ | ⟨hne, hi⟩
          · rw [upd_same]; exact hr'.two 0 o' b rfl
          · rw [upd_ne _ _ hne]; exact s.two i p b hi
        lt := fun i p b h hb => by
          rcases hlive h with ⟨rfl, _⟩ | ⟨hne, hi⟩
          · obtain ⟨h1, h2⟩ := new (blkid hb)
            refine ⟨h1, ?_⟩
            rcases h2 with h2 | h2
            · exact (s.lt i o b ho h2).2
            · exact .inr (Nat.le_trans s.chg.size h2)
          · obtain ⟨h1, h2⟩ := s.lt i p b hi (blkne hne hb)
            exact ⟨Nat.lt_of_lt_of_le h1 hr'.chg.size, h2⟩
        chg := ⟨hr'.chg.os.trans s.chg.os, hr'.chg.tape.trans s.chg.tape, hr'.chg.output.trans s.chg.output, Nat.le_trans s.chg.size hr'.chg.size, fun k hk hm => by
          rw [hblk k (Nat.lt_of_lt_of_le hk s.chg.size) (fun h => by
            rcases (s.lt id o k ho h).2 with h1 | h1
            · exact hm h1
            · have : C.w0.heap.size ≤ k := h1
              omega)]
          exact s.chg.block k hk hm⟩
        glob := hr'.glob
        pins := fun i p v hpv h => by
          rcases hlive h with ⟨rfl, _⟩ | ⟨hne, hi⟩
          · rw [upd_same, hpin]; exact s.pins i o v hpv ho
          · rw [upd_ne _ _ hne]; exact s.pins i p v hpv hi
        env := fun t => (s.env t).mono still sub (Nat.le_refl _) _ (fun k _ => by
          by_cases hki : k = id
          · subst hki; simp only [upd_same]; exact hpin
          · simp only [upd_ne _ _ hki])
        size := s.size
        defers := s.defers }
    exact s2.put d (dstOk_spec hd) (hv.freshM hfr s.chg.size (fun b hb hnm hm => by
      obtain ⟨i, p, h1, h2⟩ := hm
      rcases hlive h1 with ⟨rfl, _⟩ | ⟨hne, hi⟩
      · exact hnm ⟨0, o', rfl, blkid h2⟩
      · have := (s.lt i p b hi (blkne hne h2)).1
        omega) _)
end
end Go.Proofs.YtignjjnflcpiiaaGreatDoor
/- More rules: slices of texts, results that say less. -/
namespace Go.Proofs.YtignjjnflcpiiaaGreatDoor
open Go.RowKit
section
variable {C : Cx} {σ : St} {d : Option Nat} {x y z : Operand} {t ty : TypeId} {pos : String} {af : Array Edge} {g : Option (Nat × Bool)} {u : List UInt8} {k k' : IntKind} {m n : Int}
theorem q_slice_lo (hx : σ.ev x = .str u) (hy : σ.ev y = .int k m) (ht : C.P.underlying t = some .string) (h0 : 0 ≤ m) (h1 : m.toNat ≤ u.length) : Qd C ⟨d, .slice t x (some y) none none, ty, pos, af, g⟩ σ (.str (u.drop m.toNat)) := by
  have h := q_slice (C := C) (d := d) (ty := ty) (pos := pos) (af := af) (g := g) (yl := some y) (yh := none) (l := m.toNat) (h := u.length) hx ht ⟨k, m, hy, h0, rfl⟩ rfl h1 (Nat.le_refl _)
  rw [List.take_of_length_le (Nat.le_refl _)] at h
  exact h
theorem q_slice_hi (hx : σ.ev x = .str u) (hy : σ.ev y = .int k m) (ht : C.P.underlying t = some .string) (h0 : 0 ≤ m) (h1 : m.toNat ≤ u.length) : Qd C ⟨d, .slice t x none (some y) none, ty, pos, af, g⟩ σ (.str (u.take m.toNat)) := by
  have h := q_slice (C := C) (d := d) (ty := ty) (pos := pos) (af := af) (g := g) (yl := none) (yh := some y) (l := 0) (h := m.toNat) hx ht rfl ⟨k, m, hy, h0, rfl⟩ (Nat.zero_le _) h1
  rw [List.drop_zero] at h
  exact h
theorem q_slice_lh (hx : σ.ev x = .str u) (hy : σ.ev y = .int k m) (hz : σ.ev z = .int k' n) (ht : C.P.underlying t = some .string) (h0 : 0 ≤ m) (h1 : m ≤ n) (h2 : n.toNat ≤ u.length) : Qd C ⟨d, .slice t x (some y) (some z) none, ty, pos, af, g⟩ σ (.str ((u.take n.toNat).drop m.toNat)) :=
  q_slice (yl := some y) (yh := some z) (l := m.toNat) (h := n.toNat) hx ht ⟨k, m, hy, h0, rfl⟩ ⟨k', n, hz, Int.le_trans h0 h1, rfl⟩ (by omega) h2
theorem q_slice_loE {n' : Nat} {l : List UInt8} (hx : σ.ev x = .str u) (hy : σ.ev y = .int k m) (hm : m = (n' : Int)) (ht : C.P.underlying t = some .string) (h1 : n' ≤ u.length) (hl : u.drop n' = l) : Qd C ⟨d, .slice t x (some y) none none, ty, pos, af, g⟩ σ (.str l) := by
  subst hm; subst hl
  exact q_slice_lo hx hy ht (by omega) (by omega)
theorem q_field' {f id fo : Nat} (hx : σ.ev x = .ptr id fo) (ht : fieldB C.P t f f = true) : Qd C ⟨d, .fieldAddr t x f, ty, pos, af, g⟩ σ (.ptr id (fo + f)) := q_field hx ht
theorem q_fielde' {f id sz i fo : Nat} (hx : σ.ev x = .eptr id sz i fo) (ht : fieldB C.P t f f = true) : Qd C ⟨d, .fieldAddr t x f, ty, pos, af, g⟩ σ (.eptr id sz i (fo + f)) := q_fielde hx ht
theorem q_fieldr' {f : Nat} {fr : Bool} {cells : List AV} (hx : σ.ev x = .rptr fr cells) (ht : fieldB C.P t f f = true) (hof : f < cells.length) : Qd C ⟨d, .fieldAddr t x f, ty, pos, af, g⟩ σ (.rptr fr (cells.drop f)) := q_fieldr hx ht hof
theorem q_boxr {l : List AV} (hx : σ.ev x = .agg l) (hf : l.all AV.flat = true) (h0 : 0 < l.length) : Qd C ⟨d, .box t x, ty, pos, af, g⟩ σ (.rptr true l) := qd_of fun γ a w hh he => by
  have e1 := he x (by simp [Op.operands])
  rw [hx] at e1
  obtain ⟨xs, h1, h2, h3, h4⟩ := e1.cellsOf hh (show l.all (storable1 σ.heap) = true from List.all_eq_true.2 (fun u hu => one_storable1 (flat_one (List.all_eq_true.1 hf u hu))))
  have hl : xs.length = l.length := h2
  refine ⟨.pointer (some ⟨w.heap.size, 0, none⟩), w.alloc (.cells xs.toArray t), by simp [execOp, Instr.box, newVar, newRow, h1], (Below.refl _ w).alloc (Nat.le_refl _) _, .rptr _ _ _ _ _ (fun j => xs.getD j undef) ⟨fun h => absurd (Mut.lt (C := C) (σ := σ) hh h) (Nat.lt_irrefl _), fun _ => hh.chg.size⟩ h0 (fun j hj => ?_) (fun j hj => ?_)⟩
  · rw [Nat.zero_add, World.cell?_alloc_new]
    simp [show j < xs.length by omega]
  · rw [List.getD_eq_getElem?_getD, List.getElem?_eq_getElem (by omega)]
    exact ((h3 j hj (by omega)).flat (List.all_eq_true.1 hf _ (List.getElem_mem _))).rep
end
def wrB (o : Oper) : Bool := match o.op with
  | .alloc _ | .store .. => true
  | .call c => match c.callee with
    | .builtin .append => true
    | _ => false
  | _ => false
theorem loop_next {C : Cx} {X : Type} {I : X → Prop} {S : X → St} {μ : X → Nat} {m : Nat} {Q : Exit → St → Prop} {σ : St} (y : X) (hI : I y) (hw : Weak C σ (S y)) (hm : μ y < m) : loopQ C I S μ m Q .normal σ := ⟨y, hI, hw, hm⟩
def Up (a b : AV) : Prop := ∀ (w : World) (N : Nat) (M : Nat → Prop) (γ : Nat → Value) (v : Value), Rep w N M γ a v → Rep w N M γ b v
theorem Up.refl (a : AV) : Up a a := fun _ _ _ _ _ h => h
theorem Up.nil (fr : Bool) (sz : Nat) : Up .nils (.ro fr sz []) := fun w N M γ v h => by
  rw [h.nils_inv]
  exact .ro _ _ _ _ _ (.inl ⟨rfl, none, 0, rfl, fun _ => rfl⟩)
theorem Up.nilp (fr : Bool) : Up .nils (.pts fr []) := fun w N M γ v h => by
  rw [h.nils_inv]
  exact .pts _ _ _ _ (.nil none 0 (fun _ => rfl))
inductive UpL : List AV → List AV → Prop
  | nil : UpL [] []
  | cons {a b : AV} {l r : List AV} (h : Up a b) (t : UpL l r) : UpL (a :: l) (b :: r)
theorem UpL.get {l r : List AV} (h : UpL l r) : l.length = r.length ∧ ∀ i (hl : i < l.length) (hr : i < r.length), Up l[i] r[i] := by
  induction h with
  | nil => exact ⟨rfl, fun i h => absurd h (Nat.not_lt_zero _)⟩
  | cons h t ih =>
    refine ⟨by simp [ih.1], fun i hl hr => ?_⟩
    cases i with
    | zero => exact h
    | succ i => exact ih.2 i (by simpa using hl) (by simpa using hr)
theorem Up.tup {l r : List AV} (h : UpL l r) : Up (.tup l) (.tup r) := fun w N M γ v hv => by
  obtain ⟨xs, rfl, hl, hx⟩ := Rep.tup_inv hv
  exact .tup _ _ _ (hl.trans h.get.1) (fun i hi hx' => h.get.2 i (by rw [h.get.1]; exact hi) hi _ _ _ _ _ (hx i (by rw [h.get.1]; exact hi) hx'))
theorem CPure.up {X : Gx} {f : FuncId} {l : List AV} {a b : AV} (h : CPure X f l a) (hu : Up a b) : CPure X f l b := fun w vs hG hn hl hr =>
  (h w vs hG hn hl hr).mono fun _ _ ⟨v, h1, h2, h3⟩ => ⟨v, h1, h2, hu _ _ _ _ _ h3⟩
end Go.Proofs.YtignjjnflcpiiaaGreatDoor
/- More rules: slices of what nobody writes; what is no longer written; a struct with a slice of its own, apart and together; walks over texts; variables of the program; closures. -/
namespace Go.Proofs.YtignjjnflcpiiaaGreatDoor
open Go.RowKit
theorem elem_of {P : Program} {t e : TypeId} (ht : P.underlying t = some (.slice e)) : P.underlying t = some (.slice (P.elem t)) := by
  have : P.elem t = e := by simp [Program.elem, ht]
  rw [this]; exact ht
theorem elem_eq {P : Program} {t e : TypeId} (ht : P.underlying t = some (.slice e)) : P.elem t = e := by simp [Program.elem, ht]
theorem rows_cut {w : World} {ok : Nat → Prop} {sz : Nat} {rows : List (List AV)} {a : Option Addr} {n cap : Nat} (h : RowsAt w ok sz rows (.slice a n cap)) (l hi : Nat) (h1 : l ≤ hi) (h2 : hi ≤ rows.length) :
    RowsAt w ok sz ((rows.take hi).drop l) (sliced a l hi cap sz) := by
  unfold sliced
  have hlen : ((rows.take hi).drop l).length = hi - l := by simp; omega
  rcases h with ⟨hr, a', cap', hv, hn⟩ | ⟨b, o, cap', cs, hv, hok, h0, hs, hcap, hc, hl, hr⟩
  · cases hv
    subst hr
    have : hi = 0 := by simpa using h2
    subst this
    obtain rfl : l = 0 := by omega
    refine .inl ⟨by simp, _, _, rfl, fun h => ?_⟩
    by_cases hc : cap = 0
    · simp [hc]
    · rw [if_neg hc] at h
      cases a with
      | none => simp [hn rfl]
      | some a => cases h
  · cases hv
    by_cases he : l = hi
    · subst he
      refine .inl ⟨List.eq_nil_of_length_eq_zero (by omega), _, _, by rw [Nat.sub_self], fun h => ?_⟩
      split at h <;> cases h
    · have hcl : ¬ cap = l := by omega
      rw [if_neg hcl]
      refine .inr ⟨b, o + l * sz, cap - l, fun i j => cs (i + l) j, ?_, hok, by omega, hs, by omega, fun i hi' j hj => ?_, fun i hi' => ?_, fun i hi' j hj => ?_⟩
      · rw [hlen]
        simp [Addr.add_lit]
      · have := hc (i + l) (by omega) j hj
        rw [← this]
        congr 2
        rw [Nat.add_mul]; omega
      · have : ((rows.take hi).drop l)[i] = rows[i + l]'(by omega) := by simp [Nat.add_comm]
        rw [this]; exact hl _ _
      · have e : ((rows.take hi).drop l)[i] = rows[i + l]'(by omega) := by simp [Nat.add_comm]
        have hj' : j < (rows[i + l]'(by omega)).length := by rw [← e]; exact hj
        have := hr (i + l) (by omega) j hj'
        simp only [e]
        exact this
theorem RowsAt.slice {w : World} {ok : Nat → Prop} {sz : Nat} {rows : List (List AV)} {v : Value} (h : RowsAt w ok sz rows v) : ∃ a cap, v = .slice a rows.length cap ∧ rows.length ≤ cap := by
  rcases h with ⟨rfl, a, c, hv, _⟩ | ⟨b, o, cap, cs, hv, _, _, _, hcap, _⟩
  · exact ⟨a, c, hv, Nat.zero_le _⟩
  · exact ⟨_, _, hv, hcap⟩
section
variable {C : Cx} {σ : St} {d : Option Nat} {x y z : Operand} {t ty : TypeId} {pos : String} {af : Array Edge} {g : Option (Nat × Bool)} {k k' : IntKind} {m n : Int}
theorem q_slro_lo {e sz : Nat} {fr : Bool} {rows rows' : List (List AV)} (hx : σ.ev x = .ro fr sz rows) (hy : σ.ev y = .int k m) (ht : C.P.underlying t = some (.slice e)) (hs : sizeB C.P e sz = true) (h0 : 0 ≤ m) (h1 : m.toNat ≤ rows.length) (hr : rows.drop m.toNat = rows') : Qd C ⟨d, .slice t x (some y) none none, ty, pos, af, g⟩ σ (.ro fr sz rows') := qd_of fun γ a w hh he => by
  have e1 := he x (by simp [Op.operands])
  have e2 := he y (by simp [Op.operands])
  rw [hx] at e1; rw [hy] at e2
  have e2 := e2.int_inv
  obtain ⟨ad, cap, hv, hcap⟩ := e1.ro_inv.slice
  have hsz := sizeB_spec hs
  refine ⟨sliced ad m.toNat rows.length cap sz, w, ?_, ext_refl w, .ro _ _ _ _ _ ?_⟩
  · simp only [execOp, hv, e2, Option.map_some, Option.map_none, Sem.run_bind, run_sliceAt_slice w t _ _ _ _ (elem_of ht), run_slice_l w t ad rows.length cap (elem_of ht) k m h0 (by omega), elem_eq ht, hsz w, Result.andThen_ok, Sem.run_pure]
  · have h := e1.ro_inv
    rw [hv] at h
    have := rows_cut h m.toNat rows.length h1 (Nat.le_refl _)
    rw [List.take_of_length_le (Nat.le_refl _), hr] at this
    exact this
theorem q_slro_hi {e sz : Nat} {fr : Bool} {rows rows' : List (List AV)} (hx : σ.ev x = .ro fr sz rows) (hy : σ.ev y = .int k m) (ht : C.P.underlying t = some (.slice e)) (hs : sizeB C.P e sz = true) (h0 : 0 ≤ m) (h1 : m.toNat ≤ rows.length) (hr : rows.take m.toNat = rows') : Qd C ⟨d, .slice t x none (some y) none, ty, pos, af, g⟩ σ (.ro fr sz rows') := qd_of fun γ a w hh he => by
  have e1 := he x (by simp [Op.operands])
  have e2 := he y (by simp [Op.operands])
  rw [hx] at e1; rw [hy] at e2
  have e2 := e2.int_inv
  obtain ⟨ad, cap, hv, hcap⟩ := e1.ro_inv.slice
  have hsz := sizeB_spec hs
  refine ⟨sliced ad 0 m.toNat cap sz, w, ?_, ext_refl w, .ro _ _ _ _ _ ?_⟩
  · simp only [execOp, hv, e2, Option.map_some, Option.map_none, Sem.run_bind, run_sliceAt_slice w t _ _ _ _ (elem_of ht), run_slice_h w t ad rows.length cap (elem_of ht) k m h0 (by omega), elem_eq ht, hsz w, Result.andThen_ok, Sem.run_pure]
  · have h := e1.ro_inv
    rw [hv] at h
    have := rows_cut h 0 m.toNat (Nat.zero_le _) h1
    rw [List.drop_zero, hr] at this
    exact this
theorem q_loadg {b o : Nat} {v : Value} {av : AV} (hx : σ.ev x = .gptr b o) (hG : ∀ w, C.G w → w.cell? ⟨b, o, none⟩ = some v) (hv : ∀ (w : World) N M γ, Rep w N M γ av v) (ht : scalB C.P t = true) : Qd C ⟨d, .load t x, ty, pos, af, g⟩ σ av := qd_of fun γ a w hh he => by
  have e1 := he x (by simp [Op.operands])
  rw [hx] at e1
  have h2 := e1.gptr_inv
  exact ⟨v, w, by simp [execOp, h2, Instr.loadAt, Instr.sureAddr, run_load_scal ht (hG w hh.glob)], ext_refl w, hv _ _ _ _⟩
theorem q_mkfunc {f : FuncId} {cs : Array Operand} {l : List AV} (hl : cs.toList.map σ.ev = l) : Qd C ⟨d, .makeFunc (.func f) #[] cs, ty, pos, af, g⟩ σ (.clo f l) := qd_of fun γ a w hh he => by
  subst hl
  refine ⟨.func (.func f) #[] (cs.map a.eval), w, by simp [execOp, Instr.makeFunc], ext_refl w, ?_⟩
  have := Rep.clo (w := w) (N := C.N) (M := Mut γ σ.heap) (fun i => (γ i).1) f (cs.toList.map σ.ev) (cs.toList.map a.eval) (by simp) (fun i hi hx => by
    simp only [List.getElem_map]
    exact he _ (by simp [Op.operands]))
  have e : (cs.toList.map a.eval).toArray = cs.map a.eval := by apply Array.ext'; simp
  rw [e] at this
  exact this
theorem q_callclo {f : FuncId} {xs : Array Operand} {ts : Array TypeId} {caps as : List AV} {res : AV} (hx : σ.ev x = .clo f caps) (hc : CPure C.toGx f as res) (hcf : ∀ args w, (callFunc f args).run C.P w = .ok (.enter f args) w)
    (ha : AV.fzL σ.heap false (xs.toList.map σ.ev ++ caps) = as) (hfr : res.allFr = true) : Qd C ⟨d, .call { callee := .value x, args := xs, argTypes := ts }, ty, pos, af, g⟩ σ res := by
  intro γ σ1 a w s hh he
  have hhr : HR C γ σ.heap w := by rw [← hh]; exact s.toHR
  have hcl := s.ev x
  rw [he x (by simp [Op.operands, Call.operands]), hh, hx] at hcl
  obtain ⟨cv, hcv, hcll, hcr⟩ := hcl.clo_inv
  have hargs : ∀ y ∈ xs, Rep w C.N (Mut γ σ.heap) (fun i => (γ i).1) (σ.ev y) (a.eval y) := fun y hy => by
    have := s.ev y
    rw [he y (by simp only [Op.operands, Call.operands]; exact Array.mem_append.2 (.inr hy)), hh] at this
    exact this
  have hall : ∀ i (h : i < (xs.toList.map σ.ev ++ caps).length) (h' : i < ((xs.map a.eval).toList ++ cv).length), Rep w C.N (Mut γ σ.heap) (fun i => (γ i).1) (xs.toList.map σ.ev ++ caps)[i] ((xs.map a.eval).toList ++ cv)[i] := fun i h h' => by
    by_cases hi : i < xs.size
    · rw [List.getElem_append_left (by simpa using hi), List.getElem_append_left (by simpa using hi)]
      simpa using hargs _ (Array.getElem_mem hi)
    · have e1 : (xs.toList.map σ.ev).length = xs.size := by simp
      have e2 : (xs.map a.eval).toList.length = xs.size := by simp
      rw [List.getElem_append_right (by omega), List.getElem_append_right (by omega)]
      simp only [e1, e2]
      exact hcr _ _ _
  have hlen : ((xs.map a.eval).toList ++ cv).length = as.length := by rw [← ha, fzL_length]; simp [hcll]
  have hcall := hc w ((xs.map a.eval).toList ++ cv) hhr.glob (Nat.le_trans C.hn hhr.chg.size) hlen (fun i hi hi' => by
    subst ha
    have hi2 : i < (xs.toList.map σ.ev ++ caps).length := by rw [fzL_length] at hi; exact hi
    rw [fzL_get _ _ _ _ hi hi2]
    exact (hall i hi2 hi').frz hhr false (fun h => by cases h) (fun h => by cases h))
  unfold Oper.wp
  have hr : (execOp a.eval ⟨d, .call { callee := .value x, args := xs, argTypes := ts }, ty, pos, af, g⟩).run C.P w = .ok (.enter f ((xs.map a.eval) ++ cv.toArray)) w := by
    simp [execOp, resolve, hcv, Deferred.ofValue, invoke, hcf]
  rw [hr, Oper.upon_enter]
  have e3 : ((xs.map a.eval).toList ++ cv).toArray = (xs.map a.eval) ++ cv.toArray := by apply Array.ext'; simp
  rw [e3] at hcall
  refine hcall.mono ?_
  rintro e w' ⟨v, rfl, hx', hv⟩
  refine ⟨v, rfl, hx', ?_⟩
  exact hv.fresh hfr hhr.chg.size (fun b hb hm => by
    have := Mut.lt (C := C) (σ := σ) hhr hm
    omega) _
end
def runeAt (u : List UInt8) (p : Nat) : Nat := (Utf8.decode ⟨u.toArray⟩ p).1
def runeLen (u : List UInt8) (p : Nat) : Nat := (Utf8.decode ⟨u.toArray⟩ p).2
section
variable {C : Cx} {σ : St} {ty : TypeId} {pos : String} {af : Array Edge} {g : Option (Nat × Bool)} {x y : Operand} {t : TypeId} {d : Nat}
theorem w_range (id : Nat) {u : List UInt8} (hx : σ.ev x = .str u) (ht : C.P.underlying t = some .string) (hd : Nat.blt d C.n = true) (hpin : C.pin id = none) : Wr C ⟨some d, .range t x, ty, pos, af, g⟩ σ (((σ.kill id).set id (some (.iter u 0))).put d (.ptr id 0)) := wr_of fun γ a w s => by
  have e1 := s.ev x
  rw [hx] at e1
  have e1 := e1.str_inv
  have hrun : (execOp a.eval ⟨some d, .range t x, ty, pos, af, g⟩).run C.P w = .ok (.value (.pointer (some ⟨w.heap.size, 0, none⟩))) (w.alloc (.stringIter ⟨u.toArray⟩ 0)) := by
    simp [execOp, e1, run_range_string w t _ ht, World.iter]
  refine ⟨_, _, hrun, .inl ⟨_, rfl, upd γ id (.pointer (some ⟨w.heap.size, 0, none⟩), undef), ?_⟩⟩
  have he : Ext w (w.alloc (.stringIter ⟨u.toArray⟩ 0)) := (Below.refl _ w).alloc (Nat.le_refl _) _
  have s' := s.renew (w' := w.alloc (.stringIter ⟨u.toArray⟩ 0)) none id (.pointer (some ⟨w.heap.size, 0, none⟩), undef) (.iter u 0) hpin (fun i h => by cases h) rfl rfl rfl (by simp) (fun b hb _ => he.block b hb) (fun b hb => by
    unfold Blk at hb
    rw [upd_same] at hb
    rcases hb with hb | hb
    · simp [vblock] at hb; subst hb; exact ⟨by simp, .inl (Nat.le_refl _)⟩
    · cases hb) (fun b _ h => by cases h) (fun M' _ => ⟨w.heap.size, by rw [upd_same], heap_alloc_new w _⟩)
  exact s'.put (some d) (fun k hk => by cases hk; exact blt_lt hd) (.ptr _ _ _ _ (by simp only [upd_same]))
theorem w_next {id p : Nat} {u : List UInt8} (hx : σ.ev x = .ptr id 0) (ho : σ.heap id = some (.iter u p)) (hp : p < u.length) (hd : Nat.blt d C.n = true) : Wr C ⟨some d, .next x true, ty, pos, af, g⟩ σ ((σ.set id (some (.iter u (p + runeLen u p)))).put d (.tup [.bool true, .int .i64 p, .int .i32 (runeAt u p)])) := wr_of fun γ a w s => by
  have e1 := s.ev x
  rw [hx] at e1
  obtain ⟨b, h1, h2⟩ := e1.ptr_inv
  obtain ⟨b', hg, hh⟩ := s.obj id _ ho
  rw [hg] at h1
  cases h1
  have hrun : (execOp a.eval ⟨some d, .next x true, ty, pos, af, g⟩).run C.P w = .ok (.value (.tuple #[.bool true, .int .i64 p, .int .i32 (runeAt u p)])) (w.iterAt b ⟨u.toArray⟩ (p + runeLen u p)) := by
    simp only [execOp, h2, Sem.run_bind, Lib.run_next_any_at w b ⟨u.toArray⟩ p _ hh (by rw [sizeMk]; exact hp), Result.andThen_ok, Sem.run_pure]
    rfl
  have hne : ∀ k, k ≠ b → (w.iterAt b ⟨u.toArray⟩ (p + runeLen u p)).heap[k]? = w.heap[k]? := fun k hk => Array.getElem?_setIfInBounds_ne (Ne.symm hk)
  refine ⟨_, _, hrun, .inl ⟨_, rfl, γ, ?_⟩⟩
  have s' := s.update (w' := w.iterAt b ⟨u.toArray⟩ (p + runeLen u p)) ho (.iter u (p + runeLen u p)) rfl rfl rfl (by simp [World.iterAt]) (fun k _ hk => hne k (fun e => hk (.inl (by rw [e, hg]; rfl)))) ⟨b, hg, Lib.iterAt_heap w b _ _ _ hh⟩
  refine s'.put (some d) (fun k hk => by cases hk; exact blt_lt hd) (.tup _ _ [.bool true, .int .i64 p, .int .i32 (runeAt u p)] rfl (fun i hi hx => ?_))
  match i, hi with
  | 0, _ => exact .bool _ _
  | 1, _ => exact .int _ _ _
  | 2, _ => exact .int _ _ _
theorem q_nextend {d : Option Nat} {id p : Nat} {u : List UInt8} (hx : σ.ev x = .ptr id 0) (ho : σ.heap id = some (.iter u p)) (hp : ¬ p < u.length) : Qd C ⟨d, .next x true, ty, pos, af, g⟩ σ (.tup [.bool false]) := qd_of fun γ a w hh he => by
  have e1 := he x (by simp [Op.operands])
  rw [hx] at e1
  obtain ⟨b, h1, h2⟩ := e1.ptr_inv
  obtain ⟨b', hg, hhp⟩ := hh.obj id _ ho
  rw [hg] at h1
  cases h1
  refine ⟨.tuple #[.bool false], w, ?_, ext_refl w, .tup _ _ [.bool false] rfl (fun i hi hx => ?_)⟩
  · simp only [execOp, h2, Sem.run_bind, Lib.run_next_end_at w b ⟨u.toArray⟩ p _ hhp (by rw [sizeMk]; exact hp), Result.andThen_ok, Sem.run_pure]
  · match i, hi with
    | 0, _ => exact .bool _ _
end
section
variable {C : Cx}
theorem SR.drop1 {γ : Gh} {σ : St} {a : Act} {w : World} (s : SR C γ σ a w) (id : Nat) : SR C γ ((σ.kill id).set id none) a w ∧ ∀ b, Mut γ ((σ.kill id).set id none).heap b → Mut γ σ.heap b := by
  have live : ∀ {i : Nat} {p : AObj}, ((σ.kill id).set id none).heap i = some p → i ≠ id ∧ ∃ p', σ.heap i = some p' ∧ p = p'.kill id := fun h => by
    rcases set_heap h with ⟨_, h⟩ | ⟨h1, h2⟩
    · cases h
    · obtain ⟨_, o', h4, h5⟩ := kill_heap h2
      exact ⟨h1, o', h4, h5⟩
  have sub : ∀ b, Mut γ ((σ.kill id).set id none).heap b → Mut γ σ.heap b := fun b ⟨i, p, h1, h2⟩ => by
    obtain ⟨_, p', h3, _⟩ := live h1
    exact ⟨i, p', h3, h2⟩
  have same : upd γ id (γ id) = γ := by
    funext i
    by_cases h : i = id
    · rw [h, upd_same]
    · rw [upd_ne _ _ h]
  refine ⟨{ obj := fun i p h => ?_, disj := fun i i' p p' b h h' hb hb' => ?_, two := fun i p b h => ?_, lt := fun i p b h => ?_, chg := s.chg, glob := s.glob, pins := fun i p v hp h => ?_, env := fun k => ?_, size := s.size, defers := s.defers }, sub⟩
  · obtain ⟨hne, p', h3, rfl⟩ := live h
    have := (s.obj i p' h3).killed (t := id) (u := γ id) hne (fun _ _ _ => rfl) (fun b _ h => sub b h) (fun _ _ => rfl)
    rw [same] at this
    exact this
  · obtain ⟨_, q, h3, _⟩ := live h
    obtain ⟨_, q', h3', _⟩ := live h'
    exact s.disj i i' q q' b h3 h3' hb hb'
  · obtain ⟨_, q, h3, _⟩ := live h
    exact s.two i q b h3
  · obtain ⟨_, q, h3, _⟩ := live h
    exact s.lt i q b h3
  · obtain ⟨_, q, h3, _⟩ := live h
    exact s.pins i q v hp h3
  · have := kill_rep (t := id) (u := γ id) (s.env k) (fun _ _ _ => rfl) (fun b _ h => sub b h)
    rw [same] at this
    exact this
theorem weak_freezeF {σ : St} (fr : Bool) (slot id : Nat) {e sz : Nat} {rows : List (List AV)} (hx : σ.env slot = .sl id) (ho : σ.heap id = some (.rows e sz rows)) (hn : Nat.blt slot C.n = true) (hM0 : fr = true → ∀ b, ¬ C.M0 b) : Weak C σ (((σ.kill id).set id none).put slot (.ro fr sz rows)) := fun γ a w s => by
  obtain ⟨s', sub⟩ := s.drop1 id
  refine ⟨γ, ?_⟩
  have e1 := s.env slot
  rw [hx] at e1
  have h2 := e1.frzM (M' := Mut γ ((σ.kill id).set id none).heap) (N' := C.N) s.toHR (HS := fun i => if i = id then σ.heap id else none) (fun i o h => by
    by_cases hi : i = id
    · simp only [hi, if_true] at h ⊢; exact h
    · simp only [hi, if_false] at h; cases h) sub (fun i o b h hb hm => by
    by_cases hi : i = id
    · subst hi
      obtain ⟨j, p, h1, h3⟩ := hm
      rcases set_heap h1 with ⟨_, h1⟩ | ⟨hne, h1⟩
      · cases h1
      · obtain ⟨_, o', h4, _⟩ := kill_heap h1
        exact hne (s.disj j i o' _ b h4 ho h3 (.inl hb))
    · simp only [hi, if_false] at h; cases h) fr (fun _ => Nat.le_refl _) (fun hf i o b _ _ => hM0 hf b)
  have h3 : (AV.sl id).fz (fun i => if i = id then σ.heap id else none) fr = .ro fr sz rows := by
    rw [AV.fz]; simp only [if_true, ho]
  rw [h3] at h2
  have hlt := blt_lt hn
  have hput : a = a.put (some slot) (a.tmps.getD slot undef) := by
    have h2 : a.tmps.setIfInBounds slot (a.tmps.getD slot undef) = a.tmps := by
      apply Array.ext (by simp)
      intro i h1 h2
      rw [Array.getElem_setIfInBounds h2]
      split
      · rename_i h; subst h
        rw [Array.getD_eq_getD_getElem?, Array.getElem?_eq_getElem h2]; rfl
      · rfl
    show a = { a with tmps := a.tmps.setIfInBounds slot (a.tmps.getD slot undef) }
    rw [h2]
  rw [hput]
  refine s'.put (some slot) (fun k hk => by cases hk; exact hlt) ?_
  exact h2.mono (fun _ _ _ => rfl) (fun _ _ h => h) (Nat.le_refl _) _ (fun i hi => by cases hi)
theorem weak_freeze {σ : St} (slot id : Nat) {e sz : Nat} {rows : List (List AV)} (hx : σ.env slot = .sl id) (ho : σ.heap id = some (.rows e sz rows)) (hn : Nat.blt slot C.n = true) : Weak C σ (((σ.kill id).set id none).put slot (.ro false sz rows)) := weak_freezeF false slot id hx ho hn (fun h => by cases h)
end
end Go.Proofs.YtignjjnflcpiiaaGreatDoor
/- A loop with one way on behind it: whatever way leads out of it, what stands behind is walked once. -/
namespace Go.Proofs.YtignjjnflcpiiaaGreatDoor
open Go.RowKit
section
variable {C : Cx} {σ : St}
theorem tri_loop_to {c : Code} {id : Nat} {K : St → Prop} {Q : Exit → St → Prop} {X Z : Type} (I : X → Prop) (S : X → St) (μ : X → Nat) (J : Z → Prop) (T : Z → St) (x0 : X) (h0 : I x0) (hw : Weak C σ (S x0)) (hK : ∀ σ τ, Weak C σ τ → K τ → K σ)
    (hr : ∀ x, I x → Tri C c (S x) (loopQ C I S μ (μ x) (blockQ id (thenQ (fun σ' => ∃ z, J z ∧ Weak C σ' (T z)) Q)))) (ht : ∀ z, J z → K (T z)) : Tri C (.loop c) σ (blockQ id (thenQ K Q)) := by
  refine Tri.mono (tri_loop I S μ x0 h0 hw hr) ?_
  intro e σ' h
  have fin : (∃ z, J z ∧ Weak C σ' (T z)) → K σ' := fun ⟨z, hz, hw⟩ => hK _ _ hw (ht z hz)
  cases e with
  | normal => exact fin h
  | exit i =>
    simp only [blockQ] at h ⊢
    cases hb : Nat.beq i id with
    | true => rw [hb] at h; exact fin h
    | false => rw [hb] at h; exact h
  | _ => exact h
theorem outR {Z : Type} {J : Z → Prop} {T : Z → St} (z : Z) (hz : J z) (hw : Weak C σ (T z)) : ∃ z, J z ∧ Weak C σ (T z) := ⟨z, hz, hw⟩
theorem nextR {X : Type} {I : X → Prop} {S : X → St} {μ : X → Nat} {m : Nat} (y : X) (hI : I y) (hw : Weak C σ (S y)) (hm : μ y < m) : ∃ y, I y ∧ Weak C σ (S y) ∧ μ y < m := ⟨y, hI, hw, hm⟩
theorem weak_tri {c : Code} {Q : Exit → St → Prop} : ∀ σ τ, Weak C σ τ → Tri C c τ Q → Tri C c σ Q := fun _ _ hw h => Tri.weak hw h
end
end Go.Proofs.YtignjjnflcpiiaaGreatDoor
