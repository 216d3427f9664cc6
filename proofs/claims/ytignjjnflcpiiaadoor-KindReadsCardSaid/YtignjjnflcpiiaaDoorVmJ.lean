/- Appends; nil as an empty slice of the frame's own; what is no longer written. -/
import Derived.Test.YtignjjnflcpiiaaDoorVmI
set_option linter.unusedVariables false
set_option linter.unusedSimpArgs false
namespace Go.Proofs.YtignjjnflcpiiaaDoor
open Go.RowKit

theorem own_v {v : Value} : v.ownBlock = vblock v ∨ ∃ a, v = .pointer (some a) := by
  cases v with
  | pointer a => cases a with
    | none => exact .inl rfl
    | some a => exact .inr ⟨a, rfl⟩
  | slice a n c => cases a <;> exact .inl rfl
  | _ => exact .inl rfl
theorem run_append_at {P : Program} (w : World) (t ty e : TypeId) (i : TypeInfo) (z : Value) (size bytes : Nat) (ht : P.underlying t = some (.slice e)) (hi : P.info? e = some i) (hz : i.zero = some z)
    (hsize : i.size = size) (hby : i.bytes = bytes) (hzs : z.cells.size = size) (hsz : 0 < size)
    (v : Value) (n : Nat) (xs : List Value) (hown : w.ownsRow 0 e size v n xs)
    (a : Addr) (m c : Nat) (news : List Value) (hl : news.length = m * size) (hnews : ∀ j u, news[j]? = some u → w.cell? (a.add j) = some u) (h1 : ∀ u ∈ news, u.oneCell' = true)
    (hm : 0 < m) (h63 : n + m ≤ maxLen) (hbytes : (n + m) * bytes ≤ 140737488355328) :
    ∃ v' w', (Builtin.append_ #[t, t] ty #[v, .slice (some a) m c]).run P w = .ok v' w' ∧ w'.ownsRow 0 e size v' (n + m) (xs ++ news) ∧ w.grownBy w' v.ownBlock ∧ (∀ b, vblock v' = some b → b < w'.heap.size ∧ (w.heap.size ≤ b ∨ vblock v = some b)) := by
  have hsmall : n + m ≤ 9223372036854775807 := by simp only [maxLen] at h63; omega
  have lt : ∀ {v' : Value} {w' : World}, w'.ownsRow 0 e size v' (n + m) (xs ++ news) → ∀ b, vblock v' = some b → b < w'.heap.size := by
    intro v' w' h b hb
    refine (h.lt b ?_).2
    rcases own_v (v := v') with h' | ⟨a, rfl⟩
    · rw [h']; exact hb
    · rcases h.2 with ⟨h3, _⟩ | ⟨g, cap, cur, h3, _⟩ <;> cases h3
  rcases hown.2 with ⟨rfl, rfl⟩ | ⟨g, cap, cur, rfl, _, hg, hnc, hcm, hcs, htake⟩
  · have hx : xs = [] := List.eq_nil_of_length_eq_zero (by simpa using hown.1)
    subst hx
    obtain ⟨v', w', h2, h3, h4, _⟩ := run_append_own (P := P) w w.heap.size t ty e i z size bytes ht hi hz hsize hby hzs hsz (.slice none 0 0) 0 [] (World.ownsRow_nil _ _ _ _) a m c news hl hnews h1 h63 hbytes (Nat.le_refl _)
    have h3' : w'.ownsRow 0 e size v' (0 + m) ([] ++ news) := by
      refine ⟨h3.1, ?_⟩
      rcases h3.2 with h | ⟨g, cap, cur, a1, a2, r⟩
      · exact .inl h
      · exact .inr ⟨g, cap, cur, a1, Nat.zero_le _, r⟩
    refine ⟨v', w', h2, h3', h4, fun b hb => ⟨lt h3' b hb, .inl ?_⟩⟩
    refine (h3.lt b ?_).1
    rcases own_v (v := v') with h' | ⟨a, rfl⟩
    · rw [h']; exact hb
    · rcases h3.2 with ⟨h3, _⟩ | ⟨g, cap, cur, h3, _⟩ <;> cases h3
  · obtain ⟨v', w', h2, h3, h4, _⟩ := run_append_own (P := P) w 0 t ty e i z size bytes ht hi hz hsize hby hzs hsz (.slice (some ⟨g, 0, none⟩) n cap) n xs hown a m c news hl hnews h1 h63 hbytes (Nat.zero_le _)
    refine ⟨v', w', h2, h3, h4, fun b hb => ⟨lt h3 b hb, ?_⟩⟩
    subst hsize hby
    by_cases hroom : n + m ≤ cap
    · have hfit : n * i.size + news.length ≤ cur.size := by rw [hl, hcs, ← Nat.add_mul]; exact Nat.mul_le_mul_right _ hroom
      have hr := run_append_room (P := P) w t ty e i ht hi g n cap cur hg a m c news hl hnews h1 hroom hfit
      rw [h2] at hr
      cases hr
      exact .inr hb
    · have holds : ∀ j u, xs[j]? = some u → w.cell? ((⟨g, 0, none⟩ : Addr).add j) = some u := hown.cells (g := g) rfl
      have hr := run_append_grow (P := P) w t ty e i z ht hi hz ⟨g, 0, none⟩ n cap xs hown.1 holds a m c news hl hnews (by omega) (by omega) (growslice_fits (by omega) hbytes)
      rw [h2] at hr
      cases hr
      simp only [vblock, Option.some.injEq] at hb
      exact .inl (by omega)

/-- an element type whose values are sz cells and no more than 1024 bytes -/
def elemB (P : Program) (e : TypeId) (sz : Nat) : Bool := match P.info? e with
  | some i => Nat.beq i.size sz && Nat.ble i.bytes 1024 && (match i.zero with
    | some z => Nat.beq z.cells.size sz
    | none => false)
  | none => false
theorem elemB_spec {P : Program} {e : TypeId} {sz : Nat} (h : elemB P e sz = true) : ∃ i z, P.info? e = some i ∧ i.zero = some z ∧ i.size = sz ∧ i.bytes ≤ 1024 ∧ z.cells.size = sz := by
  unfold elemB at h
  cases hi : P.info? e with
  | none => rw [hi] at h; cases h
  | some i =>
    rw [hi] at h
    simp only [Bool.and_eq_true] at h
    obtain ⟨⟨h1, h2⟩, h3⟩ := h
    cases hz : i.zero with
    | none => rw [hz] at h3; cases h3
    | some z => rw [hz] at h3; exact ⟨i, z, rfl, hz, Nat.eq_of_beq_eq_true h1, Nat.le_of_ble_eq_true h2, Nat.eq_of_beq_eq_true h3⟩

theorem flat_cell {v : AV} {x : Value} (h : FRep v x) (hf : v.flat = true) : x.oneCell' = true := by cases h <;> first | rfl | cases hf

section
variable {C : Cx} {σ : St} {ty : TypeId} {pos : String} {af : Array Edge} {g : Option (Nat × Bool)} {x y : Operand} {t : TypeId} {d : Nat}
/-- the cells of rows, one behind the other -/
theorem rows_cells {w : World} {ok : Nat → Prop} {sz : Nat} {rows : List (List AV)} {v : Value} (h : RowsAt w ok sz rows v) (hne : rows ≠ []) :
    ∃ (a : Addr) (c : Nat) (news : List Value), v = .slice (some a) rows.length c ∧ 0 < sz ∧ 0 < rows.length ∧ news.length = rows.length * sz ∧ (∀ j u, news[j]? = some u → w.cell? (a.add j) = some u) ∧ (∀ i (h : i < rows.length), rows[i].length = sz) ∧
      ∀ i (h : i < rows.length) j (hj : j < rows[i].length), ∃ u, news[i * sz + j]? = some u ∧ FRep rows[i][j] u := by
  rcases h with ⟨h, _⟩ | ⟨b, o, cap, cs, hv, hok, h0, hs, hcap, hc, hl, hr⟩
  · exact absurd h hne
  · refine ⟨⟨b, o, none⟩, cap, (List.range (rows.length * sz)).map (fun k => cs (k / sz) (k % sz)), hv, hs, h0, by simp, fun j u hj => ?_, hl, fun i hi j hj => ?_⟩
    · obtain ⟨hjl, hje⟩ := List.getElem?_eq_some_iff.1 hj
      simp at hjl
      simp at hje
      subst hje
      have h1 : j / sz < rows.length := Nat.div_lt_of_lt_mul (by rw [Nat.mul_comm]; exact hjl)
      have h2 := hc (j / sz) h1 (j % sz) (Nat.mod_lt _ hs)
      rw [Addr.add_lit]
      have : o + j / sz * sz + j % sz = o + j := by rw [Nat.add_assoc, Nat.div_add_mod']
      rw [this] at h2
      exact h2
    · have hjs : j < sz := by rw [hl i hi] at hj; exact hj
      have h1 : i * sz + j < rows.length * sz := by
        have : (i + 1) * sz ≤ rows.length * sz := Nat.mul_le_mul_right _ hi
        rw [Nat.add_mul] at this; omega
      refine ⟨cs i j, ?_, hr i hi j hj⟩
      rw [List.getElem?_map, List.getElem?_range h1]
      have h2 : (i * sz + j) / sz = i := by rw [Nat.mul_comm, Nat.mul_add_div hs, Nat.div_eq_of_lt hjs, Nat.add_zero]
      have h3 : (i * sz + j) % sz = j := by rw [Nat.mul_comm, Nat.mul_add_mod, Nat.mod_eq_of_lt hjs]
      simp [h2, h3]
theorem append_core {old : Option Nat} {rows rows2 : List (List AV)} {e sz : Nat} {fr : Bool} (id : Nat) (ht : C.P.underlying t = some (.slice e)) (he : elemB C.P e sz = true) (hy : σ.ev y = .ro fr sz rows2) (hne : rows2 ≠ [])
    (hf : (rows2.all fun r => r.all AV.flat) = true) (hn : rows.length + rows2.length ≤ 100000000000) (hd : Nat.blt d C.n = true) (hpin : C.pin id = none)
    (hx : ∀ γ (a : Act) (w : World), SR C γ σ a w → ∃ v cs, a.eval x = v ∧ w.ownsRow 0 e sz v rows.length cs ∧ (∀ i (h : i < rows.length), rows[i].length = sz) ∧ (∀ i (h : i < rows.length) j (hj : j < rows[i].length), ∃ u, cs[i * sz + j]? = some u ∧ FRep rows[i][j] u) ∧
      (∀ i, old = some i → (∃ p, σ.heap i = some p) ∧ γ i = (v, undef)) ∧ (old = none → v = .slice none 0 0)) :
    Wr C ⟨some d, .call { callee := .builtin .append, args := #[x, y], argTypes := #[t, t] }, ty, pos, af, g⟩ σ ((((σ.drop old).kill id).set id (some (.rows e sz (rows ++ rows2)))).put d (.sl id)) := wr_of fun γ a w s => by
  obtain ⟨v, cs, hv, hown, hl, hr, hold, hnil⟩ := hx γ a w s
  have e2 := s.ev y
  rw [hy] at e2
  obtain ⟨ad, c, news, hyv, hs, hm, hnl, hnews, hl2, hr2⟩ := rows_cells e2.ro_inv hne
  obtain ⟨i, z, hi, hz, hsz, hby, hzs⟩ := elemB_spec he
  have hone : ∀ u ∈ news, u.oneCell' = true := by
    intro u hu
    obtain ⟨k, hk, rfl⟩ := List.mem_iff_getElem.1 hu
    have hks : k / sz < rows2.length := Nat.div_lt_of_lt_mul (by rw [Nat.mul_comm, ← hnl]; exact hk)
    have hkm : k % sz < rows2[k / sz].length := by rw [hl2 _ hks]; exact Nat.mod_lt _ hs
    obtain ⟨u, hu, hfr⟩ := hr2 _ hks _ hkm
    rw [Nat.div_add_mod'] at hu
    obtain ⟨_, hue⟩ := List.getElem?_eq_some_iff.1 hu
    rw [hue]
    exact flat_cell hfr (List.all_eq_true.1 (List.all_eq_true.1 hf _ (List.getElem_mem hks)) _ (List.getElem_mem hkm))
  obtain ⟨v', w', h1, h2, h3, h4⟩ := run_append_at (P := C.P) w t ty e i z sz i.bytes ht hi hz hsz rfl hzs hs v rows.length cs hown ad rows2.length c news hnl hnews hone hm (by unfold maxLen; omega) (by
    have : (rows.length + rows2.length) * i.bytes ≤ 100000000000 * 1024 := Nat.mul_le_mul hn hby
    omega)
  have hrun : (execOp a.eval ⟨some d, .call { callee := .builtin .append, args := #[x, y], argTypes := #[t, t] }, ty, pos, af, g⟩).run C.P w = .ok (.value v') w' := by
    simp [execOp, resolve, invoke, builtin, hv, hyv, h1]
  refine ⟨.value v', w', hrun, .inl ⟨v', rfl, upd γ id (v', undef), ?_⟩⟩
  have hvb : ∀ b, v.ownBlock = some b → vblock v = some b := fun b hb => by
    rcases own_v (v := v) with h | ⟨a, rfl⟩
    · rw [← h]; exact hb
    · cases hb
  have s' := s.renew old id (v', undef) (.rows e sz (rows ++ rows2)) hpin (fun i hi => (hold i hi).1) h3.os h3.tape h3.output h3.size (fun b hb hno => h3.block b hb (fun e => by
    cases ho : old with
    | none => rw [hnil ho] at e; cases e
    | some i => exact hno i ho (.inl (by rw [(hold i ho).2]; exact hvb b e.symm)))) (fun b hb => by
    unfold Blk at hb
    rw [upd_same] at hb
    rcases hb with hb | hb
    · obtain ⟨h5, h6⟩ := h4 b hb
      refine ⟨h5, ?_⟩
      rcases h6 with h6 | h6
      · exact .inl h6
      · cases ho : old with
        | none => rw [hnil ho] at h6; cases h6
        | some i => exact .inr ⟨i, rfl, .inl (by rw [(hold i ho).2]; exact h6)⟩
    · cases hb) (fun b _ h => by cases h) (fun M' _ => by
    refine ⟨v', cs ++ news, by rw [upd_same], by rw [List.length_append]; exact h2, hs, fun k hk => ?_, fun k hk j hj => ?_⟩
    · rw [List.getElem_append]
      split
      · exact hl _ _
      · exact hl2 _ _
    · rw [List.length_append] at hk
      have hcl : cs.length = rows.length * sz := hown.1
      by_cases hkr : k < rows.length
      · have e1 : (rows ++ rows2)[k]'(by simpa using hk) = rows[k] := List.getElem_append_left hkr
        have hj' : j < rows[k].length := by rw [e1] at hj; exact hj
        obtain ⟨u, hu, hfr⟩ := hr k hkr j hj'
        refine ⟨u, ?_, ?_⟩
        · rw [List.getElem?_append_left (List.getElem?_eq_some_iff.1 hu).1]; exact hu
        · simp only [e1]; exact hfr
      · have e1 : (rows ++ rows2)[k]'(by simpa using hk) = rows2[k - rows.length]'(by omega) := List.getElem_append_right (by omega)
        have hj' : j < (rows2[k - rows.length]'(by omega)).length := by rw [e1] at hj; exact hj
        obtain ⟨u, hu, hfr⟩ := hr2 (k - rows.length) (by omega) j hj'
        refine ⟨u, ?_, ?_⟩
        · have : k * sz + j = rows.length * sz + ((k - rows.length) * sz + j) := by
            rw [← Nat.add_assoc, ← Nat.add_mul]; congr 2; omega
          rw [this, List.getElem?_append_right (by omega), hcl, Nat.add_sub_cancel_left]
          exact hu
        · simp only [e1]; exact hfr)
  refine s'.put (some d) (fun k hk => by cases hk; exact blt_lt hd) ?_
  have := Rep.sl (w := w') (N := C.N) (M := Mut (upd γ id (v', undef)) (((σ.drop old).kill id).set id (some (.rows e sz (rows ++ rows2)))).heap) (fun i => (upd γ id (v', undef) i).1) id
  simp only [upd_same] at this
  exact this
theorem w_append {id : Nat} {rows rows2 : List (List AV)} {e sz : Nat} {fr : Bool} (hx : σ.ev x = .sl id) (ho : σ.heap id = some (.rows e sz rows)) (hy : σ.ev y = .ro fr sz rows2) (ht : C.P.underlying t = some (.slice e)) (he : elemB C.P e sz = true) (hne : rows2 ≠ [])
    (hf : (rows2.all fun r => r.all AV.flat) = true) (hn : rows.length + rows2.length ≤ 100000000000) (hd : Nat.blt d C.n = true) (hpin : C.pin id = none) :
    Wr C ⟨some d, .call { callee := .builtin .append, args := #[x, y], argTypes := #[t, t] }, ty, pos, af, g⟩ σ ((((σ.drop (some id)).kill id).set id (some (.rows e sz (rows ++ rows2)))).put d (.sl id)) :=
  append_core id ht he hy hne hf hn hd hpin (fun γ a w s => by
    have e1 := s.ev x
    rw [hx] at e1
    obtain ⟨v, cs, hg, hown, hs, hl, hr⟩ := s.obj id _ ho
    exact ⟨v, cs, by rw [e1.sl_inv, hg], hown, hl, hr, fun i hi => by cases hi; exact ⟨⟨_, ho⟩, hg⟩, fun h => by cases h⟩)
theorem w_appendn (id : Nat) {rows2 : List (List AV)} {e sz : Nat} {fr : Bool} (hx : σ.ev x = .nils) (hy : σ.ev y = .ro fr sz rows2) (ht : C.P.underlying t = some (.slice e)) (he : elemB C.P e sz = true) (hne : rows2 ≠ [])
    (hf : (rows2.all fun r => r.all AV.flat) = true) (hn : rows2.length ≤ 100000000000) (hd : Nat.blt d C.n = true) (hpin : C.pin id = none) :
    Wr C ⟨some d, .call { callee := .builtin .append, args := #[x, y], argTypes := #[t, t] }, ty, pos, af, g⟩ σ (((σ.kill id).set id (some (.rows e sz rows2))).put d (.sl id)) :=
  append_core (old := none) (rows := []) id ht he hy hne hf (by simpa using hn) hd hpin (fun γ a w s => by
    have e1 := s.ev x
    rw [hx] at e1
    exact ⟨_, [], e1.nils_inv, World.ownsRow_nil _ _ _ _, fun i hi => absurd hi (Nat.not_lt_zero _), fun i hi => absurd hi (Nat.not_lt_zero _), fun i hi => (by cases hi), fun _ => rfl⟩)

/-- nil is an empty slice of the frame's own, too -/
theorem weak_nil {σ : St} (slot id e sz : Nat) (hx : σ.env slot = .nils) (hs : 0 < sz) (hn : Nat.blt slot C.n = true) (hpin : C.pin id = none) : Weak C σ (((σ.kill id).set id (some (.rows e sz []))).put slot (.sl id)) := fun γ a w s => by
  refine ⟨upd γ id (.slice none 0 0, undef), ?_⟩
  have s' := s.renew none id (.slice none 0 0, undef) (.rows e sz []) hpin (fun i h => by cases h) rfl rfl rfl (Nat.le_refl _) (fun _ _ _ => rfl) (fun b hb => by
    unfold Blk at hb
    rw [upd_same] at hb
    rcases hb with hb | hb <;> cases hb) (fun b h => by cases h) (fun M' _ => ⟨.slice none 0 0, [], by rw [upd_same], World.ownsRow_nil _ _ _ _, hs, fun i hi => absurd hi (Nat.not_lt_zero _), fun i hi => absurd hi (Nat.not_lt_zero _)⟩)
  have e1 := s.env slot
  rw [hx] at e1
  have hv := e1.nils_inv
  have hlt := blt_lt hn
  have : a = a.put (some slot) (.slice none 0 0) := by
    have h2 : a.tmps.setIfInBounds slot (.slice none 0 0) = a.tmps := by
      apply Array.ext (by simp)
      intro i h1 h2
      rw [Array.getElem_setIfInBounds h2]
      split
      · rename_i h; subst h
        rw [← hv, Array.getD_eq_getD_getElem?, Array.getElem?_eq_getElem h2]; rfl
      · rfl
    show a = { a with tmps := a.tmps.setIfInBounds slot (.slice none 0 0) }
    rw [h2]
  rw [this]
  refine s'.put (some slot) (fun k hk => by cases hk; exact hlt) ?_
  have := Rep.sl (w := w) (N := C.N) (M := Mut (upd γ id (.slice none 0 0, undef)) ((σ.kill id).set id (some (.rows e sz []))).heap) (fun i => (upd γ id (.slice none 0 0, undef) i).1) id
  simp only [upd_same] at this
  exact this
end
end Go.Proofs.YtignjjnflcpiiaaDoor
