import Derived.Test.YtignjjnflcpiiaaGreatDoorWVm3
import Derived.Deep.SlicePairs
import Derived.SliceStrings
import Derived.SizedLaws
import Derived.Carry
import Derived.OpenShut
set_option linter.unusedVariables false
set_option linter.unusedSimpArgs false
set_option maxHeartbeats 1000000
namespace Go.Proofs.YtignjjnflcpiiaaGreatDoor
open Go.RowKit Go.ChangeShapes Go.WideShapes Go.Deep
theorem weightsAll_mem {H : Type} {P : Program} {e : TypeId} {d : DataW H} {x : Nat} : ∀ {l : List (DataW H)}, d ∈ l → x ∈ d.weights P e → x ∈ DataW.weightsAll P e l
  | y :: r, h, hx => by
    rw [DataW.weightsAll]
    rcases List.mem_cons.1 h with rfl | h
    · exact List.mem_append_left _ hx
    · exact List.mem_append_right _ (weightsAll_mem h hx)
theorem open_fieldsC {H : Type} {enc : TypeId × Value → H} {P : Program} {W : World} {t e : TypeId} {f0 f1 : Field} {a0 : Option Addr} {len0 cap0 : Nat} {d : DataW H} {ps : List MemPlace} {n : Nat} (ht : P.underlying t = some (.slice e)) (he : P.underlying e = some (.struct #[f0, f1]))
    (ce : P.cellsOf e = 2) (o0 : f0.offset = 0) (o1 : f1.offset = 1) (c0 : P.cellsOf f0.type = 1) (c1 : P.cellsOf f1.type = 1) (u0 : P.underlying f0.type = some .string) (u1 : P.underlying f1.type = some .string) (hby : 0 < P.bytesOf e)
    (h : DataW.trod enc P W 0 (fun _ => true) true n t [.slice a0 len0 cap0] = some (d, ps)) :
    ∃ l : List (List UInt8 × List UInt8), Rep W 0 (fun _ => False) g0 (.ro false 2 (fieldRows l)) (.slice a0 len0 cap0) ∧ ((∀ x ∈ d.weights P t, x ≤ reachBytes) → l.length ≤ reachBytes ∧ ∀ f ∈ l, f.1.length ≤ reachBytes ∧ f.2.length ≤ reachBytes) := by
  rcases open_slice_pairs ht he ce o0 o1 c0 c1 h with ⟨hc, hx⟩ | ⟨a, len, cap, m, k, V0, V1, D0, D1, P0, P1, hc, _, hl, hm, hmm, hx, hall⟩
  · refine ⟨[], .ro _ _ _ _ _ (.inl ⟨rfl, a0, cap0, ?_, fun h0 => ?_⟩), fun _ => ⟨Nat.zero_le _, fun f hf => by cases hf⟩⟩
    · have : Value.slice a0 len0 cap0 = .slice none 0 0 := by simpa using hc
      cases this; rfl
    · have : Value.slice a0 len0 cap0 = .slice none 0 0 := by simpa using hc
      cases this; rfl
  · have hv : Value.slice a0 len0 cap0 = .slice (some a) len cap := by simpa using hc
    cases hv
    simp only [if_true] at hmm
    subst hmm
    have hs0 : ∀ i, i < m → ∃ s : ByteArray, V0 i = .string s ∧ D0 i = .lit (.string s.data.toList) := fun i hi => by
      obtain ⟨s, h1, h2, _⟩ := DataW.trod_string u0 (hall i hi).2.2.1
      simp only [List.cons.injEq, and_true] at h1
      simp only [Prod.mk.injEq] at h2
      exact ⟨s, h1, h2.1⟩
    have hs1 : ∀ i, i < m → ∃ s : ByteArray, V1 i = .string s ∧ D1 i = .lit (.string s.data.toList) := fun i hi => by
      obtain ⟨s, h1, h2, _⟩ := DataW.trod_string u1 (hall i hi).2.2.2
      simp only [List.cons.injEq, and_true] at h1
      simp only [Prod.mk.injEq] at h2
      exact ⟨s, h1, h2.1⟩
    have pick : ∀ i : Nat, ∃ q : List UInt8 × List UInt8, i < m → V0 i = .string ⟨q.1.toArray⟩ ∧ V1 i = .string ⟨q.2.toArray⟩ ∧ D0 i = .lit (.string q.1) ∧ D1 i = .lit (.string q.2) := fun i => by
      by_cases hi : i < m
      · obtain ⟨s, a1, a2⟩ := hs0 i hi
        obtain ⟨s', a3, a4⟩ := hs1 i hi
        exact ⟨(s.data.toList, s'.data.toList), fun _ => ⟨by simpa using a1, by simpa using a3, a2, a4⟩⟩
      · exact ⟨([], []), fun h => absurd h hi⟩
    let q : Nat → List UInt8 × List UInt8 := fun i => (pick i).choose
    have hq : ∀ i, i < m → V0 i = .string ⟨(q i).1.toArray⟩ ∧ V1 i = .string ⟨(q i).2.toArray⟩ ∧ D0 i = .lit (.string (q i).1) ∧ D1 i = .lit (.string (q i).2) := fun i => (pick i).choose_spec
    refine ⟨(List.range len0).map q, ?_, fun hw => ?_⟩
    · refine .ro _ _ _ _ _ ?_
      by_cases h0 : len0 = 0
      · subst h0
        exact .inl ⟨by simp [fieldRows], some a, m, rfl, fun h => by cases h⟩
      · obtain ⟨b, o, spot⟩ := a
        have hspot : spot = none := by simpa [Addr.add] using World.cell?_spot (hall 0 (by omega)).1
        subst hspot
        refine .inr ⟨b, o, m, fun i j => match j with | 0 => V0 i | _ => V1 i, by simp [fieldRows], ⟨fun h => h, fun _ => Nat.zero_le _⟩, by simp [fieldRows]; omega, by omega, by simp [fieldRows]; omega, fun i hi j hj => ?_, fun i hi => by simp [fieldRows], fun i hi j hj => ?_⟩
        · have hi' : i < len0 := by simpa [fieldRows] using hi
          obtain ⟨h1, h2, _⟩ := hall i (by omega)
          simp only [Addr.add_lit] at h1 h2
          match j, hj with
          | 0, _ => simpa using h1
          | 1, _ =>
            rw [show o + i * 2 + 1 = o + (i * 2 + 1) by omega]
            exact h2
        · have hi' : i < len0 := by simpa [fieldRows] using hi
          obtain ⟨e1, e2, _⟩ := hq i (by omega)
          simp only [fieldRows, List.getElem_map, List.getElem_range, List.length_cons, List.length_nil] at hj ⊢
          match j, hj with
          | 0, _ => simp only [List.getElem_cons_zero, e1]; exact .str _
          | 1, _ => simp only [List.getElem_cons_succ, List.getElem_cons_zero, e2]; exact .str _
    · simp only [Prod.mk.injEq] at hx
      obtain ⟨rfl, _⟩ := hx
      rw [DataW.weights, ht] at hw
      simp only at hw
      have hlen := hw _ List.mem_cons_self
      have hl1 : len0 ≤ len0 * P.bytesOf e := Nat.le_mul_of_pos_right _ hby
      have hl2 : len0 * P.bytesOf e ≤ (len0 + (m - len0)) * P.bytesOf e := Nat.mul_le_mul_right _ (by omega)
      simp only [List.length_map, List.length_range] at hlen
      refine ⟨by simp; omega, fun f hf => ?_⟩
      obtain ⟨i, hi, rfl⟩ := List.mem_map.1 hf
      have hi := List.mem_range.1 hi
      obtain ⟨_, _, e3, e4⟩ := hq i (by omega)
      have each : ∀ x, x = (q i).1.length ∨ x = (q i).2.length → x ≤ reachBytes := fun x hx => by
        refine hw x (List.mem_cons_of_mem _ (List.mem_append_left _ (weightsAll_mem (d := .agg [D0 i, D1 i]) (List.mem_map.2 ⟨i, List.mem_range.2 hi, rfl⟩) ?_)))
        rw [DataW.weights, he]
        simp only [List.map_cons, List.map_nil, DataW.weightsEach, e3, e4, DataW.weights]
        rcases hx with rfl | rfl <;> simp
      exact ⟨each _ (.inl rfl), each _ (.inr rfl)⟩
end Go.Proofs.YtignjjnflcpiiaaGreatDoor
namespace Go.Proofs.YtignjjnflcpiiaaGreatDoor
open Go.RowKit Go.ChangeShapes Go.WideShapes Go.Deep
def BigD : Nat → PT → Prop
  | 0, .mk _ b _ _ => b.length ≤ 140737488355328
  | k + 1, .mk h b _ ps => b.length ≤ 140737488355328 ∧ h.length ≤ 140737488355328 ∧ (∀ f ∈ h, f.1.length ≤ 140737488355328 ∧ f.2.length ≤ 140737488355328) ∧ ps.length ≤ 140737488355328 ∧ ∀ q ∈ ps, BigD k q
def PartAt (W : World) (p : PT) (cs : List Value) : Prop := ∃ hv pv, cs = [hv, .string ⟨p.body.toArray⟩, .bool p.many, pv] ∧ RowsAt W (Still 0 (fun _ => False) false) 2 (fieldRows p.head) hv ∧ PtsRep W (Still 0 (fun _ => False) false) p.parts pv
theorem reach_le {n : Nat} (h : n ≤ reachBytes) : n ≤ 140737488355328 := Nat.le_trans h (by decide)
section
variable {H : Type} {enc : TypeId × Value → H} {P : Program} {W : World} {tP tPs tF e : TypeId} {f0 f1 f2 f3 g1 g2 : Field}
  (hs : P.underlying tPs = some (.slice tP)) (hp : P.underlying tP = some (.struct #[f0, f1, f2, f3])) (hc : P.cellsOf tP = 4) (hb : 0 < P.bytesOf tP)
  (o0 : f0.offset = 0) (o1 : f1.offset = 1) (o2 : f2.offset = 2) (o3 : f3.offset = 3) (t0 : f0.type = tF) (t3 : f3.type = tPs)
  (c0 : P.cellsOf tF = 1) (c1 : P.cellsOf f1.type = 1) (c2 : P.cellsOf f2.type = 1) (c3 : P.cellsOf tPs = 1)
  (u1 : P.underlying f1.type = some .string) (u2 : P.underlying f2.type = some .bool)
  (ht : P.underlying tF = some (.slice e)) (he : P.underlying e = some (.struct #[g1, g2])) (ce : P.cellsOf e = 2) (p0 : g1.offset = 0) (p1 : g2.offset = 1) (d0 : P.cellsOf g1.type = 1) (d1 : P.cellsOf g2.type = 1) (v0 : P.underlying g1.type = some .string) (v1 : P.underlying g2.type = some .string) (hby : 0 < P.bytesOf e)
include hs hp hc hb o0 o1 o2 o3 t0 t3 c0 c1 c2 c3 u1 u2 ht he ce p0 p1 d0 d1 v0 v1 hby
theorem open_pts : ∀ n : Nat,
    (∀ cs x, DataW.trod enc P W 0 (fun _ => true) true n tP cs = some x → ∃ p, PartAt W p cs ∧ ((∀ y ∈ x.1.weights P tP, y ≤ reachBytes) → ∀ k, BigD k p)) ∧
    (∀ cs x, DataW.trod enc P W 0 (fun _ => true) true n tPs cs = some x → ∃ l v, cs = [v] ∧ PtsRep W (Still 0 (fun _ => False) false) l v ∧ ((∀ y ∈ x.1.weights P tPs, y ≤ reachBytes) → l.length ≤ reachBytes ∧ ∀ k, ∀ q ∈ l, BigD k q)) := by
  intro n
  induction n with
  | zero => exact ⟨fun cs x h => by simp [DataW.trod] at h, fun cs x h => by simp [DataW.trod] at h⟩
  | succ m ih =>
    obtain ⟨ih1, ih2⟩ := ih
    refine ⟨fun cs x h => ?_, fun cs x h => ?_⟩
    · obtain ⟨xs, k, hk, rfl, hlen, hxl, hf⟩ := DataW.trod_struct hp h
      obtain rfl : k = m := by omega
      rw [hc] at hlen
      match xs, hxl, cs, hlen with
      | [y0, y1, y2, y3], _, [w0, w1, w2, w3], _ =>
        have k0 := hf 0 f0 rfl
        have k1 := hf 1 f1 rfl
        have k2 := hf 2 f2 rfl
        have k3 := hf 3 f3 rfl
        simp only [o0, o1, o2, o3, t0, t3, c0, c1, c2, c3, List.drop_zero, List.drop_succ_cons, List.take_succ_cons, List.take_zero, List.getElem?_cons_zero, List.getElem?_cons_succ] at k0 k1 k2 k3
        obtain ⟨s, e1, e2, _⟩ := DataW.trod_string u1 k1
        obtain ⟨bo, e3, e4⟩ := DataW.trod_bool u2 k2
        obtain ⟨l, v, e5, hl, hlw⟩ := ih2 _ _ k3
        cases e1
        cases e3
        cases e5
        obtain ⟨a0, n0, cp, e6⟩ : ∃ a0 n0 cp, w0 = Value.slice a0 n0 cp := by
          rcases DataW.trod_slice ht k0 with ⟨h1, _⟩ | ⟨a, len, cap, _, _, _, _, h1, _⟩
          · exact ⟨_, _, _, (List.cons.inj h1).1⟩
          · exact ⟨_, _, _, (List.cons.inj h1).1⟩
        subst e6
        obtain ⟨fl, hrep, hfw⟩ := open_fieldsC ht he ce p0 p1 d0 d1 v0 v1 hby k0
        refine ⟨.mk fl s.data.toList bo l, ⟨_, w3, ?_, hrep.ro_inv, hl⟩, fun hw => ?_⟩
        · simp [PT.body, PT.many]
        · rw [DataW.weights, hp] at hw
          simp only [List.map_cons, List.map_nil, DataW.weightsEach, t0, t3, e2, e4, DataW.weights, List.append_nil] at hw
          have b0 := hfw fun y hy => hw y (List.mem_append_left _ hy)
          have b1 := hw _ (List.mem_append_right _ (List.mem_append_left _ (List.mem_singleton.2 rfl)))
          have b2 := hlw fun y hy => hw y (List.mem_append_right _ (List.mem_append_right _ (by simpa using hy)))
          intro k
          cases k with
          | zero => exact reach_le b1
          | succ k => exact ⟨reach_le b1, reach_le b0.1, fun f hf => ⟨reach_le (b0.2 f hf).1, reach_le (b0.2 f hf).2⟩, reach_le b2.1, b2.2 k⟩
    · rcases DataW.trod_slice hs h with ⟨h1, h2⟩ | ⟨a, len, cap, elems, rest, k, hk, rfl, rfl, _, hl, hm, hlen, hel, _, _⟩
      · exact ⟨[], _, h1, .nil none 0 (fun _ => rfl), fun _ => ⟨Nat.zero_le _, fun k q hq => by cases hq⟩⟩
      · obtain rfl : k = m := by omega
        rw [hc] at hel
        have pick : ∀ i : Nat, ∃ q : PT, ∀ hi : i < elems.length, (∃ cs', W.cells? 0 (a.add (i * 4)) 4 = some cs' ∧ PartAt W q cs') ∧ ((∀ y ∈ elems[i].1.weights P tP, y ≤ reachBytes) → ∀ k, BigD k q) := fun i => by
          by_cases hi : i < elems.length
          · have := hel i (by omega)
            rw [List.getElem?_eq_getElem hi] at this
            obtain ⟨cs', h1, h2⟩ := Option.bind_eq_some_iff.1 this
            obtain ⟨p, h3, h4⟩ := ih1 _ _ h2
            exact ⟨p, fun _ => ⟨⟨cs', h1, h3⟩, h4⟩⟩
          · exact ⟨.mk [] [] false [], fun h => absurd h hi⟩
        let q : Nat → PT := fun i => (pick i).choose
        have hq : ∀ i (hi : i < elems.length), (∃ cs', W.cells? 0 (a.add (i * 4)) 4 = some cs' ∧ PartAt W (q i) cs') ∧ ((∀ y ∈ elems[i].1.weights P tP, y ≤ reachBytes) → ∀ k, BigD k (q i)) := fun i => (pick i).choose_spec
        refine ⟨(List.range elems.length).map q, _, rfl, ?_, fun hw => ?_⟩
        · by_cases h0 : elems.length = 0
          · rw [← hlen, h0]
            exact .nil (some a) cap (fun h => by cases h)
          · obtain ⟨b, o, spot⟩ := a
            have cell : ∀ i (hi : i < elems.length), ∃ hv pv, (W.cell? ((⟨b, o, spot⟩ : Addr).add (i * 4) |>.add 0) = some hv ∧ W.cell? ((⟨b, o, spot⟩ : Addr).add (i * 4) |>.add 1) = some (.string ⟨(q i).body.toArray⟩) ∧
                W.cell? ((⟨b, o, spot⟩ : Addr).add (i * 4) |>.add 2) = some (.bool (q i).many) ∧ W.cell? ((⟨b, o, spot⟩ : Addr).add (i * 4) |>.add 3) = some pv) ∧
                RowsAt W (Still 0 (fun _ => False) false) 2 (fieldRows (q i).head) hv ∧ PtsRep W (Still 0 (fun _ => False) false) (q i).parts pv := fun i hi => by
              obtain ⟨⟨cs', h1, hv, pv, rfl, h3, h4⟩, _⟩ := hq i hi
              obtain ⟨_, _, h5⟩ := World.cells?_some h1
              exact ⟨hv, pv, ⟨h5 0 (by omega), h5 1 (by omega), h5 2 (by omega), h5 3 (by omega)⟩, h3, h4⟩
            have hspot : spot = none := by
              obtain ⟨_, _, ⟨h1, _⟩, _⟩ := cell 0 (by omega)
              simpa [Addr.add] using World.cell?_spot h1
            subst hspot
            have two : ∀ i : Nat, ∃ z : Value × Value, i < elems.length → (W.cell? ⟨b, o + i * 4, none⟩ = some z.1 ∧ W.cell? ⟨b, o + i * 4 + 1, none⟩ = some (.string ⟨(q i).body.toArray⟩) ∧
                W.cell? ⟨b, o + i * 4 + 2, none⟩ = some (.bool (q i).many) ∧ W.cell? ⟨b, o + i * 4 + 3, none⟩ = some z.2) ∧
                RowsAt W (Still 0 (fun _ => False) false) 2 (fieldRows (q i).head) z.1 ∧ PtsRep W (Still 0 (fun _ => False) false) (q i).parts z.2 := fun i => by
              by_cases hi : i < elems.length
              · obtain ⟨hv, pv, h1, h2⟩ := cell i hi
                simp only [Addr.add_lit, Nat.add_zero] at h1
                exact ⟨(hv, pv), fun _ => ⟨h1, h2⟩⟩
              · exact ⟨(.nilIface, .nilIface), fun h => absurd h hi⟩
            have hz := fun i => (two i).choose_spec
            have e1 : ((List.range elems.length).map q).length = elems.length := by simp
            have key := PtsRep.mk (w := W) (ok := Still 0 (fun _ => False) false) ((List.range elems.length).map q) b o cap (fun i => (two i).choose.1) (fun i => (two i).choose.2) ⟨fun h => h, fun _ => Nat.zero_le _⟩ (by omega) (by omega)
              (fun i hi => by
                have := (hz i (by omega)).1
                simpa using this)
              (fun i hi => by
                have := (hz i (by omega)).2.1
                simpa using this)
              (fun i hi => by
                have := (hz i (by omega)).2.2
                simpa using this)
            rw [e1] at key
            rw [← hlen]
            exact key
        · rw [DataW.weights, hs] at hw
          simp only at hw
          have hlw := hw _ List.mem_cons_self
          simp only [List.length_map] at hlw ⊢
          have hl1 : elems.length + rest.length ≤ (elems.length + rest.length) * P.bytesOf tP := Nat.le_mul_of_pos_right _ hb
          refine ⟨by rw [List.length_range]; omega, fun k x hx => ?_⟩
          obtain ⟨i, hi, rfl⟩ := List.mem_map.1 hx
          have hi := List.mem_range.1 hi
          exact (hq i hi).2 (fun y hy => hw y (List.mem_cons_of_mem _ (List.mem_append_left _ (weightsAll_mem (List.mem_map.2 ⟨elems[i], List.getElem_mem hi, rfl⟩) hy)))) k
theorem open_part {v : Value} {d : DataW H} {ps : List MemPlace} {r : Reach} {b0 : Nat} (hval : Value.okWide P W r b0 tP v) (h : DataW.Trod enc P W 0 (fun _ => true) true tP v d ps) :
    ∃ p : PT, Rep W 0 (fun _ => False) g0 (.agg [.ro false 2 (fieldRows p.head), .str p.body, .bool p.many, .pts false p.parts]) v ∧ ((∀ x ∈ d.weights P tP, x ≤ reachBytes) → ∀ k, BigD k p) := by
  obtain ⟨cs, rfl, hcs⟩ := okWide_struct hp hval
  obtain ⟨n, h⟩ := h
  obtain ⟨p, ⟨hv, pv, e1, h1, h2⟩, h3⟩ := (open_pts hs hp hc hb o0 o1 o2 o3 t0 t3 c0 c1 c2 c3 u1 u2 ht he ce p0 p1 d0 d1 v0 v1 hby n).1 _ _ h
  have e2 : cs = ([hv, .string ⟨p.body.toArray⟩, .bool p.many, pv] : List Value).toArray := by
    have : cs.toList = _ := e1
    rw [← this]
  subst e2
  refine ⟨p, .agg _ _ _ rfl (fun i hi hx => ?_), h3⟩
  match i, hi with
  | 0, _ => exact .ro _ _ _ _ _ h1
  | 1, _ => exact .str _ _
  | 2, _ => exact .bool _ _
  | 3, _ => exact .pts _ _ _ _ h2
end
end Go.Proofs.YtignjjnflcpiiaaGreatDoor
