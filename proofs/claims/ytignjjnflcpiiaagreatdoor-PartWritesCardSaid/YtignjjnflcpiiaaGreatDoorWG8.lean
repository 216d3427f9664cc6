import Derived.Test.YtignjjnflcpiiaaGreatDoorWG7
import Derived.Below
import Derived.Handy
import Derived.Test.YtignjjnflcpiiaaGreatDoorWQa
import Derived.Test.YtignjjnflcpiiaaGreatDoorWShelf
import Derived.KernelRfl
set_option linter.unusedVariables false
set_option linter.unusedSimpArgs false
set_option maxHeartbeats 1000000
namespace Go.Proofs.YtignjjnflcpiiaaGreatDoor
open Go.RowKit Go.Extern.Stop Go.Stop Go.Extern
def ErrVar (w : World) : Prop := w.cell? ⟨2, 0, none⟩ = some (rty 32)
theorem errVar_lt {w : World} (h : ErrVar w) : 2 < w.heap.size := by
  rcases Nat.lt_or_ge 2 w.heap.size with h' | h'
  · exact h'
  · simp [ErrVar, World.cell?, Array.getElem?_eq_none h'] at h
theorem ErrVar.below {B : Nat} {w w' : World} (h : ErrVar w) (hb : Below B w w') (hB : 2 < B) : ErrVar w' := by
  unfold ErrVar
  rw [hb.cell hB]
  exact h
def IsErr (w : World) (v : Value) (e place : Int) : Prop :=
  (v = .nilIface ∧ e = 0 ∧ place = -1) ∨ (v = .iface 28 (.int .i64 e) ∧ place = -1) ∨
    ∃ b o : Nat, v = .iface 98 (.pointer (some ⟨b, o, none⟩)) ∧ w.cell? ⟨b, o, none⟩ = some (.int .i64 e) ∧ w.cell? ⟨b, o + 1, none⟩ = some (.int .i64 place)
theorem cellOf_lt {w : World} {b k : Nat} {x : Value} (h : w.cell? ⟨b, k, none⟩ = some x) : b < w.heap.size := by
  rcases Nat.lt_or_ge b w.heap.size with h' | h'
  · exact h'
  · simp [World.cell?, Array.getElem?_eq_none h'] at h
theorem IsErr.below {w w' : World} {v : Value} {e p : Int} (h : IsErr w v e p) (hb : Below w.heap.size w w') : IsErr w' v e p := by
  rcases h with h | h | ⟨b, o, h1, h2, h3⟩
  · exact .inl h
  · exact .inr (.inl h)
  · exact .inr (.inr ⟨b, o, h1, by rw [hb.cell (cellOf_lt h2)]; exact h2, by rw [hb.cell (cellOf_lt h3)]; exact h3⟩)
set_option maxHeartbeats 1000000 in
theorem tell_any (v : Value) (e p : Int) (w : World) (h : IsErr w v e p) (hg : ErrVar w) :
    Calls Tryz.prog 16 #[v] w fun x w' => x = .returned (.int .i64 e) ∧ Below w.heap.size w w' := by
  have hgl := errVar_lt hg
  have hg1 : ErrVar (w.alloc (.cells #[.int .i64 0] 28)) := hg.below ((Below.refl _ w).alloc (Nat.le_refl _) _) hgl
  have bel : ∀ k : Int, Below w.heap.size w (((asW ⟨w.heap.size, 0, none⟩ (w.alloc (.cells #[.int .i64 0] 28))).alloc (.cells #[.int .i64 k] 28)).setCell ⟨w.heap.size, 0, none⟩ (.int .i64 k)) := fun k =>
    (((((((Below.refl _ w).alloc (Nat.le_refl _) _).alloc (by simp) _).alloc (by simp; omega) _).alloc (by simp; omega) _).alloc (by simp; omega) _)).setCell (Nat.le_refl _) _
  have cel : ∀ k : Int, (((asW ⟨w.heap.size, 0, none⟩ (w.alloc (.cells #[.int .i64 0] 28))).alloc (.cells #[.int .i64 k] 28)).setCell ⟨w.heap.size, 0, none⟩ (.int .i64 k)).cell? ⟨w.heap.size, 0, none⟩ = some (.int .i64 k) := fun k => by
    rw [World.cell?_setCell_same (u := .int .i64 0)]
    rw [World.cell?_alloc_lt _ _ ⟨w.heap.size, 0, none⟩ (by simp; omega), World.cell?_alloc_lt _ _ ⟨w.heap.size, 0, none⟩ (by simp; omega), World.cell?_alloc_lt _ _ ⟨w.heap.size, 0, none⟩ (by simp; omega), World.cell?_alloc_lt _ _ ⟨w.heap.size, 0, none⟩ (by simp)]
    simp
  have Bel := hid bel
  clear bel
  rcases h with ⟨rfl, rfl, rfl⟩ | ⟨rfl, rfl⟩ | ⟨b, o, rfl, h2, h3⟩
  · go_enter Tryz.func16, Tryz.ntmps16
    go_wp2_with fail
    go_ret
    exact ⟨rfl, Below.refl _ _⟩
  · go_enter Tryz.func16, Tryz.ntmps16
    go_wp2_with fail
    refine (as_errno e ⟨w.heap.size, 0, none⟩ (.int .i64 0) _ hg1 (by simp) (by simp)).mono ?_
    rintro x w1 ⟨rfl, rfl⟩
    have ce := cel e
    have be := Bel.out e
    generalize (((asW ⟨w.heap.size, 0, none⟩ (w.alloc (.cells #[.int .i64 0] 28))).alloc (.cells #[.int .i64 e] 28)).setCell ⟨w.heap.size, 0, none⟩ (.int .i64 e)) = w1 at ce be ⊢
    go_wp2_with fail
    go_ret
    exact ⟨rfl, be⟩
  · have h2' : (w.alloc (.cells #[.int .i64 0] 28)).cell? ⟨b, o, none⟩ = some (.int .i64 e) := by
      rw [World.cell?_alloc_lt _ _ ⟨b, o, none⟩ (cellOf_lt h2)]; exact h2
    go_enter Tryz.func16, Tryz.ntmps16
    go_wp2_with fail
    refine (as_at b o e ⟨w.heap.size, 0, none⟩ (.int .i64 0) _ h2' hg1 (by simp) (by simp)).mono ?_
    rintro x w1 ⟨rfl, rfl⟩
    have ce := cel e
    have be := Bel.out e
    generalize (((asW ⟨w.heap.size, 0, none⟩ (w.alloc (.cells #[.int .i64 0] 28))).alloc (.cells #[.int .i64 e] 28)).setCell ⟨w.heap.size, 0, none⟩ (.int .i64 e)) = w1 at ce be ⊢
    go_wp2_with fail
    go_ret
    exact ⟨rfl, be⟩
theorem atNo (v : Value) (w : World) : (Instr.typeAssert (.iface 28 v) 32 98 true).run Tryz.prog w = .ok (.tuple #[.pointer none, .bool false]) w := by kernel_rfl
theorem atYes (v : Value) (w : World) : (Instr.typeAssert (.iface 98 v) 32 98 true).run Tryz.prog w = .ok (.tuple #[v, .bool true]) w := by kernel_rfl
set_option maxHeartbeats 1000000 in
set_option maxRecDepth 100000 in
theorem place_any (v : Value) (e p : Int) (w : World) (h : IsErr w v e p) (hg : ErrVar w) :
    Calls Tryz.prog 58 #[v] w fun x w' => x = .returned (.tuple #[.int .i64 e, .int .i64 p]) ∧ Below w.heap.size w w' := by
  have nU := noUnE
  have aN := atNo
  have aY := atYes
  have Tl := hid (tell_any v e p w h hg)
  rcases h with ⟨rfl, rfl, rfl⟩ | ⟨rfl, rfl⟩ | ⟨b, o, rfl, h2, h3⟩
  · go_enter Tryz.func58, Tryz.ntmps58
    go_wp2_with fail
    refine Tl.out.mono ?_
    rintro x w1 ⟨rfl, b1⟩
    go_wp2_with fail
    refine wp_loop_rounds 1 ?_
    rw [rounds_succ]
    go_wp2_with fail
    go_ret2
    exact ⟨rfl, b1⟩
  · go_enter Tryz.func58, Tryz.ntmps58
    go_wp2_with fail
    refine Tl.out.mono ?_
    rintro x w1 ⟨rfl, b1⟩
    go_wp2_with fail
    refine wp_loop_rounds 1 ?_
    rw [rounds_succ]
    go_wp2_with fail
    go_ret2
    exact ⟨rfl, b1⟩
  · go_enter Tryz.func58, Tryz.ntmps58
    go_wp2_with fail
    refine Tl.out.mono ?_
    rintro x w1 ⟨rfl, b1⟩
    have h3' : w1.cell? ⟨b, o + 1, none⟩ = some (.int .i64 p) := by rw [b1.cell (cellOf_lt h3)]; exact h3
    go_wp2_with fail
    refine wp_loop_rounds 1 ?_
    rw [rounds_succ]
    go_wp2_with fail
    go_region
    go_wp2_with fail
    go_ret2
    exact ⟨rfl, b1.drew⟩
set_option maxHeartbeats 1000000 in
theorem is_any (v : Value) (e p e' p' : Int) (w : World) (h : IsErr w v e p) (hg : ErrVar w) :
    Calls Tryz.prog 24 #[v, .agg #[.int .i64 e', .int .i64 p']] w fun x w' => x = .returned (.bool (e == e' && p == p')) ∧ Below w.heap.size w w' := by
  have Pl := hid (fun W (hb : Below w.heap.size w W) => place_any v e p W (h.below hb) (hg.below hb (errVar_lt hg)))
  clear h hg
  go_enter Tryz.func24, Tryz.ntmps24
  go_wp2_with fail
  refine (Pl.out _ ((Below.refl _ w).alloc (Nat.le_refl _) _)).mono ?_
  rintro x w1 ⟨rfl, b1⟩
  have c0 : w1.cell? ⟨w.heap.size, 0, none⟩ = some (.int .i64 e') := by rw [b1.cell (by simp)]; simp
  have c1 : w1.cell? ⟨w.heap.size, 1, none⟩ = some (.int .i64 p') := by rw [b1.cell (by simp)]; simp
  have b2 : Below w.heap.size w w1 := ((Below.refl _ w).alloc (Nat.le_refl _) _).trans (b1.mono (by simp))
  rcases hee : e == e' with _ | _
  all_goals
    go_wp2_with fail
    go_ret
    exact ⟨by rw [hee]; simp, b2⟩
set_option maxHeartbeats 1000000 in
theorem bareF_any (e' : Int) (w : World) :
    Calls Tryz.prog 35 #[.int .i64 e'] w fun x w' => x = .returned (.agg #[.int .i64 e', .int .i64 (-1)]) ∧ Below w.heap.size w w' := by
  go_enter Tryz.func35, Tryz.ntmps35
  go_wp2_with fail
  go_returns
  exact ⟨rfl, (Below.refl _ w).alloc (Nat.le_refl _) _⟩
set_option maxHeartbeats 1000000 in
theorem bare_any (v : Value) (e p e' : Int) (w : World) (h : IsErr w v e p) (hg : ErrVar w) :
    Calls Tryz.prog 12 #[v, .int .i64 e'] w fun x w' => x = .returned (.bool (e == e' && p == -1)) ∧ Below w.heap.size w w' := by
  have Is := hid (fun W (hb : Below w.heap.size w W) => is_any v e p e' (-1) W (h.below hb) (hg.below hb (errVar_lt hg)))
  clear h hg
  go_enter Tryz.func12, Tryz.ntmps12
  go_wp2_with fail
  refine (bareF_any e' _).mono ?_
  rintro x w1 ⟨rfl, b1⟩
  go_wp2_with fail
  refine (Is.out _ b1).mono ?_
  rintro x w2 ⟨rfl, b2⟩
  go_wp2_with fail
  go_ret
  exact ⟨rfl, b1.trans (b2.mono b1.size)⟩
end Go.Proofs.YtignjjnflcpiiaaGreatDoor
namespace Go.Proofs.YtignjjnflcpiiaaGreatDoor
open Go.RowKit
structure GOk (w : World) : Prop where
  maxLen : ∃ m : Int, w.cell? ⟨4, 0, none⟩ = some (.int .i64 m)
theorem cell_low {w w' : World} {n b o : Nat} {v : Value} (h : w.cell? ⟨b, o, none⟩ = some v) (hb : b < n) (hw : ∀ k, k < n → w'.heap[k]? = w.heap[k]?) : w'.cell? ⟨b, o, none⟩ = some v := by
  unfold World.cell? at h ⊢
  simp only at h ⊢
  rw [hw b hb]
  exact h
noncomputable def gx : Gx := { P := Tryz.prog, G := GOk, nG := 10, hG := fun w w' h hw => ⟨h.maxLen.imp fun m hm => cell_low hm (by decide) hw⟩, mixed := by kernel_rfl }
theorem CPure.sub {X : Gx} {G : World → Prop} {hG : ∀ w w' : World, G w → (∀ k, k < X.nG → w'.heap[k]? = w.heap[k]?) → G w'} {f : FuncId} {az : List AV} {res : AV} (h : CPure X f az res) (hs : ∀ w, G w → X.G w) : CPure { X with G := G, hG := hG } f az res :=
  fun w vs hg hn hl hr => h w vs (hs w hg) hn hl hr
theorem CEff.sub {X : Gx} {G : World → Prop} {hG : ∀ w w' : World, G w → (∀ k, k < X.nG → w'.heap[k]? = w.heap[k]?) → G w'} {f : FuncId} {o : AObj} {az : List AV} {o' : Option AObj} {res : AV} (h : CEff X f o az o' res) (hs : ∀ w, G w → X.G w) : CEff { X with G := G, hG := hG } f o az o' res := by
  intro w γ vs hn hM hr hl hrep
  have hr' : HR (cxe X 0 w γ hn hM) γ (heap1 (some o)) w := { obj := hr.obj, disj := hr.disj, two := hr.two, lt := hr.lt, chg := hr.chg, glob := hs w hr.glob, pins := hr.pins }
  refine (h w γ vs hn hM hr' hl hrep).mono ?_
  rintro e w' ⟨v, γ', he, h2, hv⟩
  refine ⟨v, γ', he, { obj := h2.obj, disj := h2.disj, two := h2.two, lt := h2.lt, chg := h2.chg, glob := ?_, pins := h2.pins }, hv⟩
  have hgl : G w := hr.glob
  exact hG w w' hgl (fun k hk => h2.chg.block k (by have : X.nG ≤ w.heap.size := hn; show k < w.heap.size; omega) (fun hb => by have := hM k hb; have h3 : X.nG ≤ k := this; omega))
noncomputable def gxe : Gx := { gx with G := fun w => GOk w ∧ ErrVar w, hG := fun w w' h hw => ⟨gx.hG w w' h.1 hw, cell_low h.2 (by decide) hw⟩ }
theorem CPure.e {f : FuncId} {az : List AV} {res : AV} (h : CPure gx f az res) : CPure gxe f az res := h.sub fun _ h => h.1
def AV.val : AV → Option Value
  | .bool b => some (.bool b)
  | .int k n => some (.int k n)
  | .str s => some (.string ⟨s.toArray⟩)
  | .nilp => some (.pointer none)
  | .nils => some (.slice none 0 0)
  | .nili => some .nilIface
  | _ => none
theorem Rep.of_val {w : World} {N : Nat} {M : Nat → Prop} {γ : Nat → Value} {v : AV} {x : Value} (h : v.val = some x) : Rep w N M γ v x := by
  cases v <;> first | (cases h; done) | (cases h; first | exact .bool _ _ | exact .int _ _ _ | exact .str _ _ | exact .nilp _ | exact .nils _ | exact .nili _)
theorem Rep.val_of {w : World} {N : Nat} {M : Nat → Prop} {γ : Nat → Value} {v : AV} {x y : Value} (h : v.val = some x) (hr : Rep w N M γ v y) : y = x := by
  cases hr <;> first | (cases h; done) | (cases h; rfl)
def AV.valL : List AV → Option (List Value)
  | [] => some []
  | v :: r => match v.val, AV.valL r with
    | some x, some l => some (x :: l)
    | _, _ => none
theorem AV.valL_spec : ∀ {az : List AV} {xs : List Value}, AV.valL az = some xs → xs.length = az.length ∧ ∀ i (h : i < az.length) (h' : i < xs.length), (az[i]).val = some xs[i]
  | [], xs, h => by cases h; exact ⟨rfl, fun i h => absurd h (Nat.not_lt_zero i)⟩
  | v :: r, xs, h => by
    rw [AV.valL] at h
    cases hv : v.val with
    | none => rw [hv] at h; cases h
    | some x =>
      cases hl : AV.valL r with
      | none => rw [hv, hl] at h; cases h
      | some l =>
        rw [hv, hl] at h
        cases h
        obtain ⟨h1, h2⟩ := AV.valL_spec hl
        refine ⟨by simp [h1], fun i hi hi' => ?_⟩
        cases i with
        | zero => exact hv
        | succ i => exact h2 i (by simpa using hi) (by simpa using hi')
theorem cpure_lib {X : Gx} {f : FuncId} {az : List AV} {xs : List Value} {res : AV} (ha : AV.valL az = some xs)
    (h : ∀ w, X.G w → X.nG ≤ w.heap.size → Calls X.P f xs.toArray w (fun e w' => ∃ v, e = .returned v ∧ Ext w w' ∧ Rep w' w.heap.size (fun _ => False) g0 res v)) : CPure X f az res := by
  obtain ⟨h1, h2⟩ := AV.valL_spec ha
  intro w vs hG hn hl hr
  have : vs = xs := by
    refine List.ext_getElem (by omega) (fun i hi hi' => ?_)
    exact (hr i (by omega) hi).val_of (h2 i (by omega) hi')
  rw [this]
  exact h w hG hn
theorem cpure_val {X : Gx} {f : FuncId} {az : List AV} {xs : List Value} {res : AV} {v : Value} (ha : AV.valL az = some xs) (hv : res.val = some v)
    (h : ∀ w, X.G w → Calls X.P f xs.toArray w (fun e w' => e = .returned v ∧ Ext w w')) : CPure X f az res :=
  cpure_lib ha fun w hG _ => (h w hG).mono fun e w' h => ⟨v, h.1, h.2, .of_val hv⟩
theorem cpure_tup {X : Gx} {f : FuncId} {az : List AV} {xs : List Value} {l : List AV} {vs : List Value} (ha : AV.valL az = some xs) (hv : AV.valL l = some vs)
    (h : ∀ w, X.G w → Calls X.P f xs.toArray w (fun e w' => e = .returned (.tuple vs.toArray) ∧ Ext w w')) : CPure X f az (.tup l) :=
  cpure_lib ha fun w hG _ => (h w hG).mono fun e w' h => ⟨_, h.1, h.2, .tup _ _ _ (AV.valL_spec hv).1 (fun i hi hx => .of_val ((AV.valL_spec hv).2 i hi hx))⟩
theorem ext_drewN (w : World) (n : Nat) : Ext w (w.drewN n) := ⟨rfl, rfl, rfl, Nat.le_refl _, fun _ _ => rfl⟩
theorem asc {cs : List UInt8} (h : cs.all (fun b => decide (b.toNat < 128)) = true) : ∀ (j : Nat) b, cs[j]? = some b → b.toNat < 128 := fun j b hb => of_decide_eq_true (List.all_eq_true.1 h b (List.mem_of_getElem? hb))
theorem indexByte_c (s : List UInt8) (c : Int) : CPure gx 42 [.str s, .int .u8 c] (.int .i64 (Lib.indexByte s c.toNat.toUInt8)) :=
  cpure_val rfl rfl fun w _ => (Tryz.strings_IndexByte ⟨s.toArray⟩ c w).mono fun e w' h => ⟨h.1, h.2 ▸ ext_refl w⟩
theorem index_c (s sub : List UInt8) (hs : s.length < 4294967281) : CPure gx 95 [.str s, .str sub] (.int .i64 (Lib.index s sub)) :=
  cpure_val rfl rfl fun w hG => let ⟨m, hm⟩ := hG.maxLen; (Tryz.strings_Index ⟨s.toArray⟩ ⟨sub.toArray⟩ m w (by rw [sizeMk]; exact hs) hm).mono fun e w' h => ⟨h.1, h.2 ▸ ext_refl w⟩
theorem contains_c (s sub : List UInt8) (hs : s.length < 4294967281) : CPure gx 60 [.str s, .str sub] (.bool (Lib.contains s sub)) :=
  cpure_val rfl rfl fun w hG => let ⟨m, hm⟩ := hG.maxLen; (Tryz.strings_Contains ⟨s.toArray⟩ ⟨sub.toArray⟩ m w (by rw [sizeMk]; exact hs) hm).mono fun e w' h => ⟨h.1, h.2 ▸ ext_refl w⟩
theorem cut_c (s sep : List UInt8) (hs : s.length < 4294967281) : CPure gx 51 [.str s, .str sep] (.tup [.str (Lib.cut s sep).1, .str (Lib.cut s sep).2.1, .bool (Lib.cut s sep).2.2]) :=
  cpure_tup rfl rfl fun w hG => let ⟨m, hm⟩ := hG.maxLen; (Tryz.strings_Cut ⟨s.toArray⟩ ⟨sep.toArray⟩ m w (by rw [sizeMk]; exact hs) hm).mono fun e w' h => ⟨h.1, by obtain ⟨_, n, rfl⟩ := h; exact ext_drewN w n⟩
theorem trim_c (s cs : List UInt8) (hs : s.length < 4294967281) (hc : cs.length < 4294967281) (ha : cs.all (fun b => decide (b.toNat < 128)) = true) : CPure gx 59 [.str s, .str cs] (.str (Lib.trimS s cs)) :=
  cpure_val rfl rfl fun w _ => Tryz.strings_Trim_set ⟨s.toArray⟩ ⟨cs.toArray⟩ w (by rw [sizeMk]; omega) (by rw [sizeMk]; exact hc) (asc ha)
theorem trimLeft_c (s cs : List UInt8) (hs : s.length < 4294967281) (hc : cs.length < 4294967281) (ha : cs.all (fun b => decide (b.toNat < 128)) = true) : CPure gx 61 [.str s, .str cs] (.str (Lib.trimLeftS s cs)) :=
  cpure_val rfl rfl fun w _ => Tryz.strings_TrimLeft_set ⟨s.toArray⟩ ⟨cs.toArray⟩ w (by rw [sizeMk]; exact hc) (asc ha)
theorem trimRight_c (s cs : List UInt8) (hs : s.length < 4294967281) (hc : cs.length < 4294967281) (ha : cs.all (fun b => decide (b.toNat < 128)) = true) : CPure gx 62 [.str s, .str cs] (.str (Lib.trimRightS s cs)) :=
  cpure_val rfl rfl fun w _ => Tryz.strings_TrimRight_set ⟨s.toArray⟩ ⟨cs.toArray⟩ w (by rw [sizeMk]; omega) (by rw [sizeMk]; exact hc) (asc ha)
end Go.Proofs.YtignjjnflcpiiaaGreatDoor
