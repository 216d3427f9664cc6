/- Contracts: what a function without effects comes to; how it is shown from its code; how it is used at a call. -/
import Derived.Test.YtignjjnflcpiiaaDoorVmC
set_option linter.unusedVariables false
set_option linter.unusedSimpArgs false
namespace Go.Proofs.YtignjjnflcpiiaaDoor
open Go.RowKit

mutual
/-- a value as the caller hands it on: slices of the frame's own as what they hold, nothing made since -/
def AV.fz (H : Heap) (fr : Bool) : AV → AV
  | .ptr _ _ | .eptr _ _ _ _ => .any
  | .sl id => match H id with
    | some (.rows _ sz rows) => .ro fr sz rows
    | some (.pts _ l) => .pts fr l
    | _ => .any
  | .ro f sz rows => .ro (fr && f) sz rows
  | .pts f l => .pts (fr && f) l
  | .rptr f l => .rptr (fr && f) (AV.fzL (fun _ => none) fr l)
  | .iface t v => .iface t (v.fz H fr)
  | .agg l => .agg (AV.fzL H fr l)
  | .tup l => .tup (AV.fzL H fr l)
  | .clo f l => .clo f (AV.fzL H fr l)
  | v => v
def AV.fzL (H : Heap) (fr : Bool) : List AV → List AV
  | [] => []
  | v :: r => v.fz H fr :: AV.fzL H fr r
end
theorem fzL_length (H : Heap) (fr : Bool) : ∀ l, (AV.fzL H fr l).length = l.length
  | [] => rfl
  | v :: r => by rw [AV.fzL, List.length_cons, List.length_cons, fzL_length H fr r]
theorem fzL_get (H : Heap) (fr : Bool) : ∀ (l : List AV) (i : Nat) (h : i < (AV.fzL H fr l).length) (h' : i < l.length), (AV.fzL H fr l)[i] = (l[i]).fz H fr
  | v :: r, 0, _, _ => rfl
  | v :: r, i + 1, h, h' => by
    simp only [AV.fzL, List.getElem_cons_succ]
    exact fzL_get H fr r i _ _

/-- what is handed on stands for the same, wherever nothing is written -/
theorem Rep.frzM {C : Cx} {γ : Gh} {H HS : Heap} {w : World} (hr : HR C γ H w) (hsub : ∀ id o, HS id = some o → H id = some o) {M' : Nat → Prop} (hM1 : ∀ b, M' b → Mut γ H b) (hM2 : ∀ id o b, HS id = some o → vblock (γ id).1 = some b → ¬ M' b)
    (fr : Bool) {N' : Nat} (hN : fr = true → N' ≤ C.N) (hM : fr = true → ∀ id o b, HS id = some o → vblock (γ id).1 = some b → ¬ C.M0 b) {v : AV} {x : Value} (h : Rep w C.N (Mut γ H) (fun i => (γ i).1) v x) : Rep w N' M' g0 (v.fz HS fr) x := by
  have sub : ∀ {f : Bool} {b : Nat}, Still C.N (Mut γ H) f b → Still N' M' (fr && f) b := by
    intro f b hs
    refine ⟨fun x => hs.1 (hM1 b x), fun hf => ?_⟩
    rw [Bool.and_eq_true] at hf
    exact Nat.le_trans (hN hf.1) (hs.2 hf.2)
  have own : ∀ {id : Nat} {o : AObj} {b : Nat}, HS id = some o → vblock (γ id).1 = some b → Still N' M' fr b := by
    intro id o b hid hb
    refine ⟨hM2 id o b hid hb, fun hf => ?_⟩
    rcases (hr.lt id o b (hsub id o hid) (.inl hb)).2 with h | h
    · exact absurd h (hM hf id o b hid hb)
    · exact Nat.le_trans (hN hf) h
  suffices key : ∀ (δ : Nat → Value) (v : AV) (x : Value), Rep w C.N (Mut γ H) δ v x → ∀ H' : Heap, (δ = (fun i => (γ i).1) ∧ H' = HS) ∨ (H' = fun _ => none) → Rep w N' M' g0 (v.fz H' fr) x from key _ v x h HS (.inl ⟨rfl, rfl⟩)
  clear h v x
  intro δ v x h
  induction h with
  | any γ v => intro H' _; exact .any _ _
  | bool γ b => intro H' _; exact .bool _ _
  | int γ k n => intro H' _; exact .int _ _ _
  | str γ s => intro H' _; exact .str _ _
  | nilp γ => intro H' _; exact .nilp _
  | ptr γ id fo b h => intro H' _; exact .any _ _
  | eptr γ id sz i fo g n cap h => intro H' _; exact .any _ _
  | gptr γ g off => intro H' _; exact .gptr _ _ _
  | rptr δ f cells b o cs hok h0 hc hrr ih =>
    intro H' _
    rw [AV.fz]
    exact .rptr _ _ _ _ _ cs (sub hok) (by rw [fzL_length]; exact h0) (fun j hj => hc j (by rw [fzL_length] at hj; exact hj)) (fun j hj => by
      have hj' : j < cells.length := by rw [fzL_length] at hj; exact hj
      rw [fzL_get _ fr cells j hj hj']
      exact ih j hj' _ (.inr rfl))
  | nils γ => intro H' _; exact .nils _
  | sl δ id =>
    intro H' hδ
    rw [AV.fz]
    cases ho : H' id with
    | none => exact .any _ _
    | some o =>
      rcases hδ with ⟨rfl, rfl⟩ | rfl
      · cases o with
        | box cells => exact .any _ _
        | bld e eb l => exact .any _ _
        | iter s pos => exact .any _ _
        | nest cells k e sz rows => exact .any _ _
        | rows e sz rows =>
          refine .ro _ _ _ _ _ ?_
          obtain ⟨v, cs, hg, hown, hs, hl, hrr⟩ := hr.obj id _ (hsub _ _ ho)
          have hv : (γ id).1 = v := by rw [hg]
          show RowsAt w _ sz rows (γ id).1
          rw [hv]
          obtain ⟨hcl, h2⟩ := hown
          rcases h2 with ⟨rfl, h0⟩ | ⟨g, cap, cur, rfl, _, hh, hnc, _, hcs, htk⟩
          · exact .inl ⟨List.eq_nil_of_length_eq_zero h0, none, 0, by simp, fun _ => rfl⟩
          · rcases Nat.eq_zero_or_pos rows.length with h0 | h0
            · exact .inl ⟨List.eq_nil_of_length_eq_zero h0, some ⟨g, 0, none⟩, cap, by rw [h0], fun h => by cases h⟩
            · have idx : ∀ i, i < rows.length → ∀ j, j < sz → i * sz + j < rows.length * sz := by
                intro i hi j hj
                have : (i + 1) * sz ≤ rows.length * sz := Nat.mul_le_mul_right _ hi
                rw [Nat.add_mul] at this; omega
              refine .inr ⟨g, 0, cap, fun i j => cs.getD (i * sz + j) undef, rfl, own ho (by rw [hv]; rfl), h0, hs, hnc, fun i hi j hj => ?_, hl, fun i hi j hj => ?_⟩
              · have h1 := idx i hi j hj
                rw [cell_of_row w g _ cur e (0, 0) hh]
                show _ = some (cs.getD (i * sz + j) undef)
                rw [List.getD_eq_getElem?_getD, Nat.zero_add]
                rw [← htk] at hcl ⊢
                rw [List.getElem?_take, if_pos h1]
                have : i * sz + j < cur.size := by
                  rw [List.length_take, Array.length_toList (xs := cur)] at hcl
                  omega
                simp [this]
              · obtain ⟨x, hx, hf⟩ := hrr i hi j hj
                show FRep _ (cs.getD (i * sz + j) undef)
                rw [List.getD_eq_getElem?_getD, hx]
                exact hf
        | pts e l =>
          refine .pts _ _ _ _ ?_
          obtain ⟨v, cs, hg, hown, hrr⟩ := hr.obj id _ (hsub _ _ ho)
          have hv : (γ id).1 = v := by rw [hg]
          show PtsRep w _ l (γ id).1
          rw [hv]
          obtain ⟨hcl, h2⟩ := hown
          rcases h2 with ⟨rfl, h0⟩ | ⟨g, cap, cur, rfl, _, hh, hnc, _, hcs, htk⟩
          · have : l = [] := List.eq_nil_of_length_eq_zero h0
            subst this
            exact .nil none 0 (fun _ => rfl)
          · rcases Nat.eq_zero_or_pos l.length with h0 | h0
            · have : l = [] := List.eq_nil_of_length_eq_zero h0
              subst this
              exact .nil _ _ (fun h => by cases h)
            · have cell : ∀ k v, k < l.length * 4 → cs[k]? = some v → w.cell? ⟨g, 0 + k, none⟩ = some v := by
                intro k v hk hv
                rw [Nat.zero_add, cell_of_row w g _ cur e (0, 0) hh]
                rw [← htk, List.getElem?_take, if_pos hk] at hv
                simpa using hv
              have at4 := fun i (hi : i < l.length) => hrr i hi
              refine .mk l g 0 cap (fun i => cs.getD (i * 4) undef) (fun i => cs.getD (i * 4 + 3) undef) (own ho (by rw [hv]; rfl)) h0 hnc (fun i hi => ?_) (fun i hi => ?_) (fun i hi => ?_)
              · obtain ⟨a, b, h1, h2, h3, h4, _⟩ := at4 i hi
                simp only [Nat.add_zero] at h1
                simp only at h4
                refine ⟨?_, cell _ _ (by omega) h2, cell _ _ (by omega) h3, ?_⟩
                · have := cell (i * 4) a (by omega) h1
                  rw [List.getD_eq_getElem?_getD, h1]; exact this
                · have := cell (i * 4 + 3) b (by omega) h4
                  rw [List.getD_eq_getElem?_getD, h4]; exact this
              · obtain ⟨a, b, h1, h2, h3, h4, h5, h6⟩ := at4 i hi
                simp only [Nat.add_zero] at h1
                rw [List.getD_eq_getElem?_getD, h1]
                exact h5.mono (fun b o v hok hc => ⟨⟨fun x => hok.1 (hM1 b x), fun hf => Nat.le_trans (hN hf) (hok.2 rfl)⟩, hc⟩)
              · obtain ⟨a, b, h1, h2, h3, h4, h5, h6⟩ := at4 i hi
                simp only at h4
                rw [List.getD_eq_getElem?_getD, h4]
                exact h6.mono (fun b o v hok hc => ⟨⟨fun x => hok.1 (hM1 b x), fun hf => Nat.le_trans (hN hf) (hok.2 rfl)⟩, hc⟩)
      · cases ho
  | ro δ f sz rows v h => intro H' _; exact .ro _ _ _ _ _ (h.mono (fun b o v hok hc => ⟨sub hok, hc⟩))
  | pts δ f l v h => intro H' _; exact .pts _ _ _ _ (h.mono (fun b o v hok hc => ⟨sub hok, hc⟩))
  | nili γ => intro H' _; exact .nili _
  | iface δ t v x h ih => intro H' hδ; rw [AV.fz]; exact .iface _ _ _ _ (ih H' hδ)
  | agg δ l xs hl h ih =>
    intro H' hδ
    rw [AV.fz]
    exact .agg _ _ _ (by rw [fzL_length]; exact hl) (fun i hi hx => by rw [fzL_get H' fr l i hi (by rw [fzL_length] at hi; exact hi)]; exact ih i _ hx H' hδ)
  | tup δ l xs hl h ih =>
    intro H' hδ
    rw [AV.fz]
    exact .tup _ _ _ (by rw [fzL_length]; exact hl) (fun i hi hx => by rw [fzL_get H' fr l i hi (by rw [fzL_length] at hi; exact hi)]; exact ih i _ hx H' hδ)
  | clo δ f l xs hl h ih =>
    intro H' hδ
    rw [AV.fz]
    exact .clo _ _ _ _ (by rw [fzL_length]; exact hl) (fun i hi hx => by rw [fzL_get H' fr l i hi (by rw [fzL_length] at hi; exact hi)]; exact ih i _ hx H' hδ)
theorem Rep.frz {C : Cx} {γ : Gh} {H : Heap} {w : World} (hr : HR C γ H w) (fr : Bool) {N' : Nat} (hN : fr = true → N' ≤ C.N) (hM : fr = true → ∀ b, ¬ C.M0 b) {v : AV} {x : Value} (h : Rep w C.N (Mut γ H) (fun i => (γ i).1) v x) : Rep w N' (fun _ => False) g0 (v.fz H fr) x :=
  h.frzM hr (fun _ _ h => h) (fun _ h => h.elim) (fun _ _ _ _ _ h => h) fr hN (fun hf _ _ b _ _ => hM hf b)

mutual
/-- nothing in it but what was made since -/
def AV.allFr : AV → Bool
  | .ptr _ _ | .eptr _ _ _ _ | .sl _ => false
  | .ro f _ _ | .pts f _ => f
  | .rptr f l => match f with
    | true => AV.allFrL l
    | false => false
  | .iface _ v => v.allFr
  | .agg l | .tup l | .clo _ l => AV.allFrL l
  | _ => true
def AV.allFrL : List AV → Bool
  | [] => true
  | v :: r => match v.allFr with
    | true => AV.allFrL r
    | false => false
end
theorem allFrL_get : ∀ (l : List AV), AV.allFrL l = true → ∀ i (h : i < l.length), (l[i]).allFr = true
  | v :: r, hl, i, h => by
    rw [AV.allFrL] at hl
    cases hv : v.allFr with
    | false => rw [hv] at hl; cases hl
    | true =>
      rw [hv] at hl
      match i, h with
      | 0, _ => exact hv
      | i + 1, h => exact allFrL_get r hl i (by simpa using h)
theorem Rep.freshM {w : World} {N N' : Nat} {M0 M : Nat → Prop} {v : AV} {x : Value} (h : Rep w N M0 g0 v x) (hf : v.allFr = true) (hN : N' ≤ N) (hM : ∀ b, N ≤ b → ¬ M0 b → ¬ M b) : ∀ γ, Rep w N' M γ v x := by
  have st : ∀ {b : Nat}, Still N M0 true b → Still N' M true b := fun hs => ⟨hM _ (hs.2 rfl) hs.1, fun _ => Nat.le_trans hN (hs.2 rfl)⟩
  generalize g0 = δ at h
  induction h with
  | any γ v => exact fun γ' => .any _ _
  | bool γ b => exact fun γ' => .bool _ _
  | int γ k n => exact fun γ' => .int _ _ _
  | str γ s => exact fun γ' => .str _ _
  | nilp γ => exact fun γ' => .nilp _
  | ptr γ id fo b h => cases hf
  | eptr γ id sz i fo g n cap h => cases hf
  | gptr γ g off => exact fun γ' => .gptr _ _ _
  | rptr γ fr cells b o cs hok h0 hc hr ih =>
    intro γ'
    cases fr with
    | false => cases hf
    | true => exact .rptr _ _ _ _ _ cs (st hok) h0 hc (fun j hj => ih j hj (allFrL_get _ hf j hj) g0)
  | nils γ => exact fun γ' => .nils _
  | sl γ id => cases hf
  | ro γ fr sz rows v h =>
    intro γ'
    have : fr = true := hf
    subst this
    exact .ro _ _ _ _ _ (h.mono (fun b o v hok hc => ⟨st hok, hc⟩))
  | pts γ fr l v h =>
    intro γ'
    have : fr = true := hf
    subst this
    exact .pts _ _ _ _ (h.mono (fun b o v hok hc => ⟨st hok, hc⟩))
  | nili γ => exact fun γ' => .nili _
  | iface γ t v x h ih => exact fun γ' => .iface _ _ _ _ (ih hf γ')
  | agg γ l xs hl h ih => exact fun γ' => .agg _ _ _ hl (fun i hi hx => ih i hi hx (allFrL_get _ hf i hi) γ')
  | tup γ l xs hl h ih => exact fun γ' => .tup _ _ _ hl (fun i hi hx => ih i hi hx (allFrL_get _ hf i hi) γ')
  | clo γ f l xs hl h ih => exact fun γ' => .clo _ _ _ _ hl (fun i hi hx => ih i hi hx (allFrL_get _ hf i hi) γ')
theorem Rep.fresh {w : World} {N N' : Nat} {M : Nat → Prop} {v : AV} {x : Value} (h : Rep w N (fun _ => False) g0 v x) (hf : v.allFr = true) (hN : N' ≤ N) (hM : ∀ b, N ≤ b → ¬ M b) : ∀ γ, Rep w N' M γ v x := h.freshM hf hN (fun b hb _ => hM b hb)

mutual
/-- nothing in it that is said to have been made since -/
def AV.noFr : AV → Bool
  | .ro f _ _ | .pts f _ => !f
  | .rptr f l => match f with
    | true => false
    | false => AV.noFrL l
  | .iface _ v => v.noFr
  | .agg l | .tup l | .clo _ l => AV.noFrL l
  | _ => true
def AV.noFrL : List AV → Bool
  | [] => true
  | v :: r => match v.noFr with
    | true => AV.noFrL r
    | false => false
end
theorem noFrL_get : ∀ (l : List AV), AV.noFrL l = true → ∀ i (h : i < l.length), (l[i]).noFr = true
  | v :: r, hl, i, h => by
    rw [AV.noFrL] at hl
    cases hv : v.noFr with
    | false => rw [hv] at hl; cases hl
    | true =>
      rw [hv] at hl
      match i, h with
      | 0, _ => exact hv
      | i + 1, h => exact noFrL_get r hl i (by simpa using h)
theorem Rep.old {w : World} {N N' : Nat} {M : Nat → Prop} {γ : Nat → Value} {v : AV} {x : Value} (h : Rep w N M γ v x) (hf : v.noFr = true) : Rep w N' M γ v x := by
  have st : ∀ {b : Nat}, Still N M false b → Still N' M false b := fun hs => ⟨hs.1, fun h => by cases h⟩
  induction h with
  | any γ v => exact .any _ _
  | bool γ b => exact .bool _ _
  | int γ k n => exact .int _ _ _
  | str γ s => exact .str _ _
  | nilp γ => exact .nilp _
  | ptr γ id fo b h => exact .ptr _ _ _ _ h
  | eptr γ id sz i fo g n cap h => exact .eptr _ _ _ _ _ _ _ _ h
  | gptr γ g off => exact .gptr _ _ _
  | rptr γ fr cells b o cs hok h0 hc hr ih =>
    cases fr with
    | true => cases hf
    | false => exact .rptr _ _ _ _ _ cs (st hok) h0 hc (fun j hj => ih j hj (noFrL_get _ hf j hj))
  | nils γ => exact .nils _
  | sl γ id => exact .sl _ _
  | ro γ fr sz rows v h =>
    have : fr = false := by simpa [AV.noFr] using hf
    subst this
    exact .ro _ _ _ _ _ (h.mono (fun b o v hok hc => ⟨st hok, hc⟩))
  | pts γ fr l v h =>
    have : fr = false := by simpa [AV.noFr] using hf
    subst this
    exact .pts _ _ _ _ (h.mono (fun b o v hok hc => ⟨st hok, hc⟩))
  | nili γ => exact .nili _
  | iface γ t v x h ih => exact .iface _ _ _ _ (ih hf)
  | agg γ l xs hl h ih => exact .agg _ _ _ hl (fun i hi hx => ih i hi hx (noFrL_get _ hf i hi))
  | tup γ l xs hl h ih => exact .tup _ _ _ hl (fun i hi hx => ih i hi hx (noFrL_get _ hf i hi))
  | clo γ f l xs hl h ih => exact .clo _ _ _ _ hl (fun i hi hx => ih i hi hx (noFrL_get _ hf i hi))

/-- a function that leaves all as it was: at arguments that stand for these it returns what stands for that, made by itself -/
def CPure (X : Gx) (f : FuncId) (as : List AV) (res : AV) : Prop :=
  ∀ (w : World) (vs : List Value), X.G w → X.nG ≤ w.heap.size → vs.length = as.length → (∀ i (h : i < as.length) (h' : i < vs.length), Rep w 0 (fun _ => False) g0 as[i] vs[i]) →
    Calls X.P f vs.toArray w (fun e w' => ∃ v, e = .returned v ∧ Ext w w' ∧ Rep w' w.heap.size (fun _ => False) g0 res v)

def cx (X : Gx) (n : Nat) (w : World) (hn : X.nG ≤ w.heap.size) : Cx := { X with n := n, w0 := w, M0 := fun _ => False, pin := fun _ => none, hn := hn, hM := fun _ h => h.elim }
def St.start (as : List AV) : St := ⟨fun i => as.getD i .any, fun _ => none⟩

/-- is t a struct or an array of n cells? -/
def aggB (P : Program) (t : TypeId) (n : Nat) : Bool := (match P.underlying t with
  | some (.struct _) | some (.array _ _) => true
  | _ => false) && (match P.info? t with
  | some i => Nat.beq i.size n
  | none => false)
def scalB (P : Program) (t : TypeId) : Bool := match P.underlying t with
  | some (.struct _) | some (.array _ _) | none => false
  | _ => true
theorem aggB_spec {P : Program} {t : TypeId} {n : Nat} (h : aggB P t n = true) (w : World) : (isAgg t).run P w = .ok true w ∧ (sizeOf t).run P w = .ok n w := by
  unfold aggB at h
  rw [Bool.and_eq_true] at h
  obtain ⟨h1, h2⟩ := h
  constructor
  · cases hu : P.underlying t with
    | none => rw [hu] at h1; cases h1
    | some d =>
      rw [hu] at h1
      cases d <;> first
        | (simp [isAgg, run_underlying hu]; done)
        | cases h1
  · cases hi : P.info? t with
    | none => rw [hi] at h2; cases h2
    | some i =>
      rw [hi] at h2
      simp [sizeOf, typeInfo, hi, Nat.eq_of_beq_eq_true h2]
theorem scalB_spec {P : Program} {t : TypeId} (h : scalB P t = true) (w : World) : (isAgg t).run P w = .ok false w := by
  unfold scalB at h
  cases hu : P.underlying t with
  | none => rw [hu] at h; cases h
  | some d =>
    rw [hu] at h
    cases d <;> first
      | (simp [isAgg, run_underlying hu]; done)
      | cases h

/-- what stands in a result's place -/
def cellOk (P : Program) (σ : St) : List ResultVar → Prop
  | [] => True
  | .tmp _ :: r => cellOk P σ r
  | .cell a t :: r => (∃ id cells, σ.env a = .ptr id 0 ∧ σ.heap id = some (.box cells) ∧ aggB P t cells.length = true) ∧ cellOk P σ r
def retLH (HS : Heap) (σ : St) : List ResultVar → List AV
  | [] => []
  | .tmp t :: r => (σ.env t).fz HS true :: retLH HS σ r
  | .cell a _ :: r => (match σ.env a with
    | .ptr id _ => match σ.heap id with
      | some (.box cells) => (AV.agg cells).fz HS true
      | _ => .any
    | _ => .any) :: retLH HS σ r
abbrev retL (σ : St) : List ResultVar → List AV := retLH σ.heap σ
def retV : List AV → AV
  | [v] => v
  | l => .tup l
def RetQ (P : Program) (rs : List ResultVar) (res : AV) : Exit → St → Prop
  | .normal, σ | .ret, σ => cellOk P σ rs ∧ retV (retL σ rs) = res
  | _, _ => False

theorem box_cells {C : Cx} {γ : Gh} {H : Heap} {w : World} (h : HR C γ H w) {id : Nat} {cells : List AV} (hid : H id = some (.box cells)) : ∃ b c e, (γ id).1 = .pointer (some ⟨b, 0, none⟩) ∧ w.heap[b]? = some (.cells c e (0, 0)) ∧ c.size = cells.length ∧
    ∀ j (h : j < cells.length), ∃ v, c[j]? = some v ∧ Rep w C.N (Mut γ H) (fun i => (γ i).1) cells[j] v := by
  obtain ⟨b, c, e, h1, h2, h3, h4⟩ := h.obj id _ hid
  exact ⟨b, c, e, by rw [h1], h2, h3, h4⟩
theorem box_agg {C : Cx} {γ : Gh} {H : Heap} {w : World} (h : HR C γ H w) {id : Nat} {cells : List AV} (hid : H id = some (.box cells)) {t : TypeId} (ht : aggB C.P t cells.length = true) :
    ∃ b x, (γ id).1 = .pointer (some ⟨b, 0, none⟩) ∧ (loadVar t ⟨b, 0, none⟩).run C.P w = .ok x w ∧ Rep w C.N (Mut γ H) (fun i => (γ i).1) (.agg cells) x := by
  obtain ⟨b, c, e, h1, h2, h3, h4⟩ := box_cells h hid
  refine ⟨b, .agg c.toList.toArray, h1, ?_, .agg _ _ _ (by simpa using h3) (fun i hi hx => ?_)⟩
  · obtain ⟨a1, a2⟩ := aggB_spec ht w
    have hl := run_loadCells_list (P := C.P) (w := w) ⟨b, 0, none⟩ c.toList (fun j v hj => by
      have : (⟨b, 0, none⟩ : Addr).add j = ⟨b, j, none⟩ := by rw [Addr.add_lit, Nat.zero_add]
      rw [this, cell_of_row w b j c e (0, 0) h2]
      simpa using hj)
    have h3' : c.toList.length = cells.length := by simpa using h3
    rw [h3'] at hl
    simp only [loadVar, Sem.run_bind, a1, a2, Result.andThen_ok, if_true]
    rw [hl]
    rfl
  · obtain ⟨v, hv, hr⟩ := h4 i hi
    have : c.toList[i] = v := by
      have hc := (Array.getElem?_eq_some_iff.1 hv).2
      simpa using hc
    rw [this]
    exact hr

theorem rep_retV {w : World} {N : Nat} {M : Nat → Prop} {γ : Nat → Value} : ∀ (l : List AV) (xs : List Value), l.length = xs.length → (∀ i (h : i < l.length) (h' : i < xs.length), Rep w N M γ l[i] xs[i]) →
    Rep w N M γ (retV l) (if h : xs.toArray.size = 1 then xs.toArray[0] else .tuple xs.toArray)
  | [v], [x], _, h => h 0 (by simp) (by simp)
  | [], [], _, _ => .tup _ [] [] rfl (fun i h => absurd h (Nat.not_lt_zero _))
  | v :: u :: vs, x :: y :: xs, hl, h => by
    rw [dif_neg (by simp)]
    exact .tup _ _ _ hl.symm h
  | [], _ :: _, hl, _ => by simp at hl
  | _ :: _, [], hl, _ => by simp at hl
  | [_], _ :: _ :: _, hl, _ => by simp at hl
  | _ :: _ :: _, [_], hl, _ => by simp at hl
theorem mapM_results {P : Program} {w : World} {tmps : Array Value} : ∀ (rs : List ResultVar) (xs : List Value), rs.length = xs.length →
    (∀ i (h : i < rs.length) (h' : i < xs.length), ((match rs[i] with | .tmp t => pure (tmps.getD t undef) | .cell a t => do loadVar t (← asAddr (tmps.getD a undef)) : Sem Value)).run P w = .ok xs[i] w) →
    (rs.mapM (fun | .tmp t => pure (tmps.getD t undef) | .cell a t => do loadVar t (← asAddr (tmps.getD a undef)) : ResultVar → Sem Value)).run P w = .ok xs w
  | [], [], _, _ => rfl
  | r :: rs, x :: xs, hl, h => by
    have h0 := h 0 (by simp) (by simp)
    have ih := mapM_results rs xs (by simpa using hl) (fun i hi hx => h (i + 1) (by simpa using hi) (by simpa using hx))
    simp only [List.getElem_cons_zero] at h0
    rw [List.mapM_cons]
    simp only [Sem.run_bind, h0, ih, Result.andThen_ok, Sem.run_pure]

theorem run_resultsH {C : Cx} {γ : Gh} {σ : St} {a : Act} {w : World} {fn : Func} (HS : Heap) (M' : Nat → Prop) (s : SR C γ σ a w) (hfz : ∀ v x, Rep w C.N (Mut γ σ.heap) (fun i => (γ i).1) v x → Rep w C.N M' g0 (v.fz HS true) x) (hc : cellOk C.P σ fn.results.toList) :
    ∃ v, (results fn a.tmps).run C.P w = .ok v w ∧ Rep w C.N M' g0 (retV (retLH HS σ fn.results.toList)) v := by
  have key : ∀ rs : List ResultVar, cellOk C.P σ rs → ∃ xs : List Value, rs.length = xs.length ∧ (∀ i (h : i < rs.length) (h' : i < xs.length), ((match rs[i] with | .tmp t => pure (a.tmps.getD t undef) | .cell b t => do loadVar t (← asAddr (a.tmps.getD b undef)) : Sem Value)).run C.P w = .ok xs[i] w) ∧
      (retLH HS σ rs).length = xs.length ∧ ∀ i (h : i < (retLH HS σ rs).length) (h' : i < xs.length), Rep w C.N M' g0 (retLH HS σ rs)[i] xs[i] := by
    intro rs
    induction rs with
    | nil => exact fun _ => ⟨[], rfl, fun i h => absurd h (Nat.not_lt_zero _), rfl, fun i h => absurd h (Nat.not_lt_zero _)⟩
    | cons r rs ih =>
      intro hc
      cases r with
      | tmp t =>
        obtain ⟨xs, h1, h2, h3, h4⟩ := ih hc
        refine ⟨a.tmps.getD t undef :: xs, by simp [h1], fun i hi hx => ?_, by simp [retLH, h3], fun i hi hx => ?_⟩
        · cases i with
          | zero => rfl
          | succ i => exact h2 i (by simpa using hi) (by simpa using hx)
        · cases i with
          | zero => exact hfz _ _ (s.env t)
          | succ i => exact h4 i (by simpa [retLH] using hi) (by simpa using hx)
      | cell b t =>
        obtain ⟨⟨id, cells, e1, e2, e3⟩, hc⟩ := hc
        obtain ⟨xs, h1, h2, h3, h4⟩ := ih hc
        obtain ⟨bb, x, e4, e5, e6⟩ := box_agg s.toHR e2 e3
        have ev := s.env b
        rw [e1] at ev
        obtain ⟨b', e7, e8⟩ := ev.ptr_inv
        rw [e4] at e7
        cases e7
        refine ⟨x :: xs, by simp [h1], fun i hi hx => ?_, by simp [retLH, h3], fun i hi hx => ?_⟩
        · cases i with
          | zero =>
            simp only [List.getElem_cons_zero, Sem.run_bind]
            rw [e8]
            simp only [asAddr, Sem.run_pure, Result.andThen_ok]
            exact e5
          | succ i => exact h2 i (by simpa using hi) (by simpa using hx)
        · cases i with
          | zero =>
            simp only [retLH, e1, e2, List.getElem_cons_zero]
            exact hfz _ _ e6
          | succ i => exact h4 i (by simpa [retLH] using hi) (by simpa using hx)
  obtain ⟨xs, h1, h2, h3, h4⟩ := key _ hc
  have hm := mapM_results (P := C.P) (w := w) (tmps := a.tmps) fn.results.toList xs h1 h2
  have hr : (results fn a.tmps).run C.P w = .ok (if h : xs.toArray.size = 1 then xs.toArray[0] else .tuple xs.toArray) w := by
    unfold results
    rw [Array.mapM_eq_mapM_toList]
    simp only [Sem.run_bind, Sem.run_map, Sem.run_pure]
    exact congrArg (fun r : Result (List Value) => (r.andThen fun a w' => .ok a.toArray w').andThen fun a w' => .ok (if h : a.size = 1 then a[0] else .tuple a) w') hm
  exact ⟨_, hr, rep_retV _ _ h3 h4⟩

theorem run_results {C : Cx} {γ : Gh} {σ : St} {a : Act} {w : World} {fn : Func} (s : SR C γ σ a w) (hM : ∀ b, ¬ C.M0 b) (hc : cellOk C.P σ fn.results.toList) :
    ∃ v, (results fn a.tmps).run C.P w = .ok v w ∧ Rep w C.N (fun _ => False) g0 (retV (retL σ fn.results.toList)) v :=
  run_resultsH σ.heap _ s (fun v x h => h.frz s.toHR true (fun _ => Nat.le_refl _) (fun _ => hM)) hc

theorem cpure_of {X : Gx} {f : FuncId} {fn : Func} {c : Code} {as : List AV} {res : AV} (hf : X.P.funcs[f]? = some fn) (hb : fn.body = some c) (hn : as.length ≤ fn.ntmps) (ho : AV.noFrL as = true)
    (h : ∀ w (hw : X.nG ≤ w.heap.size), Tri (cx X fn.ntmps w hw) c (St.start as) (RetQ X.P fn.results.toList res)) : CPure X f as res := by
  intro w vs hG hw hl hr
  refine calls_of_wp hf hb (wp_mono (h w hw (fun _ => (undef, undef)) _ w ?_) ?_)
  · refine { obj := fun id o h => (by cases h), disj := fun id id' o o' b h => (by cases h), two := fun id o b h => (by cases h), lt := fun id o b h => (by cases h), chg := Chg.refl _ _, glob := hG, pins := fun id o v h => (by cases h), env := fun t => ?_, size := ?_, defers := rfl }
    · show Rep w w.heap.size _ _ (as.getD t .any) _
      rcases Nat.lt_or_ge t as.length with ht | ht
      · have h1 : as.getD t .any = as[t] := by rw [List.getD_eq_getElem?_getD, List.getElem?_eq_getElem ht]; rfl
        have h2 : (vs.toArray ++ Array.replicate (fn.ntmps - vs.toArray.size) undef).getD t undef = vs[t]'(by omega) := by
          rw [Array.getD_eq_getD_getElem?, Array.getElem?_append_left (by simp; omega)]
          simp [show t < vs.length by omega]
        rw [h1, h2]
        exact ((hr t ht (by omega)).old (noFrL_get _ ho t ht)).mono (fun _ _ _ => rfl) (fun b hb h => by obtain ⟨_, _, h, _⟩ := h; cases h) (Nat.le_refl _) _ (fun _ _ => rfl)
      · have h1 : as.getD t .any = .any := by rw [List.getD_eq_getElem?_getD, List.getElem?_eq_none ht]; rfl
        rw [h1]
        exact .any _ _
    · show (vs.toArray ++ Array.replicate (fn.ntmps - vs.toArray.size) undef).size = fn.ntmps
      simp; omega
  · rintro e a w' ⟨γ, σ, q, s⟩
    cases e with
    | normal =>
      obtain ⟨q1, q2⟩ := q
      obtain ⟨v, h1, h2⟩ := run_results s (fun _ h => h) q1
      rw [q2] at h2
      exact ⟨s.defers, v, h1, v, rfl, (Chg.ext s.chg), h2⟩
    | ret =>
      obtain ⟨q1, q2⟩ := q
      obtain ⟨v, h1, h2⟩ := run_results s (fun _ h => h) q1
      rw [q2] at h2
      exact ⟨s.defers, v, h1, v, rfl, (Chg.ext s.chg), h2⟩
    | _ => exact q.elim

section
variable {C : Cx} {σ : St} {d : Option Nat} {ty : TypeId} {pos : String} {af : Array Edge} {g : Option (Nat × Bool)}
theorem args_rep {γ : Gh} {a : Act} {w : World} (hh : HR C γ σ.heap w) {xs : Array Operand} (he : ∀ x ∈ xs, Rep w C.N (Mut γ σ.heap) (fun i => (γ i).1) (σ.ev x) (a.eval x)) {as : List AV} (ha : AV.fzL σ.heap false (xs.toList.map σ.ev) = as) :
    (xs.map a.eval).toList.length = as.length ∧ ∀ i (h : i < as.length) (h' : i < (xs.map a.eval).toList.length), Rep w 0 (fun _ => False) g0 as[i] (xs.map a.eval).toList[i] := by
  subst ha
  refine ⟨by simp [fzL_length], fun i hi hi' => ?_⟩
  have hx : i < xs.toList.length := by simpa [fzL_length] using hi
  rw [fzL_get _ _ _ _ hi (by simpa using hx)]
  have h1 : (xs.map a.eval).toList[i] = a.eval (xs[i]'(by simpa using hx)) := by simp
  have h2 : (xs.toList.map σ.ev)[i]'(by simpa using hx) = σ.ev (xs[i]'(by simpa using hx)) := by simp
  rw [h1, h2]
  exact (he _ (Array.getElem_mem _)).frz hh false (fun h => by cases h) (fun h => by cases h)
/-- a call of a function without effects -/
theorem q_call {f : FuncId} {xs : Array Operand} {ts : Array TypeId} {as : List AV} {res : AV} (hc : CPure C.toGx f as res) (hcf : ∀ args w, (callFunc f args).run C.P w = .ok (.enter f args) w)
    (ha : AV.fzL σ.heap false (xs.toList.map σ.ev) = as) (hfr : res.allFr = true) : Qd C ⟨d, .call { callee := .value (.func f), args := xs, argTypes := ts }, ty, pos, af, g⟩ σ res := by
  intro γ σ1 a w s hh he
  have hhr : HR C γ σ.heap w := by rw [← hh]; exact s.toHR
  obtain ⟨h1, h2⟩ := args_rep (σ := σ) hhr (fun x hx => by
    have := s.ev x
    rw [he x (by simp only [Op.operands, Call.operands]; exact Array.mem_append.2 (.inr hx)), hh] at this
    exact this) ha
  have hcall := hc w (xs.map a.eval).toList hhr.glob (Nat.le_trans C.hn hhr.chg.size) h1 h2
  unfold Oper.wp
  have hr : (execOp a.eval ⟨d, .call { callee := .value (.func f), args := xs, argTypes := ts }, ty, pos, af, g⟩).run C.P w = .ok (.enter f (xs.map a.eval)) w := by
    simp [execOp, resolve, Act.eval, Deferred.ofValue, invoke, hcf]
  rw [hr, Oper.upon_enter]
  simp only [Array.toArray_toList] at hcall
  refine hcall.mono ?_
  rintro e w' ⟨v, rfl, hx, hv⟩
  refine ⟨v, rfl, hx, ?_⟩
  exact hv.fresh hfr hhr.chg.size (fun b hb hm => by
    have := Mut.lt (C := C) (σ := σ) hhr hm
    omega) _
end
end Go.Proofs.YtignjjnflcpiiaaDoor
