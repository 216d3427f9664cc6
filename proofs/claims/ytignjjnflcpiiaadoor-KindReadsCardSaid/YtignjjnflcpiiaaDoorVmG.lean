/- Structs and slices that are made and not written; texts out of bytes; slices of slices; comparisons of errors, pointers, structs. -/
import Derived.Test.YtignjjnflcpiiaaDoorVmF
import Derived.Laws.StructEq
set_option linter.unusedVariables false
set_option linter.unusedSimpArgs false
namespace Go.Proofs.YtignjjnflcpiiaaDoor
open Go.RowKit

theorem fill_one (place : Nat → Option (Nat × Nat)) : ∀ (parts : List (Nat × Value)) (cells : Array Value), (∀ p ∈ parts, p.1 < cells.size ∧ p.2.cells = #[p.2] ∧ place p.1 = some (p.1, 1)) →
    Instr.fill place cells parts = some (parts.foldl (fun cs p => cs.setIfInBounds p.1 p.2) cells)
  | [], cells, _ => rfl
  | (i, v) :: rest, cells, h => by
    obtain ⟨h1, h2, h3⟩ := h (i, v) List.mem_cons_self
    simp only at h1 h2 h3
    have hsz : v.cells.size = 1 := by rw [h2]; rfl
    rw [Instr.fill, h3]
    simp only [hsz]
    rw [if_neg (by simp; omega), h2]
    have ih := fill_one place rest (cells.setIfInBounds i v) (fun p hp => by
      obtain ⟨a, b, c⟩ := h p (List.mem_cons_of_mem _ hp)
      exact ⟨by simpa using a, b, c⟩)
    simpa using ih
theorem foldl_set (l : List Value) : ∀ (k : Nat) (pre post : List Value), pre.length = k → post.length = l.length →
    ((l.zipIdx 0).foldl (fun (cs : Array Value) (x : Value × Nat) => cs.setIfInBounds (k + x.2) x.1) (pre ++ post).toArray) = (pre ++ l).toArray := by
  intro k pre post hpre hpost
  suffices key : ∀ (l : List Value) (n : Nat) (pre post : List Value), pre.length = k + n → post.length = l.length →
      ((l.zipIdx n).foldl (fun (cs : Array Value) (x : Value × Nat) => cs.setIfInBounds (k + x.2) x.1) (pre ++ post).toArray) = (pre ++ l).toArray from key l 0 pre post (by omega) hpost
  intro l
  induction l with
  | nil =>
    intro n pre post h1 h2
    have : post = [] := List.eq_nil_of_length_eq_zero h2
    subst this
    rfl
  | cons v r ih =>
    intro n pre post h1 h2
    match post, h2 with
    | p :: post, h2 =>
      rw [List.zipIdx_cons, List.foldl_cons]
      have : ((pre ++ p :: post).toArray.setIfInBounds (k + n) v) = ((pre ++ [v]) ++ post).toArray := by
        rw [List.setIfInBounds_toArray, ← h1]
        simp
      rw [this, ih (n + 1) (pre ++ [v]) post (by simp; omega) (by simpa using h2)]
      simp
theorem fill_agg (place : Nat → Option (Nat × Nat)) (v : Value) (cells : Array Value) (hp : place 0 = some (0, cells.size)) (hv : v.cells.size = cells.size) : Instr.fill place cells [(0, v)] = some v.cells := by
  rw [Instr.fill, hp]
  simp only [hv]
  rw [if_neg (by simp)]
  have := foldl_set v.cells.toList 0 [] cells.toList rfl (by simpa using hv.symm)
  simp only [List.nil_append, Array.toArray_toList] at this
  rw [Instr.fill]
  rw [← Array.foldl_toList, Array.toList_zipIdx]
  exact congrArg some this

def AV.one : AV → Bool
  | .any | .agg _ | .tup _ | .sl _ => false
  | _ => true
theorem Rep.one {w : World} {N : Nat} {M : Nat → Prop} {γ : Nat → Value} {v : AV} {x : Value} (h : Rep w N M γ v x) (h1 : v.one = true) : x.cells = #[x] ∧ x.oneCell' = true := by
  cases h with
  | any => cases h1
  | agg => cases h1
  | tup => cases h1
  | sl => cases h1
  | ro _ _ _ _ _ h =>
    rcases h with ⟨_, a, c, rfl, _⟩ | ⟨b, o, cap, cs, rfl, _⟩ <;> exact ⟨rfl, rfl⟩
  | pts _ _ _ _ h => cases h <;> exact ⟨rfl, rfl⟩
  | _ => exact ⟨rfl, rfl⟩
theorem FRep.one {v : AV} {x : Value} (h : FRep v x) (h1 : v.one = true) : x.cells = #[x] := by
  cases h with
  | any => cases h1
  | _ => rfl
def AV.flat : AV → Bool
  | .bool _ | .int _ _ | .str _ => true
  | _ => false
theorem Rep.flat {w : World} {N : Nat} {M : Nat → Prop} {γ : Nat → Value} {v : AV} {x : Value} (h : Rep w N M γ v x) (h1 : v.flat = true) : FRep v x := by
  cases h with
  | bool => exact .bool _
  | int => exact .int _ _
  | str => exact .str _
  | _ => cases h1
theorem flat_one {v : AV} (h : v.flat = true) : v.one = true := by cases v <;> first | rfl | cases h

/-- the zero of a type, cell by cell -/
def zeroL (P : Program) (t : TypeId) : Option (List AV) := match P.info? t with
  | some i => match i.zero with
    | some v => some (v.cells.toList.map ofConst)
    | none => none
  | none => none
def allOnes (P : Program) : Nat → List Field → Bool
  | _, [] => true
  | k, f :: r => Nat.beq f.offset k && sizeB P f.type 1 && allOnes P (k + 1) r
/-- a struct or an array of n fields or elements of one cell each -/
def placesB (P : Program) (t n : Nat) : Bool := match P.underlying t with
  | some (.struct fs) => Nat.beq fs.size n && allOnes P 0 fs.toList
  | some (.array m e) => Nat.beq m n && sizeB P e 1
  | _ => false
def setL (z : List AV) : List (Nat × AV) → List AV
  | [] => z
  | (i, v) :: r => setL (z.set i v) r

theorem zeroL_spec {P : Program} {t : TypeId} {zc : List AV} (h : zeroL P t = some zc) : ∃ it z, P.info? t = some it ∧ it.zero = some z ∧ z.cells.toList.map ofConst = zc := by
  unfold zeroL at h
  cases hi : P.info? t with
  | none => rw [hi] at h; cases h
  | some it =>
    rw [hi] at h
    simp only at h
    cases hz : it.zero with
    | none => rw [hz] at h; cases h
    | some z => rw [hz] at h; cases h; exact ⟨it, z, rfl, hz, rfl⟩
theorem sizeB_info {P : Program} {e : TypeId} {sz : Nat} (h : sizeB P e sz = true) : ∃ i, P.info? e = some i ∧ i.size = sz := by
  unfold sizeB at h
  cases hi : P.info? e with
  | none => rw [hi] at h; cases h
  | some i => rw [hi] at h; exact ⟨i, rfl, Nat.eq_of_beq_eq_true h⟩
theorem allOnes_spec {P : Program} : ∀ (fs : List Field) (k : Nat), allOnes P k fs = true → (fs.mapM fun f => (P.info? f.type).map fun i => (f.offset, i.size)) = some ((List.range' k fs.length).map fun i => (i, 1))
  | [], k, _ => rfl
  | f :: r, k, h => by
    simp only [allOnes, Bool.and_eq_true] at h
    obtain ⟨⟨h1, h2⟩, h3⟩ := h
    obtain ⟨i, hi, hs⟩ := sizeB_info h2
    rw [List.mapM_cons, allOnes_spec r (k + 1) h3, hi]
    simp [hs, Nat.eq_of_beq_eq_true h1, List.range'_succ]
theorem built_flat {P : Program} {t n : Nat} {it : TypeInfo} {z : Value} (hi : P.info? t = some it) (hz : it.zero = some z) (hn : z.cells.size = n) (hp : placesB P t n = true) (parts : List (Nat × Value)) (h : ∀ p ∈ parts, p.1 < n ∧ p.2.cells = #[p.2]) :
    P.built t parts = some (parts.foldl (fun cs p => cs.setIfInBounds p.1 p.2) z.cells) := by
  unfold placesB at hp
  unfold Program.built
  cases hu : P.underlying t with
  | none => rw [hu] at hp; cases hp
  | some d =>
    rw [hu] at hp
    cases d with
    | struct fs =>
      simp only [Bool.and_eq_true] at hp
      obtain ⟨h1, h2⟩ := hp
      have h1 := Nat.eq_of_beq_eq_true h1
      simp only [hi, hz, allOnes_spec _ _ h2]
      refine fill_one _ parts _ (fun p hpp => ⟨by rw [hn]; exact (h p hpp).1, (h p hpp).2, ?_⟩)
      have : p.1 < fs.toList.length := by simpa [h1] using (h p hpp).1
      have hlt : p.1 < fs.size := by simpa using this
      simp [hlt]
    | array m e =>
      simp only [Bool.and_eq_true] at hp
      obtain ⟨h1, h2⟩ := hp
      obtain ⟨ie, hie, hse⟩ := sizeB_info h2
      simp only [hi, hz, hie, hse]
      exact fill_one _ parts _ (fun p hpp => ⟨by rw [hn]; exact (h p hpp).1, (h p hpp).2, by simp⟩)
    | _ => cases hp
theorem setL_rep {w : World} {N : Nat} {M : Nat → Prop} {γ : Nat → Value} : ∀ (pv : List (Nat × AV)) (pc : List (Nat × Value)) (zc : List AV) (z : Array Value), pc.length = pv.length → (∀ i (h : i < pv.length) (h' : i < pc.length), pc[i].1 = pv[i].1 ∧ Rep w N M γ pv[i].2 pc[i].2) →
    z.size = zc.length → (∀ i (h : i < zc.length) (h' : i < z.size), Rep w N M γ zc[i] z[i]) → Rep w N M γ (.agg (setL zc pv)) (.agg (pc.foldl (fun cs p => cs.setIfInBounds p.1 p.2) z))
  | [], [], zc, z, _, _, hz, hr => by
    have := Rep.agg γ zc z.toList (by simpa using hz) (fun i hi hx => hr i hi (by simpa using hx))
    simpa [setL] using this
  | (i, v) :: pv, (j, x) :: pc, zc, z, hl, h, hz, hr => by
    have h0 := h 0 (by simp) (by simp)
    simp only [List.getElem_cons_zero] at h0
    obtain ⟨h0, h1⟩ := h0
    subst h0
    rw [setL, List.foldl_cons]
    refine setL_rep pv pc _ _ (by simpa using hl) (fun i hi hx => h (i + 1) (by simpa using hi) (by simpa using hx)) (by simpa using hz) (fun k hk hk' => ?_)
    rw [List.getElem_set, Array.getElem_setIfInBounds (by simpa using hk')]
    by_cases hjk : j = k
    · rw [if_pos hjk, if_pos hjk]; exact h1
    · rw [if_neg hjk, if_neg hjk]; exact hr k (by simpa using hk) (by simpa using hk')

section
variable {C : Cx} {σ : St} {d : Option Nat} {ty : TypeId} {pos : String} {af : Array Edge} {g : Option (Nat × Bool)} {x y : Operand} {t : TypeId}
/-- a struct or an array of one-cell fields -/
theorem q_build {parts : Array (Nat × Operand)} {zc : List AV} {pv : List (Nat × AV)} {n : Nat} (hz : zeroL C.P t = some zc) (hn : zc.length = n) (hp : placesB C.P t n = true) (hv : parts.toList.map (fun p => (p.1, σ.ev p.2)) = pv)
    (h1 : (pv.all fun p => Nat.blt p.1 n && p.2.one) = true) {res : List AV} (hr : setL zc pv = res) : Qd C ⟨d, .build t parts, ty, pos, af, g⟩ σ (.agg res) := qd_of fun γ a w hh he => by
  obtain ⟨it, z, hi, hz0, hzc⟩ := zeroL_spec hz
  have hzs : z.cells.size = n := by rw [← hn, ← hzc]; simp
  subst hv hr
  have hone : ∀ p ∈ parts.toList, p.1 < n ∧ (σ.ev p.2).one = true := fun p hp => by
    have := List.all_eq_true.1 h1 (p.1, σ.ev p.2) (List.mem_map.2 ⟨p, hp, rfl⟩)
    simp only [Bool.and_eq_true] at this
    exact ⟨blt_lt this.1, this.2⟩
  have hev : ∀ p ∈ parts.toList, Rep w C.N (Mut γ σ.heap) (fun i => (γ i).1) (σ.ev p.2) (a.eval p.2) := fun p hp => he p.2 (by
    simp only [Op.operands]
    simp only [List.mem_toArray, List.mem_map]
    exact ⟨p, hp, rfl⟩)
  have hb := built_flat hi hz0 hzs hp ((parts.map fun (i, x) => (i, a.eval x)).toList) (fun p hp => by
    simp only [Array.toList_map, List.mem_map] at hp
    obtain ⟨q, hq, rfl⟩ := hp
    exact ⟨(hone q hq).1, ((hev q hq).one (hone q hq).2).1⟩)
  refine ⟨_, w, by simp only [execOp, Sem.run_bind, run_build w t _ _ hb, Result.andThen_ok]; rfl, ext_refl w, ?_⟩
  refine setL_rep _ _ _ _ (by simp) (fun i hi hx => ?_) (by rw [hzs, hn]) (fun i hi hx => ?_)
  · simp only [Array.toList_map, List.getElem_map]
    exact ⟨trivial, hev _ (List.getElem_mem _)⟩
  · subst hzc
    simp only [List.getElem_map, Array.getElem_toList]
    exact ofConst_rep _
theorem q_build0 {zc : List AV} {n : Nat} (hz : zeroL C.P t = some zc) (hn : zc.length = n) (hp : placesB C.P t n = true) : Qd C ⟨d, .build t #[], ty, pos, af, g⟩ σ (.agg zc) := q_build hz hn hp rfl rfl rfl
theorem q_build1 {i : Nat} {zc : List AV} {n : Nat} {u : AV} (hz : zeroL C.P t = some zc) (hn : zc.length = n) (hp : placesB C.P t n = true) (hx : σ.ev x = u) (h1 : (Nat.blt i n && u.one) = true) {res : List AV} (hr : zc.set i u = res) : Qd C ⟨d, .build t #[(i, x)], ty, pos, af, g⟩ σ (.agg res) :=
  q_build (pv := [(i, u)]) hz hn hp (by simp [hx]) (by simpa using h1) hr
theorem q_build2 {i j : Nat} {zc : List AV} {n : Nat} {u v : AV} (hz : zeroL C.P t = some zc) (hn : zc.length = n) (hp : placesB C.P t n = true) (hx : σ.ev x = u) (hy : σ.ev y = v) (h1 : (Nat.blt i n && u.one) = true) (h2 : (Nat.blt j n && v.one) = true) {res : List AV} (hr : (zc.set i u).set j v = res) : Qd C ⟨d, .build t #[(i, x), (j, y)], ty, pos, af, g⟩ σ (.agg res) :=
  q_build (pv := [(i, u), (j, v)]) hz hn hp (by simp [hx, hy]) (by simp only [List.all_cons, List.all_nil, h1, h2]; rfl) hr
theorem q_build3 {i j k : Nat} {zc : List AV} {n : Nat} {x3 : Operand} {u v u3 : AV} (hz : zeroL C.P t = some zc) (hn : zc.length = n) (hp : placesB C.P t n = true) (hx : σ.ev x = u) (hy : σ.ev y = v) (hx3 : σ.ev x3 = u3) (h1 : (Nat.blt i n && u.one) = true) (h2 : (Nat.blt j n && v.one) = true) (h3 : (Nat.blt k n && u3.one) = true) {res : List AV} (hr : ((zc.set i u).set j v).set k u3 = res) : Qd C ⟨d, .build t #[(i, x), (j, y), (k, x3)], ty, pos, af, g⟩ σ (.agg res) :=
  q_build (pv := [(i, u), (j, v), (k, u3)]) hz hn hp (by simp [hx, hy, hx3]) (by simp only [List.all_cons, List.all_nil, h1, h2, h3]; rfl) hr

/-! slices made of their elements -/
theorem bs_rows {w : World} {vs : List AV} {xs : List Value} (e : TypeId) (hl : xs.length = vs.length) (h0 : 0 < vs.length) (hr : ∀ i (h : i < vs.length) (h' : i < xs.length), FRep vs[i] xs[i]) (N : Nat) (M : Nat → Prop) (hN : N ≤ w.heap.size) (hM : ∀ b, M b → b < w.heap.size) :
    RowsAt (w.alloc (.cells xs.toArray e)) (Still N M true) 1 (vs.map fun v => [v]) (.slice (some ⟨w.heap.size, 0, none⟩) vs.length vs.length) := by
  refine .inr ⟨w.heap.size, 0, vs.length, fun i _ => xs.getD i undef, by simp, ⟨fun h => absurd (hM _ h) (Nat.lt_irrefl _), fun _ => hN⟩, by simpa using h0, by omega, by simp, fun i hi j hj => ?_, fun i hi => by simp, fun i hi j hj => ?_⟩
  · have hi' : i < xs.length := by rw [hl]; simpa using hi
    have : 0 + i * 1 + j = i := by omega
    rw [this, World.cell?_alloc_new]
    simp [hi']
  · simp at hi hj
    have hi' : i < xs.length := by omega
    subst hj
    simp only [List.getElem_map, List.getElem_cons_zero]
    rw [List.getD_eq_getElem?_getD, List.getElem?_eq_getElem hi']
    exact hr i hi hi'
theorem q_bslice {parts : Array (Nat × Operand)} {xs : List Operand} {vs : List AV} {len : Nat} {e : TypeId} (ht : C.P.underlying t = some (.slice e)) (hs : sizeB C.P e 1 = true) (hz : (zeroL C.P e).isSome = true) (hp : parts.toList = xs.zipIdx.map (fun p => (p.2, p.1))) (hv : xs.map σ.ev = vs) (hl : vs.length = len) (h0 : 0 < len) (hbig : len ≤ 16777216)
    (hf : vs.all AV.flat = true) : Qd C ⟨d, .buildSlice t len parts, ty, pos, af, g⟩ σ (.ro true 1 (vs.map fun v => [v])) := qd_of fun γ a w hh he => by
  obtain ⟨zc, hzc⟩ := Option.isSome_iff_exists.1 hz
  obtain ⟨ie, z, hi, hz0, _⟩ := zeroL_spec hzc
  obtain ⟨ie', hi', hsz⟩ := sizeB_info hs
  rw [hi] at hi'
  cases hi'
  have hxl : xs.length = len := by rw [← hl, ← hv]; simp
  have hmem : ∀ i (h : i < xs.length), Rep w C.N (Mut γ σ.heap) (fun i => (γ i).1) (σ.ev xs[i]) (a.eval xs[i]) := fun i h => he _ (by
    simp only [Op.operands, hp]
    simp only [List.mem_toArray, List.map_map, List.mem_map]
    exact ⟨(xs[i], i), by rw [List.mem_zipIdx_iff_getElem?]; simp [h], rfl⟩)
  have hfl : ∀ i (h : i < xs.length), (σ.ev xs[i]).flat = true := fun i h => by
    subst hv
    exact List.all_eq_true.1 hf _ (List.mem_map.2 ⟨xs[i], List.getElem_mem h, rfl⟩)
  have hfill : Instr.fill (fun i => some (i * ie.size, ie.size)) ((Array.range (len * ie.size)).map (z.cells[· % z.cells.size]!)) (parts.map fun (i, x) => (i, a.eval x)).toList = some (xs.map a.eval).toArray := by
    rw [hsz, fill_one]
    · rw [Array.toList_map, hp, List.map_map, List.foldl_map]
      have := foldl_set (xs.map a.eval) 0 [] ((Array.range (len * 1)).map (z.cells[· % z.cells.size]!)).toList rfl (by simp [hxl])
      simp only [List.nil_append, Array.toArray_toList] at this
      rw [← this, List.zipIdx_map, List.foldl_map]
      simp
    · intro p hp'
      rw [Array.toList_map, hp, List.map_map] at hp'
      obtain ⟨⟨q, j⟩, hq, rfl⟩ := List.mem_map.1 hp'
      obtain ⟨hj, hqe⟩ := List.mem_zipIdx' hq
      simp only [Function.comp]
      have hmj := hmem j hj
      have hfj := hfl j hj
      have hqe' : xs[j] = q := by simpa using hqe.symm
      rw [hqe'] at hmj hfj
      refine ⟨by simp; omega, (hmj.one (flat_one hfj)).1, by simp⟩
  have hrun := run_buildSlice (P := C.P) w t e len (parts.map fun (i, x) => (i, a.eval x)) (xs.map a.eval).toArray ie z ht hi hz0 (by rw [hsz]; omega) (by rw [hsz]; omega) hfill
  refine ⟨_, _, by simp only [execOp, Sem.run_bind, hrun, Result.andThen_ok]; rfl, (Below.refl _ w).alloc (Nat.le_refl _) _, .ro _ _ _ _ _ ?_⟩
  have := bs_rows (w := w) (vs := vs) (xs := xs.map a.eval) e (by subst hv; simp) (by omega) (fun i h h' => by
    subst hv
    simp only [List.getElem_map]
    have hi'' : i < xs.length := by simpa using h'
    exact (hmem i hi'').flat (hfl i hi'')) C.N (Mut γ σ.heap) hh.chg.size (fun b hb => Mut.lt (C := C) (σ := σ) hh hb)
  rw [hl] at this
  exact this

section
variable {e : TypeId} {x1 x2 x3 x4 : Operand} {v1 v2 v3 v4 : AV}
theorem q_bs1 (ht : C.P.underlying t = some (.slice e)) (hs : sizeB C.P e 1 = true) (hz : (zeroL C.P e).isSome = true) (h1 : σ.ev x1 = v1) (f1 : v1.flat = true) : Qd C ⟨d, .buildSlice t 1 #[(0, x1)], ty, pos, af, g⟩ σ (.ro true 1 [[v1]]) :=
  q_bslice (xs := [x1]) (vs := [v1]) ht hs hz rfl (by simp [h1]) rfl (by omega) (by omega) (by simp [f1])
theorem q_bs2 (ht : C.P.underlying t = some (.slice e)) (hs : sizeB C.P e 1 = true) (hz : (zeroL C.P e).isSome = true) (h1 : σ.ev x1 = v1) (h2 : σ.ev x2 = v2) (f1 : v1.flat = true) (f2 : v2.flat = true) : Qd C ⟨d, .buildSlice t 2 #[(0, x1), (1, x2)], ty, pos, af, g⟩ σ (.ro true 1 [[v1], [v2]]) :=
  q_bslice (xs := [x1, x2]) (vs := [v1, v2]) ht hs hz rfl (by simp [h1, h2]) rfl (by omega) (by omega) (by simp [f1, f2])
theorem q_bs3 (ht : C.P.underlying t = some (.slice e)) (hs : sizeB C.P e 1 = true) (hz : (zeroL C.P e).isSome = true) (h1 : σ.ev x1 = v1) (h2 : σ.ev x2 = v2) (h3 : σ.ev x3 = v3) (f1 : v1.flat = true) (f2 : v2.flat = true) (f3 : v3.flat = true) : Qd C ⟨d, .buildSlice t 3 #[(0, x1), (1, x2), (2, x3)], ty, pos, af, g⟩ σ (.ro true 1 [[v1], [v2], [v3]]) :=
  q_bslice (xs := [x1, x2, x3]) (vs := [v1, v2, v3]) ht hs hz rfl (by simp [h1, h2, h3]) rfl (by omega) (by omega) (by simp [f1, f2, f3])
theorem q_bs4 (ht : C.P.underlying t = some (.slice e)) (hs : sizeB C.P e 1 = true) (hz : (zeroL C.P e).isSome = true) (h1 : σ.ev x1 = v1) (h2 : σ.ev x2 = v2) (h3 : σ.ev x3 = v3) (h4 : σ.ev x4 = v4) (f1 : v1.flat = true) (f2 : v2.flat = true) (f3 : v3.flat = true) (f4 : v4.flat = true) : Qd C ⟨d, .buildSlice t 4 #[(0, x1), (1, x2), (2, x3), (3, x4)], ty, pos, af, g⟩ σ (.ro true 1 [[v1], [v2], [v3], [v4]]) :=
  q_bslice (xs := [x1, x2, x3, x4]) (vs := [v1, v2, v3, v4]) ht hs hz rfl (by simp [h1, h2, h3, h4]) rfl (by omega) (by omega) (by simp [f1, f2, f3, f4])
end
/-- a slice of one struct -/
theorem run_bsa {w : World} {e sz : Nat} (ht : C.P.underlying t = some (.slice e)) (hs : sizeB C.P e sz = true) (hz : (zeroL C.P e).map List.length = some sz) (h0 : 0 < sz) (hbig : sz ≤ 16777216) (cs : List Value) (hcs : cs.length = sz) :
    (Instr.buildSlice t 1 #[(0, .agg cs.toArray)]).run C.P w = .ok (.slice (some ⟨w.heap.size, 0, none⟩) 1 1) (w.alloc (.cells cs.toArray e)) := by
  cases hzz : zeroL C.P e with
  | none => rw [hzz] at hz; cases hz
  | some zc =>
    rw [hzz] at hz
    obtain ⟨ie, z, hi, hz0, hzc⟩ := zeroL_spec hzz
    obtain ⟨ie', hi', hsz⟩ := sizeB_info hs
    rw [hi] at hi'
    cases hi'
    refine run_buildSlice w t e 1 _ cs.toArray ie z ht hi hz0 (by rw [hsz]; omega) (by rw [hsz]; omega) ?_
    exact fill_agg _ (.agg cs.toArray) _ (by simp) (by simp [Value.cells, hcs, hsz])
theorem q_bsa {e sz : Nat} {l : List AV} (ht : C.P.underlying t = some (.slice e)) (hs : sizeB C.P e sz = true) (hz : (zeroL C.P e).map List.length = some sz) (h0 : 0 < sz) (hbig : sz ≤ 16777216) (hx : σ.ev x = .agg l) (hl : l.length = sz) (hf : l.all AV.flat = true) :
    Qd C ⟨d, .buildSlice t 1 #[(0, x)], ty, pos, af, g⟩ σ (.ro true sz [l]) := qd_of fun γ a w hh he => by
  have e1 := he x (by simp [Op.operands])
  rw [hx] at e1
  obtain ⟨cs, hv, hcl, hr⟩ := e1.agg_inv
  have hrun := run_bsa (C := C) (w := w) ht hs hz h0 hbig cs (by omega)
  refine ⟨.slice (some ⟨w.heap.size, 0, none⟩) 1 1, w.alloc (.cells cs.toArray e), by simp [execOp, hv, hrun], (Below.refl _ w).alloc (Nat.le_refl _) _, .ro _ _ _ _ _ ?_⟩
  refine .inr ⟨w.heap.size, 0, 1, fun _ j => cs.getD j undef, rfl, ⟨fun h => absurd (Mut.lt (C := C) (σ := σ) hh h) (Nat.lt_irrefl _), fun _ => hh.chg.size⟩, by simp, h0, by simp, fun i hi j hj => ?_, fun i hi => ?_, fun i hi j hj => ?_⟩
  · simp at hi
    subst hi
    rw [show 0 + 0 * sz + j = j by omega, World.cell?_alloc_new]
    simp [show j < cs.length by omega]
  · simp at hi; subst hi; exact hl
  · simp at hi
    subst hi
    simp only [List.getElem_cons_zero] at hj ⊢
    rw [List.getD_eq_getElem?_getD, List.getElem?_eq_getElem (by omega)]
    exact (hr j hj (by omega)).flat (List.all_eq_true.1 hf _ (List.getElem_mem _))
/-- a slice of one part -/
theorem q_bspt {e : Nat} {p : PT} (ht : C.P.underlying t = some (.slice e)) (hs : sizeB C.P e 4 = true) (hz : (zeroL C.P e).map List.length = some 4) (hx : σ.ev x = .agg (ptCells true p)) :
    Qd C ⟨d, .buildSlice t 1 #[(0, x)], ty, pos, af, g⟩ σ (.pts true [p]) := qd_of fun γ a w hh he => by
  have e1 := he x (by simp [Op.operands])
  rw [hx] at e1
  obtain ⟨cs, hv, hcl, hr⟩ := e1.agg_inv
  simp [ptCells] at hcl
  have hrun := run_bsa (C := C) (w := w) ht hs hz (by omega) (by omega) cs hcl
  have hx' : Ext w (w.alloc (.cells cs.toArray e)) := (Below.refl _ w).alloc (Nat.le_refl _) _
  refine ⟨.slice (some ⟨w.heap.size, 0, none⟩) 1 1, w.alloc (.cells cs.toArray e), by simp [execOp, hv, hrun], hx', .pts _ _ _ _ ?_⟩
  have r0 := hr 0 (by simp [ptCells]) (by omega)
  have r1 := hr 1 (by simp [ptCells]) (by omega)
  have r2 := hr 2 (by simp [ptCells]) (by omega)
  have r3 := hr 3 (by simp [ptCells]) (by omega)
  simp only [ptCells, List.getElem_cons_zero, List.getElem_cons_succ] at r0 r1 r2 r3
  have r0 := (r0.ext hx').ro_inv
  have r3 := (r3.ext hx').pts_inv
  have r1 := r1.str_inv
  have r2 := r2.bool_inv
  have cell : ∀ j (hj : j < 4), (w.alloc (.cells cs.toArray e)).cell? ⟨w.heap.size, 0 + 0 * 4 + j, none⟩ = some (cs[j]'(by omega)) := fun j hj => by
    rw [show 0 + 0 * 4 + j = j by omega, World.cell?_alloc_new]
    simp [show j < cs.length by omega]
  refine .mk [p] w.heap.size 0 1 (fun _ => cs[0]'(by omega)) (fun _ => cs[3]'(by omega)) ⟨fun h => absurd (Mut.lt (C := C) (σ := σ) hh h) (Nat.lt_irrefl _), fun _ => hh.chg.size⟩ (by simp) (by simp) (fun i hi => ?_) (fun i hi => ?_) (fun i hi => ?_)
  · simp at hi
    subst hi
    simp only [List.getElem_cons_zero]
    rw [← r1, ← r2]
    exact ⟨cell 0 (by omega), cell 1 (by omega), cell 2 (by omega), cell 3 (by omega)⟩
  · simp at hi
    subst hi
    exact r0
  · simp at hi
    subst hi
    exact r3

/-! texts out of bytes -/
def byteRows (l : List UInt8) : List (List AV) := l.map fun c => [.int .u8 c.toNat]
theorem bytes_cells {w : World} {ok : Nat → Prop} {l : List UInt8} {v : Value} (h : RowsAt w ok 1 (byteRows l) v) : (l = [] ∧ ∃ a c, v = .slice a 0 c) ∨ ∃ b o cap, v = .slice (some ⟨b, o, none⟩) l.length cap ∧ ∀ j (hj : j < l.length), w.cell? ((⟨b, o, none⟩ : Addr).add j) = some (.int .u8 (l[j].toNat : Int)) := by
  rcases h with ⟨h, a, c, hv, _⟩ | ⟨b, o, cap, cs, hv, hok, h0, hs, hcap, hc, hl, hr⟩
  · exact .inl ⟨by simpa [byteRows] using h, a, c, hv⟩
  · refine .inr ⟨b, o, cap, by simpa [byteRows] using hv, fun j hj => ?_⟩
    have hj' : j < (byteRows l).length := by simpa [byteRows] using hj
    have h1 := hc j hj' 0 (by omega)
    have h2 := hr j hj' 0 (by simp [byteRows])
    rw [Addr.add_lit]
    rw [show o + j * 1 + 0 = o + j by omega] at h1
    rw [h1]
    simp only [byteRows, List.getElem_map, List.getElem_cons_zero] at h2
    generalize cs j 0 = z at h2 ⊢
    cases h2
    rfl
theorem run_str_bytes {P : Program} {w : World} {s t e : TypeId} (hs : P.underlying s = some (.slice e)) (he : P.underlying e = some (.int .u8)) (ht : P.underlying t = some .string) (a : Option Addr) (c : Nat) : (convert s t (.slice a 0 c)).run P w = .ok (.string ⟨#[]⟩) w := by
  cases a with
  | none => simp [convert, run_underlying hs, run_underlying ht, run_underlying he, Conv.bytesToString]; rfl
  | some a => exact run_convert_bytes_back w s t e a c [] hs he ht (fun j hj => absurd hj (Nat.not_lt_zero _))
theorem q_bstr {fr : Bool} {s e : TypeId} {rows : List (List AV)} (l : List UInt8) (hx : σ.ev x = .ro fr 1 rows) (hl : rows = byteRows l) (hs : C.P.underlying s = some (.slice e)) (he' : C.P.underlying e = some (.int .u8)) (ht : C.P.underlying t = some .string) :
    Qd C ⟨d, .convert s t x, ty, pos, af, g⟩ σ (.str l) := qd_of fun γ a w hh he => by
  have e1 := he x (by simp [Op.operands])
  rw [hx, hl] at e1
  rcases bytes_cells e1.ro_inv with ⟨rfl, ad, c, hv⟩ | ⟨b, o, cap, hv, hc⟩
  · exact ⟨.string ⟨#[]⟩, w, by simp [execOp, hv, run_str_bytes hs he' ht], ext_refl w, .str _ []⟩
  · exact ⟨.string ⟨l.toArray⟩, w, by simp [execOp, hv, run_convert_bytes_back w s t e ⟨b, o, none⟩ cap l hs he' ht hc], ext_refl w, .str _ l⟩
theorem q_bstrnil {s e : TypeId} (hx : σ.ev x = .nils) (hs : C.P.underlying s = some (.slice e)) (he' : C.P.underlying e = some (.int .u8)) (ht : C.P.underlying t = some .string) : Qd C ⟨d, .convert s t x, ty, pos, af, g⟩ σ (.str []) := qd_of fun γ a w hh he => by
  have e1 := he x (by simp [Op.operands])
  rw [hx] at e1
  have hv := e1.nils_inv
  exact ⟨.string ⟨#[]⟩, w, by simp [execOp, hv, run_str_bytes hs he' ht], ext_refl w, .str _ []⟩
theorem q_bstrsl {id : Nat} {s e e' : TypeId} {rows : List (List AV)} (l : List UInt8) (hx : σ.ev x = .sl id) (ho : σ.heap id = some (.rows e' 1 rows)) (hl : rows = byteRows l) (hs : C.P.underlying s = some (.slice e)) (he' : C.P.underlying e = some (.int .u8)) (ht : C.P.underlying t = some .string) :
    Qd C ⟨d, .convert s t x, ty, pos, af, g⟩ σ (.str l) := qd_of fun γ a w hh he => by
  have e1 := he x (by simp [Op.operands])
  rw [hx] at e1
  have e2 := e1.frz hh false (N' := 0) (fun h => by cases h) (fun h => by cases h)
  rw [AV.fz, ho, hl] at e2
  rcases bytes_cells e2.ro_inv with ⟨rfl, ad, c, hv⟩ | ⟨b, o, cap, hv, hc⟩
  · exact ⟨.string ⟨#[]⟩, w, by simp [execOp, hv, run_str_bytes hs he' ht], ext_refl w, .str _ []⟩
  · exact ⟨.string ⟨l.toArray⟩, w, by simp [execOp, hv, run_convert_bytes_back w s t e ⟨b, o, none⟩ cap l hs he' ht hc], ext_refl w, .str _ l⟩

/-! errors against nil -/
theorem run_nil_nil {P : Program} {w : World} {t : TypeId} {ms : Array (String × TypeId)} (ht : P.underlying t = some (.interface ms)) : (Op.equal t .nilIface .nilIface).run P w = .ok true w := by
  unfold Op.equal Op.maxDepth
  rw [Op.equalIn]
  simp [run_underlying ht]
theorem run_if_nil {P : Program} {w : World} {t : TypeId} {ms : Array (String × TypeId)} (ht : P.underlying t = some (.interface ms)) (u : TypeId) (v : Value) : (Op.equal t (.iface u v) .nilIface).run P w = .ok false w := by
  unfold Op.equal Op.maxDepth
  rw [Op.equalIn]
  simp [run_underlying ht]
variable {ty2 : TypeId} {ms : Array (String × TypeId)}
theorem q_eqnil (hx : σ.ev x = .nili) (ht : C.P.underlying t = some (.interface ms)) : Qd C ⟨d, .binOp .eql t x (.const .nilIface) ty2, ty, pos, af, g⟩ σ (.bool true) := qd_of fun γ a w hh he => by
  have e1 := he x (by simp [Op.operands])
  rw [hx] at e1
  have hv := e1.nili_inv
  exact ⟨.bool true, w, by simp [execOp, hv, show a.eval (.const .nilIface) = .nilIface from rfl, eqGuard_nil_constR, binOp, run_nil_nil ht], ext_refl w, .bool _ _⟩
theorem q_nenil (hx : σ.ev x = .nili) (ht : C.P.underlying t = some (.interface ms)) : Qd C ⟨d, .binOp .neq t x (.const .nilIface) ty2, ty, pos, af, g⟩ σ (.bool false) := qd_of fun γ a w hh he => by
  have e1 := he x (by simp [Op.operands])
  rw [hx] at e1
  have hv := e1.nili_inv
  exact ⟨.bool false, w, by simp [execOp, hv, show a.eval (.const .nilIface) = .nilIface from rfl, eqGuard_nil_constR, binOp, run_nil_nil ht], ext_refl w, .bool _ _⟩
theorem q_eqif {u : TypeId} {v : AV} (hx : σ.ev x = .iface u v) (ht : C.P.underlying t = some (.interface ms)) : Qd C ⟨d, .binOp .eql t x (.const .nilIface) ty2, ty, pos, af, g⟩ σ (.bool false) := qd_of fun γ a w hh he => by
  have e1 := he x (by simp [Op.operands])
  rw [hx] at e1
  obtain ⟨y, hv, _⟩ := e1.iface_inv
  exact ⟨.bool false, w, by simp [execOp, hv, show a.eval (.const .nilIface) = .nilIface from rfl, eqGuard_at_iface, binOp, run_if_nil ht], ext_refl w, .bool _ _⟩
theorem q_neif {u : TypeId} {v : AV} (hx : σ.ev x = .iface u v) (ht : C.P.underlying t = some (.interface ms)) : Qd C ⟨d, .binOp .neq t x (.const .nilIface) ty2, ty, pos, af, g⟩ σ (.bool true) := qd_of fun γ a w hh he => by
  have e1 := he x (by simp [Op.operands])
  rw [hx] at e1
  obtain ⟨y, hv, _⟩ := e1.iface_inv
  exact ⟨.bool true, w, by simp [execOp, hv, show a.eval (.const .nilIface) = .nilIface from rfl, eqGuard_at_iface, binOp, run_if_nil ht], ext_refl w, .bool _ _⟩

/-! structs against structs -/
def isStrB (P : Program) (t : TypeId) : Bool := match P.underlying t with
  | some .string => true
  | _ => false
def isIntB (P : Program) (t : TypeId) : Bool := match P.underlying t with
  | some (.int _) => true
  | _ => false
theorem isStrB_spec {P : Program} {t : TypeId} (h : isStrB P t = true) : P.underlying t = some .string := by
  unfold isStrB at h
  cases hu : P.underlying t with
  | none => rw [hu] at h; cases h
  | some d => rw [hu] at h; cases d <;> first | rfl | cases h
theorem isIntB_spec {P : Program} {t : TypeId} (h : isIntB P t = true) : ∃ k, P.underlying t = some (.int k) := by
  unfold isIntB at h
  cases hu : P.underlying t with
  | none => rw [hu] at h; cases h
  | some d => rw [hu] at h; cases d <;> first | exact ⟨_, rfl⟩ | cases h
/-- a struct of texts and integers, each in its own cell: true for a text -/
def plainFs (P : Program) : Nat → List Field → List Bool → Bool
  | _, [], [] => true
  | k, f :: r, b :: bs => f.name != "_" && Nat.beq f.offset k && (match b with | true => isStrB P f.type | false => isIntB P f.type) && plainFs P (k + 1) r bs
  | _, _, _ => false
def plainB (P : Program) (t : TypeId) (bs : List Bool) : Bool := (match P.underlying t with
  | some (.struct fs) => plainFs P 0 fs.toList bs
  | _ => false) && !P.stoodInHeld t && !P.eqGuardType P.depth t
def cellsLike : List Bool → List AV → Bool
  | [], [] => true
  | true :: bs, .str _ :: r => cellsLike bs r
  | false :: bs, .int k _ :: r => k == .i64 && cellsLike bs r
  | _, _ => false
def eqCells : List AV → List AV → Prop
  | .str a :: l, .str b :: r => a = b ∧ eqCells l r
  | .int _ a :: l, .int _ b :: r => a = b ∧ eqCells l r
  | _, _ => True
theorem run_fields {P : Program} {w : World} {N : Nat} {M : Nat → Prop} {γ : Nat → Value} (n : Nat) : ∀ (fs : List Field) (bs : List Bool) (k : Nat) (l r : List AV) (xs ys : List Value), plainFs P k fs bs = true → cellsLike bs l = true → cellsLike bs r = true →
    (∀ i v, l[i]? = some v → ∃ x, xs[k + i]? = some x ∧ Rep w N M γ v x) → (∀ i v, r[i]? = some v → ∃ x, ys[k + i]? = some x ∧ Rep w N M γ v x) →
    ∃ b, (Op.eqFields (n + 1) xs.toArray ys.toArray fs).run P w = .ok b w ∧ (b = true ↔ eqCells l r)
  | [], [], k, l, r, xs, ys, hf, hl, hr, _, _ => by
    cases l with
    | nil => exact ⟨true, by simp [Op.eqFields], by simp [eqCells]⟩
    | cons a l => cases a <;> simp [cellsLike] at hl
  | f :: fs, b :: bs, k, l, r, xs, ys, hf, hl, hr, hx, hy => by
    simp only [plainFs, Bool.and_eq_true] at hf
    obtain ⟨⟨⟨hn, ho⟩, hb⟩, hf⟩ := hf
    have ho := Nat.eq_of_beq_eq_true ho
    have hn' : f.name ≠ "_" := by simpa using hn
    have sh : ∀ {a : AV} {l : List AV} {zs : List Value}, (∀ i v, (a :: l)[i]? = some v → ∃ x, zs[k + i]? = some x ∧ Rep w N M γ v x) → ∀ i v, l[i]? = some v → ∃ x, zs[k + 1 + i]? = some x ∧ Rep w N M γ v x := fun h i v hv => by
      have := h (i + 1) v (by simpa using hv)
      rw [show k + (i + 1) = k + 1 + i by omega] at this
      exact this
    match b, l, r, hl, hr with
    | true, .str u :: l, .str v :: r, hl, hr =>
      have hu := isStrB_spec hb
      obtain ⟨x0, hx0, h1⟩ := hx 0 (.str u) rfl
      obtain ⟨y0, hy0, h2⟩ := hy 0 (.str v) rfl
      have h1 := h1.str_inv
      have h2 := h2.str_inv
      subst h1 h2
      simp only [Nat.add_zero] at hx0 hy0
      obtain ⟨c, hc, hce⟩ := run_fields n fs bs (k + 1) l r xs ys hf hl hr (sh hx) (sh hy)
      refine ⟨decide (u = v) && c, ?_, by simp only [Bool.and_eq_true, decide_eq_true_eq, eqCells, hce]⟩
      have p1 : (part f.type xs.toArray f.offset).run P w = .ok (.string ⟨u.toArray⟩) w := by simp [part, isAgg, run_underlying hu, ho, hx0]
      have p2 : (part f.type ys.toArray f.offset).run P w = .ok (.string ⟨v.toArray⟩) w := by simp [part, isAgg, run_underlying hu, ho, hy0]
      simp only [Op.eqFields, ne_eq, hn', not_false_eq_true, if_true, Sem.run_bind, p1, p2, Result.andThen_ok, run_equalIn_string w n f.type _ _ hu, ByteArray.toList_mk]
      by_cases huv : u = v
      · simp [huv, hc]
      · simp [huv]
    | false, .int k1 u :: l, .int k2 v :: r, hl, hr =>
      obtain ⟨kk, hu⟩ := isIntB_spec hb
      obtain ⟨x0, hx0, h1⟩ := hx 0 (.int k1 u) rfl
      obtain ⟨y0, hy0, h2⟩ := hy 0 (.int k2 v) rfl
      have h1 := h1.int_inv
      have h2 := h2.int_inv
      subst h1 h2
      simp only [Nat.add_zero] at hx0 hy0
      simp only [cellsLike, Bool.and_eq_true] at hl hr
      have hl1 := eq_of_beq hl.1
      have hr1 := eq_of_beq hr.1
      subst hl1 hr1
      obtain ⟨c, hc, hce⟩ := run_fields n fs bs (k + 1) l r xs ys hf hl.2 hr.2 (sh hx) (sh hy)
      refine ⟨decide (u = v) && c, ?_, by simp only [Bool.and_eq_true, decide_eq_true_eq, eqCells, hce]⟩
      have p1 : (part f.type xs.toArray f.offset).run P w = .ok (.int .i64 u) w := by simp [part, isAgg, run_underlying hu, ho, hx0]
      have p2 : (part f.type ys.toArray f.offset).run P w = .ok (.int .i64 v) w := by simp [part, isAgg, run_underlying hu, ho, hy0]
      simp only [Op.eqFields, ne_eq, hn', not_false_eq_true, if_true, Sem.run_bind, p1, p2, Result.andThen_ok, run_equalIn_int w n f.type _ _ _ _ hu]
      by_cases huv : u = v
      · simp [huv, hc]
      · simp [huv]
  | [], _ :: _, k, l, r, xs, ys, hf, _, _, _, _ => by cases hf
  | _ :: _, [], k, l, r, xs, ys, hf, _, _, _, _ => by cases hf
theorem q_nestr {bs : List Bool} {l r : List AV} {p : Prop} {dp : Decidable p} (hx : σ.ev x = .agg l) (hy : σ.ev y = .agg r) (ht : plainB C.P t bs = true) (hl : cellsLike bs l = true) (hr : cellsLike bs r = true) (hp : p ↔ ¬ eqCells l r) : Qd C ⟨d, .binOp .neq t x y ty2, ty, pos, af, g⟩ σ (.bool (decide p)) := qd_of fun γ a w hh he => by
  have e1 := he x (by simp [Op.operands])
  have e2 := he y (by simp [Op.operands])
  rw [hx] at e1; rw [hy] at e2
  obtain ⟨xs, hxs, hxl, hxr⟩ := e1.agg_inv
  obtain ⟨ys, hys, hyl, hyr⟩ := e2.agg_inv
  simp only [plainB, Bool.and_eq_true, Bool.not_eq_true'] at ht
  obtain ⟨⟨h1, h2⟩, h3⟩ := ht
  have hfs : plainFs C.P 0 (C.P.fieldsOf t).toList bs = true ∧ C.P.underlying t = some (.struct (C.P.fieldsOf t)) := by
    unfold Program.fieldsOf
    cases hu : C.P.underlying t with
    | none => rw [hu] at h1; cases h1
    | some d => rw [hu] at h1; cases d <;> first | exact ⟨h1, rfl⟩ | cases h1
  obtain ⟨b, hb, hbe⟩ := run_fields (P := C.P) (w := w) 9998 (C.P.fieldsOf t).toList bs 0 l r xs ys hfs.1 hl hr (fun i v hv => by
    obtain ⟨hi, hie⟩ := List.getElem?_eq_some_iff.1 hv
    exact ⟨xs[i]'(by omega), by simp [show i < xs.length by omega], by rw [← hie]; exact hxr i hi (by omega)⟩) (fun i v hv => by
    obtain ⟨hi, hie⟩ := List.getElem?_eq_some_iff.1 hv
    exact ⟨ys[i]'(by omega), by simp [show i < ys.length by omega], by rw [← hie]; exact hyr i hi (by omega)⟩)
  have hd' : (!b) = decide p := by
    rw [Bool.eq_iff_iff, decide_eq_true_iff, hp, ← hbe]
    simp
  refine ⟨.bool (decide p), w, ?_, ext_refl w, .bool _ _⟩
  simp only [execOp, hxs, hys, Sem.run_bind, run_eqGuard_agg w _ _ _ _ _ _ h3, Result.andThen_ok, run_neq_struct, run_equalIn_agg w 9999 t _ _ hfs.2 h2, hb, Sem.run_pure, hd']
end
end Go.Proofs.YtignjjnflcpiiaaDoor
