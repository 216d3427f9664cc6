import Derived.Test.YtignjjnflcpiiaaGreatDoorKG12
import Derived.Test.YtignjjnflcpiiaaGreatDoorKPartH
set_option linter.unusedVariables false
set_option linter.unusedSimpArgs false
set_option maxHeartbeats 1000000
namespace Go.Proofs.YtignjjnflcpiiaaGreatDoor
def HRes.fs : HRes → Fs | .ok l _ => l | .bad _ => []
def HRes.rest : HRes → B | .ok _ r => r | .bad _ => []
def HRes.e : HRes → Int | .ok _ _ => 0 | .bad _ => 3
def HRes.p : HRes → Int | .ok _ _ => -1 | .bad n => n
def CRes.fs : CRes → Fs | .ok l => l | .bad _ => []
def CRes.e : CRes → Int | .ok _ => 0 | .bad _ => 1
def CRes.p : CRes → Int | .ok _ => -1 | .bad n => n
def Fits (K : Nat) (l : Fs) : Prop := l.length ≤ K ∧ ∀ f ∈ l, f.1.length ≤ K ∧ f.2.length ≤ K
theorem Fits.small {K : Nat} {l : Fs} (h : Fits K l) (hK : K ≤ 1000000) : Small l := ⟨Nat.le_trans h.1 hK, fun f hf => ⟨Nat.le_trans (h.2 f hf).1 hK, Nat.le_trans (h.2 f hf).2 hK⟩⟩
theorem readGo_fits {K : Nat} : ∀ (m : Nat) (out : Fs) (n : Nat) (s : B), s.length ≤ m → out.length + s.length ≤ K → (∀ f ∈ out, f.1.length ≤ K ∧ f.2.length + s.length ≤ K) → Fits K (readGo out n s).fs ∧ (readGo out n s).rest.length ≤ K := by
  intro m
  induction m with
  | zero =>
    intro out n s hm ho hf
    have : s = [] := List.eq_nil_of_length_eq_zero (by omega)
    subst this
    rw [readGo_nil]
    exact ⟨⟨by show out.length ≤ K; simpa using ho, fun f hfm => ⟨(hf f hfm).1, by have := (hf f hfm).2; omega⟩⟩, Nat.zero_le _⟩
  | succ m ih =>
    intro out n s hm ho hf
    by_cases hs : s = []
    · subst hs
      rw [readGo_nil]
      exact ⟨⟨by show out.length ≤ K; simpa using ho, fun f hfm => ⟨(hf f hfm).1, by have := (hf f hfm).2; omega⟩⟩, Nat.zero_le _⟩
    · have hsum := cut_sum s [13, 10]
      have hlt := cut_lt (sep := [13, 10]) hs (by simp)
      by_cases h1 : (Lib.cut s [13, 10]).1 = []
      · rw [readGo_end hs h1]
        exact ⟨⟨by show out.length ≤ K; omega, fun f hfm => ⟨(hf f hfm).1, by have := (hf f hfm).2; omega⟩⟩, by show (Lib.cut s [13, 10]).2.1.length ≤ K; omega⟩
      · cases h2 : readStep out (Lib.cut s [13, 10]).1 with
        | none =>
          rw [readGo_bad hs h1 h2]
          exact ⟨⟨Nat.zero_le _, fun f hf => by cases hf⟩, Nat.zero_le _⟩
        | some o =>
          rw [readGo_go hs h1 h2]
          have hst : o.length ≤ out.length + 1 ∧ ∀ f ∈ o, f.1.length ≤ K ∧ f.2.length + (Lib.cut s [13, 10]).2.1.length ≤ K := by
            unfold readStep at h2
            split at h2
            · split at h2
              · cases h2
              · cases h2
                refine ⟨by simp, fun f hfm => ?_⟩
                rcases List.mem_or_eq_of_mem_set hfm with h | h
                · have := hf f h; omega
                · subst h
                  have := hf _ (lastF_mem ‹_›)
                  simp only [List.length_append]; omega
            · split at h2
              · cases h2
                refine ⟨by simp, fun f hfm => ?_⟩
                rcases List.mem_append.1 hfm with h | h
                · have := hf f h; omega
                · simp only [List.mem_singleton] at h
                  subst h
                  have := cut_sum (Lib.cut s [13, 10]).1 [58]
                  simp only
                  omega
              · cases h2
          exact ih o (n + 1) _ (by omega) (by have := List.length_pos_iff.2 h1; omega) hst.2
theorem readH_fits (s : B) : Fits s.length (readH s).fs ∧ (readH s).rest.length ≤ s.length := readGo_fits s.length [] 0 s (Nat.le_refl _) (by simp) (fun f hf => by cases hf)
theorem cleanGo_fits {K : Nat} : ∀ (l : Fs) (n : Nat) (out : Fs), out.length + l.length ≤ K → (∀ f ∈ l, f.1.length ≤ K ∧ f.2.length ≤ K) → (∀ f ∈ out, f.1.length ≤ K ∧ f.2.length ≤ K) → Fits K (cleanGo n out l).fs
  | [], n, out, h, hl, ho => ⟨by show out.length ≤ K; simpa using h, ho⟩
  | f :: r, n, out, h, hl, ho => by
    rw [cleanGo]
    cases valueB (trimB f.2) with
    | false => exact ⟨Nat.zero_le _, fun f hf => by cases hf⟩
    | true =>
      refine cleanGo_fits r (n + 1) _ (by simp at h ⊢; omega) (fun g hg => hl g (List.mem_cons_of_mem _ hg)) (fun g hg => ?_)
      rcases List.mem_append.1 hg with h' | h'
      · exact ho g h'
      · simp only [List.mem_singleton] at h'
        subst h'
        exact ⟨(hl f (List.mem_cons_self)).1, Nat.le_trans (trimB_len _) (hl f (List.mem_cons_self)).2⟩
theorem cleanF_fits {K : Nat} {l : Fs} (h : Fits K l) : Fits K (cleanF l).fs := cleanGo_fits l 0 [] (by simpa using h.1) h.2 (fun f hf => by cases hf)
theorem readH_small {s rest : B} {l : Fs} (h : readH s = .ok l rest) (hs : s.length ≤ 1000000) : Small l ∧ rest.length ≤ s.length := by
  have := readH_fits s
  rw [h] at this
  exact ⟨this.1.small hs, this.2⟩
theorem cleanF_small {l o : Fs} (h : cleanF l = .ok o) (hl : Small l) : Small o := by
  have hf : Fits 1000000 l := ⟨hl.len, hl.one⟩
  have := cleanF_fits hf
  rw [h] at this
  exact Fits.small this (Nat.le_refl _)
end Go.Proofs.YtignjjnflcpiiaaGreatDoor
namespace Go.Proofs.YtignjjnflcpiiaaGreatDoor
open Go.RowKit
set_option maxRecDepth 100000
section
variable {C : Cx} {σ : St}
theorem weak_cellnil (id' k id : Nat) (f : Bool) (e : TypeId) {cells cells' : List AV} (ho : ((σ.kill id).set id (some (.pts f e []))).heap id' = some (.box cells)) (hk : cells[k]? = some .nils) (hc : cells.set k (.sl id) = cells') (hpin : C.pin id = none) :
    Weak C σ (((σ.kill id).set id (some (.pts f e []))).set id' (some (.box cells'))) := fun γ a w s => by
  subst hc
  refine ⟨upd γ id (.slice none 0 0, undef), ?_⟩
  have s' := s.renew none id (.slice none 0 0, undef) (.pts f e []) hpin (fun i h => by cases h) rfl rfl rfl (Nat.le_refl _) (fun _ _ _ => rfl) (fun b hb => by
    unfold Blk at hb
    rw [upd_same] at hb
    rcases hb with hb | hb <;> cases hb) (fun b h => by cases h) (fun M' _ => ⟨.slice none 0 0, [], by rw [upd_same], World.ownsRow_nil _ _ _ _, fun i hi => absurd hi (Nat.not_lt_zero _)⟩)
  refine s'.update ho (.box (cells.set k (.sl id))) rfl rfl rfl (Nat.le_refl _) (fun _ _ _ => rfl) ?_
  obtain ⟨b, c, ty, h1, h2, h3, h4⟩ := s'.obj id' _ ho
  refine ⟨b, c, ty, h1, h2, by rw [List.length_set]; exact h3, fun j hj => ?_⟩
  have hj' : j < cells.length := by simpa using hj
  obtain ⟨v, hv, hr⟩ := h4 j hj'
  refine ⟨v, hv, ?_⟩
  rw [List.getElem_set]
  split
  · rename_i h
    subst h
    have e1 : cells[k] = .nils := by rw [List.getElem?_eq_getElem hj'] at hk; exact Option.some.inj hk
    rw [e1] at hr
    rw [hr.nils_inv]
    have := Rep.sl (w := w) (N := C.N) (M := Mut (upd γ id (.slice none 0 0, undef)) ((σ.kill id).set id (some (.pts f e []))).heap) (fun i => (upd γ id (.slice none 0 0, undef) i).1) id
    simp only [upd_same] at this
    exact this
  · exact hr
theorem weak_boxany (id : Nat) {v : AV} (ho : σ.heap id = some (.box [v])) : Weak C σ (σ.set id (some (.box [.any]))) := fun γ a w s => by
  refine ⟨γ, ?_⟩
  refine s.update ho (.box [.any]) rfl rfl rfl (Nat.le_refl _) (fun _ _ _ => rfl) ?_
  obtain ⟨b, c, ty, h1, h2, h3, h4⟩ := s.obj id _ ho
  refine ⟨b, c, ty, h1, h2, h3, fun j hj => ?_⟩
  obtain ⟨u, hu, _⟩ := h4 j hj
  refine ⟨u, hu, ?_⟩
  have : j = 0 := by simpa using hj
  subst this
  exact .any _ _
end
theorem tri_postE {C : Cx} {c : Code} {σ : St} {Q : Exit → St → Prop} (h : Tri C c σ (fun e σ => ∃ σ', Weak C σ σ' ∧ Q e σ')) : Tri C c σ Q := fun γ a w s => by
  refine wp_mono (h γ a w s) ?_
  rintro e a w ⟨γ, σ, ⟨σ', hw, hq⟩, r⟩
  obtain ⟨γ', r'⟩ := hw γ a w r
  exact ⟨γ', σ', hq, r'⟩
theorem bndF_le {l : Fs} (hl : Small l) {b : B} (h : bndF l = some (some b)) : b.length ≤ 1000000 := by
  unfold bndF at h
  split at h
  · cases h
  · rename_i v hv
    split at h
    · cases h
    · rename_i m ps hk
      split at h
      · cases h
      · split at h
        · cases h
        · rename_i b' hb
          split at h
          · cases h
            obtain ⟨f, hfm, _, rfl⟩ := getF_mem hv
            have := kL_small f.2 (hl.one f hfm).2
            rw [hk] at this
            exact bndVal_le this hb
          · cases h
def prCell : Res (PT × Nat) → AV
  | .ok (_, n) => .int .i64 (n : Int)
  | .err _ => .any
def prAV (p0 : PT) : Res (PT × Nat) → AV
  | .ok (p, _) => .tup [.agg (ptCells true p), .nili]
  | .err e => .tup [.agg (ptCells true p0), .iface 28 (.int .i64 (e : Int))]
def pt0 : PT := .mk [] [] false []
theorem up_zero (e : Nat) : Up (.tup [.agg [.nils, .str [], .bool false, .nils], .iface 28 (.int .i64 (e : Int))]) (prAV pt0 (.err e)) :=
  Up.tup (.cons (Up.agg (.cons (Up.nil true 2) (.cons (.refl _) (.cons (.refl _) (.cons (Up.nilp true) .nil))))) (.cons (.refl _) .nil))
theorem up_leaf (l : Fs) (x : B) (v : AV) : Up (.tup [.agg [.ro true 2 (fieldRows l), .str x, .bool false, .nils], v]) (.tup [.agg (ptCells true (.mk l x false [])), v]) :=
  Up.tup (.cons (Up.agg (.cons (.refl _) (.cons (.refl _) (.cons (.refl _) (.cons (Up.nilp true) .nil))))) (.cons (.refl _) .nil))
theorem readKids_le {f : Nat → B → Res (PT × Nat)} (hf : ∀ left s p n, f left s = .ok (p, n) → n ≤ left) : ∀ (xs : List B) (left : Nat) (ps : List PT) (n : Nat), readKids f left xs = .ok (ps, n) → n ≤ left
  | [], left, ps, n, h => by rw [readKids] at h; cases h; exact Nat.le_refl _
  | x :: xs, left, ps, n, h => by
    rw [readKids] at h
    split at h
    · cases h
    · rename_i p k hp
      split at h
      · cases h
      · rename_i qs n' hq
        cases h
        exact Nat.le_trans (readKids_le hf xs k qs _ hq) (hf left x p k hp)
theorem readPt_le : ∀ (d left : Nat) (s : B) (p : PT) (n : Nat), readPt d left s = .ok (p, n) → n ≤ left
  | 0, left, s, p, n, h => by rw [readPt] at h; cases h
  | d + 1, 0, s, p, n, h => by rw [readPt] at h; cases h
  | d + 1, left + 1, s, p, n, h => by
    rw [readPt] at h
    split at h
    · cases h
    · split at h
      · cases h
      · split at h
        · cases h
        · split at h
          · cases h
          · cases h; exact Nat.le_succ _
        · split at h
          · cases h
          · rename_i xs hxs
            split at h
            · cases h
            · rename_i ps k hk
              cases h
              exact Nat.le_succ_of_le (readKids_le (readPt_le d) xs left _ _ hk)
def kcat (ps : List PT) : Res (List PT × Nat) → Res (List PT × Nat)
  | .ok (qs, n) => .ok (ps ++ qs, n)
  | .err e => .err e
theorem kcat_step {f : Nat → B → Res (PT × Nat)} {ps : List PT} {lf n : Nat} {x : B} {xs : List B} {q : PT} (h : f lf x = .ok (q, n)) : kcat ps (readKids f lf (x :: xs)) = kcat (ps ++ [q]) (readKids f n xs) := by
  rw [readKids, h]
  simp only
  cases readKids f n xs with
  | ok r => obtain ⟨qs, m⟩ := r; simp [kcat]
  | err e => rfl
theorem kcat_err {f : Nat → B → Res (PT × Nat)} {ps : List PT} {lf e : Nat} {x : B} {xs : List B} (h : f lf x = .err e) : kcat ps (readKids f lf (x :: xs)) = .err e := by
  rw [readKids, h]; rfl
theorem cutF_len {b s : B} {xs : List B} (h : cutF b s = some xs) : xs.length ≤ s.length + 2 ∧ ∀ x ∈ xs, x.length ≤ s.length := by
  have key : ∀ (ls : List B) (op : Bool) (acc out xs : List B), cutGo b op acc out ls = some xs → xs.length ≤ out.length + ls.length := by
    intro ls
    induction ls with
    | nil => intro op acc out xs h; rw [cutGo] at h; cases h
    | cons y r ih =>
      intro op acc out xs h
      rw [cutGo] at h
      simp only [List.length_cons]
      split at h
      · have := ih op _ out xs h; omega
      · split at h
        · cases h; simp
        · cases h; omega
        · have := ih true [] _ xs h
          simp only [List.length_append, List.length_cons, List.length_nil] at this; omega
        · have := ih true [] out xs h; omega
  have hsl : ∀ s : B, ((splitC s).map fun y => y.length + 2).sum = s.length + 2 ∧ (splitC s).length ≤ s.length + 1 := by
    intro s
    fun_induction splitC s with
    | case1 => exact ⟨rfl, Nat.le_refl _⟩
    | case2 c => exact ⟨rfl, by simp⟩
    | case3 c d r h ih =>
      simp only [List.map_cons, List.sum_cons, List.length_cons, List.length_nil]
      omega
    | case4 c d r h ih =>
      have hne := splitC_ne (d :: r)
      cases hs : splitC (d :: r) with
      | nil => exact absurd hs hne
      | cons y l =>
        rw [hs] at ih
        simp only [List.modifyHead_cons, List.map_cons, List.sum_cons, List.length_cons] at ih ⊢
        omega
  have hin : ∀ (ls : List B) (op : Bool) (acc out xs : List B), cutGo b op acc out ls = some xs → ∀ x ∈ xs, x ∈ out ∨ (x.length + 2 ≤ ((acc ++ ls).map fun y => y.length + 2).sum) := by
    have hj : ∀ l : List B, (joinC l).length ≤ (l.map fun y => y.length + 2).sum := by
      intro l
      induction l with
      | nil => exact Nat.zero_le _
      | cons x r ih =>
        cases r with
        | nil => simp [joinC]
        | cons y r =>
          rw [joinC_cons x (by simp), List.map_cons, List.sum_cons]
          simp only [List.length_append, List.length_cons]; omega
    intro ls
    induction ls with
    | nil => intro op acc out xs h; rw [cutGo] at h; cases h
    | cons y r ih =>
      intro op acc out xs h
      have hja := hj acc
      rw [cutGo] at h
      simp only [List.map_append, List.sum_append, List.map_cons, List.sum_cons]
      split at h
      · intro x hx
        refine (ih op _ out xs h x hx).imp id (fun h => ?_)
        simp only [List.map_append, List.sum_append, List.map_cons, List.map_nil, List.sum_cons, List.sum_nil] at h
        omega
      · split at h
        · cases h
          intro x hx
          rcases List.mem_append.1 hx with hx | hx
          · exact .inl hx
          · rw [List.mem_singleton.1 hx]; exact .inr (by omega)
        · cases h
          exact fun x hx => .inl hx
        · intro x hx
          rcases ih true [] _ xs h x hx with h3 | h3
          · rcases List.mem_append.1 h3 with h3 | h3
            · exact .inl h3
            · rw [List.mem_singleton.1 h3]; exact .inr (by omega)
          · simp only [List.nil_append] at h3
            exact .inr (by omega)
        · intro x hx
          rcases ih true [] out xs h x hx with h3 | h3
          · exact .inl h3
          · simp only [List.nil_append] at h3
            exact .inr (by omega)
  obtain ⟨g1, g2⟩ := hsl s
  refine ⟨?_, fun x hx => ?_⟩
  · have := key _ _ _ _ _ h
    simp only [List.length_nil] at this
    omega
  · rcases hin _ _ _ _ _ h x hx with h3 | h3
    · cases h3
    · rw [List.nil_append, g1] at h3; omega
end Go.Proofs.YtignjjnflcpiiaaGreatDoor
