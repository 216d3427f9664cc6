import Derived.Test.YtignjjnflcpiiaaGreatDoorKKindE
import Derived.Test.YtignjjnflcpiiaaGreatDoorKPartR
import Derived.Test.YtignjjnflcpiiaaGreatDoorKVm5
set_option linter.unusedVariables false
set_option linter.unusedSimpArgs false
set_option maxHeartbeats 1000000
namespace Go.Proofs.YtignjjnflcpiiaaGreatDoor
open Go.RowKit
attribute [local irreducible] Tri Steps Qd Wr Weak CPure CEff CutN
set_option maxRecDepth 100000
structure PS where
  n : B
  v : B
  ok : Bool
  rest : B
def saF (ok : Bool) (u : B) : B × Bool × B := match hd u 34 with
  | true => ((quoF [] (u.drop 1)).2.1, ok && (quoF [] (u.drop 1)).1, (quoF [] (u.drop 1)).2.2)
  | false => (u.takeWhile tokC, ok && !(u.takeWhile tokC).isEmpty, u.dropWhile tokC)
def eqF (r : B) : B := ((r.dropWhile blk).dropWhile tokC).dropWhile blk
def nmF (r : B) : B := (r.dropWhile blk).takeWhile tokC
def okN (r : B) : Bool := hd (eqF r) 61 && (true && !(nmF r).isEmpty)
def vlF (r : B) : B := (aft (eqF r) 61).dropWhile blk
def psF (r : B) : PS :=
  ⟨nmF r, (saF (okN r) (vlF r)).1, (saF (okN r) (vlF r)).2.1 && ends ((saF (okN r) (vlF r)).2.2.dropWhile blk), (saF (okN r) (vlF r)).2.2.dropWhile blk⟩
theorem saF_ok {ok : Bool} {u : B} (h : ok = true) : saidR tokC u = match (saF ok u).2.1 with
    | true => some ((saF ok u).1, (saF ok u).2.2)
    | false => none := by
  subst h
  unfold saF
  cases u with
  | nil => rfl
  | cons c r =>
    by_cases hc : c = 34
    · subst hc
      show quo [] r = _
      rw [quoF_eq _ r (Nat.le_refl _)]
      rw [show hd (34 :: r) 34 = true from rfl, show (34 :: r).drop 1 = r from rfl]
      cases h : (quoF [] r).1 <;> simp [h]
    · rw [show hd (c :: r) 34 = false by show (c == 34) = false; simpa using hc]
      unfold saidR
      split
      · rename_i h; simp only [List.cons.injEq] at h; exact absurd h.1 hc
      · cases ht : ((c :: r).takeWhile tokC).isEmpty <;> simp [ht]
theorem saF_no {ok : Bool} {u : B} (h : ok = false) : (saF ok u).2.1 = false := by
  subst h; unfold saF; cases hd u 34 <;> rfl
theorem hd_cons {s : B} {c : UInt8} (h : hd s c = true) : s = c :: s.drop 1 := by
  cases s with
  | nil => cases h
  | cons x r =>
    have : x = c := by simpa [hd] using h
    rw [this]; rfl
theorem nameR_ok {r : B} (h : okN r = true) : nameR tokC blk (r.dropWhile blk) = some (nmF r, aft (eqF r) 61) := by
  unfold okN at h
  simp only [Bool.and_eq_true, Bool.true_and] at h
  obtain ⟨h1, h2⟩ := h
  have h3 := hd_cons h1
  have ha : aft (eqF r) 61 = (eqF r).drop 1 := by unfold aft; rw [h1]
  unfold nameR
  show (match eqF r with | 61 :: r' => _ | _ => _) = _
  rw [ha, h3]
  simp only [List.drop_succ_cons, List.drop_zero]
  have h4 : (nmF r).isEmpty = false := by simpa using h2
  have h5 : ((r.dropWhile blk).takeWhile tokC).isEmpty = false := h4
  rw [h5]
  rfl
theorem nameR_no {r : B} (h : okN r = false) : nameR tokC blk (r.dropWhile blk) = none := by
  unfold nameR
  show (match eqF r with | 61 :: r' => _ | _ => _) = _
  split
  · rename_i r' he
    have h1 : hd (eqF r) 61 = true := by rw [he]; rfl
    unfold okN at h
    rw [h1] at h
    have h5 : ((r.dropWhile blk).takeWhile tokC).isEmpty = true := by
      have : (!(nmF r).isEmpty) = false := by simpa using h
      simpa [nmF] using this
    rw [if_pos h5]
  · rfl
theorem psF_eq (r : B) : parR tokC blk r = match (psF r).ok with
    | true => some (((psF r).n, (psF r).v), (psF r).rest)
    | false => none := by
  unfold parR psF
  cases ho : okN r with
  | false =>
    rw [nameR_no ho]
    simp only
    rw [saF_no rfl]
    rfl
  | true =>
    rw [nameR_ok ho]
    simp only
    rw [show (aft (eqF r) 61).dropWhile blk = vlF r from rfl, saF_ok (ok := true) rfl]
    cases h1 : (saF true (vlF r)).2.1 with
    | false => rfl
    | true =>
      simp only [thenEnd, Bool.true_and]
      cases h2 : ends ((saF true (vlF r)).2.2.dropWhile blk) with
      | false => rfl
      | true => rfl
structure RInv (s : B) (x : Fs × B × Bool) : Prop where
  go : (match x.2.2 with | true => parsGo tokC blk lowC x.1 x.2.1 | false => none) = parsGo tokC blk lowC [] (restOf s)
  num : x.1.length + x.2.1.length ≤ s.length
  hd : x.2.2 = true → ends x.2.1 = true
theorem saF_len (ok : Bool) (u : B) : (saF ok u).2.2.length ≤ u.length ∧ (saF ok u).1.length ≤ u.length := by
  unfold saF
  split
  · have := quoF_len _ (u.drop 1) (Nat.le_refl _) []
    simp only [List.length_nil, List.length_drop] at this
    exact ⟨by simp only; omega, by simp only; omega⟩
  · exact ⟨dw_le _ _, (List.takeWhile_sublist _).length_le⟩
theorem aft_len (x : B) (c : UInt8) : (aft x c).length ≤ x.length := by
  unfold aft; split
  · rw [List.length_drop]; omega
  · exact Nat.le_refl _
theorem vlF_len (r : B) : (eqF r).length ≤ r.length ∧ (vlF r).length ≤ r.length ∧ (nmF r).length ≤ r.length := by
  have h1 := dw_le blk r
  have h2 := dw_le tokC (r.dropWhile blk)
  have h3 := dw_le blk ((r.dropWhile blk).dropWhile tokC)
  have h4 := aft_len (eqF r) 61
  have h5 := dw_le blk (aft (eqF r) 61)
  have h6 : (nmF r).length ≤ (r.dropWhile blk).length := (List.takeWhile_sublist _).length_le
  have e : (eqF r).length = (((r.dropWhile blk).dropWhile tokC).dropWhile blk).length := rfl
  have e2 : (vlF r).length = ((aft (eqF r) 61).dropWhile blk).length := rfl
  omega
theorem RInv.next {s : B} {out : Fs} {r : B} (h : RInv s (out, 59 :: r, true)) : RInv s (out ++ [((psF r).n.map lowC, (psF r).v)], (psF r).rest, (psF r).ok) := by
  obtain ⟨h1, h2, h3⟩ := h
  have hv := vlF_len r
  have hsl := saF_len (okN r) (vlF r)
  have hd := dw_le blk (saF (okN r) (vlF r)).2.2
  have hr : (psF r).rest.length ≤ r.length := by
    show (((saF (okN r) (vlF r)).2.2).dropWhile blk).length ≤ r.length
    omega
  refine ⟨?_, ?_, fun h => ?_⟩
  · rw [← h1]
    simp only
    have he := psF_eq r
    cases ho : (psF r).ok with
    | true =>
      rw [ho] at he
      exact (parsGo_some tokC blk lowC he).symm
    | false =>
      rw [ho] at he
      exact (parsGo_none tokC blk lowC he).symm
  · simp only [List.length_append, List.length_cons, List.length_nil] at h2 ⊢
    omega
  · have h : ((saF (okN r) (vlF r)).2.1 && ends ((saF (okN r) (vlF r)).2.2.dropWhile blk)) = true := h
    simp only [Bool.and_eq_true] at h
    exact h.2
end Go.Proofs.YtignjjnflcpiiaaGreatDoor
namespace Go.Proofs.YtignjjnflcpiiaaGreatDoor
open Go.RowKit
attribute [local irreducible] Tri Steps Qd Wr Weak CPure CEff
set_option maxRecDepth 100000
theorem parsGo_fits {K : Nat} : ∀ (m : Nat) (s : B), s.length ≤ m → ∀ (out l : Fs), out.length + s.length ≤ K → (∀ f ∈ out, f.1.length ≤ K ∧ f.2.length ≤ K) → parsGo tokC blk lowC out s = some l → l.length ≤ K ∧ ∀ f ∈ l, f.1.length ≤ K ∧ f.2.length ≤ K
  | m, [], _, out, l, h1, h2, h => by
    rw [parsGo_nil] at h
    cases h
    exact ⟨by simpa using h1, h2⟩
  | 0, c :: r, hm, _, _, _, _, _ => absurd hm (by simp)
  | m + 1, c :: r, hm, out, l, h1, h2, h => by
    cases hp : parR tokC blk r with
    | none => rw [parsGo_none tokC blk lowC hp] at h; cases h
    | some q =>
      obtain ⟨⟨n, v⟩, r'⟩ := q
      rw [parsGo_some tokC blk lowC hp] at h
      obtain ⟨a1, a2, a3, _⟩ := parR_len hp
      simp only [List.length_cons] at hm h1
      refine parsGo_fits m r' (by omega) _ l (by simp only [List.length_append, List.length_cons, List.length_nil]; omega) (fun f hf => ?_) h
      rcases List.mem_append.1 hf with hf | hf
      · exact h2 f hf
      · rw [List.mem_singleton.1 hf]
        exact ⟨by simp only [List.length_map]; omega, by simp only; omega⟩
theorem readK_small {s m : B} {l : Fs} (h : readK tokC blk lowC s = some (m, l)) (hs : s.length ≤ 1000000) : Small l ∧ m.length ≤ s.length := by
  unfold readK at h
  split at h
  · split at h
    · cases h
    · rename_i l' hl
      cases h
      have hr := restOf_len s
      obtain ⟨h1, h2⟩ := parsGo_fits (K := s.length) _ _ (Nat.le_refl _) [] l (by simpa using hr) (fun f hf => by cases hf) hl
      refine ⟨⟨by omega, fun f hf => ⟨Nat.le_trans (h2 f hf).1 hs, Nat.le_trans (h2 f hf).2 hs⟩⟩, ?_⟩
      unfold mainOf
      rw [List.length_map]
      exact Nat.le_trans (trimB_len _) (List.takeWhile_sublist _).length_le
  · cases h
def kL : Option (B × Fs) → Fs
  | some (_, l) => l
  | none => []
def kM : Option (B × Fs) → B
  | some (m, _) => m
  | none => []
def kE : Option (B × Fs) → Int
  | some _ => 0
  | none => 3
def kErr : Option (B × Fs) → AV
  | some _ => .nili
  | none => .iface 28 (.int .i64 3)
theorem kread_c' (s : B) (hs : s.length ≤ 1000000) : CPure gx 26 [.str s] (.tup [.str (kM (readK tokC blk lowC s)), .ro true 2 (fieldRows (kL (readK tokC blk lowC s))), kErr (readK tokC blk lowC s)]) := by
  refine (kread_c s hs).up ?_
  cases readK tokC blk lowC s with
  | some p => exact .refl _
  | none => exact .tup (.cons (.refl _) (.cons (.nil true 2) (.cons (.refl _) .nil)))
theorem kL_small (s : B) (hs : s.length ≤ 1000000) : Small (kL (readK tokC blk lowC s)) := by
  cases h : readK tokC blk lowC s with
  | none => exact ⟨by simp [kL], fun f hf => by cases hf⟩
  | some p => exact (readK_small (m := p.1) (l := p.2) h hs).1
end Go.Proofs.YtignjjnflcpiiaaGreatDoor
namespace Go.Proofs.YtignjjnflcpiiaaGreatDoor
open Go.RowKit
attribute [local irreducible] Tri Steps Qd Wr Weak CPure CEff
set_option maxRecDepth 100000
theorem q_slice_lhP {C : Cx} {σ : St} {ty : TypeId} {pos : String} {af : Array Edge} {g : Option (Nat × Bool)} {x y z : Operand} {t : TypeId} {d : Option Nat} {k k' : IntKind} {m n : Int} {u : List UInt8} {m' n' : Nat} {l : List UInt8} (hx : σ.ev x = .str u) (hy : σ.ev y = .int k m) (hz : σ.ev z = .int k' n) (hm : m = (m' : Int)) (hn : n = (n' : Int)) (ht : C.P.underlying t = some .string) (h1 : m' ≤ n') (h2 : n' ≤ u.length) (hl : (u.take n').drop m' = l) :
    Qd C ⟨d, .slice t x (some y) (some z) none, ty, pos, af, g⟩ σ (.str l) := by
  subst hm hn
  have := q_slice_lh (d := d) (ty := ty) (pos := pos) (af := af) (g := g) hx hy hz ht (by omega) (by omega) (by rw [Int.toNat_natCast]; exact h2)
  rw [Int.toNat_natCast, Int.toNat_natCast, hl] at this
  exact this
def OursVar (w : World) : Prop := w.cell? ⟨1, 0, none⟩ = some (.string ⟨ctN.toArray⟩) ∧ w.cell? ⟨1, 1, none⟩ = some (.string ⟨ceN.toArray⟩)
noncomputable def gxo : Gx := { gx with G := fun w => (GOk w ∧ ErrVar w) ∧ OursVar w, hG := fun w w' h hw => ⟨gxe.hG w w' h.1 hw, cell_low h.2.1 (by decide) hw, cell_low h.2.2 (by decide) hw⟩ }
theorem CPure.o {f : FuncId} {az : List AV} {res : AV} (h : CPure gx f az res) : CPure gxo f az res := h.sub fun _ h => h.1.1
theorem CPure.eo {f : FuncId} {az : List AV} {res : AV} (h : CPure gxe f az res) : CPure gxo f az res := CPure.sub (X := gxe) h fun _ h => h.1
theorem CEff.o {f : FuncId} {o : AObj} {az : List AV} {o' : Option AObj} {res : AV} (h : CEff gx f o az o' res) : CEff gxo f o az o' res := h.sub fun _ h => h.1.1
theorem ours0 : ∀ w, gxo.G w → w.cell? ⟨1, 0, none⟩ = some (.string ⟨ctN.toArray⟩) := fun w h => h.2.1
theorem ours1 : ∀ w, gxo.G w → w.cell? ⟨1, 1, none⟩ = some (.string ⟨ceN.toArray⟩) := fun w h => h.2.2
theorem tell_no_c (e : Int) : CPure gxe 16 [.iface 28 (.int .i64 e)] (.int .i64 e) := by
  unfold CPure
  intro w vs hG hn hl hr
  obtain ⟨v0, rfl⟩ : ∃ a, vs = [a] := by
    match vs, hl with
    | [a], _ => exact ⟨a, rfl⟩
  obtain ⟨y, h0, h9⟩ := Rep.iface_inv (hr 0 (by simp) (by simp))
  have h9 := Rep.int_inv h9
  simp only [List.getElem_cons_zero] at h0
  subst h9
  subst h0
  exact (tell_any _ e (-1) w (.inr (.inl ⟨rfl, rfl⟩)) hG.2).mono fun x w' h => ⟨_, h.1, h.2, .int _ _ _⟩
theorem tell_at_c (fr : Bool) (e p : Int) : CPure gxe 16 [.iface 98 (.rptr fr [.int .i64 e, .int .i64 p])] (.int .i64 e) := by
  unfold CPure
  intro w vs hG hn hl hr
  obtain ⟨v0, rfl⟩ : ∃ a, vs = [a] := by
    match vs, hl with
    | [a], _ => exact ⟨a, rfl⟩
  obtain ⟨pb, po, h0, hc0, hc1⟩ := rep_err (hr 0 (by simp) (by simp))
  simp only [List.getElem_cons_zero] at h0
  subst h0
  exact (tell_any _ e p w (.inr (.inr ⟨pb, po, rfl, hc0, hc1⟩)) hG.2).mono fun x w' h => ⟨_, h.1, h.2, .int _ _ _⟩
theorem hpre_c (s p : B) : CPure gx 41 [.str s, .str p] (.bool (p.isPrefixOf s)) :=
  cpure_val rfl rfl fun w _ => (Tryz.strings_HasPrefix ⟨s.toArray⟩ ⟨p.toArray⟩ w).mono fun e w' h => ⟨h.1, h.2 ▸ ext_refl w⟩
theorem hsuf_c (s p : B) (hs : s.length ≤ 9223372036854775807) : CPure gx 21 [.str s, .str p] (.bool (p.isSuffixOf s)) :=
  cpure_val rfl rfl fun w _ => (Tryz.strings_HasSuffix ⟨s.toArray⟩ ⟨p.toArray⟩ w (by rw [sizeMk]; exact hs)).mono fun e w' h => ⟨h.1, h.2 ▸ ext_refl w⟩
theorem suf_one (init : B) (c d : UInt8) : ([d] : B).isSuffixOf (init ++ [c]) = (d == c) := by
  rw [Bool.eq_iff_iff, List.isSuffixOf_iff_suffix, beq_iff_eq]
  constructor
  · rintro ⟨t, ht⟩
    have := congrArg List.getLast? ht
    simpa using this
  · rintro rfl
    exact ⟨init, rfl⟩
theorem getAV_of (l : Fs) (s n : B) (h : lowB s = n) : getAV l s = match getF l n with
    | some v => .tup [.str v, .bool true]
    | none => .tup [.str [], .bool false] := by
  subst h
  unfold getAV getF
  cases l.find? (fun f => decide (lowB f.1 = lowB s)) <;> rfl
theorem getP_of (l : Fs) : getP l bndN = match bndVal l with
    | some v => .tup [.str v, .bool true]
    | none => .tup [.str [], .bool false] := by
  unfold getP bndVal
  cases l.find? (fun f => decide (f.1 = bndN)) <;> rfl
theorem bndVal_le {l : Fs} (hl : Small l) {b : B} (h : bndVal l = some b) : b.length ≤ 1000000 := by
  unfold bndVal at h
  cases hf : l.find? (fun p => decide (p.1 = bndN)) with
  | none => rw [hf] at h; cases h
  | some f =>
    rw [hf] at h
    cases h
    exact (hl.one f (List.mem_of_find?_eq_some hf)).2
def bdAV : Option (Option B) → AV
  | none => .tup [.str [], .bool false, .iface 28 (.int .i64 3)]
  | some none => .tup [.str [], .bool false, .nili]
  | some (some b) => .tup [.str b, .bool true, .nili]
theorem bndGood_at (init : B) (c : UInt8) : bndGood (init ++ [c]) = (decide (init.length + 1 ≤ 70) && !(c == 32)) := by
  unfold bndGood
  have h1 : 1 ≤ (init ++ [c]).length := by simp
  have h2 : (init ++ [c]).getLast? = some c := by simp
  rw [h2]
  simp [h1]
theorem bnd_split {b : B} (h : ¬ b = []) : ∃ init c, b = init ++ [c] := ⟨b.dropLast, b.getLast h, (List.dropLast_concat_getLast h).symm⟩
set_option maxHeartbeats 8000000 in
theorem boundary_c (l : Fs) (hl : Small l) : CPure gxo 75 [.ro false 2 (fieldRows l)] (bdAV (bndF l)) := by
  refine cpure_of Tryz.func75 rfl (Nat.le_of_ble_eq_true rfl) rfl (fun w hw => ?_)
  have G1 := (get_c l ctN hl (by decide)).o
  rw [getAV_of l ctN ctB (by decide)] at G1
  unfold bndF
  cases hv : getF l ctB with
  | none =>
    rw [hv] at G1
    repeat' (first | refine a_f ?_ | refine st_nil ?_ | refine tri_seq ?_ | refine tri_region rfl ?_ | refine a_draw ?_ | (apply st_r rfl; case hq => first | exact q_idxg (sz := 1) (by conv => lhs; whnf) (by conv => lhs; whnf) Tryz.underlying109 (by kernel_rfl) (by omega) (by omega) | exact q_loadg (by rfl) ours0 (fun _ _ _ _ => .str _ _) (by show scalB Tryz.prog _ = true; decide +kernel) | exact q_call G1 (hcf := Tryz.call133) rfl rfl | exact a_q) | (apply st_rif rfl; (case hq => first | exact a_i); all_goals (intro _; try (exfalso; first | omega | contradiction))) | (apply st_rw rfl rfl; case hq => first | exact a_store) | refine tri_true rfl ?_ | refine tri_false rfl ?_ | refine tri_block ?_ | refine tri_skip ?_ | refine tri_ret ?_ | refine tri_exit ?_)
    refine And.intro trivial ?_
    conv => lhs; whnf
    rfl
  | some v =>
    rw [hv] at G1
    obtain ⟨f, hfm, _, rfl⟩ := getF_mem hv
    have hvl := (hl.one f hfm).2
    have K1 := (kread_c' f.2 hvl).o
    have hps := kL_small f.2 hvl
    cases hk : readK tokC blk lowC f.2 with
    | none =>
      rw [hk] at K1
      simp only [kM, kL, kErr] at K1
      simp only [hk]
      repeat' (first | refine a_f ?_ | refine st_nil ?_ | refine tri_seq ?_ | refine tri_region rfl ?_ | refine a_draw ?_ | (apply st_r rfl; case hq => first | exact q_idxg (sz := 1) (by conv => lhs; whnf) (by conv => lhs; whnf) Tryz.underlying109 (by kernel_rfl) (by omega) (by omega) | exact q_loadg (by rfl) ours0 (fun _ _ _ _ => .str _ _) (by show scalB Tryz.prog _ = true; decide +kernel) | exact q_call G1 (hcf := Tryz.call133) rfl rfl | exact q_call K1 (hcf := Tryz.call26) rfl rfl | exact q_neif (by conv => lhs; whnf) Tryz.underlying32 | exact a_q) | (apply st_rif rfl; (case hq => first | exact a_i); all_goals (intro _; try (exfalso; first | omega | contradiction))) | (apply st_rw rfl rfl; case hq => first | exact a_store) | refine tri_true rfl ?_ | refine tri_false rfl ?_ | refine tri_block ?_ | refine tri_skip ?_ | refine tri_ret ?_ | refine tri_exit ?_)
      refine And.intro trivial ?_
      conv => lhs; whnf
      rfl
    | some q =>
      obtain ⟨m, ps⟩ := q
      rw [hk] at K1 hps
      simp only [kM, kL, kErr] at K1 hps
      have H1 := (hpre_c m mulB).o
      have P1 := (pget_c ps bndN hps).o
      rw [getP_of] at P1
      simp only [hk]
      cases hm : mulB.isPrefixOf m with
      | false =>
        rw [hm] at H1
        repeat' (first | refine a_f ?_ | refine st_nil ?_ | refine tri_seq ?_ | refine tri_region rfl ?_ | refine a_draw ?_ | (apply st_r rfl; case hq => first | exact q_idxg (sz := 1) (by conv => lhs; whnf) (by conv => lhs; whnf) Tryz.underlying109 (by kernel_rfl) (by omega) (by omega) | exact q_loadg (by rfl) ours0 (fun _ _ _ _ => .str _ _) (by show scalB Tryz.prog _ = true; decide +kernel) | exact q_call G1 (hcf := Tryz.call133) rfl rfl | exact q_call K1 (hcf := Tryz.call26) rfl rfl | exact q_call H1 (hcf := Tryz.call41) rfl rfl | exact q_nenil (by conv => lhs; whnf) Tryz.underlying32 | exact a_q) | (apply st_rif rfl; (case hq => first | exact a_i); all_goals (intro _; try (exfalso; first | omega | contradiction))) | (apply st_rw rfl rfl; case hq => first | exact a_store) | refine tri_true rfl ?_ | refine tri_false rfl ?_ | refine tri_block ?_ | refine tri_skip ?_ | refine tri_ret ?_ | refine tri_exit ?_)
        refine And.intro trivial ?_
        conv => lhs; whnf
        rfl
      | true =>
        rw [hm] at H1
        cases hb : bndVal ps with
        | none =>
          rw [hb] at P1
          repeat' (first | refine a_f ?_ | refine st_nil ?_ | refine tri_seq ?_ | refine tri_region rfl ?_ | refine a_draw ?_ | (apply st_r rfl; case hq => first | exact q_idxg (sz := 1) (by conv => lhs; whnf) (by conv => lhs; whnf) Tryz.underlying109 (by kernel_rfl) (by omega) (by omega) | exact q_loadg (by rfl) ours0 (fun _ _ _ _ => .str _ _) (by show scalB Tryz.prog _ = true; decide +kernel) | exact q_call G1 (hcf := Tryz.call133) rfl rfl | exact q_call K1 (hcf := Tryz.call26) rfl rfl | exact q_call H1 (hcf := Tryz.call41) rfl rfl | exact q_nenil (by conv => lhs; whnf) Tryz.underlying32 | exact q_call P1 (hcf := Tryz.call134) rfl rfl | exact a_q) | (apply st_rif rfl; (case hq => first | exact a_i); all_goals (intro _; try (exfalso; first | omega | contradiction))) | (apply st_rw rfl rfl; case hq => first | exact a_store) | refine tri_true rfl ?_ | refine tri_false rfl ?_ | refine tri_block ?_ | refine tri_skip ?_ | refine tri_ret ?_ | refine tri_exit ?_)
          refine And.intro trivial ?_
          conv => lhs; whnf
          rfl
        | some b =>
          rw [hb] at P1
          have hbl := bndVal_le hps hb
          simp only
          by_cases h0 : b = []
          · subst h0
            rw [show bndGood [] = false from rfl]
            repeat' (first | refine a_f ?_ | refine st_nil ?_ | refine tri_seq ?_ | refine tri_region rfl ?_ | refine a_draw ?_ | (apply st_r rfl; case hq => first | exact q_idxg (sz := 1) (by conv => lhs; whnf) (by conv => lhs; whnf) Tryz.underlying109 (by kernel_rfl) (by omega) (by omega) | exact q_loadg (by rfl) ours0 (fun _ _ _ _ => .str _ _) (by show scalB Tryz.prog _ = true; decide +kernel) | exact q_call G1 (hcf := Tryz.call133) rfl rfl | exact q_call K1 (hcf := Tryz.call26) rfl rfl | exact q_call H1 (hcf := Tryz.call41) rfl rfl | exact q_nenil (by conv => lhs; whnf) Tryz.underlying32 | exact q_call P1 (hcf := Tryz.call134) rfl rfl | exact a_q) | (apply st_rif rfl; (case hq => first | exact a_i); all_goals (intro _; try (exfalso; first | omega | contradiction))) | (apply st_rw rfl rfl; case hq => first | exact a_store) | refine tri_true rfl ?_ | refine tri_false rfl ?_ | refine tri_block ?_ | refine tri_skip ?_ | refine tri_ret ?_ | refine tri_exit ?_)
            all_goals first
              | (refine And.intro trivial ?_
                 conv => lhs; whnf
                 rfl)
              | (exfalso; simp_all; done)
          · obtain ⟨init, c, hbe⟩ := bnd_split h0
            have hbg := bndGood_at init c
            have S1 := (hsuf_c b [32] (by omega)).o
            have hsuf := suf_one init c 32
            have hlen : b.length = init.length + 1 := by rw [hbe]; simp
            rw [← hbe] at hbg hsuf
            rw [hsuf] at S1
            rw [hbg]
            by_cases h70 : 70 < b.length
            · rw [show (decide (init.length + 1 ≤ 70) && !(c == 32)) = false by rw [decide_eq_false (by omega)]; rfl]
              clear hbg hsuf hbe
              repeat' (first | refine a_f ?_ | refine st_nil ?_ | refine tri_seq ?_ | refine tri_region rfl ?_ | refine a_draw ?_ | (apply st_r rfl; case hq => first | exact q_idxg (sz := 1) (by conv => lhs; whnf) (by conv => lhs; whnf) Tryz.underlying109 (by kernel_rfl) (by omega) (by omega) | exact q_loadg (by rfl) ours0 (fun _ _ _ _ => .str _ _) (by show scalB Tryz.prog _ = true; decide +kernel) | exact q_call G1 (hcf := Tryz.call133) rfl rfl | exact q_call K1 (hcf := Tryz.call26) rfl rfl | exact q_call H1 (hcf := Tryz.call41) rfl rfl | exact q_nenil (by conv => lhs; whnf) Tryz.underlying32 | exact q_call P1 (hcf := Tryz.call134) rfl rfl | exact a_q) | (apply st_rif rfl; (case hq => first | exact a_i); all_goals (intro _; try (exfalso; first | omega | contradiction))) | (apply st_rw rfl rfl; case hq => first | exact a_store) | refine tri_true rfl ?_ | refine tri_false rfl ?_ | refine tri_block ?_ | refine tri_skip ?_ | refine tri_ret ?_ | refine tri_exit ?_)
              refine And.intro trivial ?_
              conv => lhs; whnf
              rfl
            · have e1 : (decide (init.length + 1 ≤ 70) && !(c == 32)) = !((32 : UInt8) == c) := by
                rw [decide_eq_true (show init.length + 1 ≤ 70 by omega), Bool.true_and, Bool.beq_comm]
              rw [e1]
              clear e1 hbg hsuf hbe
              generalize ((32 : UInt8) == c) = q at S1 ⊢
              cases q
              all_goals
                repeat' (first | refine a_f ?_ | refine st_nil ?_ | refine tri_seq ?_ | refine tri_region rfl ?_ | refine a_draw ?_ | (apply st_r rfl; case hq => first | exact q_idxg (sz := 1) (by conv => lhs; whnf) (by conv => lhs; whnf) Tryz.underlying109 (by kernel_rfl) (by omega) (by omega) | exact q_loadg (by rfl) ours0 (fun _ _ _ _ => .str _ _) (by show scalB Tryz.prog _ = true; decide +kernel) | exact q_call G1 (hcf := Tryz.call133) rfl rfl | exact q_call K1 (hcf := Tryz.call26) rfl rfl | exact q_call H1 (hcf := Tryz.call41) rfl rfl | exact q_nenil (by conv => lhs; whnf) Tryz.underlying32 | exact q_call P1 (hcf := Tryz.call134) rfl rfl | exact q_call S1 (hcf := Tryz.call21) rfl rfl | exact a_q) | (apply st_rif rfl; (case hq => first | exact a_i); all_goals (intro _; try (exfalso; first | omega | contradiction))) | (apply st_rw rfl rfl; case hq => first | exact a_store) | refine tri_true rfl ?_ | refine tri_false rfl ?_ | refine tri_block ?_ | refine tri_skip ?_ | refine tri_ret ?_ | refine tri_exit ?_)
                refine And.intro trivial ?_
                conv => lhs; whnf
                rfl
end Go.Proofs.YtignjjnflcpiiaaGreatDoor
