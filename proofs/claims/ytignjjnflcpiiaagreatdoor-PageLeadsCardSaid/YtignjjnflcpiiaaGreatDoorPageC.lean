/- A page's scanner: what it skips, a value. -/
import Derived.Test.YtignjjnflcpiiaaGreatDoorPageB
import Derived.Test.YtignjjnflcpiiaaGreatDoorPageT
set_option linter.unusedVariables false
set_option linter.unusedSimpArgs false
set_option maxHeartbeats 1000000
namespace Go.Proofs.YtignjjnflcpiiaaGreatDoor
open Go.RowKit
set_option maxRecDepth 100000

def LkT : TypeId := 47
def lkRows (l : List Lk) : List (List AV) := l.map fun x => [.int .i64 x.1, .int .i64 x.2.1, .str x.2.2]
/-- the scanner: the page, where it is, what it has found -/
def scO (s : B) (p : Int) (l : List Lk) : AObj := .nest [.str s, .int .i64 p, .any] 2 LkT 3 (lkRows l)
def scH (s : B) (p : Int) (l : List Lk) : List (Nat × AObj) := [(0, .box [.str s, .int .i64 p, .sl 101]), (101, .rows LkT 3 (lkRows l))]
theorem sc_open {C : Cx} {s : B} {p : Int} {l : List Lk} {c : Code} {σ : St} {Q : Exit → St → Prop} (ho : σ.heap 0 = some (scO s p l)) (hpin : C.pin 101 = none) (h : Tri C c (((σ.kill 101).set 101 (some (.rows LkT 3 (lkRows l)))).set 0 (some (.box [.str s, .int .i64 p, .sl 101]))) Q) : Tri C c σ Q :=
  Tri.weak (weak_unnest 0 101 (k := 2) (cells := [.str s, .int .i64 p, .any]) ho (by decide) hpin) h
theorem sc_end {C : Cx} {Q : Exit → St → Prop} {e : Exit} {σ : St} {s : B} {p : Int} {l : List Lk} {es : List (Nat × AV)} (hw : Weak C σ (st es (scH s p l)))
    (hq : Q e (((st es (scH s p l)).kill 101).set 0 (some (scO s p l)))) : ∃ σ', Weak C σ σ' ∧ Q e σ' :=
  ⟨_, hw.trans (weak_nest 0 101 2 (cells := [.str s, .int .i64 p, .sl 101]) (rows := lkRows l) rfl rfl rfl (by decide) rfl), hq⟩
/-- where one is -/
def posF (s r : B) : Int := (s.length : Int) - r.length
theorem suf_drop {r s : B} (h : r <:+ s) : s.drop (s.length - r.length) = r := by
  obtain ⟨t, rfl⟩ := h
  simp
theorem suf_le {r s : B} (h : r <:+ s) : r.length ≤ s.length := h.length_le
theorem dw_some {p : UInt8 → Bool} {s : B} {d : UInt8} {u : B} (h : s.dropWhile p = d :: u) : s = s.takeWhile p ++ d :: u := by
  have := List.takeWhile_append_dropWhile (p := p) (l := s)
  rw [h] at this; exact this.symm
theorem suf_dw (p : UInt8 → Bool) (s : B) : s.dropWhile p <:+ s := ⟨s.takeWhile p, List.takeWhile_append_dropWhile⟩
theorem ib_span (c : UInt8) : ∀ s : B, (s.dropWhile (· != c) = [] → Lib.indexByte s c = -1) ∧ (s.dropWhile (· != c) ≠ [] → Lib.indexByte s c = ((s.takeWhile (· != c)).length : Int))
  | [] => ⟨fun _ => rfl, fun h => absurd rfl h⟩
  | b :: l => by
    have ih := ib_span c l
    by_cases hb : b = c
    · subst hb
      have e : Lib.indexByte (b :: l) b = 0 := by simp [Lib.indexByte]
      rw [List.dropWhile_cons_of_neg (by simp), List.takeWhile_cons_of_neg (by simp), e]
      exact ⟨fun h => by simp at h, fun _ => rfl⟩
    · have e : Lib.indexByte (b :: l) c = if Lib.indexByte l c == -1 then -1 else Lib.indexByte l c + 1 := by rw [Lib.indexByte]; simp [hb]
      rw [List.dropWhile_cons_of_pos (by simpa using hb), List.takeWhile_cons_of_pos (by simpa using hb), e]
      refine ⟨fun h => by rw [ih.1 h]; rfl, fun h => ?_⟩
      have h1 := ih.2 h
      rw [h1, if_neg (by simp), List.length_cons]; simp
theorem ia_span (cs : B) (p : UInt8 → Bool) (hp : ∀ c, cs.contains c = p c) : ∀ s : B, (s.dropWhile (fun c => !p c) = [] → Lib.indexAny s cs = -1) ∧ (s.dropWhile (fun c => !p c) ≠ [] → Lib.indexAny s cs = ((s.takeWhile (fun c => !p c)).length : Int))
  | [] => ⟨fun _ => rfl, fun h => absurd rfl h⟩
  | b :: l => by
    have ih := ia_span cs p hp l
    cases hb : p b with
    | true =>
      have e : Lib.indexAny (b :: l) cs = 0 := by rw [Lib.indexAny, hp, hb]; rfl
      rw [List.dropWhile_cons_of_neg (by rw [hb]; decide), List.takeWhile_cons_of_neg (by rw [hb]; decide), e]
      exact ⟨fun h => by simp at h, fun _ => rfl⟩
    | false =>
      have e : Lib.indexAny (b :: l) cs = if Lib.indexAny l cs == -1 then -1 else Lib.indexAny l cs + 1 := by rw [Lib.indexAny, hp, hb]; rfl
      rw [List.dropWhile_cons_of_pos (by rw [hb]; rfl), List.takeWhile_cons_of_pos (by rw [hb]; rfl), e]
      refine ⟨fun h => by rw [ih.1 h]; rfl, fun h => ?_⟩
      have h1 := ih.2 h
      rw [h1, if_neg (by simp), List.length_cons]; simp
theorem lkRows_app (l : List Lk) (x : Lk) : lkRows (l ++ [x]) = lkRows l ++ [[.int .i64 x.1, .int .i64 x.2.1, .str x.2.2]] := by simp [lkRows]
/-- the ops that write: stores and appends -/
def wrAp (o : Oper) : Bool := match o.op with
  | .store _ _ _ => true
  | .call c => match c.callee with
    | .builtin .append => true
    | _ => false
  | _ => false
section
attribute [local irreducible] Tri Steps Qd Wr Weak CPure CEff CNew CutN AllB Behind
/-- goes on behind the next of a text -/
theorem skips_e (s r o : B) (L : List Lk) (hs : s.length ≤ 100000000) (hr : r <:+ s) (ho0 : 0 < o.length) (ho : o.length ≤ 1000) : CEff gxs 40 (scO s (posF s r) L) [.ptr 0 0, .str o] (some (scO s (posF s (skipW o r)) L)) (.tup []) := by
  refine ceff_of Tryz.func40 rfl (Nat.le_of_ble_eq_true rfl) (fun w γ hw hM => tri_post (sc_open rfl rfl ?_))
  have hle := suf_le hr
  have hd := suf_drop hr
  have I1 := (index_c r o (by omega)).s
  have hge := Lib.index_ge r o
  have hsp : 0 ≤ Lib.index r o → (Lib.index r o).toNat + o.length ≤ r.length := fun h => by
    have := index_spec h
    have hl := this.length_le
    rw [List.length_drop] at hl
    omega
  have hsk : skipW o r = if Lib.index r o < 0 then [] else r.drop ((Lib.index r o).toNat + o.length) := rfl
  have hposr : posF s r = (s.length : Int) - r.length := rfl
  have hposk : posF s (skipW o r) = (s.length : Int) - (skipW o r).length := rfl
  generalize posF s r = pp at hposr ⊢
  generalize posF s (skipW o r) = pk at hposk ⊢
  generalize Lib.index r o = k at I1 hge hsp hsk
  by_cases h0 : k < 0
  · rw [if_pos h0] at hsk
    rw [hsk] at hposk
    simp only [List.length_nil] at hposk
    repeat' (first | refine a_f ?_ | refine st_nil ?_ | refine tri_seq ?_ | refine tri_region rfl ?_ | refine a_draw ?_ | (apply st_r rfl; case hq => first | exact q_slice_loE (n' := s.length - r.length) (l := r) (by conv => lhs; whnf) (by conv => lhs; whnf) (by omega) (by kernel_rfl) (by omega) hd | exact q_call I1 (hcf := Tryz.call95) rfl rfl | exact a_lens | exact a_index | exact a_add | exact a_adds0 | exact a_addsc | exact a_adds | exact a_sub | exact a_slo | exact a_shi | exact a_slh | exact a_lensl | exact a_lenro | exact a_lennil | exact a_lenpts | exact a_field | exact a_fielde | exact a_fieldr | exact a_idxsl | exact a_load | exact a_loada | exact a_mki | exact a_build2 | exact a_build3 | exact a_build1 | exact a_build0 | exact a_bs1 | exact a_bs2 | exact a_bs3 | exact a_bs4 | exact a_bsa | exact a_boxr) | (apply st_rif rfl; (case hq => first | exact a_lss | exact a_gtr | exact a_eql | exact a_neq | exact a_eqls0 | exact a_neqs0 | exact a_eqls | exact a_neqs | exact a_leq | exact a_geq); all_goals (intro _; try (exfalso; first | omega | contradiction))) | (apply st_rw rfl rfl; case hq => first | exact a_store) | refine tri_true rfl ?_ | refine tri_false rfl ?_ | refine tri_block ?_ | refine tri_skip ?_ | refine tri_ret ?_ | refine tri_exit ?_)
    exact sc_end (es := []) (weak_st trivial ⟨congrArg (fun p => some (AObj.box [.str s, .int .i64 p, .sl 101])) (by omega), rfl, trivial⟩) ⟨trivial, rfl, rfl⟩
  · rw [if_neg h0] at hsk
    have := hsp (by omega)
    have hlk : (skipW o r).length = r.length - (k.toNat + o.length) := by rw [hsk, List.length_drop]
    rw [hlk] at hposk
    repeat' (first | refine a_f ?_ | refine st_nil ?_ | refine tri_seq ?_ | refine tri_region rfl ?_ | refine a_draw ?_ | (apply st_r rfl; case hq => first | exact q_slice_loE (n' := s.length - r.length) (l := r) (by conv => lhs; whnf) (by conv => lhs; whnf) (by omega) (by kernel_rfl) (by omega) hd | exact q_call I1 (hcf := Tryz.call95) rfl rfl | exact a_lens | exact a_index | exact a_add | exact a_adds0 | exact a_addsc | exact a_adds | exact a_sub | exact a_slo | exact a_shi | exact a_slh | exact a_lensl | exact a_lenro | exact a_lennil | exact a_lenpts | exact a_field | exact a_fielde | exact a_fieldr | exact a_idxsl | exact a_load | exact a_loada | exact a_mki | exact a_build2 | exact a_build3 | exact a_build1 | exact a_build0 | exact a_bs1 | exact a_bs2 | exact a_bs3 | exact a_bs4 | exact a_bsa | exact a_boxr) | (apply st_rif rfl; (case hq => first | exact a_lss | exact a_gtr | exact a_eql | exact a_neq | exact a_eqls0 | exact a_neqs0 | exact a_eqls | exact a_neqs | exact a_leq | exact a_geq); all_goals (intro _; try (exfalso; first | omega | contradiction))) | (apply st_rw rfl rfl; case hq => first | exact a_store) | refine tri_true rfl ?_ | refine tri_false rfl ?_ | refine tri_block ?_ | refine tri_skip ?_ | refine tri_ret ?_ | refine tri_exit ?_)
    exact sc_end (es := []) (weak_st trivial ⟨congrArg (fun p => some (AObj.box [.str s, .int .i64 p, .sl 101])) (by omega), rfl, trivial⟩) ⟨trivial, rfl, rfl⟩
theorem q_slice_lhE {C : Cx} {σ : St} {ty : TypeId} {pos : String} {af : Array Edge} {g : Option (Nat × Bool)} {x y z : Operand} {t : TypeId} {d : Option Nat} {k k' : IntKind} {m n : Int} {u : List UInt8} {m' n' : Nat} {l : List UInt8} (hx : σ.ev x = .str u) (hy : σ.ev y = .int k m) (hz : σ.ev z = .int k' n) (hm : m = (m' : Int)) (hn : n = (n' : Int)) (ht : C.P.underlying t = some .string) (h1 : m' ≤ n') (h2 : n' ≤ u.length) (hl : (u.take n').drop m' = l) :
    Qd C ⟨d, .slice t x (some y) (some z) none, ty, pos, af, g⟩ σ (.str l) := by
  subst hm hn
  have := q_slice_lh (d := d) (ty := ty) (pos := pos) (af := af) (g := g) hx hy hz ht (by omega) (by omega) (by rw [Int.toNat_natCast]; exact h2)
  rw [Int.toNat_natCast, Int.toNat_natCast, hl] at this
  exact this
theorem low7_of {s : B} (h : s.all (fun c => decide (c.toNat < 128)) = true) : low7 s := fun j => by
  rw [List.getD_eq_getElem?_getD]
  cases hj : s[j]? with
  | none => decide
  | some c => exact of_decide_eq_true (List.all_eq_true.1 h c (List.mem_of_getElem? hj))
theorem z3 : zeroL Tryz.prog 236 = some [.str [], .str [], .str []] := by kernel_rfl
set_option maxHeartbeats 8000000 in
/-- goes on behind a value -/
theorem value_e (s r name : B) (L : List Lk) (hs : s.length ≤ 100000000) (hr : r <:+ s) (hL : L.length ≤ s.length + 1) : CEff gxs 156 (scO s (posF s r) L) [.ptr 0 0, .str name] (some (scO s (posF s (valueF s.length name r).rest) (L ++ (valueF s.length name r).link.toList))) (.bool (valueF s.length name r).more) := by
  refine ceff_of Tryz.func156 rfl (Nat.le_of_ble_eq_true rfl) (fun w γ hw hM => tri_post (sc_open rfl rfl ?_))
  have hle := suf_le hr
  have hd := suf_drop hr
  have hposr : posF s r = (s.length : Int) - r.length := rfl
  generalize posF s r = pp at hposr ⊢
  have Ld := leads_c.s
  have Ct := (scont_c leadL name (by decide)).s
  rw [leadL_any] at Ct
  cases r with
  | nil =>
    simp only [List.length_nil] at hposr
    repeat' (first | refine a_f ?_ | refine st_nil ?_ | refine tri_seq ?_ | refine tri_region rfl ?_ | refine a_draw ?_ | (apply st_r rfl; case hq => first | exact q_slice_loE (n' := s.length - ([] : B).length) (l := []) (by conv => lhs; whnf) (by conv => lhs; whnf) (by simp only [List.length_nil]; omega) (by kernel_rfl) (by omega) hd | exact a_lens | exact a_index | exact a_add | exact a_adds0 | exact a_addsc | exact a_adds | exact a_sub | exact a_slo | exact a_shi | exact a_slh | exact a_lensl | exact a_lenro | exact a_lennil | exact a_lenpts | exact a_field | exact a_fielde | exact a_fieldr | exact a_idxsl | exact a_load | exact a_loada | exact a_mki | exact a_build2 | exact a_build3 | exact a_build1 | exact a_build0 | exact a_bs1 | exact a_bs2 | exact a_bs3 | exact a_bs4 | exact a_bsa | exact a_boxr) | (apply st_rif rfl; (case hq => first | exact a_lss | exact a_gtr | exact a_eql | exact a_neq | exact a_eqls0 | exact a_neqs0 | exact a_eqls | exact a_neqs | exact a_leq | exact a_geq); all_goals (intro _; try (exfalso; first | omega | contradiction))) | (apply st_rw rfl rfl; case hq => first | exact a_store) | refine tri_true rfl ?_ | refine tri_false rfl ?_ | refine tri_block ?_ | refine tri_skip ?_ | refine tri_ret ?_ | refine tri_exit ?_)
    exact sc_end (es := [(4, .bool false)]) (weak_st ⟨rfl, trivial⟩ ⟨congrArg (fun p => some (AObj.box [.str s, .int .i64 p, .sl 101])) (by simp only [valueF, posF, List.length_nil]; omega), congrArg (fun l => some (AObj.rows LkT 3 (lkRows l))) (by simp [valueF]), trivial⟩) ⟨trivial, rfl, rfl⟩
  | cons c t =>
    simp only [List.length_cons] at hposr hle
    have hc : c.toNat < 256 := c.toNat_lt
    have g0 : (c :: t)[(0 : Int).toNat]? = some c := rfl
    by_cases hq : c = 34 ∨ c = 39
    · have iq : (c.toNat : Int) = 34 ∨ (c.toNat : Int) = 39 := hq.imp (fun e => by rw [e]; rfl) (fun e => by rw [e]; rfl)
      have I1 := (indexByte_c t (c.toNat : Int)).s
      rw [show ((c.toNat : Int).toNat.toUInt8) = c by simp] at I1
      have hsp := ib_span c t
      cases hdw : t.dropWhile (· != c) with
      | nil =>
        rw [hsp.1 hdw] at I1
        have hv : valueF s.length name (c :: t) = ⟨none, false, []⟩ := by simp only [valueF]; rw [if_pos hq, hdw]
        rw [hv]
        repeat' (first | refine a_f ?_ | refine st_nil ?_ | refine tri_seq ?_ | refine tri_region rfl ?_ | refine a_draw ?_ | (apply st_r rfl; case hq => first | exact q_slice_loE (n' := s.length - (c :: t).length) (l := c :: t) (by conv => lhs; whnf) (by conv => lhs; whnf) (by simp only [List.length_cons]; omega) (by kernel_rfl) (by omega) hd | exact q_index (c := c) (by conv => lhs; whnf) (by conv => lhs; whnf) (by kernel_rfl) (by decide) g0 | exact q_call I1 (hcf := Tryz.call42) rfl rfl | exact q_slice_loE (n' := 1) (l := t) (by conv => lhs; whnf) (by conv => lhs; whnf) (by rfl) (by kernel_rfl) (by simp) rfl | exact a_lens | exact a_index | exact a_add | exact a_adds0 | exact a_addsc | exact a_adds | exact a_sub | exact a_slo | exact a_shi | exact a_slh | exact a_lensl | exact a_lenro | exact a_lennil | exact a_lenpts | exact a_field | exact a_fielde | exact a_fieldr | exact a_idxsl | exact a_load | exact a_loada | exact a_mki | exact a_build2 | exact a_build3 | exact a_build1 | exact a_build0 | exact a_bs1 | exact a_bs2 | exact a_bs3 | exact a_bs4 | exact a_bsa | exact a_boxr) | (apply st_rif rfl; (case hq => first | exact a_lss | exact a_gtr | exact a_eql | exact a_neq | exact a_eqls0 | exact a_neqs0 | exact a_eqls | exact a_neqs | exact a_leq | exact a_geq); all_goals (intro _; try (exfalso; first | omega | contradiction))) | (apply st_rw rfl rfl; case hq => first | exact a_store) | refine tri_true rfl ?_ | refine tri_false rfl ?_ | refine tri_block ?_ | refine tri_skip ?_ | refine tri_ret ?_ | refine tri_exit ?_)
        all_goals exact sc_end (es := [(4, .bool false)]) (weak_st ⟨rfl, trivial⟩ ⟨congrArg (fun p => some (AObj.box [.str s, .int .i64 p, .sl 101])) (by simp only [posF, List.length_nil, List.length_cons]; omega), congrArg (fun l => some (AObj.rows LkT 3 (lkRows l))) (by simp), trivial⟩) ⟨trivial, rfl, rfl⟩
      | cons d u =>
        rw [hsp.2 (by rw [hdw]; simp)] at I1
        have hsplit := dw_some hdw
        have hlen := congrArg List.length hsplit
        simp only [List.length_append, List.length_cons] at hlen
        generalize hvd : t.takeWhile (· != c) = v at I1 hsplit hlen
        have hvt : ((c :: t).take (1 + v.length)).drop 1 = v := by
          rw [show 1 + v.length = v.length + 1 by omega, List.take_succ_cons, List.drop_succ_cons, List.drop_zero, hsplit, List.take_left' rfl]
        cases hl : leadB name <;> rw [hl] at Ct
        · have hv : valueF s.length name (c :: t) = ⟨none, true, u⟩ := by simp only [valueF]; rw [if_pos hq, hdw]; simp only [lkF, hl]
          rw [hv]
          repeat' (first | refine a_f ?_ | refine st_nil ?_ | refine tri_seq ?_ | refine tri_region rfl ?_ | refine a_draw ?_ | (apply st_r rfl; case hq => first | exact q_slice_loE (n' := s.length - (c :: t).length) (l := c :: t) (by conv => lhs; whnf) (by conv => lhs; whnf) (by simp only [List.length_cons]; omega) (by kernel_rfl) (by omega) hd | exact q_index (c := c) (by conv => lhs; whnf) (by conv => lhs; whnf) (by kernel_rfl) (by decide) g0 | exact q_call I1 (hcf := Tryz.call42) rfl rfl | exact q_slice_loE (n' := 1) (l := t) (by conv => lhs; whnf) (by conv => lhs; whnf) (by rfl) (by kernel_rfl) (by simp) rfl | exact q_call Ld (hcf := Tryz.call184) rfl rfl | exact q_call Ct (hcf := Tryz.call101) rfl rfl | exact q_mul (by conv => lhs; whnf) (by conv => lhs; whnf) (by exact IntWalk.i64_in _ (by omega)) | exact a_lens | exact a_index | exact a_add | exact a_adds0 | exact a_addsc | exact a_adds | exact a_sub | exact a_slo | exact a_shi | exact a_slh | exact a_lensl | exact a_lenro | exact a_lennil | exact a_lenpts | exact a_field | exact a_fielde | exact a_fieldr | exact a_idxsl | exact a_load | exact a_loada | exact a_mki | exact a_build2 | exact a_build3 | exact a_build1 | exact a_build0 | exact a_bs1 | exact a_bs2 | exact a_bs3 | exact a_bs4 | exact a_bsa | exact a_boxr) | (apply st_rif rfl; (case hq => first | exact a_lss | exact a_gtr | exact a_eql | exact a_neq | exact a_eqls0 | exact a_neqs0 | exact a_eqls | exact a_neqs | exact a_leq | exact a_geq); all_goals (intro _; try (exfalso; first | omega | contradiction))) | (apply st_rw rfl rfl; case hq => first | exact w_alloc 102 z3 rfl rfl rfl | exact w_slbox 102 (by conv => lhs; whnf) (by conv => lhs; whnf; arg 1; whnf) rfl Tryz.underlying236 (by kernel_rfl) rfl (by decide) rfl | exact a_store) | refine tri_true rfl ?_ | refine tri_false rfl ?_ | refine tri_block ?_ | refine tri_skip ?_ | refine tri_ret ?_ | refine tri_exit ?_)
          all_goals exact sc_end (es := [(4, .bool true)]) (weak_st ⟨rfl, trivial⟩ ⟨congrArg (fun p => some (AObj.box [.str s, .int .i64 p, .sl 101])) (by simp only [posF, List.length_nil, List.length_cons]; omega), congrArg (fun l => some (AObj.rows LkT 3 (lkRows l))) (by simp), trivial⟩) ⟨trivial, rfl, rfl⟩
        · have hv : valueF s.length name (c :: t) = ⟨some (s.length - t.length, v.length, unescB v), true, u⟩ := by simp only [valueF]; rw [if_pos hq, hdw]; simp only [lkF, hl, hvd]
          rw [hv]
          have U1 := unescape_c v (by omega)
          have hnx : ((s.length - t.length : Nat) : Int) = pp + 1 := by first | omega | (simp only [List.length_cons]; omega)
          have hrw : lkRows (L ++ [(s.length - t.length, v.length, unescB v)]) = lkRows L ++ [[.int .i64 (pp + 1), .int .i64 (v.length : Nat), .str (unescB v)]] := by rw [lkRows_app, ← hnx]
          repeat' (first | refine a_f ?_ | refine st_nil ?_ | refine tri_seq ?_ | refine tri_region rfl ?_ | refine tri_drawW wrAp 21 [0, 1, 2, 3, 4, 5, 6, 7, 8, 9, 10, 11, 12, 13, 14, 15, 16, 17, 18, 19, 20] [0] [22, 23, 24] [0, 1, 2, 3, 4, 5, 6, 7, 8, 9, 10, 11, 12, 13, 14, 15, 16, 17, 18, 19, 20, 21, 22, 23, 24] rfl (by kernel_rfl) (by kernel_rfl) rfl ?_ | refine allB_c ?_ ?_ | exact allB_n | refine behind_s ?_ | refine a_draw ?_ | (apply st_r rfl; case hq => first | exact q_slice_loE (n' := s.length - (c :: t).length) (l := c :: t) (by conv => lhs; whnf) (by conv => lhs; whnf) (by simp only [List.length_cons]; omega) (by kernel_rfl) (by omega) hd | exact q_index (c := c) (by conv => lhs; whnf) (by conv => lhs; whnf) (by kernel_rfl) (by decide) g0 | exact q_call I1 (hcf := Tryz.call42) rfl rfl | exact q_slice_loE (n' := 1) (l := t) (by conv => lhs; whnf) (by conv => lhs; whnf) (by rfl) (by kernel_rfl) (by simp) rfl | exact q_call Ld (hcf := Tryz.call184) rfl rfl | exact q_call Ct (hcf := Tryz.call101) rfl rfl | exact q_mul (by conv => lhs; whnf) (by conv => lhs; whnf) (by exact IntWalk.i64_in _ (by omega)) | exact q_slice_lhE (m' := 1) (n' := 1 + v.length) (l := v) (by conv => lhs; whnf) (by conv => lhs; whnf) (by conv => lhs; whnf) (by rfl) (by omega) (by kernel_rfl) (by omega) (by simp only [List.length_cons]; omega) hvt | exact q_call U1 (hcf := Tryz.call185) rfl rfl | exact q_bsa (sz := 3) (by first | exact Tryz.underlying22 | exact Tryz.underlying23 | exact Tryz.underlying43 | exact Tryz.underlying44 | exact Tryz.underlying51 | exact Tryz.underlying86 | exact Tryz.underlying191 | exact Tryz.underlying209 | exact Tryz.underlying234 | exact Tryz.underlying270 | exact Tryz.underlying281 | exact Tryz.underlying344) (by kernel_rfl) (by kernel_rfl) (by first | rfl | exact Nat.le_of_ble_eq_true rfl | exact Nat.succ_pos _ | decide) (by first | rfl | exact Nat.le_of_ble_eq_true rfl | exact Nat.succ_pos _ | decide) (by conv => lhs; whnf) rfl rfl | exact a_lens | exact a_index | exact a_add | exact a_adds0 | exact a_addsc | exact a_adds | exact a_sub | exact a_slo | exact a_shi | exact a_slh | exact a_lensl | exact a_lenro | exact a_lennil | exact a_lenpts | exact a_field | exact a_fielde | exact a_fieldr | exact a_idxsl | exact a_load | exact a_loada | exact a_mki | exact a_build2 | exact a_build3 | exact a_build1 | exact a_build0 | exact a_bs1 | exact a_bs2 | exact a_bs3 | exact a_bs4 | exact a_bsa | exact a_boxr) | (apply st_rif rfl; (case hq => first | exact a_lss | exact a_gtr | exact a_eql | exact a_neq | exact a_eqls0 | exact a_neqs0 | exact a_eqls | exact a_neqs | exact a_leq | exact a_geq); all_goals (intro _; try (exfalso; first | omega | contradiction))) | (apply st_rw rfl rfl; case hq => first | exact w_alloc 102 z3 rfl rfl rfl | exact w_slbox 102 (by conv => lhs; whnf) (by conv => lhs; whnf; arg 1; whnf) rfl Tryz.underlying236 (by kernel_rfl) rfl (by decide) rfl | exact w_append (id := 101) (by conv => lhs; whnf) (by conv => lhs; whnf; arg 1; whnf) (by conv => lhs; whnf) (by first | exact Tryz.underlying22 | exact Tryz.underlying23 | exact Tryz.underlying43 | exact Tryz.underlying44 | exact Tryz.underlying51 | exact Tryz.underlying86 | exact Tryz.underlying191 | exact Tryz.underlying209 | exact Tryz.underlying234 | exact Tryz.underlying270 | exact Tryz.underlying281 | exact Tryz.underlying344) (by kernel_rfl) (by simp) rfl (by simp only [List.length_singleton, lkRows, List.length_map]; omega) rfl rfl | exact a_store) | refine tri_true rfl ?_ | refine tri_false rfl ?_ | refine tri_block ?_ | refine tri_skip ?_ | refine tri_ret ?_ | refine tri_exit ?_)
          all_goals exact sc_end (es := [(4, .bool true)]) (weak_st ⟨rfl, trivial⟩ ⟨congrArg (fun p => some (AObj.box [.str s, .int .i64 p, .sl 101])) (by simp only [posF, List.length_nil, List.length_cons]; omega), by rw [show (some ((s.length - t.length, v.length, unescB v)) : Option Lk).toList = [(s.length - t.length, v.length, unescB v)] from rfl, hrw]; rfl, trivial⟩) ⟨trivial, rfl, rfl⟩
    · have iq : (c.toNat : Int) ≠ 34 ∧ (c.toNat : Int) ≠ 39 := ⟨fun e => hq (.inl (UInt8.toNat_inj.1 (by rw [show (34 : UInt8).toNat = 34 from rfl]; omega))), fun e => hq (.inr (UInt8.toNat_inj.1 (by rw [show (39 : UInt8).toNat = 39 from rfl]; omega)))⟩
      have I1 := (indexAny_c (c :: t) uvS (by simp only [List.length_cons]; omega) (by decide) (by decide) (low7_of (by decide))).s
      have hsp := ia_span uvS uvB uv_set (c :: t)
      cases hdw : (c :: t).dropWhile (fun c => !uvB c) with
      | nil =>
        rw [hsp.1 hdw] at I1
        have hv : valueF s.length name (c :: t) = ⟨none, false, []⟩ := by simp only [valueF]; rw [if_neg hq, hdw]
        rw [hv]
        repeat' (first | refine a_f ?_ | refine st_nil ?_ | refine tri_seq ?_ | refine tri_region rfl ?_ | refine a_draw ?_ | (apply st_r rfl; case hq => first | exact q_slice_loE (n' := s.length - (c :: t).length) (l := c :: t) (by conv => lhs; whnf) (by conv => lhs; whnf) (by simp only [List.length_cons]; omega) (by kernel_rfl) (by omega) hd | exact q_index (c := c) (by conv => lhs; whnf) (by conv => lhs; whnf) (by kernel_rfl) (by decide) g0 | exact q_call I1 (hcf := Tryz.call117) rfl rfl | exact a_lens | exact a_index | exact a_add | exact a_adds0 | exact a_addsc | exact a_adds | exact a_sub | exact a_slo | exact a_shi | exact a_slh | exact a_lensl | exact a_lenro | exact a_lennil | exact a_lenpts | exact a_field | exact a_fielde | exact a_fieldr | exact a_idxsl | exact a_load | exact a_loada | exact a_mki | exact a_build2 | exact a_build3 | exact a_build1 | exact a_build0 | exact a_bs1 | exact a_bs2 | exact a_bs3 | exact a_bs4 | exact a_bsa | exact a_boxr) | (apply st_rif rfl; (case hq => first | exact a_lss | exact a_gtr | exact a_eql | exact a_neq | exact a_eqls0 | exact a_neqs0 | exact a_eqls | exact a_neqs | exact a_leq | exact a_geq); all_goals (intro _; try (exfalso; first | omega | contradiction))) | (apply st_rw rfl rfl; case hq => first | exact a_store) | refine tri_true rfl ?_ | refine tri_false rfl ?_ | refine tri_block ?_ | refine tri_skip ?_ | refine tri_ret ?_ | refine tri_exit ?_)
        all_goals exact sc_end (es := [(4, .bool false)]) (weak_st ⟨rfl, trivial⟩ ⟨congrArg (fun p => some (AObj.box [.str s, .int .i64 p, .sl 101])) (by simp only [posF, List.length_nil, List.length_cons]; omega), congrArg (fun l => some (AObj.rows LkT 3 (lkRows l))) (by simp), trivial⟩) ⟨trivial, rfl, rfl⟩
      | cons d u =>
        rw [hsp.2 (by rw [hdw]; simp)] at I1
        have hsplit := dw_some hdw
        have hlen := congrArg List.length hsplit
        simp only [List.length_append, List.length_cons] at hlen
        generalize hvd : (c :: t).takeWhile (fun c => !uvB c) = v at I1 hsplit hlen
        have hvt : ((c :: t).take (0 + v.length)).drop 0 = v := by
          rw [Nat.zero_add, List.drop_zero, hsplit, List.take_left' rfl]
        cases hl : leadB name <;> rw [hl] at Ct
        · have hv : valueF s.length name (c :: t) = ⟨none, true, d :: u⟩ := by simp only [valueF]; rw [if_neg hq, hdw]; simp only [lkF, hl]
          rw [hv]
          repeat' (first | refine a_f ?_ | refine st_nil ?_ | refine tri_seq ?_ | refine tri_region rfl ?_ | refine a_draw ?_ | (apply st_r rfl; case hq => first | exact q_slice_loE (n' := s.length - (c :: t).length) (l := c :: t) (by conv => lhs; whnf) (by conv => lhs; whnf) (by simp only [List.length_cons]; omega) (by kernel_rfl) (by omega) hd | exact q_index (c := c) (by conv => lhs; whnf) (by conv => lhs; whnf) (by kernel_rfl) (by decide) g0 | exact q_call I1 (hcf := Tryz.call117) rfl rfl | exact q_call Ld (hcf := Tryz.call184) rfl rfl | exact q_call Ct (hcf := Tryz.call101) rfl rfl | exact q_mul (by conv => lhs; whnf) (by conv => lhs; whnf) (by exact IntWalk.i64_in _ (by omega)) | exact a_lens | exact a_index | exact a_add | exact a_adds0 | exact a_addsc | exact a_adds | exact a_sub | exact a_slo | exact a_shi | exact a_slh | exact a_lensl | exact a_lenro | exact a_lennil | exact a_lenpts | exact a_field | exact a_fielde | exact a_fieldr | exact a_idxsl | exact a_load | exact a_loada | exact a_mki | exact a_build2 | exact a_build3 | exact a_build1 | exact a_build0 | exact a_bs1 | exact a_bs2 | exact a_bs3 | exact a_bs4 | exact a_bsa | exact a_boxr) | (apply st_rif rfl; (case hq => first | exact a_lss | exact a_gtr | exact a_eql | exact a_neq | exact a_eqls0 | exact a_neqs0 | exact a_eqls | exact a_neqs | exact a_leq | exact a_geq); all_goals (intro _; try (exfalso; first | omega | contradiction))) | (apply st_rw rfl rfl; case hq => first | exact w_alloc 102 z3 rfl rfl rfl | exact w_slbox 102 (by conv => lhs; whnf) (by conv => lhs; whnf; arg 1; whnf) rfl Tryz.underlying236 (by kernel_rfl) rfl (by decide) rfl | exact a_store) | refine tri_true rfl ?_ | refine tri_false rfl ?_ | refine tri_block ?_ | refine tri_skip ?_ | refine tri_ret ?_ | refine tri_exit ?_)
          all_goals exact sc_end (es := [(4, .bool true)]) (weak_st ⟨rfl, trivial⟩ ⟨congrArg (fun p => some (AObj.box [.str s, .int .i64 p, .sl 101])) (by simp only [posF, List.length_nil, List.length_cons]; omega), congrArg (fun l => some (AObj.rows LkT 3 (lkRows l))) (by simp), trivial⟩) ⟨trivial, rfl, rfl⟩
        · have hv : valueF s.length name (c :: t) = ⟨some (s.length - (c :: t).length, v.length, unescB v), true, d :: u⟩ := by simp only [valueF]; rw [if_neg hq, hdw]; simp only [lkF, hl, hvd]
          rw [hv]
          have U1 := unescape_c v (by omega)
          have hnx : ((s.length - (c :: t).length : Nat) : Int) = pp + 0 := by first | omega | (simp only [List.length_cons]; omega)
          have hrw : lkRows (L ++ [(s.length - (c :: t).length, v.length, unescB v)]) = lkRows L ++ [[.int .i64 (pp + 0), .int .i64 (v.length : Nat), .str (unescB v)]] := by rw [lkRows_app, ← hnx]
          repeat' (first | refine a_f ?_ | refine st_nil ?_ | refine tri_seq ?_ | refine tri_region rfl ?_ | refine tri_drawW wrAp 21 [0, 1, 2, 3, 4, 5, 6, 7, 8, 9, 10, 11, 12, 13, 14, 15, 16, 17, 18, 19, 20] [0] [22, 23, 24] [0, 1, 2, 3, 4, 5, 6, 7, 8, 9, 10, 11, 12, 13, 14, 15, 16, 17, 18, 19, 20, 21, 22, 23, 24] rfl (by kernel_rfl) (by kernel_rfl) rfl ?_ | refine allB_c ?_ ?_ | exact allB_n | refine behind_s ?_ | refine a_draw ?_ | (apply st_r rfl; case hq => first | exact q_slice_loE (n' := s.length - (c :: t).length) (l := c :: t) (by conv => lhs; whnf) (by conv => lhs; whnf) (by simp only [List.length_cons]; omega) (by kernel_rfl) (by omega) hd | exact q_index (c := c) (by conv => lhs; whnf) (by conv => lhs; whnf) (by kernel_rfl) (by decide) g0 | exact q_call I1 (hcf := Tryz.call117) rfl rfl | exact q_call Ld (hcf := Tryz.call184) rfl rfl | exact q_call Ct (hcf := Tryz.call101) rfl rfl | exact q_mul (by conv => lhs; whnf) (by conv => lhs; whnf) (by exact IntWalk.i64_in _ (by omega)) | exact q_slice_lhE (m' := 0) (n' := 0 + v.length) (l := v) (by conv => lhs; whnf) (by conv => lhs; whnf) (by conv => lhs; whnf) (by rfl) (by omega) (by kernel_rfl) (by omega) (by simp only [List.length_cons]; omega) hvt | exact q_call U1 (hcf := Tryz.call185) rfl rfl | exact q_bsa (sz := 3) (by first | exact Tryz.underlying22 | exact Tryz.underlying23 | exact Tryz.underlying43 | exact Tryz.underlying44 | exact Tryz.underlying51 | exact Tryz.underlying86 | exact Tryz.underlying191 | exact Tryz.underlying209 | exact Tryz.underlying234 | exact Tryz.underlying270 | exact Tryz.underlying281 | exact Tryz.underlying344) (by kernel_rfl) (by kernel_rfl) (by first | rfl | exact Nat.le_of_ble_eq_true rfl | exact Nat.succ_pos _ | decide) (by first | rfl | exact Nat.le_of_ble_eq_true rfl | exact Nat.succ_pos _ | decide) (by conv => lhs; whnf) rfl rfl | exact a_lens | exact a_index | exact a_add | exact a_adds0 | exact a_addsc | exact a_adds | exact a_sub | exact a_slo | exact a_shi | exact a_slh | exact a_lensl | exact a_lenro | exact a_lennil | exact a_lenpts | exact a_field | exact a_fielde | exact a_fieldr | exact a_idxsl | exact a_load | exact a_loada | exact a_mki | exact a_build2 | exact a_build3 | exact a_build1 | exact a_build0 | exact a_bs1 | exact a_bs2 | exact a_bs3 | exact a_bs4 | exact a_bsa | exact a_boxr) | (apply st_rif rfl; (case hq => first | exact a_lss | exact a_gtr | exact a_eql | exact a_neq | exact a_eqls0 | exact a_neqs0 | exact a_eqls | exact a_neqs | exact a_leq | exact a_geq); all_goals (intro _; try (exfalso; first | omega | contradiction))) | (apply st_rw rfl rfl; case hq => first | exact w_alloc 102 z3 rfl rfl rfl | exact w_slbox 102 (by conv => lhs; whnf) (by conv => lhs; whnf; arg 1; whnf) rfl Tryz.underlying236 (by kernel_rfl) rfl (by decide) rfl | exact w_append (id := 101) (by conv => lhs; whnf) (by conv => lhs; whnf; arg 1; whnf) (by conv => lhs; whnf) (by first | exact Tryz.underlying22 | exact Tryz.underlying23 | exact Tryz.underlying43 | exact Tryz.underlying44 | exact Tryz.underlying51 | exact Tryz.underlying86 | exact Tryz.underlying191 | exact Tryz.underlying209 | exact Tryz.underlying234 | exact Tryz.underlying270 | exact Tryz.underlying281 | exact Tryz.underlying344) (by kernel_rfl) (by simp) rfl (by simp only [List.length_singleton, lkRows, List.length_map]; omega) rfl rfl | exact a_store) | refine tri_true rfl ?_ | refine tri_false rfl ?_ | refine tri_block ?_ | refine tri_skip ?_ | refine tri_ret ?_ | refine tri_exit ?_)
          all_goals exact sc_end (es := [(4, .bool true)]) (weak_st ⟨rfl, trivial⟩ ⟨congrArg (fun p => some (AObj.box [.str s, .int .i64 p, .sl 101])) (by simp only [posF, List.length_nil, List.length_cons]; omega), by rw [show (some ((s.length - (c :: t).length, v.length, unescB v)) : Option Lk).toList = [(s.length - (c :: t).length, v.length, unescB v)] from rfl, hrw]; rfl, trivial⟩) ⟨trivial, rfl, rfl⟩
end
end Go.Proofs.YtignjjnflcpiiaaGreatDoor
