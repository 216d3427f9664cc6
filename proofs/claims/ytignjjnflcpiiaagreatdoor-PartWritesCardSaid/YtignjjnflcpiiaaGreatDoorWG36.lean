import Derived.Test.YtignjjnflcpiiaaGreatDoorWWrtA
import Derived.Test.YtignjjnflcpiiaaGreatDoorWShelf
import Derived.Lib.ItoaMem
import Derived.Test.YtignjjnflcpiiaaGreatDoorWPartR
import Derived.Test.YtignjjnflcpiiaaGreatDoorWVm5
import Derived.Lib.SliceRun
set_option linter.unusedVariables false
set_option linter.unusedSimpArgs false
set_option maxHeartbeats 1000000
namespace Go.Proofs.YtignjjnflcpiiaaGreatDoor
open Go.RowKit
attribute [local irreducible] Tri Steps Qd Wr Weak CPure CEff
set_option maxRecDepth 100000
def PowVar (w : World) : Prop := Lib.TabIs Tryz.prog w "internal/strconv.uint64pow10" .u64 Lib.pow10Tab
theorem powG : Tryz.prog.globalNamed "internal/strconv.uint64pow10" = some 7 := by kernel_rfl
theorem pow_low {w w' : World} (h : PowVar w) (hw : ∀ k, k < gx.nG → w'.heap[k]? = w.heap[k]?) : PowVar w' := by
  unfold PowVar Lib.TabIs World.var? at h ⊢
  rw [powG] at h ⊢
  simp only [Option.bind_some] at h ⊢
  rw [hw 7 (by decide)]
  exact h
noncomputable def gxp : Gx := { gxo with G := fun w => ((GOk w ∧ ErrVar w) ∧ OursVar w) ∧ PowVar w, hG := fun w w' h hw => ⟨gxo.hG w w' h.1 hw, pow_low h.2 hw⟩ }
theorem CPure.p {f : FuncId} {az : List AV} {res : AV} (h : CPure gxo f az res) : CPure gxp f az res := CPure.sub (X := gxo) h fun _ h => h.1
theorem CPure.q {f : FuncId} {az : List AV} {res : AV} (h : CPure gx f az res) : CPure gxp f az res := h.o.p
theorem CEff.p {f : FuncId} {o : AObj} {az : List AV} {o' : Option AObj} {res : AV} (h : CEff gxo f o az o' res) : CEff gxp f o az o' res := CEff.sub (X := gxo) h fun _ h => h.1
theorem CEff.q {f : FuncId} {o : AObj} {az : List AV} {o' : Option AObj} {res : AV} (h : CEff gx f o az o' res) : CEff gxp f o az o' res := h.o.p
theorem ext_grow (w : World) (k : Nat) (os : Array Obj) : Ext w (Go.Sort.grow (w.drewN k) os) :=
  ⟨rfl, rfl, rfl, by simp [Go.Sort.grow, World.drewN], fun i hi => by simp [Go.Sort.grow, World.drewN, Array.getElem?_append_left hi]⟩
theorem itoa_c (n : Nat) (hn : n ≤ 100000000000) : CPure gxp 68 [.int .i64 n] (.str (Lib.decDigits n)) :=
  cpure_val rfl rfl fun w hG => (Tryz.strconv_Itoa n (by omega) (by omega) w hG.2).mono fun e w' h => by
    obtain ⟨h1, k, os, h2⟩ := h
    rw [Lib.itoa_nonneg] at h1
    exact ⟨h1, h2 ▸ ext_grow w k os⟩
theorem dec_lenP (n : Nat) (h : n ≤ 100000000000) : (Lib.decDigits n).length ≤ 20 := by
  rw [Lib.decDigits_length]
  exact Lib.nDigits_le20 n (by omega)
def idxF {α : Type} (p : α → Bool) : List α → Nat → Int
  | [], _ => -1
  | x :: r, i => if p x = true then i else idxF p r (i + 1)
theorem idxF_any {α : Type} (p : α → Bool) : ∀ (l : List α) (i : Nat), (0 ≤ idxF p l i ↔ l.any p = true) ∧ -1 ≤ idxF p l i ∧ idxF p l i < i + l.length
  | [], i => ⟨by simp [idxF], by simp [idxF], by simp only [idxF, List.length_nil]; omega⟩
  | x :: r, i => by
    rw [idxF]
    obtain ⟨h1, h2, h3⟩ := idxF_any p r (i + 1)
    simp only [List.length_cons]
    cases hx : p x with
    | true => simp [hx]; omega
    | false =>
      rw [if_neg (by simp)]
      refine ⟨by rw [h1]; simp [hx], h2, by omega⟩
theorem markC_c (s b : B) (hs : s.length ≤ 1000000000) (hb : b.length ≤ 100) : CPure gx 140 [.str s, .rptr false [.str b]] (.bool (Lib.contains s (45 :: 45 :: b))) := by
  refine cpure_of Tryz.func140 rfl (Nat.le_of_ble_eq_true rfl) rfl (fun w hw => ?_)
  have C1 := contains_c s (45 :: 45 :: b) (by omega)
  repeat' (first | refine a_f ?_ | refine st_nil ?_ | refine tri_seq ?_ | refine tri_region rfl ?_ | refine a_draw ?_ | (apply st_r rfl; case hq => first | exact q_loadr (by conv => lhs; whnf) (by conv => lhs; whnf) (by show scalB Tryz.prog _ = true; decide +kernel) (fun _ => rfl) | exact q_adds (u := [45, 45]) rfl (by conv => lhs; whnf) (by first | omega | (simp only [List.length_append, List.length_cons, List.length_nil, List.length_take, List.length_drop]; omega)) | exact q_call C1 (hcf := Tryz.call60) rfl rfl | exact a_q) | (apply st_rif rfl; (case hq => first | exact a_i); all_goals (intro _; try (exfalso; first | omega | contradiction))) | (apply st_rw rfl rfl; case hq => first | exact a_store) | refine tri_true rfl ?_ | refine tri_false rfl ?_ | refine tri_block ?_ | refine tri_skip ?_ | refine tri_ret ?_ | refine tri_exit ?_)
  refine And.intro trivial ?_
  conv => lhs; whnf
  try rfl
theorem idxS_c (b : B) (l : List B) (hb : b.length ≤ 100) (hl : l.length ≤ 1000000) (hx : ∀ x ∈ l, x.length ≤ 1000000000) :
    CPure gx 173 [.ro false 1 (strRows l), .clo 140 [.rptr false [.str b]]] (.int .i64 (idxF (fun s => Lib.contains s (45 :: 45 :: b)) l 0)) := by
  refine cpure_of Tryz.func173 rfl (Nat.le_of_ble_eq_true rfl) rfl (fun w hw => ?_)
  have hsl := sr_len l
  repeat' (first | refine a_f ?_ | refine st_nil ?_ | refine tri_seq ?_ | refine tri_region rfl ?_ | refine a_draw ?_ | (apply st_r rfl; case hq => first | exact a_q) | (apply st_rif rfl; (case hq => first | exact a_i); all_goals (intro _; try (exfalso; first | omega | contradiction))) | (apply st_rw rfl rfl; case hq => first | exact a_store) | refine tri_true rfl ?_ | refine tri_false rfl ?_ | refine tri_block ?_ | refine tri_skip ?_ | refine tri_ret ?_ | refine tri_exit ?_)
  refine tri_loop (fun (i : Nat) => i ≤ l.length ∧ idxF (fun s => Lib.contains s (45 :: 45 :: b)) (l.drop i) i = idxF (fun s => Lib.contains s (45 :: 45 :: b)) l 0) (fun i => st [(0, .ro false 1 (strRows l)), (1, .clo 140 [.rptr false [.str b]]), (4, .int .i64 0), (7, .int .i64 (strRows l).length), (8, .int .i64 i)] []) (fun i => l.length - i) 0 ⟨Nat.zero_le _, rfl⟩ ?hw (fun i hi => ?_)
  case hw => exact weak_st ⟨rfl, rfl, rfl, rfl, rfl, trivial⟩ trivial
  obtain ⟨hi, hA⟩ := hi
  by_cases hil : i < l.length
  · obtain ⟨x, hxi, hxm, hxd, hxr⟩ := sr_at hil
    have M1 := markC_c x b (hx x hxm) hb
    rw [hxd, idxF] at hA
    cases hc : Lib.contains x (45 :: 45 :: b) with
    | true =>
      rw [hc] at M1
      rw [if_pos hc] at hA
      rw [← hA]
      repeat' (first | refine a_f ?_ | refine st_nil ?_ | refine tri_seq ?_ | refine tri_region rfl ?_ | refine a_draw ?_ | (apply st_r rfl; case hq => first | exact q_idxro (by conv => lhs; whnf) (by conv => lhs; whnf) (by first | exact Tryz.underlying22 | exact Tryz.underlying23 | exact Tryz.underlying43 | exact Tryz.underlying44 | exact Tryz.underlying51 | exact Tryz.underlying86 | exact Tryz.underlying191 | exact Tryz.underlying209 | exact Tryz.underlying234 | exact Tryz.underlying270 | exact Tryz.underlying281 | exact Tryz.underlying344) (by kernel_rfl) (by omega) hxr | exact q_loadr (by conv => lhs; whnf) (by conv => lhs; whnf) (by show scalB Tryz.prog _ = true; decide +kernel) (fun _ => rfl) | exact q_callclo (by conv => lhs; whnf) M1 Tryz.call140 rfl rfl | exact a_q) | (apply st_rif rfl; (case hq => first | exact a_i); all_goals (intro _; try (exfalso; first | omega | contradiction))) | (apply st_rw rfl rfl; case hq => first | exact a_store) | refine tri_true rfl ?_ | refine tri_false rfl ?_ | refine tri_block ?_ | refine tri_skip ?_ | refine tri_ret ?_ | refine tri_exit ?_)
      refine And.intro trivial ?_
      conv => lhs; whnf
      try rfl
    | false =>
      rw [hc] at M1
      rw [if_neg (by rw [hc]; simp)] at hA
      repeat' (first | refine a_f ?_ | refine st_nil ?_ | refine tri_seq ?_ | refine tri_region rfl ?_ | refine a_draw ?_ | (apply st_r rfl; case hq => first | exact q_idxro (by conv => lhs; whnf) (by conv => lhs; whnf) (by first | exact Tryz.underlying22 | exact Tryz.underlying23 | exact Tryz.underlying43 | exact Tryz.underlying44 | exact Tryz.underlying51 | exact Tryz.underlying86 | exact Tryz.underlying191 | exact Tryz.underlying209 | exact Tryz.underlying234 | exact Tryz.underlying270 | exact Tryz.underlying281 | exact Tryz.underlying344) (by kernel_rfl) (by omega) hxr | exact q_loadr (by conv => lhs; whnf) (by conv => lhs; whnf) (by show scalB Tryz.prog _ = true; decide +kernel) (fun _ => rfl) | exact q_callclo (by conv => lhs; whnf) M1 Tryz.call140 rfl rfl | exact a_q) | (apply st_rif rfl; (case hq => first | exact a_i); all_goals (intro _; try (exfalso; first | omega | contradiction))) | (apply st_rw rfl rfl; case hq => first | exact a_store) | refine tri_true rfl ?_ | refine tri_false rfl ?_ | refine tri_block ?_ | refine tri_skip ?_ | refine tri_ret ?_ | refine tri_exit ?_)
      exact nextR (i + 1) ⟨by omega, hA⟩ (weak_st ⟨rfl, rfl, rfl, rfl, rfl, trivial⟩ trivial) (show l.length - (i + 1) < l.length - i by omega)
  · rw [List.drop_eq_nil_of_le (by omega), idxF] at hA
    rw [← hA]
    repeat' (first | refine a_f ?_ | refine st_nil ?_ | refine tri_seq ?_ | refine tri_region rfl ?_ | refine a_draw ?_ | (apply st_r rfl; case hq => first | exact a_q) | (apply st_rif rfl; (case hq => first | exact a_i); all_goals (intro _; try (exfalso; first | omega | contradiction))) | (apply st_rw rfl rfl; case hq => first | exact a_store) | refine tri_true rfl ?_ | refine tri_false rfl ?_ | refine tri_block ?_ | refine tri_skip ?_ | refine tri_ret ?_ | refine tri_exit ?_)
    refine And.intro trivial ?_
    conv => lhs; whnf
    try rfl
theorem hasS_c (b : B) (l : List B) (hb : b.length ≤ 100) (hl : l.length ≤ 1000000) (hx : ∀ x ∈ l, x.length ≤ 1000000000) :
    CPure gx 139 [.ro false 1 (strRows l), .clo 140 [.rptr false [.str b]]] (.bool (l.any fun s => Lib.contains s (45 :: 45 :: b))) := by
  refine cpure_of Tryz.func139 rfl (Nat.le_of_ble_eq_true rfl) rfl (fun w hw => ?_)
  have I1 := idxS_c b l hb hl hx
  obtain ⟨h1, h2, h3⟩ := idxF_any (fun s => Lib.contains s (45 :: 45 :: b)) l 0
  generalize idxF (fun s => Lib.contains s (45 :: 45 :: b)) l 0 = k at I1 h1 h2 h3
  cases ha : l.any fun s => Lib.contains s (45 :: 45 :: b) with
  | true =>
    have hk := h1.2 ha
    repeat' (first | refine a_f ?_ | refine st_nil ?_ | refine tri_seq ?_ | refine tri_region rfl ?_ | refine a_draw ?_ | (apply st_r rfl; case hq => first | exact q_call I1 (hcf := Tryz.call173) rfl rfl | exact a_q) | (apply st_rif rfl; (case hq => first | exact a_i); all_goals (intro _; try (exfalso; first | omega | contradiction))) | (apply st_rw rfl rfl; case hq => first | exact a_store) | refine tri_true rfl ?_ | refine tri_false rfl ?_ | refine tri_block ?_ | refine tri_skip ?_ | refine tri_ret ?_ | refine tri_exit ?_)
    refine And.intro trivial ?_
    conv => lhs; whnf
    try rfl
  | false =>
    have hk : ¬ 0 ≤ k := fun h => by have := h1.1 h; rw [ha] at this; cases this
    repeat' (first | refine a_f ?_ | refine st_nil ?_ | refine tri_seq ?_ | refine tri_region rfl ?_ | refine a_draw ?_ | (apply st_r rfl; case hq => first | exact q_call I1 (hcf := Tryz.call173) rfl rfl | exact a_q) | (apply st_rif rfl; (case hq => first | exact a_i); all_goals (intro _; try (exfalso; first | omega | contradiction))) | (apply st_rw rfl rfl; case hq => first | exact a_store) | refine tri_true rfl ?_ | refine tri_false rfl ?_ | refine tri_block ?_ | refine tri_skip ?_ | refine tri_ret ?_ | refine tri_exit ?_)
    refine And.intro trivial ?_
    conv => lhs; whnf
    try rfl
theorem free_any (l : List B) (n : Nat) : free l n = !(l.any fun s => Lib.contains s (45 :: 45 :: numB n)) := by
  unfold free
  induction l with
  | nil => rfl
  | cons x l ih => simp [List.all_cons, List.any_cons, ih, Bool.not_or]
theorem choose_c (l : List B) (hl : l.length ≤ 1000000) (hx : ∀ x ∈ l, x.length ≤ 1000000000) (hn : chooseN l ≤ 100000000000) : CPure gxp 80 [.ro false 1 (strRows l)] (.str (numB (chooseN l))) := by
  refine cpure_of Tryz.func80 rfl (Nat.le_of_ble_eq_true rfl) rfl (fun w hw => ?_)
  obtain ⟨f1, _, f2⟩ := choose_spec l
  generalize chooseN l = N at hn f1 f2 ⊢
  repeat' (first | refine a_f ?_ | refine st_nil ?_ | refine tri_seq ?_ | refine tri_region rfl ?_ | refine a_draw ?_ | (apply st_r rfl; case hq => first | exact a_q) | (apply st_rif rfl; (case hq => first | exact a_i); all_goals (intro _; try (exfalso; first | omega | contradiction))) | (apply st_rw rfl rfl; case hq => first | exact a_store) | refine tri_true rfl ?_ | refine tri_false rfl ?_ | refine tri_block ?_ | refine tri_skip ?_ | refine tri_ret ?_ | refine tri_exit ?_)
  refine tri_loop (fun (n : Nat) => n ≤ N) (fun n => st [(0, .ro false 1 (strRows l)), (2, .str []), (3, .int .i64 n)] []) (fun n => N - n) 0 (Nat.zero_le _) ?hw (fun n hn' => ?_)
  case hw => exact weak_st ⟨rfl, rfl, rfl, trivial⟩ trivial
  have I1 := itoa_c n (by omega)
  have hd := dec_lenP n (by omega)
  have H1 := (hasS_c (98 :: Lib.decDigits n) l (by simp only [List.length_cons]; omega) hl hx).q
  by_cases he : n = N
  · subst he
    have ha : (l.any fun s => Lib.contains s (45 :: 45 :: 98 :: Lib.decDigits n)) = false := by
      rw [free_any] at f1
      simpa [numB] using f1
    rw [ha] at H1
    have hres : numB n = 98 :: Lib.decDigits n := rfl
    rw [hres]
    clear ha hres f1 f2
    generalize Lib.decDigits n = D at I1 H1 hd ⊢
    repeat' (first | refine a_f ?_ | refine st_nil ?_ | refine tri_seq ?_ | refine tri_region rfl ?_ | refine a_draw ?_ | (apply st_r rfl; case hq => first | exact q_call I1 (hcf := Tryz.call68) rfl rfl | exact q_adds (u := [98]) rfl (by conv => lhs; whnf) (by first | omega | (simp only [List.length_append, List.length_cons, List.length_nil, List.length_take, List.length_drop]; omega)) | exact q_mkfunc rfl | exact q_call H1 (hcf := Tryz.call139) rfl rfl | exact a_q) | (apply st_rif rfl; (case hq => first | exact a_i); all_goals (intro _; try (exfalso; first | omega | contradiction))) | (apply st_rw rfl rfl; case hq => first | exact w_alloc (d := 4) 104 (by exact zStr) rfl rfl rfl | exact a_store) | refine tri_true rfl ?_ | refine tri_false rfl ?_ | refine tri_block ?_ | refine tri_skip ?_ | refine tri_ret ?_ | refine tri_exit ?_)
    refine And.intro trivial ?_
    conv => lhs; whnf
    try rfl
  · have ha : (l.any fun s => Lib.contains s (45 :: 45 :: 98 :: Lib.decDigits n)) = true := by
      have := f2 n (by omega)
      rw [free_any] at this
      simpa [numB] using this
    rw [ha] at H1
    clear ha f1 f2
    generalize Lib.decDigits n = D at I1 H1 hd
    repeat' (first | refine a_f ?_ | refine st_nil ?_ | refine tri_seq ?_ | refine tri_region rfl ?_ | refine a_draw ?_ | (apply st_r rfl; case hq => first | exact q_call I1 (hcf := Tryz.call68) rfl rfl | exact q_adds (u := [98]) rfl (by conv => lhs; whnf) (by first | omega | (simp only [List.length_append, List.length_cons, List.length_nil, List.length_take, List.length_drop]; omega)) | exact q_mkfunc rfl | exact q_call H1 (hcf := Tryz.call139) rfl rfl | exact a_q) | (apply st_rif rfl; (case hq => first | exact a_i); all_goals (intro _; try (exfalso; first | omega | contradiction))) | (apply st_rw rfl rfl; case hq => first | exact w_alloc (d := 4) 104 (by exact zStr) rfl rfl rfl | exact a_store) | refine tri_true rfl ?_ | refine tri_false rfl ?_ | refine tri_block ?_ | refine tri_skip ?_ | refine tri_ret ?_ | refine tri_exit ?_)
    exact nextR (n + 1) (by omega) (weak_st ⟨rfl, rfl, rfl, trivial⟩ trivial) (show N - (n + 1) < N - n by omega)
end Go.Proofs.YtignjjnflcpiiaaGreatDoor
namespace Go.Proofs.YtignjjnflcpiiaaGreatDoor
open Go.RowKit
theorem elemF : elemB Tryz.prog 75 2 = true := by kernel_rfl
set_option maxHeartbeats 2000000 in
set_option maxRecDepth 100000 in
theorem clone_some (ad : Addr) (m c : Nat) (news : List Value) (w : World) (hl : news.length = m * 2) (hnews : ∀ j u, news[j]? = some u → w.cell? (ad.add j) = some u) (h1 : ∀ u ∈ news, u.oneCell' = true) (hm : m ≤ 1000000000) :
    Calls Tryz.prog 77 #[.slice (some ad) m c] w fun e w' => ∃ v', e = .returned v' ∧ w'.ownsRow w.heap.size 75 2 v' m news ∧ Below w.heap.size w w' := by
  have mixed : Tryz.prog.follows .mixedOrders = true := by kernel_rfl
  obtain ⟨i0, z0, hi, hz0, hz1, hby, hz2⟩ := elemB_spec elemF
  have q22 : ∀ (w : World) (a : Option Addr) (n c n' c' : Nat), (binOp .eql 22 (.slice a n c) (.slice none n' c')).run Tryz.prog w = .ok (.bool a.isNone) w := fun w a n c n' c' => Lib.run_eql_slice_nil w _ _ a n c n' c' Tryz.underlying22
  have u22 : ∀ w, Sem.run Tryz.prog (underlying 22) w = .ok (TypeDesc.slice 75) w := run_underlying Tryz.underlying22
  have A : Aside (∀ j u, news[j]? = some u → w.cell? (ad.add j) = some u) := hnews
  have B : Aside (∀ u ∈ news, u.oneCell' = true) := h1
  clear hnews h1
  have hbb : m * i0.bytes ≤ 140737488355328 := by
    have : m * i0.bytes ≤ 1000000000 * 1024 := Nat.mul_le_mul hm hby
    omega
  have H := hid hbb
  clear hbb hby
  go_enter Tryz.func77, Tryz.ntmps77
  go_wp2_with (at_builtin; refine wpList_append_own _ rfl _ _ 22 rfl w.heap.size 75 i0 z0 2 i0.bytes Tryz.underlying22 hi hz0 hz1 rfl hz2 (by decide) _ _ _ rfl (World.ownsRow_made w #[] 0 (Nat.le_refl _) (Nat.zero_le _) rfl) ad m c news rfl ?qc1 ?qc2 ?qc3 ?qc4 ?qc5 ?qc6 ?_)
  case qc1 => exact hl
  case qc2 =>
    intro j u hj
    exact Lib.cell?_alloc_some _ (A.out j u hj)
  case qc3 => exact B.out
  case qc4 => unfold maxLen; omega
  case qc5 => rw [Nat.zero_add]; exact H.out
  case qc6 => simp
  intro v' w1 hown hgrow hnil
  go_wp2
  go_ret
  refine ⟨v', rfl, by simpa using hown, ?_⟩
  exact ((Below.refl _ w).alloc (Nat.le_refl _) _).grown hgrow (by simp) (by intro k hk; simp [Value.ownBlock] at hk; omega)
set_option maxHeartbeats 1000000 in
theorem clone_nil (w : World) :
    Calls Tryz.prog 77 #[.slice none 0 0] w fun e w' => e = .returned (.slice none 0 0) ∧ w' = w := by
  have mixed : Tryz.prog.follows .mixedOrders = true := by kernel_rfl
  have q22 : ∀ (w : World) (a : Option Addr) (n c n' c' : Nat), (binOp .eql 22 (.slice a n c) (.slice none n' c')).run Tryz.prog w = .ok (.bool a.isNone) w := fun w a n c n' c' => Lib.run_eql_slice_nil w _ _ a n c n' c' Tryz.underlying22
  go_enter Tryz.func77, Tryz.ntmps77
  go_wp2
  go_ret
  exact ⟨rfl, rfl⟩
theorem clone_c (l : Fs) (hl : l.length ≤ 1000000) : CNewR gx 77 [.ro false 2 (fieldRows l)] 75 2 (fieldRows l) := by
  intro w vs hG hw hlen hr
  obtain ⟨v0, rfl⟩ : ∃ a, vs = [a] := by
    match vs, hlen with
    | [a], _ => exact ⟨a, rfl⟩
  have h0 := Rep.ro_inv (hr 0 (by simp) (by simp))
  simp only [List.getElem_cons_zero] at h0
  have hrl : ∀ i (h : i < (fieldRows l).length), (fieldRows l)[i].length = 2 := fun i h => by simp [fieldRows]
  have hfl := fr_len l
  by_cases hne : fieldRows l = []
  · rcases h0 with ⟨_, a, cap, rfl, hcap⟩ | ⟨b, o, cap, cs, rfl, hok, hpos, _⟩
    · cases a with
      | none =>
        have hc0 : cap = 0 := by simpa using hcap
        subst hc0
        refine (clone_nil w).mono ?_
        rintro e w' ⟨rfl, rfl⟩
        rw [hne]
        exact ⟨_, [], rfl, Below.refl _ _, World.ownsRow_nil _ _ _ _, by decide, fun i h => absurd h (Nat.not_lt_zero _), fun i h => absurd h (Nat.not_lt_zero _)⟩
      | some ad =>
        refine (clone_some ad 0 cap [] w rfl (fun j u h => by simp at h) (fun u h => by cases h) (by omega)).mono ?_
        rintro e w' ⟨v', rfl, h1, h2⟩
        rw [hne]
        exact ⟨v', [], rfl, h2, h1, by decide, fun i h => absurd h (Nat.not_lt_zero _), fun i h => absurd h (Nat.not_lt_zero _)⟩
    · rw [hne] at hpos; exact absurd hpos (Nat.lt_irrefl _)
  · obtain ⟨ad, c, news, hv, hs, hm, hnl, hnews, hl2, hr2⟩ := rows_cells h0 hne
    subst hv
    have hone : ∀ u ∈ news, u.oneCell' = true := by
      intro u hu
      obtain ⟨k, hk, rfl⟩ := List.mem_iff_getElem.1 hu
      have hks : k / 2 < (fieldRows l).length := Nat.div_lt_of_lt_mul (by omega)
      have hkm : k % 2 < (fieldRows l)[k / 2].length := by rw [hl2 _ hks]; exact Nat.mod_lt _ hs
      obtain ⟨u, hu, hfr⟩ := hr2 _ hks _ hkm
      rw [Nat.div_add_mod'] at hu
      obtain ⟨_, hue⟩ := List.getElem?_eq_some_iff.1 hu
      rw [hue]
      refine flat_cell hfr ?_
      have hk2 : k % 2 < 2 := Nat.mod_lt _ (by decide)
      have hk3 : k / 2 < l.length := by rw [← hfl]; exact hks
      have : ∀ j (hj : j < (fieldRows l)[k / 2].length), AV.flat (fieldRows l)[k / 2][j] = true := fun j hj => by
        have e : (fieldRows l)[k / 2] = [.str (l[k / 2]'hk3).1, .str (l[k / 2]'hk3).2] := by simp [fieldRows]
        have : ∀ x ∈ (fieldRows l)[k / 2], AV.flat x = true := by rw [e]; intro x hx; simp at hx; rcases hx with rfl | rfl <;> rfl
        exact this _ (List.getElem_mem hj)
      exact this _ _
    refine (clone_some ad _ c news w hnl hnews hone (by omega)).mono ?_
    rintro e w' ⟨v', rfl, h1, h2⟩
    exact ⟨v', news, rfl, h2, h1, hs, hl2, hr2⟩
end Go.Proofs.YtignjjnflcpiiaaGreatDoor
