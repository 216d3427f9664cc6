import Derived.Test.YtignjjnflcpiiaaGreatDoorKG29
import Derived.Test.YtignjjnflcpiiaaGreatDoorKG40
import Derived.Test.YtignjjnflcpiiaaGreatDoorKG14
import Derived.Test.YtignjjnflcpiiaaGreatDoorKG34
import Derived.Test.YtignjjnflcpiiaaGreatDoorKShelf
set_option linter.unusedVariables false
set_option linter.unusedSimpArgs false
set_option maxHeartbeats 1000000
namespace Go.Proofs.YtignjjnflcpiiaaGreatDoor
open Go.RowKit
attribute [local irreducible] Tri Steps Qd Wr Weak CPure CEff
set_option maxRecDepth 100000
theorem cutPre_c (s p : B) : CPure gx 144 [.str s, .str p] (.tup [.str (Lib.trimPrefix s p), .bool (p.isPrefixOf s)]) :=
  cpure_tup rfl rfl fun w _ => (Tryz.strings_CutPrefix ⟨s.toArray⟩ ⟨p.toArray⟩ w).mono fun e w' h => ⟨h.1, h.2 ▸ ext_refl w⟩
def ctAV : Option (List B) → AV
  | some xs => .tup [.ro true 1 (strRows xs), .nili]
  | none => .tup [.nils, .iface 28 (.int .i64 3)]
def opI : Option Nat → Int
  | some o => o
  | none => -1
theorem sr_app (l : List B) (x : B) : strRows l ++ [[.str x]] = strRows (l ++ [x]) := by simp [strRows]
abbrev CS (s b : B) (x : Nat × Option Nat × List B × List B) : St := st [(0, .str s), (1, .str b), (6, .sl 101), (7, .int .i64 (opI x.2.1)), (8, .int .i64 x.1)] [(101, .rows 9 1 (strRows x.2.2.2))]
set_option maxHeartbeats 16000000 in
theorem pcut_c (s b : B) (hs : s.length ≤ 1000000) (hb : b.length ≤ 1000000) : CPure gx 86 [.str s, .str b] (ctAV (cutF b s)) := by
  refine cpure_of Tryz.func86 rfl (Nat.le_of_ble_eq_true rfl) rfl (fun w hw => ?_)
  repeat' (first | refine a_f ?_ | refine st_nil ?_ | refine tri_seq ?_ | refine tri_region rfl ?_ | refine a_draw ?_ | (apply st_r rfl; case hq => first | exact a_q) | (apply st_rif rfl; (case hq => first | exact a_i); all_goals (intro _; try (exfalso; first | omega | contradiction))) | (apply st_rw rfl rfl; case hq => first | exact a_store) | refine tri_true rfl ?_ | refine tri_false rfl ?_ | refine tri_block ?_ | refine tri_skip ?_ | refine tri_ret ?_ | refine tri_exit ?_)
  refine tri_loop (fun (x : Nat × Option Nat × List B × List B) => CutI b s x.1 x.2.1 x.2.2.1 x.2.2.2 ∧ x.1 ≤ s.length + 2) (CS s b) (fun x => s.length + 3 - x.1) (0, none, [], []) ⟨CutI.start b s, by simp only; omega⟩ ?hw (fun x hx => ?_)
  case hw => exact Weak.trans (weak_nil 6 101 9 1 rfl (by decide) rfl rfl) (weak_st ⟨rfl, rfl, rfl, rfl, rfl, trivial⟩ ⟨rfl, trivial⟩)
  obtain ⟨a, op, acc, out⟩ := x
  obtain ⟨hI, ha2⟩ := hx
  simp only at hI ha2
  change Tri _ _ (st [(0, .str s), (1, .str b), (6, .sl 101), (7, .int .i64 (opI op)), (8, .int .i64 a)] [(101, .rows 9 1 (strRows out))]) _
  by_cases ha : a ≤ s.length
  · obtain ⟨hn1, hn2, hn3, hn4⟩ := line_step ha
    have C1 := cut_c (s.drop a) [13, 10] (by rw [List.length_drop]; omega)
    have hle : (lineAt s a).length ≤ s.length := by omega
    have hmk := mark_ask b (lineAt s a)
    have hnone := fun h => hI.non ha h
    have hfin := fun h => hI.fin ha h
    have hopen := fun h => hI.open ha h
    have hpiece := fun o (e : op = some o) => (show CutI b s a (some o) acc out from e ▸ hI).piece ha
    have hpos := fun o (e : op = some o) => (hI.pos o e).1
    have hcnt := hI.cnt
    have P1 := cutPre_c (lineAt s a) ([45, 45] ++ b)
    have hel : (Lib.cut (s.drop a) [13, 10]).1 = lineAt s a := rfl
    rw [hel] at C1
    generalize (Lib.cut (s.drop a) [13, 10]).2.1 = r1 at C1
    generalize (Lib.cut (s.drop a) [13, 10]).2.2 = r2 at C1
    clear hel hn1 hn2 hn4 hI
    generalize lineAt s a = ln at *
    have hsl := sr_len out
    cases hp : ([45, 45] ++ b).isPrefixOf ln with
    | false =>
      rw [hp] at P1
      have hp' : (45 :: 45 :: b).isPrefixOf ln = false := hp
      rw [hp'] at hmk
      have hn := hnone hmk
      clear hnone hfin hopen hpiece hpos hmk hp'
      rw [show Lib.trimPrefix ln ([45, 45] ++ b) = ln by unfold Lib.trimPrefix Lib.hasPrefix; rw [hp]; rfl] at P1
      have T1 := trim_c ln [32, 9] (by omega) (by decide) rfl
      by_cases h2 : trimB ln = [45, 45]
      all_goals
        have h2' : Lib.trimS ln [32, 9] = [45, 45] ∨ ¬ Lib.trimS ln [32, 9] = [45, 45] := Classical.em _
        have h3 := h2
        unfold trimB at h3
        clear h2 h2'
        generalize Lib.trimS ln [32, 9] = tr at *
        repeat' (first | refine a_f ?_ | refine st_nil ?_ | refine tri_seq ?_ | refine tri_region rfl ?_ | refine a_draw ?_ | (apply st_r rfl; case hq => first | exact q_slice_loE (n' := a) (l := s.drop a) (by conv => lhs; whnf) (by conv => lhs; whnf) (by rfl) (by kernel_rfl) (by omega) rfl | exact q_call C1 (hcf := Tryz.call51) rfl rfl | exact q_adds (u := [45, 45]) rfl (by conv => lhs; whnf) (by first | omega | (simp only [List.length_append, List.length_cons, List.length_nil, List.length_take, List.length_drop]; omega)) | exact q_call P1 (hcf := Tryz.call144) rfl rfl | exact q_call T1 (hcf := Tryz.call59) rfl rfl | exact a_q) | (apply st_rif rfl; (case hq => first | exact a_i); all_goals (intro _; try (exfalso; first | omega | contradiction))) | (apply st_rw rfl rfl; case hq => first | exact a_store) | refine tri_true rfl ?_ | refine tri_false rfl ?_ | refine tri_block ?_ | refine tri_skip ?_ | refine tri_ret ?_ | refine tri_exit ?_)
        exact nextR (a + ln.length + 2, op, acc ++ [ln], out) ⟨hn, by simp only; omega⟩ (weak_st ⟨rfl, rfl, rfl, rfl, rfl, trivial⟩ ⟨rfl, trivial⟩) (show s.length + 3 - (a + ln.length + 2) < s.length + 3 - a by omega)
    | true =>
      rw [hp] at P1
      have hp' : (45 :: 45 :: b).isPrefixOf ln = true := hp
      rw [hp'] at hmk
      simp only at hmk
      rw [show Lib.trimPrefix ln ([45, 45] ++ b) = ln.drop (b.length + 2) by unfold Lib.trimPrefix Lib.hasPrefix; rw [hp]; simp only [if_true, List.length_append, List.length_cons, List.length_nil]; congr 1; omega] at P1
      have T1 : CPure gx 59 [.str (ln.drop (b.length + 2)), .str [32, 9]] (.str (trimB (ln.drop (b.length + 2)))) := trim_c _ [32, 9] (by rw [List.length_drop]; omega) (by decide) rfl
      generalize ln.drop (b.length + 2) = rest at P1 T1 hmk
      generalize trimB rest = tr at T1 hmk
      by_cases h2 : tr = [45, 45]
      · rw [if_pos h2] at hmk
        have hf := hfin hmk
        clear hnone hfin hopen hmk hp'
        rw [hf]
        cases op with
        | none =>
          repeat' (first | refine a_f ?_ | refine st_nil ?_ | refine tri_seq ?_ | refine tri_region rfl ?_ | refine a_draw ?_ | (apply st_r rfl; case hq => first | exact q_slice_loE (n' := a) (l := s.drop a) (by conv => lhs; whnf) (by conv => lhs; whnf) (by rfl) (by kernel_rfl) (by omega) rfl | exact q_call C1 (hcf := Tryz.call51) rfl rfl | exact q_adds (u := [45, 45]) rfl (by conv => lhs; whnf) (by first | omega | (simp only [List.length_append, List.length_cons, List.length_nil, List.length_take, List.length_drop]; omega)) | exact q_call P1 (hcf := Tryz.call144) rfl rfl | exact q_call T1 (hcf := Tryz.call59) rfl rfl | exact a_q) | (apply st_rif rfl; (case hq => first | exact a_i); all_goals (intro _; try (exfalso; first | omega | contradiction))) | (apply st_rw rfl rfl; case hq => first | exact a_store) | refine tri_true rfl ?_ | refine tri_false rfl ?_ | refine tri_block ?_ | refine tri_skip ?_ | refine tri_ret ?_ | refine tri_exit ?_)
          refine And.intro trivial ?_
          conv => lhs; whnf
          try rfl
        | some o =>
          obtain ⟨g1, g2, g3, g4⟩ := hpiece o rfl
          clear hpiece hpos
          have ho : opI (some o) = (o : Int) := rfl
          rw [ho, show addP (some o) acc out = out ++ [joinC acc] from rfl]
          have e1 := sr_app out (joinC acc)
          generalize joinC acc = jc at *
          repeat' (first | refine a_f ?_ | refine st_nil ?_ | refine tri_seq ?_ | refine tri_region rfl ?_ | refine a_draw ?_ | (apply st_r rfl; case hq => first | exact q_slice_loE (n' := a) (l := s.drop a) (by conv => lhs; whnf) (by conv => lhs; whnf) (by rfl) (by kernel_rfl) (by omega) rfl | exact q_call C1 (hcf := Tryz.call51) rfl rfl | exact q_adds (u := [45, 45]) rfl (by conv => lhs; whnf) (by first | omega | (simp only [List.length_append, List.length_cons, List.length_nil, List.length_take, List.length_drop]; omega)) | exact q_call P1 (hcf := Tryz.call144) rfl rfl | exact q_call T1 (hcf := Tryz.call59) rfl rfl | exact q_max (by conv => lhs; whnf) (by conv => lhs; whnf) | exact q_min (by conv => lhs; whnf) (by conv => lhs; whnf) | exact q_slice_lhP (m' := o) (n' := max (a - 2) o) (l := jc) (by conv => lhs; whnf) (by conv => lhs; whnf) (by conv => lhs; whnf) (by omega) (by omega) (by kernel_rfl) (by omega) (by omega) g4 | exact a_q) | (apply st_rif rfl; (case hq => first | exact a_i); all_goals (intro _; try (exfalso; first | omega | contradiction))) | (apply st_rw rfl rfl; case hq => first | exact w_append (by conv => lhs; whnf) (by conv => lhs; whnf; arg 1; whnf) (by conv => lhs; whnf) (by first | exact Tryz.underlying22 | exact Tryz.underlying23 | exact Tryz.underlying43 | exact Tryz.underlying44 | exact Tryz.underlying51 | exact Tryz.underlying86 | exact Tryz.underlying191 | exact Tryz.underlying209 | exact Tryz.underlying234 | exact Tryz.underlying270 | exact Tryz.underlying281 | exact Tryz.underlying344) (by kernel_rfl) (by simp) rfl (by simp only [List.length_cons, List.length_nil]; omega) rfl rfl | exact a_store) | refine tri_true rfl ?_ | refine tri_false rfl ?_ | refine tri_block ?_ | refine tri_skip ?_ | refine tri_ret ?_ | refine tri_exit ?_)
          refine And.intro trivial ?_
          conv => lhs; whnf
          rw [e1]
          rfl
      · rw [if_neg h2] at hmk
        by_cases h3 : tr = []
        · rw [if_pos h3] at hmk
          have ho := hopen hmk
          clear hnone hfin hopen hmk hp'
          cases op with
          | none =>
            repeat' (first | refine a_f ?_ | refine st_nil ?_ | refine tri_seq ?_ | refine tri_region rfl ?_ | refine a_draw ?_ | (apply st_r rfl; case hq => first | exact q_slice_loE (n' := a) (l := s.drop a) (by conv => lhs; whnf) (by conv => lhs; whnf) (by rfl) (by kernel_rfl) (by omega) rfl | exact q_call C1 (hcf := Tryz.call51) rfl rfl | exact q_adds (u := [45, 45]) rfl (by conv => lhs; whnf) (by first | omega | (simp only [List.length_append, List.length_cons, List.length_nil, List.length_take, List.length_drop]; omega)) | exact q_call P1 (hcf := Tryz.call144) rfl rfl | exact q_call T1 (hcf := Tryz.call59) rfl rfl | exact q_min (by conv => lhs; whnf) (by conv => lhs; whnf) | exact a_q) | (apply st_rif rfl; (case hq => first | exact a_i); all_goals (intro _; try (exfalso; first | omega | contradiction))) | (apply st_rw rfl rfl; case hq => first | exact a_store) | refine tri_true rfl ?_ | refine tri_false rfl ?_ | refine tri_block ?_ | refine tri_skip ?_ | refine tri_ret ?_ | refine tri_exit ?_)
            exact nextR (a + ln.length + 2, some (min (a + ln.length + 2) s.length), [], out) ⟨ho, by simp only; omega⟩ (weak_st ⟨rfl, rfl, rfl, congrArg (AV.int .i64) (by simp only [opI]; omega), rfl, trivial⟩ ⟨rfl, trivial⟩) (show s.length + 3 - (a + ln.length + 2) < s.length + 3 - a by omega)
          | some o =>
            obtain ⟨g1, g2, g3, g4⟩ := hpiece o rfl
            clear hpiece hpos
            have hoo : opI (some o) = (o : Int) := rfl
            rw [show addP (some o) acc out = out ++ [joinC acc] from rfl] at ho
            rw [hoo]
            have e1 := sr_app out (joinC acc)
            generalize joinC acc = jc at *
            repeat' (first | refine a_f ?_ | refine st_nil ?_ | refine tri_seq ?_ | refine tri_region rfl ?_ | refine a_draw ?_ | (apply st_r rfl; case hq => first | exact q_slice_loE (n' := a) (l := s.drop a) (by conv => lhs; whnf) (by conv => lhs; whnf) (by rfl) (by kernel_rfl) (by omega) rfl | exact q_call C1 (hcf := Tryz.call51) rfl rfl | exact q_adds (u := [45, 45]) rfl (by conv => lhs; whnf) (by first | omega | (simp only [List.length_append, List.length_cons, List.length_nil, List.length_take, List.length_drop]; omega)) | exact q_call P1 (hcf := Tryz.call144) rfl rfl | exact q_call T1 (hcf := Tryz.call59) rfl rfl | exact q_max (by conv => lhs; whnf) (by conv => lhs; whnf) | exact q_min (by conv => lhs; whnf) (by conv => lhs; whnf) | exact q_slice_lhP (m' := o) (n' := max (a - 2) o) (l := jc) (by conv => lhs; whnf) (by conv => lhs; whnf) (by conv => lhs; whnf) (by omega) (by omega) (by kernel_rfl) (by omega) (by omega) g4 | exact a_q) | (apply st_rif rfl; (case hq => first | exact a_i); all_goals (intro _; try (exfalso; first | omega | contradiction))) | (apply st_rw rfl rfl; case hq => first | exact w_append (by conv => lhs; whnf) (by conv => lhs; whnf; arg 1; whnf) (by conv => lhs; whnf) (by first | exact Tryz.underlying22 | exact Tryz.underlying23 | exact Tryz.underlying43 | exact Tryz.underlying44 | exact Tryz.underlying51 | exact Tryz.underlying86 | exact Tryz.underlying191 | exact Tryz.underlying209 | exact Tryz.underlying234 | exact Tryz.underlying270 | exact Tryz.underlying281 | exact Tryz.underlying344) (by kernel_rfl) (by simp) rfl (by simp only [List.length_cons, List.length_nil]; omega) rfl rfl | exact a_store) | refine tri_true rfl ?_ | refine tri_false rfl ?_ | refine tri_block ?_ | refine tri_skip ?_ | refine tri_ret ?_ | refine tri_exit ?_)
            exact nextR (a + ln.length + 2, some (min (a + ln.length + 2) s.length), [], out ++ [jc]) ⟨ho, by simp only; omega⟩ (weak_st ⟨rfl, rfl, rfl, congrArg (AV.int .i64) (by simp only [opI]; omega), rfl, trivial⟩ ⟨congrArg (fun l => some (AObj.rows 9 1 l)) e1, trivial⟩) (show s.length + 3 - (a + ln.length + 2) < s.length + 3 - a by omega)
        · rw [if_neg h3] at hmk
          have hn := hnone hmk
          clear hnone hfin hopen hpiece hpos hmk hp'
          repeat' (first | refine a_f ?_ | refine st_nil ?_ | refine tri_seq ?_ | refine tri_region rfl ?_ | refine a_draw ?_ | (apply st_r rfl; case hq => first | exact q_slice_loE (n' := a) (l := s.drop a) (by conv => lhs; whnf) (by conv => lhs; whnf) (by rfl) (by kernel_rfl) (by omega) rfl | exact q_call C1 (hcf := Tryz.call51) rfl rfl | exact q_adds (u := [45, 45]) rfl (by conv => lhs; whnf) (by first | omega | (simp only [List.length_append, List.length_cons, List.length_nil, List.length_take, List.length_drop]; omega)) | exact q_call P1 (hcf := Tryz.call144) rfl rfl | exact q_call T1 (hcf := Tryz.call59) rfl rfl | exact a_q) | (apply st_rif rfl; (case hq => first | exact a_i); all_goals (intro _; try (exfalso; first | omega | contradiction))) | (apply st_rw rfl rfl; case hq => first | exact a_store) | refine tri_true rfl ?_ | refine tri_false rfl ?_ | refine tri_block ?_ | refine tri_skip ?_ | refine tri_ret ?_ | refine tri_exit ?_)
          exact nextR (a + ln.length + 2, op, acc ++ [ln], out) ⟨hn, by simp only; omega⟩ (weak_st ⟨rfl, rfl, rfl, rfl, rfl, trivial⟩ ⟨rfl, trivial⟩) (show s.length + 3 - (a + ln.length + 2) < s.length + 3 - a by omega)
  · rw [hI.past (by omega)]
    clear hI
    repeat' (first | refine a_f ?_ | refine st_nil ?_ | refine tri_seq ?_ | refine tri_region rfl ?_ | refine a_draw ?_ | (apply st_r rfl; case hq => first | exact a_q) | (apply st_rif rfl; (case hq => first | exact a_i); all_goals (intro _; try (exfalso; first | omega | contradiction))) | (apply st_rw rfl rfl; case hq => first | exact a_store) | refine tri_true rfl ?_ | refine tri_false rfl ?_ | refine tri_block ?_ | refine tri_skip ?_ | refine tri_ret ?_ | refine tri_exit ?_)
    refine And.intro trivial ?_
    conv => lhs; whnf
    try rfl
def dcAV : Res B → AV
  | .ok x => .tup [.str x, .nili]
  | .err e => .tup [.str [], .iface 28 (.int .i64 e)]
set_option maxHeartbeats 8000000 in
theorem decode_c (l : Fs) (s : B) (hl : Small l) (hs : s.length ≤ 1000000) : CPure gxo 85 [.ro false 2 (fieldRows l), .str s] (dcAV (decodeF l s)) := by
  refine cpure_of Tryz.func85 rfl (Nat.le_of_ble_eq_true rfl) rfl (fun w hw => ?_)
  have G1 := (get_c l ceN hl (by decide)).o
  rw [getAV_of l ceN ceB (by decide)] at G1
  have U1 := (unpack_c s hs).o
  have U2 := (unquote_c s hs).o
  unfold decodeF
  cases hv : getF l ceB with
  | none =>
    rw [hv] at G1
    have S1 := (small_c [] (by simp)).o
    repeat' (first | refine a_f ?_ | refine st_nil ?_ | refine tri_seq ?_ | refine tri_region rfl ?_ | refine a_draw ?_ | (apply st_r rfl; case hq => first | exact q_idxg (sz := 1) (by conv => lhs; whnf) (by conv => lhs; whnf) Tryz.underlying109 (by kernel_rfl) (by omega) (by omega) | exact q_loadg (by rfl) ours1 (fun _ _ _ _ => .str _ _) (by show scalB Tryz.prog _ = true; decide +kernel) | exact q_call G1 (hcf := Tryz.call133) rfl rfl | exact q_call S1 (hcf := Tryz.call53) rfl rfl | exact a_q) | (apply st_rif rfl; (case hq => first | exact a_i); all_goals (intro _; try (exfalso; first | omega | contradiction))) | (apply st_rw rfl rfl; case hq => first | exact a_store) | refine tri_true rfl ?_ | refine tri_false rfl ?_ | refine tri_block ?_ | refine tri_skip ?_ | refine tri_ret ?_ | refine tri_exit ?_)
    refine And.intro trivial ?_
    conv => lhs; whnf
    try rfl
  | some v =>
    rw [hv] at G1
    obtain ⟨f, hfm, _, rfl⟩ := getF_mem hv
    have hvl := (hl.one f hfm).2
    have S1 := (small_c f.2 (by omega)).o
    simp only
    generalize lowB f.2 = lv at S1 ⊢
    by_cases e1 : lv = [55, 98, 105, 116]
    · rw [if_pos (show lv = b7 ∨ lv = b8 ∨ lv = bBin from .inl e1)]
      repeat' (first | refine a_f ?_ | refine st_nil ?_ | refine tri_seq ?_ | refine tri_region rfl ?_ | refine a_draw ?_ | (apply st_r rfl; case hq => first | exact q_idxg (sz := 1) (by conv => lhs; whnf) (by conv => lhs; whnf) Tryz.underlying109 (by kernel_rfl) (by omega) (by omega) | exact q_loadg (by rfl) ours1 (fun _ _ _ _ => .str _ _) (by show scalB Tryz.prog _ = true; decide +kernel) | exact q_call G1 (hcf := Tryz.call133) rfl rfl | exact q_call S1 (hcf := Tryz.call53) rfl rfl | exact a_q) | (apply st_rif rfl; (case hq => first | exact a_i); all_goals (intro _; try (exfalso; first | omega | contradiction))) | (apply st_rw rfl rfl; case hq => first | exact a_store) | refine tri_true rfl ?_ | refine tri_false rfl ?_ | refine tri_block ?_ | refine tri_skip ?_ | refine tri_ret ?_ | refine tri_exit ?_)
      refine And.intro trivial ?_
      conv => lhs; whnf
      try rfl
    by_cases e2 : lv = [56, 98, 105, 116]
    · rw [if_pos (show lv = b7 ∨ lv = b8 ∨ lv = bBin from .inr (.inl e2))]
      repeat' (first | refine a_f ?_ | refine st_nil ?_ | refine tri_seq ?_ | refine tri_region rfl ?_ | refine a_draw ?_ | (apply st_r rfl; case hq => first | exact q_idxg (sz := 1) (by conv => lhs; whnf) (by conv => lhs; whnf) Tryz.underlying109 (by kernel_rfl) (by omega) (by omega) | exact q_loadg (by rfl) ours1 (fun _ _ _ _ => .str _ _) (by show scalB Tryz.prog _ = true; decide +kernel) | exact q_call G1 (hcf := Tryz.call133) rfl rfl | exact q_call S1 (hcf := Tryz.call53) rfl rfl | exact a_q) | (apply st_rif rfl; (case hq => first | exact a_i); all_goals (intro _; try (exfalso; first | omega | contradiction))) | (apply st_rw rfl rfl; case hq => first | exact a_store) | refine tri_true rfl ?_ | refine tri_false rfl ?_ | refine tri_block ?_ | refine tri_skip ?_ | refine tri_ret ?_ | refine tri_exit ?_)
      refine And.intro trivial ?_
      conv => lhs; whnf
      try rfl
    by_cases e3 : lv = [98, 105, 110, 97, 114, 121]
    · rw [if_pos (show lv = b7 ∨ lv = b8 ∨ lv = bBin from .inr (.inr e3))]
      repeat' (first | refine a_f ?_ | refine st_nil ?_ | refine tri_seq ?_ | refine tri_region rfl ?_ | refine a_draw ?_ | (apply st_r rfl; case hq => first | exact q_idxg (sz := 1) (by conv => lhs; whnf) (by conv => lhs; whnf) Tryz.underlying109 (by kernel_rfl) (by omega) (by omega) | exact q_loadg (by rfl) ours1 (fun _ _ _ _ => .str _ _) (by show scalB Tryz.prog _ = true; decide +kernel) | exact q_call G1 (hcf := Tryz.call133) rfl rfl | exact q_call S1 (hcf := Tryz.call53) rfl rfl | exact a_q) | (apply st_rif rfl; (case hq => first | exact a_i); all_goals (intro _; try (exfalso; first | omega | contradiction))) | (apply st_rw rfl rfl; case hq => first | exact a_store) | refine tri_true rfl ?_ | refine tri_false rfl ?_ | refine tri_block ?_ | refine tri_skip ?_ | refine tri_ret ?_ | refine tri_exit ?_)
      refine And.intro trivial ?_
      conv => lhs; whnf
      try rfl
    rw [if_neg (show ¬ (lv = b7 ∨ lv = b8 ∨ lv = bBin) from fun h => h.elim e1 (fun h => h.elim e2 e3))]
    by_cases e4 : lv = [98, 97, 115, 101, 54, 52]
    · rw [if_pos (show lv = b64 from e4)]
      cases hu : unpack s <;> rw [hu] at U1
      all_goals
        simp only [unAV] at U1
        repeat' (first | refine a_f ?_ | refine st_nil ?_ | refine tri_seq ?_ | refine tri_region rfl ?_ | refine a_draw ?_ | (apply st_r rfl; case hq => first | exact q_idxg (sz := 1) (by conv => lhs; whnf) (by conv => lhs; whnf) Tryz.underlying109 (by kernel_rfl) (by omega) (by omega) | exact q_loadg (by rfl) ours1 (fun _ _ _ _ => .str _ _) (by show scalB Tryz.prog _ = true; decide +kernel) | exact q_call G1 (hcf := Tryz.call133) rfl rfl | exact q_call S1 (hcf := Tryz.call53) rfl rfl | exact q_call U1 (hcf := Tryz.call142) rfl rfl | exact a_q) | (apply st_rif rfl; (case hq => first | exact a_i); all_goals (intro _; try (exfalso; first | omega | contradiction))) | (apply st_rw rfl rfl; case hq => first | exact a_store) | refine tri_true rfl ?_ | refine tri_false rfl ?_ | refine tri_block ?_ | refine tri_skip ?_ | refine tri_ret ?_ | refine tri_exit ?_)
        refine And.intro trivial ?_
        conv => lhs; whnf
        try rfl
    rw [if_neg (show ¬ lv = b64 from e4)]
    by_cases e5 : lv = [113, 117, 111, 116, 101, 100, 45, 112, 114, 105, 110, 116, 97, 98, 108, 101]
    · rw [if_pos (show lv = bQP from e5)]
      cases hu : unquote s <;> rw [hu] at U2
      all_goals
        simp only [unAV] at U2
        repeat' (first | refine a_f ?_ | refine st_nil ?_ | refine tri_seq ?_ | refine tri_region rfl ?_ | refine a_draw ?_ | (apply st_r rfl; case hq => first | exact q_idxg (sz := 1) (by conv => lhs; whnf) (by conv => lhs; whnf) Tryz.underlying109 (by kernel_rfl) (by omega) (by omega) | exact q_loadg (by rfl) ours1 (fun _ _ _ _ => .str _ _) (by show scalB Tryz.prog _ = true; decide +kernel) | exact q_call G1 (hcf := Tryz.call133) rfl rfl | exact q_call S1 (hcf := Tryz.call53) rfl rfl | exact q_call U2 (hcf := Tryz.call143) rfl rfl | exact a_q) | (apply st_rif rfl; (case hq => first | exact a_i); all_goals (intro _; try (exfalso; first | omega | contradiction))) | (apply st_rw rfl rfl; case hq => first | exact a_store) | refine tri_true rfl ?_ | refine tri_false rfl ?_ | refine tri_block ?_ | refine tri_skip ?_ | refine tri_ret ?_ | refine tri_exit ?_)
        refine And.intro trivial ?_
        conv => lhs; whnf
        try rfl
    · rw [if_neg (show ¬ lv = bQP from e5)]
      repeat' (first | refine a_f ?_ | refine st_nil ?_ | refine tri_seq ?_ | refine tri_region rfl ?_ | refine a_draw ?_ | (apply st_r rfl; case hq => first | exact q_idxg (sz := 1) (by conv => lhs; whnf) (by conv => lhs; whnf) Tryz.underlying109 (by kernel_rfl) (by omega) (by omega) | exact q_loadg (by rfl) ours1 (fun _ _ _ _ => .str _ _) (by show scalB Tryz.prog _ = true; decide +kernel) | exact q_call G1 (hcf := Tryz.call133) rfl rfl | exact q_call S1 (hcf := Tryz.call53) rfl rfl | exact a_q) | (apply st_rif rfl; (case hq => first | exact a_i); all_goals (intro _; try (exfalso; first | omega | contradiction))) | (apply st_rw rfl rfl; case hq => first | exact a_store) | refine tri_true rfl ?_ | refine tri_false rfl ?_ | refine tri_block ?_ | refine tri_skip ?_ | refine tri_ret ?_ | refine tri_exit ?_)
      refine And.intro trivial ?_
      conv => lhs; whnf
      try rfl
end Go.Proofs.YtignjjnflcpiiaaGreatDoor
