import Derived.Test.YtignjjnflcpiiaaGreatDoorWG21
import Derived.Test.YtignjjnflcpiiaaGreatDoorWPartG
import Derived.Test.YtignjjnflcpiiaaGreatDoorWG11
import Derived.Test.YtignjjnflcpiiaaGreatDoorWG34
import Derived.Test.YtignjjnflcpiiaaGreatDoorWShelf
import Derived.Test.YtignjjnflcpiiaaGreatDoorWG20
set_option linter.unusedVariables false
set_option linter.unusedSimpArgs false
set_option maxHeartbeats 1000000
namespace Go.Proofs.YtignjjnflcpiiaaGreatDoor
def lineAt (s : B) (a : Nat) : B := (Lib.cut (s.drop a) [13, 10]).1
def linesAt (s : B) (a : Nat) : List B := if a ≤ s.length then splitC (s.drop a) else []
theorem line_step {s : B} {a : Nat} (h : a ≤ s.length) : linesAt s a = lineAt s a :: linesAt s (a + (lineAt s a).length + 2) ∧ (a + (lineAt s a).length + 2 ≤ s.length → s.drop a = lineAt s a ++ 13 :: 10 :: s.drop (a + (lineAt s a).length + 2)) ∧ a + (lineAt s a).length ≤ s.length ∧ (s.drop a).take (lineAt s a).length = lineAt s a := by
  have hs := splitC_index (s.drop a)
  have hl : (s.drop a).length = s.length - a := List.length_drop
  unfold linesAt lineAt Lib.cut
  rcases Lib.index_spec (s.drop a) [13, 10] with ⟨h1, _⟩ | ⟨i, h1, h2, h3, _⟩
  · rw [if_pos h]
    rw [h1]
    rw [if_neg (by decide)]
    simp only
    rw [hs.1 h1, if_neg (by omega)]
    exact ⟨rfl, fun h3 => absurd h3 (by omega), by omega, List.take_of_length_le (Nat.le_refl _)⟩
  · rw [if_pos h]
    rw [h1]
    rw [if_pos (by omega)]
    simp only [Int.toNat_natCast]
    have h2' : ([13, 10] : B).isPrefixOf ((s.drop a).drop i) = true := h3
    obtain ⟨r, hr⟩ := (isPrefix_two 13 10 _).1 h2'
    have hrl := congrArg List.length hr
    rw [List.length_drop, hl] at hrl
    simp only [List.length_cons] at hrl
    have hti : ((s.drop a).take i).length = i := by rw [List.length_take, hl]; omega
    rw [hs.2 i h1, hti, if_pos (by omega), List.drop_drop, show a + (i + 2) = a + i + 2 by omega]
    refine ⟨rfl, fun _ => ?_, by omega, rfl⟩
    have h4 : (s.drop a).drop i = 13 :: 10 :: s.drop (a + i + 2) := by
      rw [hr]
      have := congrArg (List.drop 2) hr
      rw [List.drop_drop, List.drop_drop, show a + (i + 2) = a + i + 2 by omega] at this
      rw [this]; rfl
    rw [← h4, List.take_append_drop]
def addP (op : Option Nat) (acc out : List B) : List B := match op with
  | some _ => out ++ [joinC acc]
  | none => out
structure CutI (b s : B) (a : Nat) (op : Option Nat) (acc out : List B) : Prop where
  go : cutGo b op.isSome acc out (linesAt s a) = cutF b s
  pos : ∀ o, op = some o → o ≤ s.length ∧ (a ≤ s.length → (acc = [] → a = o) ∧ (acc ≠ [] → a = o + (joinC acc).length + 2 ∧ s.drop o = joinC acc ++ 13 :: 10 :: s.drop a))
  cnt : out.length ≤ a
theorem CutI.start (b s : B) : CutI b s 0 none [] [] := ⟨by rw [linesAt, if_pos (Nat.zero_le _)]; rfl, fun o h => (by cases h), Nat.le_refl _⟩
section
variable {b s : B} {a : Nat} {op : Option Nat} {acc out : List B}
theorem CutI.fin (h : CutI b s a op acc out) (ha : a ≤ s.length) (hm : markF b (lineAt s a) = some true) : cutF b s = some (addP op acc out) := by
  rw [← h.go, (line_step ha).1, cutGo, hm]
  cases op <;> rfl
theorem CutI.open (h : CutI b s a op acc out) (ha : a ≤ s.length) (hm : markF b (lineAt s a) = some false) : CutI b s (a + (lineAt s a).length + 2) (some (min (a + (lineAt s a).length + 2) s.length)) [] (addP op acc out) := by
  obtain ⟨h1, h2, h3, h4⟩ := line_step ha
  refine ⟨?_, fun o ho => ?_, ?_⟩
  · rw [← h.go, h1, cutGo, hm]
    cases op <;> rfl
  · cases ho
    exact ⟨Nat.min_le_right _ _, fun ha' => ⟨fun _ => by omega, fun e => absurd rfl e⟩⟩
  · have := h.cnt
    cases op with
    | none => simp only [addP]; omega
    | some o => simp only [addP, List.length_append, List.length_cons, List.length_nil]; omega
end
end Go.Proofs.YtignjjnflcpiiaaGreatDoor
namespace Go.Proofs.YtignjjnflcpiiaaGreatDoor
open Go.RowKit
attribute [local irreducible] Tri Steps Qd Wr Weak CPure CEff
set_option maxRecDepth 100000
set_option maxHeartbeats 8000000 in
theorem manies_c (l : Fs) (hl : Small l) : CPure gx 66 [.ro false 2 (fieldRows l)] (mnAV (bndF l)) := by
  refine cpure_of Tryz.func66 rfl (Nat.le_of_ble_eq_true rfl) rfl (fun w hw => ?_)
  have G1 := rget_c l ctB hl (by decide)
  rw [getAV_of l ctB ctB (by decide)] at G1
  unfold bndF
  cases hv : getF l ctB with
  | none =>
    rw [hv] at G1
    repeat' (first | refine a_f ?_ | refine st_nil ?_ | refine tri_seq ?_ | refine tri_region rfl ?_ | refine a_draw ?_ | (apply st_r rfl; case hq => first | exact q_call G1 (hcf := Tryz.call120) rfl rfl | exact a_q) | (apply st_rif rfl; (case hq => first | exact a_i); all_goals (intro _; try (exfalso; first | omega | contradiction))) | (apply st_rw rfl rfl; case hq => first | exact a_store) | refine tri_true rfl ?_ | refine tri_false rfl ?_ | refine tri_block ?_ | refine tri_skip ?_ | refine tri_ret ?_ | refine tri_exit ?_)
    refine And.intro trivial ?_
    conv => lhs; whnf
    try rfl
  | some v =>
    rw [hv] at G1
    obtain ⟨f, hfm, _, rfl⟩ := getF_mem hv
    have hvl := (hl.one f hfm).2
    have K1 := rkread_c' f.2 hvl
    have hps := kL_small f.2 hvl
    cases hk : readK tokC blk lowC f.2 with
    | none =>
      rw [hk] at K1
      simp only [kM, kL, kE] at K1
      simp only [hk]
      repeat' (first | refine a_f ?_ | refine st_nil ?_ | refine tri_seq ?_ | refine tri_region rfl ?_ | refine a_draw ?_ | (apply st_r rfl; case hq => first | exact q_call G1 (hcf := Tryz.call120) rfl rfl | exact q_call K1 (hcf := Tryz.call69) rfl rfl | exact a_q) | (apply st_rif rfl; (case hq => first | exact a_i); all_goals (intro _; try (exfalso; first | omega | contradiction))) | (apply st_rw rfl rfl; case hq => first | exact a_store) | refine tri_true rfl ?_ | refine tri_false rfl ?_ | refine tri_block ?_ | refine tri_skip ?_ | refine tri_ret ?_ | refine tri_exit ?_)
      refine And.intro trivial ?_
      conv => lhs; whnf
      try rfl
    | some q =>
      obtain ⟨m, ps⟩ := q
      rw [hk] at K1 hps
      simp only [kM, kL, kE] at K1 hps
      have H1 := hpre_c m mulB
      have P1 := rpget_c ps bndN hps
      rw [getP_of] at P1
      simp only [hk]
      cases hm : mulB.isPrefixOf m with
      | false =>
        rw [hm] at H1
        repeat' (first | refine a_f ?_ | refine st_nil ?_ | refine tri_seq ?_ | refine tri_region rfl ?_ | refine a_draw ?_ | (apply st_r rfl; case hq => first | exact q_call G1 (hcf := Tryz.call120) rfl rfl | exact q_call K1 (hcf := Tryz.call69) rfl rfl | exact q_call H1 (hcf := Tryz.call41) rfl rfl | exact a_q) | (apply st_rif rfl; (case hq => first | exact a_i); all_goals (intro _; try (exfalso; first | omega | contradiction))) | (apply st_rw rfl rfl; case hq => first | exact a_store) | refine tri_true rfl ?_ | refine tri_false rfl ?_ | refine tri_block ?_ | refine tri_skip ?_ | refine tri_ret ?_ | refine tri_exit ?_)
        refine And.intro trivial ?_
        conv => lhs; whnf
        try rfl
      | true =>
        rw [hm] at H1
        cases hb : bndVal ps with
        | none =>
          rw [hb] at P1
          have I1 := in_c 0 1 70
          rw [show decide ((1 : Int) ≤ 0 ∧ (0 : Int) ≤ 70) = false from rfl] at I1
          repeat' (first | refine a_f ?_ | refine st_nil ?_ | refine tri_seq ?_ | refine tri_region rfl ?_ | refine a_draw ?_ | (apply st_r rfl; case hq => first | exact q_call G1 (hcf := Tryz.call120) rfl rfl | exact q_call K1 (hcf := Tryz.call69) rfl rfl | exact q_call H1 (hcf := Tryz.call41) rfl rfl | exact q_call P1 (hcf := Tryz.call121) rfl rfl | exact q_call I1 (hcf := Tryz.call50) rfl rfl | exact q_lens (u := []) (by rfl) (by kernel_rfl) (by decide) | exact a_q) | (apply st_rif rfl; (case hq => first | exact a_i); all_goals (intro _; try (exfalso; first | omega | contradiction))) | (apply st_rw rfl rfl; case hq => first | exact a_store) | refine tri_true rfl ?_ | refine tri_false rfl ?_ | refine tri_block ?_ | refine tri_skip ?_ | refine tri_ret ?_ | refine tri_exit ?_)
          refine And.intro trivial ?_
          conv => lhs; whnf
          try rfl
        | some b =>
          rw [hb] at P1
          have hbl := bndVal_le hps hb
          simp only
          by_cases h0 : b = []
          · subst h0
            rw [show bndGood [] = false from rfl]
            have I1 := in_c 0 1 70
            rw [show decide ((1 : Int) ≤ 0 ∧ (0 : Int) ≤ 70) = false from rfl] at I1
            repeat' (first | refine a_f ?_ | refine st_nil ?_ | refine tri_seq ?_ | refine tri_region rfl ?_ | refine a_draw ?_ | (apply st_r rfl; case hq => first | exact q_call G1 (hcf := Tryz.call120) rfl rfl | exact q_call K1 (hcf := Tryz.call69) rfl rfl | exact q_call H1 (hcf := Tryz.call41) rfl rfl | exact q_call P1 (hcf := Tryz.call121) rfl rfl | exact q_call I1 (hcf := Tryz.call50) rfl rfl | exact q_lens (u := []) (by rfl) (by kernel_rfl) (by decide) | exact a_q) | (apply st_rif rfl; (case hq => first | exact a_i); all_goals (intro _; try (exfalso; first | omega | contradiction))) | (apply st_rw rfl rfl; case hq => first | exact a_store) | refine tri_true rfl ?_ | refine tri_false rfl ?_ | refine tri_block ?_ | refine tri_skip ?_ | refine tri_ret ?_ | refine tri_exit ?_)
            refine And.intro trivial ?_
            conv => lhs; whnf
            try rfl
          · obtain ⟨init, c, hbe⟩ := bnd_split h0
            have hbg := bndGood_at init c
            have hlen : b.length = init.length + 1 := by rw [hbe]; simp
            have hg : b[b.length - 1]? = some c := by rw [hlen, hbe]; simp
            rw [← hbe] at hbg
            rw [hbg]
            clear hbg hbe
            have I1 := in_c (b.length : Int) 1 70
            by_cases h70 : 70 < b.length
            · rw [show (decide (init.length + 1 ≤ 70) && !(c == 32)) = false by rw [decide_eq_false (by omega)]; rfl]
              rw [decide_eq_false (by omega)] at I1
              repeat' (first | refine a_f ?_ | refine st_nil ?_ | refine tri_seq ?_ | refine tri_region rfl ?_ | refine a_draw ?_ | (apply st_r rfl; case hq => first | exact q_call G1 (hcf := Tryz.call120) rfl rfl | exact q_call K1 (hcf := Tryz.call69) rfl rfl | exact q_call H1 (hcf := Tryz.call41) rfl rfl | exact q_call P1 (hcf := Tryz.call121) rfl rfl | exact q_call I1 (hcf := Tryz.call50) rfl rfl | exact q_lens (u := []) (by rfl) (by kernel_rfl) (by decide) | exact a_q) | (apply st_rif rfl; (case hq => first | exact a_i); all_goals (intro _; try (exfalso; first | omega | contradiction))) | (apply st_rw rfl rfl; case hq => first | exact a_store) | refine tri_true rfl ?_ | refine tri_false rfl ?_ | refine tri_block ?_ | refine tri_skip ?_ | refine tri_ret ?_ | refine tri_exit ?_)
              refine And.intro trivial ?_
              conv => lhs; whnf
              try rfl
            · rw [decide_eq_true (by omega)] at I1
              rw [decide_eq_true (show init.length + 1 ≤ 70 by omega), Bool.true_and]
              by_cases hc : c = 32
              · have i32 : (c.toNat : Int) = 32 := by rw [hc]; rfl
                rw [show (!(c == 32)) = false by rw [hc]; rfl]
                repeat' (first | refine a_f ?_ | refine st_nil ?_ | refine tri_seq ?_ | refine tri_region rfl ?_ | refine a_draw ?_ | (apply st_r rfl; case hq => first | exact q_call G1 (hcf := Tryz.call120) rfl rfl | exact q_call K1 (hcf := Tryz.call69) rfl rfl | exact q_call H1 (hcf := Tryz.call41) rfl rfl | exact q_call P1 (hcf := Tryz.call121) rfl rfl | exact q_call I1 (hcf := Tryz.call50) rfl rfl | exact q_indexP (i' := b.length - 1) (c := c) (by conv => lhs; whnf) (by conv => lhs; whnf) (by omega) (by kernel_rfl) hg | exact a_q) | (apply st_rif rfl; (case hq => first | exact a_i); all_goals (intro _; try (exfalso; first | omega | contradiction))) | (apply st_rw rfl rfl; case hq => first | exact a_store) | refine tri_true rfl ?_ | refine tri_false rfl ?_ | refine tri_block ?_ | refine tri_skip ?_ | refine tri_ret ?_ | refine tri_exit ?_)
                refine And.intro trivial ?_
                conv => lhs; whnf
                try rfl
              · have i32 : (c.toNat : Int) ≠ 32 := fun e => hc (UInt8.toNat_inj.1 (by rw [show (32 : UInt8).toNat = 32 from rfl]; omega))
                rw [show (!(c == 32)) = true by simpa using hc]
                repeat' (first | refine a_f ?_ | refine st_nil ?_ | refine tri_seq ?_ | refine tri_region rfl ?_ | refine a_draw ?_ | (apply st_r rfl; case hq => first | exact q_call G1 (hcf := Tryz.call120) rfl rfl | exact q_call K1 (hcf := Tryz.call69) rfl rfl | exact q_call H1 (hcf := Tryz.call41) rfl rfl | exact q_call P1 (hcf := Tryz.call121) rfl rfl | exact q_call I1 (hcf := Tryz.call50) rfl rfl | exact q_indexP (i' := b.length - 1) (c := c) (by conv => lhs; whnf) (by conv => lhs; whnf) (by omega) (by kernel_rfl) hg | exact a_q) | (apply st_rif rfl; (case hq => first | exact a_i); all_goals (intro _; try (exfalso; first | omega | contradiction))) | (apply st_rw rfl rfl; case hq => first | exact a_store) | refine tri_true rfl ?_ | refine tri_false rfl ?_ | refine tri_block ?_ | refine tri_skip ?_ | refine tri_ret ?_ | refine tri_exit ?_)
                refine And.intro trivial ?_
                conv => lhs; whnf
                try rfl
theorem sr_app (l : List B) (x : B) : strRows l ++ [[.str x]] = strRows (l ++ [x]) := by simp [strRows]
end Go.Proofs.YtignjjnflcpiiaaGreatDoor
namespace Go.Proofs.YtignjjnflcpiiaaGreatDoor
def HRes.fs : HRes → Fs | .ok l _ => l | .bad _ => []
def HRes.rest : HRes → B | .ok _ r => r | .bad _ => []
def HRes.e : HRes → Int | .ok _ _ => 0 | .bad _ => 3
def HRes.p : HRes → Int | .ok _ _ => -1 | .bad n => n
def CRes.fs : CRes → Fs | .ok l => l | .bad _ => []
def CRes.e : CRes → Int | .ok _ => 0 | .bad _ => 1
def CRes.p : CRes → Int | .ok _ => -1 | .bad n => n
end Go.Proofs.YtignjjnflcpiiaaGreatDoor
namespace Go.Proofs.YtignjjnflcpiiaaGreatDoor
open Go.RowKit
set_option maxRecDepth 100000
section
variable {C : Cx} {σ : St}
theorem weak_boxany (id : Nat) {v : AV} (ho : σ.heap id = some (.box [v])) : Weak C σ (σ.set id (some (.box [.any]))) := fun γ a w s => by
  refine ⟨γ, ?_⟩
  refine s.update ho (.box [.any]) rfl rfl rfl (Nat.le_refl _) (fun _ _ _ => rfl) ?_
  obtain ⟨b, c, ty, h1, h2, h3, h4⟩ := s.obj id _ ho
  refine ⟨b, c, ty, h1, h2, h3, fun j hj => ?_⟩
  obtain ⟨u, hu, _⟩ := h4 j hj
  refine ⟨u, hu, ?_⟩
  have : j = 0 := by simpa using hj
  subst this
  exact .any _ _
end
theorem tri_postE {C : Cx} {c : Code} {σ : St} {Q : Exit → St → Prop} (h : Tri C c σ (fun e σ => ∃ σ', Weak C σ σ' ∧ Q e σ')) : Tri C c σ Q := fun γ a w s => by
  refine wp_mono (h γ a w s) ?_
  rintro e a w ⟨γ, σ, ⟨σ', hw, hq⟩, r⟩
  obtain ⟨γ', r'⟩ := hw γ a w r
  exact ⟨γ', σ', hq, r'⟩
end Go.Proofs.YtignjjnflcpiiaaGreatDoor
