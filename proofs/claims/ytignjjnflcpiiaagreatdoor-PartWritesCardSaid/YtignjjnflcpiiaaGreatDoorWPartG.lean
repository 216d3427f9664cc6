import Derived.Test.YtignjjnflcpiiaaGreatDoorWG20
import Derived.Test.YtignjjnflcpiiaaGreatDoorWPartR
import Derived.Test.YtignjjnflcpiiaaGreatDoorWVm5
set_option linter.unusedVariables false
set_option linter.unusedSimpArgs false
set_option maxHeartbeats 1000000
namespace Go.Proofs.YtignjjnflcpiiaaGreatDoor
open Go.RowKit
attribute [local irreducible] Tri Steps Qd Wr Weak CPure CEff
set_option maxRecDepth 100000
theorem q_indexP {C : Cx} {σ : St} {ty : TypeId} {pos : String} {af : Array Edge} {g : Option (Nat × Bool)} {x y : Operand} {t : TypeId} {d : Option Nat} {k : IntKind} {i : Int} {u : List UInt8} {c : UInt8} {i' : Nat} (hx : σ.ev x = .str u) (hy : σ.ev y = .int k i) (hi : i = (i' : Int)) (ht : C.P.underlying t = some .string) (hg : u[i']? = some c) :
    Qd C ⟨d, .index t x y, ty, pos, af, g⟩ σ (.int .u8 c.toNat) := by
  subst hi
  exact q_index (c := c) hx hy ht (by omega) (by rw [Int.toNat_natCast]; exact hg)
def OursVar (w : World) : Prop := w.cell? ⟨1, 0, none⟩ = some (.string ⟨ctN.toArray⟩) ∧ w.cell? ⟨1, 1, none⟩ = some (.string ⟨ceN.toArray⟩)
noncomputable def gxo : Gx := { gx with G := fun w => (GOk w ∧ ErrVar w) ∧ OursVar w, hG := fun w w' h hw => ⟨gxe.hG w w' h.1 hw, cell_low h.2.1 (by decide) hw, cell_low h.2.2 (by decide) hw⟩ }
theorem CPure.o {f : FuncId} {az : List AV} {res : AV} (h : CPure gx f az res) : CPure gxo f az res := h.sub fun _ h => h.1.1
theorem CPure.eo {f : FuncId} {az : List AV} {res : AV} (h : CPure gxe f az res) : CPure gxo f az res := CPure.sub (X := gxe) h fun _ h => h.1
theorem CEff.o {f : FuncId} {o : AObj} {az : List AV} {o' : Option AObj} {res : AV} (h : CEff gx f o az o' res) : CEff gxo f o az o' res := h.sub fun _ h => h.1.1
theorem ours0 : ∀ w, gxo.G w → w.cell? ⟨1, 0, none⟩ = some (.string ⟨ctN.toArray⟩) := fun w h => h.2.1
theorem ours1 : ∀ w, gxo.G w → w.cell? ⟨1, 1, none⟩ = some (.string ⟨ceN.toArray⟩) := fun w h => h.2.2
theorem tell_no_c (e : Int) : CPure gxe 16 [.iface 28 (.int .i64 e)] (.int .i64 e) := by
  unfold CPure
  intro w vs hG hn hl hr
  obtain ⟨v0, rfl⟩ : ∃ a, vs = [a] := by
    match vs, hl with
    | [a], _ => exact ⟨a, rfl⟩
  obtain ⟨y, h0, h9⟩ := Rep.iface_inv (hr 0 (by simp) (by simp))
  have h9 := Rep.int_inv h9
  simp only [List.getElem_cons_zero] at h0
  subst h9
  subst h0
  exact (tell_any _ e (-1) w (.inr (.inl ⟨rfl, rfl⟩)) hG.2).mono fun x w' h => ⟨_, h.1, h.2, .int _ _ _⟩
theorem hpre_c (s p : B) : CPure gx 41 [.str s, .str p] (.bool (p.isPrefixOf s)) :=
  cpure_val rfl rfl fun w _ => (Tryz.strings_HasPrefix ⟨s.toArray⟩ ⟨p.toArray⟩ w).mono fun e w' h => ⟨h.1, h.2 ▸ ext_refl w⟩
theorem hsuf_c (s p : B) (hs : s.length ≤ 9223372036854775807) : CPure gx 21 [.str s, .str p] (.bool (p.isSuffixOf s)) :=
  cpure_val rfl rfl fun w _ => (Tryz.strings_HasSuffix ⟨s.toArray⟩ ⟨p.toArray⟩ w (by rw [sizeMk]; exact hs)).mono fun e w' h => ⟨h.1, h.2 ▸ ext_refl w⟩
theorem suf_one (init : B) (c d : UInt8) : ([d] : B).isSuffixOf (init ++ [c]) = (d == c) := by
  rw [Bool.eq_iff_iff, List.isSuffixOf_iff_suffix, beq_iff_eq]
  constructor
  · rintro ⟨t, ht⟩
    have := congrArg List.getLast? ht
    simpa using this
  · rintro rfl
    exact ⟨init, rfl⟩
theorem getAV_of (l : Fs) (s n : B) (h : lowB s = n) : getAV l s = match getF l n with
    | some v => .tup [.str v, .bool true]
    | none => .tup [.str [], .bool false] := by
  subst h
  unfold getAV getF
  cases l.find? (fun f => decide (lowB f.1 = lowB s)) <;> rfl
theorem getP_of (l : Fs) : getP l bndN = match bndVal l with
    | some v => .tup [.str v, .bool true]
    | none => .tup [.str [], .bool false] := by
  unfold getP bndVal
  cases l.find? (fun f => decide (f.1 = bndN)) <;> rfl
theorem bndVal_le {l : Fs} (hl : Small l) {b : B} (h : bndVal l = some b) : b.length ≤ 1000000 := by
  unfold bndVal at h
  cases hf : l.find? (fun p => decide (p.1 = bndN)) with
  | none => rw [hf] at h; cases h
  | some f =>
    rw [hf] at h
    cases h
    exact (hl.one f (List.mem_of_find?_eq_some hf)).2
def bdAV : Option (Option B) → AV
  | none => .tup [.str [], .bool false, .iface 28 (.int .i64 3)]
  | some none => .tup [.str [], .bool false, .nili]
  | some (some b) => .tup [.str b, .bool true, .nili]
def mnAV : Option (Option B) → AV
  | none => .tup [.str [], .bool false, .int .i64 3]
  | some none => .tup [.str [], .bool false, .int .i64 0]
  | some (some b) => .tup [.str b, .bool true, .int .i64 0]
theorem bndGood_at (init : B) (c : UInt8) : bndGood (init ++ [c]) = (decide (init.length + 1 ≤ 70) && !(c == 32)) := by
  unfold bndGood
  have h1 : 1 ≤ (init ++ [c]).length := by simp
  have h2 : (init ++ [c]).getLast? = some c := by simp
  rw [h2]
  simp [h1]
theorem bnd_split {b : B} (h : ¬ b = []) : ∃ init c, b = init ++ [c] := ⟨b.dropLast, b.getLast h, (List.dropLast_concat_getLast h).symm⟩
set_option maxHeartbeats 8000000 in
theorem boundary_c (l : Fs) (hl : Small l) : CPure gxo 75 [.ro false 2 (fieldRows l)] (bdAV (bndF l)) := by
  refine cpure_of Tryz.func75 rfl (Nat.le_of_ble_eq_true rfl) rfl (fun w hw => ?_)
  have G1 := (get_c l ctN hl (by decide)).o
  rw [getAV_of l ctN ctB (by decide)] at G1
  unfold bndF
  cases hv : getF l ctB with
  | none =>
    rw [hv] at G1
    repeat' (first | refine a_f ?_ | refine st_nil ?_ | refine tri_seq ?_ | refine tri_region rfl ?_ | refine a_draw ?_ | (apply st_r rfl; case hq => first | exact q_idxg (sz := 1) (by conv => lhs; whnf) (by conv => lhs; whnf) Tryz.underlying109 (by kernel_rfl) (by omega) (by omega) | exact q_loadg (by rfl) ours0 (fun _ _ _ _ => .str _ _) (by show scalB Tryz.prog _ = true; decide +kernel) | exact q_call G1 (hcf := Tryz.call133) rfl rfl | exact a_q) | (apply st_rif rfl; (case hq => first | exact a_i); all_goals (intro _; try (exfalso; first | omega | contradiction))) | (apply st_rw rfl rfl; case hq => first | exact a_store) | refine tri_true rfl ?_ | refine tri_false rfl ?_ | refine tri_block ?_ | refine tri_skip ?_ | refine tri_ret ?_ | refine tri_exit ?_)
    refine And.intro trivial ?_
    conv => lhs; whnf
    rfl
  | some v =>
    rw [hv] at G1
    obtain ⟨f, hfm, _, rfl⟩ := getF_mem hv
    have hvl := (hl.one f hfm).2
    have K1 := (kread_c' f.2 hvl).o
    have hps := kL_small f.2 hvl
    cases hk : readK tokC blk lowC f.2 with
    | none =>
      rw [hk] at K1
      simp only [kM, kL, kErr] at K1
      simp only [hk]
      repeat' (first | refine a_f ?_ | refine st_nil ?_ | refine tri_seq ?_ | refine tri_region rfl ?_ | refine a_draw ?_ | (apply st_r rfl; case hq => first | exact q_idxg (sz := 1) (by conv => lhs; whnf) (by conv => lhs; whnf) Tryz.underlying109 (by kernel_rfl) (by omega) (by omega) | exact q_loadg (by rfl) ours0 (fun _ _ _ _ => .str _ _) (by show scalB Tryz.prog _ = true; decide +kernel) | exact q_call G1 (hcf := Tryz.call133) rfl rfl | exact q_call K1 (hcf := Tryz.call26) rfl rfl | exact q_neif (by conv => lhs; whnf) Tryz.underlying32 | exact a_q) | (apply st_rif rfl; (case hq => first | exact a_i); all_goals (intro _; try (exfalso; first | omega | contradiction))) | (apply st_rw rfl rfl; case hq => first | exact a_store) | refine tri_true rfl ?_ | refine tri_false rfl ?_ | refine tri_block ?_ | refine tri_skip ?_ | refine tri_ret ?_ | refine tri_exit ?_)
      refine And.intro trivial ?_
      conv => lhs; whnf
      rfl
    | some q =>
      obtain ⟨m, ps⟩ := q
      rw [hk] at K1 hps
      simp only [kM, kL, kErr] at K1 hps
      have H1 := (hpre_c m mulB).o
      have P1 := (pget_c ps bndN hps).o
      rw [getP_of] at P1
      simp only [hk]
      cases hm : mulB.isPrefixOf m with
      | false =>
        rw [hm] at H1
        repeat' (first | refine a_f ?_ | refine st_nil ?_ | refine tri_seq ?_ | refine tri_region rfl ?_ | refine a_draw ?_ | (apply st_r rfl; case hq => first | exact q_idxg (sz := 1) (by conv => lhs; whnf) (by conv => lhs; whnf) Tryz.underlying109 (by kernel_rfl) (by omega) (by omega) | exact q_loadg (by rfl) ours0 (fun _ _ _ _ => .str _ _) (by show scalB Tryz.prog _ = true; decide +kernel) | exact q_call G1 (hcf := Tryz.call133) rfl rfl | exact q_call K1 (hcf := Tryz.call26) rfl rfl | exact q_call H1 (hcf := Tryz.call41) rfl rfl | exact q_nenil (by conv => lhs; whnf) Tryz.underlying32 | exact a_q) | (apply st_rif rfl; (case hq => first | exact a_i); all_goals (intro _; try (exfalso; first | omega | contradiction))) | (apply st_rw rfl rfl; case hq => first | exact a_store) | refine tri_true rfl ?_ | refine tri_false rfl ?_ | refine tri_block ?_ | refine tri_skip ?_ | refine tri_ret ?_ | refine tri_exit ?_)
        refine And.intro trivial ?_
        conv => lhs; whnf
        rfl
      | true =>
        rw [hm] at H1
        cases hb : bndVal ps with
        | none =>
          rw [hb] at P1
          repeat' (first | refine a_f ?_ | refine st_nil ?_ | refine tri_seq ?_ | refine tri_region rfl ?_ | refine a_draw ?_ | (apply st_r rfl; case hq => first | exact q_idxg (sz := 1) (by conv => lhs; whnf) (by conv => lhs; whnf) Tryz.underlying109 (by kernel_rfl) (by omega) (by omega) | exact q_loadg (by rfl) ours0 (fun _ _ _ _ => .str _ _) (by show scalB Tryz.prog _ = true; decide +kernel) | exact q_call G1 (hcf := Tryz.call133) rfl rfl | exact q_call K1 (hcf := Tryz.call26) rfl rfl | exact q_call H1 (hcf := Tryz.call41) rfl rfl | exact q_nenil (by conv => lhs; whnf) Tryz.underlying32 | exact q_call P1 (hcf := Tryz.call134) rfl rfl | exact a_q) | (apply st_rif rfl; (case hq => first | exact a_i); all_goals (intro _; try (exfalso; first | omega | contradiction))) | (apply st_rw rfl rfl; case hq => first | exact a_store) | refine tri_true rfl ?_ | refine tri_false rfl ?_ | refine tri_block ?_ | refine tri_skip ?_ | refine tri_ret ?_ | refine tri_exit ?_)
          refine And.intro trivial ?_
          conv => lhs; whnf
          rfl
        | some b =>
          rw [hb] at P1
          have hbl := bndVal_le hps hb
          simp only
          by_cases h0 : b = []
          · subst h0
            rw [show bndGood [] = false from rfl]
            repeat' (first | refine a_f ?_ | refine st_nil ?_ | refine tri_seq ?_ | refine tri_region rfl ?_ | refine a_draw ?_ | (apply st_r rfl; case hq => first | exact q_idxg (sz := 1) (by conv => lhs; whnf) (by conv => lhs; whnf) Tryz.underlying109 (by kernel_rfl) (by omega) (by omega) | exact q_loadg (by rfl) ours0 (fun _ _ _ _ => .str _ _) (by show scalB Tryz.prog _ = true; decide +kernel) | exact q_call G1 (hcf := Tryz.call133) rfl rfl | exact q_call K1 (hcf := Tryz.call26) rfl rfl | exact q_call H1 (hcf := Tryz.call41) rfl rfl | exact q_nenil (by conv => lhs; whnf) Tryz.underlying32 | exact q_call P1 (hcf := Tryz.call134) rfl rfl | exact a_q) | (apply st_rif rfl; (case hq => first | exact a_i); all_goals (intro _; try (exfalso; first | omega | contradiction))) | (apply st_rw rfl rfl; case hq => first | exact a_store) | refine tri_true rfl ?_ | refine tri_false rfl ?_ | refine tri_block ?_ | refine tri_skip ?_ | refine tri_ret ?_ | refine tri_exit ?_)
            all_goals first
              | (refine And.intro trivial ?_
                 conv => lhs; whnf
                 rfl)
              | (exfalso; simp_all; done)
          · obtain ⟨init, c, hbe⟩ := bnd_split h0
            have hbg := bndGood_at init c
            have S1 := (hsuf_c b [32] (by omega)).o
            have hsuf := suf_one init c 32
            have hlen : b.length = init.length + 1 := by rw [hbe]; simp
            rw [← hbe] at hbg hsuf
            rw [hsuf] at S1
            rw [hbg]
            by_cases h70 : 70 < b.length
            · rw [show (decide (init.length + 1 ≤ 70) && !(c == 32)) = false by rw [decide_eq_false (by omega)]; rfl]
              clear hbg hsuf hbe
              repeat' (first | refine a_f ?_ | refine st_nil ?_ | refine tri_seq ?_ | refine tri_region rfl ?_ | refine a_draw ?_ | (apply st_r rfl; case hq => first | exact q_idxg (sz := 1) (by conv => lhs; whnf) (by conv => lhs; whnf) Tryz.underlying109 (by kernel_rfl) (by omega) (by omega) | exact q_loadg (by rfl) ours0 (fun _ _ _ _ => .str _ _) (by show scalB Tryz.prog _ = true; decide +kernel) | exact q_call G1 (hcf := Tryz.call133) rfl rfl | exact q_call K1 (hcf := Tryz.call26) rfl rfl | exact q_call H1 (hcf := Tryz.call41) rfl rfl | exact q_nenil (by conv => lhs; whnf) Tryz.underlying32 | exact q_call P1 (hcf := Tryz.call134) rfl rfl | exact a_q) | (apply st_rif rfl; (case hq => first | exact a_i); all_goals (intro _; try (exfalso; first | omega | contradiction))) | (apply st_rw rfl rfl; case hq => first | exact a_store) | refine tri_true rfl ?_ | refine tri_false rfl ?_ | refine tri_block ?_ | refine tri_skip ?_ | refine tri_ret ?_ | refine tri_exit ?_)
              refine And.intro trivial ?_
              conv => lhs; whnf
              rfl
            · have e1 : (decide (init.length + 1 ≤ 70) && !(c == 32)) = !((32 : UInt8) == c) := by
                rw [decide_eq_true (show init.length + 1 ≤ 70 by omega), Bool.true_and, Bool.beq_comm]
              rw [e1]
              clear e1 hbg hsuf hbe
              generalize ((32 : UInt8) == c) = q at S1 ⊢
              cases q
              all_goals
                repeat' (first | refine a_f ?_ | refine st_nil ?_ | refine tri_seq ?_ | refine tri_region rfl ?_ | refine a_draw ?_ | (apply st_r rfl; case hq => first | exact q_idxg (sz := 1) (by conv => lhs; whnf) (by conv => lhs; whnf) Tryz.underlying109 (by kernel_rfl) (by omega) (by omega) | exact q_loadg (by rfl) ours0 (fun _ _ _ _ => .str _ _) (by show scalB Tryz.prog _ = true; decide +kernel) | exact q_call G1 (hcf := Tryz.call133) rfl rfl | exact q_call K1 (hcf := Tryz.call26) rfl rfl | exact q_call H1 (hcf := Tryz.call41) rfl rfl | exact q_nenil (by conv => lhs; whnf) Tryz.underlying32 | exact q_call P1 (hcf := Tryz.call134) rfl rfl | exact q_call S1 (hcf := Tryz.call21) rfl rfl | exact a_q) | (apply st_rif rfl; (case hq => first | exact a_i); all_goals (intro _; try (exfalso; first | omega | contradiction))) | (apply st_rw rfl rfl; case hq => first | exact a_store) | refine tri_true rfl ?_ | refine tri_false rfl ?_ | refine tri_block ?_ | refine tri_skip ?_ | refine tri_ret ?_ | refine tri_exit ?_)
                refine And.intro trivial ?_
                conv => lhs; whnf
                rfl
end Go.Proofs.YtignjjnflcpiiaaGreatDoor
