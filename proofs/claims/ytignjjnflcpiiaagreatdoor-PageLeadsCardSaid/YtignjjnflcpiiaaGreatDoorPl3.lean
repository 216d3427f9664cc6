/- PageTurns: what its walk is told of. -/
import Derived.Test.YtignjjnflcpiiaaGreatDoorPageU
import Derived.Test.YtignjjnflcpiiaaGreatDoorVm5
import Derived.Test.YtignjjnflcpiiaaGreatDoorPl2
import Derived.Test.YtignjjnflcpiiaaGreatDoorKindA
import Derived.Test.YtignjjnflcpiiaaGreatDoorPlain1
import Derived.Test.YtignjjnflcpiiaaGreatDoorHeadF
set_option linter.unusedVariables false
set_option linter.unusedSimpArgs false
set_option maxHeartbeats 1000000
namespace Go.Proofs.YtignjjnflcpiiaaGreatDoor
open Go.RowKit
attribute [local irreducible] Tri Steps Qd Wr Weak CPure CEff CNew CutN AllB Behind
set_option maxRecDepth 100000

theorem suffix_c (s p : B) (hs : s.length ≤ 9223372036854775807) : CPure gxs 21 [.str s, .str p] (.bool (Lib.hasSuffix s p)) :=
  cpure_val rfl rfl fun w _ => (Tryz.strings_HasSuffix ⟨s.toArray⟩ ⟨p.toArray⟩ w (by rw [sizeMk]; exact hs)).mono fun e w' h => ⟨h.1, h.2 ▸ ext_refl w⟩
set_option maxHeartbeats 4000000 in
theorem linked_c : CPure gxs 18 [] (.bool true) := by
  refine cpure_of Tryz.func18 rfl (Nat.le_of_ble_eq_true rfl) rfl (fun w hw => ?_)
  have R1 := links_c linkS (by decide)
  rw [linksF_linkS] at R1
  have R1' : CPure gxs 19 [.str linkS] (.ro true 3 [[.int .i64 9, .int .i64 7, .str [120, 38, 121]], [.int .i64 27, .int .i64 1, .str [122]]]) := R1
  repeat' (first | refine a_f ?_ | refine st_nil ?_ | refine tri_seq ?_ | refine tri_region rfl ?_ | refine a_draw ?_ | (apply st_r rfl; case hq => first | exact q_call R1' (hcf := Tryz.call19) rfl rfl | exact q_idxro (by conv => lhs; whnf) (by conv => lhs; whnf) (by first | exact Tryz.underlying22 | exact Tryz.underlying23 | exact Tryz.underlying43 | exact Tryz.underlying44 | exact Tryz.underlying51 | exact Tryz.underlying86 | exact Tryz.underlying191 | exact Tryz.underlying209 | exact Tryz.underlying234 | exact Tryz.underlying270 | exact Tryz.underlying281 | exact Tryz.underlying344) (by kernel_rfl) (by omega) rfl | exact q_loadr (by conv => lhs; whnf) (by conv => lhs; whnf) (by show scalB Tryz.prog _ = true; decide +kernel) (fun _ => rfl) | exact a_lens | exact a_index | exact a_add | exact a_adds0 | exact a_addsc | exact a_adds | exact a_sub | exact a_slo | exact a_shi | exact a_slh | exact a_lensl | exact a_lenro | exact a_lennil | exact a_lenpts | exact a_field | exact a_fielde | exact a_fieldr | exact a_idxsl | exact a_load | exact a_loada | exact a_mki | exact a_build2 | exact a_build3 | exact a_build1 | exact a_build0 | exact a_bs1 | exact a_bs2 | exact a_bs3 | exact a_bs4 | exact a_bsa | exact a_boxr) | (apply st_rif rfl; (case hq => first | exact a_lss | exact a_gtr | exact a_eql | exact a_neq | exact a_eqls0 | exact a_neqs0 | exact a_eqls | exact a_neqs | exact a_leq | exact a_geq); all_goals (intro _; try (exfalso; first | omega | contradiction))) | (apply st_rw rfl rfl; case hq => first | exact a_store) | refine tri_true rfl ?_ | refine tri_false rfl ?_ | refine tri_block ?_ | refine tri_skip ?_ | refine tri_ret ?_ | refine tri_exit ?_)
  all_goals first
    | (refine And.intro trivial ?_
       conv => lhs; whnf)
    | (exfalso; exact ‹¬ _› rfl)
    | (exfalso; simp_all; done)
def pick (vs : List B) (j : Nat) : B := vs.getD (j % vs.length) []
def picks (vs : List B) (n : Nat) : List B := (List.range n).map (pick vs)
theorem picks_len (vs : List B) (n : Nat) : (picks vs n).length = n := by simp [picks]
theorem picks_take {vs : List B} {n i : Nat} (h : i < n) : nmRows ((picks vs n).take i) ++ [[.str (pick vs i)]] = nmRows ((picks vs n).take (i + 1)) := by
  rw [List.take_add_one]
  simp [nmRows, picks, h]
theorem vals_take {l : List Lk} {i : Nat} {p g : Nat} {v : B} (h : l[i]? = some (p, g, v)) : nmRows ((l.map (·.2.2)).take i) ++ [[.str v]] = nmRows ((l.map (·.2.2)).take (i + 1)) := by
  rw [List.take_add_one]
  simp [nmRows, h]
theorem pick_mem {vs : List B} (h : 0 < vs.length) (j : Nat) : pick vs j ∈ vs := by
  have hj : j % vs.length < vs.length := Nat.mod_lt _ h
  unfold pick
  rw [List.getD_eq_getElem?_getD, List.getElem?_eq_getElem hj]
  exact List.getElem_mem hj
theorem pick_nil (j : Nat) : pick [] j = [] := by simp [pick]
theorem pick_le {vs : List B} (h : ∀ v ∈ vs, v.length ≤ 1500) (j : Nat) : (pick vs j).length ≤ 1500 := by
  by_cases h0 : 0 < vs.length
  · exact h _ (pick_mem h0 j)
  · have : vs = [] := List.eq_nil_of_length_eq_zero (by omega)
    subst this; rw [pick_nil]; decide
theorem pick_row {vs : List B} (h : 0 < vs.length) (j : Nat) : (nmRows vs)[((j : Int) % ((nmRows vs).length : Int)).toNat]? = some [.str (pick vs j)] := by
  have hj : j % vs.length < vs.length := Nat.mod_lt _ h
  rw [nm_len, ← Int.natCast_emod, Int.toNat_natCast, nmRows, List.getElem?_map, List.getElem?_eq_getElem hj, pick, List.getD_eq_getElem?_getD, List.getElem?_eq_getElem hj]
  rfl
theorem suf_app (z x : B) : Lib.hasSuffix (z ++ x) x = true := by
  unfold Lib.hasSuffix
  simp
theorem tk_all {P : B → Prop} {vs : List B} {i : Nat} (hi : i < vs.length) (h : ∀ v ∈ vs.take i, P v) (hv : P vs[i]) : ∀ v ∈ vs.take (i + 1), P v := by
  intro v hm
  rw [List.take_add_one, List.getElem?_eq_getElem hi] at hm
  rcases List.mem_append.1 hm with hm | hm
  · exact h v hm
  · rw [Option.toList_some, List.mem_singleton] at hm; rw [hm]; exact hv
theorem lk_at2 {l : List Lk} {i : Nat} (h : i < l.length) : ∃ x, l[i]? = some x ∧ l.drop i = x :: l.drop (i + 1) ∧ (lkRows l)[(i : Int).toNat]? = some [.int .i64 x.1, .int .i64 x.2.1, .str x.2.2] := by
  refine ⟨l[i], List.getElem?_eq_getElem h, List.drop_eq_getElem_cons h, ?_⟩
  rw [Int.toNat_natCast, lkRows, List.getElem?_map, List.getElem?_eq_getElem h]; rfl
theorem vals_at {l : List Lk} {i p g : Nat} {v : B} (h : l[i]? = some (p, g, v)) : (nmRows (l.map (·.2.2)))[(i : Int).toNat]? = some [.str v] := by
  rw [Int.toNat_natCast, nmRows, List.getElem?_map, List.getElem?_map, h]; rfl
def Rs20 : List (List Nat) := [[], [10], [9, 10], [8, 9, 10], [7, 8, 9, 10], [5, 7, 8, 9, 10], [6, 7, 8, 9, 10], [5, 6, 7, 8, 9, 10], [4], [4, 10], [4, 9, 10], [4, 8, 9, 10], [4, 7, 8, 9, 10], [4, 5, 7, 8, 9, 10], [4, 6, 7, 8, 9, 10], [4, 5, 6, 7, 8, 9, 10]]
abbrev S2 (s : B) (vs : List B) (L : List Lk) (i : Nat) : St := st [(0, .str s), (1, .ro false 1 (nmRows vs)), (4, .bool false), (7, .ro true 3 (lkRows L)), (8, .sl 101), (9, .sl 102), (10, .int .i64 i)] [(101, .rows 9 1 (nmRows ((picks vs L.length).take i))), (102, .rows 9 1 (nmRows ((L.map (·.2.2)).take i)))]
abbrev S3 (s t u : B) (L M O : List Lk) (A D : List B) (x : Nat × Nat × Nat) : St := st [(0, .str s), (4, .bool false), (7, .ro true 3 (lkRows L)), (8, .ro false 1 (nmRows A)), (9, .ro false 1 (nmRows D)), (12, .str t), (14, .str u), (16, .ro true 3 (lkRows M)), (17, .ro true 3 (lkRows O)), (18, .int .i64 x.2.1), (19, .int .i64 x.2.2), (20, .int .i64 x.1)] []
end Go.Proofs.YtignjjnflcpiiaaGreatDoor
namespace Go.Proofs.YtignjjnflcpiiaaGreatDoor
open Go.RowKit
set_option maxRecDepth 100000

theorem repBack_len (s : B) : ∀ (L : List Lk) (vs : List B) (k : Nat), LkOk s.length k L → k ≤ (repBack s L vs).length ∧ (repBack s L vs).length ≤ s.length + wsum vs
  | [], vs, k, h => by
    have h : k ≤ s.length := h
    simp only [repBack]; omega
  | x :: L, [], k, h => by
    obtain ⟨h1, h2, h3, h4⟩ := h
    simp only [repBack]; omega
  | x :: L, v :: vs, k, h => by
    obtain ⟨h1, h2, h3, h4⟩ := h
    obtain ⟨a, b⟩ := repBack_len s L vs _ h4
    have hw := wrV_len (repBack s L vs) x.1 v
    simp only [repBack, wsum, List.length_append, List.length_take, List.length_drop]; omega
theorem lkOk_drop {n : Nat} : ∀ (L : List Lk) (k i : Nat), LkOk n k L → ∃ k', LkOk n k' (L.drop i)
  | [], k, i, h => ⟨k, by simpa using h⟩
  | x :: L, k, 0, h => ⟨k, h⟩
  | x :: L, k, i + 1, h => lkOk_drop L _ i h.2.2.2
theorem wsum_drop : ∀ (vs : List B) (i : Nat), wsum (vs.drop i) ≤ wsum vs
  | [], i => by simp
  | v :: vs, 0 => Nat.le_refl _
  | v :: vs, i + 1 => by
    have := wsum_drop vs i
    rw [List.drop_succ_cons, wsum]; omega
section
attribute [local irreducible] Tri Steps Qd Wr Weak CPure CEff CNew CutN AllB Behind
set_option maxHeartbeats 8000000 in
theorem rreplace_c (s : B) (vs : List B) (hs : s.length ≤ 1000000) (hvl : vs.length ≤ 1000000) (hv : ∀ v ∈ vs, v.length ≤ 1000000) : CPure gx 29 [.str s, .ro false 1 (nmRows vs)]
    (if vs.length = (linksF s.length s).length then .tup [.str (repBack s (linksF s.length s) vs), .int .i64 0] else .tup [.str [], .int .i64 1]) := by
  refine cpure_of Tryz.func29 rfl (Nat.le_of_ble_eq_true rfl) rfl (fun w hw => ?_)
  have L1 := rlinks_c s (by omega)
  have hnv := nm_len vs
  have hll := linksF_len s
  have hok := linksF_ok s
  generalize linksF s.length s = L at L1 hll hok
  have hlk := lk_len L
  by_cases hlen : vs.length = L.length
  · rw [if_pos hlen]
    repeat' (first | refine a_f ?_ | refine st_nil ?_ | refine tri_seq ?_ | refine tri_region rfl ?_ | refine a_draw ?_ | (apply st_r rfl; case hq => first | exact q_call L1 (hcf := Tryz.call27) rfl rfl | exact a_lens | exact a_index | exact a_add | exact a_adds0 | exact a_addsc | exact a_adds | exact a_sub | exact a_slo | exact a_shi | exact a_slh | exact a_lensl | exact a_lenro | exact a_lennil | exact a_lenpts | exact a_field | exact a_fielde | exact a_fieldr | exact a_idxsl | exact a_load | exact a_loada | exact a_mki | exact a_build2 | exact a_build3 | exact a_build1 | exact a_build0 | exact a_bs1 | exact a_bs2 | exact a_bs3 | exact a_bs4 | exact a_bsa | exact a_boxr) | (apply st_rif rfl; (case hq => first | exact a_lss | exact a_gtr | exact a_eql | exact a_neq | exact a_eqls0 | exact a_neqs0 | exact a_eqls | exact a_neqs | exact a_leq | exact a_geq); all_goals (intro _; try (exfalso; first | omega | contradiction))) | (apply st_rw rfl rfl; case hq => first | exact a_store) | refine tri_true rfl ?_ | refine tri_false rfl ?_ | refine tri_block ?_ | refine tri_skip ?_ | refine tri_ret ?_ | refine tri_exit ?_)
    refine tri_loop (fun (x : Nat) => x ≤ L.length) (fun x => st [(0, .str (repBack s (L.drop x) (vs.drop x))), (1, .ro false 1 (nmRows vs)), (6, .ro true 3 (lkRows L)), (7, .int .i64 ((x : Int) - 1))] []) (fun x => x) L.length (Nat.le_refl _) ?hw (fun x hx => ?_)
    case hw => exact weak_st ⟨by rw [List.drop_eq_nil_of_le (Nat.le_refl _), List.drop_eq_nil_of_le (by omega)]; rfl, rfl, rfl, congrArg (AV.int .i64) (by rw [hlk]), trivial⟩ trivial
    cases x with
    | zero =>
      change Tri _ _ (st [(0, .str (repBack s L vs)), (1, .ro false 1 (nmRows vs)), (6, .ro true 3 (lkRows L)), (7, .int .i64 (-1))] []) _
      repeat' (first | refine a_f ?_ | refine st_nil ?_ | refine tri_seq ?_ | refine tri_region rfl ?_ | refine a_draw ?_ | (apply st_r rfl; case hq => first | exact a_lens | exact a_index | exact a_add | exact a_adds0 | exact a_addsc | exact a_adds | exact a_sub | exact a_slo | exact a_shi | exact a_slh | exact a_lensl | exact a_lenro | exact a_lennil | exact a_lenpts | exact a_field | exact a_fielde | exact a_fieldr | exact a_idxsl | exact a_load | exact a_loada | exact a_mki | exact a_build2 | exact a_build3 | exact a_build1 | exact a_build0 | exact a_bs1 | exact a_bs2 | exact a_bs3 | exact a_bs4 | exact a_bsa | exact a_boxr) | (apply st_rif rfl; (case hq => first | exact a_lss | exact a_gtr | exact a_eql | exact a_neq | exact a_eqls0 | exact a_neqs0 | exact a_eqls | exact a_neqs | exact a_leq | exact a_geq); all_goals (intro _; try (exfalso; first | omega | contradiction))) | (apply st_rw rfl rfl; case hq => first | exact a_store) | refine tri_true rfl ?_ | refine tri_false rfl ?_ | refine tri_block ?_ | refine tri_skip ?_ | refine tri_ret ?_ | refine tri_exit ?_)
      refine And.intro trivial ?_
      conv => lhs; whnf
      try rfl
    | succ k =>
      have hx : k < L.length := hx
      obtain ⟨⟨p, lg, val⟩, hxi, hxd, hxr⟩ := lk_at2 hx
      have hvi : k < vs.length := by omega
      have hvr := nm_get hvi
      have hvd : vs.drop k = vs[k] :: vs.drop (k + 1) := List.drop_eq_getElem_cons hvi
      have hvle := hv vs[k] (List.getElem_mem hvi)
      generalize vs[k] = v at hvr hvd hvle
      obtain ⟨k', hk'⟩ := lkOk_drop L 0 k hok
      rw [hxd] at hk'
      obtain ⟨h1, h2, h3, h4⟩ := hk'
      simp only at h1 h2 h3 h4 hxr
      obtain ⟨c1, c2⟩ := repBack_len s (L.drop (k + 1)) (vs.drop (k + 1)) _ h4
      have hwd := wsum_drop vs (k + 1)
      have hws := wsum_le hv
      have hnew : repBack s (L.drop k) (vs.drop k) = (repBack s (L.drop (k + 1)) (vs.drop (k + 1))).take p ++ (wrV (repBack s (L.drop (k + 1)) (vs.drop (k + 1))) p v ++ (repBack s (L.drop (k + 1)) (vs.drop (k + 1))).drop (p + lg)) := by
        rw [hxd, hvd, repBack]
      show Tri _ _ (st [(0, .str (repBack s (L.drop (k + 1)) (vs.drop (k + 1)))), (1, .ro false 1 (nmRows vs)), (6, .ro true 3 (lkRows L)), (7, .int .i64 (((k + 1 : Nat) : Int) - 1))] []) _
      rw [show ((k + 1 : Nat) : Int) - 1 = (k : Int) by omega]
      generalize repBack s (L.drop (k + 1)) (vs.drop (k + 1)) = cur at *
      have E1 := rescape_c v hvle
      have hel := escB_le6 v
      have hg : cur[p - 1]? = some (cur.getD (p - 1) 0) := by
        rw [List.getD_eq_getElem?_getD, List.getElem?_eq_getElem (by omega)]; rfl
      have hwv : wrV cur p v = if cur.getD (p - 1) 0 = 34 ∨ cur.getD (p - 1) 0 = 39 then escB v else 34 :: (escB v ++ [34]) := rfl
      generalize cur.getD (p - 1) 0 = c at hg hwv
      have hc : c.toNat < 256 := c.toNat_lt
      have hal : (cur.take p).length ≤ cur.length := by rw [List.length_take]; omega
      have hzl : (cur.drop (p + lg)).length ≤ cur.length := by rw [List.length_drop]; omega
      have hae : cur.take p = cur.take p := rfl
      have hze : cur.drop (p + lg) = cur.drop (p + lg) := rfl
      generalize hA : cur.take p = A at hnew hal
      generalize hZ : cur.drop (p + lg) = Z at hnew hzl
      clear hae hze
      generalize escB v = E at *
      by_cases hq : c = 34 ∨ c = 39
      · have iq : (c.toNat : Int) = 34 ∨ (c.toNat : Int) = 39 := hq.imp (fun e => by rw [e]; rfl) (fun e => by rw [e]; rfl)
        rw [if_pos hq] at hwv
        rw [hwv, ← List.append_assoc] at hnew
        repeat' (first | refine a_f ?_ | refine st_nil ?_ | refine tri_seq ?_ | refine tri_region rfl ?_ | refine a_draw ?_ | (apply st_r rfl; case hq => first | exact q_idxro (by conv => lhs; whnf) (by conv => lhs; whnf) (by first | exact Tryz.underlying22 | exact Tryz.underlying23 | exact Tryz.underlying43 | exact Tryz.underlying44 | exact Tryz.underlying51 | exact Tryz.underlying86 | exact Tryz.underlying191 | exact Tryz.underlying209 | exact Tryz.underlying234 | exact Tryz.underlying270 | exact Tryz.underlying281 | exact Tryz.underlying344) (by kernel_rfl) (by omega) hxr | exact q_idxro (by conv => lhs; whnf) (by conv => lhs; whnf) (by first | exact Tryz.underlying22 | exact Tryz.underlying23 | exact Tryz.underlying43 | exact Tryz.underlying44 | exact Tryz.underlying51 | exact Tryz.underlying86 | exact Tryz.underlying191 | exact Tryz.underlying209 | exact Tryz.underlying234 | exact Tryz.underlying270 | exact Tryz.underlying281 | exact Tryz.underlying344) (by kernel_rfl) (by omega) hvr | exact q_loadar (n := 3) (by conv => lhs; whnf) (by conv => lhs; whnf) (by first | rfl | exact Nat.le_of_ble_eq_true rfl | exact Nat.succ_pos _ | decide) (by kernel_rfl) (fun _ => rfl) | exact q_loadr (by conv => lhs; whnf) (by conv => lhs; whnf) (by show scalB Tryz.prog _ = true; decide +kernel) (fun _ => rfl) | exact q_slice_hiE (n' := p) (l := A) (by conv => lhs; whnf) (by conv => lhs; whnf) (by rfl) (by kernel_rfl) (by omega) hA | exact q_slice_loE (n' := p + lg) (l := Z) (by conv => lhs; whnf) (by conv => lhs; whnf) (by omega) (by kernel_rfl) (by omega) hZ | exact q_indexE (i' := p - 1) (c := c) (by conv => lhs; whnf) (by conv => lhs; whnf) (by omega) (by kernel_rfl) hg | exact q_call E1 (hcf := Tryz.call31) rfl rfl | exact a_lens | exact a_index | exact a_add | exact a_adds0 | exact a_addsc | exact a_adds | exact a_sub | exact a_slo | exact a_shi | exact a_slh | exact a_lensl | exact a_lenro | exact a_lennil | exact a_lenpts | exact a_field | exact a_fielde | exact a_fieldr | exact a_idxsl | exact a_load | exact a_loada | exact a_mki | exact a_build2 | exact a_build3 | exact a_build1 | exact a_build0 | exact a_bs1 | exact a_bs2 | exact a_bs3 | exact a_bs4 | exact a_bsa | exact a_boxr) | (apply st_rif rfl; (case hq => first | exact a_lss | exact a_gtr | exact a_eql | exact a_neq | exact a_eqls0 | exact a_neqs0 | exact a_eqls | exact a_neqs | exact a_leq | exact a_geq); all_goals (intro _; try (exfalso; first | omega | contradiction))) | (apply st_rw rfl rfl; case hq => first | exact w_alloc 103 (by first | exact zAt | exact zFault | exact zField | exact zParam | exact zLink | exact zPart | exact zReader) rfl rfl rfl | exact a_store) | refine tri_true rfl ?_ | refine tri_false rfl ?_ | refine tri_block ?_ | refine tri_skip ?_ | refine tri_ret ?_ | refine tri_exit ?_)
        all_goals exact loop_next k (by omega) (weak_st ⟨congrArg AV.str hnew.symm, rfl, rfl, rfl, trivial⟩ trivial) (Nat.lt_succ_self k)
      · have iq : (c.toNat : Int) ≠ 34 ∧ (c.toNat : Int) ≠ 39 := ⟨fun e => hq (.inl (UInt8.toNat_inj.1 (by rw [show (34 : UInt8).toNat = 34 from rfl]; omega))), fun e => hq (.inr (UInt8.toNat_inj.1 (by rw [show (39 : UInt8).toNat = 39 from rfl]; omega)))⟩
        rw [if_neg hq] at hwv
        have hnew2 : repBack s (L.drop k) (vs.drop k) = A ++ ([34] ++ E ++ [34]) ++ Z := by rw [hnew, hwv]; simp
        clear hnew hwv
        repeat' (first | refine a_f ?_ | refine st_nil ?_ | refine tri_seq ?_ | refine tri_region rfl ?_ | refine a_draw ?_ | (apply st_r rfl; case hq => first | exact q_idxro (by conv => lhs; whnf) (by conv => lhs; whnf) (by first | exact Tryz.underlying22 | exact Tryz.underlying23 | exact Tryz.underlying43 | exact Tryz.underlying44 | exact Tryz.underlying51 | exact Tryz.underlying86 | exact Tryz.underlying191 | exact Tryz.underlying209 | exact Tryz.underlying234 | exact Tryz.underlying270 | exact Tryz.underlying281 | exact Tryz.underlying344) (by kernel_rfl) (by omega) hxr | exact q_idxro (by conv => lhs; whnf) (by conv => lhs; whnf) (by first | exact Tryz.underlying22 | exact Tryz.underlying23 | exact Tryz.underlying43 | exact Tryz.underlying44 | exact Tryz.underlying51 | exact Tryz.underlying86 | exact Tryz.underlying191 | exact Tryz.underlying209 | exact Tryz.underlying234 | exact Tryz.underlying270 | exact Tryz.underlying281 | exact Tryz.underlying344) (by kernel_rfl) (by omega) hvr | exact q_loadar (n := 3) (by conv => lhs; whnf) (by conv => lhs; whnf) (by first | rfl | exact Nat.le_of_ble_eq_true rfl | exact Nat.succ_pos _ | decide) (by kernel_rfl) (fun _ => rfl) | exact q_loadr (by conv => lhs; whnf) (by conv => lhs; whnf) (by show scalB Tryz.prog _ = true; decide +kernel) (fun _ => rfl) | exact q_slice_hiE (n' := p) (l := A) (by conv => lhs; whnf) (by conv => lhs; whnf) (by rfl) (by kernel_rfl) (by omega) hA | exact q_slice_loE (n' := p + lg) (l := Z) (by conv => lhs; whnf) (by conv => lhs; whnf) (by omega) (by kernel_rfl) (by omega) hZ | exact q_indexE (i' := p - 1) (c := c) (by conv => lhs; whnf) (by conv => lhs; whnf) (by omega) (by kernel_rfl) hg | exact q_call E1 (hcf := Tryz.call31) rfl rfl | exact q_adds (u := [34]) rfl (by conv => lhs; whnf) (by first | omega | (simp only [List.length_append, List.length_cons, List.length_nil, List.length_take, List.length_drop]; omega)) | exact q_adds (v := [34]) (by conv => lhs; whnf) rfl (by first | omega | (simp only [List.length_append, List.length_cons, List.length_nil, List.length_take, List.length_drop]; omega)) | exact a_lens | exact a_index | exact a_add | exact a_adds0 | exact a_addsc | exact a_adds | exact a_sub | exact a_slo | exact a_shi | exact a_slh | exact a_lensl | exact a_lenro | exact a_lennil | exact a_lenpts | exact a_field | exact a_fielde | exact a_fieldr | exact a_idxsl | exact a_load | exact a_loada | exact a_mki | exact a_build2 | exact a_build3 | exact a_build1 | exact a_build0 | exact a_bs1 | exact a_bs2 | exact a_bs3 | exact a_bs4 | exact a_bsa | exact a_boxr) | (apply st_rif rfl; (case hq => first | exact a_lss | exact a_gtr | exact a_eql | exact a_neq | exact a_eqls0 | exact a_neqs0 | exact a_eqls | exact a_neqs | exact a_leq | exact a_geq); all_goals (intro _; try (exfalso; first | omega | contradiction))) | (apply st_rw rfl rfl; case hq => first | exact w_alloc 103 (by first | exact zAt | exact zFault | exact zField | exact zParam | exact zLink | exact zPart | exact zReader) rfl rfl rfl | exact a_store) | refine tri_true rfl ?_ | refine tri_false rfl ?_ | refine tri_block ?_ | refine tri_skip ?_ | refine tri_ret ?_ | refine tri_exit ?_)
        all_goals exact loop_next k (by omega) (weak_st ⟨congrArg AV.str hnew2.symm, rfl, rfl, rfl, trivial⟩ trivial) (Nat.lt_succ_self k)
  · rw [if_neg hlen]
    repeat' (first | refine a_f ?_ | refine st_nil ?_ | refine tri_seq ?_ | refine tri_region rfl ?_ | refine a_draw ?_ | (apply st_r rfl; case hq => first | exact q_call L1 (hcf := Tryz.call27) rfl rfl | exact a_lens | exact a_index | exact a_add | exact a_adds0 | exact a_addsc | exact a_adds | exact a_sub | exact a_slo | exact a_shi | exact a_slh | exact a_lensl | exact a_lenro | exact a_lennil | exact a_lenpts | exact a_field | exact a_fielde | exact a_fieldr | exact a_idxsl | exact a_load | exact a_loada | exact a_mki | exact a_build2 | exact a_build3 | exact a_build1 | exact a_build0 | exact a_bs1 | exact a_bs2 | exact a_bs3 | exact a_bs4 | exact a_bsa | exact a_boxr) | (apply st_rif rfl; (case hq => first | exact a_lss | exact a_gtr | exact a_eql | exact a_neq | exact a_eqls0 | exact a_neqs0 | exact a_eqls | exact a_neqs | exact a_leq | exact a_geq); all_goals (intro _; try (exfalso; first | omega | contradiction))) | (apply st_rw rfl rfl; case hq => first | exact a_store) | refine tri_true rfl ?_ | refine tri_false rfl ?_ | refine tri_block ?_ | refine tri_skip ?_ | refine tri_ret ?_ | refine tri_exit ?_)
    refine And.intro trivial ?_
    conv => lhs; whnf
    try rfl
set_option maxHeartbeats 4000000 in
theorem fill_c (vs : List B) (n : Nat) (hn : n ≤ 1000000) (hvl : vs.length ≤ 1000000) : CPure gx 28 [.ro false 1 (nmRows vs), .int .i64 n] (.ro true 1 (nmRows (picks vs (min n 200)))) := by
  refine cpure_of Tryz.func28 rfl (Nat.le_of_ble_eq_true rfl) rfl (fun w hw => ?_)
  have hnv := nm_len vs
  repeat' (first | refine a_f ?_ | refine st_nil ?_ | refine tri_seq ?_ | refine tri_region rfl ?_ | refine a_draw ?_ | (apply st_r rfl; case hq => first | exact a_lens | exact a_index | exact a_add | exact a_adds0 | exact a_addsc | exact a_adds | exact a_sub | exact a_slo | exact a_shi | exact a_slh | exact a_lensl | exact a_lenro | exact a_lennil | exact a_lenpts | exact a_field | exact a_fielde | exact a_fieldr | exact a_idxsl | exact a_load | exact a_loada | exact a_mki | exact a_build2 | exact a_build3 | exact a_build1 | exact a_build0 | exact a_bs1 | exact a_bs2 | exact a_bs3 | exact a_bs4 | exact a_bsa | exact a_boxr) | (apply st_rif rfl; (case hq => first | exact a_lss | exact a_gtr | exact a_eql | exact a_neq | exact a_eqls0 | exact a_neqs0 | exact a_eqls | exact a_neqs | exact a_leq | exact a_geq); all_goals (intro _; try (exfalso; first | omega | contradiction))) | (apply st_rw rfl rfl; case hq => first | exact a_store) | refine tri_true rfl ?_ | refine tri_false rfl ?_ | refine tri_block ?_ | refine tri_skip ?_ | refine tri_ret ?_ | refine tri_exit ?_)
  refine tri_loop (fun (i : Nat) => i ≤ min n 200) (fun i => st [(0, .ro false 1 (nmRows vs)), (1, .int .i64 n), (5, .sl 101), (6, .int .i64 i)] [(101, .rows 9 1 (nmRows ((picks vs (min n 200)).take i)))]) (fun i => min n 200 - i) 0 (Nat.zero_le _) ?hw (fun i hi => ?_)
  case hw => exact Weak.trans (weak_nil 5 101 9 1 rfl (by decide) rfl rfl) (weak_st ⟨rfl, rfl, rfl, rfl, trivial⟩ ⟨rfl, trivial⟩)
  change Tri _ _ (st [(0, .ro false 1 (nmRows vs)), (1, .int .i64 n), (5, .sl 101), (6, .int .i64 i)] [(101, .rows 9 1 (nmRows ((picks vs (min n 200)).take i)))]) _
  by_cases hil : i < min n 200
  · have h200 : i < 200 := by omega
    have hin : i < n := by omega
    have e1 := picks_take (vs := vs) hil
    by_cases h0 : 0 < vs.length
    · have hrow := pick_row h0 i
      have hm0 : 0 ≤ (i : Int) % ((nmRows vs).length : Int) := Int.emod_nonneg _ (by omega)
      have hm1 : (i : Int) % ((nmRows vs).length : Int) < ((nmRows vs).length : Int) := Int.emod_lt_of_pos _ (by omega)
      generalize pick vs i = pv at e1 hrow
      repeat' (first | refine a_f ?_ | refine st_nil ?_ | refine tri_seq ?_ | refine tri_region rfl ?_ | refine a_draw ?_ | (apply st_r rfl; case hq => first | exact q_rem (by conv => lhs; whnf) (by conv => lhs; whnf) (by omega) (by omega) | exact q_idxro (by conv => lhs; whnf) (by conv => lhs; whnf) (by first | exact Tryz.underlying22 | exact Tryz.underlying23 | exact Tryz.underlying43 | exact Tryz.underlying44 | exact Tryz.underlying51 | exact Tryz.underlying86 | exact Tryz.underlying191 | exact Tryz.underlying209 | exact Tryz.underlying234 | exact Tryz.underlying270 | exact Tryz.underlying281 | exact Tryz.underlying344) (by kernel_rfl) (by omega) hrow | exact q_loadr (by conv => lhs; whnf) (by conv => lhs; whnf) (by show scalB Tryz.prog _ = true; decide +kernel) (fun _ => rfl) | exact a_lens | exact a_index | exact a_add | exact a_adds0 | exact a_addsc | exact a_adds | exact a_sub | exact a_slo | exact a_shi | exact a_slh | exact a_lensl | exact a_lenro | exact a_lennil | exact a_lenpts | exact a_field | exact a_fielde | exact a_fieldr | exact a_idxsl | exact a_load | exact a_loada | exact a_mki | exact a_build2 | exact a_build3 | exact a_build1 | exact a_build0 | exact a_bs1 | exact a_bs2 | exact a_bs3 | exact a_bs4 | exact a_bsa | exact a_boxr) | (apply st_rif rfl; (case hq => first | exact a_lss | exact a_gtr | exact a_eql | exact a_neq | exact a_eqls0 | exact a_neqs0 | exact a_eqls | exact a_neqs | exact a_leq | exact a_geq); all_goals (intro _; try (exfalso; first | omega | contradiction))) | (apply st_rw rfl rfl; case hq => first | exact w_append (by conv => lhs; whnf) (by conv => lhs; whnf; arg 1; whnf) (by conv => lhs; whnf) (by first | exact Tryz.underlying22 | exact Tryz.underlying23 | exact Tryz.underlying43 | exact Tryz.underlying44 | exact Tryz.underlying51 | exact Tryz.underlying86 | exact Tryz.underlying191 | exact Tryz.underlying209 | exact Tryz.underlying234 | exact Tryz.underlying270 | exact Tryz.underlying281 | exact Tryz.underlying344) (by kernel_rfl) (by simp) rfl (by simp only [nm_len, List.length_take, List.length_cons, List.length_nil]; omega) rfl rfl | exact a_store) | refine tri_true rfl ?_ | refine tri_false rfl ?_ | refine tri_block ?_ | refine tri_skip ?_ | refine tri_ret ?_ | refine tri_exit ?_)
      all_goals exact loop_next (i + 1) (by omega) (weak_st ⟨rfl, rfl, rfl, rfl, trivial⟩ ⟨by rw [← e1]; rfl, trivial⟩) (show min n 200 - (i + 1) < min n 200 - i by omega)
    · have hv0 : vs = [] := List.eq_nil_of_length_eq_zero (by omega)
      have hpn : pick vs i = [] := by rw [hv0]; exact pick_nil i
      rw [hpn] at e1
      clear hpn
      repeat' (first | refine a_f ?_ | refine st_nil ?_ | refine tri_seq ?_ | refine tri_region rfl ?_ | refine a_draw ?_ | (apply st_r rfl; case hq => first | exact a_lens | exact a_index | exact a_add | exact a_adds0 | exact a_addsc | exact a_adds | exact a_sub | exact a_slo | exact a_shi | exact a_slh | exact a_lensl | exact a_lenro | exact a_lennil | exact a_lenpts | exact a_field | exact a_fielde | exact a_fieldr | exact a_idxsl | exact a_load | exact a_loada | exact a_mki | exact a_build2 | exact a_build3 | exact a_build1 | exact a_build0 | exact a_bs1 | exact a_bs2 | exact a_bs3 | exact a_bs4 | exact a_bsa | exact a_boxr) | (apply st_rif rfl; (case hq => first | exact a_lss | exact a_gtr | exact a_eql | exact a_neq | exact a_eqls0 | exact a_neqs0 | exact a_eqls | exact a_neqs | exact a_leq | exact a_geq); all_goals (intro _; try (exfalso; first | omega | contradiction))) | (apply st_rw rfl rfl; case hq => first | exact w_append (by conv => lhs; whnf) (by conv => lhs; whnf; arg 1; whnf) (by conv => lhs; whnf) (by first | exact Tryz.underlying22 | exact Tryz.underlying23 | exact Tryz.underlying43 | exact Tryz.underlying44 | exact Tryz.underlying51 | exact Tryz.underlying86 | exact Tryz.underlying191 | exact Tryz.underlying209 | exact Tryz.underlying234 | exact Tryz.underlying270 | exact Tryz.underlying281 | exact Tryz.underlying344) (by kernel_rfl) (by simp) rfl (by simp only [nm_len, List.length_take, List.length_cons, List.length_nil]; omega) rfl rfl | exact a_store) | refine tri_true rfl ?_ | refine tri_false rfl ?_ | refine tri_block ?_ | refine tri_skip ?_ | refine tri_ret ?_ | refine tri_exit ?_)
      all_goals exact loop_next (i + 1) (by omega) (weak_st ⟨rfl, rfl, rfl, rfl, trivial⟩ ⟨by rw [← e1]; rfl, trivial⟩) (show min n 200 - (i + 1) < min n 200 - i by omega)
  · have hd : ¬ i < n ∨ ¬ i < 200 := by omega
    rw [List.take_of_length_le (by rw [picks_len]; omega)]
    clear hil
    by_cases hin : i < n
    · have h200 : ¬ i < 200 := by omega
      repeat' (first | refine a_f ?_ | refine st_nil ?_ | refine tri_seq ?_ | refine tri_region rfl ?_ | refine a_draw ?_ | (apply st_r rfl; case hq => first | exact a_lens | exact a_index | exact a_add | exact a_adds0 | exact a_addsc | exact a_adds | exact a_sub | exact a_slo | exact a_shi | exact a_slh | exact a_lensl | exact a_lenro | exact a_lennil | exact a_lenpts | exact a_field | exact a_fielde | exact a_fieldr | exact a_idxsl | exact a_load | exact a_loada | exact a_mki | exact a_build2 | exact a_build3 | exact a_build1 | exact a_build0 | exact a_bs1 | exact a_bs2 | exact a_bs3 | exact a_bs4 | exact a_bsa | exact a_boxr) | (apply st_rif rfl; (case hq => first | exact a_lss | exact a_gtr | exact a_eql | exact a_neq | exact a_eqls0 | exact a_neqs0 | exact a_eqls | exact a_neqs | exact a_leq | exact a_geq); all_goals (intro _; try (exfalso; first | omega | contradiction))) | (apply st_rw rfl rfl; case hq => first | exact a_store) | refine tri_true rfl ?_ | refine tri_false rfl ?_ | refine tri_block ?_ | refine tri_skip ?_ | refine tri_ret ?_ | refine tri_exit ?_)
      refine And.intro trivial ?_
      conv => lhs; whnf
      try rfl
    · repeat' (first | refine a_f ?_ | refine st_nil ?_ | refine tri_seq ?_ | refine tri_region rfl ?_ | refine a_draw ?_ | (apply st_r rfl; case hq => first | exact a_lens | exact a_index | exact a_add | exact a_adds0 | exact a_addsc | exact a_adds | exact a_sub | exact a_slo | exact a_shi | exact a_slh | exact a_lensl | exact a_lenro | exact a_lennil | exact a_lenpts | exact a_field | exact a_fielde | exact a_fieldr | exact a_idxsl | exact a_load | exact a_loada | exact a_mki | exact a_build2 | exact a_build3 | exact a_build1 | exact a_build0 | exact a_bs1 | exact a_bs2 | exact a_bs3 | exact a_bs4 | exact a_bsa | exact a_boxr) | (apply st_rif rfl; (case hq => first | exact a_lss | exact a_gtr | exact a_eql | exact a_neq | exact a_eqls0 | exact a_neqs0 | exact a_eqls | exact a_neqs | exact a_leq | exact a_geq); all_goals (intro _; try (exfalso; first | omega | contradiction))) | (apply st_rw rfl rfl; case hq => first | exact a_store) | refine tri_true rfl ?_ | refine tri_false rfl ?_ | refine tri_block ?_ | refine tri_skip ?_ | refine tri_ret ?_ | refine tri_exit ?_)
      refine And.intro trivial ?_
      conv => lhs; whnf
      try rfl
end
end Go.Proofs.YtignjjnflcpiiaaGreatDoor
namespace Go.Proofs.YtignjjnflcpiiaaGreatDoor
open Go.RowKit
attribute [local irreducible] Tri Steps Qd Wr Weak CPure CEff
set_option maxRecDepth 100000

theorem tkT : TK tokC blk where
  t59 := by decide
  t61 := by decide
  t34 := by decide
  t47 := by decide
  k := fun c => rfl
  t32 := by decide
  t9 := by decide
theorem u8_all {p : UInt8 → Prop} (h : ∀ n : Fin 256, p (UInt8.ofNat n.val)) : ∀ c, p c := fun c => by
  have := h ⟨c.toNat, c.toNat_lt⟩
  simpa using this
theorem tfT : TF tokC lowC where
  tok := u8_all (by decide +kernel)
  idem := u8_all (by decide +kernel)
  vis := u8_all (by decide +kernel)
  f47 := u8_all (by decide +kernel)
theorem tokQ_eq (s : B) : tokB s = tokQ tokC s := rfl

def getP (l : Fs) (s : B) : AV := match l.find? (fun f => decide (f.1 = s)) with
  | some f => .tup [.str f.2, .bool true]
  | none => .tup [.str [], .bool false]
set_option maxHeartbeats 2000000 in
theorem pget_c (l : Fs) (s : B) (hl : Small l) : CPure gx 134 [.ro false 2 (fieldRows l), .str s] (getP l s) := by
  refine cpure_of Tryz.func134 rfl (Nat.le_of_ble_eq_true rfl) rfl (fun w hw => ?_)
  have hfl := fr_len l
  have hll := hl.len
  repeat' (first | refine a_f ?_ | refine st_nil ?_ | refine tri_seq ?_ | refine tri_region rfl ?_ | refine a_draw ?_ | (apply st_r rfl; case hq => first | exact a_lens | exact a_index | exact a_add | exact a_adds0 | exact a_addsc | exact a_adds | exact a_sub | exact a_slo | exact a_shi | exact a_slh | exact a_lensl | exact a_lenro | exact a_lennil | exact a_lenpts | exact a_field | exact a_fielde | exact a_fieldr | exact a_idxsl | exact a_load | exact a_loada | exact a_mki | exact a_build2 | exact a_build3 | exact a_build1 | exact a_build0 | exact a_bs1 | exact a_bs2 | exact a_bs3 | exact a_bs4 | exact a_bsa | exact a_boxr) | (apply st_rif rfl; (case hq => first | exact a_lss | exact a_gtr | exact a_eql | exact a_neq | exact a_eqls0 | exact a_neqs0 | exact a_eqls | exact a_neqs | exact a_leq | exact a_geq); all_goals (intro _; try (exfalso; first | omega | contradiction))) | (apply st_rw rfl rfl; case hq => first | exact a_store) | refine tri_true rfl ?_ | refine tri_false rfl ?_ | refine tri_block ?_ | refine tri_skip ?_ | refine tri_ret ?_ | refine tri_exit ?_)
  refine tri_loop (fun (i : Nat) => i ≤ l.length ∧ l.find? (fun f => decide (f.1 = s)) = (l.drop i).find? (fun f => decide (f.1 = s))) (fun i => st [(0, .ro false 2 (fieldRows l)), (1, .str s), (4, .str []), (5, .bool false), (8, .ro false 2 (fieldRows l)), (9, .int .i64 (fieldRows l).length), (10, .int .i64 i)] []) (fun i => l.length - i) 0 ⟨Nat.zero_le _, rfl⟩ ?hw (fun i hi => ?_)
  case hw => exact weak_st ⟨rfl, rfl, rfl, rfl, rfl, rfl, rfl, trivial⟩ trivial
  obtain ⟨hi, hf⟩ := hi
  by_cases hil : i < l.length
  · obtain ⟨f, hf1, hfm, hfd, hfr⟩ := fr_at hil
    rw [hfd, List.find?_cons] at hf
    repeat' (first | refine a_f ?_ | refine st_nil ?_ | refine tri_seq ?_ | refine tri_region rfl ?_ | refine a_draw ?_ | (apply st_r rfl; case hq => first | exact q_idxro (by conv => lhs; whnf) (by conv => lhs; whnf) (by first | exact Tryz.underlying22 | exact Tryz.underlying23 | exact Tryz.underlying43 | exact Tryz.underlying44 | exact Tryz.underlying51 | exact Tryz.underlying86 | exact Tryz.underlying191 | exact Tryz.underlying209 | exact Tryz.underlying234 | exact Tryz.underlying270 | exact Tryz.underlying281 | exact Tryz.underlying344) (by kernel_rfl) (by omega) hfr | exact q_loadar (n := 2) (by conv => lhs; whnf) (by conv => lhs; whnf) (by first | rfl | exact Nat.le_of_ble_eq_true rfl | exact Nat.succ_pos _ | decide) (by kernel_rfl) (fun _ => rfl) | exact a_lens | exact a_index | exact a_add | exact a_adds0 | exact a_addsc | exact a_adds | exact a_sub | exact a_slo | exact a_shi | exact a_slh | exact a_lensl | exact a_lenro | exact a_lennil | exact a_lenpts | exact a_field | exact a_fielde | exact a_fieldr | exact a_idxsl | exact a_load | exact a_loada | exact a_mki | exact a_build2 | exact a_build3 | exact a_build1 | exact a_build0 | exact a_bs1 | exact a_bs2 | exact a_bs3 | exact a_bs4 | exact a_bsa | exact a_boxr) | (apply st_rif rfl; (case hq => first | exact a_lss | exact a_gtr | exact a_eql | exact a_neq | exact a_eqls0 | exact a_neqs0 | exact a_eqls | exact a_neqs | exact a_leq | exact a_geq); all_goals (intro _; try (exfalso; first | omega | contradiction))) | (apply st_rw rfl rfl; case hq => first | exact w_alloc 102 (by first | exact zAt | exact zFault | exact zField | exact zParam | exact zLink | exact zPart | exact zReader) rfl rfl rfl | exact a_store) | refine tri_true rfl ?_ | refine tri_false rfl ?_ | refine tri_block ?_ | refine tri_skip ?_ | refine tri_ret ?_ | refine tri_exit ?_)
    · refine And.intro trivial ?_
      conv => lhs; whnf
      rw [getP, hf, decide_eq_true ‹_›]
      rfl
    · exact loop_next (i + 1) ⟨by omega, by rw [hf, decide_eq_false ‹_›]⟩ (weak_st ⟨rfl, rfl, rfl, rfl, rfl, rfl, rfl, trivial⟩ trivial) (show l.length - (i + 1) < l.length - i by omega)
  · repeat' (first | refine a_f ?_ | refine st_nil ?_ | refine tri_seq ?_ | refine tri_region rfl ?_ | refine a_draw ?_ | (apply st_r rfl; case hq => first | exact a_lens | exact a_index | exact a_add | exact a_adds0 | exact a_addsc | exact a_adds | exact a_sub | exact a_slo | exact a_shi | exact a_slh | exact a_lensl | exact a_lenro | exact a_lennil | exact a_lenpts | exact a_field | exact a_fielde | exact a_fieldr | exact a_idxsl | exact a_load | exact a_loada | exact a_mki | exact a_build2 | exact a_build3 | exact a_build1 | exact a_build0 | exact a_bs1 | exact a_bs2 | exact a_bs3 | exact a_bs4 | exact a_bsa | exact a_boxr) | (apply st_rif rfl; (case hq => first | exact a_lss | exact a_gtr | exact a_eql | exact a_neq | exact a_eqls0 | exact a_neqs0 | exact a_eqls | exact a_neqs | exact a_leq | exact a_geq); all_goals (intro _; try (exfalso; first | omega | contradiction))) | (apply st_rw rfl rfl; case hq => first | exact a_store) | refine tri_true rfl ?_ | refine tri_false rfl ?_ | refine tri_block ?_ | refine tri_skip ?_ | refine tri_ret ?_ | refine tri_exit ?_)
    refine And.intro trivial ?_
    conv => lhs; whnf
    rw [getP, hf, List.drop_eq_nil_of_le (by omega)]
    rfl
set_option maxHeartbeats 2000000 in
theorem rpget_c (l : Fs) (s : B) (hl : Small l) : CPure gx 121 [.ro false 2 (fieldRows l), .str s] (getP l s) := by
  refine cpure_of Tryz.func121 rfl (Nat.le_of_ble_eq_true rfl) rfl (fun w hw => ?_)
  have hfl := fr_len l
  have hll := hl.len
  repeat' (first | refine a_f ?_ | refine st_nil ?_ | refine tri_seq ?_ | refine tri_region rfl ?_ | refine a_draw ?_ | (apply st_r rfl; case hq => first | exact a_lens | exact a_index | exact a_add | exact a_adds0 | exact a_addsc | exact a_adds | exact a_sub | exact a_slo | exact a_shi | exact a_slh | exact a_lensl | exact a_lenro | exact a_lennil | exact a_lenpts | exact a_field | exact a_fielde | exact a_fieldr | exact a_idxsl | exact a_load | exact a_loada | exact a_mki | exact a_build2 | exact a_build3 | exact a_build1 | exact a_build0 | exact a_bs1 | exact a_bs2 | exact a_bs3 | exact a_bs4 | exact a_bsa | exact a_boxr) | (apply st_rif rfl; (case hq => first | exact a_lss | exact a_gtr | exact a_eql | exact a_neq | exact a_eqls0 | exact a_neqs0 | exact a_eqls | exact a_neqs | exact a_leq | exact a_geq); all_goals (intro _; try (exfalso; first | omega | contradiction))) | (apply st_rw rfl rfl; case hq => first | exact a_store) | refine tri_true rfl ?_ | refine tri_false rfl ?_ | refine tri_block ?_ | refine tri_skip ?_ | refine tri_ret ?_ | refine tri_exit ?_)
  refine tri_loop (fun (i : Nat) => i ≤ l.length ∧ l.find? (fun f => decide (f.1 = s)) = (l.drop i).find? (fun f => decide (f.1 = s))) (fun i => st [(0, .ro false 2 (fieldRows l)), (1, .str s), (4, .str []), (5, .bool false), (8, .ro false 2 (fieldRows l)), (9, .int .i64 (fieldRows l).length), (10, .int .i64 i)] []) (fun i => l.length - i) 0 ⟨Nat.zero_le _, rfl⟩ ?hw (fun i hi => ?_)
  case hw => exact weak_st ⟨rfl, rfl, rfl, rfl, rfl, rfl, rfl, trivial⟩ trivial
  obtain ⟨hi, hf⟩ := hi
  by_cases hil : i < l.length
  · obtain ⟨f, hf1, hfm, hfd, hfr⟩ := fr_at hil
    rw [hfd, List.find?_cons] at hf
    repeat' (first | refine a_f ?_ | refine st_nil ?_ | refine tri_seq ?_ | refine tri_region rfl ?_ | refine a_draw ?_ | (apply st_r rfl; case hq => first | exact q_idxro (by conv => lhs; whnf) (by conv => lhs; whnf) (by first | exact Tryz.underlying22 | exact Tryz.underlying23 | exact Tryz.underlying43 | exact Tryz.underlying44 | exact Tryz.underlying51 | exact Tryz.underlying86 | exact Tryz.underlying191 | exact Tryz.underlying209 | exact Tryz.underlying234 | exact Tryz.underlying270 | exact Tryz.underlying281 | exact Tryz.underlying344) (by kernel_rfl) (by omega) hfr | exact q_loadar (n := 2) (by conv => lhs; whnf) (by conv => lhs; whnf) (by first | rfl | exact Nat.le_of_ble_eq_true rfl | exact Nat.succ_pos _ | decide) (by kernel_rfl) (fun _ => rfl) | exact a_lens | exact a_index | exact a_add | exact a_adds0 | exact a_addsc | exact a_adds | exact a_sub | exact a_slo | exact a_shi | exact a_slh | exact a_lensl | exact a_lenro | exact a_lennil | exact a_lenpts | exact a_field | exact a_fielde | exact a_fieldr | exact a_idxsl | exact a_load | exact a_loada | exact a_mki | exact a_build2 | exact a_build3 | exact a_build1 | exact a_build0 | exact a_bs1 | exact a_bs2 | exact a_bs3 | exact a_bs4 | exact a_bsa | exact a_boxr) | (apply st_rif rfl; (case hq => first | exact a_lss | exact a_gtr | exact a_eql | exact a_neq | exact a_eqls0 | exact a_neqs0 | exact a_eqls | exact a_neqs | exact a_leq | exact a_geq); all_goals (intro _; try (exfalso; first | omega | contradiction))) | (apply st_rw rfl rfl; case hq => first | exact w_alloc 102 (by first | exact zAt | exact zFault | exact zField | exact zParam | exact zLink | exact zPart | exact zReader) rfl rfl rfl | exact a_store) | refine tri_true rfl ?_ | refine tri_false rfl ?_ | refine tri_block ?_ | refine tri_skip ?_ | refine tri_ret ?_ | refine tri_exit ?_)
    · refine And.intro trivial ?_
      conv => lhs; whnf
      rw [getP, hf, decide_eq_true ‹_›]
      rfl
    · exact loop_next (i + 1) ⟨by omega, by rw [hf, decide_eq_false ‹_›]⟩ (weak_st ⟨rfl, rfl, rfl, rfl, rfl, rfl, rfl, trivial⟩ trivial) (show l.length - (i + 1) < l.length - i by omega)
  · repeat' (first | refine a_f ?_ | refine st_nil ?_ | refine tri_seq ?_ | refine tri_region rfl ?_ | refine a_draw ?_ | (apply st_r rfl; case hq => first | exact a_lens | exact a_index | exact a_add | exact a_adds0 | exact a_addsc | exact a_adds | exact a_sub | exact a_slo | exact a_shi | exact a_slh | exact a_lensl | exact a_lenro | exact a_lennil | exact a_lenpts | exact a_field | exact a_fielde | exact a_fieldr | exact a_idxsl | exact a_load | exact a_loada | exact a_mki | exact a_build2 | exact a_build3 | exact a_build1 | exact a_build0 | exact a_bs1 | exact a_bs2 | exact a_bs3 | exact a_bs4 | exact a_bsa | exact a_boxr) | (apply st_rif rfl; (case hq => first | exact a_lss | exact a_gtr | exact a_eql | exact a_neq | exact a_eqls0 | exact a_neqs0 | exact a_eqls | exact a_neqs | exact a_leq | exact a_geq); all_goals (intro _; try (exfalso; first | omega | contradiction))) | (apply st_rw rfl rfl; case hq => first | exact a_store) | refine tri_true rfl ?_ | refine tri_false rfl ?_ | refine tri_block ?_ | refine tri_skip ?_ | refine tri_ret ?_ | refine tri_exit ?_)
    refine And.intro trivial ?_
    conv => lhs; whnf
    rw [getP, hf, List.drop_eq_nil_of_le (by omega)]
    rfl


theorem bare_nil_c (e' : Int) : CPure gxe 12 [.nili, .int .i64 e'] (.bool ((0 : Int) == e' && (-1 : Int) == -1)) := by
  unfold CPure
  intro w vs hG hn hl hr
  obtain ⟨v0, v1, rfl⟩ : ∃ a b, vs = [a, b] := by
    match vs, hl with
    | [a, b], _ => exact ⟨a, b, rfl⟩
  have h0 := Rep.nili_inv (hr 0 (by simp) (by simp))
  have h1 := Rep.int_inv (hr 1 (by simp) (by simp))
  simp only [List.getElem_cons_zero, List.getElem_cons_succ] at h0 h1
  subst h0 h1
  exact (bare_any .nilIface 0 (-1) e' w (.inl ⟨rfl, rfl, rfl⟩) hG.2).mono fun x w' h => ⟨_, h.1, h.2, .bool _ _⟩
theorem bare_no_c (e e' : Int) : CPure gxe 12 [.iface 28 (.int .i64 e), .int .i64 e'] (.bool (e == e' && (-1 : Int) == -1)) := by
  unfold CPure
  intro w vs hG hn hl hr
  obtain ⟨v0, v1, rfl⟩ : ∃ a b, vs = [a, b] := by
    match vs, hl with
    | [a, b], _ => exact ⟨a, b, rfl⟩
  obtain ⟨y, h0, h9⟩ := Rep.iface_inv (hr 0 (by simp) (by simp))
  have h9 := Rep.int_inv h9
  have h1 := Rep.int_inv (hr 1 (by simp) (by simp))
  simp only [List.getElem_cons_zero, List.getElem_cons_succ] at h0 h1
  subst h9
  subst h0 h1
  exact (bare_any _ e (-1) e' w (.inr (.inl ⟨rfl, rfl⟩)) hG.2).mono fun x w' h => ⟨_, h.1, h.2, .bool _ _⟩

theorem split_1 (c : UInt8) (s : B) (hs : s.length ≤ 1000000) : CPure gx 103 [.str s, .str [c]] (.ro true 1 (strRows (Lib.split s [c]))) := split_g s [c] (by omega) (by simp)
theorem split_mem (c : UInt8) : ∀ (n : Nat) (s : B), s.length ≤ n → ∀ x ∈ Lib.split s [c], x.length ≤ s.length
  | n, s, hn, x, hx => by
    rw [split_one] at hx
    split at hx
    · rename_i ha
      have h1 : (s.takeWhile (· != c)).length ≤ s.length := (List.takeWhile_sublist _).length_le
      rcases List.mem_cons.1 hx with rfl | hx
      · exact h1
      · have h0 : 0 < s.length := by
          obtain ⟨x, hx, _⟩ := List.any_eq_true.1 ha
          exact List.length_pos_iff.2 (List.ne_nil_of_mem hx)
        have hd : ((s.dropWhile (· != c)).drop 1).length < s.length := by
          have := (List.dropWhile_sublist (· != c) (l := s)).length_le
          rw [List.length_drop]; omega
        match n, hn with
        | 0, hn => omega
        | n + 1, hn =>
          have := split_mem c n ((s.dropWhile (· != c)).drop 1) (by omega) x hx
          omega
    · rw [List.mem_singleton.1 hx]; exact Nat.le_refl _
theorem split_len (c : UInt8) : ∀ (n : Nat) (s : B), s.length ≤ n → (Lib.split s [c]).length ≤ s.length + 1
  | n, s, hn => by
    rw [split_one]
    split
    · rename_i ha
      have h0 : 0 < s.length := by
        obtain ⟨x, hx, _⟩ := List.any_eq_true.1 ha
        exact List.length_pos_iff.2 (List.ne_nil_of_mem hx)
      have hd : ((s.dropWhile (· != c)).drop 1).length < s.length := by
        have := (List.dropWhile_sublist (· != c) (l := s)).length_le
        rw [List.length_drop]; omega
      match n, hn with
      | 0, hn => omega
      | n + 1, hn =>
        have := split_len c n ((s.dropWhile (· != c)).drop 1) (by omega)
        simp only [List.length_cons]; omega
    · simp
theorem sr_get {l : List B} {i : Nat} (h : i < l.length) : (strRows l)[(i : Int).toNat]? = some [.str (l.getD i [])] := by
  simp [strRows, h, List.getD_eq_getElem?_getD]
theorem isMain_c (s : B) (hs : s.length ≤ 1000000) : CPure gx 47 [.str s] (.bool (mainOk tokC s)) := by
  refine cpure_of Tryz.func47 rfl (Nat.le_of_ble_eq_true rfl) rfl (fun w hw => ?_)
  have S1 := split_1 47 s hs
  have hne := List.length_pos_iff.2 (split_ne 47 s)
  have hsl := split_len 47 _ s (Nat.le_refl _)
  have hm := main_split tkT s
  have hmem := split_mem 47 _ s (Nat.le_refl _)
  generalize Lib.split s [47] = l at S1 hne hsl hm hmem
  have hle : ∀ i, i < l.length → (l.getD i []).length ≤ 1000000 := fun i hi => by
    rw [List.getD_eq_getElem?_getD, List.getElem?_eq_getElem hi]
    exact Nat.le_trans (hmem _ (List.getElem_mem hi)) hs
  have T1 := rtoken_c (l.getD 0 []) (hle 0 hne)
  have T2 := rtoken_c (l.getD (l.length - 1) []) (hle _ (by omega))
  have hrl := sr_len l
  have g0 : (strRows l)[(0 : Int).toNat]? = some [.str (l.getD 0 [])] := sr_get (l := l) (i := 0) hne
  have g1 := sr_get (l := l) (i := l.length - 1) (by omega)
  have e1 : (((strRows l).length : Int) - 1).toNat = ((l.length - 1 : Nat) : Int).toNat := by rw [hrl]; omega
  rw [← e1] at g1
  rw [tokQ_eq] at T1 T2
  by_cases h2 : l.length ≤ 2
  · rw [decide_eq_true h2] at hm
    cases ha : tokQ tokC (l.getD 0 []) <;> rw [ha] at T1 hm
    all_goals
      cases hb : tokQ tokC (l.getD (l.length - 1) []) <;> rw [hb] at T2 hm
    all_goals
      repeat' (first | refine a_f ?_ | refine st_nil ?_ | refine tri_seq ?_ | refine tri_region rfl ?_ | refine a_draw ?_ | (apply st_r rfl; case hq => first | exact q_call S1 (hcf := Tryz.call103) rfl rfl | exact q_idxro (by conv => lhs; whnf) (by conv => lhs; whnf) (by first | exact Tryz.underlying22 | exact Tryz.underlying23 | exact Tryz.underlying43 | exact Tryz.underlying44 | exact Tryz.underlying51 | exact Tryz.underlying86 | exact Tryz.underlying191 | exact Tryz.underlying209 | exact Tryz.underlying234 | exact Tryz.underlying270 | exact Tryz.underlying281 | exact Tryz.underlying344) (by kernel_rfl) (by omega) g0 | exact q_idxro (by conv => lhs; whnf) (by conv => lhs; whnf) (by first | exact Tryz.underlying22 | exact Tryz.underlying23 | exact Tryz.underlying43 | exact Tryz.underlying44 | exact Tryz.underlying51 | exact Tryz.underlying86 | exact Tryz.underlying191 | exact Tryz.underlying209 | exact Tryz.underlying234 | exact Tryz.underlying270 | exact Tryz.underlying281 | exact Tryz.underlying344) (by kernel_rfl) (by omega) g1 | exact q_loadr (by conv => lhs; whnf) (by conv => lhs; whnf) (by show scalB Tryz.prog _ = true; decide +kernel) (fun _ => rfl) | exact q_call T1 (hcf := Tryz.call49) rfl rfl | exact q_call T2 (hcf := Tryz.call49) rfl rfl | exact a_lens | exact a_index | exact a_add | exact a_adds0 | exact a_addsc | exact a_adds | exact a_sub | exact a_slo | exact a_shi | exact a_slh | exact a_lensl | exact a_lenro | exact a_lennil | exact a_lenpts | exact a_field | exact a_fielde | exact a_fieldr | exact a_idxsl | exact a_load | exact a_loada | exact a_mki | exact a_build2 | exact a_build3 | exact a_build1 | exact a_build0 | exact a_bs1 | exact a_bs2 | exact a_bs3 | exact a_bs4 | exact a_bsa | exact a_boxr) | (apply st_rif rfl; (case hq => first | exact a_lss | exact a_gtr | exact a_eql | exact a_neq | exact a_eqls0 | exact a_neqs0 | exact a_eqls | exact a_neqs | exact a_leq | exact a_geq); all_goals (intro _; try (exfalso; first | omega | contradiction))) | (apply st_rw rfl rfl; case hq => first | exact a_store) | refine tri_true rfl ?_ | refine tri_false rfl ?_ | refine tri_block ?_ | refine tri_skip ?_ | refine tri_ret ?_ | refine tri_exit ?_)
    all_goals
      refine And.intro trivial ?_
      conv => lhs; whnf
      rw [hm]
      rfl
  · rw [decide_eq_false h2] at hm
    repeat' (first | refine a_f ?_ | refine st_nil ?_ | refine tri_seq ?_ | refine tri_region rfl ?_ | refine a_draw ?_ | (apply st_r rfl; case hq => first | exact q_call S1 (hcf := Tryz.call103) rfl rfl | exact a_lens | exact a_index | exact a_add | exact a_adds0 | exact a_addsc | exact a_adds | exact a_sub | exact a_slo | exact a_shi | exact a_slh | exact a_lensl | exact a_lenro | exact a_lennil | exact a_lenpts | exact a_field | exact a_fielde | exact a_fieldr | exact a_idxsl | exact a_load | exact a_loada | exact a_mki | exact a_build2 | exact a_build3 | exact a_build1 | exact a_build0 | exact a_bs1 | exact a_bs2 | exact a_bs3 | exact a_bs4 | exact a_bsa | exact a_boxr) | (apply st_rif rfl; (case hq => first | exact a_lss | exact a_gtr | exact a_eql | exact a_neq | exact a_eqls0 | exact a_neqs0 | exact a_eqls | exact a_neqs | exact a_leq | exact a_geq); all_goals (intro _; try (exfalso; first | omega | contradiction))) | (apply st_rw rfl rfl; case hq => first | exact a_store) | refine tri_true rfl ?_ | refine tri_false rfl ?_ | refine tri_block ?_ | refine tri_skip ?_ | refine tri_ret ?_ | refine tri_exit ?_)
    all_goals
      refine And.intro trivial ?_
      conv => lhs; whnf
      rw [hm]
      rfl
end Go.Proofs.YtignjjnflcpiiaaGreatDoor
namespace Go.Proofs.YtignjjnflcpiiaaGreatDoor
open Go.RowKit
attribute [local irreducible] Tri Steps Qd Wr Weak CPure CEff CNew CutN AllB Behind
set_option maxRecDepth 100000

/-- both page.signs and errors.errorType are known -/
noncomputable def gxt : Gx := { gx with G := fun w => (GOk w ∧ SignVar w) ∧ ErrVar w, hG := fun w w' h hw => ⟨gxs.hG w w' h.1 hw, cell_low h.2 (by decide) hw⟩ }
theorem CPure.t {f : FuncId} {az : List AV} {res : AV} (h : CPure gx f az res) : CPure gxt f az res := h.sub fun _ h => h.1.1
theorem CPure.st {f : FuncId} {az : List AV} {res : AV} (h : CPure gxs f az res) : CPure gxt f az res := CPure.sub (X := gxs) h fun _ h => h.1
theorem CPure.et {f : FuncId} {az : List AV} {res : AV} (h : CPure gxe f az res) : CPure gxt f az res := CPure.sub (X := gxe) h fun _ h => ⟨h.1.1, h.2⟩
theorem ne_link (x : Lk) : (x ≠ x) ↔ ¬ eqCells [.int .i64 x.1, .int .i64 x.2.1, .str x.2.2] [.int .i64 x.1, .int .i64 x.2.1, .str x.2.2] := by simp [eqCells]
theorem zArr2 : zeroL Tryz.prog 65 = some [.nils, .nils] := by kernel_rfl
set_option maxHeartbeats 8000000 in
theorem pageLeads_c (s : B) (vs : List B) (hs : s.length ≤ 140737488351232) (hl : vs.length ≤ 140737488351232) (hv : ∀ v ∈ vs, v.length ≤ 140737488351232) : CPure gxt 8 [.str s, .ro false 1 (nmRows vs)] (.bool true) := by
  refine cpure_of Tryz.func8 rfl (Nat.le_of_ble_eq_true rfl) rfl (fun w hw => ?_)
  have hnv := nm_len vs
  by_cases h5 : 1500 < s.length
  · repeat' (first | refine a_f ?_ | refine st_nil ?_ | refine tri_seq ?_ | refine tri_region rfl ?_ | refine a_draw ?_ | (apply st_r rfl; case hq => first | exact a_lens | exact a_index | exact a_add | exact a_adds0 | exact a_addsc | exact a_adds | exact a_sub | exact a_slo | exact a_shi | exact a_slh | exact a_lensl | exact a_lenro | exact a_lennil | exact a_lenpts | exact a_field | exact a_fielde | exact a_fieldr | exact a_idxsl | exact a_load | exact a_loada | exact a_mki | exact a_build2 | exact a_build3 | exact a_build1 | exact a_build0 | exact a_bs1 | exact a_bs2 | exact a_bs3 | exact a_bs4 | exact a_bsa | exact a_boxr) | (apply st_rif rfl; (case hq => first | exact a_lss | exact a_gtr | exact a_eql | exact a_neq | exact a_eqls0 | exact a_neqs0 | exact a_eqls | exact a_neqs | exact a_leq | exact a_geq); all_goals (intro _; try (exfalso; first | omega | contradiction))) | (apply st_rw rfl rfl; case hq => first | exact a_store) | refine tri_true rfl ?_ | refine tri_false rfl ?_ | refine tri_block ?_ | refine tri_skip ?_ | refine tri_ret ?_ | refine tri_exit ?_)
    refine And.intro trivial ?_
    conv => lhs; whnf
  by_cases h20 : 60 < vs.length
  · repeat' (first | refine a_f ?_ | refine st_nil ?_ | refine tri_seq ?_ | refine tri_region rfl ?_ | refine a_draw ?_ | (apply st_r rfl; case hq => first | exact a_lens | exact a_index | exact a_add | exact a_adds0 | exact a_addsc | exact a_adds | exact a_sub | exact a_slo | exact a_shi | exact a_slh | exact a_lensl | exact a_lenro | exact a_lennil | exact a_lenpts | exact a_field | exact a_fielde | exact a_fieldr | exact a_idxsl | exact a_load | exact a_loada | exact a_mki | exact a_build2 | exact a_build3 | exact a_build1 | exact a_build0 | exact a_bs1 | exact a_bs2 | exact a_bs3 | exact a_bs4 | exact a_bsa | exact a_boxr) | (apply st_rif rfl; (case hq => first | exact a_lss | exact a_gtr | exact a_eql | exact a_neq | exact a_eqls0 | exact a_neqs0 | exact a_eqls | exact a_neqs | exact a_leq | exact a_geq); all_goals (intro _; try (exfalso; first | omega | contradiction))) | (apply st_rw rfl rfl; case hq => first | exact a_store) | refine tri_true rfl ?_ | refine tri_false rfl ?_ | refine tri_block ?_ | refine tri_skip ?_ | refine tri_ret ?_ | refine tri_exit ?_)
    refine And.intro trivial ?_
    conv => lhs; whnf
  repeat' (first | refine a_f ?_ | refine st_nil ?_ | refine tri_seq ?_ | refine tri_region rfl ?_ | refine a_draw ?_ | (apply st_r rfl; case hq => first | exact a_lens | exact a_index | exact a_add | exact a_adds0 | exact a_addsc | exact a_adds | exact a_sub | exact a_slo | exact a_shi | exact a_slh | exact a_lensl | exact a_lenro | exact a_lennil | exact a_lenpts | exact a_field | exact a_fielde | exact a_fieldr | exact a_idxsl | exact a_load | exact a_loada | exact a_mki | exact a_build2 | exact a_build3 | exact a_build1 | exact a_build0 | exact a_bs1 | exact a_bs2 | exact a_bs3 | exact a_bs4 | exact a_bsa | exact a_boxr) | (apply st_rif rfl; (case hq => first | exact a_lss | exact a_gtr | exact a_eql | exact a_neq | exact a_eqls0 | exact a_neqs0 | exact a_eqls | exact a_neqs | exact a_leq | exact a_geq); all_goals (intro _; try (exfalso; first | omega | contradiction))) | (apply st_rw rfl rfl; case hq => first | exact a_store) | refine tri_true rfl ?_ | refine tri_false rfl ?_ | refine tri_block ?_ | refine tri_skip ?_ | refine tri_ret ?_ | refine tri_exit ?_)
  refine tri_loop_to (fun (x : Nat × Nat) => x.1 ≤ vs.length ∧ x.2 ≤ 1500 ∧ ∀ v ∈ vs.take x.1, v.length ≤ 1500) (fun x => st [(0, .str s), (1, .ro false 1 (nmRows vs)), (4, .bool false), (5, .int .i64 x.2), (6, .int .i64 x.1)] []) (fun x => vs.length - x.1)
    (fun (_ : Unit) => ∀ v ∈ vs, v.length ≤ 1500) (fun _ => st [(0, .str s), (1, .ro false 1 (nmRows vs)), (4, .bool false)] []) (0, 0) ⟨Nat.zero_le _, Nat.zero_le _, by simp⟩ ?hw weak_tri (fun x hx => ?_) (fun _ hz => ?_)
  case hw => exact weak_st ⟨rfl, rfl, rfl, rfl, rfl, trivial⟩ trivial
  · obtain ⟨i, n⟩ := x
    change Tri _ _ (st [(0, .str s), (1, .ro false 1 (nmRows vs)), (4, .bool false), (5, .int .i64 n), (6, .int .i64 i)] []) _
    obtain ⟨hi, hn, ha⟩ := hx
    simp only at hi hn ha
    by_cases hil : i < vs.length
    · have hvr := nm_get hil
      have hvle := hv vs[i] (List.getElem_mem hil)
      have hta := fun h => tk_all (P := fun v => v.length ≤ 1500) hil ha h
      generalize vs[i] = v at hvr hvle hta
      by_cases h400 : 1500 < n + v.length
      all_goals
        repeat' (first | refine a_f ?_ | refine st_nil ?_ | refine tri_seq ?_ | refine tri_region rfl ?_ | refine a_draw ?_ | (apply st_r rfl; case hq => first | exact q_idxro (by conv => lhs; whnf) (by conv => lhs; whnf) (by first | exact Tryz.underlying22 | exact Tryz.underlying23 | exact Tryz.underlying43 | exact Tryz.underlying44 | exact Tryz.underlying51 | exact Tryz.underlying86 | exact Tryz.underlying191 | exact Tryz.underlying209 | exact Tryz.underlying234 | exact Tryz.underlying270 | exact Tryz.underlying281 | exact Tryz.underlying344) (by kernel_rfl) (by omega) hvr | exact q_loadr (by conv => lhs; whnf) (by conv => lhs; whnf) (by show scalB Tryz.prog _ = true; decide +kernel) (fun _ => rfl) | exact a_lens | exact a_index | exact a_add | exact a_adds0 | exact a_addsc | exact a_adds | exact a_sub | exact a_slo | exact a_shi | exact a_slh | exact a_lensl | exact a_lenro | exact a_lennil | exact a_lenpts | exact a_field | exact a_fielde | exact a_fieldr | exact a_idxsl | exact a_load | exact a_loada | exact a_mki | exact a_build2 | exact a_build3 | exact a_build1 | exact a_build0 | exact a_bs1 | exact a_bs2 | exact a_bs3 | exact a_bs4 | exact a_bsa | exact a_boxr) | (apply st_rif rfl; (case hq => first | exact a_lss | exact a_gtr | exact a_eql | exact a_neq | exact a_eqls0 | exact a_neqs0 | exact a_eqls | exact a_neqs | exact a_leq | exact a_geq); all_goals (intro _; try (exfalso; first | omega | contradiction))) | (apply st_rw rfl rfl; case hq => first | exact a_store) | refine tri_true rfl ?_ | refine tri_false rfl ?_ | refine tri_block ?_ | refine tri_skip ?_ | refine tri_ret ?_ | refine tri_exit ?_)
      · refine And.intro trivial ?_
        conv => lhs; whnf
      · exact nextR (i + 1, n + v.length) ⟨by simp only; omega, by simp only; omega, hta (by omega)⟩ (weak_st ⟨rfl, rfl, rfl, rfl, rfl, trivial⟩ trivial) (show vs.length - (i + 1) < vs.length - i by omega)
    · repeat' (first | refine a_f ?_ | refine st_nil ?_ | refine tri_seq ?_ | refine tri_region rfl ?_ | refine a_draw ?_ | (apply st_r rfl; case hq => first | exact a_lens | exact a_index | exact a_add | exact a_adds0 | exact a_addsc | exact a_adds | exact a_sub | exact a_slo | exact a_shi | exact a_slh | exact a_lensl | exact a_lenro | exact a_lennil | exact a_lenpts | exact a_field | exact a_fielde | exact a_fieldr | exact a_idxsl | exact a_load | exact a_loada | exact a_mki | exact a_build2 | exact a_build3 | exact a_build1 | exact a_build0 | exact a_bs1 | exact a_bs2 | exact a_bs3 | exact a_bs4 | exact a_bsa | exact a_boxr) | (apply st_rif rfl; (case hq => first | exact a_lss | exact a_gtr | exact a_eql | exact a_neq | exact a_eqls0 | exact a_neqs0 | exact a_eqls | exact a_neqs | exact a_leq | exact a_geq); all_goals (intro _; try (exfalso; first | omega | contradiction))) | (apply st_rw rfl rfl; case hq => first | exact a_store) | refine tri_true rfl ?_ | refine tri_false rfl ?_ | refine tri_block ?_ | refine tri_skip ?_ | refine tri_ret ?_ | refine tri_exit ?_)
      exact outR () (by rw [List.take_of_length_le (by omega)] at ha; exact ha) (weak_st ⟨rfl, rfl, rfl, trivial⟩ trivial)
  clear hv
  have L1 := (links_c s (by omega)).st
  have L2 := (rlinks_c s (by omega)).t
  have hll := linksF_len s
  have F1 := (fill_c vs (linksF s.length s).length (by omega) (by omega)).t
  have E1 := (escape_c s (by omega)).st
  have E2 := (rescape_c s (by omega)).t
  have RP : ∀ V : List B, V.length ≤ 200 → (∀ v ∈ V, v.length ≤ 1500) → ∃ (X : B) (er : AV) (e : Int), CPure gxt 29 [.str s, .ro false 1 (nmRows V)] (.tup [.str X, .int .i64 e]) ∧ CPure gxt 20 [.str s, .ro false 1 (nmRows V)] (.tup [.str X, er]) ∧ CPure gxt 12 [er, .int .i64 e] (.bool true) ∧ (er = .nili ∨ er = .iface 28 (.int .i64 1)) := by
    intro V h1 h2
    have A1 := (rreplace_c s V (by omega) (by omega) (fun v h => by have := h2 v h; omega)).t
    have A2 := (replace_c s V (by omega) (by omega) (fun v h => by have := h2 v h; omega)).st
    by_cases h : V.length = (linksF s.length s).length
    · rw [if_pos h] at A1 A2
      rw [rep_same s V h] at A2
      refine ⟨_, _, _, A1, A2, ?_, .inl rfl⟩
      have h : CPure gxe 12 [.nili, .int .i64 0] (.bool true) := by have := bare_nil_c 0; simpa using this
      exact h.et
    · rw [if_neg h] at A1 A2
      refine ⟨_, _, _, A1, A2, ?_, .inr rfl⟩
      have h : CPure gxe 12 [.iface 28 (.int .i64 1), .int .i64 1] (.bool true) := by have := bare_no_c 1 1; simpa using this
      exact h.et
  have hpl : (picks vs (min (linksF s.length s).length 200)).length ≤ 200 ∧ ∀ v ∈ picks vs (min (linksF s.length s).length 200), v.length ≤ 1500 := ⟨by rw [picks_len]; omega, fun v hv => by
    obtain ⟨j, _, rfl⟩ := List.mem_map.1 hv
    exact pick_le hz j⟩
  have R0 := RP vs (by omega) hz
  have R1 := RP _ hpl.1 hpl.2
  clear RP hpl hz
  generalize escB s = E at E1 E2
  generalize linksF s.length s = L at L1 L2 hll F1 R1
  generalize picks vs (min L.length 200) = P at F1 R1
  have hkl := lk_len L
  rw [← hkl] at F1
  repeat' (first | refine a_f ?_ | refine st_nil ?_ | refine tri_seq ?_ | refine tri_region rfl ?_ | refine a_draw ?_ | (apply st_r rfl; case hq => first | exact q_call L1 (hcf := Tryz.call19) rfl rfl | exact q_call L2 (hcf := Tryz.call27) rfl rfl | exact a_lens | exact a_index | exact a_add | exact a_adds0 | exact a_addsc | exact a_adds | exact a_sub | exact a_slo | exact a_shi | exact a_slh | exact a_lensl | exact a_lenro | exact a_lennil | exact a_lenpts | exact a_field | exact a_fielde | exact a_fieldr | exact a_idxsl | exact a_load | exact a_loada | exact a_mki | exact a_build2 | exact a_build3 | exact a_build1 | exact a_build0 | exact a_bs1 | exact a_bs2 | exact a_bs3 | exact a_bs4 | exact a_bsa | exact a_boxr) | (apply st_rif rfl; (case hq => first | exact a_lss | exact a_gtr | exact a_eql | exact a_neq | exact a_eqls0 | exact a_neqs0 | exact a_eqls | exact a_neqs | exact a_leq | exact a_geq); all_goals (intro _; try (exfalso; first | omega | contradiction))) | (apply st_rw rfl rfl; case hq => first | exact a_store) | refine tri_true rfl ?_ | refine tri_false rfl ?_ | refine tri_block ?_ | refine tri_skip ?_ | refine tri_ret ?_ | refine tri_exit ?_)
  refine tri_loop_to (fun (i : Nat) => i ≤ L.length) (fun i => st [(0, .str s), (1, .ro false 1 (nmRows vs)), (4, .bool false), (7, .ro true 3 (lkRows L)), (8, .ro true 3 (lkRows L)), (9, .int .i64 i)] []) (fun i => L.length - i)
    (fun (_ : Unit) => True) (fun _ => st [(0, .str s), (1, .ro false 1 (nmRows vs)), (4, .bool false), (7, .ro true 3 (lkRows L))] []) 0 (Nat.zero_le _) ?hw2 weak_tri (fun i hi => ?_) (fun _ _ => ?_)
  case hw2 => exact weak_st ⟨rfl, rfl, rfl, rfl, rfl, rfl, trivial⟩ trivial
  · change Tri _ _ (st [(0, .str s), (1, .ro false 1 (nmRows vs)), (4, .bool false), (7, .ro true 3 (lkRows L)), (8, .ro true 3 (lkRows L)), (9, .int .i64 i)] []) _
    by_cases hil : i < L.length
    · obtain ⟨x, hxi, hxd, hxr⟩ := lk_at2 hil
      have hne := ne_link x
      repeat' (first | refine a_f ?_ | refine st_nil ?_ | refine tri_seq ?_ | refine tri_region rfl ?_ | refine a_draw ?_ | (apply st_r rfl; case hq => first | exact q_idxro (by conv => lhs; whnf) (by conv => lhs; whnf) (by first | exact Tryz.underlying22 | exact Tryz.underlying23 | exact Tryz.underlying43 | exact Tryz.underlying44 | exact Tryz.underlying51 | exact Tryz.underlying86 | exact Tryz.underlying191 | exact Tryz.underlying209 | exact Tryz.underlying234 | exact Tryz.underlying270 | exact Tryz.underlying281 | exact Tryz.underlying344) (by kernel_rfl) (by omega) hxr | exact q_loadar (n := 3) (by conv => lhs; whnf) (by conv => lhs; whnf) (by first | rfl | exact Nat.le_of_ble_eq_true rfl | exact Nat.succ_pos _ | decide) (by kernel_rfl) (fun _ => rfl) | exact a_lens | exact a_index | exact a_add | exact a_adds0 | exact a_addsc | exact a_adds | exact a_sub | exact a_slo | exact a_shi | exact a_slh | exact a_lensl | exact a_lenro | exact a_lennil | exact a_lenpts | exact a_field | exact a_fielde | exact a_fieldr | exact a_idxsl | exact a_load | exact a_loada | exact a_mki | exact a_build2 | exact a_build3 | exact a_build1 | exact a_build0 | exact a_bs1 | exact a_bs2 | exact a_bs3 | exact a_bs4 | exact a_bsa | exact a_boxr) | (apply st_rif rfl; (case hq => first | exact q_nestr (dp := inferInstance) (bs := [false, false, true]) rfl rfl (by kernel_rfl) rfl rfl hne | exact a_lss | exact a_gtr | exact a_eql | exact a_neq | exact a_eqls0 | exact a_neqs0 | exact a_eqls | exact a_neqs | exact a_leq | exact a_geq); all_goals (intro _; try (exfalso; first | omega | contradiction))) | (apply st_rw rfl rfl; case hq => first | exact a_store) | refine tri_true rfl ?_ | refine tri_false rfl ?_ | refine tri_block ?_ | refine tri_skip ?_ | refine tri_ret ?_ | refine tri_exit ?_)
      all_goals exact nextR (i + 1) (show i + 1 ≤ L.length by omega) (weak_st ⟨rfl, rfl, rfl, rfl, rfl, rfl, trivial⟩ trivial) (show L.length - (i + 1) < L.length - i by omega)
    · repeat' (first | refine a_f ?_ | refine st_nil ?_ | refine tri_seq ?_ | refine tri_region rfl ?_ | refine a_draw ?_ | (apply st_r rfl; case hq => first | exact a_lens | exact a_index | exact a_add | exact a_adds0 | exact a_addsc | exact a_adds | exact a_sub | exact a_slo | exact a_shi | exact a_slh | exact a_lensl | exact a_lenro | exact a_lennil | exact a_lenpts | exact a_field | exact a_fielde | exact a_fieldr | exact a_idxsl | exact a_load | exact a_loada | exact a_mki | exact a_build2 | exact a_build3 | exact a_build1 | exact a_build0 | exact a_bs1 | exact a_bs2 | exact a_bs3 | exact a_bs4 | exact a_bsa | exact a_boxr) | (apply st_rif rfl; (case hq => first | exact a_lss | exact a_gtr | exact a_eql | exact a_neq | exact a_eqls0 | exact a_neqs0 | exact a_eqls | exact a_neqs | exact a_leq | exact a_geq); all_goals (intro _; try (exfalso; first | omega | contradiction))) | (apply st_rw rfl rfl; case hq => first | exact a_store) | refine tri_true rfl ?_ | refine tri_false rfl ?_ | refine tri_block ?_ | refine tri_skip ?_ | refine tri_ret ?_ | refine tri_exit ?_)
      exact outR () trivial (weak_st ⟨rfl, rfl, rfl, rfl, trivial⟩ trivial)
  repeat' (first | refine a_f ?_ | refine st_nil ?_ | refine tri_seq ?_ | refine tri_region rfl ?_ | refine a_draw ?_ | (apply st_r rfl; case hq => first | exact q_call F1 (hcf := Tryz.call28) rfl rfl | exact q_build2 zArr2 rfl (by kernel_rfl) (by conv => lhs; whnf) (by conv => lhs; whnf) rfl rfl (by conv => lhs; whnf) | exact a_lens | exact a_index | exact a_add | exact a_adds0 | exact a_addsc | exact a_adds | exact a_sub | exact a_slo | exact a_shi | exact a_slh | exact a_lensl | exact a_lenro | exact a_lennil | exact a_lenpts | exact a_field | exact a_fielde | exact a_fieldr | exact a_idxsl | exact a_load | exact a_loada | exact a_mki | exact a_build2 | exact a_build3 | exact a_build1 | exact a_build0 | exact a_bs1 | exact a_bs2 | exact a_bs3 | exact a_bs4 | exact a_bsa | exact a_boxr) | (apply st_rif rfl; (case hq => first | exact a_lss | exact a_gtr | exact a_eql | exact a_neq | exact a_eqls0 | exact a_neqs0 | exact a_eqls | exact a_neqs | exact a_leq | exact a_geq); all_goals (intro _; try (exfalso; first | omega | contradiction))) | (apply st_rw rfl rfl; case hq => first | exact a_store) | refine tri_true rfl ?_ | refine tri_false rfl ?_ | refine tri_block ?_ | refine tri_skip ?_ | refine tri_ret ?_ | refine tri_exit ?_)
  refine tri_loop_to (fun (x : Nat) => x ≤ 2) (fun x => st [(0, .str s), (4, .bool false), (68, .agg [.ro false 1 (nmRows vs), .ro true 1 (nmRows P)]), (69, .int .i64 x)] []) (fun x => 2 - x)
    (fun (_ : Unit) => True) (fun _ => st [(0, .str s), (4, .bool false)] []) 0 (Nat.zero_le _) ?hw3 weak_tri (fun x hx => ?_) (fun _ _ => ?_)
  case hw3 => exact weak_st ⟨rfl, rfl, rfl, rfl, trivial⟩ trivial
  · change Tri _ _ (st [(0, .str s), (4, .bool false), (68, .agg [.ro false 1 (nmRows vs), .ro true 1 (nmRows P)]), (69, .int .i64 x)] []) _
    by_cases hx2 : x < 2
    · obtain ⟨fr, V, hV, R⟩ : ∃ fr V, ([AV.ro false 1 (nmRows vs), .ro true 1 (nmRows P)] : List AV)[(x : Int).toNat]? = some (.ro fr 1 (nmRows V)) ∧ ∃ (X : B) (er : AV) (e : Int), CPure gxt 29 [.str s, .ro false 1 (nmRows V)] (.tup [.str X, .int .i64 e]) ∧ CPure gxt 20 [.str s, .ro false 1 (nmRows V)] (.tup [.str X, er]) ∧ CPure gxt 12 [er, .int .i64 e] (.bool true) ∧ (er = .nili ∨ er = .iface 28 (.int .i64 1)) := by
        match x, hx2 with
        | 0, _ => exact ⟨_, _, rfl, R0⟩
        | 1, _ => exact ⟨_, _, rfl, R1⟩
      obtain ⟨X, er, e, A1, A2, A3, he⟩ := R
      clear R0 R1
      rcases he with rfl | rfl
      all_goals
        repeat' (first | refine a_f ?_ | refine st_nil ?_ | refine tri_seq ?_ | refine tri_region rfl ?_ | refine a_draw ?_ | (apply st_r rfl; case hq => first | exact q_indexagg1 (by conv => lhs; whnf) (by conv => lhs; whnf) Tryz.underlying65 (by show scalB Tryz.prog _ = true; decide +kernel) (by kernel_rfl) (by omega) (by omega) hV | exact q_call A1 (hcf := Tryz.call29) rfl rfl | exact q_call A2 (hcf := Tryz.call20) rfl rfl | exact q_call A3 (hcf := Tryz.call12) rfl rfl | exact a_lens | exact a_index | exact a_add | exact a_adds0 | exact a_addsc | exact a_adds | exact a_sub | exact a_slo | exact a_shi | exact a_slh | exact a_lensl | exact a_lenro | exact a_lennil | exact a_lenpts | exact a_field | exact a_fielde | exact a_fieldr | exact a_idxsl | exact a_load | exact a_loada | exact a_mki | exact a_build2 | exact a_build3 | exact a_build1 | exact a_build0 | exact a_bs1 | exact a_bs2 | exact a_bs3 | exact a_bs4 | exact a_bsa | exact a_boxr) | (apply st_rif rfl; (case hq => first | exact a_lss | exact a_gtr | exact a_eql | exact a_neq | exact a_eqls0 | exact a_neqs0 | exact a_eqls | exact a_neqs | exact a_leq | exact a_geq); all_goals (intro _; try (exfalso; first | omega | contradiction))) | (apply st_rw rfl rfl; case hq => first | exact a_store) | refine tri_true rfl ?_ | refine tri_false rfl ?_ | refine tri_block ?_ | refine tri_skip ?_ | refine tri_ret ?_ | refine tri_exit ?_)
        all_goals exact nextR (x + 1) (show x + 1 ≤ 2 by omega) (weak_st ⟨rfl, rfl, rfl, rfl, trivial⟩ trivial) (show 2 - (x + 1) < 2 - x by omega)
    · repeat' (first | refine a_f ?_ | refine st_nil ?_ | refine tri_seq ?_ | refine tri_region rfl ?_ | refine a_draw ?_ | (apply st_r rfl; case hq => first | exact a_lens | exact a_index | exact a_add | exact a_adds0 | exact a_addsc | exact a_adds | exact a_sub | exact a_slo | exact a_shi | exact a_slh | exact a_lensl | exact a_lenro | exact a_lennil | exact a_lenpts | exact a_field | exact a_fielde | exact a_fieldr | exact a_idxsl | exact a_load | exact a_loada | exact a_mki | exact a_build2 | exact a_build3 | exact a_build1 | exact a_build0 | exact a_bs1 | exact a_bs2 | exact a_bs3 | exact a_bs4 | exact a_bsa | exact a_boxr) | (apply st_rif rfl; (case hq => first | exact a_lss | exact a_gtr | exact a_eql | exact a_neq | exact a_eqls0 | exact a_neqs0 | exact a_eqls | exact a_neqs | exact a_leq | exact a_geq); all_goals (intro _; try (exfalso; first | omega | contradiction))) | (apply st_rw rfl rfl; case hq => first | exact a_store) | refine tri_true rfl ?_ | refine tri_false rfl ?_ | refine tri_block ?_ | refine tri_skip ?_ | refine tri_ret ?_ | refine tri_exit ?_)
      exact outR () trivial (weak_st ⟨rfl, rfl, trivial⟩ trivial)
  repeat' (first | refine a_f ?_ | refine st_nil ?_ | refine tri_seq ?_ | refine tri_region rfl ?_ | refine a_draw ?_ | (apply st_r rfl; case hq => first | exact q_call E1 (hcf := Tryz.call30) rfl rfl | exact q_call E2 (hcf := Tryz.call31) rfl rfl | exact a_lens | exact a_index | exact a_add | exact a_adds0 | exact a_addsc | exact a_adds | exact a_sub | exact a_slo | exact a_shi | exact a_slh | exact a_lensl | exact a_lenro | exact a_lennil | exact a_lenpts | exact a_field | exact a_fielde | exact a_fieldr | exact a_idxsl | exact a_load | exact a_loada | exact a_mki | exact a_build2 | exact a_build3 | exact a_build1 | exact a_build0 | exact a_bs1 | exact a_bs2 | exact a_bs3 | exact a_bs4 | exact a_bsa | exact a_boxr) | (apply st_rif rfl; (case hq => first | exact a_lss | exact a_gtr | exact a_eql | exact a_neq | exact a_eqls0 | exact a_neqs0 | exact a_eqls | exact a_neqs | exact a_leq | exact a_geq); all_goals (intro _; try (exfalso; first | omega | contradiction))) | (apply st_rw rfl rfl; case hq => first | exact a_store) | refine tri_true rfl ?_ | refine tri_false rfl ?_ | refine tri_block ?_ | refine tri_skip ?_ | refine tri_ret ?_ | refine tri_exit ?_)
  refine And.intro trivial ?_
  conv => lhs; whnf
end Go.Proofs.YtignjjnflcpiiaaGreatDoor
