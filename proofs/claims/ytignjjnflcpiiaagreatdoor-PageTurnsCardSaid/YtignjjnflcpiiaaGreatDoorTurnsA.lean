/- PageTurns: what its walk is told of. -/
import Derived.Test.YtignjjnflcpiiaaGreatDoorPageU
import Derived.Test.YtignjjnflcpiiaaGreatDoorVm5
set_option linter.unusedVariables false
set_option linter.unusedSimpArgs false
set_option maxHeartbeats 1000000
namespace Go.Proofs.YtignjjnflcpiiaaGreatDoor
open Go.RowKit
attribute [local irreducible] Tri Steps Qd Wr Weak CPure CEff CNew CutN AllB Behind
set_option maxRecDepth 100000

theorem suffix_c (s p : B) (hs : s.length ≤ 9223372036854775807) : CPure gxs 21 [.str s, .str p] (.bool (Lib.hasSuffix s p)) :=
  cpure_val rfl rfl fun w _ => (Tryz.strings_HasSuffix ⟨s.toArray⟩ ⟨p.toArray⟩ w (by rw [sizeMk]; exact hs)).mono fun e w' h => ⟨h.1, h.2 ▸ ext_refl w⟩
set_option maxHeartbeats 4000000 in
theorem linked_c : CPure gxs 18 [] (.bool true) := by
  refine cpure_of Tryz.func18 rfl (Nat.le_of_ble_eq_true rfl) rfl (fun w hw => ?_)
  have R1 := links_c linkS (by decide)
  rw [linksF_linkS] at R1
  have R1' : CPure gxs 19 [.str linkS] (.ro true 3 [[.int .i64 9, .int .i64 7, .str [120, 38, 121]], [.int .i64 27, .int .i64 1, .str [122]]]) := R1
  repeat' (first | refine a_f ?_ | refine st_nil ?_ | refine tri_seq ?_ | refine tri_region rfl ?_ | refine a_draw ?_ | (apply st_r rfl; case hq => first | exact q_call R1' (hcf := Tryz.call19) rfl rfl | exact q_idxro (by conv => lhs; whnf) (by conv => lhs; whnf) (by first | exact Tryz.underlying22 | exact Tryz.underlying23 | exact Tryz.underlying43 | exact Tryz.underlying44 | exact Tryz.underlying51 | exact Tryz.underlying86 | exact Tryz.underlying191 | exact Tryz.underlying209 | exact Tryz.underlying234 | exact Tryz.underlying270 | exact Tryz.underlying281 | exact Tryz.underlying344) (by kernel_rfl) (by omega) rfl | exact q_loadr (by conv => lhs; whnf) (by conv => lhs; whnf) (by show scalB Tryz.prog _ = true; decide +kernel) (fun _ => rfl) | exact a_lens | exact a_index | exact a_add | exact a_adds0 | exact a_addsc | exact a_adds | exact a_sub | exact a_slo | exact a_shi | exact a_slh | exact a_lensl | exact a_lenro | exact a_lennil | exact a_lenpts | exact a_field | exact a_fielde | exact a_fieldr | exact a_idxsl | exact a_load | exact a_loada | exact a_mki | exact a_build2 | exact a_build3 | exact a_build1 | exact a_build0 | exact a_bs1 | exact a_bs2 | exact a_bs3 | exact a_bs4 | exact a_bsa | exact a_boxr) | (apply st_rif rfl; (case hq => first | exact a_lss | exact a_gtr | exact a_eql | exact a_neq | exact a_eqls0 | exact a_neqs0 | exact a_eqls | exact a_neqs | exact a_leq | exact a_geq); all_goals (intro _; try (exfalso; first | omega | contradiction))) | (apply st_rw rfl rfl; case hq => first | exact a_store) | refine tri_true rfl ?_ | refine tri_false rfl ?_ | refine tri_block ?_ | refine tri_skip ?_ | refine tri_ret ?_ | refine tri_exit ?_)
  all_goals first
    | (refine And.intro trivial ?_
       conv => lhs; whnf)
    | (exfalso; exact ‹¬ _› rfl)
    | (exfalso; simp_all; done)
def pick (vs : List B) (j : Nat) : B := vs.getD (j % vs.length) []
def picks (vs : List B) (n : Nat) : List B := (List.range n).map (pick vs)
theorem picks_len (vs : List B) (n : Nat) : (picks vs n).length = n := by simp [picks]
theorem picks_take {vs : List B} {n i : Nat} (h : i < n) : nmRows ((picks vs n).take i) ++ [[.str (pick vs i)]] = nmRows ((picks vs n).take (i + 1)) := by
  rw [List.take_add_one]
  simp [nmRows, picks, h]
theorem vals_take {l : List Lk} {i : Nat} {p g : Nat} {v : B} (h : l[i]? = some (p, g, v)) : nmRows ((l.map (·.2.2)).take i) ++ [[.str v]] = nmRows ((l.map (·.2.2)).take (i + 1)) := by
  rw [List.take_add_one]
  simp [nmRows, h]
theorem pick_mem {vs : List B} (h : 0 < vs.length) (j : Nat) : pick vs j ∈ vs := by
  have hj : j % vs.length < vs.length := Nat.mod_lt _ h
  unfold pick
  rw [List.getD_eq_getElem?_getD, List.getElem?_eq_getElem hj]
  exact List.getElem_mem hj
theorem pick_nil (j : Nat) : pick [] j = [] := by simp [pick]
theorem pick_le {vs : List B} (h : ∀ v ∈ vs, v.length ≤ 1500) (j : Nat) : (pick vs j).length ≤ 1500 := by
  by_cases h0 : 0 < vs.length
  · exact h _ (pick_mem h0 j)
  · have : vs = [] := List.eq_nil_of_length_eq_zero (by omega)
    subst this; rw [pick_nil]; decide
theorem pick_row {vs : List B} (h : 0 < vs.length) (j : Nat) : (nmRows vs)[((j : Int) % ((nmRows vs).length : Int)).toNat]? = some [.str (pick vs j)] := by
  have hj : j % vs.length < vs.length := Nat.mod_lt _ h
  rw [nm_len, ← Int.natCast_emod, Int.toNat_natCast, nmRows, List.getElem?_map, List.getElem?_eq_getElem hj, pick, List.getD_eq_getElem?_getD, List.getElem?_eq_getElem hj]
  rfl
theorem suf_app (z x : B) : Lib.hasSuffix (z ++ x) x = true := by
  unfold Lib.hasSuffix
  simp
theorem tk_all {P : B → Prop} {vs : List B} {i : Nat} (hi : i < vs.length) (h : ∀ v ∈ vs.take i, P v) (hv : P vs[i]) : ∀ v ∈ vs.take (i + 1), P v := by
  intro v hm
  rw [List.take_add_one, List.getElem?_eq_getElem hi] at hm
  rcases List.mem_append.1 hm with hm | hm
  · exact h v hm
  · rw [Option.toList_some, List.mem_singleton] at hm; rw [hm]; exact hv
theorem lk_at2 {l : List Lk} {i : Nat} (h : i < l.length) : ∃ x, l[i]? = some x ∧ l.drop i = x :: l.drop (i + 1) ∧ (lkRows l)[(i : Int).toNat]? = some [.int .i64 x.1, .int .i64 x.2.1, .str x.2.2] := by
  refine ⟨l[i], List.getElem?_eq_getElem h, List.drop_eq_getElem_cons h, ?_⟩
  rw [Int.toNat_natCast, lkRows, List.getElem?_map, List.getElem?_eq_getElem h]; rfl
theorem vals_at {l : List Lk} {i p g : Nat} {v : B} (h : l[i]? = some (p, g, v)) : (nmRows (l.map (·.2.2)))[(i : Int).toNat]? = some [.str v] := by
  rw [Int.toNat_natCast, nmRows, List.getElem?_map, List.getElem?_map, h]; rfl
def Rs20 : List (List Nat) := [[], [10], [9, 10], [8, 9, 10], [7, 8, 9, 10], [5, 7, 8, 9, 10], [6, 7, 8, 9, 10], [5, 6, 7, 8, 9, 10], [4], [4, 10], [4, 9, 10], [4, 8, 9, 10], [4, 7, 8, 9, 10], [4, 5, 7, 8, 9, 10], [4, 6, 7, 8, 9, 10], [4, 5, 6, 7, 8, 9, 10]]
abbrev S2 (s : B) (vs : List B) (L : List Lk) (i : Nat) : St := st [(0, .str s), (1, .ro false 1 (nmRows vs)), (4, .bool false), (7, .ro true 3 (lkRows L)), (8, .sl 101), (9, .sl 102), (10, .int .i64 i)] [(101, .rows 9 1 (nmRows ((picks vs L.length).take i))), (102, .rows 9 1 (nmRows ((L.map (·.2.2)).take i)))]
abbrev S3 (s t u : B) (L M O : List Lk) (A D : List B) (x : Nat × Nat × Nat) : St := st [(0, .str s), (4, .bool false), (7, .ro true 3 (lkRows L)), (8, .ro false 1 (nmRows A)), (9, .ro false 1 (nmRows D)), (12, .str t), (14, .str u), (16, .ro true 3 (lkRows M)), (17, .ro true 3 (lkRows O)), (18, .int .i64 x.2.1), (19, .int .i64 x.2.2), (20, .int .i64 x.1)] []
end Go.Proofs.YtignjjnflcpiiaaGreatDoor
