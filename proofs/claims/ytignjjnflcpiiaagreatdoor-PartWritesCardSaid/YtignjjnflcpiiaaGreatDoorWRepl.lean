import Derived.Test.YtignjjnflcpiiaaGreatDoorWVm4
import Derived.Test.YtignjjnflcpiiaaGreatDoorWG8
set_option linter.unusedVariables false
set_option linter.unusedSimpArgs false
set_option maxHeartbeats 1000000
namespace Go.Proofs.YtignjjnflcpiiaaGreatDoor
open Go.RowKit
attribute [local irreducible] Tri Steps Qd Wr Weak CPure CEff CNew
set_option maxRecDepth 100000
def pairRows (l : List (UInt8 × List UInt8)) : List (List AV) := l.flatMap fun p => [[.str [p.1]], [.str p.2]]
theorem pairRows_length : ∀ l, (pairRows l).length = 2 * l.length
  | [] => rfl
  | p :: r => by
    have := pairRows_length r
    simp only [pairRows, List.flatMap_cons, List.length_append, List.length_cons, List.length_nil] at *
    omega
theorem pairRows_flat (l : List (UInt8 × List UInt8)) : ((pairRows l).all fun r => r.all AV.flat) = true := by
  rw [List.all_eq_true]
  intro r hr
  obtain ⟨p, _, hp⟩ := List.mem_flatMap.1 hr
  simp only [List.mem_cons, List.mem_nil_iff, or_false] at hp
  rcases hp with rfl | rfl <;> rfl
theorem zRepl : zeroL Tryz.prog 171 = some [.int .u32 0, .int .i32 0, .int .u32 0, .nili, .nils] := by kernel_rfl
theorem newrep_c (l : List (UInt8 × List UInt8)) (hl : l.length ≤ 1000) (hne : 0 < l.length) : CNew gx 56 [.ro false 1 (pairRows l)] [.int .u32 0, .int .i32 0, .int .u32 0, .nili, .ro true 1 (pairRows l)] := by
  refine cnew_of Tryz.func56 rfl (Nat.le_of_ble_eq_true rfl) rfl (fun w hw => ?_)
  have hlen := pairRows_length l
  have hne2 : pairRows l ≠ [] := fun h => by rw [h] at hlen; simp at hlen; omega
  have hfl := pairRows_flat l
  repeat' (first | refine a_f ?_ | refine st_nil ?_ | refine tri_seq ?_ | refine tri_region rfl ?_ | refine a_draw ?_ | (apply st_r rfl; case hq => first | exact q_lenro (by conv => lhs; whnf) (by first | exact Tryz.underlying22 | exact Tryz.underlying23 | exact Tryz.underlying43 | exact Tryz.underlying44 | exact Tryz.underlying51 | exact Tryz.underlying86 | exact Tryz.underlying191 | exact Tryz.underlying209 | exact Tryz.underlying234 | exact Tryz.underlying270 | exact Tryz.underlying281 | exact Tryz.underlying344) | exact q_rem (by conv => lhs; whnf) (by conv => lhs; whnf) (by decide) (by omega) | exact q_buildf (off := 4) zRepl (by kernel_rfl) (by conv => lhs; whnf) (by conv => lhs; whnf) (by first | rfl | exact Nat.le_of_ble_eq_true rfl | exact Nat.succ_pos _ | decide) (by conv => lhs; whnf) | exact a_q) | (apply st_rif rfl; (case hq => first | exact a_i); all_goals (intro _; try (exfalso; first | omega | contradiction))) | (apply st_rw rfl rfl; case hq => first | exact w_appendn 101 (by conv => lhs; whnf) (by conv => lhs; whnf) (by first | exact Tryz.underlying22 | exact Tryz.underlying23 | exact Tryz.underlying43 | exact Tryz.underlying44 | exact Tryz.underlying51 | exact Tryz.underlying86 | exact Tryz.underlying191 | exact Tryz.underlying209 | exact Tryz.underlying234 | exact Tryz.underlying270 | exact Tryz.underlying281 | exact Tryz.underlying344) (by kernel_rfl) hne2 hfl (by omega) rfl rfl | exact w_box 100 (by conv => lhs; whnf) rfl (by conv => lhs; whnf) rfl rfl rfl | exact a_store) | refine tri_true rfl ?_ | refine tri_false rfl ?_ | refine tri_block ?_ | refine tri_skip ?_ | refine tri_ret ?_ | refine tri_exit ?_)
  exact ⟨2, 100, _, rfl, rfl, rfl, rfl⟩
def look : List (UInt8 × List UInt8) → UInt8 → Option (List UInt8)
  | [], _ => none
  | p :: r, c => if p.1 = c then some p.2 else look r c
def cellAV (l : List (UInt8 × List UInt8)) (c : UInt8) : AV := match look l c with
  | some n => .ro true 1 (byteRows n)
  | none => .nils
def tab (l : List (UInt8 × List UInt8)) : List AV := (List.range 256).map fun i => cellAV l (UInt8.ofNat i)
def repl : List (UInt8 × List UInt8) → List UInt8
  | [] => []
  | p :: r => match look r p.1 with
    | none => repl r ++ [p.1]
    | some _ => repl r
def repRows (l : List UInt8) : List (List AV) := l.map fun c => [.str [c]]
theorem tab_length (l) : (tab l).length = 256 := by simp [tab]
theorem tab_get (l : List (UInt8 × List UInt8)) (x : AV) (c : UInt8) : (tab l ++ [x])[0 + 0 + (c.toNat : Int).toNat * 1]? = some (cellAV l c) := by
  have hc : c.toNat < 256 := c.toNat_lt
  have e : 0 + 0 + (c.toNat : Int).toNat * 1 = c.toNat := by omega
  rw [e, List.getElem?_append_left (by rw [tab_length]; exact hc), tab, List.getElem?_map, List.getElem?_range hc]
  simp
theorem tab_last (l : List (UInt8 × List UInt8)) (x : AV) : (tab l ++ [x])[0 + 256]? = some x := by
  rw [List.getElem?_append_right (by rw [tab_length]; omega), tab_length]
  rfl
theorem tab_fit (l : List (UInt8 × List UInt8)) (x : AV) (c : UInt8) : 0 + 0 + (c.toNat : Int).toNat * 1 + 1 ≤ (tab l ++ [x]).length := by
  have hc : c.toNat < 256 := c.toNat_lt
  rw [List.length_append, tab_length, List.length_singleton]; omega
theorem tab_store (p : UInt8 × List UInt8) (r : List (UInt8 × List UInt8)) (x : AV) : (tab r ++ [x]).take (0 + 0 + (p.1.toNat : Int).toNat * 1) ++ (AV.ro true 1 (byteRows p.2)).cl ++ (tab r ++ [x]).drop (0 + 0 + (p.1.toNat : Int).toNat * 1 + 1) = tab (p :: r) ++ [x] := by
  have hc : p.1.toNat < 256 := p.1.toNat_lt
  have e : 0 + 0 + (p.1.toNat : Int).toNat * 1 = p.1.toNat := by omega
  rw [e]
  have e2 : (AV.ro true 1 (byteRows p.2)).cl = [AV.ro true 1 (byteRows p.2)] := rfl
  rw [e2]
  apply List.ext_getElem?
  intro k
  have hs := splice_get (tab r ++ [x]) [AV.ro true 1 (byteRows p.2)] p.1.toNat (by rw [List.length_append, tab_length]; simp; omega) k
  rw [List.length_singleton] at hs
  rw [hs]
  by_cases hk : k < 256
  · rw [List.getElem?_append_left (by rw [tab_length]; exact hk), List.getElem?_append_left (by rw [tab_length]; exact hk)]
    simp only [tab, List.getElem?_map, List.getElem?_range hk, Option.map_some]
    by_cases h : p.1.toNat ≤ k ∧ k < p.1.toNat + 1
    · rw [if_pos h]
      have hkp : k = p.1.toNat := by omega
      subst hkp
      simp [cellAV, look]
    · rw [if_neg h]
      have hkp : p.1 ≠ UInt8.ofNat k := fun e => h (by
        have := congrArg UInt8.toNat e
        rw [UInt8.toNat_ofNat_of_lt' hk] at this
        omega)
      simp [cellAV, look, hkp]
  · rw [if_neg (by omega), List.getElem?_append_right (by rw [tab_length]; omega), List.getElem?_append_right (by rw [tab_length]; omega), tab_length, tab_length]
theorem tab_noment (l : List (UInt8 × List UInt8)) (t : Nat) : (tab l).map (AV.kill t) = tab l := by
  simp only [tab, List.map_map]
  refine List.map_congr_left fun i _ => ?_
  simp only [Function.comp, cellAV]
  cases look l (UInt8.ofNat i) <;> rfl
theorem tab_kill (l : List (UInt8 × List UInt8)) : ((tab l ++ [AV.sl 101]).map (AV.kill 101)).take (0 + 256) ++ (AV.sl 101).cl ++ ((tab l ++ [AV.sl 101]).map (AV.kill 101)).drop (0 + 256 + 1) = tab l ++ [.sl 101] := by
  rw [List.map_append, tab_noment]
  rw [List.take_append_of_le_length (by rw [tab_length]; omega), List.take_of_length_le (by rw [tab_length]; omega), List.drop_eq_nil_of_le (by rw [List.length_append, tab_length]; simp), List.append_nil]
  rfl
theorem tab_kfit (l : List (UInt8 × List UInt8)) : 0 + 256 + 1 ≤ ((tab l ++ [AV.sl 101]).map (AV.kill 101)).length := by
  rw [List.length_map, List.length_append, tab_length]; simp
theorem tab_nil : tab [] = List.replicate 256 .nils := by
  simp only [tab]
  rw [show (fun i => cellAV [] (UInt8.ofNat i)) = (fun _ => AV.nils) from funext fun i => rfl, List.map_const', List.length_range]
theorem rep_set : (List.replicate 257 AV.nils).set 256 (.sl 101) = List.replicate 256 .nils ++ [.sl 101] := by
  rw [show (257 : Nat) = 256 + 1 from rfl, List.replicate_succ', List.set_append_right _ _ (by simp)]
  simp
theorem rep_store : (List.replicate 257 AV.nils).take 0 ++ (AV.agg (List.replicate 256 AV.nils ++ [.sl 101])).cl ++ (List.replicate 257 AV.nils).drop (0 + 257) = tab [] ++ [.sl 101] := by
  rw [tab_nil, List.drop_eq_nil_of_le (by simp), List.append_nil]; rfl
theorem rep_stor {H : Heap} {e : TypeId} {sz : Nat} {rows : List (List AV)} (h : H 101 = some (.rows e sz rows)) : storable H (AV.agg (List.replicate 256 AV.nils ++ [.sl 101])) = true := by
  simp only [storable, List.all_append, List.all_cons, List.all_nil, Bool.and_true, Bool.and_eq_true]
  refine ⟨List.all_eq_true.2 fun v hv => ?_, ?_⟩
  · rw [List.eq_of_mem_replicate hv]; rfl
  · simp only [storable1, h]
theorem rep_ment (t : Nat) : ∀ n, AV.mentL t (List.replicate n AV.nils) = false
  | 0 => rfl
  | n + 1 => by rw [List.replicate_succ, AV.mentL]; exact rep_ment t n
theorem zBSR : zeroL Tryz.prog 252 = some (List.replicate 257 .nils) := by kernel_rfl
theorem zStr : zeroL Tryz.prog 9 = some [.str []] := by kernel_rfl
theorem pairRows_get : ∀ (l : List (UInt8 × List UInt8)) (i : Nat) (h : i < l.length), (pairRows l)[2 * i]? = some [.str [l[i].1]] ∧ (pairRows l)[2 * i + 1]? = some [.str l[i].2]
  | p :: r, 0, _ => ⟨rfl, rfl⟩
  | p :: r, i + 1, h => by
    have := pairRows_get r i (by simpa using h)
    have e : pairRows (p :: r) = [.str [p.1]] :: [.str p.2] :: pairRows r := rfl
    rw [e, show 2 * (i + 1) = 2 * i + 1 + 1 by omega, show 2 * i + 1 + 1 + 1 = (2 * i + 1) + 1 + 1 by omega]
    simp only [List.getElem?_cons_succ, List.getElem_cons_succ]
    exact this
theorem fz_box {T : TypeId} {e : TypeId} {H : Heap} {l : List (UInt8 × List UInt8)} {rows : List (List AV)} (h1 : H 100 = some (.box (tab l ++ [.sl 101]))) (h2 : H 101 = some (.rows e 1 rows)) : (AV.iface T (.ptr 100 0)).fz H true = .iface T (.rptr true (tab l ++ [.ro true 1 rows])) := by
  rw [AV.fz, AV.fz, h1]
  simp only [List.drop_zero, List.map_append, List.map_cons, List.map_nil]
  have e1 : (AV.sl 101).fc H true = .ro true 1 rows := by simp only [AV.fc, h2]
  have e2 : (tab l).map (AV.fc H true) = tab l := by
    simp only [tab, List.map_map]
    refine List.map_congr_left fun i _ => ?_
    simp only [Function.comp, cellAV]
    cases look l (UInt8.ofNat i) <;> rfl
  rw [e1, e2]
  have e3 : ∀ (q : List AV), q ≠ [] → rptrOf true q = .rptr true q := fun q hq => by
    cases q with
    | nil => exact absurd rfl hq
    | cons v r => rfl
  rw [e3 _ (by simp)]
section
variable {C : Cx} {σ : St} {d : Option Nat} {x y z : Operand} {t ty ty2 : TypeId} {pos : String} {af : Array Edge} {g : Option (Nat × Bool)} {u : List UInt8}
theorem q_lensE {n : Nat} {ts : TypeId} (hx : σ.ev x = .str u) (ht : C.P.underlying ts = some .string) (hl : u.length = n) (hn : n ≤ 9223372036854775807) : Qd C ⟨d, .call { callee := .builtin .len, args := #[x], argTypes := #[ts] }, ty, pos, af, g⟩ σ (.int .i64 n) := by
  subst hl
  exact q_lens hx ht hn
end
theorem look_mem : ∀ {l : List (UInt8 × List UInt8)} {c : UInt8} {n : List UInt8}, look l c = some n → ∃ p ∈ l, p.2 = n
  | p :: r, c, n, h => by
    rw [look] at h
    split at h
    · exact ⟨p, List.mem_cons_self, Option.some.inj h⟩
    · obtain ⟨q, hq, he⟩ := look_mem h
      exact ⟨q, List.mem_cons_of_mem _ hq, he⟩
theorem repl_length : ∀ l, (repl l).length ≤ l.length
  | [] => Nat.le_refl _
  | p :: r => by
    have := repl_length r
    simp only [repl]
    cases look r p.1 <;> simp <;> omega
theorem quo2 {n : Nat} (h : n ≤ 1000000) : IntKind.i64.wrap ((n : Int).tdiv 2) = (n : Int) / 2 := by
  rw [Int.tdiv_eq_ediv_of_nonneg (by omega)]
  exact IntWalk.i64_in _ (by omega)
set_option maxHeartbeats 4000000 in
theorem build_c (l : List (UInt8 × List UInt8)) (hl : l.length ≤ 1000) (h2 : 2 ≤ l.length) (hnew : ∀ p ∈ l, 2 ≤ p.2.length ∧ p.2.length ≤ 1000) :
    CPure gx 164 [.rptr false [.int .u32 0, .int .i32 1, .int .u32 0, .nili, .ro false 1 (pairRows l)]] (.iface 253 (.rptr true (tab l ++ [.ro true 1 (repRows (repl l))]))) := by
  refine cpure_of Tryz.func164 rfl (Nat.le_of_ble_eq_true rfl) rfl (fun w hw => ?_)
  have hlen := pairRows_length l
  repeat' (first | refine a_f ?_ | refine st_nil ?_ | refine tri_seq ?_ | refine tri_region rfl ?_ | refine a_draw ?_ | (apply st_r rfl; case hq => first | exact q_fieldr (off := 4) (by conv => lhs; whnf) (by kernel_rfl) (by first | rfl | exact Nat.le_of_ble_eq_true rfl | exact Nat.succ_pos _ | decide) | exact q_loadr (by conv => lhs; whnf) (by conv => lhs; whnf) (by show scalB Tryz.prog _ = true; decide +kernel) (fun _ => rfl) | exact q_lenro (by conv => lhs; whnf) (by first | exact Tryz.underlying22 | exact Tryz.underlying23 | exact Tryz.underlying43 | exact Tryz.underlying44 | exact Tryz.underlying51 | exact Tryz.underlying86 | exact Tryz.underlying191 | exact Tryz.underlying209 | exact Tryz.underlying234 | exact Tryz.underlying270 | exact Tryz.underlying281 | exact Tryz.underlying344) | exact a_q) | (apply st_rif rfl; (case hq => first | exact a_i); all_goals (intro _; try (exfalso; first | omega | contradiction))) | (apply st_rw rfl rfl; case hq => first | exact a_store) | refine tri_true rfl ?_ | refine tri_false rfl ?_ | refine tri_block ?_ | refine tri_skip ?_ | refine tri_ret ?_ | refine tri_exit ?_)
  refine tri_loop (fun (x : Nat × Bool) => x.1 ≤ l.length ∧ (0 < x.1 → x.2 = false)) (fun x => st [(0, .rptr false [.int .u32 0, .int .i32 1, .int .u32 0, .nili, .ro false 1 (pairRows l)]), (2, .nili), (3, .ro false 1 (pairRows l)), (4, .bool x.2), (5, .int .i64 ((2 * x.1 : Nat) : Int))] []) (fun x => l.length - x.1) (0, true) ⟨Nat.zero_le _, fun h => absurd h (Nat.lt_irrefl _)⟩ ?hw1 (fun x hx => ?_)
  case hw1 => exact weak_st ⟨rfl, rfl, rfl, rfl, rfl, trivial⟩ trivial
  obtain ⟨i, b⟩ := x
  obtain ⟨hi, hb⟩ := hx
  simp only at hi hb
  by_cases hil : i < l.length
  · obtain ⟨g0, g1⟩ := pairRows_get l i hil
    have hp := hnew l[i] (List.getElem_mem hil)
    generalize l[i] = p at g0 g1 hp
    have r0 : (pairRows l)[((2 * i : Nat) : Int).toNat]? = some [.str [p.1]] := by rw [Int.toNat_natCast]; exact g0
    have r1 : (pairRows l)[(((2 * i : Nat) : Int) + 1).toNat]? = some [.str p.2] := by rw [show ((((2 * i : Nat) : Int) + 1).toNat) = 2 * i + 1 by omega]; exact g1
    repeat' (first | refine a_f ?_ | refine st_nil ?_ | refine tri_seq ?_ | refine tri_region rfl ?_ | refine a_draw ?_ | (apply st_r rfl; case hq => first | exact q_idxro (by conv => lhs; whnf) (by conv => lhs; whnf) (by first | exact Tryz.underlying22 | exact Tryz.underlying23 | exact Tryz.underlying43 | exact Tryz.underlying44 | exact Tryz.underlying51 | exact Tryz.underlying86 | exact Tryz.underlying191 | exact Tryz.underlying209 | exact Tryz.underlying234 | exact Tryz.underlying270 | exact Tryz.underlying281 | exact Tryz.underlying344) (by kernel_rfl) (by omega) r0 | exact q_idxro (by conv => lhs; whnf) (by conv => lhs; whnf) (by first | exact Tryz.underlying22 | exact Tryz.underlying23 | exact Tryz.underlying43 | exact Tryz.underlying44 | exact Tryz.underlying51 | exact Tryz.underlying86 | exact Tryz.underlying191 | exact Tryz.underlying209 | exact Tryz.underlying234 | exact Tryz.underlying270 | exact Tryz.underlying281 | exact Tryz.underlying344) (by kernel_rfl) (by omega) r1 | exact q_loadr (by conv => lhs; whnf) (by conv => lhs; whnf) (by show scalB Tryz.prog _ = true; decide +kernel) (fun _ => rfl) | exact q_lenro (by conv => lhs; whnf) (by first | exact Tryz.underlying22 | exact Tryz.underlying23 | exact Tryz.underlying43 | exact Tryz.underlying44 | exact Tryz.underlying51 | exact Tryz.underlying86 | exact Tryz.underlying191 | exact Tryz.underlying209 | exact Tryz.underlying234 | exact Tryz.underlying270 | exact Tryz.underlying281 | exact Tryz.underlying344) | exact q_lensE (u := [_]) (n := 1) (by conv => lhs; whnf) (by kernel_rfl) rfl (by decide) | exact a_q) | (apply st_rif rfl; (case hq => first | exact a_i); all_goals (intro _; try (exfalso; first | omega | contradiction))) | (apply st_rw rfl rfl; case hq => first | exact a_store) | refine tri_true rfl ?_ | refine tri_false rfl ?_ | refine tri_block ?_ | refine tri_skip ?_ | refine tri_ret ?_ | refine tri_exit ?_)
    exact loop_next (i + 1, false) ⟨by simp only; omega, fun _ => rfl⟩ (weak_st ⟨rfl, rfl, rfl, rfl, congrArg (AV.int .i64) (by simp only; omega), trivial⟩ trivial) (show l.length - (i + 1) < l.length - i by omega)
  · have hil' : i = l.length := by omega
    have hb' := hb (by omega)
    subst hb'
    repeat' (first | refine a_f ?_ | refine st_nil ?_ | refine tri_seq ?_ | refine tri_region rfl ?_ | refine a_draw ?_ | (apply st_r rfl; case hq => first | exact q_lenro (by conv => lhs; whnf) (by first | exact Tryz.underlying22 | exact Tryz.underlying23 | exact Tryz.underlying43 | exact Tryz.underlying44 | exact Tryz.underlying51 | exact Tryz.underlying86 | exact Tryz.underlying191 | exact Tryz.underlying209 | exact Tryz.underlying234 | exact Tryz.underlying270 | exact Tryz.underlying281 | exact Tryz.underlying344) | exact q_quo (by conv => lhs; whnf) (by conv => lhs; whnf) (by decide) (quo2 (by omega)) | exact q_buildf (off := 256) zBSR (by kernel_rfl) (by conv => lhs; whnf) (by conv => lhs; whnf) (by simp) rep_set | exact a_q) | (apply st_rif rfl; (case hq => first | exact a_i); all_goals (intro _; try (exfalso; first | omega | contradiction))) | (apply st_rw rfl rfl; case hq => first | exact w_mk (n := 0) (c := l.length) 101 (by conv => lhs; whnf) (by conv => lhs; whnf) (by rfl) (by omega) (by first | exact Tryz.underlying22 | exact Tryz.underlying23 | exact Tryz.underlying43 | exact Tryz.underlying44 | exact Tryz.underlying51 | exact Tryz.underlying86 | exact Tryz.underlying191 | exact Tryz.underlying209 | exact Tryz.underlying234 | exact Tryz.underlying270 | exact Tryz.underlying281 | exact Tryz.underlying344) (by kernel_rfl) zStr rfl (Nat.zero_le _) (by omega) rfl rfl | exact w_alloc 100 zBSR rfl (rep_ment 100 257) rfl | exact w_store (n := 257) (by conv => lhs; whnf) (by conv => lhs; whnf; arg 1; whnf) (by conv => lhs; whnf) (rep_stor (by conv => lhs; whnf; arg 1; whnf)) (by kernel_rfl) (by simp [AV.cl]) (by simp) rep_store | exact a_store) | refine tri_true rfl ?_ | refine tri_false rfl ?_ | refine tri_block ?_ | refine tri_skip ?_ | refine tri_ret ?_ | refine tri_exit ?_)
    refine tri_loop (fun (k : Nat) => k ≤ l.length) (fun k => st [(0, .rptr false [.int .u32 0, .int .i32 1, .int .u32 0, .nili, .ro false 1 (pairRows l)]), (2, .nili), (3, .ro false 1 (pairRows l)), (11, .ptr 100 0), (12, .int .i64 (2 * (k : Int) - 2))] [(100, .box (tab (l.drop k) ++ [.sl 101])), (101, .rows 9 1 (repRows (repl (l.drop k))))]) (fun k => k) l.length (Nat.le_refl _) ?hw2 (fun k hk => ?_)
    case hw2 => exact weak_st ⟨rfl, rfl, rfl, rfl, congrArg (AV.int .i64) (by omega), trivial⟩ ⟨by rw [List.drop_length]; rfl, by rw [List.drop_length]; rfl, trivial⟩
    cases k with
    | zero =>
      repeat' (first | refine a_f ?_ | refine st_nil ?_ | refine tri_seq ?_ | refine tri_region rfl ?_ | refine a_draw ?_ | (apply st_r rfl; case hq => first | exact a_q) | (apply st_rif rfl; (case hq => first | exact a_i); all_goals (intro _; try (exfalso; first | omega | contradiction))) | (apply st_rw rfl rfl; case hq => first | exact a_store) | refine tri_true rfl ?_ | refine tri_false rfl ?_ | refine tri_block ?_ | refine tri_skip ?_ | refine tri_ret ?_ | refine tri_exit ?_)
      exact ⟨trivial, fz_box rfl rfl⟩
    | succ j =>
      have hj : j < l.length := by omega
      obtain ⟨g0, g1⟩ := pairRows_get l j hj
      have hp := hnew l[j] (List.getElem_mem hj)
      have hd : l.drop j = l[j] :: l.drop (j + 1) := List.drop_eq_getElem_cons hj
      generalize l[j] = p at g0 g1 hp hd
      have hdl : (l.drop (j + 1)).length ≤ 1000 := by rw [List.length_drop]; omega
      have hq : ∀ p' ∈ l.drop (j + 1), 2 ≤ p'.2.length := fun p' h => (hnew p' (List.mem_of_mem_drop h)).1
      generalize l.drop (j + 1) = q at hd hdl hq ⊢
      have r0 : (pairRows l)[(2 * ((j + 1 : Nat) : Int) - 2).toNat]? = some [.str [p.1]] := by rw [show (2 * ((j + 1 : Nat) : Int) - 2).toNat = 2 * j by omega]; exact g0
      have r1 : (pairRows l)[(2 * ((j + 1 : Nat) : Int) - 2 + 1).toNat]? = some [.str p.2] := by rw [show (2 * ((j + 1 : Nat) : Int) - 2 + 1).toNat = 2 * j + 1 by omega]; exact g1
      have hrl : (repRows (repl q)).length ≤ 1000 := by
        rw [repRows, List.length_map]
        exact Nat.le_trans (repl_length q) hdl
      have t0 := tab_get q (.sl 101) p.1
      have hc : p.1.toNat < 256 := p.1.toNat_lt
      cases hlk : look q p.1 with
      | none =>
        have hrep : repl (p :: q) = repl q ++ [p.1] := by simp only [repl, hlk]
        rw [show cellAV q p.1 = .nils by simp only [cellAV, hlk]] at t0
        repeat' (first | refine a_f ?_ | refine st_nil ?_ | refine tri_seq ?_ | refine tri_region rfl ?_ | refine a_draw ?_ | (apply st_r rfl; case hq => first | exact q_idxro (by conv => lhs; whnf) (by conv => lhs; whnf) (by first | exact Tryz.underlying22 | exact Tryz.underlying23 | exact Tryz.underlying43 | exact Tryz.underlying44 | exact Tryz.underlying51 | exact Tryz.underlying86 | exact Tryz.underlying191 | exact Tryz.underlying209 | exact Tryz.underlying234 | exact Tryz.underlying270 | exact Tryz.underlying281 | exact Tryz.underlying344) (by kernel_rfl) (by omega) r0 | exact q_idxro (by conv => lhs; whnf) (by conv => lhs; whnf) (by first | exact Tryz.underlying22 | exact Tryz.underlying23 | exact Tryz.underlying43 | exact Tryz.underlying44 | exact Tryz.underlying51 | exact Tryz.underlying86 | exact Tryz.underlying191 | exact Tryz.underlying209 | exact Tryz.underlying234 | exact Tryz.underlying270 | exact Tryz.underlying281 | exact Tryz.underlying344) (by kernel_rfl) (by omega) r1 | exact q_loadr (by conv => lhs; whnf) (by conv => lhs; whnf) (by show scalB Tryz.prog _ = true; decide +kernel) (fun _ => rfl) | exact q_index (c := p.1) (by conv => lhs; whnf) (by conv => lhs; whnf) (by kernel_rfl) (by decide) rfl | exact q_idxarr (sz := 1) (by conv => lhs; whnf) (by conv => lhs; whnf) Tryz.underlying250 (by kernel_rfl) (by omega) (by omega) | exact q_load (by conv => lhs; whnf) (by conv => lhs; whnf; arg 1; whnf) t0 (by show scalB Tryz.prog _ = true; decide +kernel) | exact q_load (by conv => lhs; whnf) (by conv => lhs; whnf; arg 1; whnf) (tab_last _ _) (by show scalB Tryz.prog _ = true; decide +kernel) | exact q_field (off := 256) (by conv => lhs; whnf) (by show fieldB Tryz.prog _ _ _ = true; decide +kernel) | exact q_bstr [p.1] (by conv => lhs; whnf) (by rfl) (by first | exact Tryz.underlying22 | exact Tryz.underlying23 | exact Tryz.underlying43 | exact Tryz.underlying44 | exact Tryz.underlying51 | exact Tryz.underlying86 | exact Tryz.underlying191 | exact Tryz.underlying209 | exact Tryz.underlying234 | exact Tryz.underlying270 | exact Tryz.underlying281 | exact Tryz.underlying344) Tryz.underlying5 (by kernel_rfl) | exact q_eqsn (by conv => lhs; whnf) (by first | exact Tryz.underlying22 | exact Tryz.underlying23 | exact Tryz.underlying43 | exact Tryz.underlying44 | exact Tryz.underlying51 | exact Tryz.underlying86 | exact Tryz.underlying191 | exact Tryz.underlying209 | exact Tryz.underlying234 | exact Tryz.underlying270 | exact Tryz.underlying281 | exact Tryz.underlying344) | exact q_strb (by conv => lhs; whnf) Tryz.underlying9 Tryz.underlying86 Tryz.underlying5 | exact a_q) | (apply st_rif rfl; (case hq => first | exact a_i); all_goals (intro _; try (exfalso; first | omega | contradiction))) | (apply st_rw rfl rfl; case hq => first | exact w_append (id := 101) (by conv => lhs; whnf) (by conv => lhs; whnf; arg 1; whnf) (by conv => lhs; whnf) (by first | exact Tryz.underlying22 | exact Tryz.underlying23 | exact Tryz.underlying43 | exact Tryz.underlying44 | exact Tryz.underlying51 | exact Tryz.underlying86 | exact Tryz.underlying191 | exact Tryz.underlying209 | exact Tryz.underlying234 | exact Tryz.underlying270 | exact Tryz.underlying281 | exact Tryz.underlying344) (by kernel_rfl) (by simp) rfl (by simp only [List.length_singleton]; omega) rfl rfl | exact w_store (by conv => lhs; whnf) (by conv => lhs; whnf; arg 1; whnf) (by conv => lhs; whnf) rfl (by kernel_rfl) rfl (tab_kfit q) (tab_kill q) | exact w_store (by conv => lhs; whnf) (by conv => lhs; whnf; arg 1; whnf) (by conv => lhs; whnf) rfl (by kernel_rfl) rfl (tab_fit q _ p.1) (tab_store p q _) | exact a_store) | refine tri_true rfl ?_ | refine tri_false rfl ?_ | refine tri_block ?_ | refine tri_skip ?_ | refine tri_ret ?_ | refine tri_exit ?_)
        exact loop_next j (by omega) (weak_st ⟨rfl, rfl, rfl, rfl, congrArg (AV.int .i64) (by omega), trivial⟩ ⟨by rw [hd]; rfl, by rw [hd, hrep, show repRows (repl q ++ [p.1]) = repRows (repl q) ++ [[.str [p.1]]] from by simp [repRows]]; rfl, trivial⟩) (Nat.lt_succ_self j)
      | some n =>
        have hrep : repl (p :: q) = repl q := by simp only [repl, hlk]
        obtain ⟨p', hp', he'⟩ := look_mem hlk
        have hn0 : 0 < n.length := by have := hq p' hp'; rw [he'] at this; omega
        rw [show cellAV q p.1 = .ro true 1 (byteRows n) by simp only [cellAV, hlk]] at t0
        repeat' (first | refine a_f ?_ | refine st_nil ?_ | refine tri_seq ?_ | refine tri_region rfl ?_ | refine a_draw ?_ | (apply st_r rfl; case hq => first | exact q_idxro (by conv => lhs; whnf) (by conv => lhs; whnf) (by first | exact Tryz.underlying22 | exact Tryz.underlying23 | exact Tryz.underlying43 | exact Tryz.underlying44 | exact Tryz.underlying51 | exact Tryz.underlying86 | exact Tryz.underlying191 | exact Tryz.underlying209 | exact Tryz.underlying234 | exact Tryz.underlying270 | exact Tryz.underlying281 | exact Tryz.underlying344) (by kernel_rfl) (by omega) r0 | exact q_idxro (by conv => lhs; whnf) (by conv => lhs; whnf) (by first | exact Tryz.underlying22 | exact Tryz.underlying23 | exact Tryz.underlying43 | exact Tryz.underlying44 | exact Tryz.underlying51 | exact Tryz.underlying86 | exact Tryz.underlying191 | exact Tryz.underlying209 | exact Tryz.underlying234 | exact Tryz.underlying270 | exact Tryz.underlying281 | exact Tryz.underlying344) (by kernel_rfl) (by omega) r1 | exact q_loadr (by conv => lhs; whnf) (by conv => lhs; whnf) (by show scalB Tryz.prog _ = true; decide +kernel) (fun _ => rfl) | exact q_index (c := p.1) (by conv => lhs; whnf) (by conv => lhs; whnf) (by kernel_rfl) (by decide) rfl | exact q_idxarr (sz := 1) (by conv => lhs; whnf) (by conv => lhs; whnf) Tryz.underlying250 (by kernel_rfl) (by omega) (by omega) | exact q_load (by conv => lhs; whnf) (by conv => lhs; whnf; arg 1; whnf) t0 (by show scalB Tryz.prog _ = true; decide +kernel) | exact q_eqsr (by conv => lhs; whnf) (by first | exact Tryz.underlying22 | exact Tryz.underlying23 | exact Tryz.underlying43 | exact Tryz.underlying44 | exact Tryz.underlying51 | exact Tryz.underlying86 | exact Tryz.underlying191 | exact Tryz.underlying209 | exact Tryz.underlying234 | exact Tryz.underlying270 | exact Tryz.underlying281 | exact Tryz.underlying344) (by rw [byteRows, List.length_map]; exact hn0) | exact q_strb (by conv => lhs; whnf) Tryz.underlying9 Tryz.underlying86 Tryz.underlying5 | exact a_q) | (apply st_rif rfl; (case hq => first | exact a_i); all_goals (intro _; try (exfalso; first | omega | contradiction))) | (apply st_rw rfl rfl; case hq => first | exact w_store (by conv => lhs; whnf) (by conv => lhs; whnf; arg 1; whnf) (by conv => lhs; whnf) rfl (by kernel_rfl) rfl (tab_fit q _ p.1) (tab_store p q _) | exact a_store) | refine tri_true rfl ?_ | refine tri_false rfl ?_ | refine tri_block ?_ | refine tri_skip ?_ | refine tri_ret ?_ | refine tri_exit ?_)
        exact loop_next j (by omega) (weak_st ⟨rfl, rfl, rfl, rfl, congrArg (AV.int .i64) (by omega), trivial⟩ ⟨by rw [hd]; rfl, by rw [hd, hrep]; rfl, trivial⟩) (Nat.lt_succ_self j)
end Go.Proofs.YtignjjnflcpiiaaGreatDoor
