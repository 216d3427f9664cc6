import Derived.Test.YtignjjnflcpiiaaGreatDoorKG10
import Derived.Test.YtignjjnflcpiiaaGreatDoorKG39
import Derived.Test.YtignjjnflcpiiaaGreatDoorKG14
set_option linter.unusedVariables false
set_option linter.unusedSimpArgs false
set_option maxHeartbeats 1000000
namespace Go.Proofs.YtignjjnflcpiiaaGreatDoor
open Go.RowKit
attribute [local irreducible] Tri Steps Qd Wr Weak CPure CEff
set_option maxRecDepth 100000
end Go.Proofs.YtignjjnflcpiiaaGreatDoor
namespace Go.Proofs.YtignjjnflcpiiaaGreatDoor
open Go.RowKit
attribute [local irreducible] Tri Steps Qd Wr Weak CPure CEff
set_option maxRecDepth 100000
def wrAV : WRes → AV
  | .ok s => .tup [.str s, .nili]
  | .bad n => .tup [.str [], .iface 98 (.rptr true [.int .i64 1, .int .i64 n])]
theorem writeGo_step (n : Nat) (out : B) (f : B × B) (r : Fs) : writeGo n out (f :: r) = match okF f with
    | true => writeGo (n + 1) (out ++ writeF f) r
    | false => .bad n := rfl
def wrF (f : Nat) (o : Oper) : Bool := wrB o || match o.op with
  | .call c => match c.callee with
    | .value (.func g) => Nat.beq g f
    | _ => false
  | _ => false
theorem firstW_cut (v : B) : (Lib.cut v [32]).1 = firstW v := by
  unfold firstW
  have e := List.takeWhile_append_dropWhile (p := nb) (l := v)
  have hn : ∀ c ∈ v.takeWhile nb, c ≠ 32 := fun c hc => by
    have := List.all_eq_true.1 (List.all_takeWhile (p := nb) (l := v)) c hc
    simpa [nb] using this
  cases hd : v.dropWhile nb with
  | nil =>
    rw [hd, List.append_nil] at e
    rw [e] at hn ⊢
    rw [cut_no (sub := [32]) rfl hn]
  | cons c t =>
    have h := List.head?_dropWhile_not nb v
    rw [hd] at h
    have hc : c = 32 := by simpa [nb] using h
    subst hc
    rw [hd] at e
    conv => lhs; rw [← e]
    rw [show v.takeWhile nb ++ 32 :: t = v.takeWhile nb ++ ([32] ++ t) from rfl, cut_here (sub := [32]) rfl hn]
set_option maxHeartbeats 4000000 in
theorem write_c (l : Fs) (hl : Small l) : CPure gx 82 [.ro false 2 (fieldRows l)] (wrAV (writeH l)) := by
  refine cpure_of Tryz.func82 rfl (Nat.le_of_ble_eq_true rfl) rfl (fun w hw => ?_)
  have hfl := fr_len l
  have hll := hl.len
  repeat' (first | refine a_f ?_ | refine st_nil ?_ | refine tri_seq ?_ | refine tri_region rfl ?_ | refine a_draw ?_ | (apply st_r rfl; case hq => first | exact a_q) | (apply st_rif rfl; (case hq => first | exact a_i); all_goals (intro _; try (exfalso; first | omega | contradiction))) | (apply st_rw rfl rfl; case hq => first | exact w_allocb 100 ByT zBuilder rfl rfl | exact a_store) | refine tri_true rfl ?_ | refine tri_false rfl ?_ | refine tri_block ?_ | refine tri_skip ?_ | refine tri_ret ?_ | refine tri_exit ?_)
  refine tri_loop (fun (x : Nat × B) => x.1 ≤ l.length ∧ writeGo x.1 x.2 (l.drop x.1) = writeH l ∧ x.2.length ≤ x.1 * 5000000) (fun x => st [(0, .ro false 2 (fieldRows l)), (2, .str []), (3, .nili), (4, .ptr 100 0), (10, .ro false 2 (fieldRows l)), (11, .int .i64 (fieldRows l).length), (12, .int .i64 x.1)] [(100, .bld ByT BT x.2)]) (fun x => l.length - x.1) (0, []) ⟨Nat.zero_le _, rfl, Nat.zero_le _⟩ ?hw (fun x hx => ?_)
  case hw => exact weak_st ⟨rfl, rfl, rfl, rfl, rfl, rfl, rfl, trivial⟩ ⟨rfl, trivial⟩
  obtain ⟨i, out⟩ := x
  change Tri _ _ (st [(0, .ro false 2 (fieldRows l)), (2, .str []), (3, .nili), (4, .ptr 100 0), (10, .ro false 2 (fieldRows l)), (11, .int .i64 (fieldRows l).length), (12, .int .i64 i)] [(100, .bld ByT BT out)]) _
  obtain ⟨hi, hf, ho⟩ := hx
  simp only at hi hf ho
  obtain ⟨K, hKe, hoK, hKb⟩ : ∃ K, (∀ m, m ≤ K + 5000000 → m ≤ (i + 1) * 5000000) ∧ out.length ≤ K ∧ K ≤ 5000000000000 := ⟨i * 5000000, fun m h => by rw [Nat.add_mul]; omega, ho, by omega⟩
  replace ho := hoK
  clear hoK
  by_cases hil : i < l.length
  · obtain ⟨f, hf1, hfm, hfd, hfr⟩ := fr_at hil
    rw [hfd, writeGo_step] at hf
    obtain ⟨hfa, hfb⟩ := hl.one f hfm
    have S1 : CPure gx 74 [.ro false 2 [[.str f.1, .str f.2]]] (.bool (rightB [f])) := right_c [f] ⟨by simp, fun g hg => by rw [List.mem_singleton.1 hg]; exact hl.one f hfm⟩
    rw [show rightB [f] = okF f by simp [rightB]] at S1
    have C1 := cut_c f.2 [32] (by omega)
    have hcw := firstW_cut f.2
    have hwl := firstW_len f.2
    have hwf := writeF_len f
    have hwd : writeF f = lineGo (f.1 ++ [58, 32] ++ firstW f.2) (f.2.drop (firstW f.2).length) := rfl
    rcases hc : Lib.cut f.2 [32] with ⟨a, b, fd⟩
    rw [hc] at C1 hcw
    simp only at C1 hcw
    rw [← hcw] at hwl hwd
    have L1 := line_e out (f.1 ++ [58, 32] ++ a) (f.2.drop a.length) (by
      simp only [List.length_append, List.length_cons, List.length_nil, List.length_drop]
      omega)
    rw [← hwd] at L1
    cases hok : okF f <;> rw [hok] at S1 hf
    all_goals
      repeat' (first | refine a_f ?_ | refine st_nil ?_ | refine tri_seq ?_ | refine tri_region rfl ?_ | refine tri_draw (wrF 141) (by kernel_rfl) rfl ?_ | refine a_draw ?_ | (apply st_r rfl; case hq => first | exact q_idxro (by conv => lhs; whnf) (by conv => lhs; whnf) (by first | exact Tryz.underlying22 | exact Tryz.underlying23 | exact Tryz.underlying43 | exact Tryz.underlying44 | exact Tryz.underlying51 | exact Tryz.underlying86 | exact Tryz.underlying191 | exact Tryz.underlying209 | exact Tryz.underlying234 | exact Tryz.underlying270 | exact Tryz.underlying281 | exact Tryz.underlying344) (by kernel_rfl) (by omega) hfr | exact q_loadar (n := 2) (by conv => lhs; whnf) (by conv => lhs; whnf) (by first | rfl | exact Nat.le_of_ble_eq_true rfl | exact Nat.succ_pos _ | decide) (by kernel_rfl) (fun _ => rfl) | exact q_call S1 (hcf := Tryz.call74) rfl rfl | exact q_call C1 (hcf := Tryz.call51) rfl rfl | exact q_adds (v := [58, 32]) (by conv => lhs; whnf) rfl (by first | omega | (simp only [List.length_append, List.length_cons, List.length_nil, List.length_take, List.length_drop]; omega)) | exact q_adds (by conv => lhs; whnf) (by conv => lhs; whnf) (by first | omega | (simp only [List.length_append, List.length_cons, List.length_nil, List.length_take, List.length_drop]; omega)) | exact a_q) | (apply st_rif rfl; (case hq => first | exact a_i); all_goals (intro _; try (exfalso; first | omega | contradiction))) | (apply st_rw rfl rfl; case hq => first | exact w_alloc 102 (by first | exact zAt | exact zFault | exact zField | exact zParam | exact zLink | exact zPart | exact zReader) rfl rfl rfl | exact w_call (id := 100) L1 (hcf := Tryz.call141) (by conv => lhs; whnf; arg 1; whnf) rfl rfl rfl rfl rfl | exact a_store) | refine tri_true rfl ?_ | refine tri_false rfl ?_ | refine tri_block ?_ | refine tri_skip ?_ | refine tri_ret ?_ | refine tri_exit ?_)
    · refine And.intro trivial ?_
      conv => lhs; whnf
      rw [← hf]
      rfl
    · exact nextR (i + 1, out ++ writeF f) ⟨by show i + 1 ≤ _; omega, hf, by show (out ++ writeF f).length ≤ (i + 1) * 5000000; exact hKe _ (by rw [List.length_append]; omega)⟩ (weak_st ⟨rfl, rfl, rfl, rfl, rfl, rfl, rfl, trivial⟩ ⟨rfl, trivial⟩) (show l.length - (i + 1) < l.length - i by omega)
  · have S1 := string_e out
    repeat' (first | refine a_f ?_ | refine st_nil ?_ | refine tri_seq ?_ | refine tri_region rfl ?_ | refine a_draw ?_ | (apply st_r rfl; case hq => first | exact q_adds (v := [13, 10]) (by conv => lhs; whnf) rfl (by first | omega | (simp only [List.length_append, List.length_cons, List.length_nil, List.length_take, List.length_drop]; omega)) | exact a_q) | (apply st_rif rfl; (case hq => first | exact a_i); all_goals (intro _; try (exfalso; first | omega | contradiction))) | (apply st_rw rfl rfl; case hq => first | exact w_call (id := 100) S1 (hcf := Tryz.call45) (by conv => lhs; whnf; arg 1; whnf) rfl rfl rfl rfl rfl | exact a_store) | refine tri_true rfl ?_ | refine tri_false rfl ?_ | refine tri_block ?_ | refine tri_skip ?_ | refine tri_ret ?_ | refine tri_exit ?_)
    refine And.intro trivial ?_
    conv => lhs; whnf
    rw [show l.drop i = [] from List.drop_eq_nil_of_le (by omega)] at hf
    rw [← hf]
    rfl
def pbk (v : B) (k : Nat) : Bool := decide (k ≠ 0) && bl (v.getD (k - 1) 0)
structure WX where
  k : Nat
  s : B
  line : B
  word : B
  first : Bool
structure WInv (R v : B) (K : Nat) (x : WX) : Prop where
  le : x.k ≤ v.length + 1
  go : x.k ≤ v.length → refGo x.s x.line x.word x.first (pbk v x.k) (v.drop x.k) = R
  fin : x.k = v.length + 1 → x.s ++ (x.line ++ [13, 10]) = R
  len : x.s.length + x.line.length + x.word.length ≤ K + 3 * x.k
end Go.Proofs.YtignjjnflcpiiaaGreatDoor
namespace Go.Proofs.YtignjjnflcpiiaaGreatDoor
def lineAt (s : B) (a : Nat) : B := (Lib.cut (s.drop a) [13, 10]).1
def linesAt (s : B) (a : Nat) : List B := if a ≤ s.length then splitC (s.drop a) else []
theorem line_step {s : B} {a : Nat} (h : a ≤ s.length) : linesAt s a = lineAt s a :: linesAt s (a + (lineAt s a).length + 2) ∧ (a + (lineAt s a).length + 2 ≤ s.length → s.drop a = lineAt s a ++ 13 :: 10 :: s.drop (a + (lineAt s a).length + 2)) ∧ a + (lineAt s a).length ≤ s.length ∧ (s.drop a).take (lineAt s a).length = lineAt s a := by
  have hs := splitC_index (s.drop a)
  have hl : (s.drop a).length = s.length - a := List.length_drop
  unfold linesAt lineAt Lib.cut
  rcases Lib.index_spec (s.drop a) [13, 10] with ⟨h1, _⟩ | ⟨i, h1, h2, h3, _⟩
  · rw [if_pos h]
    rw [h1]
    rw [if_neg (by decide)]
    simp only
    rw [hs.1 h1, if_neg (by omega)]
    exact ⟨rfl, fun h3 => absurd h3 (by omega), by omega, List.take_of_length_le (Nat.le_refl _)⟩
  · rw [if_pos h]
    rw [h1]
    rw [if_pos (by omega)]
    simp only [Int.toNat_natCast]
    have h2' : ([13, 10] : B).isPrefixOf ((s.drop a).drop i) = true := h3
    obtain ⟨r, hr⟩ := (isPrefix_two 13 10 _).1 h2'
    have hrl := congrArg List.length hr
    rw [List.length_drop, hl] at hrl
    simp only [List.length_cons] at hrl
    have hti : ((s.drop a).take i).length = i := by rw [List.length_take, hl]; omega
    rw [hs.2 i h1, hti, if_pos (by omega), List.drop_drop, show a + (i + 2) = a + i + 2 by omega]
    refine ⟨rfl, fun _ => ?_, by omega, rfl⟩
    have h4 : (s.drop a).drop i = 13 :: 10 :: s.drop (a + i + 2) := by
      rw [hr]
      have := congrArg (List.drop 2) hr
      rw [List.drop_drop, List.drop_drop, show a + (i + 2) = a + i + 2 by omega] at this
      rw [this]; rfl
    rw [← h4, List.take_append_drop]
theorem lines_past {s : B} {a : Nat} (h : s.length < a) : linesAt s a = [] := by rw [linesAt, if_neg (by omega)]
theorem joinC_snoc : ∀ {l : List B} (x : B), l ≠ [] → joinC (l ++ [x]) = joinC l ++ 13 :: 10 :: x
  | [y], x, _ => rfl
  | y :: z :: r, x, _ => by
    rw [List.cons_append, joinC_cons _ (by simp), joinC_cons _ (by simp), joinC_snoc x (by simp), List.append_assoc]; rfl
def addP (op : Option Nat) (acc out : List B) : List B := match op with
  | some _ => out ++ [joinC acc]
  | none => out
structure CutI (b s : B) (a : Nat) (op : Option Nat) (acc out : List B) : Prop where
  go : cutGo b op.isSome acc out (linesAt s a) = cutF b s
  pos : ∀ o, op = some o → o ≤ s.length ∧ (a ≤ s.length → (acc = [] → a = o) ∧ (acc ≠ [] → a = o + (joinC acc).length + 2 ∧ s.drop o = joinC acc ++ 13 :: 10 :: s.drop a))
  cnt : out.length ≤ a
theorem CutI.start (b s : B) : CutI b s 0 none [] [] := ⟨by rw [linesAt, if_pos (Nat.zero_le _)]; rfl, fun o h => (by cases h), Nat.le_refl _⟩
section
variable {b s : B} {a : Nat} {op : Option Nat} {acc out : List B}
theorem CutI.past (h : CutI b s a op acc out) (ha : s.length < a) : cutF b s = none := by
  rw [← h.go, lines_past ha]; rfl
theorem CutI.piece {o : Nat} (h : CutI b s a (some o) acc out) (ha : a ≤ s.length) : o ≤ s.length ∧ o ≤ a ∧ max (a - 2) o ≤ s.length ∧ (s.take (max (a - 2) o)).drop o = joinC acc := by
  obtain ⟨h1, h2⟩ := h.pos o rfl
  obtain ⟨h3, h4⟩ := h2 ha
  by_cases hacc : acc = []
  · have := h3 hacc
    subst this
    subst hacc
    refine ⟨h1, Nat.le_refl _, by omega, ?_⟩
    rw [Nat.max_eq_right (by omega), List.drop_eq_nil_of_le (by rw [List.length_take]; omega)]; rfl
  · obtain ⟨h5, h6⟩ := h4 hacc
    refine ⟨h1, by omega, by omega, ?_⟩
    rw [Nat.max_eq_left (by omega), List.drop_take, h6, show a - 2 - o = (joinC acc).length by omega, List.take_left' rfl]
theorem CutI.non (h : CutI b s a op acc out) (ha : a ≤ s.length) (hm : markF b (lineAt s a) = none) : CutI b s (a + (lineAt s a).length + 2) op (acc ++ [lineAt s a]) out := by
  obtain ⟨h1, h2, h3, h4⟩ := line_step ha
  refine ⟨?_, fun o ho => ?_, by have := h.cnt; omega⟩
  · rw [← h.go, h1, cutGo, hm]
  · obtain ⟨h5, h6⟩ := h.pos o ho
    obtain ⟨h7, h8⟩ := h6 ha
    refine ⟨h5, fun ha' => ⟨fun e => absurd e (by simp), fun _ => ?_⟩⟩
    have h9 := h2 ha'
    by_cases hacc : acc = []
    · have := h7 hacc
      subst this
      subst hacc
      exact ⟨by simp [joinC], by simpa [joinC] using h9⟩
    · obtain ⟨h10, h11⟩ := h8 hacc
      rw [joinC_snoc _ hacc, List.length_append]
      refine ⟨by simp only [List.length_cons]; omega, ?_⟩
      rw [h11, h9]
      simp
theorem CutI.fin (h : CutI b s a op acc out) (ha : a ≤ s.length) (hm : markF b (lineAt s a) = some true) : cutF b s = some (addP op acc out) := by
  rw [← h.go, (line_step ha).1, cutGo, hm]
  cases op <;> rfl
theorem CutI.open (h : CutI b s a op acc out) (ha : a ≤ s.length) (hm : markF b (lineAt s a) = some false) : CutI b s (a + (lineAt s a).length + 2) (some (min (a + (lineAt s a).length + 2) s.length)) [] (addP op acc out) := by
  obtain ⟨h1, h2, h3, h4⟩ := line_step ha
  refine ⟨?_, fun o ho => ?_, ?_⟩
  · rw [← h.go, h1, cutGo, hm]
    cases op <;> rfl
  · cases ho
    exact ⟨Nat.min_le_right _ _, fun ha' => ⟨fun _ => by omega, fun e => absurd rfl e⟩⟩
  · have := h.cnt
    cases op with
    | none => simp only [addP]; omega
    | some o => simp only [addP, List.length_append, List.length_cons, List.length_nil]; omega
end
theorem mark_ask (b l : B) : markF b l = match (45 :: 45 :: b).isPrefixOf l with
    | false => none
    | true => if trimB (l.drop (b.length + 2)) = [45, 45] then some true else if trimB (l.drop (b.length + 2)) = [] then some false else none := by
  unfold markF
  cases (45 :: 45 :: b).isPrefixOf l with
  | false => rfl
  | true =>
    simp only
    generalize trimB (l.drop (b.length + 2)) = t
    split
    · simp
    · simp
    · rename_i h1 h2
      rw [if_neg (fun e => h2 e), if_neg (fun e => h1 e)]
end Go.Proofs.YtignjjnflcpiiaaGreatDoor
