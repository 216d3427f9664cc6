import Derived.Test.YtignjjnflcpiiabGreatDoorZPlain1
set_option linter.unusedVariables false
set_option linter.unusedSimpArgs false
set_option maxHeartbeats 1000000
namespace Go.Proofs.YtignjjnflcpiiabGreatDoor
def bits6 (n : Nat) : List Nat := [n / 32 % 2, n / 16 % 2, n / 8 % 2, n / 4 % 2, n / 2 % 2, n % 2]
def val8 (l : List Nat) : Nat := ((((((l.getD 0 0 * 2 + l.getD 1 0) * 2 + l.getD 2 0) * 2 + l.getD 3 0) * 2 + l.getD 4 0) * 2 + l.getD 5 0) * 2 + l.getD 6 0) * 2 + l.getD 7 0
def eights (l : List Nat) : B × List Nat := if h : 8 ≤ l.length then (UInt8.ofNat (val8 l) :: (eights (l.drop 8)).1, (eights (l.drop 8)).2) else ([], l)
termination_by l.length
decreasing_by all_goals (simp; omega)
theorem eights_lt {l : List Nat} (h : ¬ 8 ≤ l.length) : eights l = ([], l) := by rw [eights, dif_neg h]
theorem eights_ge {l : List Nat} (h : 8 ≤ l.length) : eights l = (UInt8.ofNat (val8 l) :: (eights (l.drop 8)).1, (eights (l.drop 8)).2) := by rw [eights, dif_pos h]
def idxs : B → Option (List Nat)
  | [] => some []
  | c :: r => if alpha.idxOf c = 64 then none else (idxs r).map (alpha.idxOf c :: ·)
def padsOf (l : B) : Nat := if l.getD (l.length - 1) 0 = 61 ∧ 0 < l.length then (if l.getD (l.length - 2) 0 = 61 ∧ 1 < l.length then 2 else 1) else 0
def refUn (l : B) : Option B :=
  if l.length % 4 ≠ 0 then none
  else match idxs (l.take (l.length - padsOf l)) with
    | none => none
    | some ks => if (eights (ks.flatMap bits6)).2.all (· == 0) then some (eights (ks.flatMap bits6)).1 else none
theorem urun_n : ∀ (l : B) (s u : US), (∀ c ∈ l, isWs c = false) → urun s l = some u → u.n = s.n + l.length
  | [], s, u, _, h => by cases h; rfl
  | c :: r, s, u, hw, h => by
    rw [urun] at h
    cases hs : ustep s c with
    | none => rw [hs] at h; cases h
    | some s' =>
      rw [hs] at h
      have h1 := urun_n r s' u (fun c hc => hw c (List.mem_cons_of_mem _ hc)) h
      have h2 : s'.n = s.n + 1 := by
        have hc := hw c List.mem_cons_self
        have fin : ∀ (t : US) (k : Nat), ustep.ufin t k = some s' → s'.n = t.n + 1 := by
          intro t k ht
          unfold ustep.ufin at ht
          simp only at ht
          split at ht
          · cases ht; rfl
          · split at ht
            · cases ht
            · cases ht; rfl
        unfold ustep at hs
        rw [hc] at hs
        simp only [Bool.false_eq_true, if_false] at hs
        split at hs
        · exact fin { s with pads := s.pads + 1 } _ hs
        · split at hs
          · cases hs
          · exact fin _ _ hs
      rw [h1, h2, List.length_cons]; omega
theorem urun_filter : ∀ (l : B) (s : US), urun s (l.filter (fun c => !isWs c)) = urun s l
  | [], s => rfl
  | c :: r, s => by
    rw [List.filter_cons]
    cases hc : isWs c with
    | true =>
      simp only [Bool.not_true, Bool.false_eq_true, if_false]
      rw [urun_filter r s, urun]
      have : ustep s c = some s := by unfold ustep; rw [hc]; rfl
      rw [this]; rfl
    | false =>
      simp only [Bool.not_false, if_true]
      rw [urun, urun]
      cases ustep s c with
      | none => rfl
      | some s' => exact urun_filter r s'
theorem ustep_bad (v n : Nat) (out : B) (c : UInt8) (hw : isWs c = false) (h : alpha.idxOf c = 64) (hn : n % 4 < 2 ∨ c ≠ 61) : ustep ⟨v, n, 0, out⟩ c = none := by
  unfold ustep
  rw [hw]
  simp only [Bool.false_eq_true, if_false]
  rw [if_neg, if_pos (.inl h)]
  simp only [Bool.and_eq_true, beq_iff_eq, decide_eq_true_eq]
  rintro ⟨h1, h2⟩
  rcases hn with hn | hn
  · omega
  · exact hn h1
theorem alpha_idx (c : UInt8) : alpha.idxOf c = 64 ∨ (alpha.idxOf c < 64 ∧ c ≠ 61 ∧ letter (alpha.idxOf c) = c) := by
  by_cases h : c ∈ alpha
  · right
    have h1 : alpha.idxOf c < alpha.length := List.idxOf_lt_length_of_mem h
    have h2 : letter (alpha.idxOf c) = c := by
      unfold letter
      rw [List.getD_eq_getElem?_getD, List.getElem?_eq_getElem h1]
      simp
    refine ⟨h1, fun e => ?_, h2⟩
    rw [e] at h
    exact absurd h (by decide)
  · left
    exact List.idxOf_eq_length h
theorem ustep_good (v n : Nat) (out : B) (c : UInt8) (h : alpha.idxOf c ≠ 64) : ustep ⟨v, n, 0, out⟩ c = ustep.ufin ⟨v, n, 0, out⟩ (alpha.idxOf c) := by
  rcases alpha_idx c with h1 | ⟨h1, _, h2⟩
  · exact absurd h1 h
  · have := ustep_letter v n out (alpha.idxOf c) h1
    rw [h2] at this
    exact this
theorem ustep_late (v n p : Nat) (out : B) (c : UInt8) (hp : 0 < p) (hw : isWs c = false) (h : c ≠ 61 ∨ n % 4 < 2) : ustep ⟨v, n, p, out⟩ c = none := by
  unfold ustep
  rw [hw]
  simp only [Bool.false_eq_true, if_false]
  rw [if_neg, if_pos (.inr hp)]
  simp only [Bool.and_eq_true, beq_iff_eq, decide_eq_true_eq]
  rintro ⟨h1, h2⟩
  rcases h with hn | hn
  · exact hn h1
  · omega
theorem idxs_app : ∀ (x y : B), idxs (x ++ y) = (idxs x).bind fun a => (idxs y).map (a ++ ·)
  | [], y => by simp [idxs]
  | c :: x, y => by
    rw [List.cons_append, idxs, idxs]
    split
    · rfl
    · rw [idxs_app x y]
      cases idxs x <;> cases idxs y <;> rfl
theorem idx_le (c : UInt8) : alpha.idxOf c ≤ 64 := by rcases alpha_idx c with h | h <;> omega
theorem bits24 (k1 k2 k3 k4 : Nat) (h1 : k1 < 64) (h2 : k2 < 64) (h3 : k3 < 64) (h4 : k4 < 64) (x : List Nat) :
    eights (bits6 k1 ++ (bits6 k2 ++ (bits6 k3 ++ (bits6 k4 ++ x)))) = ([UInt8.ofNat ((((k1 * 64 + k2) * 64 + k3) * 64 + k4) / 65536), UInt8.ofNat ((((k1 * 64 + k2) * 64 + k3) * 64 + k4) / 256), UInt8.ofNat ((((k1 * 64 + k2) * 64 + k3) * 64 + k4))] ++ (eights x).1, (eights x).2) := by
  have byte : ∀ a b : Nat, a = b % 256 → UInt8.ofNat a = UInt8.ofNat b := by
    intro a b h
    rw [← UInt8.toNat_inj, UInt8.toNat_ofNat', UInt8.toNat_ofNat']
    omega
  have e : ∀ (x1 x2 x3 y1 y2 y3 : UInt8) (t : B × List Nat), x1 = y1 → x2 = y2 → x3 = y3 → (x1 :: x2 :: x3 :: t.1, t.2) = ([y1, y2, y3] ++ t.1, t.2) := by
    rintro x1 x2 x3 y1 y2 y3 t rfl rfl rfl; rfl
  have n1 : ∀ k, k < 64 → ((((k / 32 % 2 * 2 + k / 16 % 2) * 2 + k / 8 % 2) * 2 + k / 4 % 2) * 2 + k / 2 % 2) * 2 + k % 2 = k := by intro k hk; omega
  rw [eights_ge (by simp [bits6]), eights_ge (by simp [bits6]), eights_ge (by simp [bits6])]
  simp only [bits6, List.cons_append, List.nil_append, List.drop_succ_cons, List.drop_zero, val8, List.getD_cons_zero, List.getD_cons_succ]
  refine e _ _ _ _ _ _ _ (byte _ _ ?_) (byte _ _ ?_) (byte _ _ ?_)
  · rw [n1 k1 h1]; omega
  · omega
  · omega
theorem getD_app (x y : B) (k : Nat) (h : x.length ≤ k) : (x ++ y).getD k 0 = y.getD (k - x.length) 0 := by
  rw [List.getD_eq_getElem?_getD, List.getD_eq_getElem?_getD, List.getElem?_append_right h]
theorem padsOf_app (x y : B) (hy : 2 ≤ y.length) : padsOf (x ++ y) = padsOf y := by
  unfold padsOf
  have e1 : (x ++ y).getD ((x ++ y).length - 1) 0 = y.getD (y.length - 1) 0 := by
    rw [List.length_append, getD_app _ _ _ (by omega)]
    congr 1; omega
  have e2 : (x ++ y).getD ((x ++ y).length - 2) 0 = y.getD (y.length - 2) 0 := by
    rw [List.length_append, getD_app _ _ _ (by omega)]
    congr 1; omega
  have p1 : 0 < (x ++ y).length := by rw [List.length_append]; omega
  have p2 : 1 < (x ++ y).length := by rw [List.length_append]; omega
  have q1 : 0 < y.length := by omega
  have q2 : 1 < y.length := by omega
  rw [e1, e2]
  simp only [p1, p2, q1, q2, and_true]
theorem padsOf_le (y : B) : padsOf y ≤ 2 := by unfold padsOf; split <;> (try split) <;> omega
theorem refUn_four (a b c d : UInt8) (r : B) (hr : 4 ≤ r.length) (hr4 : r.length % 4 = 0) : refUn (a :: b :: c :: d :: r) =
    if alpha.idxOf a = 64 ∨ alpha.idxOf b = 64 ∨ alpha.idxOf c = 64 ∨ alpha.idxOf d = 64 then none else (refUn r).map ([UInt8.ofNat ((((alpha.idxOf a * 64 + alpha.idxOf b) * 64 + alpha.idxOf c) * 64 + alpha.idxOf d) / 65536), UInt8.ofNat ((((alpha.idxOf a * 64 + alpha.idxOf b) * 64 + alpha.idxOf c) * 64 + alpha.idxOf d) / 256), UInt8.ofNat (((alpha.idxOf a * 64 + alpha.idxOf b) * 64 + alpha.idxOf c) * 64 + alpha.idxOf d)] ++ ·) := by
  have e0 : a :: b :: c :: d :: r = [a, b, c, d] ++ r := rfl
  have hp := padsOf_le r
  unfold refUn
  rw [if_neg (by simp only [List.length_cons]; omega), if_neg (show ¬ r.length % 4 ≠ 0 by omega), e0, padsOf_app _ _ (by omega)]
  have e1 : ([a, b, c, d] ++ r).take (([a, b, c, d] ++ r).length - padsOf r) = [a, b, c, d] ++ r.take (r.length - padsOf r) := by
    rw [List.length_append]
    have : ([a, b, c, d] : B).length + r.length - padsOf r = ([a, b, c, d] : B).length + (r.length - padsOf r) := by omega
    rw [this, List.take_length_add_append]
  rw [e1, idxs_app]
  have ha := idx_le a
  have hb := idx_le b
  have hc := idx_le c
  have hd := idx_le d
  by_cases h : alpha.idxOf a = 64 ∨ alpha.idxOf b = 64 ∨ alpha.idxOf c = 64 ∨ alpha.idxOf d = 64
  · rw [if_pos h]
    have : idxs [a, b, c, d] = none := by
      rcases h with h | h | h | h <;> simp [idxs, h]
    rw [this]; rfl
  · rw [if_neg h]
    have : idxs [a, b, c, d] = some [alpha.idxOf a, alpha.idxOf b, alpha.idxOf c, alpha.idxOf d] := by
      simp only [not_or] at h
      simp [idxs, h]
    rw [this]
    cases hk : idxs (r.take (r.length - padsOf r)) with
    | none => rfl
    | some ks =>
      simp only [Option.bind_some, Option.map_some]
      have e2 : ([alpha.idxOf a, alpha.idxOf b, alpha.idxOf c, alpha.idxOf d] ++ ks).flatMap bits6 = bits6 (alpha.idxOf a) ++ (bits6 (alpha.idxOf b) ++ (bits6 (alpha.idxOf c) ++ (bits6 (alpha.idxOf d) ++ ks.flatMap bits6))) := by simp
      rw [e2, bits24 _ _ _ _ (by omega) (by omega) (by omega) (by omega)]
      simp only
      split <;> rfl
theorem ufin3 (v n : Nat) (out : B) (k : Nat) (h : n % 4 = 3) : ustep.ufin ⟨v, n, 0, out⟩ k = some ⟨0, n + 1, 0, out ++ [UInt8.ofNat ((v * 64 + k) / 65536), UInt8.ofNat ((v * 64 + k) / 256), UInt8.ofNat (v * 64 + k)]⟩ := by
  unfold ustep.ufin
  simp only
  rw [if_neg (by omega), if_neg (by simp)]
  simp
theorem urun_four (a b c d : UInt8) (r : B) (n : Nat) (out : B) (hn : n % 4 = 0) (hw : ∀ x ∈ a :: b :: c :: d :: r, isWs x = false) (hr : r ≠ []) : urun ⟨0, n, 0, out⟩ (a :: b :: c :: d :: r) =
    if alpha.idxOf a = 64 ∨ alpha.idxOf b = 64 ∨ alpha.idxOf c = 64 ∨ alpha.idxOf d = 64 then none else urun ⟨0, n + 4, 0, out ++ [UInt8.ofNat ((((alpha.idxOf a * 64 + alpha.idxOf b) * 64 + alpha.idxOf c) * 64 + alpha.idxOf d) / 65536), UInt8.ofNat ((((alpha.idxOf a * 64 + alpha.idxOf b) * 64 + alpha.idxOf c) * 64 + alpha.idxOf d) / 256), UInt8.ofNat (((alpha.idxOf a * 64 + alpha.idxOf b) * 64 + alpha.idxOf c) * 64 + alpha.idxOf d)]⟩ r := by
  have wa := hw a (by simp)
  have wb := hw b (by simp)
  have wc := hw c (by simp)
  have wd := hw d (by simp)
  by_cases ha : alpha.idxOf a = 64
  · rw [if_pos (.inl ha), urun, ustep_bad _ _ _ _ wa ha (.inl (by omega))]; rfl
  rw [urun, ustep_good _ _ _ _ ha, ufin_mid _ _ _ _ _ (by omega)]
  simp only [Option.bind_some]
  by_cases hb : alpha.idxOf b = 64
  · rw [if_pos (.inr (.inl hb)), urun, ustep_bad _ _ _ _ wb hb (.inl (by omega))]; rfl
  rw [urun, ustep_good _ _ _ _ hb, ufin_mid _ _ _ _ _ (by omega)]
  simp only [Option.bind_some]
  by_cases hc : alpha.idxOf c = 64
  · rw [if_pos (.inr (.inr (.inl hc))), urun]
    by_cases hc1 : c = 61
    · subst hc1
      rw [ustep_pad _ _ _ _ (by omega), ufin_mid _ _ _ _ _ (by omega)]
      simp only [Option.bind_some]
      rw [urun]
      by_cases hd1 : d = 61
      · subst hd1
        rw [ustep_pad _ _ _ _ (by first | omega | (simp only; omega))]
        cases hf : ustep.ufin ⟨((0 * 64 + alpha.idxOf a) * 64 + alpha.idxOf b) * 64 + 0, n + 1 + 1 + 1, 0 + 1 + 1, out⟩ 0 with
        | none => rfl
        | some s' =>
          have hs : s'.pads = 2 ∧ s'.n % 4 = 0 := by
            unfold ustep.ufin at hf
            simp only at hf
            split at hf
            · omega
            · split at hf
              · cases hf
              · cases hf; exact ⟨rfl, by simp only; omega⟩
          cases r with
          | nil => exact absurd rfl hr
          | cons x r =>
            simp only [Option.bind_some]
            obtain ⟨v', n', p', o'⟩ := s'
            rw [urun, ustep_late _ _ _ _ _ (by have h1 := hs.1; have h2 := hs.2; first | omega | (simp only at h1 h2; omega)) (hw x (by simp)) (.inr (by have h1 := hs.1; have h2 := hs.2; first | omega | (simp only at h1 h2; omega)))]
            rfl
      · rw [ustep_late _ _ _ _ _ (by omega) wd (.inl hd1)]; rfl
    · rw [ustep_bad _ _ _ _ wc hc (.inr hc1)]; rfl
  rw [urun, ustep_good _ _ _ _ hc, ufin_mid _ _ _ _ _ (by omega)]
  simp only [Option.bind_some]
  by_cases hd : alpha.idxOf d = 64
  · rw [if_pos (.inr (.inr (.inr hd))), urun]
    by_cases hd1 : d = 61
    · subst hd1
      rw [ustep_pad _ _ _ _ (by omega)]
      cases hf : ustep.ufin ⟨((0 * 64 + alpha.idxOf a) * 64 + alpha.idxOf b) * 64 + alpha.idxOf c, n + 1 + 1 + 1, 0 + 1, out⟩ 0 with
      | none => rfl
      | some s' =>
        have hs : s'.pads = 1 ∧ s'.n % 4 = 0 := by
          unfold ustep.ufin at hf
          simp only at hf
          split at hf
          · omega
          · split at hf
            · cases hf
            · cases hf; exact ⟨rfl, by simp only; omega⟩
        cases r with
        | nil => exact absurd rfl hr
        | cons x r =>
          simp only [Option.bind_some]
          obtain ⟨v', n', p', o'⟩ := s'
          rw [urun, ustep_late _ _ _ _ _ (by have h1 := hs.1; have h2 := hs.2; first | omega | (simp only at h1 h2; omega)) (hw x (by simp)) (.inr (by have h1 := hs.1; have h2 := hs.2; first | omega | (simp only at h1 h2; omega)))]
          rfl
    · rw [ustep_bad _ _ _ _ wd hd (.inr hd1)]; rfl
  rw [urun, ustep_good _ _ _ _ hd, ufin3 _ _ _ _ (by omega), if_neg (by simp [ha, hb, hc, hd])]
  simp
def fin (u : Option US) : Option B := u.bind fun u => if 0 < u.n % 4 then none else some u.out
theorem fin_some (u : US) (h : u.n % 4 = 0) : fin (urun u []) = some u.out := by
  unfold fin
  rw [urun, Option.bind_some, if_neg (by omega)]
theorem eights0 (l : List Nat) (h : l.length < 8) : eights l = ([], l) := eights_lt (by omega)
theorem ufin_p2 (v n : Nat) (out : B) (h : n % 4 = 3) : ustep.ufin ⟨v, n, 2, out⟩ 0 = if v * 64 % 65536 ≠ 0 then none else some ⟨0, n + 1, 2, out ++ [UInt8.ofNat (v * 64 / 65536)]⟩ := by
  unfold ustep.ufin
  simp only [Nat.add_zero]
  rw [if_neg (by omega)]
  simp
theorem ufin_p1 (v n : Nat) (out : B) (h : n % 4 = 3) : ustep.ufin ⟨v, n, 1, out⟩ 0 = if v * 64 % 256 ≠ 0 then none else some ⟨0, n + 1, 1, out ++ [UInt8.ofNat (v * 64 / 65536), UInt8.ofNat (v * 64 / 256)]⟩ := by
  unfold ustep.ufin
  simp only [Nat.add_zero]
  rw [if_neg (by omega)]
  simp
theorem byte_eq (a b : Nat) (h : a % 256 = b % 256) : UInt8.ofNat a = UInt8.ofNat b := by
  rw [← UInt8.toNat_inj, UInt8.toNat_ofNat', UInt8.toNat_ofNat']
  omega
theorem bits12 (k1 k2 : Nat) (h1 : k1 < 64) (h2 : k2 < 64) : eights (bits6 k1 ++ bits6 k2) = ([UInt8.ofNat ((k1 * 64 + k2) / 16)], [k2 / 8 % 2, k2 / 4 % 2, k2 / 2 % 2, k2 % 2]) := by
  rw [eights_ge (by simp [bits6]), eights0 _ (by simp [bits6])]
  simp only [bits6, List.cons_append, List.nil_append, List.drop_succ_cons, List.drop_zero, val8, List.getD_cons_zero, List.getD_cons_succ]
  rw [byte_eq _ ((k1 * 64 + k2) / 16) (by omega)]
theorem two_eq (x1 x2 y1 y2 : UInt8) (t : List Nat) (h1 : x1 = y1) (h2 : x2 = y2) : (([x1, x2], t) : B × List Nat) = ([y1, y2], t) := by rw [h1, h2]
theorem bits18 (k1 k2 k3 : Nat) (h1 : k1 < 64) (h2 : k2 < 64) (h3 : k3 < 64) : eights (bits6 k1 ++ (bits6 k2 ++ bits6 k3)) = ([UInt8.ofNat (((k1 * 64 + k2) * 64 + k3) / 1024), UInt8.ofNat (((k1 * 64 + k2) * 64 + k3) / 4)], [k3 / 2 % 2, k3 % 2]) := by
  rw [eights_ge (by simp [bits6]), eights_ge (by simp [bits6]), eights0 _ (by simp [bits6])]
  simp only [bits6, List.cons_append, List.nil_append, List.drop_succ_cons, List.drop_zero, val8, List.getD_cons_zero, List.getD_cons_succ]
  exact two_eq _ _ _ _ _ (byte_eq _ _ (by omega)) (byte_eq _ _ (by omega))
theorem last2 (a b : UInt8) (n : Nat) (out : B) (hn : n % 4 = 0) (ha : alpha.idxOf a ≠ 64) (hb : alpha.idxOf b ≠ 64) : fin (urun ⟨(0 * 64 + alpha.idxOf a) * 64 + alpha.idxOf b, n + 1 + 1, 0, out⟩ [61, 61]) = (refUn [a, b, 61, 61]).map (out ++ ·) := by
  have ka := idx_le a
  have kb := idx_le b
  have e : padsOf [a, b, 61, 61] = 2 := rfl
  have e2 : idxs (([a, b, 61, 61] : B).take (([a, b, 61, 61] : B).length - 2)) = some [alpha.idxOf a, alpha.idxOf b] := by
    simp [idxs, ha, hb]
  have e3 : refUn [a, b, 61, 61] = if alpha.idxOf b % 16 = 0 then some [UInt8.ofNat ((alpha.idxOf a * 64 + alpha.idxOf b) / 16)] else none := by
    unfold refUn
    rw [if_neg (by simp), e, e2]
    simp only [List.flatMap_cons, List.flatMap_nil, List.append_nil]
    rw [bits12 _ _ (by omega) (by omega)]
    simp only [List.all_cons, List.all_nil, Bool.and_true]
    by_cases hz : alpha.idxOf b % 16 = 0
    · rw [if_pos hz, if_pos (by simp only [Bool.and_eq_true, beq_iff_eq]; omega)]
    · rw [if_neg hz, if_neg (by simp only [Bool.and_eq_true, beq_iff_eq]; omega)]
  rw [e3, urun, ustep_pad _ _ _ _ (by omega), ufin_mid _ _ _ _ _ (by omega), Option.bind_some, urun, ustep_pad _ _ _ _ (by omega), ufin_p2 _ _ _ (by omega)]
  by_cases hz : alpha.idxOf b % 16 = 0
  · rw [if_pos hz, if_neg (by omega), Option.bind_some, fin_some _ (by show (n + 1 + 1 + 1 + 1) % 4 = 0; omega), byte_eq ((alpha.idxOf a * 64 + alpha.idxOf b) / 16) ((((0 * 64 + alpha.idxOf a) * 64 + alpha.idxOf b) * 64 + 0) * 64 / 65536) (by omega)]
    rfl
  · rw [if_neg hz, if_pos (by omega)]
    rfl
theorem last1 (a b c : UInt8) (n : Nat) (out : B) (hn : n % 4 = 0) (ha : alpha.idxOf a ≠ 64) (hb : alpha.idxOf b ≠ 64) (hc : alpha.idxOf c ≠ 64) : fin (urun ⟨((0 * 64 + alpha.idxOf a) * 64 + alpha.idxOf b) * 64 + alpha.idxOf c, n + 1 + 1 + 1, 0, out⟩ [61]) = (refUn [a, b, c, 61]).map (out ++ ·) := by
  have ka := idx_le a
  have kb := idx_le b
  have kc := idx_le c
  have hc1 : c ≠ 61 := by rintro rfl; exact hc (by decide)
  have e : padsOf [a, b, c, 61] = 1 := by simp [padsOf, hc1]
  have e2 : idxs (([a, b, c, 61] : B).take (([a, b, c, 61] : B).length - 1)) = some [alpha.idxOf a, alpha.idxOf b, alpha.idxOf c] := by
    simp [idxs, ha, hb, hc]
  have e3 : refUn [a, b, c, 61] = if alpha.idxOf c % 4 = 0 then some [UInt8.ofNat (((alpha.idxOf a * 64 + alpha.idxOf b) * 64 + alpha.idxOf c) / 1024), UInt8.ofNat (((alpha.idxOf a * 64 + alpha.idxOf b) * 64 + alpha.idxOf c) / 4)] else none := by
    unfold refUn
    rw [if_neg (by simp), e, e2]
    simp only [List.flatMap_cons, List.flatMap_nil, List.append_nil]
    rw [bits18 _ _ _ (by omega) (by omega) (by omega)]
    simp only [List.all_cons, List.all_nil, Bool.and_true]
    by_cases hz : alpha.idxOf c % 4 = 0
    · rw [if_pos hz, if_pos (by simp only [Bool.and_eq_true, beq_iff_eq]; omega)]
    · rw [if_neg hz, if_neg (by simp only [Bool.and_eq_true, beq_iff_eq]; omega)]
  rw [e3, urun, ustep_pad _ _ _ _ (by omega), ufin_p1 _ _ _ (by omega)]
  by_cases hz : alpha.idxOf c % 4 = 0
  · rw [if_pos hz, if_neg (by omega), Option.bind_some, fin_some _ (by show (n + 1 + 1 + 1 + 1) % 4 = 0; omega), byte_eq (((alpha.idxOf a * 64 + alpha.idxOf b) * 64 + alpha.idxOf c) / 1024) ((((0 * 64 + alpha.idxOf a) * 64 + alpha.idxOf b) * 64 + alpha.idxOf c) * 64 / 65536) (by omega), byte_eq (((alpha.idxOf a * 64 + alpha.idxOf b) * 64 + alpha.idxOf c) / 4) ((((0 * 64 + alpha.idxOf a) * 64 + alpha.idxOf b) * 64 + alpha.idxOf c) * 64 / 256) (by omega)]
    rfl
  · rw [if_neg hz, if_pos (by omega)]
    rfl
theorem last_four (a b c d : UInt8) (n : Nat) (out : B) (hn : n % 4 = 0) (hw : ∀ x ∈ [a, b, c, d], isWs x = false) : fin (urun ⟨0, n, 0, out⟩ [a, b, c, d]) = (refUn [a, b, c, d]).map (out ++ ·) := by
  have wa := hw a (by simp)
  have wb := hw b (by simp)
  have wc := hw c (by simp)
  have wd := hw d (by simp)
  have bad : ∀ _ : Nat, idxs (([a, b, c, d] : B).take (([a, b, c, d] : B).length - padsOf [a, b, c, d])) = none → refUn [a, b, c, d] = none := by
    intro _ h
    unfold refUn
    rw [if_neg (by simp), h]
  have hp := padsOf_le [a, b, c, d]
  by_cases ha : alpha.idxOf a = 64
  · rw [urun, ustep_bad _ _ _ _ wa ha (.inl (by omega)), bad 0]
    · rfl
    · have e : ∃ k, ([a, b, c, d] : B).length - padsOf [a, b, c, d] = k + 1 := ⟨3 - padsOf [a, b, c, d], by simp only [List.length_cons, List.length_nil]; omega⟩
      obtain ⟨k, hk⟩ := e
      rw [hk, List.take_succ_cons, idxs, if_pos ha]
  rw [urun, ustep_good _ _ _ _ ha, ufin_mid _ _ _ _ _ (by omega), Option.bind_some]
  by_cases hb : alpha.idxOf b = 64
  · rw [urun, ustep_bad _ _ _ _ wb hb (.inl (by omega)), bad 0]
    · rfl
    · have e : ∃ k, ([a, b, c, d] : B).length - padsOf [a, b, c, d] = k + 1 + 1 := ⟨2 - padsOf [a, b, c, d], by simp only [List.length_cons, List.length_nil]; omega⟩
      obtain ⟨k, hk⟩ := e
      rw [hk, List.take_succ_cons, List.take_succ_cons, idxs, if_neg ha, idxs, if_pos hb]
      rfl
  rw [urun, ustep_good _ _ _ _ hb, ufin_mid _ _ _ _ _ (by omega), Option.bind_some]
  have ka := idx_le a
  have kb := idx_le b
  have kc := idx_le c
  have kd := idx_le d
  by_cases hd : d = 61
  · subst hd
    by_cases hc : c = 61
    · subst hc
      exact last2 a b n out hn ha hb
    · by_cases hc2 : alpha.idxOf c = 64
      · rw [urun, ustep_bad _ _ _ _ wc hc2 (.inr hc), bad 0]
        · rfl
        · have e : padsOf [a, b, c, 61] = 1 := by simp [padsOf, hc]
          rw [e]
          simp [idxs, ha, hb, hc2]
      · rw [urun, ustep_good _ _ _ _ hc2, ufin_mid _ _ _ _ _ (by omega), Option.bind_some]
        exact last1 a b c n out hn ha hb hc2
  · have e : padsOf [a, b, c, d] = 0 := by simp [padsOf, hd]
    rw [e] at bad
    by_cases hc2 : alpha.idxOf c = 64
    · rw [bad 0 (by simp [idxs, ha, hb, hc2])]
      by_cases hc : c = 61
      · subst hc
        rw [urun, ustep_pad _ _ _ _ (by omega), ufin_mid _ _ _ _ _ (by omega), Option.bind_some, urun, ustep_late _ _ _ _ _ (by omega) wd (.inl hd)]; rfl
      · rw [urun, ustep_bad _ _ _ _ wc hc2 (.inr hc)]; rfl
    · rw [urun, ustep_good _ _ _ _ hc2, ufin_mid _ _ _ _ _ (by omega), Option.bind_some]
      by_cases hd2 : alpha.idxOf d = 64
      · rw [bad 0 (by simp [idxs, ha, hb, hc2, hd2]), urun, ustep_bad _ _ _ _ wd hd2 (.inr hd)]; rfl
      · have e2 : idxs (([a, b, c, d] : B).take (([a, b, c, d] : B).length - 0)) = some [alpha.idxOf a, alpha.idxOf b, alpha.idxOf c, alpha.idxOf d] := by
          simp [idxs, ha, hb, hc2, hd2]
        have e3 : refUn [a, b, c, d] = some [UInt8.ofNat ((((alpha.idxOf a * 64 + alpha.idxOf b) * 64 + alpha.idxOf c) * 64 + alpha.idxOf d) / 65536), UInt8.ofNat ((((alpha.idxOf a * 64 + alpha.idxOf b) * 64 + alpha.idxOf c) * 64 + alpha.idxOf d) / 256), UInt8.ofNat (((alpha.idxOf a * 64 + alpha.idxOf b) * 64 + alpha.idxOf c) * 64 + alpha.idxOf d)] := by
          unfold refUn
          rw [if_neg (by simp), e, e2]
          have e4 : [alpha.idxOf a, alpha.idxOf b, alpha.idxOf c, alpha.idxOf d].flatMap bits6 = bits6 (alpha.idxOf a) ++ (bits6 (alpha.idxOf b) ++ (bits6 (alpha.idxOf c) ++ (bits6 (alpha.idxOf d) ++ []))) := by simp
          simp only
          rw [e4, bits24 _ _ _ _ (by omega) (by omega) (by omega) (by omega), eights0 [] (by simp)]
          rfl
        rw [e3, urun, ustep_good _ _ _ _ hd2, ufin3 _ _ _ _ (by omega), Option.bind_some, fin_some _ (by show (n + 1 + 1 + 1 + 1) % 4 = 0; omega)]
        simp
theorem run_ref : ∀ (k : Nat) (l : B), l.length ≤ k → (∀ x ∈ l, isWs x = false) → ∀ (n : Nat) (out : B), n % 4 = 0 → fin (urun ⟨0, n, 0, out⟩ l) = (refUn l).map (out ++ ·)
  | k, [], _, _, n, out, hn => by
    have : refUn [] = some [] := by
      unfold refUn
      simp [idxs, eights0]
    rw [this]
    simp [urun, fin, hn]
  | k, [a], _, hw, n, out, hn => by
    have : refUn [a] = none := by simp [refUn]
    rw [this]
    cases h : urun ⟨0, n, 0, out⟩ [a] with
    | none => rfl
    | some u =>
      have := urun_n _ _ _ hw h
      simp only [List.length_cons, List.length_nil] at this
      simp only [fin, Option.bind_some]
      exact (if_pos (by omega)).trans rfl
  | k, [a, b], _, hw, n, out, hn => by
    have : refUn [a, b] = none := by simp [refUn]
    rw [this]
    cases h : urun ⟨0, n, 0, out⟩ [a, b] with
    | none => rfl
    | some u =>
      have := urun_n _ _ _ hw h
      simp only [List.length_cons, List.length_nil] at this
      simp only [fin, Option.bind_some]
      exact (if_pos (by omega)).trans rfl
  | k, [a, b, c], _, hw, n, out, hn => by
    have : refUn [a, b, c] = none := by simp [refUn]
    rw [this]
    cases h : urun ⟨0, n, 0, out⟩ [a, b, c] with
    | none => rfl
    | some u =>
      have := urun_n _ _ _ hw h
      simp only [List.length_cons, List.length_nil] at this
      simp only [fin, Option.bind_some]
      exact (if_pos (by omega)).trans rfl
  | k, [a, b, c, d], _, hw, n, out, hn => last_four a b c d n out hn hw
  | 0, a :: b :: c :: d :: e :: r, hk, _, _, _, _ => absurd hk (by simp)
  | k + 1, a :: b :: c :: d :: e :: r, hk, hw, n, out, hn => by
    by_cases h4 : (e :: r).length % 4 = 0
    · rw [urun_four a b c d (e :: r) n out hn hw (by simp), refUn_four a b c d (e :: r) (by simp only [List.length_cons] at h4 ⊢; omega) h4]
      split
      · rfl
      · rw [run_ref k (e :: r) (by simp only [List.length_cons] at hk ⊢; omega) (fun x hx => hw x (by simp [List.mem_cons.1 hx])) (n + 4) _ (by omega)]
        cases refUn (e :: r) with
        | none => rfl
        | some x => simp
    · have : refUn (a :: b :: c :: d :: e :: r) = none := by
        unfold refUn
        rw [if_pos]
        simp only [List.length_cons] at h4 ⊢
        omega
      rw [this]
      cases h : urun ⟨0, n, 0, out⟩ (a :: b :: c :: d :: e :: r) with
      | none => rfl
      | some u =>
        have := urun_n _ _ _ hw h
        simp only [List.length_cons] at this h4
        simp only [fin, Option.bind_some]
        exact (if_pos (by omega)).trans rfl
theorem refUn_eq (s : B) : refUn (s.filter (fun c => !isWs c)) = unpack s := by
  have h := run_ref _ (s.filter (fun c => !isWs c)) (Nat.le_refl _) (fun x hx => by simpa using (List.mem_filter.1 hx).2) 0 [] rfl
  rw [urun_filter] at h
  have e : (refUn (s.filter (fun c => !isWs c))).map (([] : B) ++ ·) = refUn (s.filter (fun c => !isWs c)) := by
    cases refUn (s.filter (fun c => !isWs c)) <;> rfl
  rw [e] at h
  exact h.symm
end Go.Proofs.YtignjjnflcpiiabGreatDoor
